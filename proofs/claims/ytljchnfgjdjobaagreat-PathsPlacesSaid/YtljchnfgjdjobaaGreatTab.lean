/- Part 2 of 18 of the proof. -/
import Derived.Test.YtljchnfgjdjobaaGreatTaa
import Derived.RangeFuncNested
set_option linter.unusedVariables false
set_option linter.unusedSimpArgs false
set_option linter.defProp false
set_option linter.unusedSectionVars false
section
namespace Go.aL
open Go
def Perm.entry (A : Perm) (loose : Bool) (n : Nat) : Prop := (∀ id, id < n → ∃ m, m ≤ n ∧ A.top id = some m) ∧ ∀ id, n ≤ id → A.top id = if loose = true then none else some (id + 1)
def kh (loose : Bool) (P : Program) (f : FuncId) (args : List AV) (H : List aa) (R : AV → List aa → Prop) : Prop :=
 ∀ A M L w (vs : Array Value) O, A.entry loose H.length → vs.size = args.length → St A M L w H (fun t => vs.getD t undef) (fun t => args.getD t .any) O →
  ((callFunc f vs).run P w = .ok (.enter f vs) w ∧ Calls P f vs w fun e w' => ∃ v r H' M' L' O', e = .returned v ∧ R r H' ∧ St A M' L' w' H' (fe (fun _ => undef) 0 v) (fe (fun _ => .any) 0 r) O' ∧ Ext A M w M' w' ∧ L <+: L') ∨
  (∃ v w' r H' M' L' O', (callFunc f vs).run P w = .ok (.value v) w' ∧ R r H' ∧ St A M' L' w' H' (fe (fun _ => undef) 0 v) (fe (fun _ => .any) 0 r) O' ∧ Ext A M w M' w' ∧ L <+: L')
def au (P : Program) (f : FuncId) (args : List AV) (H : List aa) (R : AV → List aa → Prop) : Prop := kh false P f args H R
def tE (P : Program) (f : FuncId) (args : List AV) (H : List aa) (R : AV → List aa → Prop) : Prop := kh true P f args H R
theorem kh.mono {b : Bool} {P : Program} {f : FuncId} {args : List AV} {H : List aa} {R R' : AV → List aa → Prop} (h : kh b P f args H R) (hr : ∀ r H', R r H' → R' r H') : kh b P f args H R' := by
 intro A M L w vs O hA hs bQ
 rcases h A M L w vs O hA hs bQ with ⟨h1, h2⟩ | ⟨v, w', r, H', M', L', O', h1, h2, h3⟩
 ·exact .inl ⟨h1, h2.mono fun e w' ⟨v, r, H', M', L', O', h1, h2, h3⟩ => ⟨v, r, H', M', L', O', h1, hr _ _ h2, h3⟩⟩
 ·exact .inr ⟨v, w', r, H', M', L', O', h1, hr _ _ h2, h3⟩
theorem au.mono {P : Program} {f : FuncId} {args : List AV} {H : List aa} {R R' : AV → List aa → Prop} (h : au P f args H R) (hr : ∀ r H', R r H' → R' r H') : au P f args H R' := kh.mono h hr
theorem tE.mono {P : Program} {f : FuncId} {args : List AV} {H : List aa} {R R' : AV → List aa → Prop} (h : tE P f args H R) (hr : ∀ r H', R r H' → R' r H') : tE P f args H R' := kh.mono h hr
theorem au.body {P : Program} {f : FuncId} {args : List AV} {H : List aa} {R : AV → List aa → Prop} (h : au P f args H R) (he : ∀ (as : Array Value) (w : World), (callFunc f as).run P w = .ok (.enter f as) w)
 {A : Perm} {M : Mem} {L : List Nat} {w : World} {vs : Array Value} {O : Pos → Option Nat} (hA : A.entry false H.length) (hs : vs.size = args.length) (bQ : St A M L w H (fun t => vs.getD t undef) (fun t => args.getD t .any) O) :
 Calls P f vs w fun e w' => ∃ v r H' M' L' O', e = .returned v ∧ R r H' ∧ St A M' L' w' H' (fe (fun _ => undef) 0 v) (fe (fun _ => .any) 0 r) O' ∧ Ext A M w M' w' ∧ L <+: L' := by
 rcases h A M L w vs O hA hs bQ with ⟨h1, h2⟩ | ⟨v, w', r, H', M', L', O', h1, h2, h3⟩
 ·exact h2
 ·rw [he] at h1; cases h1
structure Px where
 prog : Program
 lo : Option Nat
instance : Coe Program Px := ⟨fun P => ⟨P, none⟩⟩
def dW (P : Px) (f : FuncId) (args : List AV) (H : List aa) (R : AV → List aa → Prop) : Prop :=
 match P.lo with
 | none => au P.prog f args H R
 | some l => au P.prog f args H R ∨ (l ≤ H.length ∧ tE P.prog f args H R)
theorem dW.of {P : Px} {f : FuncId} {args : List AV} {H : List aa} {R : AV → List aa → Prop} (h : au P.prog f args H R) : dW P f args H R := by
 unfold dW; split
 ·exact h
 ·exact .inl h
theorem dW.mono {P : Px} {f : FuncId} {args : List AV} {H : List aa} {R R' : AV → List aa → Prop} (h : dW P f args H R) (hr : ∀ r H', R r H' → R' r H') : dW P f args H R' := by
 unfold dW at *; split at h
 ·exact h.mono hr
 ·rcases h with h | ⟨h1, h2⟩
  ·exact .inl (h.mono hr)
  ·exact .inr ⟨h1, h2.mono hr⟩
def fa (loose : Bool) (P : Program) (id : Nat) (args : List AV) (H : List aa) (R : AV → List aa → Prop) : Prop :=
 ∀ A M L w (vs : Array Value) O b, A.entry loose H.length → vs.size = args.length → L[id]? = some b → St A M L w H (fun t => vs.getD t undef) (fun t => args.getD t .any) O →
  ∃ fn tmps as bd, (Instr.yield b vs).run P w = .ok (.round b fn tmps as bd) w ∧ RoundIn Fence.wide 0 P b fn tmps as bd w fun e w' =>
   ∃ v r H' M' L' O', e = .returned v ∧ R r H' ∧ St A M' L' w' H' (fe (fun _ => undef) 0 v) (fe (fun _ => .any) 0 r) O' ∧ Ext A M w M' w' ∧ L <+: L'
theorem fa.mono {b : Bool} {P : Program} {id : Nat} {args : List AV} {H : List aa} {R R' : AV → List aa → Prop} (h : fa b P id args H R) (hr : ∀ r H', R r H' → R' r H') : fa b P id args H R' := by
 intro A M L w vs O c hA hs hc bQ
 obtain ⟨fn, tmps, as, bd, h1, h2⟩ := h A M L w vs O c hA hs hc bQ
 exact ⟨fn, tmps, as, bd, h1, h2.mono fun e w' ⟨v, r, H', M', L', O', h1, h2, h3⟩ => ⟨v, r, H', M', L', O', h1, hr _ _ h2, h3⟩⟩
def jv (P : Program) (id : Nat) (args : List AV) (H : List aa) (R : AV → List aa → Prop) : Prop := fa false P id args H R
def LO (P : Program) (id : Nat) (args : List AV) (H : List aa) (R : AV → List aa → Prop) : Prop := fa true P id args H R
def lr (P : Px) (id : Nat) (args : List AV) (H : List aa) (R : AV → List aa → Prop) : Prop :=
 match P.lo with
 | none => jv P.prog id args H R
 | some l => jv P.prog id args H R ∨ (l ≤ H.length ∧ LO P.prog id args H R)
theorem lr.mono {P : Px} {id : Nat} {args : List AV} {H : List aa} {R R' : AV → List aa → Prop} (h : lr P id args H R) (hr : ∀ r H', R r H' → R' r H') : lr P id args H R' := by
 unfold lr at *; split at h
 ·exact fa.mono h hr
 ·rcases h with h | ⟨h1, h2⟩
  ·exact .inl (fa.mono h hr)
  ·exact .inr ⟨h1, fa.mono h2 hr⟩
def xp : List AV → List AV → Prop
 | [], [] => True
 | x :: xs, y :: ys => x.le y ∧ xp xs ys
 | _, _ => False
def aG (env : Env) (pass : Option Nat) : Nat → List IX → List AV
 | _, [] => []
 | j, .t s :: xs => (if pass = some j then get env s else (get env s).ae) :: aG env pass (j + 1) xs
 | j, .c v :: xs => v.ae :: aG env pass (j + 1) xs
def bf (args : List IX) (pass : Option Nat) : Option Nat :=
 match pass with
 | some j => match args[j]? with
   | some (.t s) => some s
   | _ => none
 | none => none
def cD (env : Env) (s : Option Nat) : Env := match s with | some d => (d, (get env d).ae) :: env | none => env
def oB (P : Px) (f : AV) (args : List IX) (pass : Option Nat) (env : Env) (H : List aa) (K : AV → Env → List aa → Prop) : Prop :=
 match f with
 | .fn (.func g) first cap => ∃ bP, xp (first.map AV.ae ++ aG env pass 0 args ++ cap.map AV.ae) bP ∧ dW P g bP H (fun r H' => K r (cD env (bf args pass)) H')
 | .mE id => ∃ bP, xp (aG env pass 0 args) bP ∧ lr P id bP H (fun r H' => K r (cD env (bf args pass)) H')
 | _ => False
def aM (kd : Nat) (x : AV) : Prop :=
 match kd, x with
 | 0, .str _ => True
 | 1, .ah => True
 | 1, .aq _ _ => True
 | 1, .bg _ _ _ _ => True
 | 1, .oo => True
 | 2, .iE => True
 | 2, .map _ => True
 | _, _ => False
def gr (env : Env) (x : Option IX) : Option AV := x.map (ap env)
def bt (P : Px) (o : bX) (dst : Option Nat) (env : Env) (H : List aa) (K : Env → List aa → Prop) : Prop :=
 match o with
 | .set x take => match dst with | some d => K (s8 env d x take) H | none => K env H
 | .pick c a b => eI (ap env c) fun q => (q = true → K (put dst (ap env a).ae env) H) ∧ (q = false → K (put dst (ap env b).ae env) H)
 | .bin op x y => cV op (ap env x) (ap env y) fun z => K (put dst z env) H
 | .shift op x y => dJ op (ap env x) (ap env y) fun z => K (put dst z env) H
 | .gP neq x y => cM neq (ap env x) (ap env y) fun z => K (put dst z env) H
 | .iU kd neq x => dc kd neq (ap env x) fun z => K (put dst z env) H
 | .un op x => yE op (ap env x) fun z => K (put dst z env) H
 | .box x => (ap env x).val = true ∧ ak (H.length + 1) ((ap env x).cells.map AV.ae) = true ∧ K (put dst (.ptr H.length 0) env) (H ++ [.cells ((ap env x).cells.map AV.ae)])
 | .lg x => (ap env x).val = true ∧ K (put dst (.aj (ap env x)) env) H
 | .qS m x => (ap env x).val = true ∧ (ap env x).cells.length = m ∧ (ap env x).cells.all AV.one = true ∧ K (put dst (.aj (ap env x)) env) H
 | .alloc z => ak (H.length + 1) (z.cells.map AV.ae) = true ∧ K (put dst (.ptr H.length 0) env) (H ++ [.cells (z.cells.map AV.ae)])
 | .build z ps => cj z.cells (ps.map fun q => (q.1, q.2.1, ap env q.2.2)) fun v => K (put dst v env) H
 | .buildSlice own esz z len ps => bk (List.replicate len (aT z)) esz (ps.map fun q => (q.1, ap env q.2)) fun xs => K (put dst (.aq own xs) env) H
 | .load sz a => aS sz (ap env a) H fun z => K (put dst z env) H
 | .sd sz esz a => aS sz (ap env a) H fun z => ff esz z H fun y H' => K (put dst y env) H'
 | .ee a => match dst, ap env a with
   | some d, .ptr id off => match H[id]? with
     | some (.cells es) => off < es.length ∧ K ((d, es.getD off .any) :: env) (H.set id (.cells (es.set off (es.getD off .any).ae)))
     | _ => False
   | _, _ => False
 | .store m a x => gR m (ap env a) (ap env x) H fun H' => K env H'
 | .mG m a x => match P.lo with | some l => gl l m (ap env a) (ap env x) H fun H' => K env H' | none => False
 | .eU a s => dK (ap env a) (get env s) H fun H' => K ((s, (get env s).ae) :: env) H'
 | .nilCheck x => bS (ap env x) fun z => K (put dst z env) H
 | .fieldAddr off sz x => al off sz (ap env x) fun z => K (put dst z env) H
 | .field off sz x => eJ off sz (ap env x) fun z => K (put dst z env) H
 | .indexAddr esz x i => (∀ own xs, ap env x = .aq own xs → ∀ z ∈ xs, z.cells.length = esz) ∧ aA esz (ap env x) (ap env i) fun z => K (put dst z env) H
 | .c8 x i => bI (ap env x) (ap env i) fun z => K (put dst z env) H
 | .dH n x i => bR n (ap env x) (ap env i) fun z => K (put dst z env) H
 | .oO esz x lo hi mx => (∀ own xs, ap env x = .aq own xs → ∀ z ∈ xs, z.cells.length = esz) ∧ fq esz (ap env x) (gr env lo) (gr env hi) (gr env mx) fun z => z = .aq esz [] ∧ K (put dst .oo env) H
 | .slice esz x lo hi mx => bB esz (ap env x) (gr env lo) (gr env hi) (gr env mx) fun z => K (put dst z env) H
 | .copy esz d s => jt esz (ap env d) (ap env s) H fun z H' => K (put dst z env) H'
 | .dI x lo hi => b8 (ap env x) (gr env lo) (gr env hi) fun z => K (put dst z env) H
 | .len kd x => aM kd (ap env x) ∧ eW (ap env x) H fun z => K (put dst z env) H
 | .append esz bytes s x => bF esz bytes (ap env s) (ap env x) fun zs => K (put dst (.aq esz zs) (cD env s.slot)) H
 | .sf esz bytes z n => fN esz bytes z (ap env n) H fun v H' => K (put dst v env) H'
 | .mH esz bytes n => iJ esz bytes (ap env n) fun v => K (put dst v env) H
 | .mI => K (put dst (.map H.length) env) (H ++ [.map []])
 | .lookup kd z m k ok => cc kd z (ap env m) (ap env k) ok H fun v => K (put dst v env) H
 | .j4 kd m k x => eZ kd (ap env m) (ap env k) (ap env x) H fun H' => K env H'
 | .fn f first cap => K (put dst (.fn f (first.map fun x => (ap env x).ae) (cap.map fun x => (ap env x).ae)) env) H
 | .extract x i => bD (ap env x) i fun z => K (put dst z env) H
 | .call f args pass => oB P (ap env f) args pass env H fun r aE H' => K (put dst r aE) H'
 | .eC k x => cr k (ap env x) fun z => K (put dst z env) H
 | .gh x => fz (ap env x) fun z => K (put dst z env) H
 | .bytesOf x => eM 1 (ap env x) fun z => K (put dst z env) H
 | .strOf x => jr (ap env x) fun z => K (put dst z env) H
 | .mx big a b => wv big (ap env a) (ap env b) fun z => K (put dst z env) H
 | .yC esz x => ff esz (ap env x) H fun z H' => K (put dst z env) H'
 | .AG esz z len ps => bk (List.replicate len (aT z)) esz (ps.map fun q => (q.1, ap env q.2)) fun xs => sq xs H fun v H' => K (put dst v env) H'
 | .iW esz bytes z s x => cG esz bytes z (ap env s) (ap env x) H fun v H' => K (put dst v env) H'
 | .mJ esz z x => gZ esz z (ap env x) H fun H' => K (put dst (.tuple []) env) H'
 | .never => False
def cQ (P : Program) (e : TypeId) : Option (Nat × AV) :=
 match dz P e, fy P e with
 | some esz, some z => if 0 < esz ∧ z.cells.length = esz ∧ z.val = true then some (esz, z) else none
 | _, _ => none
def yT (P : Program) (e : TypeId) : Option Nat := (P.info? e).map (·.bytes)
def Dm (z : AV) : Bool := z.cells.all fun y => match y with | .aq own _ => own == 0 | _ => true
def jT : Option Operand → Option (Option IX)
 | none => some none
 | some x => (aQ x).map some
def Iv (x y : Operand) : Bool := match x, y with | .tmp a, .tmp b => a == b | .const (.int .i64 a), .const (.int .i64 b) => a == b | _, _ => false
def cn (P : Program) (o : Oper) (fl : Nat) : Option bX :=
 match o.op with
 | .move x | .assign x => (aQ x).map fun i => .set i (fl == 1)
 | .pick c a b => match aQ c, aQ a, aQ b with
   | some c, some a, some b => some (.pick c a b)
   | _, _, _ => none
 | .binOp op t x y _ => match aQ x, aQ y with
   | some i, some j => match op with
     | .shl | .shr => some (.shift op i j)
     | .eql | .neq => match P.underlying t with
       | some .bool => some (.gP (op matches .neq) i j)
       | some (.int _) | some .string => some (.bin op i j)
       | some (.slice _) => match y with | .const (.slice none 0 0) => some (.iU 0 (op matches .neq) i) | _ => none
       | some (.pointer _) => match y with | .const (.pointer none) => some (.iU 1 (op matches .neq) i) | _ => none
       | some (.map _ _) => match y with | .const (.map none) => some (.iU 2 (op matches .neq) i) | _ => none
       | some (.func _ _ _) => match y with | .const .nilFunc => some (.iU 3 (op matches .neq) i) | _ => none
       | _ => none
     | _ => some (.bin op i j)
   | _, _ => none
 | .unOp op _ x => (aQ x).map fun i => .un op i
 | .box _ x => (aQ x).map fun i => if fl = 1 then .lg i else .box i
 | .alloc e => match fy P e with
   | some z => if z.val = true then some (.alloc z) else none
   | none => none
 | .build t ps => match Db P t with
   | some (z, places) => match eY places ps.toList with
     | some qs => if z.val = true then some (.build z qs) else none
     | none => none
   | none => none
 | .buildSlice t len ps => match P.underlying t with
   | some (.slice e) => match cQ P e, jm ps.toList with
     | some (esz, z), some qs => if len * esz ≤ 16777216 then some (if fl = 2 then .AG esz z len qs else .buildSlice (if fl = 1 then esz else 0) esz z len qs) else none
     | _, _ => none
   | _ => none
 | .load t a => match HO P t, aQ a with
   | some sz, some i => if fl = 1 then (if sz = none then some (.ee i) else none) else if 3000 < fl then some (.sd sz (fl - 3000) i) else some (.load sz i)
   | _, _ => none
 | .store t a x => match dz P t, aQ a, aQ x with
   | some m, some i, some j => if fl = 1 then (match j with | .t s => if m = 1 then some (.eU i s) else none | _ => none) else if fl = 2 then some (.mG m i j) else some (.store m i j)
   | _, _, _ => none
 | .nilCheck x => (aQ x).map .nilCheck
 | .fieldAddr s x f => match qU P s f, aQ x with
   | some (off, sz), some i => some (.fieldAddr off sz i)
   | _, _ => none
 | .field s x f => match qU P s f, aQ x with
   | some (off, sz), some i => some (.field off sz i)
   | _, _ => none
 | .indexAddr t x i => match P.underlying t, aQ x, aQ i with
   | some (.slice e), some j, some k => (dz P e).map fun esz => .indexAddr esz j k
   | _, _, _ => none
 | .index t x i => match P.underlying t, aQ x, aQ i with
   | some .string, some j, some k => some (.c8 j k)
   | some (.array n e), some j, some k => if HO P e = some none then some (.dH n j k) else none
   | _, _, _ => none
 | .slice t x lo hi mx => match P.underlying t, aQ x, jT lo, jT hi, jT mx with
   | some (.slice e), some i, some l, some h, some m => match dz P e with
     | some esz => if 0 < esz then some (if fl = 4 then .oO esz i l h m else .slice esz i l h m) else none
     | none => none
   | some .string, some i, some l, some h, some none => some (.dI i l h)
   | _, _, _, _, _ => none
 | .makeSlice t l c => match P.underlying t, aQ c with
   | some (.slice e), some k => match cQ P e, yT P e with
     | some (esz, z), some bytes => if 0 < bytes ∧ Dm z = true then (match l with
        | .const (.int .i64 0) => some (.mH esz bytes k)
        | _ => if Iv l c = true then some (.sf esz bytes z k) else none) else none
     | _, _ => none
   | _, _ => none
 | .makeMap _ none => some .mI
 | .lookup t m k ok => match P.underlying t, aQ m, aQ k with
   | some (.map kt et), some i, some j => match nH P kt, fy P et with
     | some kd, some z => some (.lookup kd z i j ok)
     | _, _ => none
   | _, _, _ => none
 | .mapUpdate t m k x => match P.underlying t, aQ m, aQ k, aQ x with
   | some (.map kt _), some i, some j, some y => (nH P kt).map fun kd => .j4 kd i j y
   | _, _, _, _ => none
 | .makeFunc f first cap => match fo first.toList, fo cap.toList with
   | some i, some j => some (.fn f i j)
   | _, _ => none
 | .extract x i => (aQ x).map fun j => .extract j i
 | .convert src dst x => match P.underlying src, P.underlying dst, aQ x with
   | some (.int _), some (.int k), some i => some (.eC k i)
   | some .string, some .string, some i => some (.gh i)
   | some .string, some (.slice e), some i => match P.underlying e with
     | some (.int .u8) => some (.bytesOf i)
     | _ => none
   | some (.slice e), some .string, some i => match P.underlying e with
     | some (.int .u8) => some (.strOf i)
     | _ => none
   | _, _, _ => none
 | .call c => match c.callee with
   | .value f => match aQ f, fo c.args.toList with
     | some i, some js => some (.call i js (if fl = 0 then none else some (fl - 1)))
     | _, _ => none
   | .builtin .len => match c.args.toList, c.argTypes.toList with
     | [x], [t] => match P.underlying t, aQ x with
       | some .string, some i => some (.len 0 i)
       | some (.slice _), some i => some (.len 1 i)
       | some (.map _ _), some i => some (.len 2 i)
       | _, _ => none
     | _, _ => none
   | .builtin .append => match c.args.toList, c.argTypes.toList with
     | [s, x], [t, t'] => if t = t' then (match P.underlying t, aQ s, aQ x with
        | some (.slice e), some i, some j => match cQ P e, yT P e with
          | some (esz, z), some bytes => if 0 < bytes then (if fl = 2 then (if Dm z = true then some (.iW esz bytes z i j) else none) else some (.append esz bytes i j)) else none
          | _, _ => none
        | _, _, _ => none) else none
     | _, _ => none
   | .builtin .max => match c.args.toList with
     | [x, y] => match aQ x, aQ y with
       | some i, some j => some (.mx true i j)
       | _, _ => none
     | _ => none
   | .builtin .min => match c.args.toList with
     | [x, y] => match aQ x, aQ y with
       | some i, some j => some (.mx false i j)
       | _, _ => none
     | _ => none
   | _ => none
 | _ => none
def pK (P : Program) (o : Oper) : bX :=
 match o.op with
 | .call c => match c.callee with
   | .builtin .copy => match c.args.toList, c.argTypes.toList with
     | [s, x], [t, _] => match P.underlying t, aQ s, aQ x with
        | some (.slice e), some i, some j => match dz P e with
          | some esz => .copy esz i j
          | none => .never
        | _, _, _ => .never
     | _, _ => .never
   | .builtin .clear => match c.args.toList, c.argTypes.toList with
     | [s], [t] => match P.underlying t, aQ s with
        | some (.slice e), some i => match cQ P e with
          | some (esz, z) => .mJ esz z i
          | none => .never
        | _, _ => .never
     | _, _ => .never
   | _ => .never
 | _ => .never
def mP (P : Program) (o : Oper) : bX :=
 match o.op with
 | .move x | .assign x => match aQ x, P.underlying o.type with
   | some i, some (.slice e) => match dz P e with
     | some esz => .yC esz i
     | none => .never
   | _, _ => .never
 | _ => .never
def kD (esz : Nat) (o : Oper) : bX :=
 match o.op with
 | .move x | .assign x => match aQ x with
   | some i => .yC esz i
   | none => .never
 | _ => .never
def LP (o : Oper) : Bool := match o.op with | .load _ _ => false | _ => true
def A0 (P : Program) (o : Oper) (fl : Nat) : bX := if fl = 3000 then mP P o else if 3000 < fl ∧ LP o = true then kD (fl - 3000) o else (cn P o fl).getD (pK P o)
end Go.aL
end
section
namespace Go.aL
open Go
section
variable {ro : Option Nat} {P : Program} {lo : Option Nat} {A : Perm} {n : Nat} {M : Mem} {L : List Nat} {w : World} {H : List aa} {env : Env} {O : Pos → Option Nat} {a : Act} {Q : Exit → Act → World → Prop} {K : Env → List aa → Prop}
theorem bL {o : Oper} (hf : Fr A n M L w H env O a) (hd : ∀ d, o.dst = some d → d < n)
 (h : ∃ r z, (execOp a.eval o).run P w = .ok (.value r) w ∧ aR M L r z ∧ K (put o.dst z env) H ∧ ∀ own xs, z = .aq own xs → own = 0) : o.wpIn (wf ro) 0 P a w (mC A n M L w K) Q := by
 obtain ⟨r, z, h1, h2, h3, h4⟩ := h
 exact wp_pure hf hd h1 h2 h4 h3
theorem aV {s : Sem Value} {r : Value} {w' : World} (h : s.run P w = .ok r w') : (do pure (Next.value (← s)) : Sem Next).run P w = .ok (.value r) w' := by
 simp only [Sem.run_bind, h, Result.andThen_ok, Sem.run_pure]
theorem pL {s : Sem Unit} {w' : World} (h : s.run P w = .ok () w') : (do s; pure Next.skip : Sem Next).run P w = .ok .skip w' := by
 simp only [Sem.run_bind, h, Result.andThen_ok, Sem.run_pure]
theorem nK {o : Oper} (hf : Fr A n M L w H env O a) (hd : ∀ d, o.dst = some d → d < n) {r : Value} {z : AV} {w' : World} {M' : Mem} {L' : List Nat} {H' : List aa} (bH : (execOp a.eval o).run P w = .ok (.value r) w')
 (hr : aR M' L' r z) (hz : ∀ own xs, z = .aq own xs → own = 0) (bQ : St A M' L' w' H' (fun t => a.tmps.getD t undef) (get env) O) (ct : Ext A M w M' w') (hL : L <+: L') (hK : K (put o.dst z env) H') : o.wpIn (wf ro) 0 P a w (mC A n M L w K) Q := by
 obtain ⟨O', oS⟩ := (hf.mono bQ ct).oq hd hr hz
 exact c9 bH ⟨M', L', H', _, O', hK, oS, ct, hL⟩
theorem uy {o : Oper} {aE : Env} {O' : Pos → Option Nat} (hf : Fr A n M L w H env O a) (hd : ∀ d, o.dst = some d → d < n) {r : Value} {z : AV} {w' : World} {M' : Mem} {ob : Option Nat} (bH : (execOp a.eval o).run P w = .ok (.value r) w')
 (hr : aR M' L r z) (K7 : bc M' w' r z ob) (bQ : St A M' L w' H (fun t => a.tmps.getD t undef) (get aE) O') (ct : Ext A M w M' w') (h1 : ∀ q b, ob = some b → O' q ≠ some b) (h2 : ∀ b, ob = some b → b ∉ L ∧ b < w'.heap.size ∧ A b) (hK : K (put o.dst z aE) H) : o.wpIn (wf ro) 0 P a w (mC A n M L w K) Q := by
 have oS : Fr A n M' L w' H aE O' a := ⟨bQ, hf.size, hf.defers.ext ct⟩
 refine c9 bH ?_
 cases fO : o.dst with
 | none => rw [fO] at hK; exact ⟨M', L, H, _, O', hK, oS, ct, List.prefix_refl L⟩
 | some d =>
   rw [fO] at hK
   exact ⟨M', L, H, _, _, hK, oS.C7 (hd d fO) hr ob K7 (fun q b hb hq => absurd hq (h1 q b hb)) h2, ct, List.prefix_refl L⟩
theorem xq {o : Oper} {x : Operand} (ho : o.op = .move x ∨ o.op = .assign x) {i : IX} (hc : aQ x = some i) {take : Bool} (hf : Fr A n M L w H env O a) (hd : ∀ d, o.dst = some d → d < n)
 (h : bt ⟨P, lo⟩ (.set i take) o.dst env H K) : o.wpIn (wf ro) 0 P a w (mC A n M L w K) Q := by
 have bH : (execOp a.eval o).run P w = .ok (.value (a.eval x)) w := by
  rcases ho with ho | ho <;> simp [execOp, ho]
 have hr := hf.eval hc
 simp only [bt] at h
 cases fO : o.dst with
 | none =>
   rw [fO] at h
   refine c9 bH ⟨M, L, H, env, O, h, ?_, Ext.refl A M w, List.prefix_refl L⟩
   rw [fO]; exact hf
 | some d =>
   rw [fO] at h
   have TV := hd d fO
   have h : K (s8 env d i take) H := h
   unfold s8 at h
   split at h
   ·rename_i s _
    -- the list moves
    cases x with
    | tmp t =>
      have hts : t = s := by simpa [aQ] using hc
      subst hts
      have mN := hf.st.oq t (v := a.tmps.getD t undef) (x := (get env t).ae) (hf.st.env t).ae (AV.bJ _)
      have TI : fe (fun t => a.tmps.getD t undef) t (a.tmps.getD t undef) = fun t => a.tmps.getD t undef := by funext t'; simp only [fe]; split; rename_i e0; rw [e0]; rfl
      rw [TI] at mN
      have ES : Fr A n M L w H ((t, (get env t).ae) :: env) (dU O (.t t) none) a := ⟨mN, hf.size, hf.defers⟩
      have sr := ES.C7 TV (v := a.tmps.getD t undef) (x := get env t) (hf.st.env t) (O (.t t)) (hf.st.gJ t) (fun p b hb hp => by
       simp only [dU] at hp
       split at hp
       ·cases hp
       ·rename_i n'; exact absurd (hf.st.bZ _ _ b hp hb) n') (fun b hb => ⟨hf.st.ch _ b hb, hf.st.eS _ b hb, hf.st.Oa _ b hb⟩)
      rw [← fO] at sr
      exact c9 bH ⟨M, L, H, _, _, h, sr, Ext.refl A M w, List.prefix_refl L⟩
    | const v => simp only [aQ] at hc; obtain ⟨y, _, hy⟩ := Option.map_eq_some_iff.1 hc; cases hy
    | func f => simp [aQ] at hc
    | global g => simp [aQ] at hc
   ·have sr := hf.C7 TV hr.ae none (bc.free (AV.bJ _)) (fun p b e => by cases e) (fun b e => by cases e)
    rw [← fO] at sr
    exact c9 bH ⟨M, L, H, _, _, h, sr, Ext.refl A M w, List.prefix_refl L⟩
theorem uz {o : Oper} {t : TypeId} {x : Operand} (ho : o.op = .load t x) (ht : HO P t = some none) {i : IX} (hc : aQ x = some i) (hf : Fr A n M L w H env O a) (hd : ∀ d, o.dst = some d → d < n)
 (h : bt ⟨P, lo⟩ (.ee i) o.dst env H K) : o.wpIn (wf ro) 0 P a w (mC A n M L w K) Q := by
 have hr := hf.eval hc
 simp only [bt] at h
 split at h <;> try exact h.elim
 rename_i d id off fO hx
 split at h <;> try exact h.elim
 rename_i es bn
 obtain ⟨ot, hK⟩ := h
 rw [hx] at hr
 generalize hu : a.eval x = u at hr
 cases hr with
 | ptr b _ _ hl =>
 obtain ⟨cs, e, h1, h2, h3⟩ := eX hf.st bn hl
 have hlen := h2.length
 obtain ⟨r1, r2⟩ := eh (w := w) (m := 0) ht
 have yH : off < cs.toList.length := by omega
 have hcell := h3 off cs.toList[off] (by simp)
 have fp := h2.getD off
 have e0 : cs.toList.getD off undef = cs.toList[off] := by rw [List.getD_eq_getElem?_getD, List.getElem?_eq_getElem yH]; rfl
 rw [e0] at fp
 have bH : (execOp a.eval o).run P w = .ok (.value cs.toList[off]) w := by
  simp only [execOp, ho, hu]
  exact aV (by simp only [Instr.loadAt, Instr.sureAddr, loadVar, Sem.run_bind, Sem.run_pure, Result.andThen_ok, r1, Bool.false_eq_true, if_false, run_load, hcell])
 have bQ := hf.st.F5 bn hl ot
 have ES : Fr A n M L w (H.set id (.cells (es.set off (es.getD off .any).ae))) env (dU O (.c id off) none) a := ⟨bQ, hf.size, hf.defers⟩
 have K7 : bc M w cs.toList[off] (es.getD off .any) (O (.c id off)) := by
  have h0 := hf.st.gG id off
  have e3 : bK L w id off = cs.toList[off] := by unfold bK; simp only [hl, hcell]; rfl
  have e4 : bp H id off = es.getD off .any := by unfold bp; simp [bn]
  rwa [e3, e4] at h0
 have sr := ES.C7 (hd d fO) fp (O (.c id off)) K7 (fun p b hb hp => by
  simp only [dU] at hp
  split at hp
  ·cases hp
  ·rename_i n'; exact absurd (hf.st.bZ _ _ b hp hb) n') (fun b hb => ⟨hf.st.ch _ b hb, hf.st.eS _ b hb, hf.st.Oa _ b hb⟩)
 rw [← fO] at sr
 exact c9 bH ⟨M, L, _, _, _, hK, sr, Ext.refl A M w, List.prefix_refl L⟩
theorem wG {o : Oper} {t : TypeId} {x y : Operand} (ho : o.op = .store t x y) (ht : dz P t = some 1) {i : IX} {s : Nat} (hc : aQ x = some i) (hy : aQ y = some (.t s)) (hf : Fr A n M L w H env O a)
 (fO : o.dst = none) (h : bt ⟨P, lo⟩ (.eU i s) o.dst env H K) : o.wpIn (wf ro) 0 P a w (mC A n M L w K) Q := by
 have hr := hf.eval hc
 simp only [bt] at h
 have pA : y = .tmp s := by
  cases y with
  | tmp t => simp [aQ] at hy; rw [hy]
  | const v => simp only [aQ] at hy; obtain ⟨z, _, hz⟩ := Option.map_eq_some_iff.1 hy; cases hz
  | func f => simp [aQ] at hy
  | global g => simp [aQ] at hy
 subst pA
 obtain ⟨w', H', O', h1, h2, h3, h4⟩ := yI (P := P) hf.st ht h hr s rfl rfl
 have bH : (execOp a.eval o).run P w = .ok .skip w' := by
  simp only [execOp, ho]
  exact pL h1
 have sr : Fr A n M L w' H' ((s, (get env s).ae) :: env) O' (a.put o.dst undef) := by
  rw [fO]; exact ⟨h3, hf.size, hf.defers.ext h4⟩
 exact lh bH ⟨M, L, H', _, O', h2, sr, h4, List.prefix_refl L⟩
theorem yU {o : Oper} {t e : TypeId} {s x : Operand} (ho : o.op = .call { callee := .builtin .append, args := #[s, x], argTypes := #[t, t] }) (ht : P.underlying t = some (.slice e)) {esz bytes : Nat} {z : AV} (hz : cQ P e = some (esz, z)) (hb : yT P e = some bytes) (uo : 0 < bytes)
 {i j : IX} (hi : aQ s = some i) (hj : aQ x = some j) (hf : Fr A n M L w H env O a) (hd : ∀ d, o.dst = some d → d < n)
 (h : bt ⟨P, lo⟩ (.append esz bytes i j) o.dst env H K) : o.wpIn (wf ro) 0 P a w (mC A n M L w K) Q := by
 simp only [bt] at h
 have wH := hf.eval hi
 have Ym := hf.eval hj
 unfold cQ at hz
 split at hz <;> try cases hz
 rename_i esz' z' OD ou
 split at hz <;> cases hz
 rename_i hcond
 obtain ⟨h0, iI, sj⟩ := hcond
 obtain ⟨inf, iG, cZ⟩ := Option.map_eq_some_iff.1 OD
 obtain ⟨inf', sv, xi⟩ := Option.map_eq_some_iff.1 hb
 rw [iG] at sv; cases sv
 unfold fy at ou
 simp only [iG] at ou
 split at ou <;> try cases ou
 rename_i zv ul
 have tB : zv.cells.size = esz := by have := ((cA (M := M) (L := L) ou).fL sj).length; rw [iI] at this; simpa using this
 have LG : match i.slot with | some d => (fun t => a.tmps.getD t undef) d = a.eval s ∧ get env d = ap env i | none => ap env i = .ah := by
  cases s with
  | tmp t => simp [aQ] at hi; subst hi; exact ⟨rfl, rfl⟩
  | const v =>
    simp only [aQ] at hi
    obtain ⟨y, hy, rfl⟩ := Option.map_eq_some_iff.1 hi
    simp only [IX.slot, ap]
    have h2 := h
    simp only [ap, bF] at h2
    split at h2 <;> try exact h2.elim
    rename_i ft _
    unfold mc at ft
    split at ft
    ·rfl
    ·-- a constant is never an owned list
     exfalso
     unfold ofValue at hy
     split at hy
     ·obtain ⟨_, _, hq⟩ := Option.map_eq_some_iff.1 hy; cases hq
     ·unfold TF at hy; split at hy <;> cases hy
    ·cases ft
  | func f =>
    simp [aQ] at hi; subst hi
    simp only [ap, bF, mc] at h
  | global g => simp [aQ] at hi
 obtain ⟨r, w', M', O', ob, zs, g1, g2, g3, g4, g5, g6, g7, g8⟩ := AP (P := P) (ty := o.type) hf.st ht iG ul cZ xi tB h0 uo h i.slot wH LG Ym
 have bH : (execOp a.eval o).run P w = .ok (.value r) w' := by
  simp only [execOp, ho, resolve, invoke, builtin, Sem.run_bind, Sem.run_pure, Result.andThen_ok, List.map_toArray, List.map_cons, List.map_nil, g1]
 have C6 : kc (get env) i.slot = get (cD env i.slot) := by
  cases i.slot with
  | none => rfl
  | some d => rfl
 rw [C6] at g5
 exact uy hf hd bH g3 g4 g5 g6 g7 g8 g2
theorem wI {o : Oper} {t e : TypeId} {s x : Operand} (ho : o.op = .call { callee := .builtin .append, args := #[s, x], argTypes := #[t, t] }) (ht : P.underlying t = some (.slice e)) {esz bytes : Nat} {z : AV} (hz : cQ P e = some (esz, z)) (hb : yT P e = some bytes) (uo : 0 < bytes) (Iw : Dm z = true)
 {i j : IX} (hi : aQ s = some i) (hj : aQ x = some j) (hf : Fr A n M L w H env O a) (hd : ∀ d, o.dst = some d → d < n)
 (h : bt ⟨P, lo⟩ (.iW esz bytes z i j) o.dst env H K) : o.wpIn (wf ro) 0 P a w (mC A n M L w K) Q := by
 simp only [bt] at h
 have wH := hf.eval hi
 have Ym := hf.eval hj
 unfold cQ at hz
 split at hz <;> try cases hz
 rename_i esz' z' OD ou
 split at hz <;> cases hz
 rename_i hcond
 obtain ⟨h0, iI, sj⟩ := hcond
 obtain ⟨inf, iG, cZ⟩ := Option.map_eq_some_iff.1 OD
 obtain ⟨inf', sv, xi⟩ := Option.map_eq_some_iff.1 hb
 rw [iG] at sv; cases sv
 unfold fy at ou
 simp only [iG] at ou
 split at ou <;> try cases ou
 rename_i zv ul
 have Ip : ∀ y ∈ z.cells, ∀ own xs, y = .aq own xs → own = 0 := by
  intro y hy own xs e
  have := List.all_eq_true.1 Iw y hy
  subst e
  simpa using this
 obtain ⟨r, y, L', w', H', O', g1, g2, g3, g4, g5, g6, g7⟩ := yS (P := P) (ty := o.type) hf.st ht iG ul cZ xi h0 uo ou sj iI Ip h wH Ym
 have bH : (execOp a.eval o).run P w = .ok (.value r) w' := by
  simp only [execOp, ho, resolve, invoke, builtin, Sem.run_bind, Sem.run_pure, Result.andThen_ok, List.map_toArray, List.map_cons, List.map_nil, g1]
 have ES : Fr A n M L' w' H' env O' a := ⟨g5, hf.size, hf.defers.ext g6⟩
 obtain ⟨O'', oS⟩ := ES.oq hd g2 g3
 exact c9 bH ⟨M, L', H', _, O'', g4, oS, g6, g7⟩
theorem ET : ∀ {xs ys : List AV}, xp xs ys → xs.length = ys.length ∧ ∀ t, (xs.getD t .any).le (ys.getD t .any)
 | [], [], _ => ⟨rfl, fun t => .inl rfl⟩
 | [], _ :: _, h => h.elim
 | _ :: _, [], h => h.elim
 | x :: xs, y :: ys, h => by
   obtain ⟨h1, h2⟩ := h
   obtain ⟨i1, i2⟩ := ET h2
   refine ⟨by simp [i1], fun t => ?_⟩
   cases t with
   | zero => simpa using h1
   | succ t => simpa using i2 t
theorem dt (env : Env) (pass : Option Nat) : ∀ (j : Nat) (xs : List IX), (aG env pass j xs).length = xs.length
 | _, [] => rfl
 | j, .t s :: xs => by simp [aG, dt env pass (j + 1) xs]
 | j, .c v :: xs => by simp [aG, dt env pass (j + 1) xs]
theorem iY (hf : Fr A n M L w H env O a) (pass : Option Nat) : ∀ {xs : List Operand} {is : List IX} (j : Nat), fo xs = some is → aK M L (xs.map a.eval) (aG env pass j is)
 | [], is, j, hc => by simp [fo] at hc; subst hc; exact .nil
 | x :: xs, is, j, hc => by
   unfold fo at hc
   split at hc
   ·rename_i i is' h1 h2
    cases hc
    have hr := hf.eval h1
    cases i with
    | t s =>
      refine .cons _ _ _ _ ?_ (iY hf pass (j + 1) h2)
      split
      ·exact hr
      ·exact hr.ae
    | c v => exact .cons _ _ _ _ hr.ae (iY hf pass (j + 1) h2)
   ·cases hc
def dk (A : Perm) (loose : Bool) (H : List aa) (L : List Nat) (O : Pos → Option Nat) (w : World) : Perm where
 wr := fun b => b ∈ L ∨ (∃ p, O p = some b) ∨ w.heap.size ≤ b
 top := fun id => if id < H.length then some (A.jc H.length id) else if loose = true then none else some (id + 1)
 ok := by
  intro id n h
  split at h
  ·rename_i h1
   cases h
   have := A.k9 h1
   omega
  ·split at h
   ·cases h
   ·cases h; omega
theorem kj (A : Perm) (loose : Bool) (H : List aa) (L : List Nat) (O : Pos → Option Nat) (w : World) : (dk A loose H L O w).entry loose H.length :=
 ⟨fun id h => ⟨A.jc H.length id, A.ud _ _, by simp only [dk, if_pos h]⟩, fun id h => by simp only [dk]; rw [if_neg (by omega)]⟩
theorem sw (A : Perm) (loose : Bool) (H : List aa) (L : List Nat) (O : Pos → Option Nat) (w : World) {id : Nat} (h : id < H.length) (len : Nat) : (dk A loose H L O w).jc len id = min (A.jc H.length id) len := by
 unfold Perm.jc
 simp only [dk, if_pos h]
 rfl
theorem St.narrow {ev : Nat → Value} {ea : Nat → AV} (loose : Bool) (h : St A M L w H ev ea O) : St (dk A loose H L O w) M L w H ev ea O :=
 { len := h.len, nodup := h.nodup, env := h.env, mem := h.mem, obj := h.obj, lt := h.lt, gJ := h.gJ, gG := h.gG, bZ := h.bZ, ch := h.ch, eS := h.eS,
   bC := fun id o ho => by
    rw [sw A loose H L O w (aN ho), Nat.min_eq_left (A.ud _ _)]
    exact h.bC id o ho
   La := fun b hb => .inl hb, Oa := fun p b hp => .inr (.inl ⟨p, hp⟩), fresh := fun b hb => .inr (.inr hb) }
theorem St.pM {ev : Nat → Value} {ea : Nat → AV} (h : St A M L w H ev ea O) (ev' : Nat → Value) (ea' : Nat → AV) (hr : ∀ t, aR M L (ev' t) (ea' t)) (hx : ∀ t own xs, ea' t = .aq own xs → own = 0) :
 St A M L w H ev' ea' (fun p => match p with | .t _ => none | .c id j => O (.c id j)) := by
 have hO : ∀ (p : Pos) (b : Nat), (match p with | .t _ => none | .c id j => O (.c id j)) = some b → O p = some b := by
  intro p b hp
  cases p with
  | t t => cases hp
  | c id j => exact hp
 exact { len := h.len, nodup := h.nodup, env := hr, mem := h.mem, obj := h.obj, bC := h.bC, lt := h.lt, gJ := fun t => bc.free (hx t), gG := h.gG, bZ := fun p q b hp hq => h.bZ p q b (hO p b hp) (hO q b hq),
         ch := fun p b hp => h.ch p b (hO p b hp), eS := fun p b hp => h.eS p b (hO p b hp), La := h.La, Oa := fun p b hp => h.Oa p b (hO p b hp), fresh := h.fresh }
theorem St.Ge {ev : Nat → Value} {ea : Nat → AV} (h : St A M L w H ev ea O) {Oc : Pos → Option Nat} (pt : Option Nat) (loose : Bool) (um : loose = true → ∀ id, H.length ≤ id → A.top id = none) (XH : ∀ b, (∃ p, Oc p = some b) → (∃ id j, O (.c id j) = some b) ∨ ∃ s, pt = some s ∧ O (.t s) = some b)
 {M' : Mem} {L' : List Nat} {w' : World} {H' : List aa} {v : Value} {r : AV} {O' : Pos → Option Nat}
 (h' : St (dk A loose H L Oc w) M' L' w' H' (fe (fun _ => undef) 0 v) (fe (fun _ => .any) 0 r) O') (ct : Ext (dk A loose H L Oc w) M w M' w') (hL : L <+: L') :
 ∃ O'', St A M' L' w' H' ev (kc ea pt) O'' ∧ Ext A M w M' w' ∧ aR M' L' v r ∧ bc M' w' v r (O' (.t 0)) ∧ (∀ q b, O' (.t 0) = some b → O'' q ≠ some b) ∧ (∀ b, O' (.t 0) = some b → b ∉ L' ∧ b < w'.heap.size ∧ A b) := by
 have hlen : H.length ≤ H'.length := by
  have := hL.length_le
  rw [h.len, h'.len] at this
  exact this
 have XI : ∀ b, dk A loose H L Oc w b → A b := by
  rintro b (hb | hb | hb)
  ·exact h.La b hb
  ·rcases XH b hb with ⟨id, j, hq⟩ | ⟨s, _, hq⟩
   ·exact h.Oa _ b hq
   ·exact h.Oa _ b hq
  ·exact h.fresh b hb
 let O'' : Pos → Option Nat := fun p => match p with
  | .t i => if pt = some i then none else O (.t i)
  | .c id j => O' (.c id j)
 -- what the caller keeps is not the callee's to write
 have j3 : ∀ i b, pt ≠ some i → O (.t i) = some b → ¬ dk A loose H L Oc w b := by
  rintro i b hi hb (hc | hc | hc)
  ·exact h.ch _ b hb hc
  ·rcases XH b hc with ⟨id, j, hq⟩ | ⟨s, hs, hq⟩
   ·have := h.bZ _ _ b hb hq; cases this
   ·have := h.bZ _ _ b hb hq; cases this; exact hi hs
  ·have := h.eS _ b hb; omega
 have Gf : ∀ i b, O'' (.t i) = some b → pt ≠ some i ∧ O (.t i) = some b := by
  intro i b hb
  simp only [O''] at hb
  split at hb
  ·cases hb
  ·rename_i hi; exact ⟨hi, hb⟩
 have P7 : ∀ i b p, O'' (.t i) = some b → O' p ≠ some b := by
  intro i b p hb hp
  obtain ⟨h1, h2⟩ := Gf i b hb
  exact j3 i b h1 h2 (h'.Oa p b hp)
 refine ⟨O'', { len := h'.len, nodup := h'.nodup, env := ?_, mem := h'.mem, obj := h'.obj, bC := ?_, lt := h'.lt, gJ := ?_, gG := h'.gG, bZ := ?_, ch := ?_, eS := ?_, La := fun b hb => XI b (h'.La b hb), Oa := ?_, fresh := fun b hb => h.fresh b (Nat.le_trans ct.size hb) }, ?_, ?_, ?_, ?_, ?_⟩
 ·intro t
  have := (h.env t).mono ct.kz hL
  cases pt with
  | none => exact this
  | some d =>
    simp only [kc, fe]
    split
    ·rename_i e0; subst e0; exact this.ae
    ·exact this
 ·intro id o ho
  have h1 := h'.bC id o ho
  have hl := aN ho
  by_cases e : id < H.length
  ·rw [sw A loose H L Oc w e] at h1
   exact aa.cE (Nat.le_trans (Nat.min_le_left _ _) (A.AE hlen id)) o h1
  ·by_cases hx : loose = true
   ·have e1 : A.jc H'.length id = H'.length := by unfold Perm.jc; rw [um hx id (by omega)]
    rw [e1]
    exact aa.cE (Perm.ud _ _ _) o h1
   ·have e1 : (dk A loose H L Oc w).jc H'.length id = min (id + 1) H'.length := by
     unfold Perm.jc
     simp only [dk, if_neg e, if_neg hx]
    rw [e1] at h1
    exact aa.cE (Nat.le_trans (Nat.min_le_left _ _) (A.k9 hl)) o h1
 ·intro t
  have h1 := h.gJ t
  cases pt with
  | none =>
    exact h1.mono fun b hb => ct.j3 b (h.eS _ b hb) (j3 t b (by simp) hb)
  | some d =>
    simp only [kc, fe, O'']
    by_cases e0 : t = d
    ·subst e0
     simp only [if_true]
     exact bc.free (AV.bJ _)
    ·have : ¬ (some d = some t) := fun e => e0 (by cases e; rfl)
     simp only [e0, this, if_false]
     exact h1.mono fun b hb => ct.j3 b (h.eS _ b hb) (j3 t b this hb)
 ·intro p q b hp hq
  cases p with
  | t i =>
    cases q with
    | t j => exact h.bZ _ _ b (Gf i b hp).2 (Gf j b hq).2
    | c id j => exact absurd hq (P7 i b _ hp)
  | c id j =>
    cases q with
    | t i => exact absurd hp (P7 i b _ hq)
    | c id' j' => exact h'.bZ _ _ b hp hq
 ·intro p b hp hm
  cases p with
  | t i => exact j3 i b (Gf i b hp).1 (Gf i b hp).2 (h'.La b hm)
  | c id j => exact h'.ch _ b hp hm
 ·intro p b hp
  cases p with
  | t i => exact Nat.lt_of_lt_of_le (h.eS _ b (Gf i b hp).2) ct.size
  | c id j => exact h'.eS _ b hp
 ·intro p b hp
  cases p with
  | t i => exact h.Oa _ b (Gf i b hp).2
  | c id j => exact XI b (h'.Oa _ b hp)
 ·exact ⟨ct.kz, ct.size, ct.os, ct.tape, ct.output, fun b hb hA => ct.j3 b hb (fun hc => hA (XI b hc)), ct.loops⟩
 ·simpa [fe] using h'.env 0
 ·simpa [fe] using h'.gJ 0
 ·intro q b hb hq
  cases q with
  | t i => exact P7 i b _ hq hb
  | c id j => have := h'.bZ _ _ b hb hq; cases this
 ·intro b hb
  exact ⟨h'.ch _ b hb, h'.eS _ b hb, XI b (h'.Oa _ b hb)⟩
theorem fA (env : Env) : ∀ (xs : List IX) (j t : Nat), (aG env none j xs).getD t .any = (match xs[t]? with | some x => (ap env x).ae | none => .any)
 | [], j, t => by simp [aG]
 | .t s :: xs, j, 0 => by simp [aG, ap]
 | .c v :: xs, j, 0 => by simp [aG, ap]
 | .t s :: xs, j, t + 1 => by
   simp only [aG, List.getD_cons_succ, List.getElem?_cons_succ]
   exact fA env xs (j + 1) t
 | .c v :: xs, j, t + 1 => by
   simp only [aG, List.getD_cons_succ, List.getElem?_cons_succ]
   exact fA env xs (j + 1) t
theorem fB (env : Env) (k : Nat) : ∀ (xs : List IX) (j t : Nat), (aG env (some k) j xs).getD t .any = (match xs[t]? with | some (.t s) => if k = j + t then get env s else (get env s).ae | some (.c v) => v.ae | none => .any)
 | [], j, t => by simp [aG]
 | .t s :: xs, j, 0 => by simp [aG]
 | .c v :: xs, j, 0 => by simp [aG]
 | .t s :: xs, j, t + 1 => by
   simp only [aG, List.getD_cons_succ, List.getElem?_cons_succ]
   rw [fB env k xs (j + 1) t, show j + 1 + t = j + (t + 1) by omega]
 | .c v :: xs, j, t + 1 => by
   simp only [aG, List.getD_cons_succ, List.getElem?_cons_succ]
   rw [fB env k xs (j + 1) t, show j + 1 + t = j + (t + 1) by omega]
theorem pN (vs : List Value) (t : Nat) : vs.toArray.getD t undef = vs.getD t undef := by
 simp [List.getD_eq_getElem?_getD]
theorem kE (xs ys zs : List AV) (t : Nat) : (xs ++ ys ++ zs).getD t .any = if t < xs.length then xs.getD t .any else if t < xs.length + ys.length then ys.getD (t - xs.length) .any else zs.getD (t - xs.length - ys.length) .any := by
 simp only [List.getD_eq_getElem?_getD, List.getElem?_append, List.length_append]
 by_cases h1 : t < xs.length
 ·rw [if_pos (by omega), if_pos h1, if_pos h1]
 ·by_cases h2 : t < xs.length + ys.length
  ·rw [if_pos h2, if_neg h1, if_neg h1, if_pos h2]
  ·rw [if_neg h2, if_neg h1, if_neg h2, Nat.sub_sub]
theorem qZ {o : Oper} {xs : List Operand} {js : List IX} (Tj : fo xs = some js) {pass : Option Nat} {fs cs : List Value} {first cap : List AV} (yV : aK M L fs first) (qX : aK M L cs cap) {bP : List AV}
 (hle : xp (first.map AV.ae ++ aG env pass 0 js ++ cap.map AV.ae) bP) (hf : Fr A n M L w H env O a) (hd : ∀ d, o.dst = some d → d < n) {loose : Bool} (um : loose = true → ∀ id, H.length ≤ id → A.top id = none) :
 ∃ Oc, (fs ++ xs.map a.eval ++ cs).length = bP.length ∧ St (dk A loose H L Oc w) M L w H (fun t => (fs ++ xs.map a.eval ++ cs).toArray.getD t undef) (fun t => bP.getD t .any) Oc ∧
  ∀ (v : Value) (r : AV) (H' : List aa) (M' : Mem) (L' : List Nat) (O' : Pos → Option Nat) (w' : World), K (put o.dst r (cD env (bf js pass))) H' → St (dk A loose H L Oc w) M' L' w' H' (fe (fun _ => undef) 0 v) (fe (fun _ => .any) 0 r) O' → Ext (dk A loose H L Oc w) M w M' w' → L <+: L' →
   mC A n M L w K (a.put o.dst v) w' := by
 have hrb := iY hf pass 0 Tj
 have Yn := iY hf none 0 Tj
 obtain ⟨hlen, Yo⟩ := ET hle
 obtain ⟨vs, wA⟩ : ∃ vs : List Value, vs = fs ++ xs.map a.eval ++ cs := ⟨_, rfl⟩
 have hrv : aK M L vs (first.map AV.ae ++ aG env pass 0 js ++ cap.map AV.ae) := by rw [wA]; exact (yV.cU.append hrb).append qX.cU
 have Yp : aK M L vs (first.map AV.ae ++ aG env none 0 js ++ cap.map AV.ae) := by rw [wA]; exact (yV.cU.append Yn).append qX.cU
 have pH : vs.length = bP.length := by rw [hrv.length]; exact hlen
 -- the callee's state
 have Yq : ∃ Oc, St A M L w H (fun t => vs.toArray.getD t undef) (fun t => bP.getD t .any) Oc ∧ (∀ b, (∃ p, Oc p = some b) → (∃ id j, O (.c id j) = some b) ∨ ∃ s, bf js pass = some s ∧ O (.t s) = some b) := by
  have hfree : ∀ t own zs, (first.map AV.ae ++ aG env none 0 js ++ cap.map AV.ae).getD t .any = .aq own zs → own = 0 := by
   intro t own zs he
   have hm : ∀ (l : List AV) q, (l.map AV.ae).getD q .any = .aq own zs → own = 0 := by
    intro l q hq
    rw [List.getD_eq_getElem?_getD, List.getElem?_map] at hq
    cases hx : l[q]? with
    | none => simp [hx] at hq
    | some y => simp [hx] at hq; exact AV.bJ y own zs hq
   rw [kE] at he
   split at he
   ·exact hm _ _ he
   ·split at he
    ·rw [fA] at he
     split at he
     ·exact AV.bJ _ own zs he
     ·cases he
    ·exact hm _ _ he
  have h0 := hf.st.pM (fun t => vs.toArray.getD t undef) (fun t => (first.map AV.ae ++ aG env none 0 js ++ cap.map AV.ae).getD t .any) (fun t => by rw [pN]; exact Yp.getD t) hfree
  -- then the one that is handed over
  have h1 : ∃ O1, St A M L w H (fun t => vs.toArray.getD t undef) (fun t => (first.map AV.ae ++ aG env pass 0 js ++ cap.map AV.ae).getD t .any) O1 ∧ (∀ b, (∃ p, O1 p = some b) → (∃ id j, O (.c id j) = some b) ∨ ∃ s, bf js pass = some s ∧ O (.t s) = some b) := by
   cases pC : bf js pass with
   | none =>
     refine ⟨_, h0.congr (fun _ => rfl) (fun t => ?_), ?_⟩
     ·rw [kE, kE, dt, dt]
      split
      ·rfl
      ·split
       ·cases pass with
        | none => rfl
        | some k =>
          rw [fA, fB]
          unfold bf at pC
          simp only at pC
          cases hx : js[t - (first.map AV.ae).length]? with
          | none => rfl
          | some x =>
            cases x with
            | c v => rfl
            | t s =>
              simp only
              rw [if_neg]
              ·rfl
              ·intro e
               rw [Nat.zero_add] at e
               rw [e, hx] at pC
               simp at pC
       ·rfl
     ·rintro b ⟨p, hp⟩
      cases p with
      | t t => cases hp
      | c id j => exact .inl ⟨id, j, hp⟩
   | some s =>
     -- where it stands
     obtain ⟨k, rfl, OE⟩ : ∃ k, pass = some k ∧ js[k]? = some (.t s) := by
      unfold bf at pC
      split at pC
      ·rename_i k
       split at pC
       ·rename_i s' TW; cases pC; exact ⟨k, rfl, TW⟩
       ·cases pC
      ·cases pC
     have EU : k < js.length := aN OE
     have hargs : ∀ (xs : List Operand) (is : List IX), fo xs = some is → ∀ (q s : Nat), is[q]? = some (IX.t s) → xs[q]? = some (Operand.tmp s) := by
      intro xs
      induction xs with
      | nil => intro is hc q s hq; simp [fo] at hc; subst hc; simp at hq
      | cons x xs ih =>
        intro is hc q s hq
        unfold fo at hc
        split at hc
        ·rename_i i is' e1 e2
         cases hc
         cases q with
         | zero =>
           simp at hq; subst hq
           cases x with
           | tmp t => simp [aQ] at e1; simp [e1]
           | const v => simp only [aQ] at e1; obtain ⟨_, _, hz⟩ := Option.map_eq_some_iff.1 e1; cases hz
           | func f => simp [aQ] at e1
           | global g => simp [aQ] at e1
         | succ q => simpa using ih is' e2 q s (by simpa using hq)
        ·cases hc
     have cI := hargs _ _ Tj k s OE
     have mn : vs[first.length + k]? = some (a.tmps.getD s undef) := by
      have LM : fs.length = first.length := yV.length
      rw [wA]
      rw [List.append_assoc, List.getElem?_append_right (by omega), LM, show first.length + k - first.length = k by omega, List.getElem?_append_left (by simpa using aN cI), List.getElem?_map, cI]
      rfl
     have mN := h0.put (first.length + k) (v := a.tmps.getD s undef) (x := get env s) (hf.st.env s) (O (.t s)) (hf.st.gJ s) (fun p b hb hp => by
      cases p with
      | t t => cases hp
      | c id j => have := hf.st.bZ _ _ b hb hp; cases this) (fun b hb => ⟨hf.st.ch _ b hb, hf.st.eS _ b hb, hf.st.Oa _ b hb⟩)
     refine ⟨_, mN.congr (fun t => ?_) (fun t => ?_), ?_⟩
     ·simp only [fe]
      split
      ·rename_i e; subst e
       rw [pN, List.getD_eq_getElem?_getD, mn]; rfl
      ·rfl
     ·simp only [fe]
      rw [kE, kE, dt, dt]
      simp only [List.length_map]
      by_cases e : t = first.length + k
      ·subst e
       rw [if_pos rfl, if_neg (by omega), if_pos (by omega), show first.length + k - first.length = k by omega, fB, OE]
       simp
      ·rw [if_neg e]
       split
       ·rfl
       ·split
        ·rw [fA, fB]
         cases hx : js[t - first.length]? with
         | none => rfl
         | some x =>
           cases x with
           | c v => rfl
           | t s =>
             simp only
             rw [if_neg (by omega)]
             rfl
        ·rfl
     ·rintro b ⟨p, hp⟩
      simp only [dU] at hp
      split at hp
      ·exact .inr ⟨s, rfl, hp⟩
      ·cases p with
       | t t => cases hp
       | c id j => exact .inl ⟨id, j, hp⟩
  obtain ⟨O1, g1, g2⟩ := h1
  obtain ⟨O2, g3, g4⟩ := g1.EN (ea' := fun t => bP.getD t .any) Yo
  exact ⟨O2, g3, fun b ⟨p, hp⟩ => g2 b ⟨p, g4 p b hp⟩⟩
 obtain ⟨Oc, bQ, XH⟩ := Yq
 refine ⟨Oc, by rw [← wA]; exact pH, by rw [← wA]; exact bQ.narrow loose, ?_⟩
 intro v r H' M' L' O' w' hK ln ct hL
 obtain ⟨O'', k1, k2, k3, k4, k5, k6⟩ := hf.st.Ge (bf js pass) loose um XH ln ct hL
 have C6 : kc (get env) (bf js pass) = get (cD env (bf js pass)) := by
  cases bf js pass <;> rfl
 rw [C6] at k1
 have oS : Fr A n M' L' w' H' (cD env (bf js pass)) O'' a := ⟨k1, hf.size, hf.defers.ext k2⟩
 show mC A n M L w K (a.put o.dst v) w'
 cases fO : o.dst with
 | none => rw [fO] at hK; exact ⟨M', L', H', _, O'', hK, oS, k2, hL⟩
 | some d =>
   rw [fO] at hK
   exact ⟨M', L', H', _, _, hK, oS.C7 (hd d fO) k3 (O' (.t 0)) k4 (fun q b hb hq => absurd hq (k5 q b hb)) k6, k2, hL⟩
theorem Dn {o : Oper} {c : Call} (ho : o.op = .call c) {f : Operand} (mr : c.callee = .value f) {i : IX} {js : List IX} (EV : aQ f = some i) (Tj : fo c.args.toList = some js) {pass : Option Nat}
 (hp : ∀ l, lo = some l → ∀ id, l ≤ id → A.top id = none) (hf : Fr A n M L w H env O a) (hd : ∀ d, o.dst = some d → d < n) (h : bt ⟨P, lo⟩ (.call i js pass) o.dst env H K) : o.wpIn (wf ro) 0 P a w (mC A n M L w K) Q := by
 simp only [bt] at h
 have Lc := hf.eval EV
 unfold oB at h
 split at h <;> try exact h.elim
 ·rename_i g first cap TX
  obtain ⟨bP, hle, hcall⟩ := h
  rw [TX] at Lc
  generalize hu : a.eval f = u at Lc
  cases Lc with
  | fn _ fs cs _ _ yV qX =>
  obtain ⟨loose, um, hcall⟩ : ∃ loose : Bool, (loose = true → ∀ id, H.length ≤ id → A.top id = none) ∧ kh loose P g bP H fun r H' => K (put o.dst r (cD env (bf js pass))) H' := by
   unfold dW at hcall
   split at hcall
   ·exact ⟨false, by simp, hcall⟩
   ·rename_i l hl
    rcases hcall with hcall | ⟨h1, hcall⟩
    ·exact ⟨false, by simp, hcall⟩
    ·exact ⟨true, fun _ id bn => hp l hl id (by omega), hcall⟩
  obtain ⟨Oc, pH, bQ, fin⟩ := qZ (K := K) (o := o) Tj yV qX hle hf hd um
  obtain ⟨vs, wA⟩ : ∃ vs : List Value, vs = fs ++ c.args.toList.map a.eval ++ cs := ⟨_, rfl⟩
  rw [← wA] at pH bQ
  have bH : (execOp a.eval o).run P w = (callFunc g vs.toArray).run P w := by
   simp only [execOp, ho, resolve, mr, Deferred.ofValue, hu, invoke, Sem.run_bind, Sem.run_pure, Result.andThen_ok]
   have e1 : (fs.toArray ++ c.args.map a.eval ++ cs.toArray) = vs.toArray := by
    apply Array.ext'; simp [wA]
   rw [e1]
  rcases hcall (dk A loose H L Oc w) M L w vs.toArray Oc (kj A loose H L Oc w) (by simpa using pH) bQ with ⟨h1, hc⟩ | ⟨v, w', r, H', M', L', O', h1, hK, ln, ct, hL⟩
  ·refine kA (bH.trans h1) (by intro d e; cases e) ⟨(fun h => by cases h), ?_⟩
   have ou : CallsIn (wf ro) (0 - 1) P g vs.toArray w _ := callsIn_wide.2 hc
   refine CallsIn.mono ou fun e w' he => ?_
   obtain ⟨v, r, H', M', L', O', rfl, hK, ln, ct, hL⟩ := he
   exact fin v r H' M' L' O' w' hK ln ct hL
  ·exact c9 (bH.trans h1) (fin v r H' M' L' O' w' hK ln ct hL)
 ·rename_i id TX
  obtain ⟨bP, hle, hcall⟩ := h
  rw [TX] at Lc
  generalize hu : a.eval f = u at Lc
  cases Lc with
  | mE b _ hl =>
  obtain ⟨loose, um, hcall⟩ : ∃ loose : Bool, (loose = true → ∀ id, H.length ≤ id → A.top id = none) ∧ fa loose P id bP H fun r H' => K (put o.dst r (cD env (bf js pass))) H' := by
   unfold lr at hcall
   split at hcall
   ·exact ⟨false, by simp, hcall⟩
   ·rename_i l hl
    rcases hcall with hcall | ⟨h1, hcall⟩
    ·exact ⟨false, by simp, hcall⟩
    ·exact ⟨true, fun _ id bn => hp l hl id (by omega), hcall⟩
  obtain ⟨Oc, pH, bQ, fin⟩ := qZ (K := K) (o := o) (fs := []) (cs := []) (first := []) (cap := []) Tj .nil .nil (by simpa using hle) hf hd um
  simp only [List.nil_append, List.append_nil] at pH bQ
  obtain ⟨fn, tmps, as, bd, h1, h2⟩ := hcall (dk A loose H L Oc w) M L w (c.args.toList.map a.eval).toArray Oc b (kj A loose H L Oc w) (by simpa using pH) hl bQ
  have bH : (execOp a.eval o).run P w = .ok (.round b fn tmps as bd) w := by
   simp only [execOp, ho, resolve, mr, Deferred.ofValue, hu, invoke, Sem.run_bind, Sem.run_pure, Result.andThen_ok]
   have e1 : (#[] ++ c.args.map a.eval : Array Value) = (c.args.toList.map a.eval).toArray := by
    apply Array.ext'; simp
   rw [e1]
   exact h1
  refine kA bH (by intro d e; cases e) ⟨(fun h => by cases h), ?_⟩
  have ou : RoundIn (wf ro) (0 - 1) P b fn tmps as bd w _ := h2
  refine RoundIn.mono ou fun e w' he => ?_
  obtain ⟨v, r, H', M', L', O', rfl, hK, ln, ct, hL⟩ := he
  exact fin v r H' M' L' O' w' hK ln ct hL
end
end Go.aL
end
section
namespace Go.aL
open Go
section
variable {ro : Option Nat} {P : Program} {lo : Option Nat} {A : Perm} {n : Nat} {M : Mem} {L : List Nat} {w : World} {H : List aa} {env : Env} {O : Pos → Option Nat} {a : Act} {Q : Exit → Act → World → Prop} {K : Env → List aa → Prop}
theorem nL {x : AV} {φ : Bool → Prop} (h : eI x φ) : ∃ b, x = .bool b ∧ φ b := by
 unfold eI at h
 split at h
 ·exact ⟨_, rfl, h⟩
 ·exact h.elim
def gK (kd : Nat) : Value := match kd with | 0 => .slice none 0 0 | 1 => .pointer none | 2 => .map none | _ => .nilFunc
def pO (kd : Nat) (D : TypeDesc) : Bool := match kd, D with | 0, .slice _ => true | 1, .pointer _ => true | 2, .map _ _ => true | 3, .func _ _ _ => true | _, _ => false
theorem tg {d kd : Nat} {t : TypeId} {D : TypeDesc} (ht : P.underlying t = some D) (hD : pO kd D = true) {u : Value} {x : AV} {b : Bool} (hx : isNil kd x = some b) (hu : aR M L u x) : (Op.equalIn (d + 1) t u (gK kd)).run P w = .ok b w := by
 unfold isNil at hx
 split at hx <;> cases hx <;> cases D <;> simp [pO] at hD <;> cases hu <;> simp [Op.equalIn, run_underlying ht, gK]
theorem uA {kd : Nat} {neq : Bool} {t : TypeId} {D : TypeDesc} (ht : P.underlying t = some D) (hD : pO kd D = true) {u : Value} {x : AV} {φ : AV → Prop} (h : dc kd neq x φ) (hu : aR M L u x) (X Y : Operand) :
 ∃ r z, (do eqGuard (if neq then .neq else .eql) t X Y u (gK kd); binOp (if neq then .neq else .eql) t u (gK kd) : Sem Value).run P w = .ok r w ∧ aR M L r z ∧ φ z ∧ ∀ own xs, z = .aq own xs → own = 0 := by
 unfold dc at h
 split at h
 rotate_left
 ·split at h <;> try exact h.elim
  cases hu with
  | aq b off c own e cs xs he hx hn hle hc hr hm => simp at hn
  | gf ad c own hc =>
    have hDs : ∃ e, D = .slice e := by
     cases D <;> simp [pO] at hD
     exact ⟨_, rfl⟩
    obtain ⟨e, rfl⟩ := hDs
    have Yr : ∀ d, (Op.equalIn (d + 1) t (.slice ad 0 c) (gK 0)).run P w = .ok (ad.isNone) w := by
     intro d
     cases ad <;> simp [Op.equalIn, run_underlying ht, gK]
    have he : (Op.equal t (.slice ad 0 c) (gK 0)).run P w = .ok (ad.isNone) w := Yr 9999
    have hg : ∀ op, (eqGuard op t X Y (.slice ad 0 c) (gK 0)).run P w = .ok () w := by
     intro op
     unfold eqGuard; cases op <;> rfl
    have h1 : binOp .eql t (.slice ad 0 c) (gK 0) = (Op.equal t (.slice ad 0 c) (gK 0) >>= fun q => (pure (.bool q) : Sem Value)) := rfl
    have h2 : binOp .neq t (.slice ad 0 c) (gK 0) = (Op.equal t (.slice ad 0 c) (gK 0) >>= fun q => (pure (.bool (!q)) : Sem Value)) := rfl
    have hφ : ∀ b, φ (.bool b) := fun b => by cases b; exact h.2; exact h.1
    cases neq
    ·refine ⟨.bool ad.isNone, .bool ad.isNone, ?_, .bool _, hφ _, by intro _ _ e; cases e⟩
     simp only [Bool.false_eq_true, if_false, Sem.run_bind, hg, Result.andThen_ok, h1, he, Sem.run_pure]
    ·refine ⟨.bool (!ad.isNone), .bool (!ad.isNone), ?_, .bool _, hφ _, by intro _ _ e; cases e⟩
     simp only [if_true, Sem.run_bind, hg, Result.andThen_ok, h2, he, Sem.run_pure]
 rename_i b hb
 have he : (Op.equal t u (gK kd)).run P w = .ok b w := tg (d := 9999) ht hD hb hu
 have hg : ∀ op, (eqGuard op t X Y u (gK kd)).run P w = .ok () w := by
  intro op
  unfold isNil at hb
  split at hb <;> cases hb <;> cases hu <;> (unfold eqGuard; cases op <;> rfl)
 have h1 : binOp .eql t u (gK kd) = (Op.equal t u (gK kd) >>= fun q => (pure (.bool q) : Sem Value)) := by
  unfold isNil at hb
  split at hb <;> cases hb <;> cases hu <;> rfl
 have h2 : binOp .neq t u (gK kd) = (Op.equal t u (gK kd) >>= fun q => (pure (.bool (!q)) : Sem Value)) := by
  unfold isNil at hb
  split at hb <;> cases hb <;> cases hu <;> rfl
 cases neq
 ·refine ⟨.bool b, .bool b, ?_, .bool _, h, by intro _ _ e; cases e⟩
  simp only [Bool.false_eq_true, if_false, Sem.run_bind, hg, Result.andThen_ok, h1, he, Sem.run_pure]
 ·refine ⟨.bool (!b), .bool (!b), ?_, .bool _, h, by intro _ _ e; cases e⟩
  simp only [if_true, Sem.run_bind, hg, Result.andThen_ok, h2, he, Sem.run_pure]
theorem uB (hf : Fr A n M L w H env O a) {xs : List Operand} {is : List IX} (hc : fo xs = some is) : aK M L (xs.map a.eval) (is.map fun x => (ap env x).ae) := by
 have := (hf.OB hc).cU
 rwa [List.map_map] at this
theorem b9 (hf : Fr A n M L w H env O a) {x : Option Operand} {i : Option IX} (hc : jT x = some i) : iK M L (gr env i) (x.map a.eval) := by
 cases x with
 | none => simp [jT] at hc; subst hc; trivial
 | some x =>
   simp only [jT] at hc
   obtain ⟨j, hj, rfl⟩ := Option.map_eq_some_iff.1 hc
   exact hf.eval hj
theorem EW {e : TypeId} {esz : Nat} {z : AV} (h : cQ P e = some (esz, z)) : dz P e = some esz ∧ fy P e = some z ∧ 0 < esz ∧ z.cells.length = esz ∧ z.val = true := by
 unfold cQ at h
 split at h <;> try cases h
 rename_i h1 h2
 split at h <;> cases h
 rename_i hc
 exact ⟨h1, h2, hc⟩
theorem Gg {x : AV} (h : aM 0 x) : iH .string x = true := by
 cases x <;> first | rfl | exact (show False from h).elim
theorem A4 {x : AV} (h : aM 1 x) (e : TypeId) : iH (.slice e) x = true := by
 cases x <;> first | rfl | exact (show False from h).elim
theorem Gh {x : AV} (h : aM 2 x) (k e : TypeId) : iH (.map k e) x = true := by
 cases x <;> first | rfl | exact (show False from h).elim
theorem Ix (o : Oper) {fl : Nat} {i : bX} (hc : cn P o fl = some i) (hp : ∀ l, lo = some l → ∀ id, l ≤ id → A.top id = none) (hf : Fr A n M L w H env O a) (hd : ∀ d, o.dst = some d → d < n) (hnone : (match o.op with | .store .. | .mapUpdate .. => o.dst = none | _ => True))
 (h : bt ⟨P, lo⟩ i o.dst env H K) : o.wpIn (wf ro) 0 P a w (mC A n M L w K) Q := by
 cases cI : o.op with
 | move x =>
   simp only [cn, cI] at hc
   obtain ⟨j, hj, rfl⟩ := Option.map_eq_some_iff.1 hc
   exact xq (.inl cI) hj hf hd h
 | assign x =>
   simp only [cn, cI] at hc
   obtain ⟨j, hj, rfl⟩ := Option.map_eq_some_iff.1 hc
   exact xq (.inr cI) hj hf hd h
 | pick c x y =>
   simp only [cn, cI] at hc
   split at hc <;> cases hc
   rename_i c' x' y' h1 h2 h3
   simp only [bt] at h
   obtain ⟨b, hb, h⟩ := nL h
   have hr := hf.eval h1
   rw [hb] at hr
   generalize hu : a.eval c = u at hr
   cases hr
   cases b
   ·exact wp_pure hf hd (by simp [execOp, cI, hu, asBool]) (hf.eval h3).ae (AV.bJ _) (h.2 rfl)
   ·exact wp_pure hf hd (by simp [execOp, cI, hu, asBool]) (hf.eval h2).ae (AV.bJ _) (h.1 rfl)
 | alloc e =>
   simp only [cn, cI] at hc
   split at hc <;> try cases hc
   rename_i z hz
   split at hc <;> cases hc
   rename_i hv
   simp only [bt] at h
   obtain ⟨r, L', w', h1, h2, h3, h4, h5⟩ := Da (P := P) hf.st hz hv h.1
   exact nK hf hd (by simp only [execOp, cI]; exact aV h1) h2 (by intro _ _ e; cases e) h3 h4 h5 h.2
 | box e x =>
   simp only [cn, cI] at hc
   obtain ⟨j, hj, hc⟩ := Option.map_eq_some_iff.1 hc
   split at hc <;> subst hc <;> simp only [bt] at h
   ·obtain ⟨r, M', w', h1, h2, h3, h4⟩ := F4 (P := P) hf.st e (hf.eval hj) h.1
    exact nK hf hd (by simp only [execOp, cI]; exact aV h1) h2 (by intro _ _ e; cases e) h3 h4 (List.prefix_refl L) h.2
   ·obtain ⟨r, L', w', h1, h2, h3, h4, h5⟩ := AJ (P := P) hf.st e (hf.eval hj) h.1 h.2.1
    exact nK hf hd (by simp only [execOp, cI]; exact aV h1) h2 (by intro _ _ e; cases e) h3 h4 h5 h.2.2
 | build t ps =>
   simp only [cn, cI] at hc
   split at hc <;> try cases hc
   rename_i z places ht
   split at hc <;> try cases hc
   rename_i qs hq
   split at hc <;> cases hc
   rename_i hv
   simp only [bt] at h
   obtain ⟨r, x, h1, h2, h3, h4⟩ := Dc (P := P) hf ht hq h hv
   exact wp_pure hf hd (by simp only [execOp, cI]; exact aV h1) h2 h4 h3
 | buildSlice t len ps =>
   simp only [cn, cI] at hc
   split at hc <;> try cases hc
   rename_i e ht
   split at hc <;> try cases hc
   rename_i esz z qs hz hq
   split at hc <;> cases hc
   rename_i hlen
   obtain ⟨p1, p2, p3, p4, p5⟩ := EW hz
   obtain ⟨q1, q2⟩ := mb hf _ _ hq
   by_cases TY : fl = 2
   ·rw [if_pos TY] at h
    simp only [bt] at h
    obtain ⟨r, x, L', w', H', h1, h2, h3, h4, h5, h6, h7⟩ := Gc (P := P) hf.st ht p1 p3 p2 p4 p5 hlen (vs := ps.map fun (i, x) => (i, a.eval x)) (by
     intro j p hp
     obtain ⟨v, v1, v2⟩ := q1 j p hp
     exact ⟨v, by simpa using v1, v2⟩) (by simp [q2]) h
    exact nK hf hd (by simp only [execOp, cI]; exact aV h1) h2 h3 h5 h6 h7 h4
   rw [if_neg TY] at h
   simp only [bt] at h
   obtain ⟨m, xs, M', w', ad, h1, h2, h3, h4, h5, h6⟩ := s9 (P := P) hf.st ht p1 p3 p2 p4 p5 (if fl = 1 then esz else 0) hlen (vs := ps.map fun (i, x) => (i, a.eval x)) (by
    intro j p hp
    obtain ⟨v, v1, v2⟩ := q1 j p hp
    exact ⟨v, by simpa using v1, v2⟩) (by simp [q2]) h
   obtain ⟨O', oS⟩ := (hf.mono h5 h6).EP (dst := o.dst) hd h2 (fun ep y hy => by
    split at ep
    ·rename_i LM; rw [if_pos LM]; exact h3 y hy
    ·exact absurd rfl ep)
   exact c9 (by simp only [execOp, cI]; exact aV h1) ⟨M', L, H, _, O', h4, oS, h6, List.prefix_refl L⟩
 | load t x =>
   simp only [cn, cI] at hc
   split at hc <;> try cases hc
   rename_i sz j ht hj
   split at hc
   ·split at hc <;> cases hc
    rename_i hs
    subst hs
    exact uz cI ht hj hf hd h
   split at hc
   ·cases hc
    simp only [bt] at h
    obtain ⟨r, z, h1, h2, h3, h4⟩ := qT (P := P) ht hf.st h (hf.eval hj)
    obtain ⟨y, M', H', O', g1, g2, g3, g4, g5⟩ := qY hf.st h3 h2
    obtain ⟨O'', oS⟩ := (hf.mono g3 g4).oq (dst := o.dst) hd g1 g5
    exact c9 (by simp only [execOp, cI]; exact aV h1) ⟨M', L, H', _, O'', g2, oS, g4, List.prefix_refl L⟩
   ·cases hc
    simp only [bt] at h
    obtain ⟨r, z, h1, h2, h3, h4⟩ := qT (P := P) ht hf.st h (hf.eval hj)
    exact bL hf hd ⟨r, z, by simp only [execOp, cI]; exact aV h1, h2, h3, h4⟩
 | store t x y =>
   simp only [cI] at hnone
   simp only [cn, cI] at hc
   split at hc <;> try cases hc
   rename_i m j k ht hj hk
   split at hc
   ·split at hc <;> try cases hc
    rename_i s
    split at hc <;> cases hc
    rename_i hm
    subst hm
    exact wG cI ht hj hk hf hnone h
   split at hc
   ·cases hc
    simp only [bt] at h
    obtain ⟨l, rfl⟩ : ∃ l, lo = some l := by cases lo with | none => exact h.elim | some l => exact ⟨l, rfl⟩
    obtain ⟨w', H', O', h1, h2, h3, h4⟩ := AN (P := P) hf.st (hp l rfl) ht h (hf.eval hj) (hf.eval hk)
    refine lh (by simp only [execOp, cI]; exact pL h1) ⟨M, L, H', env, O', h2, ?_, h4, List.prefix_refl L⟩
    rw [hnone]; exact ⟨h3, hf.size, hf.defers.ext h4⟩
   ·cases hc
    simp only [bt] at h
    obtain ⟨w', H', O', h1, h2, h3, h4⟩ := Dd (P := P) hf.st ht h (hf.eval hj) (hf.eval hk)
    refine lh (by simp only [execOp, cI]; exact pL h1) ⟨M, L, H', env, O', h2, ?_, h4, List.prefix_refl L⟩
    rw [hnone]; exact ⟨h3, hf.size, hf.defers.ext h4⟩
 | nilCheck x =>
   simp only [cn, cI] at hc
   obtain ⟨j, hj, rfl⟩ := Option.map_eq_some_iff.1 hc
   simp only [bt] at h
   exact bL hf hd (wz cI h (hf.eval hj))
 | binOp op t x y yt =>
   simp only [cn, cI] at hc
   split at hc <;> try cases hc
   rename_i j k hj hk
   have hx := hf.eval hj
   have hy := hf.eval hk
   have plain : ∀ {op}, cV op (ap env j) (ap env k) (fun z => K (put o.dst z env) H) → o.op = .binOp op t x y yt → o.wpIn (wf ro) 0 P a w (mC A n M L w K) Q := by
    intro op h cI
    obtain ⟨r, z, h1, h2, h3, h4⟩ := Ib (P := P) (w := w) (t := t) h hx hy x y
    exact bL hf hd ⟨r, z, by simp only [execOp, cI]; exact aV h1, h2, h3, h4⟩
   split at hc
   ·cases hc
    simp only [bt] at h
    obtain ⟨r, z, h1, h2, h3, h4⟩ := ug (P := P) (w := w) (t := t) h hx hy x y
    exact bL hf hd ⟨r, z, by simp only [execOp, cI]; exact aV h1, h2, h3, h4⟩
   ·cases hc
    simp only [bt] at h
    obtain ⟨r, z, h1, h2, h3, h4⟩ := ug (P := P) (w := w) (t := t) h hx hy x y
    exact bL hf hd ⟨r, z, by simp only [execOp, cI]; exact aV h1, h2, h3, h4⟩
   ·split at hc <;> try cases hc
    ·rename_i ht
     simp only [bt] at h
     obtain ⟨r, z, h1, h2, h3, h4⟩ := sg (P := P) (w := w) (neq := false) ht h hx hy x y
     exact bL hf hd ⟨r, z, by simp only [execOp, cI]; exact aV h1, h2, h3, h4⟩
    ·exact plain (op := .eql) h cI
    ·exact plain (op := .eql) h cI
    all_goals
     rename_i ht
     split at hc <;> cases hc
     simp only [bt] at h
     obtain ⟨r, z, h1, h2, h3, h4⟩ := uA (P := P) (w := w) (neq := false) ht rfl h hx x (.const .nilFunc)
     exact bL hf hd ⟨r, z, by simp only [execOp, cI]; exact aV h1, h2, h3, h4⟩
   ·split at hc <;> try cases hc
    ·rename_i ht
     simp only [bt] at h
     obtain ⟨r, z, h1, h2, h3, h4⟩ := sg (P := P) (w := w) (neq := true) ht h hx hy x y
     exact bL hf hd ⟨r, z, by simp only [execOp, cI]; exact aV h1, h2, h3, h4⟩
    ·exact plain (op := .neq) h cI
    ·exact plain (op := .neq) h cI
    all_goals
     rename_i ht
     split at hc <;> cases hc
     simp only [bt] at h
     obtain ⟨r, z, h1, h2, h3, h4⟩ := uA (P := P) (w := w) (neq := true) ht rfl h hx x (.const .nilFunc)
     exact bL hf hd ⟨r, z, by simp only [execOp, cI]; exact aV h1, h2, h3, h4⟩
   ·cases hc; exact plain h cI
 | unOp op t x =>
   simp only [cn, cI] at hc
   obtain ⟨j, hj, rfl⟩ := Option.map_eq_some_iff.1 hc
   simp only [bt] at h
   obtain ⟨r, z, h1, h2, h3, h4⟩ := LB (P := P) (w := w) h (hf.eval hj)
   exact bL hf hd ⟨r, z, by simp only [execOp, cI]; exact aV h1, h2, h3, h4⟩
 | convert src dst x =>
   simp only [cn, cI] at hc
   split at hc <;> try cases hc
   ·rename_i k1 k2 j hs P8 hj
    simp only [bt] at h
    obtain ⟨r, z, h1, h2, h3, h4⟩ := yG (P := P) (w := w) hs P8 h (hf.eval hj)
    exact bL hf hd ⟨r, z, by simp only [execOp, cI]; exact aV h1, h2, h3, h4⟩
   ·rename_i j hs P8 hj
    simp only [bt] at h
    obtain ⟨r, z, h1, h2, h3, h4⟩ := yL (P := P) (w := w) hs P8 h (hf.eval hj)
    exact bL hf hd ⟨r, z, by simp only [execOp, cI]; exact aV h1, h2, h3, h4⟩
   ·rename_i e j hs P8 hj
    split at hc <;> cases hc
    rename_i he
    simp only [bt] at h
    obtain ⟨r, z, w', M', ob, h1, h2, h3, h4, h5, h6, h7, h8⟩ := yM (P := P) hf.st hs P8 he h (hf.eval hj)
    exact uy hf hd (by simp only [execOp, cI]; exact aV h1) h2 h4 h5 h6 h7 h8 h3
   ·rename_i e j hs P8 hj
    split at hc <;> cases hc
    rename_i he
    simp only [bt] at h
    obtain ⟨r, z, h1, h2, h3, h4⟩ := Dh (P := P) hf.st hs he P8 h (hf.eval hj)
    exact bL hf hd ⟨r, z, by simp only [execOp, cI]; exact aV h1, h2, h3, h4⟩
 | makeFunc f first cap =>
   simp only [cn, cI] at hc
   split at hc <;> cases hc
   rename_i i j hi hj
   simp only [bt] at h
   refine bL hf hd ⟨.func f (first.map a.eval) (cap.map a.eval), _, ?_, ?_, h, by intro _ _ e; cases e⟩
   ·simp only [execOp, cI]; rfl
   ·have := aR.fn (M := M) (L := L) f (first.toList.map a.eval) (cap.toList.map a.eval) _ _ (uB hf hi) (uB hf hj)
    rw [show (first.toList.map a.eval).toArray = first.map a.eval by apply Array.ext'; simp, show (cap.toList.map a.eval).toArray = cap.map a.eval by apply Array.ext'; simp] at this
    exact this
 | makeMap t r =>
   cases r with
   | some r => simp [cn, cI] at hc
   | none =>
     simp only [cn, cI] at hc
     cases hc
     simp only [bt] at h
     obtain ⟨r, L', w', h1, h2, h3, h4, h5⟩ := Dk (P := P) hf.st t
     exact nK hf hd (by simp only [execOp, cI]; exact aV h1) h2 (by intro _ _ e; cases e) h3 h4 h5 h
 | makeSlice t l c =>
   simp only [cn, cI] at hc
   split at hc <;> try cases hc
   rename_i e k ht hk
   split at hc <;> try cases hc
   rename_i esz z bytes hz hb
   split at hc <;> try cases hc
   rename_i hcond
   obtain ⟨uo, Iw⟩ := hcond
   obtain ⟨p1, p2, p3, p4, p5⟩ := EW hz
   obtain ⟨inf, iG, cZ⟩ := Option.map_eq_some_iff.1 p1
   obtain ⟨inf', sv, xi⟩ := Option.map_eq_some_iff.1 hb
   rw [iG] at sv; cases sv
   unfold fy at p2
   simp only [iG] at p2
   split at p2 <;> try cases p2
   rename_i zv sj
   split at hc
   ·cases hc
    simp only [bt] at h
    have tB : zv.cells.size = esz := by have := ((cA (M := M) (L := L) p2).fL p5).length; rw [p4] at this; simpa using this
    obtain ⟨r, w', M', b, h1, h2, h3, h4, h5, h6, h7, h8, h9, Ys⟩ := Dg (P := P) hf.st ht iG sj cZ xi p3 uo tB h (hf.eval hk)
    exact uy hf hd (by simp only [execOp, cI]; exact aV h1) h2 h4 h5 h6 (fun q b' dT => by cases dT; exact h7 q) (fun b' dT => by cases dT; exact ⟨h8, h9, Ys⟩) h3
   ·split at hc <;> cases hc
    rename_i hsame
    simp only [bt] at h
    have yH : a.eval l = a.eval c := by
     unfold Iv at hsame
     split at hsame
     ·simp at hsame; subst hsame; rfl
     ·simp at hsame; subst hsame; rfl
     ·cases hsame
    have Ip : ∀ y ∈ z.cells, ∀ own xs, y = .aq own xs → own = 0 := by
     intro y hy own xs e
     have := List.all_eq_true.1 Iw y hy
     subst e
     simpa using this
    obtain ⟨r, x, L', w', H', h1, h2, h3, h4, h5, h6, h7⟩ := Df (P := P) hf.st ht iG sj cZ xi p3 uo p2 p5 p4 Ip h (hf.eval hk)
    exact nK hf hd (by simp only [execOp, cI, yH]; exact aV h1) h2 h3 h5 h6 h7 h4
 | slice t x lo hi mx =>
   simp only [cn, cI] at hc
   split at hc <;> try cases hc
   ·rename_i e i l h' m ht mq hl hh hm
    split at hc <;> try cases hc
    rename_i esz he
    split at hc <;> cases hc
    rename_i h0
    by_cases LM : fl = 4
    ·rw [if_pos LM] at h
     simp only [bt] at h
     obtain ⟨ad, k, c, own, ys, h1, h2, ⟨h3, Iy⟩, h4⟩ := uq (P := P) hf.st ht he h0 h.2 (hf.eval mq) h.1 (b9 hf hl) (b9 hf hh) (b9 hf hm)
     cases h3
     obtain ⟨rfl, _⟩ := h4 (by omega)
     have hk : k = 0 := by
      cases h2 with
      | gf => rfl
      | aq b off c own e cs xs he hx hn => simp at hn
     subst hk
     exact bL hf hd ⟨_, _, by simp only [execOp, cI]; exact aV h1, .oo ad, Iy, by intro _ _ e; cases e⟩
    rw [if_neg LM] at h
    simp only [bt] at h
    unfold bB at h
    split at h
    ·rename_i e0 a0 b0 c0 d0 Io
     rw [← Io] at h
     split at h
     ·rename_i AQ
      have Tg : mx = none := by
       cases mx with
       | none => rfl
       | some q => simp only [jT] at hm; obtain ⟨_, _, rfl⟩ := Option.map_eq_some_iff.1 hm; cases AQ
      subst Tg
      obtain ⟨r, z, h1, h2, h3, h4⟩ := AW (P := P) ht he h (hf.eval mq) (b9 hf hl) (b9 hf hh)
      exact bL hf hd ⟨r, z, by simp only [execOp, cI]; exact aV h1, h2, h3, h4⟩
     ·rename_i m0 AQ
      have hm3 := b9 (a := a) hf hm
      rw [AQ] at hm3
      obtain ⟨r, z, h1, h2, h3, h4⟩ := AX (P := P) ht he h (hf.eval mq) (b9 hf hl) (b9 hf hh) hm3
      exact bL hf hd ⟨r, z, by simp only [execOp, cI]; exact aV h1, h2, h3, h4⟩
    obtain ⟨ad, k, c, own, ys, h1, h2, h3, h4⟩ := uq (P := P) hf.st ht he h0 h.2 (hf.eval mq) h.1 (b9 hf hl) (b9 hf hh) (b9 hf hm)
    by_cases tc : own = 0
    ·subst tc
     exact bL hf hd ⟨_, _, by simp only [execOp, cI]; exact aV h1, h2, h3, by intro _ _ e; cases e; rfl⟩
    ·obtain ⟨rfl, h5⟩ := h4 tc
     obtain ⟨O', oS⟩ := hf.EP (dst := o.dst) hd h2 (fun _ => h5)
     exact c9 (by simp only [execOp, cI]; exact aV h1) ⟨M, L, H, _, O', h3, oS, Ext.refl A M w, List.prefix_refl L⟩
   ·rename_i i l h' ht mq hl hh hm
    simp only [bt] at h
    have Tg : mx = none := by
     cases mx with
     | none => rfl
     | some q => simp only [jT] at hm; obtain ⟨_, _, hz⟩ := Option.map_eq_some_iff.1 hm; cases hz
    subst Tg
    obtain ⟨r, z, h1, h2, h3, h4⟩ := wD (P := P) (w := w) ht h (hf.eval mq) (b9 hf hl) (b9 hf hh)
    exact bL hf hd ⟨r, z, by simp only [execOp, cI]; exact aV h1, h2, h3, h4⟩
 | fieldAddr s x f =>
   simp only [cn, cI] at hc
   split at hc <;> cases hc
   rename_i off sz j ht hj
   simp only [bt] at h
   obtain ⟨r, z, h1, h2, h3, h4⟩ := uh (P := P) (w := w) ht h (hf.eval hj)
   exact bL hf hd ⟨r, z, by simp only [execOp, cI]; exact aV h1, h2, h3, h4⟩
 | field s x f =>
   simp only [cn, cI] at hc
   split at hc <;> cases hc
   rename_i off sz j ht hj
   simp only [bt] at h
   obtain ⟨r, z, h1, h2, h3, h4⟩ := C8 (P := P) (w := w) ht h (hf.eval hj)
   exact bL hf hd ⟨r, z, by simp only [execOp, cI]; exact aV h1, h2, h3, h4⟩
 | indexAddr t x i =>
   simp only [cn, cI] at hc
   split at hc <;> try cases hc
   rename_i e j k ht hj hk
   obtain ⟨esz, he, rfl⟩ := Option.map_eq_some_iff.1 hc
   simp only [bt] at h
   obtain ⟨r, z, h1, h2, h3, h4⟩ := ui (P := P) (w := w) ht he h.2 h.1 (hf.eval hj) (hf.eval hk)
   exact bL hf hd ⟨r, z, by simp only [execOp, cI]; exact aV h1, h2, h3, h4⟩
 | index t x i =>
   simp only [cn, cI] at hc
   split at hc <;> try cases hc
   ·rename_i j k ht hj hk
    simp only [bt] at h
    obtain ⟨r, z, h1, h2, h3, h4⟩ := wy (P := P) (w := w) ht h (hf.eval hj) (hf.eval hk)
    exact bL hf hd ⟨r, z, by simp only [execOp, cI]; exact aV h1, h2, h3, h4⟩
   ·rename_i m e j k ht hj hk
    split at hc <;> cases hc
    rename_i he
    simp only [bt] at h
    obtain ⟨r, z, h1, h2, h3, h4⟩ := wx (P := P) (w := w) ht he h (hf.eval hj) (hf.eval hk)
    exact bL hf hd ⟨r, z, by simp only [execOp, cI]; exact aV h1, h2, h3, h4⟩
 | lookup t m k ok =>
   simp only [cn, cI] at hc
   split at hc <;> try cases hc
   rename_i kt et i j ht hi hj
   split at hc <;> cases hc
   rename_i kd z hk hz
   simp only [bt] at h
   obtain ⟨r, z, h1, h2, h3, h4⟩ := AT (P := P) hf.st ht hk hz h (hf.eval hi) (hf.eval hj)
   exact bL hf hd ⟨r, z, by simp only [execOp, cI]; exact aV h1, h2, h3, h4⟩
 | mapUpdate t m k x =>
   simp only [cI] at hnone
   simp only [cn, cI] at hc
   split at hc <;> try cases hc
   rename_i kt et i j y ht hi hj hy
   obtain ⟨kd, hk, rfl⟩ := Option.map_eq_some_iff.1 hc
   simp only [bt] at h
   obtain ⟨w', H', h1, h2, h3, h4⟩ := AU (P := P) hf.st ht hk h (hf.eval hi) (hf.eval hj) (hf.eval hy)
   refine lh (by simp only [execOp, cI]; exact pL h1) ⟨M, L, H', env, O, h2, ?_, h4, List.prefix_refl L⟩
   rw [hnone]; exact ⟨h3, hf.size, hf.defers.ext h4⟩
 | extract x i =>
   simp only [cn, cI] at hc
   obtain ⟨j, hj, rfl⟩ := Option.map_eq_some_iff.1 hc
   simp only [bt] at h
   obtain ⟨r, z, h1, h2, h3, h4⟩ := yF (P := P) (w := w) h (hf.eval hj)
   exact bL hf hd ⟨r, z, by simp only [execOp, cI]; exact aV h1, h2, h3, h4⟩
 | call c =>
   simp only [cn, cI] at hc
   split at hc
   ·rename_i f mr
    split at hc <;> cases hc
    rename_i i js hi hj
    exact Dn cI mr hi hj hp hf hd h
   ·rename_i mr
    split at hc <;> try cases hc
    rename_i x t hargs yW
    have hcall : c = { callee := .builtin .len, args := #[x], argTypes := #[t] } := by
     obtain ⟨c1, c2, c3⟩ := c
     simp only at mr hargs yW
     subst mr
     rw [show c2 = #[x] from Array.ext' hargs, show c3 = #[t] from Array.ext' yW]
    subst hcall
    have fin : ∀ {d : TypeDesc} {kd : Nat} {j : IX}, P.underlying t = some d → aQ x = some j → iH d (ap env j) = true → (eW (ap env j) H fun z => K (put o.dst z env) H) → o.wpIn (wf ro) 0 P a w (mC A n M L w K) Q := by
     intro d kd j ht hj hk h
     obtain ⟨r, z, h1, h2, h3, h4⟩ := Ih (P := P) ht hf.st hk h (hf.eval hj) o.type
     refine bL hf hd ⟨r, z, ?_, h2, h3, h4⟩
     simp only [execOp, cI, resolve, invoke, builtin, Sem.run_bind, Sem.run_pure, Result.andThen_ok, List.map_toArray, List.map_cons, List.map_nil, h1]
    split at hc <;> cases hc
    ·rename_i j ht hj; exact fin (kd := 0) ht hj (Gg h.1) h.2
    ·rename_i e j ht hj; exact fin (kd := 0) ht hj (A4 h.1 e) h.2
    ·rename_i k e j ht hj; exact fin (kd := 0) ht hj (Gh h.1 k e) h.2
   ·rename_i mr
    split at hc <;> try cases hc
    rename_i s x t t' hargs yW
    split at hc <;> try cases hc
    rename_i htt
    subst htt
    split at hc <;> try cases hc
    rename_i e i j ht hi hj
    split at hc <;> try cases hc
    rename_i esz z bytes hz hb
    split at hc <;> try cases hc
    rename_i uo
    have hcall : c = { callee := .builtin .append, args := #[s, x], argTypes := #[t, t] } := by
     obtain ⟨c1, c2, c3⟩ := c
     simp only at mr hargs yW
     subst mr
     rw [show c2 = #[s, x] from Array.ext' hargs, show c3 = #[t, t] from Array.ext' yW]
    subst hcall
    split at hc
    ·split at hc <;> cases hc
     rename_i Iw
     exact wI cI ht hz hb uo Iw hi hj hf hd h
    cases hc
    exact yU cI ht hz hb uo hi hj hf hd h
   ·rename_i mr
    split at hc <;> try cases hc
    rename_i x y hargs
    split at hc <;> cases hc
    rename_i i j hi hj
    simp only [bt] at h
    obtain ⟨r, z, h1, h2, h3, h4⟩ := EQ (P := P) (w := w) (big := true) h (hf.eval hi) (hf.eval hj) c.argTypes o.type
    refine bL hf hd ⟨r, z, ?_, h2, h3, h4⟩
    have hargs' : c.args = #[x, y] := Array.ext' hargs
    simp only [if_true] at h1
    simp only [execOp, cI, resolve, mr, invoke, builtin, Sem.run_bind, Sem.run_pure, Result.andThen_ok, hargs', List.map_toArray, List.map_cons, List.map_nil, h1]
   ·rename_i mr
    split at hc <;> try cases hc
    rename_i x y hargs
    split at hc <;> cases hc
    rename_i i j hi hj
    simp only [bt] at h
    obtain ⟨r, z, h1, h2, h3, h4⟩ := EQ (P := P) (w := w) (big := false) h (hf.eval hi) (hf.eval hj) c.argTypes o.type
    refine bL hf hd ⟨r, z, ?_, h2, h3, h4⟩
    have hargs' : c.args = #[x, y] := Array.ext' hargs
    simp only [Bool.false_eq_true, if_false] at h1
    simp only [execOp, cI, resolve, mr, invoke, builtin, Sem.run_bind, Sem.run_pure, Result.andThen_ok, hargs', List.map_toArray, List.map_cons, List.map_nil, h1]
   ·cases hc
 | _ => simp [cn, cI] at hc
theorem Dp (o : Oper) (hf : Fr A n M L w H env O a) (hd : ∀ d, o.dst = some d → d < n) (h : bt ⟨P, lo⟩ (pK P o) o.dst env H K) : o.wpIn (wf ro) 0 P a w (mC A n M L w K) Q := by
 cases cI : o.op with
 | call c =>
   simp only [pK, cI] at h
   split at h <;> try exact h.elim
   rotate_left
   ·rename_i mr
    split at h <;> try exact h.elim
    rename_i s t hargs yW
    split at h <;> try exact h.elim
    rename_i e i ht hi
    split at h <;> try exact h.elim
    rename_i esz z hz
    simp only [bt] at h
    unfold cQ at hz
    split at hz <;> try cases hz
    rename_i esz' z' OD ou
    split at hz <;> cases hz
    rename_i hcond
    obtain ⟨h0, iI, sj⟩ := hcond
    obtain ⟨inf, iG, cZ⟩ := Option.map_eq_some_iff.1 OD
    unfold fy at ou
    simp only [iG] at ou
    split at ou <;> try cases ou
    rename_i zv ul
    obtain ⟨w', H', O', h1, h2, h3, h4⟩ := AZ (P := P) hf.st ht iG ul h0 ou sj iI h (hf.eval hi) o.type
    obtain ⟨O'', oS⟩ := (hf.mono h3 h4).oq (dst := o.dst) hd (.tuple [] [] .nil) (by intro _ _ e; cases e)
    have hargs' : c.args = #[s] := Array.ext' hargs
    have Iz : c.argTypes = #[t] := Array.ext' yW
    refine c9 (v := .tuple #[]) ?_ ⟨M, L, H', _, O'', h2, oS, h4, List.prefix_refl L⟩
    simp only [execOp, cI, resolve, mr, invoke, builtin, Sem.run_bind, Sem.run_pure, Result.andThen_ok, hargs', Iz, List.map_toArray, List.map_cons, List.map_nil, h1]
   rename_i mr
   split at h <;> try exact h.elim
   rename_i s x t t' hargs yW
   split at h <;> try exact h.elim
   rename_i e i j ht hi hj
   split at h <;> try exact h.elim
   rename_i esz he
   simp only [bt] at h
   obtain ⟨r, z, w', H', O', h1, h2, h3, h4, h5, h6⟩ := Ga (P := P) hf.st ht he h (hf.eval hi) (hf.eval hj) t' o.type
   obtain ⟨O'', oS⟩ := (hf.mono h4 h5).oq (dst := o.dst) hd h2 h6
   have hargs' : c.args = #[s, x] := Array.ext' hargs
   have Iz : c.argTypes = #[t, t'] := Array.ext' yW
   refine c9 (v := r) ?_ ⟨M, L, H', _, O'', h3, oS, h5, List.prefix_refl L⟩
   simp only [execOp, cI, resolve, mr, invoke, builtin, Sem.run_bind, Sem.run_pure, Result.andThen_ok, hargs', Iz, List.map_toArray, List.map_cons, List.map_nil, h1]
 | _ => simp only [pK, cI] at h; exact h.elim
theorem Dq (o : Oper) (hf : Fr A n M L w H env O a) (hd : ∀ d, o.dst = some d → d < n) (h : bt ⟨P, lo⟩ (mP P o) o.dst env H K) : o.wpIn (wf ro) 0 P a w (mC A n M L w K) Q := by
 have key : ∀ {x : Operand}, (o.op = .move x ∨ o.op = .assign x) → ∀ {i : IX} {esz : Nat}, aQ x = some i → (ff esz (ap env i) H fun z H' => K (put o.dst z env) H') → o.wpIn (wf ro) 0 P a w (mC A n M L w K) Q := by
  intro x ho i esz hi h
  obtain ⟨z, M', H', O', h1, h2, h3, h4, h5⟩ := qY hf.st h (hf.eval hi)
  have bH : (execOp a.eval o).run P w = .ok (.value (a.eval x)) w := by
   rcases ho with ho | ho <;> simp [execOp, ho]
  obtain ⟨O'', oS⟩ := (hf.mono h3 h4).oq (dst := o.dst) hd h1 h5
  exact c9 bH ⟨M', L, H', _, O'', h2, oS, h4, List.prefix_refl L⟩
 cases cI : o.op with
 | move x =>
   simp only [mP, cI] at h
   split at h <;> try exact h.elim
   rename_i hi ht
   split at h <;> try exact h.elim
   exact key (.inl cI) hi h
 | assign x =>
   simp only [mP, cI] at h
   split at h <;> try exact h.elim
   rename_i hi ht
   split at h <;> try exact h.elim
   exact key (.inr cI) hi h
 | _ => simp only [mP, cI] at h; exact h.elim
theorem A5 (o : Oper) (esz : Nat) (hf : Fr A n M L w H env O a) (hd : ∀ d, o.dst = some d → d < n) (h : bt ⟨P, lo⟩ (kD esz o) o.dst env H K) : o.wpIn (wf ro) 0 P a w (mC A n M L w K) Q := by
 have key : ∀ {x : Operand}, (o.op = .move x ∨ o.op = .assign x) → ∀ {i : IX}, aQ x = some i → (ff esz (ap env i) H fun z H' => K (put o.dst z env) H') → o.wpIn (wf ro) 0 P a w (mC A n M L w K) Q := by
  intro x ho i hi h
  obtain ⟨z, M', H', O', h1, h2, h3, h4, h5⟩ := qY hf.st h (hf.eval hi)
  have bH : (execOp a.eval o).run P w = .ok (.value (a.eval x)) w := by
   rcases ho with ho | ho <;> simp [execOp, ho]
  obtain ⟨O'', oS⟩ := (hf.mono h3 h4).oq (dst := o.dst) hd h1 h5
  exact c9 bH ⟨M', L, H', _, O'', h2, oS, h4, List.prefix_refl L⟩
 cases cI : o.op with
 | move x =>
   simp only [kD, cI] at h
   split at h <;> try exact h.elim
   rename_i hi
   exact key (.inl cI) hi h
 | assign x =>
   simp only [kD, cI] at h
   split at h <;> try exact h.elim
   rename_i hi
   exact key (.inr cI) hi h
 | _ => simp only [kD, cI] at h; exact h.elim
theorem sx (o : Oper) {fl : Nat} (hp : ∀ l, lo = some l → ∀ id, l ≤ id → A.top id = none) (hf : Fr A n M L w H env O a) (hd : ∀ d, o.dst = some d → d < n) (hnone : (match o.op with | .store .. | .mapUpdate .. => o.dst = none | _ => True))
 (h : bt ⟨P, lo⟩ (A0 P o fl) o.dst env H K) : o.wpIn (wf ro) 0 P a w (mC A n M L w K) Q := by
 unfold A0 at h
 split at h
 ·exact Dq o hf hd h
 split at h
 ·exact A5 o _ hf hd h
 cases hc : cn P o fl with
 | none => rw [hc] at h; exact Dp o hf hd h
 | some i => rw [hc] at h; exact Ix o hc hp hf hd hnone h
end
end Go.aL
end
section
namespace Go.aL
open Go
section
variable {M : Mem} {L : List Nat}
theorem pP {n : Nat} : ∀ {xs : List AV}, (∀ x ∈ xs, x.cells.length ≠ 0) → ak n (flat xs) = true → ak n xs = true
 | [], _, _ => rfl
 | x :: xs, hx, h => by
   rw [ba] at h ⊢
   intro y hy
   rcases List.mem_cons.1 hy with rfl | hy
   ·cases y with
    | agg ys =>
      simp only [AV.aZ]
      rw [ba]
      intro z hz
      exact h z (by simp [flat, AV.cells, hz])
    | _ => exact h _ (by simp [flat, AV.cells])
   ·have := pP (xs := xs) (n := n) (fun x sk => hx x (List.mem_cons_of_mem _ sk)) (by
     rw [ba]
     intro z hz
     exact h z (by simp only [flat, List.flatMap_cons, List.mem_append] at hz ⊢; exact .inr hz))
    rw [ba] at this
    exact this y hy
theorem Gi {n : Nat} {x : AV} (h : ak n x.cells = true) : x.aZ n = true := by
 cases x <;> simp_all [AV.cells, AV.aZ, ak]
theorem aR.LQ {v : Value} {x : AV} (h : aR M L v x) : x.aZ L.length = true := by
 induction h using aR.rec (motive_2 := fun vs xs _ => ak L.length xs = true) with
 | aq b off c own e cs xs he hx hn hle hc hr hm ih => exact pP (fun x sk => by rw [hx x sk]; omega) ih
 | bg b off len cap id hl hc => simp only [AV.aZ, decide_eq_true_eq]; exact aN hl
 | agg cs xs hr ih => exact ih
 | tuple cs xs hr ih => exact ih
 | ptr b off id hl => simp only [AV.aZ, decide_eq_true_eq]; exact aN hl
 | aj b off cs x hr hm ih => simp only [AV.aZ]; exact Gi ih
 | map b id hl => simp only [AV.aZ, decide_eq_true_eq]; exact aN hl
 | mE b id hl => simp only [AV.aZ, decide_eq_true_eq]; exact aN hl
 | fn f fs cs xs ys h1 h2 i1 i2 => simp only [AV.aZ, Bool.and_eq_true]; exact ⟨i1, i2⟩
 | iface t v x h ih => exact ih
 | cons v x vs xs h t i1 i2 => simp only [ak, Bool.and_eq_true]; exact ⟨i1, i2⟩
 | nil => rfl
 | _ => rfl
theorem aK.LQ : ∀ {vs : List Value} {xs : List AV}, aK M L vs xs → ak L.length xs = true
 | _, _, .nil => rfl
 | _, _, .cons _ _ _ _ h t => by simp only [ak, Bool.and_eq_true]; exact ⟨h.LQ, t.LQ⟩
end
section
variable {A : Perm} {M : Mem} {L : List Nat} {w : World} {H : List aa} {ev : Nat → Value} {ea : Nat → AV} {O : Pos → Option Nat}
theorem St.nM (h : St A M L w H ev ea O) {id b : Nat} {st st' : Te} {lc : ig} {es : List AV} {r' : Loop} (bn : H[id]? = some (.loop st lc es)) (hL : L[id]? = some b)
 (hr : ∀ r, w.heap[b]? = some (.loop r) → r'.params = r.params ∧ r'.assign = r.assign ∧ r'.body = r.body ∧ r'.tmps = r.tmps ∧ r'.defers = r.defers ∧ st'.ok r') :
 St A M L (w.putObj b (.loop r')) (H.set id (.loop st' lc es)) ev ea O ∧ Ext A M w M (w.putObj b (.loop r')) := by
 have xc : b ∈ L := List.mem_of_getElem? hL
 have PX := h.lt b xc
 obtain ⟨r0, hc, p1, p2, p3, p4, p5⟩ := h.obj id _ b bn hL
 obtain ⟨q1, q2, q3, q4, q5, q6⟩ := hr r0 hc
 have fK : ∀ k, k ≠ b → (w.putObj b (.loop r')).heap[k]? = w.heap[k]? := fun k hk => World.putObj_heap_other hk
 have mj : (w.putObj b (.loop r')).heap[b]? = some (.loop r') := World.putObj_heap_same PX
 have Tf : ∀ o, M b o = none := by
  intro o
  cases hm : M b o with
  | none => rfl
  | some v =>
    have := h.mem b o v hm
    simp [World.cell?, hc] at this
 have pF : id < H.length := aN bn
 refine ⟨{ len := by simp [h.len], nodup := h.nodup, env := h.env, mem := ?_, obj := ?_, bC := ?_, lt := ?_, gJ := ?_, gG := ?_, bZ := h.bZ, ch := h.ch, eS := ?_, La := h.La, Oa := h.Oa, fresh := ?_ }, ?_⟩
 ·intro k o v hv
  have hk : k ≠ b := by rintro rfl; rw [Tf o] at hv; cases hv
  have := h.mem k o v hv
  simp only [World.cell?] at this ⊢
  rw [fK k hk]; exact this
 ·intro id' o k ho hk
  by_cases e0 : id' = id
  ·subst e0
   rw [hL] at hk; cases hk
   rw [List.getElem?_set_self pF] at ho
   cases ho
   exact ⟨r', mj, q1.trans p1, q2.trans p2, q3.trans p3, by rw [q4]; exact p4, q6⟩
  ·rw [List.getElem?_set_ne (fun h' => e0 h'.symm)] at ho
   have CX : k ≠ b := by
    rintro rfl
    exact e0 ((List.getElem?_inj (aN hk) h.nodup).1 (hk.trans hL.symm))
   exact (h.obj id' o k ho hk).mono (Mem.bN M) (List.prefix_refl _) (fK k CX) (fun _ => rfl)
 ·intro id' o ho
  rw [List.length_set]
  by_cases e0 : id' = id
  ·subst e0
   rw [List.getElem?_set_self pF] at ho
   cases ho
   exact h.bC id' (.loop st lc es) bn
  ·rw [List.getElem?_set_ne (fun h' => e0 h'.symm)] at ho
   exact h.bC id' o ho
 ·intro k hk; simpa using h.lt k hk
 ·intro t
  exact (h.gJ t).mono fun k hk => ⟨fK k (fun e3 => h.ch _ k hk (e3 ▸ xc)), fun _ => rfl⟩
 ·intro id' j
  by_cases e0 : id' = id
  ·subst e0
   have hn : O (.c id' j) = none := by
    have := h.gG id' j
    simp only [bp, bn] at this
    exact this
   have e2 : bp (H.set id' (.loop st' lc es)) id' j = .any := by
    unfold bp
    rw [List.getElem?_set_self pF]
   rw [e2, hn]; rfl
  ·have e1 : bK L (w.putObj b (.loop r')) id' j = bK L w id' j := by
    unfold bK
    split
    ·rename_i k hk
     have CX : k ≠ b := by
      rintro rfl
      exact e0 ((List.getElem?_inj (aN hk) h.nodup).1 (hk.trans hL.symm))
     simp only [World.cell?]
     rw [fK k CX]
    ·rfl
   have e2 : bp (H.set id (.loop st' lc es)) id' j = bp H id' j := by
    unfold bp
    rw [List.getElem?_set_ne (fun h' => e0 h'.symm)]
   rw [e1, e2]
   exact (h.gG id' j).mono fun k hk => ⟨fK k (fun e3 => h.ch _ k hk (e3 ▸ xc)), fun _ => rfl⟩
 ·intro p k hp; simpa using h.eS p k hp
 ·intro k hk; simp at hk; exact h.fresh k hk
 ·exact ⟨Mem.bN M, by simp, rfl, rfl, rfl, fun k hk hA => ⟨fK k (fun e0 => hA (e0 ▸ h.La b xc)), fun _ => rfl⟩, fun k r hk => by
   by_cases e0 : k = b
   ·subst e0
    rw [hc] at hk; cases hk
    exact ⟨r', mj, q5⟩
   ·exact ⟨r, (fK k e0).trans hk, rfl⟩⟩
def Perm.TZ (A : Perm) (D : Nat) : Perm := ⟨fun b => A b ∧ b ≠ D, A.top, A.ok, A.base⟩
def Perm.Le (A' A : Perm) : Prop := A'.top = A.top ∧ (∀ b, A' b → A b) ∧ A'.base = A.base
theorem Perm.Le.refl (A : Perm) : A.Le A := ⟨rfl, fun _ h => h, rfl⟩
theorem Perm.Le.trans {A B C : Perm} (h : A.Le B) (k : B.Le C) : A.Le C := ⟨h.1.trans k.1, fun b hb => k.2.1 b (h.2.1 b hb), h.2.2.trans k.2.2⟩
theorem Perm.yX (A : Perm) (D : Nat) : (A.TZ D).Le A := ⟨rfl, fun _ h => h.1, rfl⟩
theorem Perm.Le.jc {A' A : Perm} (h : A'.Le A) (len id : Nat) : A'.jc len id = A.jc len id := by unfold Perm.jc; rw [h.1]
theorem Ext.le {A' : Perm} {M' : Mem} {w' : World} (h : Ext A' M w M' w') (hl : A'.Le A) : Ext A M w M' w' :=
 ⟨h.kz, h.size, h.os, h.tape, h.output, fun b hb hA => h.j3 b hb fun h' => hA (hl.2.1 b h'), h.loops⟩
theorem St.le {A' : Perm} (h : St A' M L w H ev ea O) (hl : A'.Le A) : St A M L w H ev ea O :=
 { h with bC := fun id o ho => by rw [← hl.jc]; exact h.bC id o ho, La := fun b hb => hl.2.1 b (h.La b hb), Oa := fun p b hp => hl.2.1 b (h.Oa p b hp), fresh := fun b hb => hl.2.1 b (h.fresh b hb) }
theorem St.TZ (h : St A M L w H ev ea O) {D : Nat} (h1 : D ∉ L) (h2 : ∀ p, O p ≠ some D) (h3 : D < w.heap.size) : St (A.TZ D) M L w H ev ea O :=
 { h with
   bC := fun id o ho => by rw [(A.yX D).jc]; exact h.bC id o ho
   La := fun b hb => ⟨h.La b hb, fun e => h1 (e ▸ hb)⟩
   Oa := fun p b hp => ⟨h.Oa p b hp, fun e => h2 p (e ▸ hp)⟩
   fresh := fun b hb => ⟨h.fresh b hb, fun e => by omega⟩ }
theorem OA.le {A' : Perm} {ds : List Deferred} (h : OA A w ds) (hl : A'.Le A) : OA A' w ds := ⟨by rw [hl.2.2]; exact h.1, h.2.1, fun d hd => by
 obtain ⟨D, h1, h2, h3, h4⟩ := h.2.2 d hd
 exact ⟨D, h1, h2, fun h' => h3 (hl.2.1 D h'), by rw [hl.2.2]; exact h4⟩⟩
end
end Go.aL
end
section
namespace Go.aL
open Go
structure bu where
 g : Option (Nat × Bool)
 dst : Option Nat
 op : bX
 deriving Inhabited
inductive DT where
 | done
 | take (st : Bool) (o : bu) (r : DT)
 | br (o : bu) (t rest : DT)
 | nil
 deriving Inhabited
def inst (il : List bu) : wu → DT
 | .done => .done
 | .take i st r => .take st (il.getD i default) (inst il r)
 | .br i t rest => .br (il.getD i default) (inst il t) (inst il rest)
 | .nil => .nil
inductive IR where
 | skip
 | region (ops : List bu) (live : Option (List Nat))
 | draw (t : DT) (live : Option (List Nat))
 | seq (a b : IR)
 | cond (x : IX) (a b : IR)
 | block (id : Nat) (a : IR)
 | loop (a : IR)
 | exit (id : Nat)
 | ret
 | never
 | iL (f : IX) (lc : ig)
 deriving Inhabited
def ej (live : Option (List Nat)) (env : Env) : Env :=
 match live with
 | none => env
 | some l => l.map fun t => (t, get env t)
def gS (env : Env) (g : Nat) (want : Bool) (yes no : Env → Prop) : Prop :=
 match get env g with
 | .bool b => (b = want → yes ((g, .bool want) :: env)) ∧ (b = (!want) → no ((g, .bool (!want)) :: env))
 | .tuple [] => no env
 | _ => False
def ra (P : Px) (o : bu) (env : Env) (H : List aa) (K : Env → List aa → Prop) : Prop :=
 match o.g with
 | none => bt P o.op o.dst env H K
 | some (g, want) => gS env g want (fun env => bt P o.op o.dst env H K) (fun env => K (put o.dst (.tuple []) env) H)
def iZ (P : Px) : List bu → Env → List aa → (Env → List aa → Prop) → Prop
 | [], env, H, K => K env H
 | o :: r, env, H, K => ra P o env H fun env H => iZ P r env H K
def cT (P : Px) (o : bX) (ρ : IX → AV) (H : List aa) (x : AV) : Prop :=
 match o with
 | .set i false => (ρ i).ae = x
 | .pick c a b => eI (ρ c) fun q => (q = true → (ρ a).ae = x) ∧ (q = false → (ρ b).ae = x)
 | .bin op i j => cV op (ρ i) (ρ j) fun z => z = x
 | .shift op i j => dJ op (ρ i) (ρ j) fun z => z = x
 | .gP neq i j => cM neq (ρ i) (ρ j) fun z => z = x
 | .iU kd neq i => dc kd neq (ρ i) fun z => z = x
 | .un op i => yE op (ρ i) fun z => z = x
 | .lg i => (ρ i).val = true ∧ .aj (ρ i) = x
 | .build z ps => cj z.cells (ps.map fun q => (q.1, q.2.1, ρ q.2.2)) fun v => v = x
 | .buildSlice own esz z len ps => bk (List.replicate len (aT z)) esz (ps.map fun q => (q.1, ρ q.2)) fun xs => .aq own xs = x
 | .load sz i => aS sz (ρ i) H fun z => z = x
 | .nilCheck i => bS (ρ i) fun z => z = x
 | .fieldAddr off sz i => al off sz (ρ i) fun z => z = x
 | .field off sz i => eJ off sz (ρ i) fun z => z = x
 | .indexAddr esz i j => (∀ own xs, ρ i = .aq own xs → ∀ z ∈ xs, z.cells.length = esz) ∧ aA esz (ρ i) (ρ j) fun z => z = x
 | .c8 i j => bI (ρ i) (ρ j) fun z => z = x
 | .dH n i j => bR n (ρ i) (ρ j) fun z => z = x
 | .slice esz i lo hi mx => bB esz (ρ i) (lo.map ρ) (hi.map ρ) (mx.map ρ) fun z => z = x
 | .dI i lo hi => b8 (ρ i) (lo.map ρ) (hi.map ρ) fun z => z = x
 | .len kd i => aM kd (ρ i) ∧ eW (ρ i) H fun z => z = x
 | .lookup kd z m k ok => cc kd z (ρ m) (ρ k) ok H fun v => v = x
 | .fn f first cap => .fn f (first.map fun x => (ρ x).ae) (cap.map fun x => (ρ x).ae) = x
 | .extract i k => bD (ρ i) k fun z => z = x
 | .call f args none => match ρ f with
   | .fn (.func g) first cap => ∃ bP, xp (first.map AV.ae ++ (args.map fun x => (ρ x).ae) ++ cap.map AV.ae) bP ∧ au P.prog g bP H (fun r H' => r = x ∧ H' = H)
   | _ => False
 | .eC k i => cr k (ρ i) fun z => z = x
 | .gh i => fz (ρ i) fun z => z = x
 | .bytesOf i => eM 1 (ρ i) fun z => z = x
 | .mH esz bytes i => iJ esz bytes (ρ i) fun z => z = x
 | .strOf i => jr (ρ i) fun z => z = x
 | .mx big i j => wv big (ρ i) (ρ j) fun z => z = x
 | _ => False
def dv (P : Px) (st : Bool) (o : bX) (ρ : IX → AV) (H : List aa) (x : AV) : Prop :=
 match st with
 | true => cT P o ρ H x
 | false => ∀ H', cT P o ρ H' x
def sy (P : Px) (st : Bool) (o : bu) (env : Env) (H : List aa) (K : Env → Prop) : Prop :=
 match o.g with
 | none => ∃ x, dv P st o.op (ap env) H x ∧ K (put o.dst x env)
 | some (g, want) => gS env g want (fun _ => ∃ x, dv P st o.op (ap env) H x ∧ K (put o.dst x env)) (fun _ => K (put o.dst (.tuple []) env))
def tF (P : Px) : DT → Env → List aa → (Env → List aa → Prop) → Prop
 | .done, env, H, K => K env H
 | .take st o r, env, H, K => sy P st o env H fun env => tF P r env H K
 | .br o t rest, env, H, K => ra P o env H (fun env H => tF P t env H K) ∧ tF P rest env H K
 | .nil, _, _, _ => True
def sle (n0 : Nat) (env : Env) (H : List aa) (aE : Env) (H' : List aa) : Prop :=
 (∀ t, (get env t).le (get aE t)) ∧ (H' = H ∨ ∃ m, n0 ≤ m ∧ H' = H.take m ∧ ∀ t, (get aE t).aZ m = true)
def Gj (n0 : Nat) (env : Env) (H : List aa) (aE : Env) (H' : List aa) : Prop :=
 (∀ t, (get env t).le (get aE t)) ∧ (H' = H ∨ ∃ m, n0 ≤ m ∧ H' = H.take m ∧ (∀ id o, n0 ≤ id → id < m → H[id]? = some o → o.aZ m = true) ∧ ∀ t, (get aE t).aZ m = true)
def Gk (lo : Option Nat) (n0 : Nat) (env : Env) (H : List aa) (aE : Env) (H' : List aa) : Prop :=
 match lo with
 | none => sle n0 env H aE H'
 | some _ => Gj n0 env H aE H'
def km (n : Nat) (env : Env) : List AV := (List.range n).map fun t => (get env t).ae
def behind (id : Nat) (H' : List aa) (K : Option Code → List aa → Prop) : Prop :=
 match H'[id]? with
 | some (.loop .ready lc es) => K none (H'.set id (.loop .ew lc es))
 | some (.loop (.jump c) lc es) => K (some c) (H'.set id (.loop .ew lc es))
 | _ => False
def oU (j : Option Code) (Q : Exit → Env → List aa → Prop) (env : Env) (H : List aa) : Prop :=
 match j with
 | none => Q .normal env H
 | some .ret => Q .ret env H
 | some (.exit id) => Q (.exit id) env H
 | _ => False
def me (P : Px) (n0 : Nat) : IR → Env → List aa → (Exit → Env → List aa → Prop) → Prop
 | .skip, env, H, Q => Q .normal env H
 | .region ops live, env, H, Q => iZ P ops env H fun aE H' => Q .normal (ej live aE) H'
 | .draw t live, env, H, Q => tF P t env H fun aE H' => Q .normal (ej live aE) H'
 | .seq a b, env, H, Q => me P n0 a env H fun e aE H' => match e with
   | .normal => me P n0 b aE H' Q
   | e => Q e aE H'
 | .cond x a b, env, H, Q => eI (ap env x) fun q => (q = true → me P n0 a env H Q) ∧ (q = false → me P n0 b env H Q)
 | .block id a, env, H, Q => me P n0 a env H fun e aE H' => match e with
   | .exit id' => if id' = id then Q .normal aE H' else Q (.exit id') aE H'
   | e => Q e aE H'
 | .loop a, env, H, Q => ∃ (ι : Type) (I : ι → Prop) (se : ι → Env) (sh : ι → List aa) (μ : ι → Nat), (∃ i, I i ∧ Gk P.lo n0 env H (se i) (sh i)) ∧
    ∀ i, I i → me P n0 a (se i) (sh i) fun e aE H' => match e with
     | .normal => ∃ j, I j ∧ μ j < μ i ∧ Gk P.lo n0 aE H' (se j) (sh j)
     | e => Q e aE H'
 | .exit id, env, H, Q => Q (.exit id) env H
 | .ret, env, H, Q => Q .ret env H
 | .never, env, H, Q => False
 | .iL f lc, env, H, Q => match ap env f with
   | .fn (.func g) first cap => (∀ (as : Array Value) (w : World), (callFunc g as).run P.prog w = .ok (.enter g as) w) ∧
     ∃ bP, xp (first.map AV.ae ++ [.mE H.length] ++ cap.map AV.ae) bP ∧ dW P g bP (H ++ [.loop .ready lc (km lc.n env)]) fun _ H' => behind H.length H' fun j H'' => oU j Q env H''
   | _ => False
def AD.at_ (an : AD) (r i : Nat) : Nat := match an.find? fun x => x.1 == r && x.2.1 == i with | some x => x.2.2 | none => 0
def l9.at_ (lv : l9) (r : Nat) : Option (List Nat) := (lv.find? fun x => x.1 == r).map (·.2)
def EX (n : Nat) (o : Oper) : Bool := (match o.dst with | some d => d < n | none => true) && (match o.op with | .store .. | .mapUpdate .. => o.dst.isNone | _ => true)
def EY (ops : Array Oper) (o : Oper) : Option (Option (Nat × Bool)) :=
 match o.guard with
 | none => some none
 | some (j, want) => match (ops[j]?).bind (·.dst) with
   | some g => some (some (g, want))
   | none => none
def EZ (i : IX) (d : Nat) : Bool := match i with | .t s => decide (s ≠ d) | _ => true
def P9 (P : Program) (ops : Array Oper) (n : Nat) (fl : Nat) (o o' : Oper) : Option bu :=
 match fl, o.op, o.dst, o.guard, o'.op, o'.dst, o'.guard with
 | 2, .alloc e, some d, none, .store t (.tmp d') x, none, none =>
   if d = d' ∧ d < n ∧ t = e then (match aQ x, dz P t, fy P e with
    | some i, some m, some z => if EZ i d = true ∧ z.cells.length = m ∧ z.val = true ∧ m ≠ 0 then some ⟨none, some d, .qS m i⟩ else none
    | _, _, _ => none) else none
 | _, _, _, _, _, _, _ => none
def eD (P : Program) (ops : Array Oper) (an : AD) (n rid : Nat) (fu : Bool) : Nat → Nat → List Oper → Option (List bu)
 | _, _, [] => some []
 | 0, _, _ => none
 | fuel + 1, k, o :: r =>
   if an.at_ rid k = 1000 ∧ fu = true then
    match r with
    | o' :: r' => match P9 P ops n 2 o o', eD P ops an n rid fu fuel (k + 2) r' with
      | some x, some xs => some (x :: xs)
      | _, _ => none
    | [] => none
   else
    match EY ops o, eD P ops an n rid fu fuel (k + 1) r with
    | some g, some xs => if EX n o = true then some (⟨g, o.dst, A0 P o (an.at_ rid k)⟩ :: xs) else none
    | _, _ => none
def bX.all : bX → List IX
 | .set i _ => [i]
 | .pick c a b => [c, a, b]
 | .bin _ i j | .shift _ i j | .gP _ i j | .indexAddr _ i j | .c8 i j | .dH _ i j | .lookup _ _ i j _ | .mx _ i j | .store _ i j | .mG _ i j | .append _ _ i j | .iW _ _ _ i j | .copy _ i j => [i, j]
 | .mJ _ _ i | .yC _ i | .iU _ _ i | .un _ i | .box i | .lg i | .qS _ i | .load _ i | .sd _ _ i | .ee i | .nilCheck i | .fieldAddr _ _ i | .field _ _ i | .len _ i | .sf _ _ _ i | .mH _ _ i | .extract i _ | .eC _ i | .gh i | .bytesOf i | .strOf i => [i]
 | .eU i s => [i, .t s]
 | .j4 _ i j k => [i, j, k]
 | .build _ ps => ps.map fun q => q.2.2
 | .buildSlice _ _ _ _ ps | .AG _ _ _ ps => ps.map fun q => q.2
 | .slice _ i lo hi m | .oO _ i lo hi m => i :: (lo.toList ++ hi.toList ++ m.toList)
 | .dI i lo hi => i :: (lo.toList ++ hi.toList)
 | .fn _ first cap => first ++ cap
 | .call f args _ => f :: args
 | .alloc _ | .mI | .never => []
def IX.OF : List IX → List Nat := fun l => l.filterMap fun i => match i with | .t s => some s | .c _ => none
def bX.kill : bX → List Nat
 | .set (.t s) true => [s]
 | .eU _ s => [s]
 | .append _ _ (.t s) _ => [s]
 | .call _ args pass => (match pass with | some j => (match args[j]? with | some (.t s) => [s] | _ => []) | none => [])
 | _ => []
def bX.Qa : bX → Bool
 | .box _ | .alloc _ | .ee _ | .store .. | .mG .. | .sd .. | .eU .. | .sf .. | .mI | .j4 .. | .call .. | .copy .. | .yC .. | .AG .. | .iW .. | .mJ .. | .never => true
 | _ => false
def bu.lk (o : bu) : List Nat := IX.OF o.op.all ++ (match o.g with | some (g, _) => [g] | none => [])
def bX.Tk (o : bX) (pure : Bool) : Bool :=
 match o with
 | .set _ take => !take
 | .call _ _ none => pure
 | .never | .call .. | .append .. => false
 | .qS .. => false
 | o => !o.Qa
def bX.xr : bX → Bool
 | .box _ | .alloc _ | .mI => true
 | _ => false
def bX.stays : bX → Bool
 | .call .. => false
 | _ => true
def rb (st : Bool) (oi oj : bu) : Bool :=
 (match oi.dst with | some d => !oj.lk.contains d && oj.dst != some d && !oj.op.kill.contains d | none => true) &&
 (match oj.dst with | some d => !oi.lk.contains d | none => true) &&
 oj.op.kill.all (fun s => !oi.lk.contains s) && (!st || !oj.op.Qa || (oj.op.xr && oi.op.stays))
def dg (ops : Array Oper) : Nat → Nat → Nat → Bool
 | 0, _, _ => false
 | f + 1, j, i => match ops[j]? with
   | some o => o.after.any fun e => Region.binds .any e && (e.on == i || dg ops f e.on i)
   | none => false
def mQ (ops : Array Oper) (il : List bu) (listed : Array Bool) (i : Nat) (st : Bool) : Bool :=
 (List.range ops.size).all fun j => j == i || listed.getD j true || dg ops ops.size j i || rb st (il.getD i default) (il.getD j default)
def th (ops : Array Oper) (il : List bu) : Nat → Array Bool → Option (List Nat) → wu → Bool
 | _, listed, none, .done => (Region.ready .any ops listed).isEmpty
 | f + 1, listed, none, .take i st r => (Region.ready .any ops listed).contains i && (il.getD i default).op.Tk true && mQ ops il listed i st && th ops il f (listed.setIfInBounds i true) none r
 | f + 1, listed, none, .br i t rest => (match Region.ready .any ops listed with | k :: ks => k == i && th ops il f (listed.setIfInBounds i true) none t && th ops il (f + 1) listed (some ks) rest | [] => false)
 | f + 1, listed, some (k :: ks), .br i t rest => k == i && th ops il f (listed.setIfInBounds i true) none t && th ops il (f + 1) listed (some ks) rest
 | _, _, some [], .nil => true
 | _, _, _, _ => false
def jw : List Edge → Nat
 | [] => 0
 | e :: r => if Region.binds .any e = true then (1 <<< e.on) ||| jw r else jw r
def gv (rs : List Nat) : List Edge → Nat
 | [] => 0
 | e :: r => if Region.binds .any e = true ∧ e.on < rs.length then ((1 <<< e.on) ||| rs.getD e.on 0) ||| gv rs r else gv rs r
def eN : List Oper → List Nat → List Nat
 | [], acc => acc
 | o :: r, acc => eN r (acc ++ [gv acc o.after.toList])
def lz (m : Nat) : Nat → List Nat → List Nat
 | _, [] => []
 | i, a :: r => if m.testBit i = false ∧ a &&& m = a then i :: lz m (i + 1) r else lz m (i + 1) r
def A6 (m i : Nat) (st : Bool) (oi : bu) : Nat → List Nat → List bu → Bool
 | j, r :: rs, o :: os => (j == i || m.testBit j || r.testBit i || rb st oi o) && A6 m i st oi (j + 1) rs os
 | _, _, [] => true
 | _, [], _ :: _ => false
def kF (am rm : List Nat) (il : List bu) : Nat → Nat → Option (List Nat) → wu → Bool
 | _, m, none, .done => (lz m 0 am).isEmpty
 | f + 1, m, none, .take i st r => (lz m 0 am).contains i && (il.getD i default).op.Tk true && A6 m i st (il.getD i default) 0 rm il && kF am rm il f (m ||| (1 <<< i)) none r
 | f + 1, m, none, .br i t rest => (match lz m 0 am with | k :: ks => k == i && kF am rm il f (m ||| (1 <<< i)) none t && kF am rm il (f + 1) m (some ks) rest | [] => false)
 | f + 1, m, some (k :: ks), .br i t rest => k == i && kF am rm il f (m ||| (1 <<< i)) none t && kF am rm il (f + 1) m (some ks) rest
 | _, _, some [], .nil => true
 | _, _, _, _ => false
def ma.at_ (pl : ma) (r : Nat) : wu := match pl.find? fun x => x.1 == r with | some x => x.2 | none => .done
def comp (P : Program) (an : AD) (lv : l9) (pl : ma) (n : Nat) : Code → Option IR
 | .skip => some .skip
 | .region id ops false => (eD P ops an n id true (ops.size + 1) 0 ops.toList).map fun l => .region l (lv.at_ id)
 | .region id ops true => match eD P ops an n id false (ops.size + 1) 0 ops.toList with
   | some il => if P.follows .mixedOrders = true ∧ kF (ops.toList.map fun o => jw o.after.toList) (eN ops.toList []) il ops.size 0 none (pl.at_ id) = true then some (.draw (inst il (pl.at_ id)) (lv.at_ id)) else none
   | none => none
 | .seq a b => match comp P an lv pl n a, comp P an lv pl n b with
   | some x, some y => some (.seq x y)
   | _, _ => none
 | .cond c a b => match aQ c, comp P an lv pl n a, comp P an lv pl n b with
   | some i, some x, some y => some (.cond i x y)
   | _, _, _ => none
 | .block id a => (comp P an lv pl n a).map (.block id)
 | .loop a => (comp P an lv pl n a).map .loop
 | .exit id => some (.exit id)
 | .ret => some .ret
 | .rangeFunc f ps as bd => (aQ f).map fun i => .iL i ⟨n, ps.toList, as, bd, an, lv, pl⟩
 | _ => some .never
theorem iM (n k : Nat) : (1 <<< n).testBit k = decide (n = k) := by
 rw [Nat.shiftLeft_eq, Nat.one_mul, Nat.testBit_two_pow]
theorem Dr (m : Nat) : ∀ (es : List Edge), (jw es &&& m = jw es) ↔ ∀ e ∈ es, Region.binds .any e = true → m.testBit e.on = true := by
 have key : ∀ a : Nat, (a &&& m = a) ↔ ∀ i, a.testBit i = true → m.testBit i = true := by
  intro a
  constructor
  ·intro h i hi
   rw [← h] at hi
   simp only [Nat.testBit_and, Bool.and_eq_true] at hi
   exact hi.2
  ·intro h
   apply Nat.eq_of_testBit_eq
   intro i
   rw [Nat.testBit_and]
   cases ha : a.testBit i with
   | false => simp
   | true => simp [h i ha]
 intro es
 rw [key]
 induction es with
 | nil => simp [jw]
 | cons e r ih =>
   simp only [jw]
   split
   ·rename_i hb
    constructor
    ·intro h e' Ds dT
     rcases List.mem_cons.1 Ds with rfl | Ds
     ·exact h _ (by simp [])
     ·exact ih.1 (fun i hi => h i (by simp [hi])) e' Ds dT
    ·intro h i hi
     simp only [Nat.testBit_or, Bool.or_eq_true, iM, decide_eq_true_eq] at hi
     rcases hi with rfl | hi
     ·exact h e (by simp) hb
     ·exact ih.2 (fun e' Ds dT => h e' (List.mem_cons_of_mem _ Ds) dT) i hi
   ·rename_i hb
    constructor
    ·intro h e' Ds dT
     rcases List.mem_cons.1 Ds with rfl | Ds
     ·exact absurd dT hb
     ·exact ih.1 h e' Ds dT
    ·intro h
     exact ih.2 (fun e' Ds dT => h e' (List.mem_cons_of_mem _ Ds) dT)
theorem lA {rs : List Nat} {i : Nat} : ∀ {es : List Edge}, (gv rs es).testBit i = true → ∃ e ∈ es, Region.binds .any e = true ∧ e.on < rs.length ∧ (e.on = i ∨ (rs.getD e.on 0).testBit i = true)
 | [], h => by simp [gv] at h
 | e :: r, h => by
   simp only [gv] at h
   split at h
   ·rename_i hb
    simp only [Nat.testBit_or, Bool.or_eq_true, iM, decide_eq_true_eq] at h
    rcases h with h | h
    ·exact ⟨e, by simp, hb.1, hb.2, h⟩
    ·obtain ⟨e', Ds, h'⟩ := lA h
     exact ⟨e', List.mem_cons_of_mem _ Ds, h'⟩
   ·obtain ⟨e', Ds, h'⟩ := lA h
    exact ⟨e', List.mem_cons_of_mem _ Ds, h'⟩
theorem uC : ∀ (l : List Oper) (acc : List Nat), ∃ r, eN l acc = acc ++ r ∧ r.length = l.length
 | [], acc => ⟨[], by simp [eN], rfl⟩
 | o :: l, acc => by
   obtain ⟨r, h1, h2⟩ := uC l (acc ++ [gv acc o.after.toList])
   exact ⟨gv acc o.after.toList :: r, by simp [eN, h1], by simp [h2]⟩
theorem uD : ∀ (l : List Oper) (acc : List Nat) (j : Nat) (o : Oper), l[j]? = some o → (eN l acc)[acc.length + j]? = some (gv ((eN l acc).take (acc.length + j)) o.after.toList)
 | [], acc, j, o, h => by simp at h
 | x :: l, acc, 0, o, h => by
   simp at h
   subst h
   simp only [eN]
   obtain ⟨r, h1, h2⟩ := uC l (acc ++ [gv acc x.after.toList])
   rw [h1]
   simp
 | x :: l, acc, j + 1, o, h => by
   have ih := uD l (acc ++ [gv acc x.after.toList]) j o (by simpa using h)
   simp only [eN]
   simp only [List.length_append, List.length_cons, List.length_nil] at ih
   rw [show acc.length + (j + 1) = acc.length + (0 + 1) + j by omega]
   exact ih
theorem Dt {ops : Array Oper} {i : Nat} : ∀ (j f : Nat), j < f → j < ops.size → ((eN ops.toList []).getD j 0).testBit i = true → dg ops f j i = true := by
 intro j
 induction j using Nat.strongRecOn with
 | _ j ih =>
   intro f hf hj h
   have Qb : ops[j]? = some ops[j] := by simp [hj]
   have hg := uD ops.toList [] j ops[j] (by simp [hj])
   simp only [List.length_nil, Nat.zero_add] at hg
   rw [List.getD_eq_getElem?_getD, hg, Option.getD_some] at h
   obtain ⟨e, he, hb, a8, TK⟩ := lA h
   have ms : e.on < j := by simp at a8; omega
   cases f with
   | zero => omega
   | succ f =>
     simp only [dg, Qb]
     rw [Array.any_eq_true']
     refine ⟨e, by simpa using he, ?_⟩
     simp only [Bool.and_eq_true, Bool.or_eq_true, beq_iff_eq]
     refine ⟨hb, ?_⟩
     rcases TK with h1 | h1
     ·exact .inl h1
     ·refine .inr (ih e.on ms f (by omega) (by omega) ?_)
      have : ((eN ops.toList []).take j).getD e.on 0 = (eN ops.toList []).getD e.on 0 := by
       simp [List.getD_eq_getElem?_getD, ms]
      rw [this] at h1
      exact h1
def bitsOf (n : Nat) (listed : Array Bool) (m : Nat) : Prop := listed.size = n ∧ ∀ k, m.testBit k = listed.getD k false
theorem uE {n : Nat} {listed : Array Bool} {m i : Nat} (h : bitsOf n listed m) (hi : i < n) : bitsOf n (listed.setIfInBounds i true) (m ||| (1 <<< i)) := by
 obtain ⟨h1, h2⟩ := h
 refine ⟨by simp [h1], fun k => ?_⟩
 rw [Nat.testBit_or, h2 k, iM]
 simp only [Array.getD_eq_getD_getElem?, Array.getElem?_setIfInBounds]
 by_cases hk : i = k
 ·subst hk
  simp [h1, hi]
 ·simp [hk]
theorem uF {ops : Array Oper} {listed : Array Bool} {m : Nat} (hb : bitsOf ops.size listed m) : ∀ (l : List Oper) (i : Nat), (∀ j, l[j]? = ops[i + j]?) →
 lz m i (l.map fun o => jw o.after.toList) = (List.range' i l.length).filter fun i => !listed.getD i true && ((ops[i]?).map (·.after.all fun e => !Region.binds .any e || listed.getD e.on false)).getD false
 | [], i, _ => by simp [lz]
 | o :: l, i, h => by
   have h0 : ops[i]? = some o := by simpa using (h 0).symm
   have hi : i < ops.size := (Array.getElem?_eq_some_iff.1 h0).1
   have ih := uF hb l (i + 1) (fun j => by have := h (j + 1); simpa [Nat.add_assoc, Nat.add_comm 1 j] using this)
   simp only [List.map_cons, lz, List.length_cons, List.range'_succ, List.filter_cons]
   have e1 : (m.testBit i = false) ↔ (listed.getD i true = false) := by
    rw [hb.2 i]
    have : i < listed.size := by rw [hb.1]; exact hi
    simp [Array.getD, this]
   have e2 : (jw o.after.toList &&& m = jw o.after.toList) ↔ (o.after.all fun e => !Region.binds .any e || listed.getD e.on false) = true := by
    rw [Dr, Array.all_eq_true']
    simp only [Array.mem_toList_iff, Bool.or_eq_true, Bool.not_eq_true', hb.2]
    constructor
    ·intro h e he
     cases Yt : Region.binds .any e with
     | false => exact .inl rfl
     | true => exact .inr (h e he Yt)
    ·intro h e he Yt
     rcases h e he with h | h
     ·rw [Yt] at h; cases h
     ·exact h
   by_cases hc : m.testBit i = false ∧ jw o.after.toList &&& m = jw o.after.toList
   ·rw [if_pos hc, if_pos (by rw [h0]; simp only [Option.map_some, Option.getD_some, e1.1 hc.1, e2.1 hc.2, Bool.not_false, Bool.and_self]), ih]
   ·rw [if_neg hc, if_neg (by
     rw [h0]
     simp only [Option.map_some, Option.getD_some, Bool.and_eq_true, Bool.not_eq_true']
     intro h'
     exact hc ⟨e1.2 h'.1, e2.2 h'.2⟩), ih]
theorem rc {ops : Array Oper} {listed : Array Bool} {m : Nat} (hb : bitsOf ops.size listed m) : lz m 0 (ops.toList.map fun o => jw o.after.toList) = Region.ready .any ops listed := by
 rw [uF hb ops.toList 0 (by simp)]
 unfold Region.ready
 simp [List.range_eq_range']
theorem uG {ops : Array Oper} {il : List bu} {listed : Array Bool} {m i : Nat} {st : Bool} {oi : bu} (hb : bitsOf ops.size listed m) : ∀ (rs : List Nat) (os : List bu) (j : Nat), (∀ k, os[k]? = il[j + k]?) → (∀ k, rs[k]? = (eN ops.toList [])[j + k]?) → A6 m i st oi j rs os = true →
 ∀ k, j ≤ k → k < ops.size → k < il.length → (k == i || listed.getD k true || dg ops ops.size k i || rb st oi (il.getD k default)) = true
 | rs, [], j, h1, _, _, k, OE, _, hk => by
   have := h1 (k - j)
   rw [show j + (k - j) = k by omega] at this
   simp at this
   omega
 | [], o :: os, j, h1, h2, h, _, _, _, _ => by simp [A6] at h
 | r :: rs, o :: os, j, h1, h2, h, k, OE, Dj, EU => by
   simp only [A6, Bool.and_eq_true] at h
   by_cases hk : k = j
   ·subst hk
    have ho : il.getD k default = o := by
     have := h1 0
     simp at this
     rw [List.getD_eq_getElem?_getD, ← this]; rfl
    have hr : (eN ops.toList []).getD k 0 = r := by
     have := h2 0
     simp at this
     rw [List.getD_eq_getElem?_getD, ← this]; rfl
    have h := h.1
    simp only [Bool.or_eq_true] at h ⊢
    rcases h with ((h | h) | h) | h
    ·exact .inl (.inl (.inl h))
    ·refine .inl (.inl (.inr ?_))
     rw [hb.2 k] at h
     have : k < listed.size := by rw [hb.1]; exact Dj
     simpa [Array.getD, this] using h
    ·exact .inl (.inr (Dt k _ Dj Dj (by rw [hr]; exact h)))
    ·rw [ho]; exact .inr h
   ·exact uG hb rs os (j + 1) (fun q => by have := h1 (q + 1); simpa [Nat.add_assoc, Nat.add_comm 1 q] using this) (fun q => by have := h2 (q + 1); simpa [Nat.add_assoc, Nat.add_comm 1 q] using this) h.2 k (by omega) Dj EU
theorem pQ {ops : Array Oper} {listed : Array Bool} {i : Nat} (h : i ∈ Region.ready .any ops listed) : i < ops.size := by
 unfold Region.ready at h
 simp at h
 exact h.1
theorem IA {ops : Array Oper} {il : List bu} (cZ : il.length = ops.size) : ∀ (p : wu) (f m : Nat) (listed : Array Bool) (rem : Option (List Nat)), bitsOf ops.size listed m → (∀ ks, rem = some ks → ∀ k ∈ ks, k < ops.size) →
 kF (ops.toList.map fun o => jw o.after.toList) (eN ops.toList []) il f m rem p = true → th ops il f listed rem p = true := by
 intro p
 induction p with
 | done =>
   intro f m listed rem hb _ h
   cases rem with
   | none => cases f <;> (simp only [kF, rc hb] at h; simpa [th] using h)
   | some ks => cases ks <;> cases f <;> simp [kF] at h
 | nil =>
   intro f m listed rem hb _ h
   cases rem with
   | none => cases f <;> simp [kF] at h
   | some ks => cases ks <;> cases f <;> simp [kF] at h <;> simp [th]
 | take i st r ih =>
   intro f m listed rem hb _ h
   cases rem with
   | some ks => cases ks <;> cases f <;> simp [kF] at h
   | none =>
     cases f with
     | zero => simp [kF] at h
     | succ f =>
       simp only [kF, rc hb, Bool.and_eq_true] at h
       obtain ⟨⟨⟨h1, h2⟩, h3⟩, h4⟩ := h
       have hi : i < ops.size := pQ (by simpa using h1)
       simp only [th, Bool.and_eq_true]
       refine ⟨⟨⟨h1, h2⟩, ?_⟩, ih _ _ _ _ (uE hb hi) (by simp) h4⟩
       unfold mQ
       refine List.all_eq_true.2 fun k hk => ?_
       have PV : k < ops.size := List.mem_range.1 hk
       exact uG hb (eN ops.toList []) il 0 (fun k => by rw [Nat.zero_add]) (fun k => by rw [Nat.zero_add]) h3 k (Nat.zero_le _) PV (by omega)
 | br i t rest IB HP =>
   intro f m listed rem hb Yu h
   cases f with
   | zero => cases rem with
     | none => simp [kF] at h
     | some ks => cases ks <;> simp [kF] at h
   | succ f =>
     cases rem with
     | none =>
       simp only [kF, rc hb] at h
       simp only [th]
       split at h
       ·rename_i k ks hr
        simp only [Bool.and_eq_true, beq_iff_eq] at h
        obtain ⟨⟨rfl, h1⟩, h2⟩ := h
        have hk : ∀ q ∈ k :: ks, q < ops.size := fun q hq => pQ (by rw [hr]; exact hq)
        simp only [Bool.and_eq_true, beq_iff_eq, true_and]
        exact ⟨IB _ _ _ _ (uE hb (hk k (by simp))) (by simp) h1, HP _ _ _ _ hb (fun ks' e q hq => by cases e; exact hk q (by simp [hq])) h2⟩
       ·cases h
     | some ks =>
       cases ks with
       | nil => simp [kF] at h
       | cons k ks =>
         simp only [kF, Bool.and_eq_true, beq_iff_eq] at h
         obtain ⟨⟨rfl, h1⟩, h2⟩ := h
         have hk := Yu _ rfl
         simp only [th, Bool.and_eq_true, beq_iff_eq, true_and]
         exact ⟨IB _ _ _ _ (uE hb (hk k (by simp))) (by simp) h1, HP _ _ _ _ hb (fun ks' e q hq => by cases e; exact hk q (by simp [hq])) h2⟩
theorem Gl (n : Nat) : bitsOf n (Array.replicate n false) 0 := ⟨by simp, fun k => by
 simp only [Nat.zero_testBit, Array.getD_eq_getD_getElem?, Array.getElem?_replicate]
 split <;> rfl⟩
section
variable {ro : Option Nat} {P : Program} {lo : Option Nat} {A : Perm} {n : Nat} {M : Mem} {L : List Nat} {w : World} {H : List aa} {env : Env} {O : Pos → Option Nat} {a : Act} {ev : Nat → Value} {ea : Nat → AV}
def Dv (A : Perm) (n : Nat) (M0 : Mem) (L0 : List Nat) (w0 : World) (Q : Exit → Env → List aa → Prop) (e : Exit) (a : Act) (w : World) : Prop :=
 ∃ A' M L H env O, A'.Le A ∧ Q e env H ∧ Fr A' n M L w H env O a ∧ Ext A M0 w0 M w ∧ L0 <+: L
theorem Fr.Dw (h : Fr A n M L w H env O a) {aE : Env} (he : get aE = get env) : Fr A n M L w H aE O a := ⟨by rw [he]; exact h.st, h.size, h.defers⟩
theorem Fr.weaken (h : Fr A n M L w H env O a) {aE : Env} (hl : ∀ t, (get env t).le (get aE t)) : ∃ O', Fr A n M L w H aE O' a := by
 obtain ⟨O', h'⟩ := h.st.weaken hl
 exact ⟨O', h', h.size, h.defers⟩
theorem le_refl (x : AV) : x.le x := .inl rfl
theorem Qc (x : AV) : x.le .any := .inr (.inl rfl)
theorem xt (live : Option (List Nat)) (env : Env) (t : Nat) : (get env t).le (get (ej live env) t) := by
 cases live with
 | none => exact le_refl _
 | some l =>
   simp only [ej]
   induction l with
   | nil => exact Qc _
   | cons s l ih =>
     simp only [List.map_cons, get]
     split
     ·rename_i e; subst e; exact le_refl _
     ·exact ih
theorem get_mem {env : Env} {t : Nat} {x : AV} (h : get env t = x) : x = .any ∨ (t, x) ∈ env := by
 induction env with
 | nil => left; exact h.symm
 | cons p r ih =>
   obtain ⟨k, v⟩ := p
   simp only [get] at h
   split at h
   ·rename_i e; subst e; subst h; right; simp
   ·rcases ih h with h' | h'
    ·exact .inl h'
    ·exact .inr (List.mem_cons_of_mem _ h')
theorem aB (n0 : Nat) (env : Env) (H : List aa) : sle n0 env H env H := ⟨fun t => le_refl _, .inl rfl⟩
def fC (lo : Option Nat) (n0 : Nat) (A : Perm) : Prop := (∀ id, id < n0 → ∃ m, m ≤ n0 ∧ A.top id = some m) ∧ match lo with
 | none => ∀ id, n0 ≤ id → A.top id = some (id + 1)
 | some l => l = n0 ∧ ∀ id, n0 ≤ id → A.top id = none
theorem fC.opens {n0 : Nat} (h : fC lo n0 A) : ∀ l, lo = some l → ∀ id, l ≤ id → A.top id = none := by
 rintro l rfl id bn
 obtain ⟨_, rfl, h⟩ := h
 exact h id bn
theorem fC.low {n0 m : Nat} (h : fC lo n0 A) (hm : n0 ≤ m) (hs : St A M L w H ev ea O) : ∀ id o, id < n0 → H[id]? = some o → o.aZ m = true := by
 intro id o bn ho
 obtain ⟨k, hk, e⟩ := h.1 id bn
 have := hs.bC id o ho
 refine aa.cE ?_ o this
 unfold Perm.jc
 rw [e]
 exact Nat.le_trans (Nat.min_le_left _ _) (by omega)
theorem fC.closed {n0 m : Nat} (h : fC none n0 A) (hm : n0 ≤ m) (hs : St A M L w H ev ea O) : ∀ id o, id < m → H[id]? = some o → o.aZ m = true := by
 intro id o bn ho
 by_cases e : id < n0
 ·exact h.low hm hs id o e ho
 ·have e1 := h.2 id (by omega)
  have := hs.bC id o ho
  refine aa.cE ?_ o this
  unfold Perm.jc
  rw [e1]
  exact Nat.le_trans (Nat.min_le_left _ _) (by omega)
theorem Fr.sle (h : Fr A n M L w H env O a) {aE : Env} {H' : List aa} {L0 : List Nat} (hA : fC lo L0.length A) (hL : L0 <+: L) (hl : Gk lo L0.length env H aE H') : ∃ L' O', Fr A n M L' w H' aE O' a ∧ L0 <+: L' := by
 have wJ : Gj L0.length env H aE H' := by
  unfold Gk at hl
  split at hl
  ·obtain ⟨h1, h2⟩ := hl
   refine ⟨h1, ?_⟩
   rcases h2 with rfl | ⟨m, hm, rfl, hb⟩
   ·exact .inl rfl
   ·exact .inr ⟨m, hm, rfl, fun id o _ bn ho => hA.closed hm h.st id o bn ho, hb⟩
  ·exact hl
 obtain ⟨h1, h2⟩ := wJ
 obtain ⟨O', hf⟩ := h.weaken h1
 rcases h2 with rfl | ⟨m, hm, rfl, hc, hb⟩
 ·exact ⟨L, O', hf, hL⟩
 ·obtain ⟨O'', bQ⟩ := hf.st.cut m (fun id o bn ho => by
   by_cases e : id < L0.length
   ·exact hA.low hm hf.st id o e ho
   ·exact hc id o (by omega) bn ho) hb
  refine ⟨L.take m, O'', ⟨bQ, hf.size, hf.defers⟩, ?_⟩
  obtain ⟨r, rfl⟩ := hL
  exact ⟨r.take (m - L0.length), by rw [List.take_append, List.take_of_length_le hm]⟩
theorem yY {ops : Array Oper} {j g : Nat} (hg : (ops[j]?).bind (·.dst) = some g) (hf : Fr A n M L w H env O a) {b : Bool} (hb : get env g = .bool b) : yielded ops a.tmps j = some b := by
 have hr := hf.st.env g
 rw [hb] at hr
 generalize hv : a.tmps.getD g undef = v at hr
 cases hr
 have : a.tmps[g]? = some (.bool b) := by
  rw [Array.getD_eq_getD_getElem?] at hv
  cases h : a.tmps[g]? with
  | none => rw [h] at hv; cases hv
  | some v => rw [h] at hv; simp at hv; rw [hv]
 simp [yielded, hg, this]
theorem wK {ops : Array Oper} {j g : Nat} (hg : (ops[j]?).bind (·.dst) = some g) (hf : Fr A n M L w H env O a) (hb : get env g = .tuple []) : yielded ops a.tmps j = none := by
 have hr := hf.st.env g
 rw [hb] at hr
 generalize hv : a.tmps.getD g undef = v at hr
 cases hr with
 | tuple cs _ h =>
 rw [Array.getD_eq_getD_getElem?] at hv
 simp only [yielded, hg, Option.bind_some]
 cases h : a.tmps[g]? with
 | none => rfl
 | some v => rw [h] at hv; simp at hv; rw [hv]
theorem xu {ops : Array Oper} {o : Oper} {fl : Nat} {g : Option (Nat × Bool)} (hg : EY ops o = some g) (fO : EX n o = true) (hp : ∀ l, lo = some l → ∀ id, l ≤ id → A.top id = none) (hf : Fr A n M L w H env O a) {K : Env → List aa → Prop} (h : ra ⟨P, lo⟩ ⟨g, o.dst, A0 P o fl⟩ env H K) (Q : Exit → Act → World → Prop) :
 if Region.wanted o (yielded ops a.tmps) then o.wpIn (wf ro) 0 P a w (mC A n M L w K) Q else mC A n M L w K (a.put o.dst undef) w := by
 simp only [EX, Bool.and_eq_true] at fO
 have hd : ∀ d, o.dst = some d → d < n := by
  intro d hd
  have := fO.1
  rw [hd] at this
  simpa using this
 have hn : (match o.op with | .store .. | .mapUpdate .. => o.dst = none | _ => True) := by
  have := fO.2
  split at this <;> first | trivial | skip
  ·simpa using this
  ·simpa using this
 unfold EY at hg
 split at hg
 ·rename_i Ld
  cases hg
  rw [if_pos (by simp [Region.wanted, Ld])]
  exact sx o hp hf hd hn h
 ·rename_i j want Ld
  split at hg <;> cases hg
  rename_i g hgj
  simp only [ra, gS] at h
  split at h
  rotate_left
  ·rename_i hb
   have hy := wK hgj hf hb
   rw [if_neg (by simp [Region.wanted, Ld, hy])]
   obtain ⟨O', oS⟩ := hf.oq (dst := o.dst) (v := undef) (x := .tuple []) hd (.tuple [] [] .nil) (by intro _ _ e; cases e)
   exact ⟨M, L, H, _, O', h, oS, Ext.refl A M w, List.prefix_refl L⟩
  ·exact h.elim
  rename_i b hb
  have hy := yY hgj hf hb
  have T1 : get ((g, AV.bool b) :: env) = get env := by
   rw [Ia]; funext t; simp only [fe]; split
   ·rename_i e; rw [e, hb]
   ·rfl
  by_cases hw : b = want
  ·subst hw
   rw [if_pos (by simp [Region.wanted, Ld, hy])]
   exact sx o hp (hf.Dw T1) hd hn (h.1 rfl)
  ·have E0 : b = !want := by cases b <;> cases want <;> simp_all
   subst E0
   rw [if_neg (by simp [Region.wanted, Ld, hy])]
   obtain ⟨O', oS⟩ := (hf.Dw T1).oq (dst := o.dst) (v := undef) (x := .tuple []) hd (.tuple [] [] .nil) (by intro _ _ e; cases e)
   exact ⟨M, L, H, _, O', h.2 rfl, oS, Ext.refl A M w, List.prefix_refl L⟩
theorem mC.trans {K K' : Env → List aa → Prop} {M' : Mem} {L' : List Nat} {w' : World} {a' : Act} {w'' : World} (ct : Ext A M w M' w') (hL : L <+: L') (h : mC A n M' L' w' K a' w'') : mC A n M L w K a' w'' := by
 obtain ⟨M2, L2, H2, cH, O2, h1, h2, h3, h4⟩ := h
 exact ⟨M2, L2, H2, cH, O2, h1, h2, ct.trans h3, hL.trans h4⟩
theorem A7 (w : World) (c c' : Array Value) (e : TypeId) : ({ w with heap := w.heap.push (.cells c e) } : World).setRow w.heap.size c' = { w with heap := w.heap.push (.cells c' e) } := by
 simp only [World.setRow]
 congr 1
 apply Array.ext
 ·simp
 ·intro i h1 h2
  rw [Array.getElem_modify]
  by_cases hi : w.heap.size = i
  ·subst hi; simp
  ·simp only [hi, if_false]
   have : i < w.heap.size := by simp at h2; omega
   rw [Array.getElem_push_lt this, Array.getElem_push_lt this]
theorem Dx {ops : Array Oper} {o o' : Oper} {x : bu} (hx : P9 P ops n 2 o o' = some x) (hf : Fr A n M L w H env O a) {K : Env → List aa → Prop} (h : ra ⟨P, lo⟩ x env H K) (r : List Oper) (Q : Exit → Act → World → Prop)
 (hrest : ∀ a' w', mC A n M L w K a' w' → wpListIn (wf ro) 0 P ops Q r a' w') : wpListIn (wf ro) 0 P ops Q (o :: o' :: r) a w := by
 unfold P9 at hx
 split at hx <;> try cases hx
 rename_i e d t d' y _ cI fO Ld Yv T2 Yw
 split at hx <;> try cases hx
 rename_i hcond
 obtain ⟨rfl, TV, rfl⟩ := hcond
 split at hx <;> try cases hx
 rename_i i m z hi hm hz
 split at hx <;> cases hx
 rename_i hcond
 obtain ⟨ep, iI, sj, AQ⟩ := hcond
 simp only [ra, bt] at h
 obtain ⟨jq, iD, j5, hK⟩ := h
 have hr := hf.eval hi
 have LF := hr.fL jq
 have pH := LF.length
 -- the zero value
 obtain ⟨inf, iG, cZ⟩ := Option.map_eq_some_iff.1 hm
 unfold fy at hz
 simp only [iG] at hz
 split at hz <;> try cases hz
 rename_i zv ul
 have tB : zv.cells.size = m := by have := ((cA (M := M) (L := L) hz).fL sj).length; rw [iI] at this; simpa using this
 have hrun1 : (execOp a.eval o).run P w = .ok (.value (.pointer (some ⟨w.heap.size, 0, none⟩))) { w with heap := w.heap.push (.cells zv.cells t) } := by
  simp only [execOp, cI]
  exact aV (by simp only [Instr.alloc, zeroValue, typeInfo, Sem.run_bind, run_program, Result.andThen_ok, iG, Sem.run_pure, ul]; rfl)
 have hsize : d < a.tmps.size := by rw [hf.size]; exact TV
 have P3 : (a.put (some d) (.pointer (some ⟨w.heap.size, 0, none⟩))).eval (.tmp d) = .pointer (some ⟨w.heap.size, 0, none⟩) := by
  show (a.put (some d) _).tmps.getD d undef = _
  rw [uf a d _ hsize d]; simp [fe]
 have Yx : (a.put (some d) (.pointer (some ⟨w.heap.size, 0, none⟩))).eval y = a.eval y := by
  cases y with
  | tmp s =>
    simp [aQ] at hi; subst hi
    simp [EZ] at ep
    show (a.put (some d) _).tmps.getD s undef = a.tmps.getD s undef
    rw [uf a d _ hsize s]; simp [fe, ep]
  | _ => rfl
 have bQ := run_storeCells_at P w.heap.size 0 t (a.eval y).cells.toList 0 zv.cells { w with heap := w.heap.push (.cells zv.cells t) } (dy w _) (by simp at pH ⊢; omega) (LF.gg j5)
 have hwhole : (zv.cells.toList.take (0 + 0) ++ (a.eval y).cells.toList ++ zv.cells.toList.drop (0 + 0 + (a.eval y).cells.toList.length)).toArray = (a.eval y).cells := by
  have : zv.cells.toList.drop (0 + 0 + (a.eval y).cells.toList.length) = [] := List.drop_eq_nil_of_le (by simp at pH ⊢; omega)
  rw [this]; simp
 rw [hwhole, A7] at bQ
 have hrun2 : (execOp (a.put (some d) (.pointer (some ⟨w.heap.size, 0, none⟩))).eval o').run P { w with heap := w.heap.push (.cells zv.cells t) } = .ok .skip { w with heap := w.heap.push (.cells (a.eval y).cells t) } := by
  simp only [execOp, Yv, P3, Yx]
  refine pL ?_
  have hs : (sizeOf t).run P { w with heap := w.heap.push (.cells zv.cells t) } = .ok m { w with heap := w.heap.push (.cells zv.cells t) } := by simp [sizeOf, typeInfo, iG, cZ]
  simp only [Instr.storeAt, Instr.sureAddr, storeVar, Sem.run_bind, Sem.run_pure, Result.andThen_ok, hs, ne_eq]
  rw [if_neg (by simp at pH; omega)]
  exact bQ
 obtain ⟨g1, g2, g3⟩ := hf.st.C5 (a.eval y).cells t
 have fp : aR (M.add w.heap.size (a.eval y).cells.toList) L (.pointer (some ⟨w.heap.size, 0, none⟩)) (.aj (ap env i)) := .aj _ _ _ _ (LF.mono g2.kz (List.prefix_refl _)) g3
 obtain ⟨O', oS⟩ := (hf.mono g1 g2).oq (dst := some d) (fun d' e => by cases e; exact TV) fp (by intro _ _ e; cases e)
 have kG := hrest _ _ ⟨_, L, H, _, O', hK, oS, g2, List.prefix_refl L⟩
 unfold wpListIn
 rw [if_pos (by simp [Region.wanted, Ld])]
 refine kA hrun1 (by intro d e; cases e) ?_
 rw [Oper.uponIn_value, fO]
 unfold wpListIn
 rw [if_pos (by simp [Region.wanted, Yw])]
 refine kA hrun2 (by intro d e; cases e) ?_
 rw [Oper.uponIn_skip, T2]
 exact kG
theorem oV {ops : Array Oper} {an : AD} {rid : Nat} {fu : Bool} (hp : ∀ l, lo = some l → ∀ id, l ≤ id → A.top id = none) (Q : Exit → Act → World → Prop) : ∀ (fuel k : Nat) (l : List Oper) (il : List bu), eD P ops an n rid fu fuel k l = some il → ∀ {M : Mem} {L : List Nat} {w : World} {H : List aa} {env : Env} {O : Pos → Option Nat} {a : Act} (K : Env → List aa → Prop),
 Fr A n M L w H env O a → iZ ⟨P, lo⟩ il env H K → (∀ a' w', mC A n M L w K a' w' → Q .normal a' w') → wpListIn (wf ro) 0 P ops Q l a w
 | _, _, [], il, hc, M, L, w, H, env, O, a, K, hf, h, hQ => by
   unfold eD at hc
   cases hc
   exact hQ a w ⟨M, L, H, env, O, h, hf, Ext.refl A M w, List.prefix_refl L⟩
 | 0, _, o :: r, il, hc, _, _, _, _, _, _, _, _, _, _, _ => by simp [eD] at hc
 | fuel + 1, k, o :: r, il, hc, M, L, w, H, env, O, a, K, hf, h, hQ => by
   unfold eD at hc
   split at hc
   ·-- a new variable with its first value
    split at hc <;> try cases hc
    rename_i o' r'
    split at hc <;> cases hc
    rename_i x xs hx ft
    simp only [iZ] at h
    refine Dx hx hf h r' Q ?_
    rintro a' w' ⟨M', L', H', aE, O', k1, k2, k3, k4⟩
    exact oV hp Q fuel (k + 2) r' xs ft K k2 k1 (fun a2 w2 h2 => hQ a2 w2 (mC.trans (K' := K) k3 k4 h2))
   ·split at hc <;> try cases hc
    rename_i g xs hg ft
    split at hc <;> cases hc
    rename_i fO
    simp only [iZ] at h
    have h1 := xu (ro := ro) (ops := ops) hg fO hp hf h Q
    have hrest : ∀ a' w', mC A n M L w (fun env H => iZ ⟨P, lo⟩ xs env H K) a' w' → wpListIn (wf ro) 0 P ops Q r a' w' := by
     rintro a' w' ⟨M', L', H', aE, O', k1, k2, k3, k4⟩
     exact oV hp Q fuel (k + 1) r xs ft K k2 k1 (fun a2 w2 h2 => hQ a2 w2 (mC.trans (K' := K) k3 k4 h2))
    unfold wpListIn
    split
    ·rename_i hw
     rw [if_pos hw] at h1
     exact Oper.wpIn_mono hrest h1
    ·rename_i hw
     rw [if_neg hw] at h1
     exact ⟨fun _ _ => trivial, hrest _ _ h1⟩
theorem Dv.trans {A' : Perm} {M0 M1 : Mem} {L0 : List Nat} {w0 w1 : World} {Q : Exit → Env → List aa → Prop} {e : Exit} {a : Act} {w : World} (hl : A'.Le A) (hx : Ext A M0 w0 M1 w1) (hp : Dv A' n M1 L0 w1 Q e a w) : Dv A n M0 L0 w0 Q e a w := by
 obtain ⟨A2, M, L, H, env, O, hA, h1, h2, h3, h4⟩ := hp
 exact ⟨A2, M, L, H, env, O, hA.trans hl, h1, h2, hx.trans (h3.le hl), h4⟩
theorem fC.le {n0 : Nat} {A' : Perm} (h : fC lo n0 A) (hl : A'.Le A) : fC lo n0 A' := by
 unfold fC at *
 rw [hl.1]
 exact h
def Own (ro : Option Nat) (w : World) : Prop := ∀ l, ro = some l → ∃ r, w.heap[l]? = some (.loop r)
theorem Own.ext {M' : Mem} {w' : World} (h : Own ro w) (hx : Ext A M w M' w') : Own ro w' := fun l hl => by
 obtain ⟨r, hr⟩ := h l hl
 obtain ⟨r', Yy, _⟩ := hx.loops l r hr
 exact ⟨r', Yy⟩
theorem Gm (p : Nat → Prop) (h : ∃ k, p k) : ∃ k, p k ∧ ∀ j, p j → k ≤ j := by
 obtain ⟨k, hk⟩ := h
 induction k using Nat.strongRecOn with
 | _ k ih =>
   by_cases hl : ∃ j, j < k ∧ p j
   ·obtain ⟨j, hj, hp⟩ := hl
    exact ih j hj hp
   ·exact ⟨k, hk, fun j hj => by
     rcases Nat.lt_or_ge j k with h' | h'
     ·exact absurd ⟨j, h', hj⟩ hl
     ·exact h'⟩
theorem yZ {F : Fence} {k : Nat} {c : Code} {Q : Exit → Act → World → Prop} {w : World} {a : Act} {ι : Type} (I : ι → Act → World → Prop) (μ : ι → Nat)
 (round : ∀ i a w, I i a w → c.wpIn F k P (Exit.then (fun a' w' => ∃ j, I j a' w' ∧ μ j < μ i) Q) a w) (i0 : ι) (h0 : I i0 a w) : (Code.loop c).wpIn F k P Q a w := by
 let p : Act → World → Nat → Prop := fun a w k => ∃ i, I i a w ∧ μ i = k
 let ν : Act → World → Nat := fun a w => Classical.epsilon fun k => p a w k ∧ ∀ j, p a w j → k ≤ j
 have hν : ∀ a w, (∃ i, I i a w) → p a w (ν a w) ∧ ∀ j, p a w j → ν a w ≤ j := by
  rintro a w ⟨i, hi⟩
  exact Classical.epsilon_spec (Gm (p a w) ⟨μ i, i, hi, rfl⟩)
 refine wpIn_loop (fun a w => ∃ i, I i a w) ν ⟨i0, h0⟩ ?_
 intro a w hI
 obtain ⟨⟨i, hi, hμ⟩, _⟩ := hν a w hI
 refine Go.wpIn_mono (round i a w hi) ?_
 intro e a' w' h
 cases e with
 | normal =>
   obtain ⟨j, hj, a8⟩ := h
   refine ⟨⟨j, hj⟩, ?_⟩
   have := (hν a' w' ⟨j, hj⟩).2 (μ j) ⟨j, hj, rfl⟩
   omega
 | _ => exact h
def xv (P : Program) (ro lo : Option Nat) (A : Perm) (n : Nat) (L0 : List Nat) : Prop :=
 ∀ {id : Nat} {ops : Array Oper} {il : List bu} {p : wu} {live : Option (List Nat)} {an : AD} {M : Mem} {L : List Nat} {w : World} {H : List aa} {env : Env} {O : Pos → Option Nat} {a : Act} {M0 : Mem} {w0 : World} {Q : Exit → Env → List aa → Prop},
  P.follows .mixedOrders = true → kF (ops.toList.map fun o => jw o.after.toList) (eN ops.toList []) il ops.size 0 none p = true → eD P ops an n id false (ops.size + 1) 0 ops.toList = some il → me ⟨P, lo⟩ L0.length (.draw (inst il p) live) env H Q → Fr A n M L w H env O a → Ext A M0 w0 M w → L0 <+: L → (Code.region id ops true).wpIn (wf ro) 0 P (Dv A n M0 L0 w0 Q) a w
theorem A8 {L0 : List Nat} (hA : fC lo L0.length A) {f : Operand} {ps : Array Tmp} {as bd : Code} {an : AD} {lv : l9} {pl : ma} {i : IX} (hi : aQ f = some i) {Q : Exit → Env → List aa → Prop}
 (wm : Own ro w) (h : me ⟨P, lo⟩ L0.length (.iL i ⟨n, ps.toList, as, bd, an, lv, pl⟩) env H Q) (hf : Fr A n M L w H env O a) (hL : L0 <+: L) : (Code.rangeFunc f ps as bd).wpIn (wf ro) 0 P (Dv A n M L0 w Q) a w := by
 have Lc := hf.eval hi
 simp only [me] at h
 split at h <;> try exact h.elim
 rename_i g first cap TX
 obtain ⟨hcf, bP, hle, hcall⟩ := h
 rw [TX] at Lc
 generalize hu : a.eval f = u at Lc
 cases Lc with
 | fn _ fs cs _ _ yV qX =>
 refine wpIn_rangeFunc fun fn _ => ?_
 -- the record
 have enter : ∃ (l : Nat) (mark : List Deferred) (w1 : World) (A1 : Perm), (Instr.enterLoop fn a.tmps ps as bd ro).run P w = .ok (l, mark) w1 ∧ A1.Le A ∧
  Fr A1 n M (L ++ [l]) w1 (H ++ [.loop .ready ⟨n, ps.toList, as, bd, an, lv, pl⟩ (km n env)]) env O { a with defers := mark ++ a.defers } ∧ Ext A M w M w1 := by
  have yO : aK M L a.tmps.toList (km n env) := by
   refine aK.yz (by simp [km, hf.size]) fun j x hx => ?_
   simp only [km, List.getElem?_map] at hx
   obtain ⟨t, ht, rfl⟩ := Option.map_eq_some_iff.1 hx
   obtain ⟨py, rfl⟩ := List.getElem?_eq_some_iff.1 ht
   simp only [List.length_range] at py
   simp only [List.getElem_range]
   have := (hf.st.env j).ae
   refine ⟨a.tmps.getD j undef, ?_, this⟩
   rw [Array.getD_eq_getD_getElem?, Array.getElem?_toList, Array.getElem?_eq_getElem (by rw [hf.size]; exact py)]
   rfl
  have nG : (aa.loop .ready ⟨n, ps.toList, as, bd, an, lv, pl⟩ (km n env)).aZ (H.length + 1) = true := by
   simp only [aa.aZ]
   have := yO.LQ
   rw [hf.st.len] at this
   exact bG (by omega) _ this
  cases ro with
  | none =>
    have hg := hf.st.grow (w' := { w with heap := w.heap.push (.deferred (some [])) }) (Mem.bN M) (fun b o v hv => by
     have h1 := hf.st.mem b o v hv
     simp only [World.cell?] at h1 ⊢
     cases hb : w.heap[b]? with
     | none => rw [hb] at h1; simp at h1
     | some ob => rw [dV w _ (Array.getElem?_eq_some_iff.1 hb).1]; exact h1) (by simp) (fun b hb => dV w _ hb) (fun _ _ _ => rfl)
    have sA : Ext A M w M { w with heap := w.heap.push (.deferred (some [])) } := Ext.grow (Mem.bN M) (by simp) rfl rfl rfl (fun b hb => dV w _ hb) (fun _ _ _ => rfl)
    have hb := hg.TZ (D := w.heap.size) (fun hm => by have := hf.st.lt _ hm; omega) (fun p hp => by have := hf.st.eS _ _ hp; omega) (by simp)
    obtain ⟨g1, g2⟩ := hb.qR (.loop { state := .ready, pending := none, fn, tmps := a.tmps, params := ps, assign := as, body := bd, defers := w.heap.size }) (.loop .ready ⟨n, ps.toList, as, bd, an, lv, pl⟩ (km n env))
     (fun w' Im _ => ⟨_, Im, (Array.toArray_toList).symm, rfl, rfl, yO.mono (Mem.bN M) ⟨_, rfl⟩, rfl, rfl⟩) nG (fun j => rfl)
    refine ⟨w.heap.size + 1, _, _, A.TZ w.heap.size, run_enterLoop_outer _ _ _ _ _, A.yX _, ⟨?_, hf.size, ?_⟩, ?_⟩
    ·have e1 : ({ w with heap := w.heap.push (.deferred (some [])) } : World).heap.size = w.heap.size + 1 := by simp
     rw [e1] at g1
     exact g1
    ·have old := ((hf.defers.ext sA).le (A.yX w.heap.size)).ext g2
     refine ⟨old.1, ?_, fun d hd => ?_⟩
     ·show (_ :: a.defers).Nodup
      rw [List.nodup_cons]
      refine ⟨fun hm => ?_, old.2.1⟩
      obtain ⟨D, e, hD, _⟩ := hf.defers.2.2 _ hm
      cases e
      have := (Array.getElem?_eq_some_iff.1 hD).1
      omega
     rcases List.mem_append.1 hd with hd | hd
     ·rw [List.mem_singleton] at hd
      subst hd
      refine ⟨w.heap.size, rfl, ?_, (fun h => h.2 rfl), (show A.base ≤ w.heap.size from hf.defers.1)⟩
      show ((w.heap.push _).push _)[w.heap.size]? = _
      rw [Array.getElem?_push_lt (by simp)]
      simp
     ·exact old.2.2 d hd
    ·exact sA.trans (g2.le (A.yX _))
  | some l0 =>
    obtain ⟨r0, Yz⟩ := wm l0 rfl
    obtain ⟨g1, g2⟩ := hf.st.qR (.loop { state := .ready, pending := none, fn, tmps := a.tmps, params := ps, assign := as, body := bd, defers := r0.defers }) (.loop .ready ⟨n, ps.toList, as, bd, an, lv, pl⟩ (km n env))
     (fun w' Im _ => ⟨_, Im, (Array.toArray_toList).symm, rfl, rfl, yO.mono (Mem.bN M) ⟨_, rfl⟩, rfl, rfl⟩) nG (fun j => rfl)
    exact ⟨w.heap.size, [], _, A, run_enterLoop_inner Yz _ _ _ _ _, Perm.Le.refl A, ⟨g1, hf.size, by simpa using hf.defers.ext g2⟩, g2⟩
 obtain ⟨l, mark, w1, A1, he, Dy, ES, sA⟩ := enter
 have Lf : L.length = H.length := hf.st.len
 have tn : (L ++ [l])[H.length]? = some l := by rw [← Lf]; simp
 have Qd : fC lo L0.length A1 := hA.le Dy
 obtain ⟨loose, um, hcall⟩ : ∃ loose : Bool, (loose = true → ∀ id, (H ++ [aa.loop .ready ⟨n, ps.toList, as, bd, an, lv, pl⟩ (km n env)]).length ≤ id → A1.top id = none) ∧
  kh loose P g bP (H ++ [.loop .ready ⟨n, ps.toList, as, bd, an, lv, pl⟩ (km n env)]) fun _ H' => behind H.length H' fun j H'' => oU j Q env H'' := by
  unfold dW at hcall
  split at hcall
  ·exact ⟨false, by simp, hcall⟩
  ·rename_i l' wJ
   rcases hcall with hcall | ⟨h1, hcall⟩
   ·exact ⟨false, by simp, hcall⟩
   ·exact ⟨true, fun _ id bn => Qd.opens l' wJ id (by omega), hcall⟩
 have hry : aK M (L ++ [l]) (fs ++ [.func (.yield l) #[] #[]]) (first ++ [.mE H.length]) :=
  (yV.mono (Mem.bN M) ⟨_, rfl⟩).append (.one (.mE l _ tn))
 obtain ⟨Oc, pH, bQ, fin⟩ := qZ (o := (⟨none, .move f, 0, "", #[], none⟩ : Oper)) (K := fun aE H' => aE = env ∧ behind H.length H' fun j H'' => oU j Q env H'') (xs := []) (js := []) rfl (pass := none) hry (qX.mono (Mem.bN M) ⟨[l], rfl⟩)
  (by simpa [aG, AV.ae] using hle) ES (fun d e => by cases e) um
 obtain ⟨vs, wA⟩ : ∃ vs : List Value, vs = fs ++ [.func (.yield l) #[] #[]] ++ cs := ⟨_, rfl⟩
 simp only [List.map_nil, List.append_nil] at pH bQ
 rw [← wA] at pH bQ
 refine ⟨l, mark, w1, { target := .fn (.func g) cs.toArray, args := fs.toArray ++ #[.func (.yield l) #[] #[]] }, w1, g, vs.toArray, w1, he, ?_, fun _ _ => trivial, ?_, (fun h => by cases h), ?_⟩
 ·have ec : a.eval (.const (.func (.yield l) #[] #[])) = .func (.yield l) #[] #[] := rfl
  simp [resolve, hu, Deferred.ofValue, ec]
 ·have e1 : (fs.toArray ++ #[.func (.yield l) #[] #[]] ++ cs.toArray : Array Value) = vs.toArray := by
   apply Array.ext'; simp [wA]
  simp only [invoke]
  rw [e1]
  exact hcf _ _
 ·rcases hcall (dk A1 loose (H ++ [aa.loop .ready ⟨n, ps.toList, as, bd, an, lv, pl⟩ (km n env)]) (L ++ [l]) Oc w1) M (L ++ [l]) w1 vs.toArray Oc (kj A1 loose _ _ Oc w1) (by simpa using pH) bQ with ⟨_, hc⟩ | ⟨v, w', r, H', M', L', O', h1, _⟩
  ·have ou : CallsIn (wf ro) (0 - 1) P g vs.toArray w1 _ := callsIn_wide.2 hc
   refine CallsIn.mono ou fun e w' he => ?_
   obtain ⟨v, r, H', M', L', O', rfl, hK, ln, ct, T3⟩ := he
   obtain ⟨M2, L2, H2, cH, O2, ⟨rfl, hb⟩, sr, OG, Qe⟩ := fin v r H' M' L' O' w' ⟨rfl, hK⟩ ln ct T3
   have nJ : L2[H.length]? = some l := fI Qe tn
   have lf : L0 <+: L2 := hL.trans ((List.prefix_append L [l]).trans Qe)
   unfold behind at hb
   split at hb
   ·rename_i lc es Dz
    obtain ⟨r, q1, q2, q3, q4, q5, q6⟩ := sr.st.obj _ _ l Dz nJ
    obtain ⟨k1, k2⟩ := sr.st.nM (st' := .ew) (r' := { r with state := .exhausted }) Dz nJ (fun r2 qX => by rw [q1] at qX; cases qX; exact ⟨rfl, rfl, rfl, rfl, rfl, trivial⟩)
    exact ⟨none, _, (run_endLoop q1 (by rw [q6.1]; simp)).trans (congrArg (fun p => Result.ok p _) q6.2), A1, M2, L2, _, cH, O2, Dy, hb, ⟨k1, sr.size, sr.defers.ext k2⟩, sA.trans ((OG.trans k2).le Dy), lf⟩
   ·rename_i c lc es Dz
    obtain ⟨r, q1, q2, q3, q4, q5, q6⟩ := sr.st.obj _ _ l Dz nJ
    obtain ⟨k1, k2⟩ := sr.st.nM (st' := .ew) (r' := { r with state := .exhausted }) Dz nJ (fun r2 qX => by rw [q1] at qX; cases qX; exact ⟨rfl, rfl, rfl, rfl, rfl, trivial⟩)
    refine ⟨some c, _, (run_endLoop q1 (by rw [q6.1]; simp)).trans (congrArg (fun p => Result.ok p _) q6.2), ?_⟩
    unfold oU at hb
    split at hb
    ·rename_i e; cases e
    ·rename_i e; cases e
     exact wpIn_ret ⟨A1, M2, L2, _, cH, O2, Dy, hb, ⟨k1, sr.size, sr.defers.ext k2⟩, sA.trans ((OG.trans k2).le Dy), lf⟩
    ·rename_i e; cases e
     exact wpIn_exit ⟨A1, M2, L2, _, cH, O2, Dy, hb, ⟨k1, sr.size, sr.defers.ext k2⟩, sA.trans ((OG.trans k2).le Dy), lf⟩
    ·exact hb.elim
   ·exact hb.elim
  ·rw [hcf] at h1; cases h1
theorem sound {L0 : List Nat} (hdraw : ∀ A, fC lo L0.length A → xv P ro lo A n L0) {an : AD} {lv : l9} {pl : ma} : ∀ (c : Code) (ir : IR), comp P an lv pl n c = some ir → ∀ {A : Perm} {M : Mem} {L : List Nat} {w : World} {H : List aa} {env : Env} {O : Pos → Option Nat} {a : Act} {Q : Exit → Env → List aa → Prop},
 fC lo L0.length A → Own ro w → me ⟨P, lo⟩ L0.length ir env H Q → Fr A n M L w H env O a → L0 <+: L → c.wpIn (wf ro) 0 P (Dv A n M L0 w Q) a w := by
 intro c
 induction c with
 | skip =>
   intro ir hc A M L w H env O a Q hA wm h hf hL
   simp only [comp] at hc; cases hc
   exact wpIn_skip ⟨A, M, L, H, env, O, .refl A, h, hf, Ext.refl A M w, hL⟩
 | exit id =>
   intro ir hc A M L w H env O a Q hA wm h hf hL
   simp only [comp] at hc; cases hc
   exact wpIn_exit ⟨A, M, L, H, env, O, .refl A, h, hf, Ext.refl A M w, hL⟩
 | ret =>
   intro ir hc A M L w H env O a Q hA wm h hf hL
   simp only [comp] at hc; cases hc
   exact wpIn_ret ⟨A, M, L, H, env, O, .refl A, h, hf, Ext.refl A M w, hL⟩
 | region id ops draw =>
   intro ir hc A M L w H env O a Q hA wm h hf hL
   cases draw with
   | true =>
     simp only [comp] at hc
     split at hc <;> try cases hc
     rename_i il Aw
     split at hc <;> cases hc
     rename_i hm
     exact hdraw A hA hm.1 hm.2 Aw h hf (Ext.refl A M w) hL
   | false =>
     simp only [comp] at hc
     obtain ⟨il, Aw, rfl⟩ := Option.map_eq_some_iff.1 hc
     simp only [me] at h
     refine wpIn_region_list (oV hA.opens _ _ _ _ _ Aw _ hf h ?_)
     rintro a' w' ⟨M', L', H', aE, O', h1, h2, h3, h4⟩
     obtain ⟨O'', h5⟩ := h2.weaken (xt (lv.at_ id) aE)
     exact ⟨A, M', L', H', _, O'', .refl A, h1, h5, h3, hL.trans h4⟩
 | seq x y ihx ihy =>
   intro ir hc A M L w H env O a Q hA wm h hf hL
   simp only [comp] at hc
   split at hc <;> cases hc
   rename_i x' y' hx hy
   simp only [me] at h
   refine wpIn_seq (Go.wpIn_mono (ihx _ hx hA wm h hf hL) ?_)
   rintro e a' w' ⟨A', M', L', H', aE, O', hl, h1, h2, h3, h4⟩
   cases e with
   | normal => exact Go.wpIn_mono (ihy _ hy (hA.le hl) (wm.ext h3) h1 h2 h4) fun e a w hp => hp.trans hl h3
   | _ => exact ⟨A', M', L', H', aE, O', hl, h1, h2, h3, h4⟩
 | cond x c d ihc YA =>
   intro ir hc A M L w H env O a Q hA wm h hf hL
   simp only [comp] at hc
   split at hc <;> cases hc
   rename_i i c' d' hi CZ XJ
   simp only [me] at h
   obtain ⟨q, hq, h⟩ := nL h
   have hr := hf.eval hi
   rw [hq] at hr
   generalize hu : a.eval x = u at hr
   cases hr
   refine wpIn_cond_split hu (fun e => ihc _ CZ hA wm (h.1 e) hf hL) (fun e => YA _ XJ hA wm (h.2 e) hf hL)
 | block id c ih =>
   intro ir hc A M L w H env O a Q hA wm h hf hL
   simp only [comp] at hc
   obtain ⟨c', CZ, rfl⟩ := Option.map_eq_some_iff.1 hc
   simp only [me] at h
   refine wpIn_block (Go.wpIn_mono (ih _ CZ hA wm h hf hL) ?_)
   rintro e a' w' ⟨A', M', L', H', aE, O', hl, h1, h2, h3, h4⟩
   cases e with
   | exit id' =>
     simp only [Exit.inBlock]
     simp only at h1
     split at h1
     ·rename_i e; rw [if_pos e]; exact ⟨A', M', L', H', aE, O', hl, h1, h2, h3, h4⟩
     ·rename_i e; rw [if_neg e]; exact ⟨A', M', L', H', aE, O', hl, h1, h2, h3, h4⟩
   | _ => exact ⟨A', M', L', H', aE, O', hl, h1, h2, h3, h4⟩
 | loop c ih =>
   intro ir hc A M L w H env O a Q hA wm h hf hL
   simp only [comp] at hc
   obtain ⟨c', CZ, rfl⟩ := Option.map_eq_some_iff.1 hc
   simp only [me] at h
   obtain ⟨ι, I, se, sh, μ, ⟨i0, tD, YB⟩, hround⟩ := h
   obtain ⟨L', O', oS, T3⟩ := hf.sle hA hL YB
   refine yZ (fun i a' w' => I i ∧ ∃ A' M' L' O', A'.Le A ∧ Fr A' n M' L' w' (sh i) (se i) O' a' ∧ Ext A M w M' w' ∧ L0 <+: L') μ ?_ i0 ⟨tD, A, M, L', O', .refl A, oS, Ext.refl A M w, T3⟩
   rintro i a1 w1 ⟨hi, A1, M1, L1, O1, tn, ES, sA, XK⟩
   refine Go.wpIn_mono (ih _ CZ (hA.le tn) (wm.ext sA) (hround i hi) ES XK) ?_
   rintro e a' w' ⟨A', M', L', H', aE, O', hl, h1, h2, h3, h4⟩
   cases e with
   | normal =>
     obtain ⟨j, hj, a8, hs⟩ := h1
     obtain ⟨L2, O2, sr, Qe⟩ := h2.sle ((hA.le tn).le hl) h4 hs
     exact ⟨j, ⟨hj, A', M', L2, O2, hl.trans tn, sr, sA.trans (h3.le tn), Qe⟩, a8⟩
   | _ => exact ⟨A', M', L', H', aE, O', hl.trans tn, h1, h2, sA.trans (h3.le tn), h4⟩
 | rangeFunc f ps as bd =>
   intro ir hc A M L w H env O a Q hA wm h hf hL
   simp only [comp] at hc
   obtain ⟨i, hi, rfl⟩ := Option.map_eq_some_iff.1 hc
   exact A8 hA hi wm h hf hL
 | _ =>
   intro ir hc A M L w H env O a Q hA wm h
   simp only [comp] at hc
   cases hc
   exact h.elim
end
end Go.aL
end
section
namespace Go.aL
open Go
section
variable {φ ψ : AV → Prop} (hm : ∀ z, φ z → ψ z)
include hm
theorem rf {op : BinOp} {x y : AV} (h : cV op x y φ) : cV op x y ψ := by
 unfold cV at *
 split at h <;> (try exact h.elim)
 ·obtain ⟨h0, h⟩ := h
  refine ⟨h0, ?_⟩
  split at h <;> first | exact hm _ h | exact ⟨h.1, hm _ h.2⟩ | exact h.elim
 ·split at h <;> first | exact hm _ h | exact ⟨h.1, hm _ h.2⟩ | exact h.elim
theorem mR {op : BinOp} {x y : AV} (h : dJ op x y φ) : dJ op x y ψ := by
 unfold dJ at *
 split at h <;> (try exact h.elim)
 obtain ⟨h0, h⟩ := h
 refine ⟨h0, ?_⟩
 split at h <;> first | exact hm _ h | exact h.elim
theorem lB {neq : Bool} {x y : AV} (h : cM neq x y φ) : cM neq x y ψ := by
 unfold cM at *
 split at h <;> first | exact hm _ h | exact h.elim
theorem sB {kd : Nat} {neq : Bool} {x : AV} (h : dc kd neq x φ) : dc kd neq x ψ := by
 unfold dc at *
 split at h
 ·exact hm _ h
 ·split at h
  ·exact ⟨hm _ h.1, hm _ h.2⟩
  ·exact h.elim
theorem uH {op : UnOp} {x : AV} (h : yE op x φ) : yE op x ψ := by
 unfold yE at *
 split at h <;> first | exact hm _ h | exact h.elim
theorem jy {sz : Option Nat} {x : AV} {H : List aa} (h : aS sz x H φ) : aS sz x H ψ := by
 unfold aS at *
 split at h <;> (try exact h.elim) <;> (split at h <;> (try exact h.elim)) <;> first | exact ⟨h.1, hm _ h.2⟩ | (split at h <;> exact ⟨h.1, hm _ h.2⟩)
theorem mS {off : Nat} {sz : Option Nat} {x : AV} (h : eJ off sz x φ) : eJ off sz x ψ := by
 unfold eJ apart at *
 split at h <;> (try exact h.elim)
 split at h <;> first | exact ⟨h.1, hm _ h.2⟩ | exact ⟨h.1, h.2.1, hm _ h.2.2⟩
theorem iN {off : Nat} {sz : Option Nat} {x : AV} (h : al off sz x φ) : al off sz x ψ := by
 unfold al apart at *
 split at h <;> (try exact h.elim)
 ·exact hm _ h
 ·split at h <;> first | exact ⟨h.1, hm _ h.2⟩ | exact ⟨h.1, h.2.1, hm _ h.2.2⟩
theorem iO {esz : Nat} {x i : AV} (h : aA esz x i φ) : aA esz x i ψ := by
 unfold aA at *
 split at h <;> first | exact ⟨h.1, h.2.1, hm _ h.2.2⟩ | exact h.elim
theorem jz {x i : AV} (h : bI x i φ) : bI x i ψ := by
 unfold bI at *
 split at h <;> first | exact ⟨h.1, h.2.1, hm _ h.2.2⟩ | exact h.elim
theorem jA {n : Nat} {x i : AV} (h : bR n x i φ) : bR n x i ψ := by
 unfold bR at *
 split at h <;> first | exact ⟨h.1, h.2.1, h.2.2.1, hm _ h.2.2.2⟩ | exact h.elim
theorem rh {x : AV} {H : List aa} (h : eW x H φ) : eW x H ψ := by
 unfold eW at *
 split at h <;> (try exact h.elim) <;> (try exact hm _ h)
 ·exact fun hl => hm _ (h hl)
 ·split at h <;> first | exact hm _ h | exact h.elim
theorem ko {x : AV} {i : Nat} (h : bD x i φ) : bD x i ψ := by
 unfold bD at *
 split at h <;> first | exact ⟨h.1, hm _ h.2⟩ | exact h.elim
theorem jB {x : AV} (h : bS x φ) : bS x ψ := by
 unfold bS at *
 split at h <;> first | exact hm _ h | exact h.elim
theorem kq {k : IntKind} {x : AV} (h : cr k x φ) : cr k x ψ := by
 unfold cr at *
 split at h <;> first | exact hm _ h | exact h.elim
theorem uI {big : Bool} {x y : AV} (h : wv big x y φ) : wv big x y ψ := by
 unfold wv at *
 split at h <;> first | exact hm _ h | exact h.elim
theorem oC {x : AV} (h : fz x φ) : fz x ψ := by
 unfold fz at *
 split at h <;> first | exact hm _ h | exact h.elim
theorem oD {own : Nat} {x : AV} (h : eM own x φ) : eM own x ψ := by
 unfold eM at *
 split at h <;> first | exact ⟨h.1, hm _ h.2⟩ | exact h.elim
theorem sC {x : AV} (h : jr x φ) : jr x ψ := by
 unfold jr at *
 split at h <;> first | exact hm _ h | exact ⟨_, h.choose_spec.1, hm _ h.choose_spec.2⟩ | (obtain ⟨l, h1, h2⟩ := h; exact ⟨l, h1, hm _ h2⟩) | exact ⟨h.1, hm _ h.2⟩ | exact h.elim
theorem sD {esz bytes : Nat} {n : AV} (h : iJ esz bytes n φ) : iJ esz bytes n ψ := by
 unfold iJ at *
 split at h <;> first | exact ⟨h.1, h.2.1, hm _ h.2.2⟩ | exact h.elim
theorem lC {kd : Nat} {z m k : AV} {ok : Bool} {H : List aa} (h : cc kd z m k ok H φ) : cc kd z m k ok H ψ := by
 unfold cc at *
 split at h <;> (try exact h.elim) <;> first | exact hm _ h | exact ⟨h.1, hm _ h.2⟩ | (split at h <;> (try exact h.elim) <;> first | exact hm _ h | exact ⟨h.1, hm _ h.2⟩ | (split at h <;> (try exact h.elim) <;> first | exact hm _ h | exact ⟨h.1, hm _ h.2⟩))
end
theorem eu {x : Option AV} {d : Nat} {φ ψ : Nat → Prop} (hm : ∀ k, φ k → ψ k) (h : dL x d φ) : dL x d ψ := by
 unfold dL at *
 split at h <;> first | exact hm _ h | exact ⟨h.1, hm _ h.2⟩ | exact h.elim
theorem sE {esz : Nat} {x : AV} {lo hi mx : Option AV} {φ ψ : AV → Prop} (hm : ∀ z, φ z → ψ z) (h : fq esz x lo hi mx φ) : fq esz x lo hi mx ψ := by
 unfold fq at *
 split at h <;> (try exact h.elim)
 refine eu (fun k h => eu (fun l h => ⟨h.1, h.2.1, ?_⟩) h) h
 obtain ⟨_, _, h⟩ := h
 split at h
 ·exact hm _ h
 ·exact ⟨h.1, eu (fun m h => ⟨h.1, h.2.1, hm _ h.2.2⟩) h.2⟩
theorem lD {esz : Nat} {x : AV} {lo hi mx : Option AV} {φ ψ : AV → Prop} (hm : ∀ z, φ z → ψ z) (h : bB esz x lo hi mx φ) : bB esz x lo hi mx ψ := by
 unfold bB gn nI at *
 split at h
 ·split at h
  ·exact eu (fun k h => eu (fun l h => ⟨h.1, h.2.1, hm _ h.2.2⟩) h) h
  ·exact ⟨h.1, eu (fun m h => eu (fun k h => eu (fun l h => ⟨h.1, h.2.1, h.2.2.1, hm _ h.2.2.2⟩) h) h) h.2⟩
 ·exact ⟨h.1, sE hm h.2⟩
theorem jC {x : AV} {lo hi : Option AV} {φ ψ : AV → Prop} (hm : ∀ z, φ z → ψ z) (h : b8 x lo hi φ) : b8 x lo hi ψ := by
 unfold b8 at *
 split at h <;> (try exact h.elim)
 exact eu (fun k h => eu (fun l h => ⟨h.1, h.2.1, hm _ h.2.2⟩) h) h
theorem lE {φ ψ : List AV → Prop} (hm : ∀ z, φ z → ψ z) : ∀ {ps : List (Nat × Nat × AV)} {zs : List AV}, gk zs ps φ → gk zs ps ψ
 | [], zs, h => hm _ h
 | (off, sz, x) :: r, zs, h => ⟨h.1, h.2.1, h.2.2.1, lE hm h.2.2.2⟩
theorem gA {esz : Nat} {φ ψ : List AV → Prop} (hm : ∀ z, φ z → ψ z) : ∀ {ps : List (Nat × AV)} {zs : List AV}, bk zs esz ps φ → bk zs esz ps ψ
 | [], zs, h => hm _ h
 | (i, x) :: r, zs, h => ⟨h.1, h.2.1, h.2.2.1, gA hm h.2.2.2⟩
def Qf (τ : Nat → AV) (dst : Option Nat) (x : AV) : Nat → AV := match dst with | some d => fe τ d x | none => τ
theorem jU (env : Env) (dst : Option Nat) (x : AV) : get (put dst x env) = Qf (get env) dst x := by cases dst <;> rfl
theorem mT {lo : Option IX} {env : Env} {ρ : IX → AV} (h : ∀ i ∈ lo.toList, ap env i = ρ i) : lo.map ρ = gr env lo := by
 cases lo with
 | none => rfl
 | some i => simp [gr, h i (by simp)]
theorem mU {is : List IX} {env : Env} {ρ : IX → AV} (h : ∀ i ∈ is, ap env i = ρ i) (g : AV → AV) : (is.map fun x => g (ap env x)) = is.map fun x => g (ρ x) := by
 apply List.map_congr_left
 intro i hi
 rw [h i hi]
theorem mV (env : Env) : ∀ (is : List IX) (j : Nat), aG env none j is = is.map fun x => (ap env x).ae
 | [], _ => rfl
 | .t s :: r, j => by simp [aG, mV env r, ap]
 | .c v :: r, j => by simp [aG, mV env r, ap]
theorem A9 {P : Px} {o : bX} {dst : Option Nat} {ρ : IX → AV} {env : Env} {H : List aa} {x : AV} (h : cT P o ρ H x) (hρ : ∀ i ∈ o.all, ap env i = ρ i) :
 bt P o dst env H fun e h => h = H ∧ get e = get (put dst x env) := by
 have key : ∀ z, z = x → (H = H ∧ get (put dst z env) = get (put dst x env)) := fun z e => ⟨rfl, e ▸ rfl⟩
 cases o with
 | set i take =>
   cases take with
   | true => exact h.elim
   | false =>
     simp only [cT, bX.all, List.mem_singleton, forall_eq] at h hρ
     rw [← hρ] at h
     unfold bt
     cases dst with
     | none => exact ⟨rfl, rfl⟩
     | some d =>
       subst h
       refine ⟨rfl, ?_⟩
       cases i <;> rfl
 | pick c a b =>
   simp only [cT, bX.all, List.mem_cons, List.not_mem_nil, or_false, forall_eq_or_imp, forall_eq] at h hρ
   obtain ⟨h1, h2, h3⟩ := hρ
   rw [← h1, ← h2, ← h3] at h
   obtain ⟨q, hq, h⟩ := nL h
   show eI (ap env c) _
   rw [hq]
   exact ⟨fun e => key _ (h.1 e), fun e => key _ (h.2 e)⟩
 | bin op i j =>
   simp only [cT, bX.all, List.mem_cons, List.not_mem_nil, or_false, forall_eq_or_imp, forall_eq] at h hρ
   obtain ⟨h1, h2⟩ := hρ
   rw [← h1, ← h2] at h
   exact rf key h
 | shift op i j =>
   simp only [cT, bX.all, List.mem_cons, List.not_mem_nil, or_false, forall_eq_or_imp, forall_eq] at h hρ
   obtain ⟨h1, h2⟩ := hρ
   rw [← h1, ← h2] at h
   exact mR key h
 | gP neq i j =>
   simp only [cT, bX.all, List.mem_cons, List.not_mem_nil, or_false, forall_eq_or_imp, forall_eq] at h hρ
   obtain ⟨h1, h2⟩ := hρ
   rw [← h1, ← h2] at h
   exact lB key h
 | mx big i j =>
   simp only [cT, bX.all, List.mem_cons, List.not_mem_nil, or_false, forall_eq_or_imp, forall_eq] at h hρ
   obtain ⟨h1, h2⟩ := hρ
   rw [← h1, ← h2] at h
   exact uI key h
 | indexAddr esz i j =>
   simp only [cT, bX.all, List.mem_cons, List.not_mem_nil, or_false, forall_eq_or_imp, forall_eq] at h hρ
   obtain ⟨h1, h2⟩ := hρ
   rw [← h1, ← h2] at h
   exact ⟨h.1, iO key h.2⟩
 | c8 i j =>
   simp only [cT, bX.all, List.mem_cons, List.not_mem_nil, or_false, forall_eq_or_imp, forall_eq] at h hρ
   obtain ⟨h1, h2⟩ := hρ
   rw [← h1, ← h2] at h
   exact jz key h
 | dH n i j =>
   simp only [cT, bX.all, List.mem_cons, List.not_mem_nil, or_false, forall_eq_or_imp, forall_eq] at h hρ
   obtain ⟨h1, h2⟩ := hρ
   rw [← h1, ← h2] at h
   exact jA key h
 | lookup kd z i j ok =>
   simp only [cT, bX.all, List.mem_cons, List.not_mem_nil, or_false, forall_eq_or_imp, forall_eq] at h hρ
   obtain ⟨h1, h2⟩ := hρ
   rw [← h1, ← h2] at h
   exact lC key h
 | iU kd neq i =>
   simp only [cT, bX.all, List.mem_singleton, forall_eq] at h hρ
   rw [← hρ] at h
   exact sB key h
 | un op i =>
   simp only [cT, bX.all, List.mem_singleton, forall_eq] at h hρ
   rw [← hρ] at h
   exact uH key h
 | lg i =>
   simp only [cT, bX.all, List.mem_singleton, forall_eq] at h hρ
   rw [← hρ] at h
   exact ⟨h.1, key _ h.2⟩
 | load sz i =>
   simp only [cT, bX.all, List.mem_singleton, forall_eq] at h hρ
   rw [← hρ] at h
   exact jy key h
 | nilCheck i =>
   simp only [cT, bX.all, List.mem_singleton, forall_eq] at h hρ
   rw [← hρ] at h
   exact jB key h
 | fieldAddr off sz i =>
   simp only [cT, bX.all, List.mem_singleton, forall_eq] at h hρ
   rw [← hρ] at h
   exact iN key h
 | field off sz i =>
   simp only [cT, bX.all, List.mem_singleton, forall_eq] at h hρ
   rw [← hρ] at h
   exact mS key h
 | len kd i =>
   simp only [cT, bX.all, List.mem_singleton, forall_eq] at h hρ
   rw [← hρ] at h
   exact ⟨h.1, rh key h.2⟩
 | extract i k =>
   simp only [cT, bX.all, List.mem_singleton, forall_eq] at h hρ
   rw [← hρ] at h
   exact ko key h
 | eC k i =>
   simp only [cT, bX.all, List.mem_singleton, forall_eq] at h hρ
   rw [← hρ] at h
   exact kq key h
 | gh i =>
   simp only [cT, bX.all, List.mem_singleton, forall_eq] at h hρ
   rw [← hρ] at h
   exact oC key h
 | bytesOf i =>
   simp only [cT, bX.all, List.mem_singleton, forall_eq] at h hρ
   rw [← hρ] at h
   exact oD key h
 | mH esz bytes i =>
   simp only [cT, bX.all, List.mem_singleton, forall_eq] at h hρ
   rw [← hρ] at h
   exact sD key h
 | strOf i =>
   simp only [cT, bX.all, List.mem_singleton, forall_eq] at h hρ
   rw [← hρ] at h
   exact sC key h
 | build z ps =>
   simp only [cT, bX.all] at h hρ
   have : (ps.map fun q => (q.1, q.2.1, ap env q.2.2)) = ps.map fun q => (q.1, q.2.1, ρ q.2.2) :=
    List.map_congr_left fun q hq => by rw [hρ _ (List.mem_map.2 ⟨q, hq, rfl⟩)]
   show cj z.cells (ps.map fun q => (q.1, q.2.1, ap env q.2.2)) (fun v => H = H ∧ get (put dst v env) = get (put dst x env))
   rw [this]
   exact lE (fun v h => key _ h) h
 | buildSlice own esz z len ps =>
   simp only [cT, bX.all] at h hρ
   have : (ps.map fun q => (q.1, ap env q.2)) = ps.map fun q => (q.1, ρ q.2) :=
    List.map_congr_left fun q hq => by rw [hρ _ (List.mem_map.2 ⟨q, hq, rfl⟩)]
   show bk _ _ (ps.map fun q => (q.1, ap env q.2)) _
   rw [this]
   exact gA (fun v h => key (.aq own v) h) h
 | slice esz i lo hi mx =>
   simp only [cT, bX.all, List.mem_cons, List.mem_append, forall_eq_or_imp] at h hρ
   obtain ⟨h1, h2⟩ := hρ
   rw [← h1, mT (fun i hi => h2 i (.inl (.inl hi))), mT (fun i hi => h2 i (.inl (.inr hi))), mT (fun i hi => h2 i (.inr hi))] at h
   exact lD key h
 | dI i lo hi =>
   simp only [cT, bX.all, List.mem_cons, List.mem_append, forall_eq_or_imp] at h hρ
   obtain ⟨h1, h2⟩ := hρ
   rw [← h1, mT (fun i hi => h2 i (.inl hi)), mT (fun i hi => h2 i (.inr hi))] at h
   exact jC key h
 | fn f first cap =>
   simp only [cT, bX.all, List.mem_append] at h hρ
   refine key _ ?_
   rw [mU (fun i hi => hρ i (.inl hi)) AV.ae, mU (fun i hi => hρ i (.inr hi)) AV.ae]
   exact h
 | call f args pass =>
   cases pass with
   | some _ => exact h.elim
   | none =>
     simp only [cT, bX.all, List.mem_cons, forall_eq_or_imp] at h hρ
     obtain ⟨h1, h2⟩ := hρ
     rw [← h1] at h
     split at h <;> try exact h.elim
     rename_i g first cap hg
     show oB P (ap env f) args none env H (fun r aE H' => H' = H ∧ get (put dst r aE) = get (put dst x env))
     rw [hg]
     obtain ⟨bP, hl, hcall⟩ := h
     refine ⟨bP, ?_, dW.of <| hcall.mono ?_⟩
     ·rw [mV, mU h2 AV.ae]; exact hl
     ·rintro r H' ⟨hr, rfl⟩
      exact key r hr
 | _ => exact h.elim
end Go.aL
end
section
namespace Go.aL
open Go
theorem Ba {m : Nat} {p x : AV} {H : List aa} {K K' : List aa → Prop} (hm : ∀ H', K H' → K' H') (h : gR m p x H K) : gR m p x H K' := by
 unfold gR at *
 split at h <;> (try exact h.elim)
 split at h <;> (try exact h.elim)
 exact ⟨h.1, h.2.1, h.2.2.1, h.2.2.2.1, h.2.2.2.2.1, hm _ h.2.2.2.2.2⟩
theorem wL {p x : AV} {H : List aa} {K K' : List aa → Prop} (hm : ∀ H', K H' → K' H') (h : dK p x H K) : dK p x H K' := by
 unfold dK at *
 split at h <;> (try exact h.elim)
 split at h <;> (try exact h.elim)
 exact ⟨h.1, h.2.1, h.2.2.1, hm _ h.2.2.2⟩
theorem y0 {esz bytes : Nat} {s x : AV} {φ ψ : List AV → Prop} (hm : ∀ z, φ z → ψ z) (h : bF esz bytes s x φ) : bF esz bytes s x ψ := by
 unfold bF at *
 split at h <;> (try exact h.elim)
 exact ⟨h.1, h.2.1, hm _ h.2.2⟩
theorem wM {esz bytes : Nat} {z s x : AV} {H : List aa} {K K' : AV → List aa → Prop} (hm : ∀ v H', K v H' → K' v H') (h : cG esz bytes z s x H K) : cG esz bytes z s x H K' := by
 unfold cG at *
 cases hr : dE x with
 | none =>
   rw [hr] at h
   simp only at h ⊢
   split at h <;> try exact h.elim
   rename_i id off len cap n ys wF
   cases hi : H[id]? with
   | none => rw [hi] at h; exact h.elim
   | some ob =>
     rw [hi] at h
     cases ob with
     | cells es =>
       obtain ⟨a, b, c, d, e, f⟩ := h
       exact ⟨a, b, c, d, e, hm _ _ f⟩
     | _ => exact h.elim
 | some ys =>
   rw [hr] at h
   obtain ⟨h1, h⟩ := h
   refine ⟨h1, ?_⟩
   cases s with
   | ah =>
     obtain ⟨a, b, c⟩ := h
     exact ⟨a, fun e => hm _ _ (b e), fun e cap h1 h2 => ⟨(c e cap h1 h2).1, hm _ _ (c e cap h1 h2).2⟩⟩
   | oo =>
     obtain ⟨a, b, c⟩ := h
     exact ⟨a, fun e => hm _ _ (b e), fun e cap h1 h2 => ⟨(c e cap h1 h2).1, hm _ _ (c e cap h1 h2).2⟩⟩
   | bg id off len cap =>
     simp only at h ⊢
     cases hi : H[id]? with
     | none => rw [hi] at h; exact h.elim
     | some ob =>
       rw [hi] at h
       cases ob with
       | cells es =>
         obtain ⟨a, b, c, d, f⟩ := h
         exact ⟨a, b, c, fun e => ⟨(d e).1, hm _ _ (d e).2⟩, fun e fX h1 h2 => ⟨(f e fX h1 h2).1, hm _ _ (f e fX h1 h2).2⟩⟩
       | _ => exact h.elim
   | _ => exact h.elim
theorem y7 {esz : Nat} {z x : AV} {H : List aa} {K K' : List aa → Prop} (hm : ∀ H', K H' → K' H') (h : gZ esz z x H K) : gZ esz z x H K' := by
 unfold gZ at *
 split at h <;> (try exact h.elim)
 split at h <;> (try exact h.elim)
 exact ⟨h.1, h.2.1, h.2.2.1, hm _ h.2.2.2⟩
theorem Bb {esz bytes : Nat} {z n : AV} {H : List aa} {K K' : AV → List aa → Prop} (hm : ∀ v H', K v H' → K' v H') (h : fN esz bytes z n H K) : fN esz bytes z n H K' := by
 unfold fN at *
 split at h <;> (try exact h.elim)
 exact ⟨h.1, h.2.1, h.2.2.1, hm _ _ h.2.2.2⟩
theorem y8 {kd : Nat} {m k x : AV} {H : List aa} {K K' : List aa → Prop} (hm : ∀ H', K H' → K' H') (h : eZ kd m k x H K) : eZ kd m k x H K' := by
 unfold eZ at *
 split at h <;> (try exact h.elim)
 split at h <;> (try exact h.elim)
 refine ⟨h.1, h.2.1, h.2.2.1, ?_⟩
 obtain ⟨_, _, _, h⟩ := h
 split at h
 ·exact hm _ h
 ·exact ⟨h.1, hm _ h.2⟩
 ·exact h.elim
theorem DA {esz : Nat} {d s : AV} {H : List aa} {K K' : AV → List aa → Prop} (hm : ∀ v H', K v H' → K' v H') (h : jt esz d s H K) : jt esz d s H K' := by
 unfold jt at *
 split at h <;> (try exact h.elim)
 split at h <;> (try exact h.elim)
 exact ⟨h.1, h.2.1, h.2.2.1, hm _ _ h.2.2.2⟩
theorem jV {esz : Nat} {x : AV} {H : List aa} {K K' : AV → List aa → Prop} (hm : ∀ v H', K v H' → K' v H') (h : dB esz x H K) : dB esz x H K' := by
 unfold dB at *
 split at h
 ·split at h <;> (try exact h.elim)
  exact ⟨h.1, h.2.1, h.2.2.1, h.2.2.2.1, hm _ _ h.2.2.2.2⟩
 ·exact h.elim
 ·exact hm _ _ h
 ·exact hm _ _ h
theorem sF {esz : Nat} : ∀ {xs : List AV} {H : List aa} {K K' : List AV → List aa → Prop} (hm : ∀ v H', K v H' → K' v H') (h : ju esz xs H K), ju esz xs H K'
 | [], H, K, K', hm, h => hm _ _ h
 | x :: r, H, K, K', hm, h => jV (fun v H' hk => sF (fun vs H'' h2 => hm _ _ h2) hk) h
theorem Gn {e id c : Nat} {H : List aa} {K K' : List aa → Prop} (hm : ∀ H', K H' → K' H') (h : yR e id c H K) : yR e id c H K' := by
 unfold yR at *
 split at h <;> (try exact h.elim)
 split at h <;> (try exact h.elim)
 ·exact jV (fun v H' hk => ⟨hk.1, hk.2.1, hm _ hk.2.2⟩) h
 ·exact hm _ h
theorem uJ {esz : Nat} {x : AV} {H : List aa} {K K' : AV → List aa → Prop} (hm : ∀ v H', K v H' → K' v H') (h : ff esz x H K) : ff esz x H K' := by
 unfold ff at *
 split at h
 ·exact sF (fun v H' hk => hm _ _ hk) h
 ·split at h
  ·rename_i hc; rw [if_pos hc]; exact Gn (hm _) h
  ·rename_i hc; rw [if_neg hc]; exact jV hm h
 ·exact jV hm h
theorem y9 {l m : Nat} {p x : AV} {H : List aa} {K K' : List aa → Prop} (hm : ∀ H', K H' → K' H') (h : gl l m p x H K) : gl l m p x H K' := by
 unfold gl at *
 split at h <;> (try exact h.elim)
 split at h <;> (try exact h.elim)
 exact ⟨h.1, h.2.1, h.2.2.1, h.2.2.2.1, h.2.2.2.2.1, h.2.2.2.2.2.1, hm _ h.2.2.2.2.2.2⟩
theorem mW {env1 cH : Env} {pass : Option Nat} : ∀ {is : List IX} {j : Nat}, (∀ i ∈ is, ap cH i = ap env1 i) → aG cH pass j is = aG env1 pass j is
 | [], _, _ => rfl
 | .t s :: r, j, h => by
   have h1 : get cH s = get env1 s := h (.t s) (by simp)
   simp only [aG, h1, mW (fun i hi => h i (List.mem_cons_of_mem _ hi))]
 | .c v :: r, j, h => by
   simp only [aG, mW (fun i hi => h i (List.mem_cons_of_mem _ hi))]
theorem fT {lo : Option IX} {env1 cH : Env} (h : ∀ i ∈ lo.toList, ap cH i = ap env1 i) : gr cH lo = gr env1 lo := by
 cases lo with
 | none => rfl
 | some i => simp [gr, h i (by simp)]
theorem nN {P : Px} {o : bX} {dst : Option Nat} {env1 cH : Env} {H : List aa} {K1 K2 : Env → List aa → Prop} (hl : ∀ i ∈ o.all, ap cH i = ap env1 i) (h : bt P o dst env1 H K1)
 (hK : ∀ (mods : List (Nat × AV)) H', (∀ p ∈ mods, dst = some p.1 ∨ p.1 ∈ o.kill) → (o.Qa = false → H' = H) → (o.xr = true → ∃ e, H' = H ++ e) → K1 (mods ++ env1) H' → K2 (mods ++ cH) H') : bt P o dst cH H K2 := by
 have kput : ∀ z H', (o.Qa = false → H' = H) → (o.xr = true → ∃ e, H' = H ++ e) → K1 (put dst z env1) H' → K2 (put dst z cH) H' := by
  intro z H' hc hg
  cases hd : dst with
  | none => exact hK [] H' (by simp) hc hg
  | some d => exact hK [(d, z)] H' (by simp [hd]) hc hg
 have kput0 : ∀ z, K1 (put dst z env1) H → K2 (put dst z cH) H := fun z => kput z H (fun _ => rfl) (fun _ => ⟨[], by simp⟩)
 have kenv : ∀ H', (o.Qa = false → H' = H) → (o.xr = true → ∃ e, H' = H ++ e) → K1 env1 H' → K2 cH H' := fun H' hc hg => hK [] H' (by simp) hc hg
 cases o with
 | set i take =>
   simp only [bX.all, List.mem_singleton, forall_eq] at hl
   simp only [bt] at h ⊢
   cases dst with
   | none => exact kenv H (fun _ => rfl) (fun _ => ⟨[], by simp⟩) h
   | some d =>
     simp only at h ⊢
     cases i with
     | c v => cases take <;> exact kput0 _ h
     | t s =>
       have hs : get cH s = get env1 s := hl
       cases take with
       | false =>
         have e1 : s8 env1 d (.t s) false = put (some d) (get env1 s).ae env1 := rfl
         have e2 : s8 cH d (.t s) false = put (some d) (get env1 s).ae cH := by simp only [s8, put, ap, hs]
         rw [e2]; rw [e1] at h
         exact kput0 _ h
       | true =>
         have e1 : s8 env1 d (.t s) true = [(d, get env1 s), (s, (get env1 s).ae)] ++ env1 := rfl
         have e2 : s8 cH d (.t s) true = [(d, get env1 s), (s, (get env1 s).ae)] ++ cH := by simp only [s8, hs]; rfl
         rw [e2]; rw [e1] at h
         exact hK _ H (by simp [bX.kill]) (fun _ => rfl) (fun _ => ⟨[], by simp⟩) h
 | pick c a b =>
   simp only [bX.all, List.mem_cons, List.not_mem_nil, or_false, forall_eq_or_imp, forall_eq] at hl
   obtain ⟨h1, h2, h3⟩ := hl
   simp only [bt] at h ⊢
   rw [h1, h2, h3]
   obtain ⟨q, hq, h⟩ := nL h
   rw [hq]
   exact ⟨fun e => kput0 _ (h.1 e), fun e => kput0 _ (h.2 e)⟩
 | bin op i j =>
   simp only [bX.all, List.mem_cons, List.not_mem_nil, or_false, forall_eq_or_imp, forall_eq] at hl
   simp only [bt] at h ⊢
   rw [hl.1, hl.2]
   exact rf kput0 h
 | shift op i j =>
   simp only [bX.all, List.mem_cons, List.not_mem_nil, or_false, forall_eq_or_imp, forall_eq] at hl
   simp only [bt] at h ⊢
   rw [hl.1, hl.2]
   exact mR kput0 h
 | gP neq i j =>
   simp only [bX.all, List.mem_cons, List.not_mem_nil, or_false, forall_eq_or_imp, forall_eq] at hl
   simp only [bt] at h ⊢
   rw [hl.1, hl.2]
   exact lB kput0 h
 | indexAddr esz i j =>
   simp only [bX.all, List.mem_cons, List.not_mem_nil, or_false, forall_eq_or_imp, forall_eq] at hl
   simp only [bt] at h ⊢
   rw [hl.1, hl.2]
   exact ⟨h.1, iO kput0 h.2⟩
 | c8 i j =>
   simp only [bX.all, List.mem_cons, List.not_mem_nil, or_false, forall_eq_or_imp, forall_eq] at hl
   simp only [bt] at h ⊢
   rw [hl.1, hl.2]
   exact jz kput0 h
 | dH n i j =>
   simp only [bX.all, List.mem_cons, List.not_mem_nil, or_false, forall_eq_or_imp, forall_eq] at hl
   simp only [bt] at h ⊢
   rw [hl.1, hl.2]
   exact jA kput0 h
 | lookup kd z i j ok =>
   simp only [bX.all, List.mem_cons, List.not_mem_nil, or_false, forall_eq_or_imp, forall_eq] at hl
   simp only [bt] at h ⊢
   rw [hl.1, hl.2]
   exact lC kput0 h
 | mx big i j =>
   simp only [bX.all, List.mem_cons, List.not_mem_nil, or_false, forall_eq_or_imp, forall_eq] at hl
   simp only [bt] at h ⊢
   rw [hl.1, hl.2]
   exact uI kput0 h
 | store m i j =>
   simp only [bX.all, List.mem_cons, List.not_mem_nil, or_false, forall_eq_or_imp, forall_eq] at hl
   simp only [bt] at h ⊢
   rw [hl.1, hl.2]
   exact Ba (fun H' hk => kenv H' (fun e => by cases e) (fun e => by cases e) hk) h
 | mG m i j =>
   simp only [bX.all, List.mem_cons, List.not_mem_nil, or_false, forall_eq_or_imp, forall_eq] at hl
   simp only [bt] at h ⊢
   rw [hl.1, hl.2]
   split at h <;> (try exact h.elim)
   exact y9 (fun H' hk => kenv H' (fun e => by cases e) (fun e => by cases e) hk) h
 | append esz bytes i j =>
   simp only [bX.all, List.mem_cons, List.not_mem_nil, or_false, forall_eq_or_imp, forall_eq] at hl
   simp only [bt] at h ⊢
   rw [hl.1, hl.2]
   refine y0 (fun zs hk => ?_) h
   cases i with
   | c v => exact kput0 _ hk
   | t s =>
     have hs : get cH s = get env1 s := hl.1
     have e : ∀ env : Env, get env s = get env1 s → put dst (.aq esz zs) (cD env (IX.t s).slot) = (put dst (.aq esz zs) [(s, (get env1 s).ae)]) ++ env := by
      intro env he
      cases dst <;> simp [put, cD, IX.slot, he]
     rw [e env1 rfl] at hk
     rw [e cH hs]
     refine hK _ H ?_ (fun _ => rfl) (fun _ => ⟨[], by simp⟩) hk
     intro p hp
     cases dst with
     | none => simp [put] at hp; subst hp; right; simp [bX.kill]
     | some d =>
       simp [put] at hp
       rcases hp with rfl | rfl
       ·left; rfl
       ·right; simp [bX.kill]
 | copy esz i j =>
   simp only [bX.all, List.mem_cons, List.not_mem_nil, or_false, forall_eq_or_imp, forall_eq] at hl
   simp only [bt] at h ⊢
   rw [hl.1, hl.2]
   exact DA (fun v H' hk => kput v H' (fun e => by cases e) (fun e => by cases e) hk) h
 | j4 kd i j k =>
   simp only [bX.all, List.mem_cons, List.not_mem_nil, or_false, forall_eq_or_imp, forall_eq] at hl
   simp only [bt] at h ⊢
   rw [hl.1, hl.2.1, hl.2.2]
   exact y8 (fun H' hk => kenv H' (fun e => by cases e) (fun e => by cases e) hk) h
 | eU i s =>
   simp only [bX.all, List.mem_cons, List.not_mem_nil, or_false, forall_eq_or_imp, forall_eq] at hl
   simp only [bt] at h ⊢
   have hs : get cH s = get env1 s := hl.2
   rw [hl.1, hs]
   exact wL (fun H' hk => hK [(s, (get env1 s).ae)] H' (by simp [bX.kill]) (fun e => by cases e) (fun e => by cases e) hk) h
 | iU kd neq i =>
   simp only [bX.all, List.mem_singleton, forall_eq] at hl
   simp only [bt] at h ⊢
   rw [hl]
   exact sB kput0 h
 | un op i =>
   simp only [bX.all, List.mem_singleton, forall_eq] at hl
   simp only [bt] at h ⊢
   rw [hl]
   exact uH kput0 h
 | box i =>
   simp only [bX.all, List.mem_singleton, forall_eq] at hl
   simp only [bt] at h ⊢
   rw [hl]
   exact ⟨h.1, h.2.1, kput _ _ (fun e => by cases e) (fun _ => ⟨_, rfl⟩) h.2.2⟩
 | lg i =>
   simp only [bX.all, List.mem_singleton, forall_eq] at hl
   simp only [bt] at h ⊢
   rw [hl]
   exact ⟨h.1, kput0 _ h.2⟩
 | qS m i =>
   simp only [bX.all, List.mem_singleton, forall_eq] at hl
   simp only [bt] at h ⊢
   rw [hl]
   exact ⟨h.1, h.2.1, h.2.2.1, kput0 _ h.2.2.2⟩
 | alloc z =>
   simp only [bt] at h ⊢
   exact ⟨h.1, kput _ _ (fun e => by cases e) (fun _ => ⟨_, rfl⟩) h.2⟩
 | mI =>
   simp only [bt] at h ⊢
   exact kput _ _ (fun e => by cases e) (fun _ => ⟨_, rfl⟩) h
 | load sz i =>
   simp only [bX.all, List.mem_singleton, forall_eq] at hl
   simp only [bt] at h ⊢
   rw [hl]
   exact jy kput0 h
 | sd sz esz i =>
   simp only [bX.all, List.mem_singleton, forall_eq] at hl
   simp only [bt] at h ⊢
   rw [hl]
   exact jy (fun z hz => uJ (fun v H' hk => kput v H' (fun e => by cases e) (fun e => by cases e) hk) hz) h
 | ee i =>
   simp only [bX.all, List.mem_singleton, forall_eq] at hl
   simp only [bt] at h ⊢
   rw [hl]
   cases dst with
   | none => exact h.elim
   | some d =>
     cases hv : ap env1 i with
     | ptr id off =>
       rw [hv] at h
       simp only at h ⊢
       cases bn : H[id]? with
       | none => rw [bn] at h; exact h.elim
       | some ob =>
         rw [bn] at h
         cases ob with
         | cells es => exact ⟨h.1, hK [(d, es.getD off .any)] _ (by simp) (fun e => by cases e) (fun e => by cases e) h.2⟩
         | _ => exact h.elim
     | _ => rw [hv] at h; exact h.elim
 | yC esz i =>
   simp only [bX.all, List.mem_singleton, forall_eq] at hl
   simp only [bt] at h ⊢
   rw [hl]
   exact uJ (fun v H' hk => kput v H' (fun e => by cases e) (fun e => by cases e) hk) h
 | nilCheck i =>
   simp only [bX.all, List.mem_singleton, forall_eq] at hl
   simp only [bt] at h ⊢
   rw [hl]
   exact jB kput0 h
 | fieldAddr off sz i =>
   simp only [bX.all, List.mem_singleton, forall_eq] at hl
   simp only [bt] at h ⊢
   rw [hl]
   exact iN kput0 h
 | field off sz i =>
   simp only [bX.all, List.mem_singleton, forall_eq] at hl
   simp only [bt] at h ⊢
   rw [hl]
   exact mS kput0 h
 | len kd i =>
   simp only [bX.all, List.mem_singleton, forall_eq] at hl
   simp only [bt] at h ⊢
   rw [hl]
   exact ⟨h.1, rh kput0 h.2⟩
 | sf esz bytes z i =>
   simp only [bX.all, List.mem_singleton, forall_eq] at hl
   simp only [bt] at h ⊢
   rw [hl]
   exact Bb (fun v H' hk => kput v H' (fun e => by cases e) (fun e => by cases e) hk) h
 | mH esz bytes i =>
   simp only [bX.all, List.mem_singleton, forall_eq] at hl
   simp only [bt] at h ⊢
   rw [hl]
   exact sD kput0 h
 | extract i k =>
   simp only [bX.all, List.mem_singleton, forall_eq] at hl
   simp only [bt] at h ⊢
   rw [hl]
   exact ko kput0 h
 | eC k i =>
   simp only [bX.all, List.mem_singleton, forall_eq] at hl
   simp only [bt] at h ⊢
   rw [hl]
   exact kq kput0 h
 | gh i =>
   simp only [bX.all, List.mem_singleton, forall_eq] at hl
   simp only [bt] at h ⊢
   rw [hl]
   exact oC kput0 h
 | bytesOf i =>
   simp only [bX.all, List.mem_singleton, forall_eq] at hl
   simp only [bt] at h ⊢
   rw [hl]
   exact oD kput0 h
 | strOf i =>
   simp only [bX.all, List.mem_singleton, forall_eq] at hl
   simp only [bt] at h ⊢
   rw [hl]
   exact sC kput0 h
 | build z ps =>
   simp only [bX.all] at hl
   simp only [bt] at h ⊢
   have : (ps.map fun q => (q.1, q.2.1, ap cH q.2.2)) = ps.map fun q => (q.1, q.2.1, ap env1 q.2.2) :=
    List.map_congr_left fun q hq => by rw [hl _ (List.mem_map.2 ⟨q, hq, rfl⟩)]
   rw [this]
   exact lE (fun v hk => kput0 _ hk) h
 | AG esz z len ps =>
   simp only [bX.all] at hl
   simp only [bt] at h ⊢
   have : (ps.map fun q => (q.1, ap cH q.2)) = ps.map fun q => (q.1, ap env1 q.2) :=
    List.map_congr_left fun q hq => by rw [hl _ (List.mem_map.2 ⟨q, hq, rfl⟩)]
   rw [this]
   exact gA (fun v hk => ⟨hk.1, kput _ _ (fun e => by cases e) (fun e => by cases e) hk.2⟩) h
 | iW esz bytes z i j =>
   simp only [bX.all, List.mem_cons, List.not_mem_nil, or_false, forall_eq_or_imp, forall_eq] at hl
   simp only [bt] at h ⊢
   rw [hl.1, hl.2]
   exact wM (fun v H' hk => kput v H' (fun e => by cases e) (fun e => by cases e) hk) h
 | mJ esz z i =>
   simp only [bX.all, List.mem_singleton, forall_eq] at hl
   simp only [bt] at h ⊢
   rw [hl]
   exact y7 (fun H' hk => kput _ H' (fun e => by cases e) (fun e => by cases e) hk) h
 | buildSlice own esz z len ps =>
   simp only [bX.all] at hl
   simp only [bt] at h ⊢
   have : (ps.map fun q => (q.1, ap cH q.2)) = ps.map fun q => (q.1, ap env1 q.2) :=
    List.map_congr_left fun q hq => by rw [hl _ (List.mem_map.2 ⟨q, hq, rfl⟩)]
   rw [this]
   exact gA (fun v hk => kput0 _ hk) h
 | slice esz i lo hi m =>
   simp only [bX.all, List.mem_cons, List.mem_append, forall_eq_or_imp] at hl
   obtain ⟨h1, h2⟩ := hl
   simp only [bt] at h ⊢
   rw [h1, fT (fun i hi => h2 i (.inl (.inl hi))), fT (fun i hi => h2 i (.inl (.inr hi))), fT (fun i hi => h2 i (.inr hi))]
   exact lD kput0 h
 | oO esz i lo hi m =>
   simp only [bX.all, List.mem_cons, List.mem_append, forall_eq_or_imp] at hl
   obtain ⟨h1, h2⟩ := hl
   simp only [bt] at h ⊢
   rw [h1, fT (fun i hi => h2 i (.inl (.inl hi))), fT (fun i hi => h2 i (.inl (.inr hi))), fT (fun i hi => h2 i (.inr hi))]
   exact ⟨h.1, sE (fun z hz => ⟨hz.1, kput0 _ hz.2⟩) h.2⟩
 | dI i lo hi =>
   simp only [bX.all, List.mem_cons, List.mem_append, forall_eq_or_imp] at hl
   obtain ⟨h1, h2⟩ := hl
   simp only [bt] at h ⊢
   rw [h1, fT (fun i hi => h2 i (.inl hi)), fT (fun i hi => h2 i (.inr hi))]
   exact jC kput0 h
 | fn f first cap =>
   simp only [bX.all, List.mem_append] at hl
   simp only [bt] at h ⊢
   rw [mU (fun i hi => hl i (.inl hi)) AV.ae, mU (fun i hi => hl i (.inr hi)) AV.ae]
   exact kput0 _ h
 | call f args pass =>
   simp only [bX.all, List.mem_cons, forall_eq_or_imp] at hl
   obtain ⟨h1, h2⟩ := hl
   simp only [bt, oB] at h ⊢
   rw [h1]
   split at h <;> try exact h.elim
   all_goals
   obtain ⟨bP, hle, hcall⟩ := h
   refine ⟨bP, ?_, hcall.mono fun r H' hk => ?_⟩
   ·rw [mW h2]; exact hle
   ·cases hp : bf args pass with
    | none =>
      rw [hp] at hk
      exact kput r H' (fun e => by cases e) (fun e => by cases e) hk
    | some s =>
      rw [hp] at hk
      have iF : IX.t s ∈ args ∧ s ∈ (bX.call f args pass).kill := by
       unfold bf at hp
       simp only [bX.kill]
       split at hp
       ·rename_i j
        split at hp <;> cases hp
        rename_i hj
        try simp only [hj]
        exact ⟨List.mem_of_getElem? hj, by simp⟩
       ·cases hp
      have hs : get cH s = get env1 s := h2 _ iF.1
      have e : ∀ env : Env, get env s = get env1 s → put dst r (cD env (some s)) = (put dst r [(s, (get env1 s).ae)]) ++ env := by
       intro env he
       cases dst <;> simp [put, cD, he]
      rw [e env1 rfl] at hk
      rw [e cH hs]
      refine hK _ H' ?_ (fun e => by cases e) (fun e => by cases e) hk
      intro p Tl
      cases dst with
      | none => simp [put] at Tl; subst Tl; exact .inr iF.2
      | some d =>
        simp [put] at Tl
        rcases Tl with rfl | rfl
        ·left; rfl
        ·exact .inr iF.2
 | never => exact h.elim
end Go.aL
end
section
namespace Go.aL
open Go
theorem cJ {env1 cH : Env} (h : get env1 = get cH) : ∀ mods : List (Nat × AV), get (mods ++ env1) = get (mods ++ cH)
 | [] => h
 | (k, v) :: r => by
   funext t
   simp only [List.cons_append, get]
   split
   ·rfl
   ·rw [cJ h r]
theorem oE {env1 cH : Env} {t : Nat} (h : get env1 t = get cH t) : ∀ mods : List (Nat × AV), get (mods ++ env1) t = get (mods ++ cH) t
 | [] => h
 | (k, v) :: r => by
   simp only [List.cons_append, get]
   split
   ·rfl
   ·rw [oE h r]
theorem kr {env : Env} {t : Nat} : ∀ {mods : List (Nat × AV)}, (∀ p ∈ mods, p.1 ≠ t) → get (mods ++ env) t = get env t
 | [], _ => rfl
 | (k, v) :: r, h => by
   simp only [List.cons_append, get]
   rw [if_neg (fun e => h (k, v) (by simp) e.symm), kr (fun p hp => h p (by simp [hp]))]
theorem Gp {l : List IX} {s : Nat} (h : IX.t s ∈ l) : s ∈ IX.OF l := List.mem_filterMap.2 ⟨_, h, rfl⟩
theorem DB {o : bu} {env1 cH : Env} (hl : ∀ s ∈ o.lk, get cH s = get env1 s) : ∀ i ∈ o.op.all, ap cH i = ap env1 i := by
 intro i hi
 cases i with
 | c v => rfl
 | t s => exact hl s (List.mem_append_left _ (Gp hi))
theorem get_guard {env : Env} {g : Nat} {b : Bool} (h : get env g = .bool b) : get ((g, AV.bool b) :: env) = get env := by
 funext t
 simp only [get]
 split
 ·rename_i e; rw [e, h]
 ·rfl
theorem nO {P : Px} {o : bu} {env1 cH : Env} {H : List aa} {K1 K2 : Env → List aa → Prop} (hl : ∀ s ∈ o.lk, get cH s = get env1 s) (h : ra P o env1 H K1)
 (hK : ∀ e1 e2 H', (∃ mods : List (Nat × AV), (∀ p ∈ mods, o.dst = some p.1 ∨ p.1 ∈ o.op.kill) ∧ get e1 = get (mods ++ env1) ∧ get e2 = get (mods ++ cH)) → (o.op.Qa = false → H' = H) → (o.op.xr = true → ∃ e, H' = H ++ e) → K1 e1 H' → K2 e2 H') : ra P o cH H K2 := by
 unfold ra at *
 cases hg : o.g with
 | none =>
   simp only [hg] at h ⊢
   exact nN (DB hl) h fun mods H' hm hc hg hk => hK _ _ H' ⟨mods, hm, rfl, rfl⟩ hc hg hk
 | some p =>
   obtain ⟨g, want⟩ := p
   simp only [hg] at h ⊢
   unfold gS at *
   have xw : get cH g = get env1 g := hl g (by simp [bu.lk, hg])
   rw [xw]
   split at h
   rotate_left
   ·rename_i hb
    refine hK _ _ H ⟨(match o.dst with | some d => [(d, .tuple [])] | none => []), ?_, ?_, ?_⟩ (fun _ => rfl) (fun _ => ⟨[], by simp⟩) h
    ·cases hd : o.dst <;> simp
    ·cases hd : o.dst <;> rfl
    ·cases hd : o.dst <;> rfl
   ·exact h.elim
   rename_i b hb
   have pB : get cH g = .bool b := by rw [xw, hb]
   refine ⟨fun e => ?_, fun e => ?_⟩
   ·subst e
    refine nN (env1 := (g, .bool b) :: env1) (DB (o := o) fun s hs => ?_) (h.1 rfl) fun mods H' hm hc hg hk => hK _ _ H' ⟨mods, hm, cJ (get_guard hb) mods, cJ (get_guard pB) mods⟩ hc hg hk
    rw [get_guard hb, get_guard pB]
    exact hl s hs
   ·have h2 := h.2 e
    subst e
    refine hK _ _ H ⟨(match o.dst with | some d => [(d, .tuple [])] | none => []), ?_, ?_, ?_⟩ (fun _ => rfl) (fun _ => ⟨[], by simp⟩) h2
    ·cases hd : o.dst <;> simp
    ·cases hd : o.dst with
     | none => exact get_guard hb
     | some d => exact cJ (get_guard hb) [(d, .tuple [])]
    ·cases hd : o.dst with
     | none => exact get_guard pB
     | some d => exact cJ (get_guard pB) [(d, .tuple [])]
theorem pR {P : Px} {o : bu} {env : Env} {H : List aa} {K1 K2 : Env → List aa → Prop} (h : ra P o env H K1)
 (hK : ∀ e1 e2 H', get e1 = get e2 → K1 e1 H' → K2 e2 H') : ra P o env H K2 :=
 nO (fun _ _ => rfl) h fun e1 e2 H' ⟨mods, _, h1, h2⟩ _ _ hk => hK e1 e2 H' (h1.trans h2.symm) hk
section
variable {P : Px} {ops : Array Oper} {il : List bu} {K : Env → List aa → Prop}
def qA (P : Px) (il : List bu) (i : Nat) (env : Env) (H : List aa) (K : Env → List aa → Prop) : Prop :=
 match il[i]? with
 | none => K env H
 | some o => ra P o env H K
def uK (P : Px) (ops : Array Oper) (il : List bu) (K : Env → List aa → Prop) : Nat → Array Bool → Env → List aa → Prop
 | 0, listed, env, H => Region.ready .any ops listed = [] ∧ K env H
 | f + 1, listed, env, H => (Region.ready .any ops listed = [] → K env H) ∧ ∀ i ∈ Region.ready .any ops listed, qA P il i env H (uK P ops il K f (listed.setIfInBounds i true))
def Inv (K : Env → List aa → Prop) : Prop := ∀ e1 e2 H, get e1 = get e2 → K e1 H → K e2 H
theorem gT (hK : Inv K) : ∀ (f : Nat) (listed : Array Bool) {e1 e2 : Env} {H : List aa}, get e1 = get e2 → uK P ops il K f listed e1 H → uK P ops il K f listed e2 H
 | 0, _, _, _, _, he, h => ⟨h.1, hK _ _ _ he h.2⟩
 | f + 1, listed, e1, e2, H, he, h => by
   refine ⟨fun h0 => hK _ _ _ he (h.1 h0), fun i hi => ?_⟩
   have hq := h.2 i hi
   unfold qA at *
   split
   ·rename_i hn; simp only [hn] at hq; exact gT hK f _ he hq
   ·rename_i o ho
    simp only [ho] at hq
    exact nO (fun s _ => by rw [he]) hq fun a b H' ⟨mods, _, h1, h2⟩ _ _ hk => gT hK f _ (by rw [h1, h2, cJ he]) hk
def T4 (P : Px) (st : Bool) (o : bu) (env : Env) (H : List aa) (x : AV) : Prop :=
 ∃ ρ : IX → AV, (∀ i ∈ o.op.all, ap env i = ρ i) ∧ match o.g with
  | none => dv P st o.op ρ H x
  | some (g, want) => (∃ b, get env g = .bool b ∧ (b = want → dv P st o.op ρ H x) ∧ (b ≠ want → x = .tuple [])) ∨ (get env g = .tuple [] ∧ x = .tuple [])
theorem E1 {st : Bool} {o : bX} {ρ : IX → AV} {H : List aa} {x : AV} (h : dv P st o ρ H x) : cT P o ρ H x := by
 cases st
 ·exact h H
 ·exact h
theorem uL {H e : List aa} {id : Nat} {o : aa} (h : H[id]? = some o) : (H ++ e)[id]? = some o := by
 rw [List.getElem?_append_left (List.getElem?_eq_some_iff.1 h).1, h]
theorem DC {sz : Option Nat} {x : AV} {H e : List aa} {φ : AV → Prop} (h : aS sz x H φ) : aS sz x (H ++ e) φ := by
 unfold aS at *
 split at h
 ·split at h
  ·rename_i bn; rw [uL bn]; exact h
  ·exact h.elim
 ·exact h
 ·exact h.elim
theorem Gq {x : AV} {H e : List aa} {φ : AV → Prop} (h : eW x H φ) : eW x (H ++ e) φ := by
 unfold eW at *
 split at h <;> (try exact h)
 split at h
 ·rename_i bn; rw [uL bn]; exact h
 ·exact h.elim
theorem za {kd : Nat} {z m k : AV} {ok : Bool} {H e : List aa} {φ : AV → Prop} (h : cc kd z m k ok H φ) : cc kd z m k ok (H ++ e) φ := by
 unfold cc at *
 split at h <;> (try exact h)
 split at h
 ·rename_i bn; rw [uL bn]; exact h
 ·exact h.elim
theorem xx {o : bX} {ρ : IX → AV} {H e : List aa} {x : AV} (hs : o.stays = true) (h : cT P o ρ H x) : cT P o ρ (H ++ e) x := by
 cases o with
 | call f args pass => cases hs
 | load sz i =>
   unfold cT at h ⊢
   exact DC h
 | len kd i =>
   unfold cT at h ⊢
   exact ⟨h.1, Gq h.2⟩
 | lookup kd z m k ok =>
   unfold cT at h ⊢
   exact za h
 | set i t => cases t <;> exact h
 | _ => exact h
theorem Bc {st : Bool} {o : bX} {ρ : IX → AV} {H H' : List aa} {x : AV} (hH : st = true → H' = H ∨ (o.stays = true ∧ ∃ e, H' = H ++ e)) (h : dv P st o ρ H x) : dv P st o ρ H' x := by
 cases st
 ·exact h
 ·rcases hH rfl with e | ⟨h1, e, he⟩
  ·rw [e]; exact h
  ·rw [he]; exact xx h1 h
theorem Gs {st : Bool} {o : bu} {env1 cH : Env} {H1 H2 : List aa} {x : AV} (hl : ∀ s ∈ o.lk, get cH s = get env1 s) (hH : st = true → H2 = H1 ∨ (o.op.stays = true ∧ ∃ e, H2 = H1 ++ e)) (h : T4 P st o env1 H1 x) : T4 P st o cH H2 x := by
 obtain ⟨ρ, h1, h2⟩ := h
 refine ⟨ρ, fun i hi => (DB hl i hi).trans (h1 i hi), ?_⟩
 cases hg : o.g with
 | none => simp only [hg] at h2 ⊢; exact Bc hH h2
 | some p =>
   obtain ⟨g, want⟩ := p
   simp only [hg] at h2 ⊢
   rcases h2 with ⟨b, k1, k2, k3⟩ | ⟨k1, k2⟩
   ·exact .inl ⟨b, (hl g (by simp [bu.lk, hg])).trans k1, fun e => Bc hH (k2 e), k3⟩
   ·exact .inr ⟨(hl g (by simp [bu.lk, hg])).trans k1, k2⟩
theorem E2 {st : Bool} {o : bu} {env : Env} {H : List aa} {x : AV} (h : T4 P st o env H x) : ra P o env H fun e H' => H' = H ∧ get e = get (put o.dst x env) := by
 obtain ⟨ρ, h1, h2⟩ := h
 unfold ra
 cases hg : o.g with
 | none => simp only [hg] at h2 ⊢; exact A9 (E1 h2) h1
 | some p =>
   obtain ⟨g, want⟩ := p
   simp only [hg] at h2 ⊢
   rcases h2 with ⟨b, k1, k2, k3⟩ | ⟨k1, k2⟩
   rotate_left
   ·unfold gS
    rw [k1]
    subst k2
    exact ⟨by simp, rfl⟩
   unfold gS
   rw [k1]
   refine ⟨fun e => ?_, fun e => ?_⟩
   ·subst e
    have Ld := get_guard k1
    have := A9 (dst := o.dst) (env := (g, .bool b) :: env) (E1 (k2 rfl)) (fun i hi => by
     rw [← h1 i hi]
     cases i with
     | c v => rfl
     | t s => show get _ s = get _ s; rw [Ld])
    refine nN (fun _ _ => rfl) this ?_
    intro mods H' _ _ _ hk
    refine ⟨hk.1, hk.2.trans ?_⟩
    rw [jU, jU, Ld]
   ·have ep : b ≠ want := by intro e2; subst e2; cases b <;> cases e
    have hx := k3 ep
    subst hx
    subst e
    exact ⟨by simp, by rw [jU, jU, get_guard k1]⟩
def closed (ops : Array Oper) (listed : Array Bool) : Prop := ∀ k o, ops[k]? = some o → listed.getD k false = true → ∀ e ∈ o.after, Region.binds .any e = true → listed.getD e.on false = true
theorem kH {listed : Array Bool} (hc : closed ops listed) {i : Nat} : ∀ (f j : Nat) (oj : Oper), ops[j]? = some oj → (∀ e ∈ oj.after, Region.binds .any e = true → listed.getD e.on false = true) → dg ops f j i = true → listed.getD i false = true
 | 0, _, _, _, _, h => by simp [dg] at h
 | f + 1, j, oj, hj, jo, h => by
   simp only [dg, hj] at h
   obtain ⟨k, hk, he⟩ := Array.any_eq_true.1 h
   simp only [Bool.and_eq_true, Bool.or_eq_true, beq_iff_eq] at he
   have iF : oj.after[k] ∈ oj.after := Array.getElem_mem hk
   have hl := jo _ iF he.1
   rcases he.2 with e | e
   ·rw [← e]; exact hl
   ·have hso : ∃ o', ops[(oj.after[k]).on]? = some o' := by
     cases f with
     | zero => simp [dg] at e
     | succ f =>
       cases ho : ops[(oj.after[k]).on]? with
       | none => simp [dg, ho] at e
       | some o' => exact ⟨o', rfl⟩
    obtain ⟨o', Qg⟩ := hso
    exact kH hc f _ o' Qg (hc _ _ Qg hl) e
theorem oW {listed : Array Bool} {i : Nat} (h : listed.getD i true = false) : listed.getD i false = false := by
 simp only [Array.getD_eq_getD_getElem?] at *
 cases hx : listed[i]? with
 | none => rfl
 | some b => rw [hx] at h; simpa using h
theorem oX {listed : Array Bool} (hc : closed ops listed) {j : Nat} (hj : j ∈ Region.ready .any ops listed) : closed ops (listed.setIfInBounds j true) := by
 obtain ⟨_, oj, Qb, jo⟩ := mem_ready.1 hj
 intro k o ho hk e he hb
 refine getD_set_true ?_
 by_cases hkj : k = j
 ·subst hkj
  rw [Qb] at ho
  cases ho
  exact jo e he hb
 ·rw [getD_set_ne false (Ne.symm hkj)] at hk
  exact hc k o ho hk e he hb
theorem Bd {listed : Array Bool} {i j : Nat} {st : Bool} (h : mQ ops il listed i st = true) (hj : j < ops.size) (E3 : j ≠ i) (XL : listed.getD j true = false) (jM : dg ops ops.size j i = false) : rb st (il.getD i default) (il.getD j default) = true := by
 unfold mQ at h
 have := List.all_eq_true.1 h j (List.mem_range.2 hj)
 simp only [Bool.or_eq_true, beq_iff_eq, XL, jM, Bool.false_eq_true, or_false] at this
 rcases this with e | e
 ·exact absurd e E3
 ·exact e
theorem Be {listed : Array Bool} {i j : Nat} {st : Bool} (h : mQ ops il listed i st = true) : mQ ops il (listed.setIfInBounds j true) i st = true := by
 unfold mQ at *
 refine List.all_eq_true.2 fun k hk => ?_
 have := List.all_eq_true.1 h k hk
 simp only [Bool.or_eq_true] at this ⊢
 rcases this with ((e | e) | e) | e
 ·exact .inl (.inl (.inl e))
 ·refine .inl (.inl (.inr ?_))
  by_cases OE : j = k
  ·subst OE
   simp only [Array.getD_eq_getD_getElem?, Array.getElem?_setIfInBounds]
   split
   ·split <;> simp
   ·rename_i ep; exact absurd trivial ep
  ·rw [getD_set_ne true OE]; exact e
 ·exact .inl (.inr e)
 ·exact .inr e
theorem Bf {st : Bool} {oi oj : bu} (h : rb st oi oj = true) :
 (∀ d, oi.dst = some d → d ∉ oj.lk ∧ oj.dst ≠ some d ∧ d ∉ oj.op.kill) ∧ (∀ d, oj.dst = some d → d ∉ oi.lk) ∧ (∀ s ∈ oj.op.kill, s ∉ oi.lk) ∧ (st = true → oj.op.Qa = false ∨ (oj.op.xr = true ∧ oi.op.stays = true)) := by
 unfold rb at h
 simp only [Bool.and_eq_true, Bool.or_eq_true, Bool.not_eq_true'] at h
 obtain ⟨⟨⟨h1, h2⟩, h3⟩, h4⟩ := h
 refine ⟨fun d hd => ?_, fun d hd => ?_, fun s hs => ?_, fun e => ?_⟩
 ·rw [hd] at h1
  simpa [and_assoc] using h1
 ·rw [hd] at h2
  simpa using h2
 ·have := List.all_eq_true.1 h3 s hs
  simpa using this
 ·rcases h4 with (e2 | e2) | e2
  ·rw [e] at e2; cases e2
  ·exact .inl e2
  ·exact .inr e2
theorem pS {l : List bu} {i : Nat} {o : bu} (h : l[i]? = some o) : l.getD i default = o := by
 rw [List.getD_eq_getElem?_getD, h]; rfl
theorem Gu (hK : Inv K) (cZ : il.length = ops.size) {i : Nat} {oi : bu} {x : AV} {st : Bool} (hi : il[i]? = some oi) : ∀ (f : Nat) (listed : Array Bool) {env : Env} {H : List aa}, closed ops listed → mQ ops il listed i st = true → i ∈ Region.ready .any ops listed →
 T4 P st oi env H x → uK P ops il K f (listed.setIfInBounds i true) (put oi.dst x env) H → uK P ops il K (f + 1) listed env H := by
 intro f
 induction f with
 | zero =>
   intro listed env H iD CY hr ht hD
   refine ⟨fun h => (by rw [h] at hr; cases hr), fun j hj => ?_⟩
   by_cases E3 : j = i
   ·subst E3
    unfold qA
    simp only [hi]
    exact pR (E2 ht) fun e1 e2 H' he ⟨h1, h2⟩ => by
     subst h1
     exact gT hK 0 _ (h2.symm.trans he) hD
   ·have := ready_mono hj E3
    rw [hD.1] at this
    cases this
 | succ f ih =>
   intro listed env H iD CY hr ht hD
   refine ⟨fun h => (by rw [h] at hr; cases hr), fun j hj => ?_⟩
   by_cases E3 : j = i
   ·subst E3
    unfold qA
    simp only [hi]
    exact pR (E2 ht) fun e1 e2 H' he ⟨h1, h2⟩ => by
     subst h1
     exact gT hK (f + 1) _ (h2.symm.trans he) hD
   ·have h1 := hD.2 j (ready_mono hj E3)
    obtain ⟨YC, oj', T5, jo⟩ := mem_ready.1 hj
    have hjs : j < ops.size := (Array.getElem?_eq_some_iff.1 T5).1
    have jM : dg ops ops.size j i = false := by
     cases hma : dg ops ops.size j i with
     | false => rfl
     | true =>
       have := kH iD _ j oj' T5 jo hma
       rw [oW (mem_ready.1 hr).1] at this
       cases this
    have T6 := Bd CY hjs E3 YC jM
    rw [pS hi] at T6
    unfold qA at *
    cases Qb : il[j]? with
    | none =>
      rw [List.getElem?_eq_none_iff] at Qb
      omega
    | some oj =>
      rw [pS Qb] at T6
      obtain ⟨a1, a2, a3, a4⟩ := Bf T6
      simp only [Qb] at h1 ⊢
      refine nO (env1 := put oi.dst x env) (fun s hs => ?_) h1 fun e1 e2 H' ⟨mods, hm, g1, g2⟩ hch hgr hk => ?_
      ·rw [jU]
       cases hd : oi.dst with
       | none => rfl
       | some d =>
         simp only [Qf, fe]
         rw [if_neg]
         intro e
         exact (a1 d hd).1 (e ▸ hs)
      ·have HQ : ∀ s ∈ oi.lk, ∀ p ∈ mods, p.1 ≠ s := by
        intro s hs p hp e
        rcases hm p hp with h | h
        ·exact a2 _ h (e ▸ hs)
        ·exact a3 _ h (e ▸ hs)
       have YD : ∀ d, oi.dst = some d → ∀ p ∈ mods, p.1 ≠ d := by
        intro d hd p hp e
        rcases hm p hp with h | h
        ·exact (a1 d hd).2.1 (e ▸ h)
        ·exact (a1 d hd).2.2 (e ▸ h)
       refine ih (listed.setIfInBounds j true) (oX iD hj) (Be CY) (ready_mono hr (Ne.symm E3)) ?_ ?_
       ·refine Gs (fun s hs => ?_) (fun e => (a4 e).imp hch fun ⟨q1, q2⟩ => ⟨q2, hgr q1⟩) ht
        rw [g2]
        exact kr (HQ s hs)
       ·rw [Array.setIfInBounds_comm _ _ E3]
        refine gT hK f _ ?_ hk
        rw [g1, jU, g2]
        cases hd : oi.dst with
        | none => rfl
        | some d =>
          funext t
          simp only [Qf, fe, put]
          by_cases YE : t = d
          ·subst YE
           rw [if_pos rfl, kr (YD t hd)]
           simp [get]
          ·rw [if_neg YE]
           refine oE ?_ mods
           simp [get, YE]
theorem LR (hK : Inv K) (cZ : il.length = ops.size) : ∀ (p : wu) (f : Nat) (listed : Array Bool) {env : Env} {H : List aa}, closed ops listed →
 (th ops il f listed none p = true → tF P (inst il p) env H K → uK P ops il K f listed env H) ∧
 (∀ ks, (∀ i ∈ ks, i ∈ Region.ready .any ops listed) → th ops il (f + 1) listed (some ks) p = true → tF P (inst il p) env H K → ∀ i ∈ ks, qA P il i env H (uK P ops il K f (listed.setIfInBounds i true))) := by
 intro p
 induction p with
 | done =>
   intro f listed env H iD
   refine ⟨fun h hd => ?_, fun ks _ h _ i hi => ?_⟩
   ·have : Region.ready .any ops listed = [] := by
     cases f <;> simpa [th, List.isEmpty_iff] using h
    simp only [inst, tF] at hd
    cases f with
    | zero => exact ⟨this, hd⟩
    | succ f => exact ⟨fun _ => hd, fun i hi => by rw [this] at hi; cases hi⟩
   ·cases ks with
    | nil => cases hi
    | cons k ks => simp [th] at h
 | nil =>
   intro f listed env H iD
   refine ⟨fun h _ => by cases f <;> simp [th] at h, fun ks _ h _ i hi => ?_⟩
   cases ks with
   | nil => cases hi
   | cons k ks => simp [th] at h
 | take k st r ih =>
   intro f listed env H iD
   refine ⟨fun h hd => ?_, fun ks _ h _ i hi => ?_⟩
   ·cases f with
    | zero => simp [th] at h
    | succ f =>
      simp only [th, Bool.and_eq_true, List.contains_iff_mem] at h
      obtain ⟨⟨⟨hr, adm⟩, CY⟩, hp⟩ := h
      obtain ⟨_, ok, jN, _⟩ := mem_ready.1 hr
      have Dj : k < il.length := by rw [cZ]; exact (Array.getElem?_eq_some_iff.1 jN).1
      have LC : il[k]? = some (il.getD k default) := by rw [List.getD_eq_getElem?_getD, List.getElem?_eq_getElem Dj]; rfl
      simp only [inst, tF, sy] at hd
      have fin : ∀ x, T4 P st (il.getD k default) env H x → tF P (inst il r) (put (il.getD k default).dst x env) H K → uK P ops il K (f + 1) listed env H := by
       intro x hx hrest
       exact Gu hK cZ LC f listed iD CY hr hx ((ih f _ (oX iD hr)).1 hp hrest)
      cases hg : (il.getD k default).g with
      | none =>
        simp only [hg] at hd
        obtain ⟨x, hx, hrest⟩ := hd
        exact fin x ⟨ap env, fun _ _ => rfl, by simp only [hg]; exact hx⟩ hrest
      | some gw =>
        obtain ⟨g, want⟩ := gw
        simp only [hg, gS] at hd
        split at hd
        rotate_left
        ·rename_i hb
         exact fin (.tuple []) ⟨ap env, fun _ _ => rfl, by simp only [hg]; exact .inr ⟨hb, by trivial⟩⟩ hd
        ·exact hd.elim
        rename_i b hb
        by_cases E0 : b = want
        ·obtain ⟨x, hx, hrest⟩ := hd.1 E0
         exact fin x ⟨ap env, fun _ _ => rfl, by simp only [hg]; exact .inl ⟨b, hb, fun _ => hx, fun e => absurd E0 e⟩⟩ hrest
        ·have hrest := hd.2 (by cases b <;> cases want <;> first | rfl | exact absurd rfl E0)
         exact fin (.tuple []) ⟨ap env, fun _ _ => rfl, by simp only [hg]; exact .inl ⟨b, hb, fun e => absurd e E0, fun _ => by trivial⟩⟩ hrest
   ·cases ks with
    | nil => cases hi
    | cons k ks => simp [th] at h
 | br k t rest IB HP =>
   intro f listed env H iD
   have key : ∀ (f : Nat) (ks : List Nat), (∀ i ∈ k :: ks, i ∈ Region.ready .any ops listed) → th ops il f (listed.setIfInBounds k true) none t = true → th ops il (f + 1) listed (some ks) rest = true → tF P (inst il (.br k t rest)) env H K →
    ∀ i ∈ k :: ks, qA P il i env H (uK P ops il K f (listed.setIfInBounds i true)) := by
    intro f ks Dj h1 h2 hd i hi
    simp only [inst, tF] at hd
    rcases List.mem_cons.1 hi with rfl | hi
    ·have hr := Dj i (by simp)
     obtain ⟨_, ok, jN, _⟩ := mem_ready.1 hr
     have a8 : i < il.length := by rw [cZ]; exact (Array.getElem?_eq_some_iff.1 jN).1
     have LC : il[i]? = some (il.getD i default) := by rw [List.getD_eq_getElem?_getD, List.getElem?_eq_getElem a8]; rfl
     unfold qA
     rw [LC]
     exact pR hd.1 fun e1 e2 H' he hk => gT hK f _ he ((IB f _ (oX iD hr)).1 h1 hk)
    ·exact (HP f listed iD).2 ks (fun j hj => Dj j (by simp [hj])) h2 hd.2 i hi
   refine ⟨fun h hd => ?_, fun ks Dj h hd i hi => ?_⟩
   ·cases f with
    | zero => simp [th] at h
    | succ f =>
      simp only [th] at h
      split at h
      ·rename_i k' ks XM
       simp only [Bool.and_eq_true, beq_iff_eq] at h
       obtain ⟨⟨rfl, h1⟩, h2⟩ := h
       have := key f ks (fun i hi => by rw [XM]; exact hi) h1 h2 hd
       exact ⟨(fun e => by rw [e] at XM; cases XM), fun i hi => this i (by rw [XM] at hi; exact hi)⟩
      ·cases h
   ·cases ks with
    | nil => cases hi
    | cons k' ks =>
      simp only [th, Bool.and_eq_true, beq_iff_eq] at h
      obtain ⟨⟨rfl, h1⟩, h2⟩ := h
      exact key f ks Dj h1 h2 hd i hi
end
end Go.aL
end
section
namespace Go.aL
open Go
section
variable {ro : Option Nat} {P : Program} {lo : Option Nat} {A : Perm} {n : Nat}
theorem mX {ops : Array Oper} {an : AD} {rid : Nat} : ∀ (fuel k : Nat) (l : List Oper) (il : List bu), eD P ops an n rid false fuel k l = some il →
 il.length = l.length ∧ ∀ (j : Nat) (o : Oper), l[j]? = some o → ∃ g, EY ops o = some g ∧ EX n o = true ∧ il[j]? = some ⟨g, o.dst, A0 P o (an.at_ rid (k + j))⟩
 | _, _, [], il, hc => by
   unfold eD at hc
   cases hc
   exact ⟨rfl, fun j o h => by simp at h⟩
 | 0, _, o :: r, il, hc => by simp [eD] at hc
 | fuel + 1, k, o :: r, il, hc => by
   unfold eD at hc
   simp only [Bool.false_eq_true, and_false, if_false] at hc
   split at hc <;> try cases hc
   rename_i g xs hg ft
   split at hc <;> cases hc
   rename_i fO
   obtain ⟨h1, h2⟩ := mX fuel (k + 1) r xs ft
   refine ⟨by simp [h1], fun j o' hj => ?_⟩
   cases j with
   | zero =>
     simp at hj
     subst hj
     exact ⟨g, hg, fO, by simp⟩
   | succ j =>
     simp at hj
     obtain ⟨g', e1, e2, e3⟩ := h2 j o' hj
     exact ⟨g', e1, e2, by simp [e3, Nat.add_assoc, Nat.add_comm 1 j]⟩
theorem sG {ops : Array Oper} {il : List bu} {an : AD} {rid : Nat} {L0 : List Nat} {M0 : Mem} {w0 : World} {K : Env → List aa → Prop} {Q : Exit → Act → World → Prop}
 (hp : ∀ l, lo = some l → ∀ id, l ≤ id → A.top id = none) (hc : eD P ops an n rid false (ops.size + 1) 0 ops.toList = some il)
 (hF : ∀ (M : Mem) (L : List Nat) (w : World) (H : List aa) (env : Env) (O : Pos → Option Nat) (a : Act), K env H → Fr A n M L w H env O a → Ext A M0 w0 M w → L0 <+: L → Q .normal a w) :
 ∀ (f : Nat) (listed : Array Bool) {M : Mem} {L : List Nat} {w : World} {H : List aa} {env : Env} {O : Pos → Option Nat} {a : Act}, Fr A n M L w H env O a → Ext A M0 w0 M w → L0 <+: L → uK ⟨P, lo⟩ ops il K f listed env H → wpAnyIn (wf ro) 0 P .any ops Q f listed a w
 | 0, _, _, _, _, _, _, _, _, hf, ct, hL, h => ⟨h.1, hF _ _ _ _ _ _ _ h.2 hf ct hL⟩
 | f + 1, listed, M, L, w, H, env, O, a, hf, ct, hL, h => by
   refine ⟨fun h0 => hF _ _ _ _ _ _ _ (h.1 h0) hf ct hL, fun i hi => ?_⟩
   have hq := h.2 i hi
   unfold wpOpIn
   cases ho : ops[i]? with
   | none =>
     obtain ⟨_, o, Qg, _⟩ := mem_ready.1 hi
     rw [ho] at Qg; cases Qg
   | some o =>
     obtain ⟨g, hg, fO, Aw⟩ := (mX _ _ _ _ hc).2 i o (by simpa using ho)
     unfold qA at hq
     rw [Aw] at hq
     have hs := xu (ro := ro) (ops := ops) hg fO hp hf hq Q
     have hrest : ∀ a' w', mC A n M L w (uK ⟨P, lo⟩ ops il K f (listed.setIfInBounds i true)) a' w' → wpAnyIn (wf ro) 0 P .any ops Q f (listed.setIfInBounds i true) a' w' := by
      rintro a' w' ⟨M', L', H', aE, O', k1, k2, k3, k4⟩
      exact sG hp hc hF f _ k2 (ct.trans k3) (hL.trans k4) k1
     simp only
     split
     ·rename_i hw
      rw [if_pos hw] at hs
      exact Oper.wpIn_mono hrest hs
     ·rename_i hw
      rw [if_neg hw] at hs
      exact ⟨fun _ _ => trivial, hrest _ _ hs⟩
theorem Gv (L0 : List Nat) (hp : ∀ l, lo = some l → ∀ id, l ≤ id → A.top id = none) : xv P ro lo A n L0 := by
 intro id ops il p live an M L w H env O a M0 w0 Q hm hB hc h hf ct hL
 simp only [me] at h
 have hK : Inv (fun (aE : Env) (H' : List aa) => ∃ e, get e = get aE ∧ Q .normal (ej live e) H') := fun e1 e2 H he ⟨e, h1, h2⟩ => ⟨e, h1.trans he, h2⟩
 have cZ : il.length = ops.size := by simpa using (mX _ _ _ _ hc).1
 have hB := IA cZ p _ _ _ _ (Gl _) (by simp) hB
 have iD : closed ops (Array.replicate ops.size false) := by
  intro k o _ hk
  simp only [Array.getD_eq_getD_getElem?, Array.getElem?_replicate] at hk
  split at hk <;> cases hk
 have hd : tF ⟨P, lo⟩ (inst il p) env H (fun (aE : Env) (H' : List aa) => ∃ e, get e = get aE ∧ Q .normal (ej live e) H') := by
  have mono : ∀ (t : DT) (env : Env) (H : List aa) (K1 K2 : Env → List aa → Prop), (∀ e H, K1 e H → K2 e H) → Inv K2 → tF ⟨P, lo⟩ t env H K1 → tF ⟨P, lo⟩ t env H K2 := by
   intro t
   induction t with
   | done => intro env H K1 K2 hk _ h; exact hk _ _ h
   | nil => intro _ _ _ _ _ _ _; trivial
   | take st o r ih =>
     intro env H K1 K2 hk hi h
     simp only [tF, sy] at h ⊢
     cases hg : o.g with
     | none =>
       simp only [hg] at h ⊢
       obtain ⟨x, hx, h⟩ := h
       exact ⟨x, hx, ih _ _ _ _ hk hi h⟩
     | some gw =>
       obtain ⟨g, want⟩ := gw
       simp only [hg, gS] at h ⊢
       split at h
       rotate_left
       ·exact ih _ _ _ _ hk hi h
       ·exact h.elim
       exact ⟨fun e => let ⟨x, hx, h⟩ := h.1 e; ⟨x, hx, ih _ _ _ _ hk hi h⟩, fun e => ih _ _ _ _ hk hi (h.2 e)⟩
   | br o t rest IB HP =>
     intro env H K1 K2 hk hi h
     have hinv : ∀ K : Env → List aa → Prop, Inv K → ∀ t, Inv fun env H => tF ⟨P, lo⟩ t env H K := by
      intro K hK t
      induction t with
      | done => exact hK
      | nil => intro _ _ _ _ _; trivial
      | take st o r ih =>
        intro e1 e2 H he h
        simp only [tF, sy] at h ⊢
        have hav : ap e2 = ap e1 := by
         funext i
         cases i with
         | c v => rfl
         | t s => show get e2 s = get e1 s; rw [he]
        have mN : ∀ x, get (put o.dst x e1) = get (put o.dst x e2) := fun x => by rw [jU, jU, he]
        cases hg : o.g with
        | none =>
          simp only [hg] at h ⊢
          obtain ⟨x, hx, h⟩ := h
          exact ⟨x, by rw [hav]; exact hx, ih _ _ _ (mN x) h⟩
        | some gw =>
          obtain ⟨g, want⟩ := gw
          simp only [hg, gS] at h ⊢
          rw [← he]
          split at h
          rotate_left
          ·exact ih _ _ _ (mN _) h
          ·exact h.elim
          exact ⟨fun e => let ⟨x, hx, h⟩ := h.1 e; ⟨x, by rw [hav]; exact hx, ih _ _ _ (mN x) h⟩, fun e => ih _ _ _ (mN _) (h.2 e)⟩
      | br o t rest IB HP =>
        intro e1 e2 H he h
        exact ⟨nO (fun s _ => by rw [he]) h.1 fun a b H' ⟨mods, _, g1, g2⟩ _ _ hk => IB _ _ _ (by rw [g1, g2, cJ he]) hk, HP _ _ _ he h.2⟩
     exact ⟨pR h.1 fun e1 e2 H' he HR => hinv K2 hi t _ _ _ he (IB _ _ _ _ hk hi HR), HP _ _ _ _ hk hi h.2⟩
  exact mono _ _ _ _ _ (fun e H hq => ⟨e, rfl, hq⟩) hK h
 have hA := (LR (P := ⟨P, lo⟩) hK cZ p ops.size (Array.replicate ops.size false) (env := env) (H := H) iD).1 hB hd
 refine wpIn_region_any hm (sG (M0 := M0) (w0 := w0) (L0 := L0) hp hc ?_ ops.size _ (M := M) (L := L) (H := H) (env := env) (O := O) ⟨hf.st.drew, hf.size, hf.defers.ext (Ext.drew (M := M))⟩ (ct.trans Ext.drew) hL hA)
 rintro M' L' w' H' aE O' a' ⟨e, he, hq⟩ h2 h3 h4
 obtain ⟨O'', h5⟩ := (h2.Dw he).weaken (xt live e)
 exact ⟨A, M', L', H', _, O'', .refl A, hq, h5, h3, h4⟩
theorem DD {L0 : List Nat} {an : AD} {lv : l9} {pl : ma} (c : Code) (ir : IR) (hc : comp P an lv pl n c = some ir) {M : Mem} {L : List Nat} {w : World} {H : List aa} {env : Env} {O : Pos → Option Nat} {a : Act} {Q : Exit → Env → List aa → Prop}
 (hA : fC lo L0.length A) (wm : Own ro w) (h : me ⟨P, lo⟩ L0.length ir env H Q) (hf : Fr A n M L w H env O a) (hL : L0 <+: L) : c.wpIn (wf ro) 0 P (Dv A n M L0 w Q) a w :=
 sound (fun A hA => Gv L0 hA.opens) c ir hc hA wm h hf hL
end
end Go.aL
end
section
namespace Go.aL
open Go
inductive RX where
 | t (s : Nat)
 | c (s : Nat) (sz : Option Nat)
 deriving Inhabited
def IC (P : Program) : ResultVar → Option RX
 | .tmp t => some (.t t)
 | .cell a t => (HO P t).map (.c a)
def gU (P : Program) : List ResultVar → Option (List RX)
 | [] => some []
 | r :: rs => match IC P r, gU P rs with
   | some x, some xs => some (x :: xs)
   | _, _ => none
def ri : List RX → Env → List aa → (List AV → Prop) → Prop
 | [], _, _, φ => φ []
 | .t s :: r, env, H, φ => ri r env H fun xs => φ (get env s :: xs)
 | .c s sz :: r, env, H, φ => aS sz (get env s) H fun x => ri r env H fun xs => φ (x :: xs)
def bV (n0 : Nat) (rs : List RX) (env : Env) (H : List aa) (R : AV → List aa → Prop) : Prop :=
 ri rs env H fun xs => ∃ m, n0 ≤ m ∧ match xs with
  | [x] => ∃ r, x.le r ∧ r.aZ m = true ∧ R r (H.take m)
  | xs => ∃ ys, xp (xs.map AV.ae) ys ∧ ak m ys = true ∧ R (.tuple ys) (H.take m)
def kI (C : List aa → Nat → List aa → Prop) (n0 : Nat) (rs : List RX) (env : Env) (H : List aa) (R : AV → List aa → Prop) : Prop :=
 ri rs env H fun xs => ∃ m H', n0 ≤ m ∧ C H m H' ∧ match xs with
  | [x] => ∃ r, x.le r ∧ r.aZ m = true ∧ R r H'
  | xs => ∃ ys, xp (xs.map AV.ae) ys ∧ ak m ys = true ∧ R (.tuple ys) H'
theorem rj : ∀ {rs : List RX} {env : Env} {H : List aa} {φ ψ : List AV → Prop}, (∀ xs, φ xs → ψ xs) → ri rs env H φ → ri rs env H ψ
 | [], env, H, φ, ψ, hm, h => hm _ h
 | .t s :: r, env, H, φ, ψ, hm, h => rj (rs := r) (fun xs hx => hm _ hx) h
 | .c s sz :: r, env, H, φ, ψ, hm, h => jy (fun x hx => rj (rs := r) (fun xs hx => hm _ hx) hx) h
theorem Qh {n0 : Nat} {rs : List RX} {env : Env} {H : List aa} {R : AV → List aa → Prop} (h : bV n0 rs env H R) : kI (fun H m H' => H' = H.take m) n0 rs env H R :=
 rj (fun xs ⟨m, h1, h2⟩ => ⟨m, H.take m, h1, rfl, h2⟩) h
def bW : Nat → List AV → Env
 | _, [] => []
 | k, x :: xs => (k, x) :: bW (k + 1) xs
theorem lF : ∀ (xs : List AV) (k t : Nat), get (bW k xs) t = if k ≤ t then xs.getD (t - k) .any else .any
 | [], k, t => by simp [bW, get]
 | x :: xs, k, t => by
   simp only [bW, get]
   split
   ·rename_i e; subst e; simp
   ·rename_i e
    rw [lF xs (k + 1) t]
    by_cases h : k + 1 ≤ t
    ·have : t - k = (t - (k + 1)) + 1 := by omega
     rw [if_pos h, if_pos (by omega), this]; simp
    ·rw [if_neg h, if_neg (by omega)]
section
variable {P : Program} {A : Perm} {n : Nat} {M : Mem} {L : List Nat} {w : World} {H : List aa} {env : Env} {O : Pos → Option Nat} {a : Act}
def zc (tmps : Array Value) : ResultVar → Sem Value := fun
 | .tmp t => pure (tmps.getD t undef)
 | .cell a t => do loadVar t (← asAddr (tmps.getD a undef))
theorem Bg {fn : Func} {tmps : Array Value} {vs : List Value} (h : (fn.results.toList.mapM (zc tmps)).run P w = .ok vs w) :
 (results fn tmps).run P w = .ok (if h : vs.toArray.size = 1 then vs.toArray[0] else .tuple vs.toArray) w := by
 have e : (results fn tmps) = (do
  let vs ← fn.results.mapM (zc tmps)
  pure (if h : vs.size = 1 then vs[0] else .tuple vs)) := rfl
 rw [e, Array.mapM_eq_mapM_toList]
 simp only [Sem.run_bind, Sem.run_map, h]
 rfl
theorem zd (hf : Fr A n M L w H env O a) : ∀ (rs : List ResultVar) (is : List RX), gU P rs = some is → ∀ {φ : List AV → Prop}, ri is env H φ →
 ∃ vs xs, (rs.mapM (zc a.tmps)).run P w = .ok vs w ∧ φ xs ∧ aK M L vs xs ∧ (∀ s, is = [.t s] → xs = [get env s] ∧ vs = [a.tmps.getD s undef]) ∧ (∀ s sz, is = [.c s sz] → ∀ x, xs = [x] → ∀ own ys, x = .aq own ys → own = 0)
 | [], is, hc, φ, h => by
   simp only [gU] at hc; cases hc
   exact ⟨[], [], by simp, h, .nil, (by intro s e; cases e), (by intro s sz e; cases e)⟩
 | r :: rs, is, hc, φ, h => by
   unfold gU at hc
   split at hc <;> cases hc
   rename_i x xs hx ft
   cases r with
   | tmp t =>
     simp only [IC] at hx; cases hx
     simp only [ri] at h
     obtain ⟨vs, ys, h1, h2, h3, _⟩ := zd hf rs xs ft h
     refine ⟨a.tmps.getD t undef :: vs, get env t :: ys, ?_, h2, .cons _ _ _ _ (hf.st.env t) h3, ?_, ?_⟩
     ·simp only [List.mapM_cons, Sem.run_bind, zc, Sem.run_pure, Result.andThen_ok, h1]
     ·intro s e
      cases e
      cases rs with
      | nil =>
        cases h3 with
        | nil => exact ⟨rfl, rfl⟩
        | cons v x vs xs hh tt =>
          simp at h1
      | cons r rs =>
        unfold gU at ft
        split at ft <;> cases ft
     ·intro s sz e; cases e
   | cell p t =>
     simp only [IC, Option.map_eq_some_iff] at hx
     obtain ⟨sz, cZ, rfl⟩ := hx
     simp only [ri] at h
     obtain ⟨r, z, k1, k2, k3, k4⟩ := qT (P := P) cZ hf.st h (hf.st.env p)
     obtain ⟨vs, ys, h1, h2, h3, _⟩ := zd hf rs xs ft k3
     refine ⟨r :: vs, z :: ys, ?_, h2, .cons _ _ _ _ k2 h3, ?_, ?_⟩
     ·have hl : (do loadVar t (← asAddr (a.tmps.getD p undef)) : Sem Value).run P w = .ok r w := by
       have fp := hf.st.env p
       revert k1 fp
       generalize a.tmps.getD p undef = u
       intro k1 fp
       unfold aS at h
       split at h
       ·rename_i id off e
        rw [e] at fp
        cases fp
        exact k1
       ·rename_i y e
        rw [e] at fp
        cases fp
        exact k1
       ·exact h.elim
      have YF : (List.mapM (zc a.tmps) rs).run P w = .ok vs w := h1
      simp only [List.mapM_cons, Sem.run_bind, zc] at hl ⊢
      rw [hl]
      simp only [Result.andThen_ok, YF]
      rfl
     ·intro s e; cases e
     ·intro s sz e x hx
      cases hx
      exact k4
theorem St.a9 {ev : Nat → Value} {ea : Nat → AV} (h : St A M L w H ev ea O) {v : Value} {x : AV} (hr : aR M L v x) (ob : Option Nat) (hs : bc M w v x ob)
 (h1 : ∀ id j b, ob = some b → O (.c id j) ≠ some b) (h2 : ∀ b, ob = some b → b ∉ L ∧ b < w.heap.size ∧ A b) :
 ∃ O', St A M L w H (fe (fun _ => undef) 0 v) (fe (fun _ => .any) 0 x) O' := by
 have k1 := h.pM (fun _ => undef) (fun _ => .any) (fun _ => .any _) (fun _ _ _ e => by cases e)
 exact ⟨_, k1.put 0 hr ob hs (fun p b hob hp => by
  cases p with
  | t t => cases hp
  | c id j => exact absurd hp (h1 id j b hob)) h2⟩
theorem E4 {x : AV} {m : Nat} (hb : x.aZ m = true) (t : Nat) : (fe (fun _ => AV.any) 0 x t).aZ m = true := by
 simp only [fe]
 split
 ·exact hb
 ·rfl
theorem St.Qi {ev : Nat → Value} {ea : Nat → AV} (h : St A M L w H ev ea O) (A2 : Perm) (YG : A2.wr = A.wr) (n : Nat) {H' : List aa} (hlen : H'.length = min n H.length)
 (hc : ∀ (id : Nat) (o : aa), H'[id]? = some o → o = .dead ∨ (H[id]? = some o ∧ o.aZ (A2.jc H'.length id) = true)) (hb : ∀ t, (ea t).aZ n = true) : ∃ O', St A2 M (L.take n) w H' ev ea O' := by
 let O' : Pos → Option Nat := fun p => match p with | .t t => O (.t t) | .c id j => match H'[id]? with | some .dead => none | some _ => O (.c id j) | none => none
 have hO : ∀ p b, O' p = some b → O p = some b := by
  intro p b hp
  cases p with
  | t t => exact hp
  | c id j =>
    simp only [O'] at hp
    split at hp <;> first | exact hp | cases hp
 have jk : ∀ {α : Type} {l : List α} {i : Nat} {a : α}, (l.take n)[i]? = some a → i < n ∧ l[i]? = some a := by
  intro α l i a hi
  rw [List.getElem?_take] at hi
  split at hi
  ·exact ⟨by assumption, hi⟩
  ·cases hi
 have iF : ∀ b, b ∈ L.take n → b ∈ L := fun b hb => List.mem_of_mem_take hb
 refine ⟨O', { len := by simp [h.len, hlen], nodup := (List.take_sublist n L).nodup h.nodup, env := fun t => (h.env t).fS (hb t), mem := h.mem, obj := ?_, bC := ?_, lt := fun b hb => h.lt b (iF b hb), gJ := h.gJ, gG := ?_, bZ := fun p q b hp hq => h.bZ p q b (hO p b hp) (hO q b hq), ch := fun p b hp hm => h.ch p b (hO p b hp) (iF b hm), eS := fun p b hp => h.eS p b (hO p b hp), La := fun b hb => by rw [YG]; exact h.La b (iF b hb), Oa := fun p b hp => by rw [YG]; exact h.Oa p b (hO p b hp), fresh := fun b hb => by rw [YG]; exact h.fresh b hb }⟩
 ·intro id o b ho dT
  obtain ⟨hn, dT⟩ := jk dT
  rcases hc id o ho with rfl | ⟨h1, h2⟩
  ·trivial
  ·refine (h.obj id o b h1 dT).fS (aa.cE ?_ o h2)
   have := A2.ud H'.length id
   omega
 ·intro id o ho
  rcases hc id o ho with rfl | ⟨h1, h2⟩
  ·rfl
  ·exact h2
 ·intro id j
  have dead : ∀ x : Option aa, H'[id]? = x → (x = none ∨ x = some .dead) → bc M w (bK (L.take n) w id j) (bp H' id j) (O' (.c id j)) := by
   intro x hx OG
   have e2 : bp H' id j = .any := by
    unfold bp
    rw [hx]
    rcases OG with rfl | rfl <;> rfl
   have e3 : O' (.c id j) = none := by
    simp only [O', hx]
    rcases OG with rfl | rfl <;> rfl
   rw [e2, e3]
   rfl
  cases hx : H'[id]? with
  | none => exact dead none hx (.inl rfl)
  | some o =>
    by_cases ed : o = .dead
    ·subst ed; exact dead _ hx (.inr rfl)
    ·rcases hc id o hx with h' | ⟨h1, h2⟩
     ·exact absurd h' ed
     have hl := aN hx
     have e1 : bK (L.take n) w id j = bK L w id j := by
      unfold bK
      rw [List.getElem?_take, if_pos (by omega)]
     have e2 : bp H' id j = bp H id j := by
      unfold bp
      rw [hx, h1]
     have e3 : O' (.c id j) = O (.c id j) := by
      simp only [O', hx]
     rw [e1, e2, e3]
     exact h.gG id j
theorem E5 : ∀ {vs : List Value} {xs ys : List AV}, aK M L vs xs → xp (xs.map AV.ae) ys → aK M L vs ys
 | _, _, [], .nil, h => .nil
 | _, _, y :: ys, .nil, h => by simp [xp] at h
 | _, _, [], .cons _ _ _ _ _ _, h => by simp [xp] at h
 | _, _, y :: ys, .cons _ _ _ _ h1 h2, h => by
   simp only [List.map_cons, xp] at h
   exact .cons _ _ _ _ (h1.ae.le h.1) (E5 h2 h.2)
def Marks (A : Perm) (w w2 : World) : Prop := w2.heap.size = w.heap.size ∧ w2.os = w.os ∧ w2.tape = w.tape ∧ w2.output = w.output ∧
 ∀ b, w2.heap[b]? = w.heap[b]? ∨ (A.base ≤ b ∧ ¬ A b ∧ (∃ x, w.heap[b]? = some (.deferred x)) ∧ ∃ x, w2.heap[b]? = some (.deferred x))
theorem Marks.refl (A : Perm) (w : World) : Marks A w w := ⟨rfl, rfl, rfl, rfl, fun b => .inl rfl⟩
theorem Marks.trans {A : Perm} {w w1 w2 : World} (h : Marks A w w1) (k : Marks A w1 w2) : Marks A w w2 := by
 refine ⟨k.1.trans h.1, k.2.1.trans h.2.1, k.2.2.1.trans h.2.2.1, k.2.2.2.1.trans h.2.2.2.1, fun b => ?_⟩
 rcases h.2.2.2.2 b with h1 | ⟨h1, h2, h3, x, h4⟩ <;> rcases k.2.2.2.2 b with k1 | ⟨k1, k2, ⟨y, k3⟩, k4⟩
 ·exact .inl (k1.trans h1)
 ·exact .inr ⟨k1, k2, ⟨y, by rw [← h1]; exact k3⟩, k4⟩
 ·exact .inr ⟨h1, h2, h3, x, by rw [k1]; exact h4⟩
 ·exact .inr ⟨h1, h2, h3, k4⟩
theorem pT {A : Perm} {F : Fence} {m : Nat} {fn : Func} {tmps : Array Value} {R : Ending → World → Prop} : ∀ (ds : List Deferred) {w : World}, OA A w ds → (∀ w2, Marks A w w2 → LeavesIn F m P fn tmps R [] .returning w2) → LeavesInM F m P fn tmps R ds .returning w
 | [], w, _, h => h w (.refl A w)
 | d :: ds, w, hd, h => by
   obtain ⟨D, rfl, h2, h3, h4⟩ := hd.2.2 _ List.mem_cons_self
   have hm : Marks A w (w.putObj D (.deferred none)) := ⟨World.putObj_size, rfl, rfl, rfl, fun b => by
    by_cases e : b = D
    ·subst e
     exact .inr ⟨h4, h3, ⟨_, h2⟩, _, World.putObj_heap_same (Array.getElem?_eq_some_iff.1 h2).1⟩
    ·exact .inl (World.putObj_heap_other e)⟩
   refine ⟨by simp, .inl ⟨D, _, rfl, run_takeDeferred h2, pT ds ⟨by rw [World.putObj_size]; exact hd.1, (List.nodup_cons.1 hd.2.1).2, fun d' XJ => ?_⟩ fun w2 hm2 => h w2 (hm.trans hm2)⟩⟩
   obtain ⟨D', e', k2, k3⟩ := hd.2.2 d' (List.mem_cons_of_mem _ XJ)
   refine ⟨D', e', ?_, k3⟩
   rw [World.putObj_heap_other]
   ·exact k2
   ·rintro rfl
    exact (List.nodup_cons.1 hd.2.1).1 (e' ▸ XJ)
theorem St.marks {ev : Nat → Value} {ea : Nat → AV} (h : St A M L w H ev ea O) {w2 : World} (hm : Marks A w w2) : St A M L w2 H ev ea O := by
 obtain ⟨h1, _, _, _, h5⟩ := hm
 have same : ∀ b, A b → w2.heap[b]? = w.heap[b]? := fun b hb => by
  rcases h5 b with h | ⟨_, h, _⟩
  ·exact h
  ·exact absurd hb h
 exact { len := h.len, nodup := h.nodup, env := h.env, bC := h.bC, bZ := h.bZ, ch := h.ch, La := h.La, Oa := h.Oa
         mem := fun b o v hv => by
          have hc := h.mem b o v hv
          rcases h5 b with e | ⟨_, _, ⟨x, e⟩, _⟩
          ·simp only [World.cell?] at hc ⊢; rw [e]; exact hc
          ·simp [World.cell?, e] at hc
         obj := fun id o b ho hb => (h.obj id o b ho hb).mono (Mem.bN M) (List.prefix_refl L) (same b (h.La b (List.mem_of_getElem? hb))) (fun _ => rfl)
         lt := fun b hb => by rw [h1]; exact h.lt b hb
         gJ := fun t => (h.gJ t).mono fun b hb => ⟨same b (h.Oa _ b hb), fun _ => rfl⟩
         gG := fun id j => by
          have e : bK L w2 id j = bK L w id j := by
           unfold bK
           split
           ·rename_i b hb
            simp only [World.cell?]
            rw [same b (h.La b (List.mem_of_getElem? hb))]
           ·rfl
          rw [e]
          exact (h.gG id j).mono fun b hb => ⟨same b (h.Oa _ b hb), fun _ => rfl⟩
         eS := fun p b hp => by rw [h1]; exact h.eS p b hp
         fresh := fun b hb => h.fresh b (by rw [← h1]; exact hb) }
theorem Ext.marks {A A' : Perm} {M M' : Mem} {w w' w2 : World} (h : Ext A M w M' w') (hm : Marks A' w' w2) (hb : w.heap.size ≤ A'.base) : Ext A M w M' w2 := by
 obtain ⟨h1, h2, h3, h4, h5⟩ := hm
 refine ⟨h.kz, by rw [h1]; exact h.size, h2.trans h.os, h3.trans h.tape, h4.trans h.output, fun b a8 hA => ?_, fun b r hr => ?_⟩
 ·obtain ⟨k1, k2⟩ := h.j3 b a8 hA
  refine ⟨?_, k2⟩
  rcases h5 b with e | ⟨e, _⟩
  ·exact e.trans k1
  ·omega
 ·obtain ⟨r', k1, k2⟩ := h.loops b r hr
  rcases h5 b with e | ⟨_, _, ⟨x, e⟩, _⟩
  ·exact ⟨r', e.trans k1, k2⟩
  ·rw [k1] at e; cases e
theorem uM {lo : Option Nat} {b : Bool} (A1 : Perm → Perm) (C : List aa → Nat → List aa → Prop) {f : FuncId} {fn : Func} {c : Code} {an : AD} {lv : l9} {pl : ma} {ir : IR} {rs : List RX} {args : List AV} {R : AV → List aa → Prop}
 (hf : P.funcs[f]? = some fn) (hcall : ∀ (as : Array Value) (w : World), (callFunc f as).run P w = .ok (.enter f as) w) (hb : fn.body = some c) (hc : comp P an lv pl fn.ntmps c = some ir) (wH : gU P fn.results.toList = some rs)
 (h1 : ∀ A : Perm, A.entry b H.length → fC lo H.length (A1 A)) (h2 : ∀ A : Perm, (A1 A).wr = A.wr) (h3 : ∀ (A : Perm) {M : Mem} {L : List Nat} {w : World} {ev : Nat → Value} {ea : Nat → AV} {O : Pos → Option Nat}, A.entry b H.length → St A M L w H ev ea O → St (A1 A) M L w H ev ea O)
 (h4 : ∀ (A : Perm) {M : Mem} {L : List Nat} {w : World} {H' : List aa} {ev : Nat → Value} {ea : Nat → AV} {O : Pos → Option Nat} {m : Nat} {H'' : List aa}, A.entry b H.length → H.length ≤ m → H.length ≤ H'.length → C H' m H'' → St (A1 A) M L w H' ev ea O → (∀ t, (ea t).aZ m = true) → ∃ O', St A M (L.take m) w H'' ev ea O')
 (hn : args.length ≤ fn.ntmps) (Rt : Env → List aa → Prop) (hRt : ∀ env H', Rt env H' → kI C H.length rs env H' R) (h : me ⟨P, lo⟩ H.length ir (bW 0 args) H fun e env H' => (e = .normal ∨ e = .ret) ∧ Rt env H') : kh b P f args H R := by
 refine fun A M L w vs O hA hs T7 => .inl ⟨hcall _ _, callsIn_wide.1 (callsIn_of_wp_marks (F := Fence.wide) (n := 0) hf hb trivial ?_ rfl)⟩
 obtain ⟨A2, DE⟩ : ∃ A2 : Perm, A2 = { A1 A with base := w.heap.size } := ⟨_, rfl⟩
 have a2w : A2.wr = A.wr := by rw [DE]; exact h2 A
 have st12 : ∀ {M : Mem} {L : List Nat} {w : World} {H : List aa} {ev : Nat → Value} {ea : Nat → AV} {O : Pos → Option Nat}, St (A1 A) M L w H ev ea O → St A2 M L w H ev ea O := by
  intro M L w H ev ea O h; subst DE
  exact { len := h.len, nodup := h.nodup, env := h.env, mem := h.mem, obj := h.obj, bC := h.bC, lt := h.lt, gJ := h.gJ, gG := h.gG, bZ := h.bZ, ch := h.ch, eS := h.eS, La := h.La, Oa := h.Oa, fresh := h.fresh }
 have st21 : ∀ {M : Mem} {L : List Nat} {w : World} {H : List aa} {ev : Nat → Value} {ea : Nat → AV} {O : Pos → Option Nat}, St A2 M L w H ev ea O → St (A1 A) M L w H ev ea O := by
  intro M L w H ev ea O h; subst DE
  exact { len := h.len, nodup := h.nodup, env := h.env, mem := h.mem, obj := h.obj, bC := h.bC, lt := h.lt, gJ := h.gJ, gG := h.gG, bZ := h.bZ, ch := h.ch, eS := h.eS, La := h.La, Oa := h.Oa, fresh := h.fresh }
 have bQ := st12 (h3 A hA T7)
 have hfits : fC lo H.length A2 := by rw [DE]; exact h1 A hA
 have Lf : L.length = H.length := T7.len
 have CY : Fr A2 fn.ntmps M L w H (bW 0 args) O { tmps := vs ++ Array.replicate (fn.ntmps - vs.size) undef, defers := [] } := by
  refine ⟨bQ.congr ?_ ?_, by simp; omega, ⟨by rw [DE]; exact Nat.le_refl _, List.nodup_nil, fun d h => by cases h⟩⟩
  ·intro t
   simp only [Array.getD_eq_getD_getElem?]
   by_cases ht : t < vs.size
   ·rw [Array.getElem?_append_left ht]
   ·rw [Array.getElem?_append_right (by omega), Array.getElem?_eq_none (xs := vs) (by omega), Array.getElem?_replicate]
    split <;> rfl
  ·intro t
   rw [lF]; simp
 rw [← bQ.len] at h hfits
 refine Go.wpIn_mono (DD (ro := none) (L0 := L) c ir hc hfits (fun l e => by cases e) h CY (List.prefix_refl L)) ?_
 rintro e a w1 ⟨A', M', L', H', env, O', hle, ⟨he, Gw⟩, LS, hext1, hL⟩
 have base : A'.base = w.heap.size := by rw [hle.2.2, DE]
 have done : (∀ w', Marks A' w1 w' → LeavesIn Fence.wide 0 P fn a.tmps (fun e w' => ∃ v r H' M' L' O', e = .returned v ∧ R r H' ∧ St A M' L' w' H' (fe (fun _ => undef) 0 v) (fe (fun _ => .any) 0 r) O' ∧ Ext A M w M' w' ∧ L <+: L') [] .returning w') →
  bodyPostM Fence.wide 0 P fn (fun e w' => ∃ v r H' M' L' O', e = .returned v ∧ R r H' ∧ St A M' L' w' H' (fe (fun _ => undef) 0 v) (fe (fun _ => .any) 0 r) O' ∧ Ext A M w M' w' ∧ L <+: L') e a w1 := by
  intro hd
  rcases he with rfl | rfl <;> exact pT _ LS.defers hd
 refine done fun w' hm => ?_
 have ze : Fr A2 fn.ntmps M' L' w' H' env O' { a with defers := [] } :=
  ⟨(LS.st.marks hm).le hle, LS.size, ⟨by rw [hm.1, ← hle.2.2]; exact LS.defers.1, List.nodup_nil, fun d h => by cases h⟩⟩
 have ct : Ext A M w M' w' := by
  have := hext1.marks hm (Nat.le_of_eq base.symm)
  exact ⟨this.kz, this.size, this.os, this.tape, this.output, fun b hb hA => this.j3 b hb (by rw [a2w]; exact hA), this.loops⟩
 have hlen2 : H.length ≤ H'.length := by have := hL.length_le; rw [Lf, ze.st.len] at this; exact this
 have goal : ∃ v, (results fn a.tmps).run P w' = .ok v w' ∧ ∃ v' r H'' M'' L'' O'', Ending.returned v = .returned v' ∧ R r H'' ∧ St A M'' L'' w' H'' (fe (fun _ => undef) 0 v') (fe (fun _ => .any) 0 r) O'' ∧ Ext A M w M'' w' ∧ L <+: L'' := by
  replace Gw := hRt _ _ Gw
  unfold kI at Gw
  obtain ⟨us, xs, k1, ⟨m, H2, hm, hC, k2⟩, k3, k4, k5⟩ := zd (P := P) ze _ _ wH Gw
  have lf : L <+: L'.take m := by
   obtain ⟨r, rfl⟩ := hL
   exact ⟨r.take (m - L.length), by rw [List.take_append, List.take_of_length_le (show L.length ≤ m by omega)]⟩
  have bH := Bg k1
  split at k2
  ·rename_i x
   obtain ⟨r, hle, hb, hR⟩ := k2
   cases k3 with
   | cons v _ _ _ hv ht =>
   cases ht
   refine ⟨v, by simpa using bH, v, r, H2, M', L'.take m, ?_⟩
   have tc : ∃ ob, bc M' w' v x ob ∧ (∀ id j b, ob = some b → O' (.c id j) ≠ some b) ∧ (∀ b, ob = some b → b ∉ L' ∧ b < w'.heap.size ∧ A2 b) := by
    match rs, wH, k4, k5 with
    | [], wH, _, _ =>
      unfold gU at wH
      split at wH
      ·rename_i e
       rw [e] at k1
       simp at k1
      ·split at wH <;> cases wH
    | [.t s], _, k4, _ =>
      obtain ⟨e1, e2⟩ := k4 s rfl
      cases e1; cases e2
      refine ⟨O' (.t s), ze.st.gJ s, fun id j b hb hc => ?_, fun b hb => ⟨ze.st.ch _ b hb, ze.st.eS _ b hb, ze.st.Oa _ b hb⟩⟩
      exact absurd (ze.st.bZ _ _ b hb hc) (by intro e; cases e)
    | [.c s sz], _, _, k5 =>
      exact ⟨none, bc.free (k5 s sz rfl x rfl), (fun _ _ _ e => by cases e), (fun _ e => by cases e)⟩
    | r1 :: r2 :: rs, wH, _, _ =>
      unfold gU at wH
      split at wH
      ·cases wH
      ·split at wH <;> cases wH
       rename_i h1 h2
       unfold gU at h2
       split at h2
       ·cases h2
       ·rename_i e
        rw [e] at k1
        simp only [List.mapM_cons, Sem.run_bind] at k1
        revert k1
        generalize HS : (zc a.tmps _).run P w' = g1
        cases g1 <;> simp
        generalize hg2 : (zc a.tmps _).run P _ = g2
        cases g2 <;> simp
        generalize hg3 : (List.mapM (zc a.tmps) _).run P _ = g3
        cases g3 <;> simp
   obtain ⟨ob, o1, o2, o3⟩ := tc
   obtain ⟨ob', p1, p2⟩ := o1.le hv hle
   obtain ⟨O'', ln⟩ := ze.st.a9 (hv.le hle) ob' p1 (fun id j b hb => by
    rcases p2 with rfl | rfl
    ·cases hb
    ·exact o2 id j b hb) (fun b hb => by
    rcases p2 with rfl | rfl
    ·cases hb
    ·exact o3 b hb)
   obtain ⟨O3, ID⟩ := h4 A hA (by omega) hlen2 hC (st21 ln) (E4 hb)
   exact ⟨O3, rfl, hR, ID, ct, lf⟩
  ·rename_i ep
   obtain ⟨ys, hle, hb, hR⟩ := k2
   have hlen : us.toArray.size ≠ 1 := by
    have := k3.length
    intro e
    simp at e
    rw [e] at this
    match xs, this with
    | [x], _ => exact ep x rfl
   rw [dif_neg hlen] at bH
   refine ⟨.tuple us.toArray, bH, .tuple us.toArray, .tuple ys, H2, M', L'.take m, ?_⟩
   obtain ⟨O'', ln⟩ := ze.st.a9 (.tuple _ _ (E5 k3 hle)) none (bc.free (by intro _ _ e; cases e)) (fun _ _ _ e => by cases e) (fun _ e => by cases e)
   obtain ⟨O3, ID⟩ := h4 A hA (by omega) hlen2 hC (st21 ln) (E4 (x := .tuple ys) hb)
   exact ⟨O3, rfl, hR, ID, ct, lf⟩
 exact goal
theorem oY {A : Perm} {k : Nat} (h : A.entry false k) : fC none k A := ⟨h.1, fun id bn => by rw [h.2 id bn]; rfl⟩
theorem Gx {f : FuncId} {fn : Func} {c : Code} {an : AD} {lv : l9} {pl : ma} {ir : IR} {rs : List RX} {args : List AV} {R : AV → List aa → Prop}
 (hf : P.funcs[f]? = some fn) (hcall : ∀ (as : Array Value) (w : World), (callFunc f as).run P w = .ok (.enter f as) w) (hb : fn.body = some c) (hc : comp P an lv pl fn.ntmps c = some ir) (wH : gU P fn.results.toList = some rs)
 (hn : args.length ≤ fn.ntmps) (h : me P H.length ir (bW 0 args) H fun e env H' => (e = .normal ∨ e = .ret) ∧ bV H.length rs env H' R) : au P f args H R := by
 refine uM (lo := none) (b := false) (fun A => A) (fun H m H' => H' = H.take m) hf hcall hb hc wH (fun A => oY) (fun A => rfl) (fun A _ _ _ _ _ _ _ h => h) ?_ hn (fun env H' => bV H.length rs env H' R) (fun env H' => Qh) h
 intro A M L w H' ev ea O m H'' hA hm hl e bQ LA
 subst e
 exact bQ.cut m (fun id o => (oY hA).closed hm bQ id o) LA
def mY (k : Nat) (A : Perm) : Perm where
 wr := A.wr
 top := fun id => if id < k then A.top id else none
 ok := fun id n h => by
  split at h
  ·exact A.ok id n h
  ·cases h
theorem Bh {A : Perm} {k : Nat} {b : Bool} (h : A.entry b k) : fC (some k) k (mY k A) :=
 ⟨fun id bn => by obtain ⟨m, h1, h2⟩ := h.1 id bn; exact ⟨m, h1, by simp only [mY, if_pos bn]; exact h2⟩, rfl, fun id bn => by simp only [mY]; rw [if_neg (by omega)]⟩
def mf (n0 : Nat) (H : List aa) (m : Nat) (H' : List aa) : Prop :=
 H'.length = min m H.length ∧ ∀ (id : Nat) (o : aa), H'[id]? = some o → o = .dead ∨ (H[id]? = some o ∧ (n0 ≤ id → o.aZ (id + 1) = true))
theorem DF {f : FuncId} {fn : Func} {c : Code} {an : AD} {lv : l9} {pl : ma} {ir : IR} {rs : List RX} {args : List AV} {R : AV → List aa → Prop}
 (hf : P.funcs[f]? = some fn) (hcall : ∀ (as : Array Value) (w : World), (callFunc f as).run P w = .ok (.enter f as) w) (hb : fn.body = some c) (hc : comp P an lv pl fn.ntmps c = some ir) (wH : gU P fn.results.toList = some rs)
 (hn : args.length ≤ fn.ntmps) (h : me ⟨P, some H.length⟩ H.length ir (bW 0 args) H fun e env H' => (e = .normal ∨ e = .ret) ∧ kI (mf H.length) H.length rs env H' R) : au P f args H R := by
 refine uM (lo := some H.length) (b := false) (mY H.length) (mf H.length) hf hcall hb hc wH (fun A hA => Bh hA) (fun A => rfl) (fun A M L w ev ea O hA bQ => ?_) ?_ hn (fun env H' => kI (mf H.length) H.length rs env H' R) (fun env H' h => h) h
 ·exact { len := bQ.len, nodup := bQ.nodup, env := bQ.env, mem := bQ.mem, obj := bQ.obj, lt := bQ.lt, gJ := bQ.gJ, gG := bQ.gG, bZ := bQ.bZ, ch := bQ.ch, eS := bQ.eS, La := bQ.La, Oa := bQ.Oa, fresh := bQ.fresh
          bC := fun id o ho => by
           have := bQ.bC id o ho
           have e : (mY H.length A).jc H.length id = A.jc H.length id := by unfold Perm.jc; simp only [mY, if_pos (aN ho)]
           rw [e]; exact this }
 ·intro A M L w H' ev ea O m H'' hA hm hl hC bQ LA
  obtain ⟨hlen, hC⟩ := hC
  refine bQ.Qi A rfl m hlen (fun id o ho => ?_) LA
  rcases hC id o ho with h' | ⟨h1, h2⟩
  ·exact .inl h'
  ·refine .inr ⟨h1, ?_⟩
   by_cases bn : id < H.length
   ·obtain ⟨k, hk, ek⟩ := hA.1 id bn
    have := bQ.bC id o h1
    have e1 : (mY H.length A).jc H'.length id = min k H'.length := by unfold Perm.jc; simp only [mY, if_pos bn, ek]
    have e2 : A.jc H''.length id = min k H''.length := by unfold Perm.jc; simp only [ek]
    rw [e1] at this
    rw [e2]
    exact aa.cE (by omega) o this
   ·have e2 : A.jc H''.length id = min (id + 1) H''.length := by unfold Perm.jc; rw [hA.2 id (by omega)]; rfl
    have := aN ho
    rw [e2]
    exact aa.cE (by omega) o (h2 (by omega))
end
end Go.aL
end
