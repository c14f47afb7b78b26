/- A memory-free reading of the model's values (part 13): code. -/
import Derived.Test.YtcfmgncmkbiknaaAbs12
set_option linter.unusedVariables false
set_option linter.unusedSimpArgs false
namespace Go.Abs
open Go

structure IOper where
  g : Option (Nat × Bool)
  dst : Option Nat
  op : IOp
  deriving Inhabited

/-- How a statement whose order is open is gone through: an operation that stands apart is taken first; else each that is ready. -/
inductive DT where
  | done
  | take (st : Bool) (o : IOper) (r : DT)
  | br (o : IOper) (t rest : DT)
  | nil
  deriving Inhabited
inductive Plan where
  | done
  | take (i : Nat) (st : Bool) (r : Plan)
  | br (i : Nat) (t rest : Plan)
  | nil
  deriving Inhabited
def inst (il : List IOper) : Plan → DT
  | .done => .done
  | .take i st r => .take st (il.getD i default) (inst il r)
  | .br i t rest => .br (il.getD i default) (inst il t) (inst il rest)
  | .nil => .nil

inductive IR where
  | skip
  | region (ops : List IOper) (live : Option (List Nat))
  | draw (t : DT) (live : Option (List Nat))
  | seq (a b : IR)
  | cond (x : IX) (a b : IR)
  | block (id : Nat) (a : IR)
  | loop (a : IR)
  | exit (id : Nat)
  | ret
  | never
  deriving Inhabited

def prune (live : Option (List Nat)) (env : Env) : Env :=
  match live with
  | none => env
  | some l => l.map fun t => (t, get env t)

/-- A guarded operation. -/
def aguard (env : Env) (g : Nat) (want : Bool) (yes no : Env → Prop) : Prop :=
  match get env g with
  | .bool b => (b = want → yes ((g, .bool want) :: env)) ∧ (b = (!want) → no ((g, .bool (!want)) :: env))
  | .tuple [] => no env
  | _ => False

def agd (P : Program) (o : IOper) (env : Env) (H : List AObj) (K : Env → List AObj → Prop) : Prop :=
  match o.g with
  | none => aop P o.op o.dst env H K
  | some (g, want) => aguard env g want (fun env => aop P o.op o.dst env H K) (fun env => K (put o.dst (.tuple []) env) H)

def aops (P : Program) : List IOper → Env → List AObj → (Env → List AObj → Prop) → Prop
  | [], env, H, K => K env H
  | o :: r, env, H, K => agd P o env H fun env H => aops P r env H K

/-- The value that an operation yields where the objects stay as they are. -/
def dval (P : Program) (o : IOp) (ρ : IX → AV) (H : List AObj) (x : AV) : Prop :=
  match o with
  | .set i false => (ρ i).unown = x
  | .pick c a b => boolP (ρ c) fun q => (q = true → (ρ a).unown = x) ∧ (q = false → (ρ b).unown = x)
  | .bin op i j => abin op (ρ i) (ρ j) fun z => z = x
  | .shift op i j => ashift op (ρ i) (ρ j) fun z => z = x
  | .eqBool neq i j => aeqBool neq (ρ i) (ρ j) fun z => z = x
  | .eqNil kd neq i => aeqNil kd neq (ρ i) fun z => z = x
  | .un op i => aun op (ρ i) fun z => z = x
  | .boxi i => (ρ i).val = true ∧ .iptr (ρ i) = x
  | .build z ps => abuild z.cells (ps.map fun q => (q.1, q.2.1, ρ q.2.2)) fun v => v = x
  | .buildSlice own esz z len ps => abslice (List.replicate len (canon z)) esz (ps.map fun q => (q.1, ρ q.2)) fun xs => .lst own xs = x
  | .load sz i => aload sz (ρ i) H fun z => z = x
  | .nilCheck i => anilCheck (ρ i) fun z => z = x
  | .fieldAddr off sz i => afieldAddr off sz (ρ i) fun z => z = x
  | .field off sz i => afield off sz (ρ i) fun z => z = x
  | .indexAddr esz i j => (∀ own xs, ρ i = .lst own xs → ∀ z ∈ xs, z.cells.length = esz) ∧ aindexAddr esz (ρ i) (ρ j) fun z => z = x
  | .indexStr i j => aindexStr (ρ i) (ρ j) fun z => z = x
  | .slice esz i lo hi mx => asliceX esz (ρ i) (lo.map ρ) (hi.map ρ) (mx.map ρ) fun z => z = x
  | .sliceStr i lo hi => asliceStr (ρ i) (lo.map ρ) (hi.map ρ) fun z => z = x
  | .len kd i => lenOk kd (ρ i) ∧ alen (ρ i) H fun z => z = x
  | .lookup kd z m k ok => alookup kd z (ρ m) (ρ k) ok H fun v => v = x
  | .fn f first cap => .fn f (first.map fun x => (ρ x).unown) (cap.map fun x => (ρ x).unown) = x
  | .extract i k => aextract (ρ i) k fun z => z = x
  | .call f args none => match ρ f with
    | .fn (.func g) first cap => ∃ args', LeL (first.map AV.unown ++ (args.map fun x => (ρ x).unown) ++ cap.map AV.unown) args' ∧ ACalls P g args' H (fun r H' => r = x ∧ H' = H)
    | _ => False
  | .convInt k i => aconvInt k (ρ i) fun z => z = x
  | .convStr i => aconvStr (ρ i) fun z => z = x
  | .bytesOf i => abytesOf 1 (ρ i) fun z => z = x
  | .mkbuf esz bytes i => amkbuf esz bytes (ρ i) fun z => z = x
  | .strOf i => astrOf (ρ i) fun z => z = x
  | .mx big i j => amx big (ρ i) (ρ j) fun z => z = x
  | _ => False

/-- The value of an operation that stands apart. st: nothing beside it turns the objects. -/
def dv (P : Program) (st : Bool) (o : IOp) (ρ : IX → AV) (H : List AObj) (x : AV) : Prop :=
  match st with
  | true => dval P o ρ H x
  | false => ∀ H', dval P o ρ H' x

def atake (P : Program) (st : Bool) (o : IOper) (env : Env) (H : List AObj) (K : Env → Prop) : Prop :=
  match o.g with
  | none => ∃ x, dv P st o.op (aval env) H x ∧ K (put o.dst x env)
  | some (g, want) => aguard env g want (fun _ => ∃ x, dv P st o.op (aval env) H x ∧ K (put o.dst x env)) (fun _ => K (put o.dst (.tuple []) env))

def adt (P : Program) : DT → Env → List AObj → (Env → List AObj → Prop) → Prop
  | .done, env, H, K => K env H
  | .take st o r, env, H, K => atake P st o env H fun env => adt P r env H K
  | .br o t rest, env, H, K => agd P o env H (fun env H => adt P t env H K) ∧ adt P rest env H K
  | .nil, _, _, _ => True

/-- Less may be told of a state, and objects that nothing speaks of be forgotten. -/
def sle (n0 : Nat) (env : Env) (H : List AObj) (env' : Env) (H' : List AObj) : Prop :=
  (∀ t, (get env t).le (get env' t)) ∧ (H' = H ∨ ∃ m, n0 ≤ m ∧ H' = H.take m ∧ ∀ t, (get env' t).blw m = true)

/-- n0: how many objects there were when the function was entered. -/
def awp (P : Program) (n0 : Nat) : IR → Env → List AObj → (Exit → Env → List AObj → Prop) → Prop
  | .skip, env, H, Q => Q .normal env H
  | .region ops live, env, H, Q => aops P ops env H fun env' H' => Q .normal (prune live env') H'
  | .draw t live, env, H, Q => adt P t env H fun env' H' => Q .normal (prune live env') H'
  | .seq a b, env, H, Q => awp P n0 a env H fun e env' H' => match e with
    | .normal => awp P n0 b env' H' Q
    | e => Q e env' H'
  | .cond x a b, env, H, Q => boolP (aval env x) fun q => (q = true → awp P n0 a env H Q) ∧ (q = false → awp P n0 b env H Q)
  | .block id a, env, H, Q => awp P n0 a env H fun e env' H' => match e with
    | .exit id' => if id' = id then Q .normal env' H' else Q (.exit id') env' H'
    | e => Q e env' H'
  | .loop a, env, H, Q => ∃ (ι : Type) (I : ι → Prop) (se : ι → Env) (sh : ι → List AObj) (μ : ι → Nat), (∃ i, I i ∧ sle n0 env H (se i) (sh i)) ∧
      ∀ i, I i → awp P n0 a (se i) (sh i) fun e env' H' => match e with
        | .normal => ∃ j, I j ∧ μ j < μ i ∧ sle n0 env' H' (se j) (sh j)
        | e => Q e env' H'
  | .exit id, env, H, Q => Q (.exit id) env H
  | .ret, env, H, Q => Q .ret env H
  | .never, env, H, Q => False

/-! ### From the model's code -/
abbrev Ann := List (Nat × Nat × Nat)
def Ann.at_ (an : Ann) (r i : Nat) : Nat := match an.find? fun x => x.1 == r && x.2.1 == i with | some x => x.2.2 | none => 0
abbrev Lives := List (Nat × List Nat)
def Lives.at_ (lv : Lives) (r : Nat) : Option (List Nat) := (lv.find? fun x => x.1 == r).map (·.2)

def dstOk (n : Nat) (o : Oper) : Bool := (match o.dst with | some d => d < n | none => true) && (match o.op with | .store .. | .mapUpdate .. => o.dst.isNone | _ => true)

def compG (ops : Array Oper) (o : Oper) : Option (Option (Nat × Bool)) :=
  match o.guard with
  | none => some none
  | some (j, want) => match (ops[j]?).bind (·.dst) with
    | some g => some (some (g, want))
    | none => none

def notSlot (i : IX) (d : Nat) : Bool := match i with | .t s => decide (s ≠ d) | _ => true

/-- A new variable and its first value: together a box. -/
def fuse (P : Program) (ops : Array Oper) (n : Nat) (fl : Nat) (o o' : Oper) : Option IOper :=
  match fl, o.op, o.dst, o.guard, o'.op, o'.dst, o'.guard with
  | 2, .alloc e, some d, none, .store t (.tmp d') x, none, none =>
    if d = d' ∧ d < n ∧ t = e then (match compX x, tcells P t, tzero P e with
      | some i, some m, some z => if notSlot i d = true ∧ z.cells.length = m ∧ z.val = true ∧ m ≠ 0 then some ⟨none, some d, .boxs m i⟩ else none
      | _, _, _ => none) else none
  | _, _, _, _, _, _, _ => none

def compOps (P : Program) (ops : Array Oper) (an : Ann) (n rid : Nat) (fu : Bool) : Nat → Nat → List Oper → Option (List IOper)
  | _, _, [] => some []
  | 0, _, _ => none
  | fuel + 1, k, o :: r =>
    if an.at_ rid k = 1000 ∧ fu = true then
      match r with
      | o' :: r' => match fuse P ops n 2 o o', compOps P ops an n rid fu fuel (k + 2) r' with
        | some x, some xs => some (x :: xs)
        | _, _ => none
      | [] => none
    else
      match compG ops o, compOps P ops an n rid fu fuel (k + 1) r with
      | some g, some xs => if dstOk n o = true then some (⟨g, o.dst, comp1 P o (an.at_ rid k)⟩ :: xs) else none
      | _, _ => none

/-! #### Plans -/
def IOp.all : IOp → List IX
  | .set i _ => [i]
  | .pick c a b => [c, a, b]
  | .bin _ i j | .shift _ i j | .eqBool _ i j | .indexAddr _ i j | .indexStr i j | .lookup _ _ i j _ | .mx _ i j | .store _ i j | .append _ _ i j | .copy _ i j => [i, j]
  | .setf _ i | .eqNil _ _ i | .un _ i | .box i | .boxi i | .boxs _ i | .load _ i | .takeCell i | .nilCheck i | .fieldAddr _ _ i | .field _ _ i | .len _ i | .mkarr _ _ _ i | .mkbuf _ _ i | .extract i _ | .convInt _ i | .convStr i | .bytesOf i | .strOf i => [i]
  | .putCell i s => [i, .t s]
  | .mapset _ i j k => [i, j, k]
  | .build _ ps => ps.map fun q => q.2.2
  | .buildSlice _ _ _ _ ps => ps.map fun q => q.2
  | .slice _ i lo hi m => i :: (lo.toList ++ hi.toList ++ m.toList)
  | .sliceStr i lo hi => i :: (lo.toList ++ hi.toList)
  | .fn _ first cap => first ++ cap
  | .call f args _ => f :: args
  | .alloc _ | .mkmap | .never => []
def IX.slots : List IX → List Nat := fun l => l.filterMap fun i => match i with | .t s => some s | .c _ => none
/-- Slots that give up what they own. -/
def IOp.kill : IOp → List Nat
  | .set (.t s) true => [s]
  | .putCell _ s => [s]
  | .append _ _ (.t s) _ => [s]
  | .call _ args pass => (match pass with | some j => (match args[j]? with | some (.t s) => [s] | _ => []) | none => [])
  | _ => []
/-- Does it turn the objects? -/
def IOp.chg : IOp → Bool
  | .box _ | .alloc _ | .takeCell _ | .store .. | .putCell .. | .mkarr .. | .mkmap | .mapset .. | .call .. | .copy .. | .setf .. | .never => true
  | _ => false
def IOper.lk (o : IOper) : List Nat := IX.slots o.op.all ++ (match o.g with | some (g, _) => [g] | none => [])
/-- May it be taken ahead of what is ready beside it? -/
def IOp.apt (o : IOp) (pure : Bool) : Bool :=
  match o with
  | .set _ take => !take
  | .call _ _ none => pure
  | .never | .call .. | .append .. => false
  | .boxs .. => false
  | o => !o.chg
/-- Does it do nothing to the objects but add one? -/
def IOp.grows : IOp → Bool
  | .box _ | .alloc _ | .mkmap => true
  | _ => false
/-- Does what it yields stay where objects are added? -/
def IOp.stays : IOp → Bool
  | .call .. => false
  | _ => true
def apartI (st : Bool) (oi oj : IOper) : Bool :=
  (match oi.dst with | some d => !oj.lk.contains d && oj.dst != some d && !oj.op.kill.contains d | none => true) &&
  (match oj.dst with | some d => !oi.lk.contains d | none => true) &&
  oj.op.kill.all (fun s => !oi.lk.contains s) && (!st || !oj.op.chg || (oj.op.grows && oi.op.stays))
/-- Must j come behind i? -/
def mustAfter (ops : Array Oper) : Nat → Nat → Nat → Bool
  | 0, _, _ => false
  | f + 1, j, i => match ops[j]? with
    | some o => o.after.any fun e => Region.binds .any e && (e.on == i || mustAfter ops f e.on i)
    | none => false
def freeAt (ops : Array Oper) (il : List IOper) (listed : Array Bool) (i : Nat) (st : Bool) : Bool :=
  (List.range ops.size).all fun j => j == i || listed.getD j true || mustAfter ops ops.size j i || apartI st (il.getD i default) (il.getD j default)
/-- Is it a plan? (rem: the ready ones that are still to be gone through) -/
def pok (ops : Array Oper) (il : List IOper) : Nat → Array Bool → Option (List Nat) → Plan → Bool
  | _, listed, none, .done => (Region.ready .any ops listed).isEmpty
  | f + 1, listed, none, .take i st r => (Region.ready .any ops listed).contains i && (il.getD i default).op.apt true && freeAt ops il listed i st && pok ops il f (listed.setIfInBounds i true) none r
  | f + 1, listed, none, .br i t rest => (match Region.ready .any ops listed with | k :: ks => k == i && pok ops il f (listed.setIfInBounds i true) none t && pok ops il (f + 1) listed (some ks) rest | [] => false)
  | f + 1, listed, some (k :: ks), .br i t rest => k == i && pok ops il f (listed.setIfInBounds i true) none t && pok ops il (f + 1) listed (some ks) rest
  | _, _, some [], .nil => true
  | _, _, _, _ => false

/-! The same, with sets of numbers as bits. -/
def amask : List Edge → Nat
  | [] => 0
  | e :: r => if Region.binds .any e = true then (1 <<< e.on) ||| amask r else amask r
def rmaskOf (rs : List Nat) : List Edge → Nat
  | [] => 0
  | e :: r => if Region.binds .any e = true ∧ e.on < rs.length then ((1 <<< e.on) ||| rs.getD e.on 0) ||| rmaskOf rs r else rmaskOf rs r
def rmasks : List Oper → List Nat → List Nat
  | [], acc => acc
  | o :: r, acc => rmasks r (acc ++ [rmaskOf acc o.after.toList])
def readyM (m : Nat) : Nat → List Nat → List Nat
  | _, [] => []
  | i, a :: r => if m.testBit i = false ∧ a &&& m = a then i :: readyM m (i + 1) r else readyM m (i + 1) r
def freeM (m i : Nat) (st : Bool) (oi : IOper) : Nat → List Nat → List IOper → Bool
  | j, r :: rs, o :: os => (j == i || m.testBit j || r.testBit i || apartI st oi o) && freeM m i st oi (j + 1) rs os
  | _, _, [] => true
  | _, [], _ :: _ => false
def pokM (am rm : List Nat) (il : List IOper) : Nat → Nat → Option (List Nat) → Plan → Bool
  | _, m, none, .done => (readyM m 0 am).isEmpty
  | f + 1, m, none, .take i st r => (readyM m 0 am).contains i && (il.getD i default).op.apt true && freeM m i st (il.getD i default) 0 rm il && pokM am rm il f (m ||| (1 <<< i)) none r
  | f + 1, m, none, .br i t rest => (match readyM m 0 am with | k :: ks => k == i && pokM am rm il f (m ||| (1 <<< i)) none t && pokM am rm il (f + 1) m (some ks) rest | [] => false)
  | f + 1, m, some (k :: ks), .br i t rest => k == i && pokM am rm il f (m ||| (1 <<< i)) none t && pokM am rm il (f + 1) m (some ks) rest
  | _, _, some [], .nil => true
  | _, _, _, _ => false

abbrev Plans := List (Nat × Plan)
def Plans.at_ (pl : Plans) (r : Nat) : Plan := match pl.find? fun x => x.1 == r with | some x => x.2 | none => .done

def comp (P : Program) (an : Ann) (lv : Lives) (pl : Plans) (n : Nat) : Code → Option IR
  | .skip => some .skip
  | .region id ops false => (compOps P ops an n id true (ops.size + 1) 0 ops.toList).map fun l => .region l (lv.at_ id)
  | .region id ops true => match compOps P ops an n id false (ops.size + 1) 0 ops.toList with
    | some il => if P.follows .mixedOrders = true ∧ pokM (ops.toList.map fun o => amask o.after.toList) (rmasks ops.toList []) il ops.size 0 none (pl.at_ id) = true then some (.draw (inst il (pl.at_ id)) (lv.at_ id)) else none
    | none => none
  | .seq a b => match comp P an lv pl n a, comp P an lv pl n b with
    | some x, some y => some (.seq x y)
    | _, _ => none
  | .cond c a b => match compX c, comp P an lv pl n a, comp P an lv pl n b with
    | some i, some x, some y => some (.cond i x y)
    | _, _, _ => none
  | .block id a => (comp P an lv pl n a).map (.block id)
  | .loop a => (comp P an lv pl n a).map .loop
  | .exit id => some (.exit id)
  | .ret => some .ret
  | _ => some .never


theorem testBit_one_shl (n k : Nat) : (1 <<< n).testBit k = decide (n = k) := by
  rw [Nat.shiftLeft_eq, Nat.one_mul, Nat.testBit_two_pow]

theorem amask_spec (m : Nat) : ∀ (es : List Edge), (amask es &&& m = amask es) ↔ ∀ e ∈ es, Region.binds .any e = true → m.testBit e.on = true := by
  have key : ∀ a : Nat, (a &&& m = a) ↔ ∀ i, a.testBit i = true → m.testBit i = true := by
    intro a
    constructor
    · intro h i hi
      rw [← h] at hi
      simp only [Nat.testBit_and, Bool.and_eq_true] at hi
      exact hi.2
    · intro h
      apply Nat.eq_of_testBit_eq
      intro i
      rw [Nat.testBit_and]
      cases ha : a.testBit i with
      | false => simp
      | true => simp [h i ha]
  intro es
  rw [key]
  induction es with
  | nil => simp [amask]
  | cons e r ih =>
    simp only [amask]
    split
    · rename_i hb
      constructor
      · intro h e' he' hb'
        rcases List.mem_cons.1 he' with rfl | he'
        · exact h _ (by simp [testBit_one_shl])
        · exact ih.1 (fun i hi => h i (by simp [hi])) e' he' hb'
      · intro h i hi
        simp only [Nat.testBit_or, Bool.or_eq_true, testBit_one_shl, decide_eq_true_eq] at hi
        rcases hi with rfl | hi
        · exact h e (by simp) hb
        · exact ih.2 (fun e' he' hb' => h e' (List.mem_cons_of_mem _ he') hb') i hi
    · rename_i hb
      constructor
      · intro h e' he' hb'
        rcases List.mem_cons.1 he' with rfl | he'
        · exact absurd hb' hb
        · exact ih.1 h e' he' hb'
      · intro h
        exact ih.2 (fun e' he' hb' => h e' (List.mem_cons_of_mem _ he') hb')

theorem rmaskOf_spec {rs : List Nat} {i : Nat} : ∀ {es : List Edge}, (rmaskOf rs es).testBit i = true → ∃ e ∈ es, Region.binds .any e = true ∧ e.on < rs.length ∧ (e.on = i ∨ (rs.getD e.on 0).testBit i = true)
  | [], h => by simp [rmaskOf] at h
  | e :: r, h => by
    simp only [rmaskOf] at h
    split at h
    · rename_i hb
      simp only [Nat.testBit_or, Bool.or_eq_true, testBit_one_shl, decide_eq_true_eq] at h
      rcases h with h | h
      · exact ⟨e, by simp, hb.1, hb.2, h⟩
      · obtain ⟨e', he', h'⟩ := rmaskOf_spec h
        exact ⟨e', List.mem_cons_of_mem _ he', h'⟩
    · obtain ⟨e', he', h'⟩ := rmaskOf_spec h
      exact ⟨e', List.mem_cons_of_mem _ he', h'⟩

theorem rmasks_pre : ∀ (l : List Oper) (acc : List Nat), ∃ r, rmasks l acc = acc ++ r ∧ r.length = l.length
  | [], acc => ⟨[], by simp [rmasks], rfl⟩
  | o :: l, acc => by
    obtain ⟨r, h1, h2⟩ := rmasks_pre l (acc ++ [rmaskOf acc o.after.toList])
    exact ⟨rmaskOf acc o.after.toList :: r, by simp [rmasks, h1], by simp [h2]⟩

theorem rmasks_get : ∀ (l : List Oper) (acc : List Nat) (j : Nat) (o : Oper), l[j]? = some o → (rmasks l acc)[acc.length + j]? = some (rmaskOf ((rmasks l acc).take (acc.length + j)) o.after.toList)
  | [], acc, j, o, h => by simp at h
  | x :: l, acc, 0, o, h => by
    simp at h
    subst h
    simp only [rmasks]
    obtain ⟨r, h1, h2⟩ := rmasks_pre l (acc ++ [rmaskOf acc x.after.toList])
    rw [h1]
    simp
  | x :: l, acc, j + 1, o, h => by
    have ih := rmasks_get l (acc ++ [rmaskOf acc x.after.toList]) j o (by simpa using h)
    simp only [rmasks]
    simp only [List.length_append, List.length_cons, List.length_nil] at ih
    rw [show acc.length + (j + 1) = acc.length + (0 + 1) + j by omega]
    exact ih

theorem rmask_must {ops : Array Oper} {i : Nat} : ∀ (j f : Nat), j < f → j < ops.size → ((rmasks ops.toList []).getD j 0).testBit i = true → mustAfter ops f j i = true := by
  intro j
  induction j using Nat.strongRecOn with
  | _ j ih =>
    intro f hf hj h
    have hoj : ops[j]? = some ops[j] := by simp [hj]
    have hg := rmasks_get ops.toList [] j ops[j] (by simp [hj])
    simp only [List.length_nil, Nat.zero_add] at hg
    rw [List.getD_eq_getElem?_getD, hg, Option.getD_some] at h
    obtain ⟨e, he, hb, hlt, hor⟩ := rmaskOf_spec h
    have hlt' : e.on < j := by simp at hlt; omega
    cases f with
    | zero => omega
    | succ f =>
      simp only [mustAfter, hoj]
      rw [Array.any_eq_true']
      refine ⟨e, by simpa using he, ?_⟩
      simp only [Bool.and_eq_true, Bool.or_eq_true, beq_iff_eq]
      refine ⟨hb, ?_⟩
      rcases hor with h1 | h1
      · exact .inl h1
      · refine .inr (ih e.on hlt' f (by omega) (by omega) ?_)
        have : ((rmasks ops.toList []).take j).getD e.on 0 = (rmasks ops.toList []).getD e.on 0 := by
          simp [List.getD_eq_getElem?_getD, List.getElem?_take, hlt']
        rw [this] at h1
        exact h1

/-- The bits stand for the listed ones. -/
def bitsOf (n : Nat) (listed : Array Bool) (m : Nat) : Prop := listed.size = n ∧ ∀ k, m.testBit k = listed.getD k false

theorem bits_set {n : Nat} {listed : Array Bool} {m i : Nat} (h : bitsOf n listed m) (hi : i < n) : bitsOf n (listed.setIfInBounds i true) (m ||| (1 <<< i)) := by
  obtain ⟨h1, h2⟩ := h
  refine ⟨by simp [h1], fun k => ?_⟩
  rw [Nat.testBit_or, h2 k, testBit_one_shl]
  simp only [Array.getD_eq_getD_getElem?, Array.getElem?_setIfInBounds]
  by_cases hk : i = k
  · subst hk
    simp [h1, hi]
  · simp [hk]

theorem readyM_mem {ops : Array Oper} {listed : Array Bool} {m : Nat} (hb : bitsOf ops.size listed m) : ∀ (l : List Oper) (i : Nat), (∀ j, l[j]? = ops[i + j]?) →
    readyM m i (l.map fun o => amask o.after.toList) = (List.range' i l.length).filter fun i => !listed.getD i true && ((ops[i]?).map (·.after.all fun e => !Region.binds .any e || listed.getD e.on false)).getD false
  | [], i, _ => by simp [readyM]
  | o :: l, i, h => by
    have h0 : ops[i]? = some o := by simpa using (h 0).symm
    have hi : i < ops.size := (Array.getElem?_eq_some_iff.1 h0).1
    have ih := readyM_mem hb l (i + 1) (fun j => by have := h (j + 1); simpa [Nat.add_assoc, Nat.add_comm 1 j] using this)
    simp only [List.map_cons, readyM, List.length_cons, List.range'_succ, List.filter_cons]
    have e1 : (m.testBit i = false) ↔ (listed.getD i true = false) := by
      rw [hb.2 i]
      have : i < listed.size := by rw [hb.1]; exact hi
      simp [Array.getD, this]
    have e2 : (amask o.after.toList &&& m = amask o.after.toList) ↔ (o.after.all fun e => !Region.binds .any e || listed.getD e.on false) = true := by
      rw [amask_spec, Array.all_eq_true']
      simp only [Array.mem_toList_iff, Bool.or_eq_true, Bool.not_eq_true', hb.2]
      constructor
      · intro h e he
        cases hbe : Region.binds .any e with
        | false => exact .inl rfl
        | true => exact .inr (h e he hbe)
      · intro h e he hbe
        rcases h e he with h | h
        · rw [hbe] at h; cases h
        · exact h
    by_cases hc : m.testBit i = false ∧ amask o.after.toList &&& m = amask o.after.toList
    · rw [if_pos hc, if_pos (by rw [h0]; simp only [Option.map_some, Option.getD_some, e1.1 hc.1, e2.1 hc.2, Bool.not_false, Bool.and_self]), ih]
    · rw [if_neg hc, if_neg (by
        rw [h0]
        simp only [Option.map_some, Option.getD_some, Bool.and_eq_true, Bool.not_eq_true']
        intro h'
        exact hc ⟨e1.2 h'.1, e2.2 h'.2⟩), ih]

theorem readyM_eq {ops : Array Oper} {listed : Array Bool} {m : Nat} (hb : bitsOf ops.size listed m) : readyM m 0 (ops.toList.map fun o => amask o.after.toList) = Region.ready .any ops listed := by
  rw [readyM_mem hb ops.toList 0 (by simp)]
  unfold Region.ready
  simp [List.range_eq_range']

theorem freeM_spec {ops : Array Oper} {il : List IOper} {listed : Array Bool} {m i : Nat} {st : Bool} {oi : IOper} (hb : bitsOf ops.size listed m) : ∀ (rs : List Nat) (os : List IOper) (j : Nat), (∀ k, os[k]? = il[j + k]?) → (∀ k, rs[k]? = (rmasks ops.toList [])[j + k]?) → freeM m i st oi j rs os = true →
    ∀ k, j ≤ k → k < ops.size → k < il.length → (k == i || listed.getD k true || mustAfter ops ops.size k i || apartI st oi (il.getD k default)) = true
  | rs, [], j, h1, _, _, k, hjk, _, hk => by
    have := h1 (k - j)
    rw [show j + (k - j) = k by omega] at this
    simp at this
    omega
  | [], o :: os, j, h1, h2, h, _, _, _, _ => by simp [freeM] at h
  | r :: rs, o :: os, j, h1, h2, h, k, hjk, hks, hkl => by
    simp only [freeM, Bool.and_eq_true] at h
    by_cases hk : k = j
    · subst hk
      have ho : il.getD k default = o := by
        have := h1 0
        simp at this
        rw [List.getD_eq_getElem?_getD, ← this]; rfl
      have hr : (rmasks ops.toList []).getD k 0 = r := by
        have := h2 0
        simp at this
        rw [List.getD_eq_getElem?_getD, ← this]; rfl
      have h := h.1
      simp only [Bool.or_eq_true] at h ⊢
      rcases h with ((h | h) | h) | h
      · exact .inl (.inl (.inl h))
      · refine .inl (.inl (.inr ?_))
        rw [hb.2 k] at h
        have : k < listed.size := by rw [hb.1]; exact hks
        simpa [Array.getD, this] using h
      · exact .inl (.inr (rmask_must k _ hks hks (by rw [hr]; exact h)))
      · rw [ho]; exact .inr h
    · exact freeM_spec hb rs os (j + 1) (fun q => by have := h1 (q + 1); simpa [Nat.add_assoc, Nat.add_comm 1 q] using this) (fun q => by have := h2 (q + 1); simpa [Nat.add_assoc, Nat.add_comm 1 q] using this) h.2 k (by omega) hks hkl

theorem mem_ready_lt {ops : Array Oper} {listed : Array Bool} {i : Nat} (h : i ∈ Region.ready .any ops listed) : i < ops.size := by
  unfold Region.ready at h
  simp at h
  exact h.1

theorem pokM_pok {ops : Array Oper} {il : List IOper} (hsz : il.length = ops.size) : ∀ (p : Plan) (f m : Nat) (listed : Array Bool) (rem : Option (List Nat)), bitsOf ops.size listed m → (∀ ks, rem = some ks → ∀ k ∈ ks, k < ops.size) →
    pokM (ops.toList.map fun o => amask o.after.toList) (rmasks ops.toList []) il f m rem p = true → pok ops il f listed rem p = true := by
  intro p
  induction p with
  | done =>
    intro f m listed rem hb _ h
    cases rem with
    | none => cases f <;> (simp only [pokM, readyM_eq hb] at h; simpa [pok] using h)
    | some ks => cases ks <;> cases f <;> simp [pokM] at h
  | nil =>
    intro f m listed rem hb _ h
    cases rem with
    | none => cases f <;> simp [pokM] at h
    | some ks => cases ks <;> cases f <;> simp [pokM] at h <;> simp [pok]
  | take i st r ih =>
    intro f m listed rem hb _ h
    cases rem with
    | some ks => cases ks <;> cases f <;> simp [pokM] at h
    | none =>
      cases f with
      | zero => simp [pokM] at h
      | succ f =>
        simp only [pokM, readyM_eq hb, Bool.and_eq_true] at h
        obtain ⟨⟨⟨h1, h2⟩, h3⟩, h4⟩ := h
        have hi : i < ops.size := mem_ready_lt (by simpa using h1)
        simp only [pok, Bool.and_eq_true]
        refine ⟨⟨⟨h1, h2⟩, ?_⟩, ih _ _ _ _ (bits_set hb hi) (by simp) h4⟩
        unfold freeAt
        refine List.all_eq_true.2 fun k hk => ?_
        have hk' : k < ops.size := List.mem_range.1 hk
        exact freeM_spec hb (rmasks ops.toList []) il 0 (fun k => by rw [Nat.zero_add]) (fun k => by rw [Nat.zero_add]) h3 k (Nat.zero_le _) hk' (by omega)
  | br i t rest iht ihr =>
    intro f m listed rem hb hrem h
    cases f with
    | zero => cases rem with
      | none => simp [pokM] at h
      | some ks => cases ks <;> simp [pokM] at h
    | succ f =>
      cases rem with
      | none =>
        simp only [pokM, readyM_eq hb] at h
        simp only [pok]
        split at h
        · rename_i k ks hr
          simp only [Bool.and_eq_true, beq_iff_eq] at h
          obtain ⟨⟨rfl, h1⟩, h2⟩ := h
          have hk : ∀ q ∈ k :: ks, q < ops.size := fun q hq => mem_ready_lt (by rw [hr]; exact hq)
          simp only [Bool.and_eq_true, beq_iff_eq, true_and]
          exact ⟨iht _ _ _ _ (bits_set hb (hk k (by simp))) (by simp) h1, ihr _ _ _ _ hb (fun ks' e q hq => by cases e; exact hk q (by simp [hq])) h2⟩
        · cases h
      | some ks =>
        cases ks with
        | nil => simp [pokM] at h
        | cons k ks =>
          simp only [pokM, Bool.and_eq_true, beq_iff_eq] at h
          obtain ⟨⟨rfl, h1⟩, h2⟩ := h
          have hk := hrem _ rfl
          simp only [pok, Bool.and_eq_true, beq_iff_eq, true_and]
          exact ⟨iht _ _ _ _ (bits_set hb (hk k (by simp))) (by simp) h1, ihr _ _ _ _ hb (fun ks' e q hq => by cases e; exact hk q (by simp [hq])) h2⟩

theorem bits_none (n : Nat) : bitsOf n (Array.replicate n false) 0 := ⟨by simp, fun k => by
  simp only [Nat.zero_testBit, Array.getD_eq_getD_getElem?, Array.getElem?_replicate]
  split <;> rfl⟩

section
variable {P : Program} {A : Nat → Prop} {n : Nat} {M : Mem} {L : List Nat} {w : World} {H : List AObj} {env : Env} {O : Pos → Option Nat} {a : Act}

/-- Behind a piece of code that was entered at M0, L0, w0. -/
def Post (A : Nat → Prop) (n : Nat) (M0 : Mem) (L0 : List Nat) (w0 : World) (Q : Exit → Env → List AObj → Prop) (e : Exit) (a : Act) (w : World) : Prop :=
  ∃ M L H env O, Q e env H ∧ Fr A n M L w H env O a ∧ Ext A M0 w0 M w ∧ L0 <+: L

theorem Fr.env_eq (h : Fr A n M L w H env O a) {env' : Env} (he : get env' = get env) : Fr A n M L w H env' O a := ⟨by rw [he]; exact h.st, h.size, h.defers⟩

theorem Fr.weaken (h : Fr A n M L w H env O a) {env' : Env} (hl : ∀ t, (get env t).le (get env' t)) : ∃ O', Fr A n M L w H env' O' a := by
  obtain ⟨O', h'⟩ := h.st.weaken hl
  exact ⟨O', h', h.size, h.defers⟩

theorem le_refl (x : AV) : x.le x := .inl rfl
theorem le_any (x : AV) : x.le .any := .inr (.inl rfl)

theorem get_prune (live : Option (List Nat)) (env : Env) (t : Nat) : (get env t).le (get (prune live env) t) := by
  cases live with
  | none => exact le_refl _
  | some l =>
    simp only [prune]
    induction l with
    | nil => exact le_any _
    | cons s l ih =>
      simp only [List.map_cons, get]
      split
      · rename_i e; subst e; exact le_refl _
      · exact ih

theorem get_mem {env : Env} {t : Nat} {x : AV} (h : get env t = x) : x = .any ∨ (t, x) ∈ env := by
  induction env with
  | nil => left; exact h.symm
  | cons p r ih =>
    obtain ⟨k, v⟩ := p
    simp only [get] at h
    split at h
    · rename_i e; subst e; subst h; right; simp
    · rcases ih h with h' | h'
      · exact .inl h'
      · exact .inr (List.mem_cons_of_mem _ h')

theorem sle_refl (n0 : Nat) (env : Env) (H : List AObj) : sle n0 env H env H := ⟨fun t => le_refl _, .inl rfl⟩
theorem sle_of_mem {n0 : Nat} {env env' : Env} {H : List AObj} (h : ∀ p ∈ env', (get env p.1).le p.2) : sle n0 env H env' H :=
  ⟨fun t => by
    rcases get_mem (env := env') (t := t) rfl with h' | h'
    · rw [h']; exact le_any _
    · exact h _ h', .inl rfl⟩
theorem sle_cut {n0 m : Nat} {env env' : Env} {H H' : List AObj} (h : ∀ p ∈ env', (get env p.1).le p.2) (hm : n0 ≤ m) (hH : H' = H.take m) (hb : ∀ p ∈ env', p.2.blw m = true) : sle n0 env H env' H' :=
  ⟨(sle_of_mem (n0 := n0) (H := H) h).1, .inr ⟨m, hm, hH, fun t => by
    rcases get_mem (env := env') (t := t) rfl with h' | h'
    · rw [h']; rfl
    · exact hb _ h'⟩⟩

theorem Fr.sle (h : Fr A n M L w H env O a) {env' : Env} {H' : List AObj} {L0 : List Nat} (hL : L0 <+: L) (hl : sle L0.length env H env' H') : ∃ L' O', Fr A n M L' w H' env' O' a ∧ L0 <+: L' := by
  obtain ⟨h1, h2⟩ := hl
  obtain ⟨O', hf⟩ := h.weaken h1
  rcases h2 with rfl | ⟨m, hm, rfl, hb⟩
  · exact ⟨L, O', hf, hL⟩
  · obtain ⟨O'', hst⟩ := hf.st.cut m hb
    refine ⟨L.take m, O'', ⟨hst, hf.size, hf.defers⟩, ?_⟩
    obtain ⟨r, rfl⟩ := hL
    exact ⟨r.take (m - L0.length), by rw [List.take_append, List.take_of_length_le hm]⟩

theorem yielded_bool {ops : Array Oper} {j g : Nat} (hg : (ops[j]?).bind (·.dst) = some g) (hf : Fr A n M L w H env O a) {b : Bool} (hb : get env g = .bool b) : yielded ops a.tmps j = some b := by
  have hr := hf.st.env g
  rw [hb] at hr
  generalize hv : a.tmps.getD g undef = v at hr
  cases hr
  have : a.tmps[g]? = some (.bool b) := by
    rw [Array.getD_eq_getD_getElem?] at hv
    cases h : a.tmps[g]? with
    | none => rw [h] at hv; cases hv
    | some v => rw [h] at hv; simp at hv; rw [hv]
  simp [yielded, hg, this]

theorem yielded_undef {ops : Array Oper} {j g : Nat} (hg : (ops[j]?).bind (·.dst) = some g) (hf : Fr A n M L w H env O a) (hb : get env g = .tuple []) : yielded ops a.tmps j = none := by
  have hr := hf.st.env g
  rw [hb] at hr
  generalize hv : a.tmps.getD g undef = v at hr
  cases hr with
  | tuple cs _ h =>
  rw [Array.getD_eq_getD_getElem?] at hv
  simp only [yielded, hg, Option.bind_some]
  cases h : a.tmps[g]? with
  | none => rfl
  | some v => rw [h] at hv; simp at hv; rw [hv]

/-- One operation in its place. -/
theorem agd_sound {ops : Array Oper} {o : Oper} {fl : Nat} {g : Option (Nat × Bool)} (hg : compG ops o = some g) (hdst : dstOk n o = true) (hf : Fr A n M L w H env O a) {K : Env → List AObj → Prop} (h : agd P ⟨g, o.dst, comp1 P o fl⟩ env H K) (Q : Exit → Act → World → Prop) :
    if Region.wanted o (yielded ops a.tmps) then o.wp P a w (Aft A n M L w K) Q else Aft A n M L w K (a.put o.dst undef) w := by
  simp only [dstOk, Bool.and_eq_true] at hdst
  have hd : ∀ d, o.dst = some d → d < n := by
    intro d hd
    have := hdst.1
    rw [hd] at this
    simpa using this
  have hn : (match o.op with | .store .. | .mapUpdate .. => o.dst = none | _ => True) := by
    have := hdst.2
    split at this <;> first | trivial | skip
    · simpa using this
    · simpa using this
  unfold compG at hg
  split at hg
  · rename_i hgd
    cases hg
    rw [if_pos (by simp [Region.wanted, hgd])]
    exact comp1_sound o hf hd hn h
  · rename_i j want hgd
    split at hg <;> cases hg
    rename_i g hgj
    simp only [agd, aguard] at h
    split at h
    rotate_left
    · rename_i hb
      have hy := yielded_undef hgj hf hb
      rw [if_neg (by simp [Region.wanted, hgd, hy])]
      obtain ⟨O', hf'⟩ := hf.put0 (dst := o.dst) (v := undef) (x := .tuple []) hd (.tuple [] [] .nil) (by intro _ _ e; cases e)
      exact ⟨M, L, H, _, O', h, hf', Ext.refl A M w, List.prefix_refl L⟩
    · exact h.elim
    rename_i b hb
    have hy := yielded_bool hgj hf hb
    have hupd : get ((g, AV.bool b) :: env) = get env := by
      rw [get_cons]; funext t; simp only [upd]; split
      · rename_i e; rw [e, hb]
      · rfl
    by_cases hw : b = want
    · subst hw
      rw [if_pos (by simp [Region.wanted, hgd, hy])]
      exact comp1_sound o (hf.env_eq hupd) hd hn (h.1 rfl)
    · have hbw : b = !want := by cases b <;> cases want <;> simp_all
      subst hbw
      rw [if_neg (by simp [Region.wanted, hgd, hy])]
      obtain ⟨O', hf'⟩ := (hf.env_eq hupd).put0 (dst := o.dst) (v := undef) (x := .tuple []) hd (.tuple [] [] .nil) (by intro _ _ e; cases e)
      exact ⟨M, L, H, _, O', h.2 rfl, hf', Ext.refl A M w, List.prefix_refl L⟩

theorem Aft.trans {K K' : Env → List AObj → Prop} {M' : Mem} {L' : List Nat} {w' : World} {a' : Act} {w'' : World} (hext : Ext A M w M' w') (hL : L <+: L') (h : Aft A n M' L' w' K a' w'') : Aft A n M L w K a' w'' := by
  obtain ⟨M2, L2, H2, env2, O2, h1, h2, h3, h4⟩ := h
  exact ⟨M2, L2, H2, env2, O2, h1, h2, hext.trans h3, hL.trans h4⟩

theorem setRow_push (w : World) (c c' : Array Value) (e : TypeId) : ({ w with heap := w.heap.push (.cells c e) } : World).setRow w.heap.size c' = { w with heap := w.heap.push (.cells c' e) } := by
  simp only [World.setRow]
  congr 1
  apply Array.ext
  · simp
  · intro i h1 h2
    rw [Array.getElem_modify]
    by_cases hi : w.heap.size = i
    · subst hi; simp
    · simp only [hi, if_false]
      have : i < w.heap.size := by simp at h2; omega
      rw [Array.getElem_push_lt this, Array.getElem_push_lt this]

theorem fuse_sound {ops : Array Oper} {o o' : Oper} {x : IOper} (hx : fuse P ops n 2 o o' = some x) (hf : Fr A n M L w H env O a) {K : Env → List AObj → Prop} (h : agd P x env H K) (r : List Oper) (Q : Exit → Act → World → Prop)
    (hrest : ∀ a' w', Aft A n M L w K a' w' → wpList P ops Q r a' w') : wpList P ops Q (o :: o' :: r) a w := by
  unfold fuse at hx
  split at hx <;> try cases hx
  rename_i e d t d' y _ hop hdst hgd hop' hdst' hgd'
  split at hx <;> try cases hx
  rename_i hcond
  obtain ⟨rfl, hdn, rfl⟩ := hcond
  split at hx <;> try cases hx
  rename_i i m z hi hm hz
  split at hx <;> cases hx
  rename_i hcond
  obtain ⟨hne, hzl, hzv, hm0⟩ := hcond
  simp only [agd, aop] at h
  obtain ⟨hval, hcl, hone, hK⟩ := h
  have hr := hf.eval hi
  have hvc := hr.vcells hval
  have hvl := hvc.length
  -- the zero value
  obtain ⟨inf, hinf, hsz⟩ := Option.map_eq_some_iff.1 hm
  unfold tzero at hz
  simp only [hinf] at hz
  split at hz <;> try cases hz
  rename_i zv hzv'
  have hzs : zv.cells.size = m := by have := ((ofValue_rep (M := M) (L := L) hz).vcells hzv).length; rw [hzl] at this; simpa using this
  have hrun1 : (execOp a.eval o).run P w = .ok (.value (.pointer (some ⟨w.heap.size, 0, none⟩))) { w with heap := w.heap.push (.cells zv.cells t) } := by
    simp only [execOp, hop]
    exact value_of (by simp only [Instr.alloc, zeroValue, typeInfo, Sem.run_bind, run_program, Result.andThen_ok, hinf, Sem.run_pure, hzv']; rfl)
  have hsize : d < a.tmps.size := by rw [hf.size]; exact hdn
  have hev1 : (a.put (some d) (.pointer (some ⟨w.heap.size, 0, none⟩))).eval (.tmp d) = .pointer (some ⟨w.heap.size, 0, none⟩) := by
    show (a.put (some d) _).tmps.getD d undef = _
    rw [getD_put a d _ hsize d]; simp [upd]
  have hev2 : (a.put (some d) (.pointer (some ⟨w.heap.size, 0, none⟩))).eval y = a.eval y := by
    cases y with
    | tmp s =>
      simp [compX] at hi; subst hi
      simp [notSlot] at hne
      show (a.put (some d) _).tmps.getD s undef = a.tmps.getD s undef
      rw [getD_put a d _ hsize s]; simp [upd, hne]
    | _ => rfl
  have hst := run_storeCells_at P w.heap.size 0 t (a.eval y).cells.toList 0 zv.cells { w with heap := w.heap.push (.cells zv.cells t) } (heap_push_new w _) (by simp at hvl ⊢; omega) (hvc.oneCell hone)
  have hwhole : (zv.cells.toList.take (0 + 0) ++ (a.eval y).cells.toList ++ zv.cells.toList.drop (0 + 0 + (a.eval y).cells.toList.length)).toArray = (a.eval y).cells := by
    have : zv.cells.toList.drop (0 + 0 + (a.eval y).cells.toList.length) = [] := List.drop_eq_nil_of_le (by simp at hvl ⊢; omega)
    rw [this]; simp
  rw [hwhole, setRow_push] at hst
  have hrun2 : (execOp (a.put (some d) (.pointer (some ⟨w.heap.size, 0, none⟩))).eval o').run P { w with heap := w.heap.push (.cells zv.cells t) } = .ok .skip { w with heap := w.heap.push (.cells (a.eval y).cells t) } := by
    simp only [execOp, hop', hev1, hev2]
    refine skip_of ?_
    have hs : (sizeOf t).run P { w with heap := w.heap.push (.cells zv.cells t) } = .ok m { w with heap := w.heap.push (.cells zv.cells t) } := by simp [sizeOf, typeInfo, hinf, hsz]
    simp only [Instr.storeAt, Instr.sureAddr, storeVar, Sem.run_bind, Sem.run_pure, Result.andThen_ok, hs, ne_eq]
    rw [if_neg (by simp at hvl; omega)]
    exact hst
  obtain ⟨g1, g2, g3⟩ := hf.st.addImm (a.eval y).cells t
  have hrep : Rep (M.add w.heap.size (a.eval y).cells.toList) L (.pointer (some ⟨w.heap.size, 0, none⟩)) (.iptr (aval env i)) := .iptr _ _ _ _ (hvc.mono g2.msub (List.prefix_refl _)) g3
  obtain ⟨O', hf'⟩ := (hf.mono g1).put0 (dst := some d) (fun d' e => by cases e; exact hdn) hrep (by intro _ _ e; cases e)
  have hfin := hrest _ _ ⟨_, L, H, _, O', hK, hf', g2, List.prefix_refl L⟩
  unfold wpList
  rw [if_pos (by simp [Region.wanted, hgd])]
  refine .inl ?_
  unfold Oper.wp
  rw [hrun1, Oper.upon_value, hdst]
  unfold wpList
  rw [if_pos (by simp [Region.wanted, hgd'])]
  refine .inl ?_
  unfold Oper.wp
  rw [hrun2, Oper.upon_skip, hdst']
  exact hfin

theorem aops_sound {ops : Array Oper} {an : Ann} {rid : Nat} {fu : Bool} (Q : Exit → Act → World → Prop) : ∀ (fuel k : Nat) (l : List Oper) (il : List IOper), compOps P ops an n rid fu fuel k l = some il → ∀ {M : Mem} {L : List Nat} {w : World} {H : List AObj} {env : Env} {O : Pos → Option Nat} {a : Act} (K : Env → List AObj → Prop),
    Fr A n M L w H env O a → aops P il env H K → (∀ a' w', Aft A n M L w K a' w' → Q .normal a' w') → wpList P ops Q l a w
  | _, _, [], il, hc, M, L, w, H, env, O, a, K, hf, h, hQ => by
    unfold compOps at hc
    cases hc
    exact hQ a w ⟨M, L, H, env, O, h, hf, Ext.refl A M w, List.prefix_refl L⟩
  | 0, _, o :: r, il, hc, _, _, _, _, _, _, _, _, _, _, _ => by simp [compOps] at hc
  | fuel + 1, k, o :: r, il, hc, M, L, w, H, env, O, a, K, hf, h, hQ => by
    unfold compOps at hc
    split at hc
    · -- a new variable with its first value
      split at hc <;> try cases hc
      rename_i o' r'
      split at hc <;> cases hc
      rename_i x xs hx hxs
      simp only [aops] at h
      refine fuse_sound hx hf h r' Q ?_
      rintro a' w' ⟨M', L', H', env', O', k1, k2, k3, k4⟩
      exact aops_sound Q fuel (k + 2) r' xs hxs K k2 k1 (fun a2 w2 h2 => hQ a2 w2 (Aft.trans (K' := K) k3 k4 h2))
    · split at hc <;> try cases hc
      rename_i g xs hg hxs
      split at hc <;> cases hc
      rename_i hdst
      simp only [aops] at h
      have h1 := agd_sound (ops := ops) hg hdst hf h Q
      have hrest : ∀ a' w', Aft A n M L w (fun env H => aops P xs env H K) a' w' → wpList P ops Q r a' w' := by
        rintro a' w' ⟨M', L', H', env', O', k1, k2, k3, k4⟩
        exact aops_sound Q fuel (k + 1) r xs hxs K k2 k1 (fun a2 w2 h2 => hQ a2 w2 (Aft.trans (K' := K) k3 k4 h2))
      unfold wpList
      split
      · rename_i hw
        rw [if_pos hw] at h1
        exact .inl (Oper.wp_mono hrest h1)
      · rename_i hw
        rw [if_neg hw] at h1
        exact hrest _ _ h1

/-! ### Code -/
theorem Post.mono {M0 : Mem} {L0 : List Nat} {w0 : World} {Q Q' : Exit → Env → List AObj → Prop} (h : ∀ e env H, Q e env H → Q' e env H) (e : Exit) (a : Act) (w : World) (hp : Post A n M0 L0 w0 Q e a w) : Post A n M0 L0 w0 Q' e a w := by
  obtain ⟨M, L, H, env, O, h1, h2⟩ := hp
  exact ⟨M, L, H, env, O, h _ _ _ h1, h2⟩

theorem least_nat (p : Nat → Prop) (h : ∃ k, p k) : ∃ k, p k ∧ ∀ j, p j → k ≤ j := by
  obtain ⟨k, hk⟩ := h
  induction k using Nat.strongRecOn with
  | _ k ih =>
    by_cases hl : ∃ j, j < k ∧ p j
    · obtain ⟨j, hj, hp⟩ := hl
      exact ih j hj hp
    · exact ⟨k, hk, fun j hj => by
        rcases Nat.lt_or_ge j k with h' | h'
        · exact absurd ⟨j, h', hj⟩ hl
        · exact h'⟩

/-- A loop whose relation and measure bear an index. -/
theorem wp_loop_ix {c : Code} {Q : Exit → Act → World → Prop} {w : World} {a : Act} {ι : Type} (I : ι → Act → World → Prop) (μ : ι → Nat)
    (round : ∀ i a w, I i a w → c.wp P (Exit.then (fun a' w' => ∃ j, I j a' w' ∧ μ j < μ i) Q) a w) (i0 : ι) (h0 : I i0 a w) : (Code.loop c).wp P Q a w := by
  let p : Act → World → Nat → Prop := fun a w k => ∃ i, I i a w ∧ μ i = k
  let ν : Act → World → Nat := fun a w => Classical.epsilon fun k => p a w k ∧ ∀ j, p a w j → k ≤ j
  have hν : ∀ a w, (∃ i, I i a w) → p a w (ν a w) ∧ ∀ j, p a w j → ν a w ≤ j := by
    rintro a w ⟨i, hi⟩
    exact Classical.epsilon_spec (least_nat (p a w) ⟨μ i, i, hi, rfl⟩)
  refine wp_loop (fun a w => ∃ i, I i a w) ν ⟨i0, h0⟩ ?_
  intro a w hI
  obtain ⟨⟨i, hi, hμ⟩, _⟩ := hν a w hI
  refine Go.wp_mono (round i a w hi) ?_
  intro e a' w' h
  cases e with
  | normal =>
    obtain ⟨j, hj, hlt⟩ := h
    refine ⟨⟨j, hj⟩, ?_⟩
    have := (hν a' w' ⟨j, hj⟩).2 (μ j) ⟨j, hj, rfl⟩
    omega
  | _ => exact h

def DrawSound (P : Program) (A : Nat → Prop) (n : Nat) (L0 : List Nat) : Prop :=
  ∀ {id : Nat} {ops : Array Oper} {il : List IOper} {p : Plan} {live : Option (List Nat)} {an : Ann} {M : Mem} {L : List Nat} {w : World} {H : List AObj} {env : Env} {O : Pos → Option Nat} {a : Act} {M0 : Mem} {w0 : World} {Q : Exit → Env → List AObj → Prop},
    P.follows .mixedOrders = true → pokM (ops.toList.map fun o => amask o.after.toList) (rmasks ops.toList []) il ops.size 0 none p = true → compOps P ops an n id false (ops.size + 1) 0 ops.toList = some il → awp P L0.length (.draw (inst il p) live) env H Q → Fr A n M L w H env O a → Ext A M0 w0 M w → L0 <+: L → (Code.region id ops true).wp P (Post A n M0 L0 w0 Q) a w

theorem sound {L0 : List Nat} (hdraw : DrawSound P A n L0) {an : Ann} {lv : Lives} {pl : Plans} : ∀ (c : Code) (ir : IR), comp P an lv pl n c = some ir → ∀ {M : Mem} {L : List Nat} {w : World} {H : List AObj} {env : Env} {O : Pos → Option Nat} {a : Act} {M0 : Mem} {w0 : World} {Q : Exit → Env → List AObj → Prop},
      awp P L0.length ir env H Q → Fr A n M L w H env O a → Ext A M0 w0 M w → L0 <+: L → c.wp P (Post A n M0 L0 w0 Q) a w := by
  intro c
  induction c with
  | skip =>
    intro ir hc M L w H env O a M0 w0 Q h hf hext hL
    simp only [comp] at hc; cases hc
    exact wp_skip ⟨M, L, H, env, O, h, hf, hext, hL⟩
  | exit id =>
    intro ir hc M L w H env O a M0 w0 Q h hf hext hL
    simp only [comp] at hc; cases hc
    exact wp_exit ⟨M, L, H, env, O, h, hf, hext, hL⟩
  | ret =>
    intro ir hc M L w H env O a M0 w0 Q h hf hext hL
    simp only [comp] at hc; cases hc
    exact wp_ret ⟨M, L, H, env, O, h, hf, hext, hL⟩
  | region id ops draw =>
    intro ir hc M L w H env O a M0 w0 Q h hf hext hL
    cases draw with
    | true =>
      simp only [comp] at hc
      split at hc <;> try cases hc
      rename_i il hil
      split at hc <;> cases hc
      rename_i hm
      exact hdraw hm.1 hm.2 hil h hf hext hL
    | false =>
      simp only [comp] at hc
      obtain ⟨il, hil, rfl⟩ := Option.map_eq_some_iff.1 hc
      simp only [awp] at h
      refine wp_region_list (aops_sound _ _ _ _ _ hil _ hf h ?_)
      rintro a' w' ⟨M', L', H', env', O', h1, h2, h3, h4⟩
      obtain ⟨O'', h5⟩ := h2.weaken (get_prune (lv.at_ id) env')
      exact ⟨M', L', H', _, O'', h1, h5, hext.trans h3, hL.trans h4⟩
  | seq x y ihx ihy =>
    intro ir hc M L w H env O a M0 w0 Q h hf hext hL
    simp only [comp] at hc
    split at hc <;> cases hc
    rename_i x' y' hx hy
    simp only [awp] at h
    refine wp_seq (Go.wp_mono (ihx _ hx h hf hext hL) ?_)
    rintro e a' w' ⟨M', L', H', env', O', h1, h2, h3, h4⟩
    cases e with
    | normal => exact ihy _ hy h1 h2 h3 h4
    | _ => exact ⟨M', L', H', env', O', h1, h2, h3, h4⟩
  | cond x c d ihc ihd =>
    intro ir hc M L w H env O a M0 w0 Q h hf hext hL
    simp only [comp] at hc
    split at hc <;> cases hc
    rename_i i c' d' hi hc' hd'
    simp only [awp] at h
    obtain ⟨q, hq, h⟩ := boolP_inv h
    have hr := hf.eval hi
    rw [hq] at hr
    generalize hu : a.eval x = u at hr
    cases hr
    refine wp_cond_split hu (fun e => ihc _ hc' (h.1 e) hf hext hL) (fun e => ihd _ hd' (h.2 e) hf hext hL)
  | block id c ih =>
    intro ir hc M L w H env O a M0 w0 Q h hf hext hL
    simp only [comp] at hc
    obtain ⟨c', hc', rfl⟩ := Option.map_eq_some_iff.1 hc
    simp only [awp] at h
    refine wp_block (Go.wp_mono (ih _ hc' h hf hext hL) ?_)
    rintro e a' w' ⟨M', L', H', env', O', h1, h2, h3, h4⟩
    cases e with
    | exit id' =>
      simp only [Exit.inBlock]
      simp only at h1
      split at h1
      · rename_i e; rw [if_pos e]; exact ⟨M', L', H', env', O', h1, h2, h3, h4⟩
      · rename_i e; rw [if_neg e]; exact ⟨M', L', H', env', O', h1, h2, h3, h4⟩
    | _ => exact ⟨M', L', H', env', O', h1, h2, h3, h4⟩
  | loop c ih =>
    intro ir hc M L w H env O a M0 w0 Q h hf hext hL
    simp only [comp] at hc
    obtain ⟨c', hc', rfl⟩ := Option.map_eq_some_iff.1 hc
    simp only [awp] at h
    obtain ⟨ι, I, se, sh, μ, ⟨i0, hi0, hs0⟩, hround⟩ := h
    obtain ⟨L', O', hf', hL'⟩ := hf.sle hL hs0
    refine wp_loop_ix (fun i a w => I i ∧ ∃ M L O, Fr A n M L w (sh i) (se i) O a ∧ Ext A M0 w0 M w ∧ L0 <+: L) μ ?_ i0 ⟨hi0, M, L', O', hf', hext, hL'⟩
    rintro i a w ⟨hi, M, L, O, hf, hext, hL⟩
    refine Go.wp_mono (ih _ hc' (hround i hi) hf hext hL) ?_
    rintro e a' w' ⟨M', L', H', env', O', h1, h2, h3, h4⟩
    cases e with
    | normal =>
      obtain ⟨j, hj, hlt, hs⟩ := h1
      obtain ⟨L2, O2, hf2, hL2⟩ := h2.sle h4 hs
      exact ⟨j, ⟨hj, M', L2, O2, hf2, h3, hL2⟩, hlt⟩
    | _ => exact ⟨M', L', H', env', O', h1, h2, h3, h4⟩
  | _ =>
    intro ir hc M L w H env O a M0 w0 Q h
    simp only [comp] at hc
    cases hc
    exact h.elim
end
end Go.Abs
