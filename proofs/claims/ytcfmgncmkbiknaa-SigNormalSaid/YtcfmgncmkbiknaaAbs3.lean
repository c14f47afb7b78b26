/- A memory-free reading of the model's values (part 3): operations, what they ask for and what they leave. -/
import Derived.Test.YtcfmgncmkbiknaaAbs2
set_option linter.unusedVariables false
set_option linter.unusedSimpArgs false
namespace Go.Abs
open Go

abbrev Env := List (Nat × AV)
def get : Env → Nat → AV
  | [], _ => .any
  | (k, v) :: r, t => if t = k then v else get r t

inductive IX where
  | t (n : Nat)
  | c (v : AV)
  deriving Inhabited
def aval (env : Env) : IX → AV
  | .t n => get env n
  | .c v => v

inductive IOp where
  | set (x : IX) (take : Bool)
  | pick (c a b : IX)
  | bin (op : BinOp) (x y : IX)
  | shift (op : BinOp) (x y : IX)
  | eqBool (neq : Bool) (x y : IX)
  | eqNil (kd : Nat) (neq : Bool) (x : IX)
  | un (op : UnOp) (x : IX)
  | box (x : IX)
  | boxi (x : IX)
  | boxs (m : Nat) (x : IX)
  | alloc (zero : AV)
  | build (zero : AV) (parts : List (Nat × Nat × IX))
  | buildSlice (own esz : Nat) (zero : AV) (len : Nat) (parts : List (Nat × IX))
  | load (sz : Option Nat) (a : IX)
  | takeCell (a : IX)
  | store (n : Nat) (a x : IX)
  | putCell (a : IX) (s : Nat)
  | nilCheck (x : IX)
  | fieldAddr (off : Nat) (sz : Option Nat) (x : IX)
  | field (off : Nat) (sz : Option Nat) (x : IX)
  | indexAddr (esz : Nat) (x i : IX)
  | indexStr (x i : IX)
  | slice (esz : Nat) (x : IX) (lo hi max : Option IX)
  | sliceStr (x : IX) (lo hi : Option IX)
  | len (kd : Nat) (x : IX)
  | append (esz bytes : Nat) (s x : IX)
  | mkarr (esz bytes : Nat) (zero : AV) (n : IX)
  | mkbuf (esz bytes : Nat) (n : IX)
  | mkmap
  | lookup (kd : Nat) (zero : AV) (m k : IX) (ok : Bool)
  | mapset (kd : Nat) (m k x : IX)
  | fn (f : Fn) (first captured : List IX)
  | extract (x : IX) (i : Nat)
  | call (f : IX) (args : List IX) (pass : Option Nat)
  | convInt (k : IntKind) (x : IX)
  | convStr (x : IX)
  | bytesOf (x : IX)
  | strOf (x : IX)
  | mx (big : Bool) (a b : IX)
  | copy (esz : Nat) (d s : IX)
  | setf (esz : Nat) (x : IX)
  | never
  deriving Inhabited

/-! ### Constants and types -/
def ofV : Value → Option AV
  | .bool b => some (.bool b)
  | .int k n => some (.int k n)
  | .string s => some (.str s)
  | .pointer none => some .nilp
  | .map none => some .nilm
  | .nilFunc => some .nilf
  | .nilIface => some .nili
  | .slice none 0 0 => some .nils
  | _ => none
def ofVs : List Value → Option (List AV)
  | [] => some []
  | v :: vs => match ofV v, ofVs vs with
    | some x, some xs => some (x :: xs)
    | _, _ => none
def ofValue : Value → Option AV
  | .agg cs => (ofVs cs.toList).map .agg
  | v => ofV v

section
variable {M : Mem} {L : List Nat}
theorem ofV_rep {v : Value} {x : AV} (h : ofV v = some x) : Rep M L v x := by
  unfold ofV at h
  split at h <;> first | (cases h; constructor) | cases h
theorem ofVs_rep : ∀ {vs : List Value} {xs : List AV}, ofVs vs = some xs → RepL M L vs xs
  | [], xs, h => by simp [ofVs] at h; subst h; exact .nil
  | v :: vs, xs, h => by
    unfold ofVs at h
    split at h
    · rename_i x ys h1 h2
      cases h
      exact .cons _ _ _ _ (ofV_rep h1) (ofVs_rep h2)
    · cases h
theorem ofValue_rep {v : Value} {x : AV} (h : ofValue v = some x) : Rep M L v x := by
  unfold ofValue at h
  split at h
  · rename_i cs
    obtain ⟨xs, h1, rfl⟩ := Option.map_eq_some_iff.1 h
    have := Rep.agg cs.toList xs (ofVs_rep (M := M) (L := L) h1)
    simpa using this
  · exact ofV_rep h
end

def compX : Operand → Option IX
  | .tmp t => some (.t t)
  | .const v => (ofValue v).map .c
  | .func f => some (.c (.fn (.func f) [] []))
  | .global _ => none
def compXs : List Operand → Option (List IX)
  | [] => some []
  | x :: xs => match compX x, compXs xs with
    | some i, some is => some (i :: is)
    | _, _ => none

/-- An aggregate's size; none: a value of one cell. -/
def tsz (P : Program) (t : TypeId) : Option (Option Nat) :=
  match P.info? t, P.underlying t with
  | some i, some (.struct _) => some (some i.size)
  | some i, some (.array _ _) => some (some i.size)
  | some i, some _ => if i.size = 1 then some none else none
  | _, _ => none
def tzero (P : Program) (t : TypeId) : Option AV :=
  match P.info? t with
  | some i => match i.zero with
    | some v => ofValue v
    | none => none
  | none => none
def tcells (P : Program) (t : TypeId) : Option Nat := (P.info? t).map (·.size)

/-- The state of a frame. -/
structure Fr (A : Nat → Prop) (n : Nat) (M : Mem) (L : List Nat) (w : World) (H : List AObj) (env : Env) (O : Pos → Option Nat) (a : Act) : Prop where
  st : St A M L w H (fun t => a.tmps.getD t undef) (get env) O
  size : a.tmps.size = n
  defers : a.defers = []

/-- Behind an operation. -/
def Aft (A : Nat → Prop) (n : Nat) (M : Mem) (L : List Nat) (w : World) (K : Env → List AObj → Prop) (a' : Act) (w' : World) : Prop :=
  ∃ M' L' H' env' O', K env' H' ∧ Fr A n M' L' w' H' env' O' a' ∧ Ext A M w M' w' ∧ L <+: L'

def put (dst : Option Nat) (x : AV) (env : Env) : Env := match dst with | some d => (d, x) :: env | none => env

section
variable {A : Nat → Prop} {n : Nat} {M : Mem} {L : List Nat} {w : World} {H : List AObj} {env : Env} {O : Pos → Option Nat} {a : Act}

theorem get_cons (d : Nat) (x : AV) (env : Env) : get ((d, x) :: env) = upd (get env) d x := rfl

theorem Fr.eval (h : Fr A n M L w H env O a) {x : Operand} {i : IX} (hc : compX x = some i) : Rep M L (a.eval x) (aval env i) := by
  cases x with
  | tmp t => simp [compX] at hc; subst hc; exact h.st.env t
  | const v =>
    simp only [compX] at hc
    obtain ⟨y, h1, rfl⟩ := Option.map_eq_some_iff.1 hc
    exact ofValue_rep h1
  | func f => simp [compX] at hc; subst hc; exact .fn _ [] [] [] [] .nil .nil
  | global g => simp [compX] at hc

theorem Fr.evals (h : Fr A n M L w H env O a) : ∀ {xs : List Operand} {is : List IX}, compXs xs = some is → RepL M L (xs.map a.eval) (is.map (aval env))
  | [], is, hc => by simp [compXs] at hc; subst hc; exact .nil
  | x :: xs, is, hc => by
    unfold compXs at hc
    split at hc
    · rename_i i is' h1 h2
      cases hc
      exact .cons _ _ _ _ (h.eval h1) (h.evals h2)
    · cases hc

theorem getD_put (a : Act) (d : Nat) (v : Value) (hd : d < a.tmps.size) (t : Nat) : (a.put (some d) v).tmps.getD t undef = upd (fun t => a.tmps.getD t undef) d v t := by
  simp only [Act.put, upd, Array.getD_eq_getD_getElem?, Array.getElem?_setIfInBounds]
  by_cases e : t = d
  · subst e; simp [hd]
  · simp [e, show ¬ d = t from fun h => e h.symm]

/-- A slot gets a value. -/
theorem Fr.putO (h : Fr A n M L w H env O a) {d : Nat} (hd : d < n) {v : Value} {x : AV} (hr : Rep M L v x) (ob : Option Nat) (hs : Spare M w v x ob)
    (h1 : ∀ p b, ob = some b → O p = some b → p = .t d) (h2 : ∀ b, ob = some b → b ∉ L ∧ b < w.heap.size ∧ A b) :
    Fr A n M L w H ((d, x) :: env) (updP O (.t d) ob) (a.put (some d) v) := by
  refine ⟨(h.st.put d hr ob hs h1 h2).congr (fun t => getD_put a d v (by rw [h.size]; exact hd) t) (fun t => rfl), ?_, h.defers⟩
  simp [Act.put, h.size]

theorem Fr.put0 (h : Fr A n M L w H env O a) {dst : Option Nat} (hd : ∀ d, dst = some d → d < n) {v : Value} {x : AV} (hr : Rep M L v x) (hx : ∀ own xs, x = .lst own xs → own = 0) :
    ∃ O', Fr A n M L w H (put dst x env) O' (a.put dst v) := by
  cases dst with
  | none => exact ⟨O, h⟩
  | some d => exact ⟨_, h.putO (hd d rfl) hr none (Spare.free hx) (fun p b e => by cases e) (fun b e => by cases e)⟩

/-- A fresh list, all of whose room is used: owned by whoever gets it. -/
theorem Fr.putFull (h : Fr A n M L w H env O a) {dst : Option Nat} (hd : ∀ d, dst = some d → d < n) {ad : Option Addr} {m : Nat} {own : Nat} {xs : List AV} (hr : Rep M L (.slice ad m m) (.lst own xs)) (hx : own ≠ 0 → ∀ y ∈ xs, y.cells.length = own) :
    ∃ O', Fr A n M L w H (put dst (.lst own xs) env) O' (a.put dst (.slice ad m m)) := by
  cases dst with
  | none => exact ⟨O, h⟩
  | some d =>
    refine ⟨_, h.putO (hd d rfl) hr none ?_ (fun p b e => by cases e) (fun b e => by cases e)⟩
    by_cases e : own = 0
    · simp [Spare, e]
    · simp only [Spare, e, if_false]; exact ⟨hx e, .inl ⟨trivial, ad, m, rfl⟩⟩

theorem Fr.mono (h : Fr A n M L w H env O a) {M' : Mem} {w' : World} {L' : List Nat} {H' : List AObj} {O' : Pos → Option Nat} (hst : St A M' L' w' H' (fun t => a.tmps.getD t undef) (get env) O') : Fr A n M' L' w' H' env O' a :=
  ⟨hst, h.size, h.defers⟩

/-- An operation that yields a value. -/
theorem wp_value {P : Program} {o : Oper} {Q : Exit → Act → World → Prop} {K : Env → List AObj → Prop} {v : Value} {w' : World} (hrun : (execOp a.eval o).run P w = .ok (.value v) w')
    (h : Aft A n M L w K (a.put o.dst v) w') : o.wp P a w (Aft A n M L w K) Q := by
  unfold Oper.wp
  rw [hrun]
  exact h

theorem wp_skipped {P : Program} {o : Oper} {Q : Exit → Act → World → Prop} {K : Env → List AObj → Prop} {w' : World} (hrun : (execOp a.eval o).run P w = .ok .skip w')
    (h : Aft A n M L w K (a.put o.dst undef) w') : o.wp P a w (Aft A n M L w K) Q := by
  unfold Oper.wp
  rw [hrun]
  exact h

/-- The plain case: the memory is as it was. -/
theorem wp_pure {P : Program} {o : Oper} {Q : Exit → Act → World → Prop} {K : Env → List AObj → Prop} {v : Value} {x : AV} (h : Fr A n M L w H env O a) (hd : ∀ d, o.dst = some d → d < n)
    (hrun : (execOp a.eval o).run P w = .ok (.value v) w) (hr : Rep M L v x) (hx : ∀ own xs, x = .lst own xs → own = 0) (hK : K (put o.dst x env) H) : o.wp P a w (Aft A n M L w K) Q := by
  obtain ⟨O', hf⟩ := h.put0 hd hr hx
  exact wp_value hrun ⟨M, L, H, _, O', hK, hf, Ext.refl A M w, List.prefix_refl L⟩
end

/-- What an operation asks, and what stands behind it. -/
def setE (env : Env) (d : Nat) (x : IX) (take : Bool) : Env :=
  match x, take with
  | .t s, true => (d, get env s) :: (s, (get env s).unown) :: env
  | x, _ => (d, (aval env x).unown) :: env

def boolP (x : AV) (φ : Bool → Prop) : Prop := match x with | .bool b => φ b | _ => False

end Go.Abs
