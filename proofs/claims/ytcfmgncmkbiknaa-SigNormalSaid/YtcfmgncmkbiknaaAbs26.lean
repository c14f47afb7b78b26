/- A memory-free reading of the model's values (part 26): each operation's step, as an equation. -/
import Derived.Test.YtcfmgncmkbiknaaAbs25
set_option linter.unusedVariables false
set_option linter.unusedSimpArgs false
namespace Go.Abs
open Go
section
variable {P : Program} {env : Env} {H : List AObj} {dst : Option Nat} {K : Env → List AObj → Prop}
theorem op_bin (op : BinOp) (x : IX) (y : IX) : aop P (.bin op x y) dst env H K = (abin op (aval env x) (aval env y) fun z => K (put dst z env) H) := _root_.id rfl
theorem op_shift (op : BinOp) (x : IX) (y : IX) : aop P (.shift op x y) dst env H K = (ashift op (aval env x) (aval env y) fun z => K (put dst z env) H) := _root_.id rfl
theorem op_eqBool (neq : Bool) (x : IX) (y : IX) : aop P (.eqBool neq x y) dst env H K = (aeqBool neq (aval env x) (aval env y) fun z => K (put dst z env) H) := _root_.id rfl
theorem op_eqNil (kd : Nat) (neq : Bool) (x : IX) : aop P (.eqNil kd neq x) dst env H K = (aeqNil kd neq (aval env x) fun z => K (put dst z env) H) := _root_.id rfl
theorem op_un (op : UnOp) (x : IX) : aop P (.un op x) dst env H K = (aun op (aval env x) fun z => K (put dst z env) H) := _root_.id rfl
theorem op_box (x : IX) : aop P (.box x) dst env H K = ((aval env x).val = true ∧ belowL (H.length + 1) ((aval env x).cells.map AV.unown) = true ∧ K (put dst (.ptr H.length 0) env) (H ++ [.cells ((aval env x).cells.map AV.unown)])) := _root_.id rfl
theorem op_boxi (x : IX) : aop P (.boxi x) dst env H K = ((aval env x).val = true ∧ K (put dst (.iptr (aval env x)) env) H) := _root_.id rfl
theorem op_boxs (m : Nat) (x : IX) : aop P (.boxs m x) dst env H K = ((aval env x).val = true ∧ (aval env x).cells.length = m ∧ (aval env x).cells.all AV.one = true ∧ K (put dst (.iptr (aval env x)) env) H) := _root_.id rfl
theorem op_alloc (z : AV) : aop P (.alloc z) dst env H K = (belowL (H.length + 1) (z.cells.map AV.unown) = true ∧ K (put dst (.ptr H.length 0) env) (H ++ [.cells (z.cells.map AV.unown)])) := _root_.id rfl
theorem op_build (z : AV) (ps : List (Nat × Nat × IX)) : aop P (.build z ps) dst env H K = (abuild z.cells (ps.map fun q => (q.1, q.2.1, aval env q.2.2)) fun v => K (put dst v env) H) := _root_.id rfl
theorem op_buildSlice (own : Nat) (esz : Nat) (z : AV) (len : Nat) (ps : List (Nat × IX)) : aop P (.buildSlice own esz z len ps) dst env H K = (abslice (List.replicate len (canon z)) esz (ps.map fun q => (q.1, aval env q.2)) fun xs => K (put dst (.lst own xs) env) H) := _root_.id rfl
theorem op_load (sz : Option Nat) (a : IX) : aop P (.load sz a) dst env H K = (aload sz (aval env a) H fun z => K (put dst z env) H) := _root_.id rfl
theorem op_takeCell (a : IX) : aop P (.takeCell a) dst env H K = (match dst, aval env a with
    | some d, .ptr id off => match H[id]? with
      | some (.cells es) => off < es.length ∧ K ((d, es.getD off .any) :: env) (H.set id (.cells (es.set off (es.getD off .any).unown)))
      | _ => False
    | _, _ => False) := _root_.id rfl
theorem op_store (m : Nat) (a : IX) (x : IX) : aop P (.store m a x) dst env H K = (astore m (aval env a) (aval env x) H fun H' => K env H') := _root_.id rfl
theorem op_putCell (a : IX) (s : Nat) : aop P (.putCell a s) dst env H K = (aputCell (aval env a) (get env s) H fun H' => K ((s, (get env s).unown) :: env) H') := _root_.id rfl
theorem op_nilCheck (x : IX) : aop P (.nilCheck x) dst env H K = (anilCheck (aval env x) fun z => K (put dst z env) H) := _root_.id rfl
theorem op_fieldAddr (off : Nat) (sz : Option Nat) (x : IX) : aop P (.fieldAddr off sz x) dst env H K = (afieldAddr off sz (aval env x) fun z => K (put dst z env) H) := _root_.id rfl
theorem op_field (off : Nat) (sz : Option Nat) (x : IX) : aop P (.field off sz x) dst env H K = (afield off sz (aval env x) fun z => K (put dst z env) H) := _root_.id rfl
theorem op_indexAddr (esz : Nat) (x : IX) (i : IX) : aop P (.indexAddr esz x i) dst env H K = ((∀ own xs, aval env x = .lst own xs → ∀ z ∈ xs, z.cells.length = esz) ∧ aindexAddr esz (aval env x) (aval env i) fun z => K (put dst z env) H) := _root_.id rfl
theorem op_indexStr (x : IX) (i : IX) : aop P (.indexStr x i) dst env H K = (aindexStr (aval env x) (aval env i) fun z => K (put dst z env) H) := _root_.id rfl
theorem op_slice (esz : Nat) (x : IX) (lo : Option IX) (hi : Option IX) (mx : Option IX) : aop P (.slice esz x lo hi mx) dst env H K = (asliceX esz (aval env x) (optX env lo) (optX env hi) (optX env mx) fun z => K (put dst z env) H) := _root_.id rfl
theorem op_copy (esz : Nat) (d : IX) (s : IX) : aop P (.copy esz d s) dst env H K = (acopy esz (aval env d) (aval env s) H fun z H' => K (put dst z env) H') := _root_.id rfl
theorem op_sliceStr (x : IX) (lo : Option IX) (hi : Option IX) : aop P (.sliceStr x lo hi) dst env H K = (asliceStr (aval env x) (optX env lo) (optX env hi) fun z => K (put dst z env) H) := _root_.id rfl
theorem op_len (kd : Nat) (x : IX) : aop P (.len kd x) dst env H K = (lenOk kd (aval env x) ∧ alen (aval env x) H fun z => K (put dst z env) H) := _root_.id rfl
theorem op_append (esz : Nat) (bytes : Nat) (s : IX) (x : IX) : aop P (.append esz bytes s x) dst env H K = (aappend esz bytes (aval env s) (aval env x) fun zs => K (put dst (.lst esz zs) (unslotE env s.slot)) H) := _root_.id rfl
theorem op_mkarr (esz : Nat) (bytes : Nat) (z : AV) (n : IX) : aop P (.mkarr esz bytes z n) dst env H K = (amkarr esz bytes z (aval env n) H fun v H' => K (put dst v env) H') := _root_.id rfl
theorem op_mkbuf (esz : Nat) (bytes : Nat) (n : IX) : aop P (.mkbuf esz bytes n) dst env H K = (amkbuf esz bytes (aval env n) fun v => K (put dst v env) H) := _root_.id rfl
theorem op_mkmap  : aop P (.mkmap ) dst env H K = (K (put dst (.map H.length) env) (H ++ [.map []])) := _root_.id rfl
theorem op_lookup (kd : Nat) (z : AV) (m : IX) (k : IX) (ok : Bool) : aop P (.lookup kd z m k ok) dst env H K = (alookup kd z (aval env m) (aval env k) ok H fun v => K (put dst v env) H) := _root_.id rfl
theorem op_mapset (kd : Nat) (m : IX) (k : IX) (x : IX) : aop P (.mapset kd m k x) dst env H K = (amapset kd (aval env m) (aval env k) (aval env x) H fun H' => K env H') := _root_.id rfl
theorem op_fn (f : Fn) (first : List IX) (cap : List IX) : aop P (.fn f first cap) dst env H K = (K (put dst (.fn f (first.map fun x => (aval env x).unown) (cap.map fun x => (aval env x).unown)) env) H) := _root_.id rfl
theorem op_extract (x : IX) (i : Nat) : aop P (.extract x i) dst env H K = (aextract (aval env x) i fun z => K (put dst z env) H) := _root_.id rfl
theorem op_convInt (k : IntKind) (x : IX) : aop P (.convInt k x) dst env H K = (aconvInt k (aval env x) fun z => K (put dst z env) H) := _root_.id rfl
theorem op_convStr (x : IX) : aop P (.convStr x) dst env H K = (aconvStr (aval env x) fun z => K (put dst z env) H) := _root_.id rfl
theorem op_bytesOf (x : IX) : aop P (.bytesOf x) dst env H K = (abytesOf 1 (aval env x) fun z => K (put dst z env) H) := _root_.id rfl
theorem op_strOf (x : IX) : aop P (.strOf x) dst env H K = (astrOf (aval env x) fun z => K (put dst z env) H) := _root_.id rfl
theorem op_mx (big : Bool) (a : IX) (b : IX) : aop P (.mx big a b) dst env H K = (amx big (aval env a) (aval env b) fun z => K (put dst z env) H) := _root_.id rfl
theorem op_setf (esz : Nat) (x : IX) : aop P (.setf esz x) dst env H K = (asetf esz (aval env x) H fun z H' => K (put dst z env) H') := _root_.id rfl
theorem op_set_n (x : IX) (take : Bool) : aop P (.set x take) none env H K = K env H := _root_.id rfl
theorem op_set (d : Nat) (x : IX) : aop P (.set x false) (some d) env H K = K ((d, (aval env x).unown) :: env) H := by cases x <;> rfl
theorem op_take (d s : Nat) : aop P (.set (.t s) true) (some d) env H K = K ((d, get env s) :: (s, (get env s).unown) :: env) H := _root_.id rfl
theorem op_takec (d : Nat) (v : AV) : aop P (.set (.c v) true) (some d) env H K = K ((d, v.unown) :: env) H := _root_.id rfl
theorem op_pick (c a b : IX) : aop P (.pick c a b) dst env H K = scond (aval env c) (K (put dst (aval env a).unown env) H) (K (put dst (aval env b).unown env) H) := _root_.id rfl
theorem op_call (f : IX) (args : List IX) (pass : Option Nat) : aop P (.call f args pass) dst env H K = acall P (aval env f) args pass env H (fun r env' H' => K (put dst r env') H') := _root_.id rfl
end
section
variable {P : Program} {st : Bool} {ρ : IX → AV} {H : List AObj} {K : AV → Prop}
theorem dv_set (i : IX) : sdv P st (.set i false) ρ H K = K (ρ i).unown := by cases st <;> rfl
theorem dv_pick (c : IX) (a : IX) (b : IX) : sdv P st (.pick c a b) ρ H K = (scond (ρ c) (K (ρ a).unown) (K (ρ b).unown)) := _root_.id rfl
theorem dv_bin (op : BinOp) (i : IX) (j : IX) : sdv P st (.bin op i j) ρ H K = (abin op (ρ i) (ρ j) K) := _root_.id rfl
theorem dv_shift (op : BinOp) (i : IX) (j : IX) : sdv P st (.shift op i j) ρ H K = (ashift op (ρ i) (ρ j) K) := _root_.id rfl
theorem dv_eqBool (neq : Bool) (i : IX) (j : IX) : sdv P st (.eqBool neq i j) ρ H K = (aeqBool neq (ρ i) (ρ j) K) := _root_.id rfl
theorem dv_eqNil (kd : Nat) (neq : Bool) (i : IX) : sdv P st (.eqNil kd neq i) ρ H K = (aeqNilD kd neq (ρ i) K) := _root_.id rfl
theorem dv_un (op : UnOp) (i : IX) : sdv P st (.un op i) ρ H K = (aun op (ρ i) K) := _root_.id rfl
theorem dv_boxi (i : IX) : sdv P st (.boxi i) ρ H K = ((ρ i).val = true ∧ K (.iptr (ρ i))) := _root_.id rfl
theorem dv_build (z : AV) (ps : List (Nat × Nat × IX)) : sdv P st (.build z ps) ρ H K = (abuild z.cells (ps.map fun q => (q.1, q.2.1, ρ q.2.2)) K) := _root_.id rfl
theorem dv_buildSlice (own : Nat) (esz : Nat) (z : AV) (len : Nat) (ps : List (Nat × IX)) : sdv P st (.buildSlice own esz z len ps) ρ H K = (abslice (List.replicate len (canon z)) esz (ps.map fun q => (q.1, ρ q.2)) fun xs => K (.lst own xs)) := _root_.id rfl
theorem dv_load_true (sz : Option Nat) (i : IX) : sdv P true (.load sz i) ρ H K = (aload sz (ρ i) H K) := _root_.id rfl
theorem dv_load_false (sz : Option Nat) (i : IX) : sdv P false (.load sz i) ρ H K = (aload sz (ρ i) [] K) := _root_.id rfl
theorem dv_nilCheck (i : IX) : sdv P st (.nilCheck i) ρ H K = (anilCheck (ρ i) K) := _root_.id rfl
theorem dv_fieldAddr (off : Nat) (sz : Option Nat) (i : IX) : sdv P st (.fieldAddr off sz i) ρ H K = (afieldAddr off sz (ρ i) K) := _root_.id rfl
theorem dv_field (off : Nat) (sz : Option Nat) (i : IX) : sdv P st (.field off sz i) ρ H K = (afield off sz (ρ i) K) := _root_.id rfl
theorem dv_indexAddr (esz : Nat) (i : IX) (j : IX) : sdv P st (.indexAddr esz i j) ρ H K = ((∀ own xs, ρ i = .lst own xs → ∀ z ∈ xs, z.cells.length = esz) ∧ aindexAddr esz (ρ i) (ρ j) K) := _root_.id rfl
theorem dv_indexStr (i : IX) (j : IX) : sdv P st (.indexStr i j) ρ H K = (aindexStr (ρ i) (ρ j) K) := _root_.id rfl
theorem dv_slice (esz : Nat) (i : IX) (lo : Option IX) (hi : Option IX) (mx : Option IX) : sdv P st (.slice esz i lo hi mx) ρ H K = (asliceX esz (ρ i) (lo.map ρ) (hi.map ρ) (mx.map ρ) K) := _root_.id rfl
theorem dv_sliceStr (i : IX) (lo : Option IX) (hi : Option IX) : sdv P st (.sliceStr i lo hi) ρ H K = (asliceStr (ρ i) (lo.map ρ) (hi.map ρ) K) := _root_.id rfl
theorem dv_len_true (kd : Nat) (i : IX) : sdv P true (.len kd i) ρ H K = (lenOk kd (ρ i) ∧ alenD (ρ i) H K) := _root_.id rfl
theorem dv_len_false (kd : Nat) (i : IX) : sdv P false (.len kd i) ρ H K = (lenOk kd (ρ i) ∧ alenD (ρ i) [] K) := _root_.id rfl
theorem dv_lookup_true (kd : Nat) (z : AV) (m : IX) (k : IX) (ok : Bool) : sdv P true (.lookup kd z m k ok) ρ H K = (alookup kd z (ρ m) (ρ k) ok H K) := _root_.id rfl
theorem dv_lookup_false (kd : Nat) (z : AV) (m : IX) (k : IX) (ok : Bool) : sdv P false (.lookup kd z m k ok) ρ H K = (alookup kd z (ρ m) (ρ k) ok [] K) := _root_.id rfl
theorem dv_fn (f : Fn) (first : List IX) (cap : List IX) : sdv P st (.fn f first cap) ρ H K = (K (.fn f (first.map fun x => (ρ x).unown) (cap.map fun x => (ρ x).unown))) := _root_.id rfl
theorem dv_extract (i : IX) (k : Nat) : sdv P st (.extract i k) ρ H K = (aextract (ρ i) k K) := _root_.id rfl
theorem dv_convInt (k : IntKind) (i : IX) : sdv P st (.convInt k i) ρ H K = (aconvInt k (ρ i) K) := _root_.id rfl
theorem dv_mx (big : Bool) (i : IX) (j : IX) : sdv P st (.mx big i j) ρ H K = (amx big (ρ i) (ρ j) K) := _root_.id rfl
theorem dv_call (f : IX) (args : List IX) : sdv P st (.call f args none) ρ H K = scallD P st (ρ f) (args.map fun x => (ρ x).unown) H K := _root_.id rfl
end
theorem prune_none (env : Env) : prune none env = env := _root_.id rfl
theorem prune_nil (env : Env) : prune (some []) env = [] := _root_.id rfl
theorem prune_cons (env : Env) (t : Nat) (l : List Nat) : prune (some (t :: l)) env = (t, get env t) :: prune (some l) env := _root_.id rfl
theorem argEnv_nil (k : Nat) : argEnv k [] = [] := _root_.id rfl
theorem argEnv_cons (k : Nat) (x : AV) (xs : List AV) : argEnv k (x :: xs) = (k, x) :: argEnv (k + 1) xs := _root_.id rfl
theorem aval_t (env : Env) (s : Nat) : aval env (.t s) = get env s := _root_.id rfl
theorem aval_c (env : Env) (v : AV) : aval env (.c v) = v := _root_.id rfl
theorem alenD_lst (o : Nat) (xs : List AV) (H : List AObj) (φ : AV → Prop) : alenD (.lst o xs) H φ = φ (.int .i64 xs.length) := _root_.id rfl
theorem alenD_nils (H : List AObj) (φ : AV → Prop) : alenD .nils H φ = φ (.int .i64 0) := _root_.id rfl
theorem alenD_str (s : ByteArray) (H : List AObj) (φ : AV → Prop) : alenD (.str s) H φ = φ (.int .i64 s.size) := _root_.id rfl
theorem alenD_arr (a b c d : Nat) (H : List AObj) (φ : AV → Prop) : alenD (.arr a b c d) H φ = φ (.int .i64 c) := _root_.id rfl
theorem map_nil' {α β : Type} (f : α → β) : List.map f [] = [] := _root_.id rfl
theorem map_cons' {α β : Type} (f : α → β) (x : α) (xs : List α) : List.map f (x :: xs) = f x :: List.map f xs := _root_.id rfl
end Go.Abs
