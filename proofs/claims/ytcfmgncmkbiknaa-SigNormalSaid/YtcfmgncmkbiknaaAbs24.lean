/- A memory-free reading of the model's values (part 24): steps, as equations. -/
import Derived.Test.YtcfmgncmkbiknaaAbs22
set_option linter.unusedVariables false
set_option linter.unusedSimpArgs false
namespace Go.Abs
open Go

theorem un_any : AV.any.unown = .any := _root_.id rfl
theorem un_bool (b : Bool) : (AV.bool b).unown = .bool b := _root_.id rfl
theorem un_int (k : IntKind) (n : Int) : (AV.int k n).unown = .int k n := _root_.id rfl
theorem un_str (s : ByteArray) : (AV.str s).unown = .str s := _root_.id rfl
theorem un_nils : AV.nils.unown = .nils := _root_.id rfl
theorem un_lst (o : Nat) (xs : List AV) : (AV.lst o xs).unown = .lst 0 xs := _root_.id rfl
theorem un_arr (a b c d : Nat) : (AV.arr a b c d).unown = .arr a b c d := _root_.id rfl
theorem un_agg (xs : List AV) : (AV.agg xs).unown = .agg xs := _root_.id rfl
theorem un_tuple (xs : List AV) : (AV.tuple xs).unown = .tuple xs := _root_.id rfl
theorem un_ptr (a b : Nat) : (AV.ptr a b).unown = .ptr a b := _root_.id rfl
theorem un_iptr (x : AV) : (AV.iptr x).unown = .iptr x := _root_.id rfl
theorem un_nilp : AV.nilp.unown = .nilp := _root_.id rfl
theorem un_map (a : Nat) : (AV.map a).unown = .map a := _root_.id rfl
theorem un_nilm : AV.nilm.unown = .nilm := _root_.id rfl
theorem un_fn (f : Fn) (a b : List AV) : (AV.fn f a b).unown = .fn f a b := _root_.id rfl
theorem un_nilf : AV.nilf.unown = .nilf := _root_.id rfl
theorem ce_bool (b : Bool) : (AV.bool b).cells = [.bool b] := _root_.id rfl
theorem ce_int (k : IntKind) (n : Int) : (AV.int k n).cells = [.int k n] := _root_.id rfl
theorem ce_str (s : ByteArray) : (AV.str s).cells = [.str s] := _root_.id rfl
theorem ce_nils : AV.nils.cells = [.nils] := _root_.id rfl
theorem ce_lst (o : Nat) (xs : List AV) : (AV.lst o xs).cells = [.lst o xs] := _root_.id rfl
theorem ce_agg (xs : List AV) : (AV.agg xs).cells = xs := _root_.id rfl
theorem ce_fn (f : Fn) (a b : List AV) : (AV.fn f a b).cells = [.fn f a b] := _root_.id rfl
theorem ce_nilf : AV.nilf.cells = [.nilf] := _root_.id rfl
theorem ce_ptr (a b : Nat) : (AV.ptr a b).cells = [.ptr a b] := _root_.id rfl
theorem ce_iptr (x : AV) : (AV.iptr x).cells = [.iptr x] := _root_.id rfl
theorem ce_map (a : Nat) : (AV.map a).cells = [.map a] := _root_.id rfl
theorem dr_bool (b : Bool) : (AV.bool b).drop = .bool b := _root_.id rfl
theorem dr_int (k : IntKind) (n : Int) : (AV.int k n).drop = .int k n := _root_.id rfl
theorem dr_str (s : ByteArray) : (AV.str s).drop = .str s := _root_.id rfl
theorem dr_nils : AV.nils.drop = .lst 0 [] := _root_.id rfl
theorem dr_lst (o : Nat) (xs : List AV) : (AV.lst o xs).drop = .lst 0 xs := _root_.id rfl
theorem dr_agg (xs : List AV) : (AV.agg xs).drop = .agg xs := _root_.id rfl
theorem dr_fn (f : Fn) (a b : List AV) : (AV.fn f a b).drop = .fn f a b := _root_.id rfl
theorem dr_nilf : AV.nilf.drop = .nilf := _root_.id rfl
theorem dr_ptr (a b : Nat) : (AV.ptr a b).drop = .ptr a b := _root_.id rfl
theorem dr_iptr (x : AV) : (AV.iptr x).drop = .iptr x := _root_.id rfl
theorem dr_map (a : Nat) : (AV.map a).drop = .map a := _root_.id rfl
theorem ca_agg (xs : List AV) : canon (.agg xs) = .agg (xs.map AV.drop) := _root_.id rfl
theorem va_bool (b : Bool) : (AV.bool b).val = true := _root_.id rfl
theorem va_int (k : IntKind) (n : Int) : (AV.int k n).val = true := _root_.id rfl
theorem va_str (s : ByteArray) : (AV.str s).val = true := _root_.id rfl
theorem va_nils : AV.nils.val = true := _root_.id rfl
theorem va_lst (o : Nat) (xs : List AV) : (AV.lst o xs).val = true := _root_.id rfl
theorem va_agg (xs : List AV) : (AV.agg xs).val = true := _root_.id rfl
theorem va_fn (f : Fn) (a b : List AV) : (AV.fn f a b).val = true := _root_.id rfl
theorem va_nilf : AV.nilf.val = true := _root_.id rfl
theorem va_ptr (a b : Nat) : (AV.ptr a b).val = true := _root_.id rfl
theorem va_iptr (x : AV) : (AV.iptr x).val = true := _root_.id rfl
theorem va_map (a : Nat) : (AV.map a).val = true := _root_.id rfl
theorem bw_bool (n : Nat) (b : Bool) : (AV.bool b).blw n = true := _root_.id rfl
theorem bw_int (n : Nat) (k : IntKind) (m : Int) : (AV.int k m).blw n = true := _root_.id rfl
theorem bw_str (n : Nat) (s : ByteArray) : (AV.str s).blw n = true := _root_.id rfl
theorem bw_nils (n : Nat) : AV.nils.blw n = true := _root_.id rfl
theorem bw_lst (n o : Nat) (xs : List AV) : (AV.lst o xs).blw n = belowL n xs := by rw [AV.blw]
theorem bw_agg (n : Nat) (xs : List AV) : (AV.agg xs).blw n = belowL n xs := by rw [AV.blw]
theorem bw_tuple (n : Nat) (xs : List AV) : (AV.tuple xs).blw n = belowL n xs := by rw [AV.blw]
theorem bw_ptr (n a b : Nat) : (AV.ptr a b).blw n = decide (a < n) := by rw [AV.blw]
theorem bw_map (n a : Nat) : (AV.map a).blw n = decide (a < n) := by rw [AV.blw]
theorem bw_arr (n a b c d : Nat) : (AV.arr a b c d).blw n = decide (a < n) := by rw [AV.blw]
theorem bw_iptr (n : Nat) (x : AV) : (AV.iptr x).blw n = x.blw n := by rw [AV.blw]
theorem bw_fn (n : Nat) (f : Fn) (a b : List AV) : (AV.fn f a b).blw n = (belowL n a && belowL n b) := by rw [AV.blw]
theorem bw_nilf (n : Nat) : AV.nilf.blw n = true := _root_.id rfl
theorem bl_nil (n : Nat) : belowL n [] = true := _root_.id rfl
theorem bl_cons (n : Nat) (x : AV) (xs : List AV) : belowL n (x :: xs) = (x.blw n && belowL n xs) := by rw [belowL]

section
variable (k : IntKind) (a b : Int) (φ : AV → Prop)
theorem ab_add : abin .add (.int k a) (.int k b) φ = φ (.int k (k.wrap (a + b))) := by simp [abin]
theorem ab_sub : abin .sub (.int k a) (.int k b) φ = φ (.int k (k.wrap (a - b))) := by simp [abin]
theorem ab_mul : abin .mul (.int k a) (.int k b) φ = φ (.int k (k.wrap (a * b))) := by simp [abin]
theorem ab_rem : abin .rem (.int k a) (.int k b) φ = (b ≠ 0 ∧ φ (.int k (a.tmod b))) := by simp [abin]
theorem ab_quo : abin .quo (.int k a) (.int k b) φ = (b ≠ 0 ∧ φ (.int k (k.wrap (a.tdiv b)))) := by simp [abin]
theorem ab_eql : abin .eql (.int k a) (.int k b) φ = φ (.bool (decide (a = b))) := by simp [abin]
theorem ab_neq : abin .neq (.int k a) (.int k b) φ = φ (.bool (decide (a ≠ b))) := by simp [abin]
theorem ab_lss : abin .lss (.int k a) (.int k b) φ = φ (.bool (decide (a < b))) := by simp [abin]
theorem ab_leq : abin .leq (.int k a) (.int k b) φ = φ (.bool (decide (a ≤ b))) := by simp [abin]
theorem ab_gtr : abin .gtr (.int k a) (.int k b) φ = φ (.bool (decide (b < a))) := by simp [abin]
theorem ab_geq : abin .geq (.int k a) (.int k b) φ = φ (.bool (decide (b ≤ a))) := by simp [abin]
theorem as_eql (s t : ByteArray) : abin .eql (.str s) (.str t) φ = φ (.bool (decide (s = t))) := by simp [abin]
theorem as_neq (s t : ByteArray) : abin .neq (.str s) (.str t) φ = φ (.bool (decide (s ≠ t))) := by simp [abin]
theorem as_add (s t : ByteArray) : abin .add (.str s) (.str t) φ = (s.size + t.size < 9223372036854775808 ∧ φ (.str (s ++ t))) := by simp [abin]
theorem au_not (q : Bool) : aun .not (.bool q) φ = φ (.bool (!q)) := _root_.id rfl
theorem au_neg : aun .neg (.int k a) φ = φ (.int k (k.wrap (0 - a))) := _root_.id rfl
theorem ae_neq (p q : Bool) : aeqBool true (.bool p) (.bool q) φ = φ (.bool (decide (p ≠ q))) := _root_.id rfl
theorem ae_eql (p q : Bool) : aeqBool false (.bool p) (.bool q) φ = φ (.bool (decide (p = q))) := _root_.id rfl
theorem bp_b (q : Bool) (ψ : Bool → Prop) : boolP (.bool q) ψ = ψ q := _root_.id rfl
theorem al_str (s : ByteArray) (H : List AObj) : alen (.str s) H φ = φ (.int .i64 s.size) := _root_.id rfl
theorem al_nils (H : List AObj) : alen .nils H φ = φ (.int .i64 0) := _root_.id rfl
theorem al_lst (o : Nat) (xs : List AV) (H : List AObj) : alen (.lst o xs) H φ = (xs.length < 9223372036854775808 → φ (.int .i64 xs.length)) := _root_.id rfl
theorem al_arr (x y l c : Nat) (H : List AObj) : alen (.arr x y l c) H φ = φ (.int .i64 l) := _root_.id rfl
theorem al_nilm (H : List AObj) : alen .nilm H φ = φ (.int .i64 0) := _root_.id rfl
theorem lo_str (s : ByteArray) : lenOk 0 (.str s) = True := _root_.id rfl
theorem lo_nils : lenOk 1 .nils = True := _root_.id rfl
theorem lo_lst (o : Nat) (xs : List AV) : lenOk 1 (.lst o xs) = True := _root_.id rfl
theorem lo_arr (x y l c : Nat) : lenOk 1 (.arr x y l c) = True := _root_.id rfl
theorem lo_nilm : lenOk 2 .nilm = True := _root_.id rfl
theorem lo_map (x : Nat) : lenOk 2 (.map x) = True := _root_.id rfl
theorem li_bool (q : Bool) (H : List AObj) : aload none (.iptr (.bool q)) H φ = φ (.bool q) := by simp [aload, AV.one, un_bool]
theorem li_int (H : List AObj) : aload none (.iptr (.int k a)) H φ = φ (.int k a) := by simp [aload, AV.one, un_int]
theorem li_str (s : ByteArray) (H : List AObj) : aload none (.iptr (.str s)) H φ = φ (.str s) := by simp [aload, AV.one, un_str]
theorem li_lst (o : Nat) (xs : List AV) (H : List AObj) : aload none (.iptr (.lst o xs)) H φ = φ (.lst 0 xs) := by simp [aload, AV.one, un_lst]
theorem li_nils (H : List AObj) : aload none (.iptr .nils) H φ = φ .nils := by simp [aload, AV.one, un_nils]
theorem li_fn (f : Fn) (x y : List AV) (H : List AObj) : aload none (.iptr (.fn f x y)) H φ = φ (.fn f x y) := by simp [aload, AV.one, un_fn]
theorem lp_cell {id off : Nat} {H : List AObj} {es : List AV} (h : H[id]? = some (.cells es)) : aload none (.ptr id off) H φ = (off < es.length ∧ φ (es.getD off .any).unown) := by simp only [aload, h]
theorem nc_ptr (x y : Nat) : anilCheck (.ptr x y) φ = φ (.ptr x y) := _root_.id rfl
theorem nc_iptr (x : AV) : anilCheck (.iptr x) φ = φ (.iptr x) := _root_.id rfl
theorem ex_tuple (xs : List AV) (i : Nat) : aextract (.tuple xs) i φ = (i < xs.length ∧ φ (xs.getD i .any).unown) := _root_.id rfl
theorem fa_ptr (id o off : Nat) (sz : Option Nat) : afieldAddr off sz (.ptr id o) φ = φ (.ptr id (o + off)) := by simp [afieldAddr]
end

section
variable {P : Program} {n0 : Nat} {env : Env} {H : List AObj} {Q : Exit → Env → List AObj → Prop}
theorem awp_skip : awp P n0 .skip env H Q = Q .normal env H := _root_.id rfl
theorem awp_region (ops : List IOper) (live : Option (List Nat)) : awp P n0 (.region ops live) env H Q = aops P ops env H fun env' H' => Q .normal (prune live env') H' := _root_.id rfl
theorem awp_draw (t : DT) (live : Option (List Nat)) : awp P n0 (.draw t live) env H Q = adt P t env H fun env' H' => Q .normal (prune live env') H' := _root_.id rfl
theorem awp_seq (a b : IR) : awp P n0 (.seq a b) env H Q = awp P n0 a env H fun e env' H' => match e with
    | .normal => awp P n0 b env' H' Q
    | e => Q e env' H' := _root_.id rfl
theorem awp_cond (x : IX) (a b : IR) : awp P n0 (.cond x a b) env H Q = boolP (aval env x) fun q => (q = true → awp P n0 a env H Q) ∧ (q = false → awp P n0 b env H Q) := _root_.id rfl
theorem awp_block (id : Nat) (a : IR) : awp P n0 (.block id a) env H Q = awp P n0 a env H fun e env' H' => match e with
    | .exit id' => if id' = id then Q .normal env' H' else Q (.exit id') env' H'
    | e => Q e env' H' := _root_.id rfl
theorem awp_exit (id : Nat) : awp P n0 (.exit id) env H Q = Q (.exit id) env H := _root_.id rfl
theorem awp_ret : awp P n0 .ret env H Q = Q .ret env H := _root_.id rfl
theorem acall_fn (g : FuncId) (first cap : List AV) (args : List IX) (pass : Option Nat) (K : AV → Env → List AObj → Prop) : acall P (.fn (.func g) first cap) args pass env H K =
  ∃ args', LeL (first.map AV.unown ++ baseArgs env pass 0 args ++ cap.map AV.unown) args' ∧ ACalls P g args' H (fun r H' => K r (unslotE env (passSlot args pass)) H') := _root_.id rfl
theorem base_nil (pass : Option Nat) (j : Nat) : baseArgs env pass j [] = [] := _root_.id rfl
theorem base_c (pass : Option Nat) (j : Nat) (v : AV) (xs : List IX) : baseArgs env pass j (.c v :: xs) = v.unown :: baseArgs env pass (j + 1) xs := _root_.id rfl
theorem base_t (j s : Nat) (xs : List IX) : baseArgs env none j (.t s :: xs) = (get env s).unown :: baseArgs env none (j + 1) xs := by simp [baseArgs]
theorem base_f (j s : Nat) (xs : List IX) : baseArgs env (some 1999) j (.t s :: xs) = (if 1999 = j then get env s else (get env s).unown) :: baseArgs env (some 1999) (j + 1) xs := by simp [baseArgs]
theorem base_p (p j s : Nat) (xs : List IX) : baseArgs env (some p) j (.t s :: xs) = (if p = j then get env s else (get env s).unown) :: baseArgs env (some p) (j + 1) xs := by simp [baseArgs]
theorem pass_none (args : List IX) : passSlot args none = none := _root_.id rfl
theorem pass_c0 (x : Nat) (xs : List IX) : passSlot (.t x :: xs) (some 0) = some x := by simp [passSlot]
theorem pass_c1 (x : Nat) (y : IX) (xs : List IX) : passSlot (y :: .t x :: xs) (some 1) = some x := by simp [passSlot]
theorem pass_c2 (x : Nat) (y z : IX) (xs : List IX) : passSlot (y :: z :: .t x :: xs) (some 2) = some x := by simp [passSlot]
theorem pass_big0 : passSlot [] (some 1999) = none := _root_.id rfl
theorem pass_big1 (x : IX) : passSlot [x] (some 1999) = none := _root_.id rfl
theorem pass_big2 (x y : IX) : passSlot [x, y] (some 1999) = none := _root_.id rfl
theorem pass_big3 (x y z : IX) : passSlot [x, y, z] (some 1999) = none := _root_.id rfl
theorem pass_big4 (x y z u : IX) : passSlot [x, y, z, u] (some 1999) = none := _root_.id rfl
theorem unslot_none : unslotE env none = env := _root_.id rfl
theorem unslot_some (d : Nat) : unslotE env (some d) = (d, (get env d).unown) :: env := _root_.id rfl
theorem put_none (z : AV) : put none z env = env := _root_.id rfl
theorem put_some (d : Nat) (z : AV) : put (some d) z env = (d, z) :: env := _root_.id rfl
theorem setE_f (d : Nat) (x : IX) : setE env d x false = (d, (aval env x).unown) :: env := by cases x <;> rfl
theorem setE_t (d s : Nat) : setE env d (.t s) true = (d, get env s) :: (s, (get env s).unown) :: env := _root_.id rfl
theorem gt_cons (k : Nat) (v : AV) (t : Nat) : get ((k, v) :: env) t = if t = k then v else get env t := _root_.id rfl
theorem gt_nil (t : Nat) : get [] t = .any := _root_.id rfl
theorem gt_new (H : List AObj) (o : AObj) : (H ++ [o])[H.length]? = some o := by simp

/-- A loop over numbers up to N. -/
theorem awp_loop_nat {a : IR} (N : Nat) (I : Nat → Prop) (se : Nat → Env) (sh : Nat → List AObj) (h0 : I 0 ∧ sle n0 env H (se 0) (sh 0))
    (hs : ∀ i, i ≤ N → I i → awp P n0 a (se i) (sh i) fun e env' H' => match e with
      | .normal => ∃ j, (j ≤ N ∧ I j) ∧ N - j < N - i ∧ sle n0 env' H' (se j) (sh j)
      | e => Q e env' H') : awp P n0 (.loop a) env H Q :=
  ⟨Nat, fun i => i ≤ N ∧ I i, se, sh, fun i => N - i, ⟨0, ⟨Nat.zero_le _, h0.1⟩, h0.2⟩, fun i hi => hs i hi.1 hi.2⟩
theorem aret_one {s : Nat} {R : AV → List AObj → Prop} (m : Nat) (h0 : n0 ≤ m) (hb : (get env s).blw m = true) (h : R (get env s) (H.take m)) : aret n0 [.t s] env H R :=
  ⟨m, h0, _, le_refl _, hb, h⟩
/-- Of a call whose answer is known. -/
theorem to_call {g : FuncId} {xs : List AV} {v : AV} {K : AV → List AObj → Prop} (hc : ∀ H, ACalls P g xs H fun r H' => r = v ∧ H' = H) (hk : K v H) : ∃ args', LeL xs args' ∧ ACalls P g args' H K :=
  ⟨xs, LeL_refl _, (hc H).mono fun r H' ⟨h1, h2⟩ => by rw [h1, h2]; exact hk⟩
theorem to_call2 {g : FuncId} {xs ys : List AV} {v : AV} {K : AV → List AObj → Prop} (hc : ∀ H, ACalls P g ys H fun r H' => r = v ∧ H' = H) (hl : LeL xs ys) (hk : K v H) : ∃ args', LeL xs args' ∧ ACalls P g args' H K :=
  ⟨ys, hl, (hc H).mono fun r H' ⟨h1, h2⟩ => by rw [h1, h2]; exact hk⟩
theorem to_dcall {g : FuncId} {xs : List AV} {v : AV} {K : AV → Prop} (hc : ∀ H, ACalls P g xs H fun r H' => r = v ∧ H' = H) (hk : K v) : ∃ x, (∃ args', LeL xs args' ∧ ACalls P g args' H fun r H' => r = x ∧ H' = H) ∧ K x :=
  ⟨v, ⟨xs, LeL_refl _, hc H⟩, hk⟩
end
/-- What a function answers, whatever objects there are. -/
def Pure (P : Program) (g : FuncId) (xs : List AV) (v : AV) : Prop := ∀ H, ACalls P g xs H fun r H' => r = v ∧ H' = H
theorem Pure.mk {P : Program} {g : FuncId} {xs : List AV} {v : AV} (hb : belowL 0 xs = true) (h : ACalls P g xs [] fun r H' => r = v ∧ H' = []) : Pure P g xs v :=
  ACalls.frame (fun x hx => (belowL_iff 0 xs).1 hb x hx) h
def envBlw (n : Nat) (env : Env) : Bool := env.all fun p => p.2.blw n
theorem envBlw_get {n : Nat} {env : Env} (h : envBlw n env = true) (t : Nat) : (get env t).blw n = true := by
  rcases get_mem (env := env) (t := t) rfl with h' | h'
  · rw [h']; rfl
  · exact List.all_eq_true.1 h _ h'
theorem eb_nil (n : Nat) : envBlw n [] = true := _root_.id rfl
theorem eb_cons (n k : Nat) (v : AV) (env : Env) : envBlw n ((k, v) :: env) = (v.blw n && envBlw n env) := _root_.id rfl
theorem sle_drop {n0 : Nat} {env env' : Env} {H H' : List AObj} (he : env = env') (h0 : n0 ≤ H'.length) (hb : envBlw H'.length env' = true) (e : List AObj) (hH : H = H' ++ e) : sle n0 env H env' H' := by
  subst he; subst hH
  exact ⟨fun t => le_refl _, .inr ⟨H'.length, h0, by simp, envBlw_get hb⟩⟩
theorem sle_eq {n0 : Nat} {env env' : Env} {H H' : List AObj} (he : env = env') (hH : H = H') : sle n0 env H env' H' := by
  subst he; subst hH; exact sle_refl _ _ _
theorem wrap_nat (i : Nat) (h : i + 1 < 9223372036854775808) : IntKind.i64.wrap ((i : Int) + 1) = ((i + 1 : Nat) : Int) := by
  show IntKind.wrap .i64 ((i : Int) + 1) = _
  unfold IntKind.wrap
  simp [IntKind.signed, IntKind.bits]
  omega
end Go.Abs
