/- Part 10 of 18 of the proof. -/
import Derived.Test.YtljchnfgjdjobaaGreatPah
import Derived.ProofKit
import Derived.Deep.Slices
import Derived.Deep.Strs
set_option linter.unusedVariables false
set_option linter.unusedSimpArgs false
set_option linter.defProp false
set_option linter.unusedSectionVars false
section
namespace Go.Abs
open Go
theorem un_any : AV.any.unown = .any := _root_.id rfl
theorem un_bool (b : Bool) : (AV.bool b).unown = .bool b := _root_.id rfl
theorem un_int (k : IntKind) (n : Int) : (AV.int k n).unown = .int k n := _root_.id rfl
theorem un_str (s : ByteArray) : (AV.str s).unown = .str s := _root_.id rfl
theorem un_nils : AV.nils.unown = .nils := _root_.id rfl
theorem un_lst (o : Nat) (xs : List AV) : (AV.lst o xs).unown = .lst 0 xs := _root_.id rfl
theorem un_arr (a b c d : Nat) : (AV.arr a b c d).unown = .arr a b c d := _root_.id rfl
theorem un_agg (xs : List AV) : (AV.agg xs).unown = .agg xs := _root_.id rfl
theorem un_tuple (xs : List AV) : (AV.tuple xs).unown = .tuple xs := _root_.id rfl
theorem un_ptr (a b : Nat) : (AV.ptr a b).unown = .ptr a b := _root_.id rfl
theorem un_iptr (x : AV) : (AV.iptr x).unown = .iptr x := _root_.id rfl
theorem un_nilp : AV.nilp.unown = .nilp := _root_.id rfl
theorem un_map (a : Nat) : (AV.map a).unown = .map a := _root_.id rfl
theorem un_nilm : AV.nilm.unown = .nilm := _root_.id rfl
theorem un_fn (f : Fn) (a b : List AV) : (AV.fn f a b).unown = .fn f a b := _root_.id rfl
theorem un_nilf : AV.nilf.unown = .nilf := _root_.id rfl
theorem ce_bool (b : Bool) : (AV.bool b).cells = [.bool b] := _root_.id rfl
theorem ce_int (k : IntKind) (n : Int) : (AV.int k n).cells = [.int k n] := _root_.id rfl
theorem ce_str (s : ByteArray) : (AV.str s).cells = [.str s] := _root_.id rfl
theorem ce_nils : AV.nils.cells = [.nils] := _root_.id rfl
theorem ce_lst (o : Nat) (xs : List AV) : (AV.lst o xs).cells = [.lst o xs] := _root_.id rfl
theorem ce_agg (xs : List AV) : (AV.agg xs).cells = xs := _root_.id rfl
theorem ce_fn (f : Fn) (a b : List AV) : (AV.fn f a b).cells = [.fn f a b] := _root_.id rfl
theorem ce_nilf : AV.nilf.cells = [.nilf] := _root_.id rfl
theorem ce_ptr (a b : Nat) : (AV.ptr a b).cells = [.ptr a b] := _root_.id rfl
theorem ce_iptr (x : AV) : (AV.iptr x).cells = [.iptr x] := _root_.id rfl
theorem ce_map (a : Nat) : (AV.map a).cells = [.map a] := _root_.id rfl
theorem dr_bool (b : Bool) : (AV.bool b).drop = .bool b := _root_.id rfl
theorem dr_int (k : IntKind) (n : Int) : (AV.int k n).drop = .int k n := _root_.id rfl
theorem dr_str (s : ByteArray) : (AV.str s).drop = .str s := _root_.id rfl
theorem dr_nils : AV.nils.drop = .lst 0 [] := _root_.id rfl
theorem dr_lst (o : Nat) (xs : List AV) : (AV.lst o xs).drop = .lst 0 xs := _root_.id rfl
theorem dr_agg (xs : List AV) : (AV.agg xs).drop = .agg xs := _root_.id rfl
theorem dr_fn (f : Fn) (a b : List AV) : (AV.fn f a b).drop = .fn f a b := _root_.id rfl
theorem dr_nilf : AV.nilf.drop = .nilf := _root_.id rfl
theorem dr_ptr (a b : Nat) : (AV.ptr a b).drop = .ptr a b := _root_.id rfl
theorem dr_iptr (x : AV) : (AV.iptr x).drop = .iptr x := _root_.id rfl
theorem dr_map (a : Nat) : (AV.map a).drop = .map a := _root_.id rfl
theorem va_bool (b : Bool) : (AV.bool b).val = true := _root_.id rfl
theorem va_int (k : IntKind) (n : Int) : (AV.int k n).val = true := _root_.id rfl
theorem va_str (s : ByteArray) : (AV.str s).val = true := _root_.id rfl
theorem va_nils : AV.nils.val = true := _root_.id rfl
theorem va_lst (o : Nat) (xs : List AV) : (AV.lst o xs).val = true := _root_.id rfl
theorem va_agg (xs : List AV) : (AV.agg xs).val = true := _root_.id rfl
theorem va_fn (f : Fn) (a b : List AV) : (AV.fn f a b).val = true := _root_.id rfl
theorem va_nilf : AV.nilf.val = true := _root_.id rfl
theorem va_ptr (a b : Nat) : (AV.ptr a b).val = true := _root_.id rfl
theorem va_iptr (x : AV) : (AV.iptr x).val = true := _root_.id rfl
theorem va_map (a : Nat) : (AV.map a).val = true := _root_.id rfl
theorem bw_bool (n : Nat) (b : Bool) : (AV.bool b).blw n = true := _root_.id rfl
theorem bw_int (n : Nat) (k : IntKind) (m : Int) : (AV.int k m).blw n = true := _root_.id rfl
theorem bw_str (n : Nat) (s : ByteArray) : (AV.str s).blw n = true := _root_.id rfl
theorem bw_nils (n : Nat) : AV.nils.blw n = true := _root_.id rfl
theorem bw_lst (n o : Nat) (xs : List AV) : (AV.lst o xs).blw n = belowL n xs := by rw [AV.blw]
theorem bw_agg (n : Nat) (xs : List AV) : (AV.agg xs).blw n = belowL n xs := by rw [AV.blw]
theorem bw_tuple (n : Nat) (xs : List AV) : (AV.tuple xs).blw n = belowL n xs := by rw [AV.blw]
theorem bw_ptr (n a b : Nat) : (AV.ptr a b).blw n = decide (a < n) := by rw [AV.blw]
theorem bw_map (n a : Nat) : (AV.map a).blw n = decide (a < n) := by rw [AV.blw]
theorem bw_arr (n a b c d : Nat) : (AV.arr a b c d).blw n = decide (a < n) := by rw [AV.blw]
theorem bw_iptr (n : Nat) (x : AV) : (AV.iptr x).blw n = x.blw n := by rw [AV.blw]
theorem bw_fn (n : Nat) (f : Fn) (a b : List AV) : (AV.fn f a b).blw n = (belowL n a && belowL n b) := by rw [AV.blw]
theorem bw_nilf (n : Nat) : AV.nilf.blw n = true := _root_.id rfl
theorem bl_nil (n : Nat) : belowL n [] = true := _root_.id rfl
theorem bl_cons (n : Nat) (x : AV) (xs : List AV) : belowL n (x :: xs) = (x.blw n && belowL n xs) := by rw [belowL]
section
variable (k : IntKind) (a b : Int) (φ : AV → Prop)
theorem ab_add : abin .add (.int k a) (.int k b) φ = φ (.int k (k.wrap (a + b))) := by simp [abin]
theorem ab_sub : abin .sub (.int k a) (.int k b) φ = φ (.int k (k.wrap (a - b))) := by simp [abin]
theorem ab_mul : abin .mul (.int k a) (.int k b) φ = φ (.int k (k.wrap (a * b))) := by simp [abin]
theorem ab_rem : abin .rem (.int k a) (.int k b) φ = (b ≠ 0 ∧ φ (.int k (a.tmod b))) := by simp [abin]
theorem ab_quo : abin .quo (.int k a) (.int k b) φ = (b ≠ 0 ∧ φ (.int k (k.wrap (a.tdiv b)))) := by simp [abin]
theorem ab_eql : abin .eql (.int k a) (.int k b) φ = φ (.bool (decide (a = b))) := by simp [abin]
theorem ab_neq : abin .neq (.int k a) (.int k b) φ = φ (.bool (decide (a ≠ b))) := by simp [abin]
theorem ab_lss : abin .lss (.int k a) (.int k b) φ = φ (.bool (decide (a < b))) := by simp [abin]
theorem ab_leq : abin .leq (.int k a) (.int k b) φ = φ (.bool (decide (a ≤ b))) := by simp [abin]
theorem ab_gtr : abin .gtr (.int k a) (.int k b) φ = φ (.bool (decide (b < a))) := by simp [abin]
theorem ab_geq : abin .geq (.int k a) (.int k b) φ = φ (.bool (decide (b ≤ a))) := by simp [abin]
theorem as_eql (s t : ByteArray) : abin .eql (.str s) (.str t) φ = φ (.bool (decide (s = t))) := by simp [abin]
theorem as_neq (s t : ByteArray) : abin .neq (.str s) (.str t) φ = φ (.bool (decide (s ≠ t))) := by simp [abin]
theorem as_add (s t : ByteArray) : abin .add (.str s) (.str t) φ = (s.size + t.size < 9223372036854775808 ∧ φ (.str (s ++ t))) := by simp [abin]
theorem au_not (q : Bool) : aun .not (.bool q) φ = φ (.bool (!q)) := _root_.id rfl
theorem au_neg : aun .neg (.int k a) φ = φ (.int k (k.wrap (0 - a))) := _root_.id rfl
theorem ae_neq (p q : Bool) : aeqBool true (.bool p) (.bool q) φ = φ (.bool (decide (p ≠ q))) := _root_.id rfl
theorem ae_eql (p q : Bool) : aeqBool false (.bool p) (.bool q) φ = φ (.bool (decide (p = q))) := _root_.id rfl
theorem bp_b (q : Bool) (ψ : Bool → Prop) : boolP (.bool q) ψ = ψ q := _root_.id rfl
theorem al_str (s : ByteArray) (H : List AObj) : alen (.str s) H φ = φ (.int .i64 s.size) := _root_.id rfl
theorem al_nils (H : List AObj) : alen .nils H φ = φ (.int .i64 0) := _root_.id rfl
theorem al_lst (o : Nat) (xs : List AV) (H : List AObj) : alen (.lst o xs) H φ = (xs.length < 9223372036854775808 → φ (.int .i64 xs.length)) := _root_.id rfl
theorem al_arr (x y l c : Nat) (H : List AObj) : alen (.arr x y l c) H φ = φ (.int .i64 l) := _root_.id rfl
theorem al_nilm (H : List AObj) : alen .nilm H φ = φ (.int .i64 0) := _root_.id rfl
theorem lo_str (s : ByteArray) : lenOk 0 (.str s) = True := _root_.id rfl
theorem lo_nils : lenOk 1 .nils = True := _root_.id rfl
theorem lo_lst (o : Nat) (xs : List AV) : lenOk 1 (.lst o xs) = True := _root_.id rfl
theorem lo_arr (x y l c : Nat) : lenOk 1 (.arr x y l c) = True := _root_.id rfl
theorem lo_nilm : lenOk 2 .nilm = True := _root_.id rfl
theorem lo_map (x : Nat) : lenOk 2 (.map x) = True := _root_.id rfl
theorem li_bool (q : Bool) (H : List AObj) : aload none (.iptr (.bool q)) H φ = φ (.bool q) := by simp [aload, AV.one, un_bool]
theorem li_int (H : List AObj) : aload none (.iptr (.int k a)) H φ = φ (.int k a) := by simp [aload, AV.one, un_int]
theorem li_str (s : ByteArray) (H : List AObj) : aload none (.iptr (.str s)) H φ = φ (.str s) := by simp [aload, AV.one, un_str]
theorem li_lst (o : Nat) (xs : List AV) (H : List AObj) : aload none (.iptr (.lst o xs)) H φ = φ (.lst 0 xs) := by simp [aload, AV.one, un_lst]
theorem li_nils (H : List AObj) : aload none (.iptr .nils) H φ = φ .nils := by simp [aload, AV.one, un_nils]
theorem li_fn (f : Fn) (x y : List AV) (H : List AObj) : aload none (.iptr (.fn f x y)) H φ = φ (.fn f x y) := by simp [aload, AV.one, un_fn]
theorem nc_ptr (x y : Nat) : anilCheck (.ptr x y) φ = φ (.ptr x y) := _root_.id rfl
theorem nc_iptr (x : AV) : anilCheck (.iptr x) φ = φ (.iptr x) := _root_.id rfl
theorem ex_tuple (xs : List AV) (i : Nat) : aextract (.tuple xs) i φ = (i < xs.length ∧ φ (xs.getD i .any).unown) := _root_.id rfl
theorem fa_ptr (id o off : Nat) (sz : Option Nat) : afieldAddr off sz (.ptr id o) φ = φ (.ptr id (o + off)) := by simp [afieldAddr]
end
section
variable {P : Px} {n0 : Nat} {env : Env} {H : List AObj} {Q : Exit → Env → List AObj → Prop}
theorem base_nil (pass : Option Nat) (j : Nat) : baseArgs env pass j [] = [] := _root_.id rfl
theorem base_c (pass : Option Nat) (j : Nat) (v : AV) (xs : List IX) : baseArgs env pass j (.c v :: xs) = v.unown :: baseArgs env pass (j + 1) xs := _root_.id rfl
theorem base_t (j s : Nat) (xs : List IX) : baseArgs env none j (.t s :: xs) = (get env s).unown :: baseArgs env none (j + 1) xs := by simp [baseArgs]
theorem base_f (j s : Nat) (xs : List IX) : baseArgs env (some 1999) j (.t s :: xs) = (if 1999 = j then get env s else (get env s).unown) :: baseArgs env (some 1999) (j + 1) xs := by simp [baseArgs]
theorem base_p (p j s : Nat) (xs : List IX) : baseArgs env (some p) j (.t s :: xs) = (if p = j then get env s else (get env s).unown) :: baseArgs env (some p) (j + 1) xs := by simp [baseArgs]
theorem pass_none (args : List IX) : passSlot args none = none := _root_.id rfl
theorem pass_c0 (x : Nat) (xs : List IX) : passSlot (.t x :: xs) (some 0) = some x := by simp [passSlot]
theorem pass_c1 (x : Nat) (y : IX) (xs : List IX) : passSlot (y :: .t x :: xs) (some 1) = some x := by simp [passSlot]
theorem pass_c2 (x : Nat) (y z : IX) (xs : List IX) : passSlot (y :: z :: .t x :: xs) (some 2) = some x := by simp [passSlot]
theorem pass_big0 : passSlot [] (some 1999) = none := _root_.id rfl
theorem pass_big1 (x : IX) : passSlot [x] (some 1999) = none := _root_.id rfl
theorem pass_big2 (x y : IX) : passSlot [x, y] (some 1999) = none := _root_.id rfl
theorem pass_big3 (x y z : IX) : passSlot [x, y, z] (some 1999) = none := _root_.id rfl
theorem pass_big4 (x y z u : IX) : passSlot [x, y, z, u] (some 1999) = none := _root_.id rfl
theorem unslot_none : unslotE env none = env := _root_.id rfl
theorem unslot_some (d : Nat) : unslotE env (some d) = (d, (get env d).unown) :: env := _root_.id rfl
theorem put_none (z : AV) : put none z env = env := _root_.id rfl
theorem put_some (d : Nat) (z : AV) : put (some d) z env = (d, z) :: env := _root_.id rfl
theorem gt_cons (k : Nat) (v : AV) (t : Nat) : get ((k, v) :: env) t = if t = k then v else get env t := _root_.id rfl
theorem gt_nil (t : Nat) : get [] t = .any := _root_.id rfl
theorem aret_one {s : Nat} {R : AV → List AObj → Prop} (m : Nat) (h0 : n0 ≤ m) (hb : (get env s).blw m = true) (h : R (get env s) (H.take m)) : aret n0 [.t s] env H R :=
 ⟨m, h0, _, le_refl _, hb, h⟩
end
def Pure (P : Program) (g : FuncId) (xs : List AV) (v : AV) : Prop := ∀ H, ACalls P g xs H fun r H' => r = v ∧ H' = H
theorem Pure.mk {P : Program} {g : FuncId} {xs : List AV} {v : AV} (hb : belowL 0 xs = true) (h : ACalls P g xs [] fun r H' => r = v ∧ H' = []) : Pure P g xs v :=
 ACalls.frame (fun x hx => (belowL_iff 0 xs).1 hb x hx) h
def envBlw (n : Nat) (env : Env) : Bool := env.all fun p => p.2.blw n
theorem envBlw_get {n : Nat} {env : Env} (h : envBlw n env = true) (t : Nat) : (get env t).blw n = true := by
 rcases get_mem (env := env) (t := t) rfl with h' | h'
 ·rw [h']; rfl
 ·exact List.all_eq_true.1 h _ h'
theorem eb_nil (n : Nat) : envBlw n [] = true := _root_.id rfl
theorem eb_cons (n k : Nat) (v : AV) (env : Env) : envBlw n ((k, v) :: env) = (v.blw n && envBlw n env) := _root_.id rfl
theorem sle_drop {n0 : Nat} {env env' : Env} {H H' : List AObj} (he : env = env') (h0 : n0 ≤ H'.length) (hb : envBlw H'.length env' = true) (e : List AObj) (hH : H = H' ++ e) : sle n0 env H env' H' := by
 subst he; subst hH
 exact ⟨fun t => le_refl _, .inr ⟨H'.length, h0, by simp, envBlw_get hb⟩⟩
theorem sle_eq {n0 : Nat} {env env' : Env} {H H' : List AObj} (he : env = env') (hH : H = H') : sle n0 env H env' H' := by
 subst he; subst hH; exact sle_refl _ _ _
theorem wrap_nat (i : Nat) (h : i + 1 < 9223372036854775808) : IntKind.i64.wrap ((i : Int) + 1) = ((i + 1 : Nat) : Int) := by
 show IntKind.wrap .i64 ((i : Int) + 1) = _
 unfold IntKind.wrap
 simp [IntKind.signed, IntKind.bits]
 omega
end Go.Abs
end
section
namespace Go.Abs
open Go
def nrm {α : Type} (x : α) : α := x
theorem nrm_eq {α : Type} (x : α) : nrm x = x := _root_.id rfl
section
variable {φ : AV → Prop}
theorem abin_det {op : BinOp} {x y : AV} (h : abin op x y φ) : ∃ z, abin op x y (fun w => w = z) ∧ φ z := by
 unfold abin at *
 split at h <;> (try exact h.elim)
 ·obtain ⟨h0, h⟩ := h
  split at h <;> first | exact ⟨_, ⟨h0, rfl⟩, h⟩ | exact ⟨_, ⟨h0, h.1, rfl⟩, h.2⟩ | exact h.elim
 ·split at h <;> first | exact ⟨_, rfl, h⟩ | exact ⟨_, ⟨h.1, rfl⟩, h.2⟩ | exact h.elim
theorem ashift_det {op : BinOp} {x y : AV} (h : ashift op x y φ) : ∃ z, ashift op x y (fun w => w = z) ∧ φ z := by
 unfold ashift at *
 split at h <;> (try exact h.elim)
 obtain ⟨h0, h⟩ := h
 split at h <;> first | exact ⟨_, ⟨h0, rfl⟩, h⟩ | exact h.elim
theorem aeqBool_det {neq : Bool} {x y : AV} (h : aeqBool neq x y φ) : ∃ z, aeqBool neq x y (fun w => w = z) ∧ φ z := by
 unfold aeqBool at *
 split at h <;> first | exact ⟨_, rfl, h⟩ | exact h.elim
theorem aun_det {op : UnOp} {x : AV} (h : aun op x φ) : ∃ z, aun op x (fun w => w = z) ∧ φ z := by
 unfold aun at *
 split at h <;> first | exact ⟨_, rfl, h⟩ | exact h.elim
theorem aload_det {sz : Option Nat} {x : AV} {H : List AObj} (h : aload sz x H φ) : ∃ z, aload sz x H (fun w => w = z) ∧ φ z := by
 unfold aload at *
 split at h <;> (try exact h.elim) <;> (split at h <;> (try exact h.elim)) <;> first | exact ⟨_, ⟨h.1, rfl⟩, h.2⟩ | (split at h <;> exact ⟨_, ⟨h.1, rfl⟩, h.2⟩)
theorem apart_det {off : Nat} {sz : Option Nat} {xs : List AV} {g : AV → AV} (h : apart off sz xs fun z => φ (g z)) : ∃ z, (apart off sz xs fun w => g w = z) ∧ φ z := by
 unfold apart at *
 split at h <;> first | exact ⟨_, ⟨h.1, rfl⟩, h.2⟩ | exact ⟨_, ⟨h.1, h.2.1, rfl⟩, h.2.2⟩
theorem afield_det {off : Nat} {sz : Option Nat} {x : AV} (h : afield off sz x φ) : ∃ z, afield off sz x (fun w => w = z) ∧ φ z := by
 unfold afield at *
 split at h <;> (try exact h.elim)
 exact apart_det h
theorem afieldAddr_det {off : Nat} {sz : Option Nat} {x : AV} (h : afieldAddr off sz x φ) : ∃ z, afieldAddr off sz x (fun w => w = z) ∧ φ z := by
 unfold afieldAddr at *
 split at h <;> (try exact h.elim)
 ·exact ⟨_, rfl, h⟩
 ·exact apart_det h
theorem aindexAddr_det {esz : Nat} {x i : AV} (h : aindexAddr esz x i φ) : ∃ z, aindexAddr esz x i (fun w => w = z) ∧ φ z := by
 unfold aindexAddr at *
 split at h <;> first | exact ⟨_, ⟨h.1, h.2.1, rfl⟩, h.2.2⟩ | exact h.elim
theorem aindexStr_det {x i : AV} (h : aindexStr x i φ) : ∃ z, aindexStr x i (fun w => w = z) ∧ φ z := by
 unfold aindexStr at *
 split at h <;> first | exact ⟨_, ⟨h.1, h.2.1, rfl⟩, h.2.2⟩ | exact h.elim
theorem aindexArr_det {n : Nat} {x i : AV} (h : aindexArr n x i φ) : ∃ z, aindexArr n x i (fun w => w = z) ∧ φ z := by
 unfold aindexArr at *
 split at h <;> first | exact ⟨_, ⟨h.1, h.2.1, h.2.2.1, rfl⟩, h.2.2.2⟩ | exact h.elim
theorem aextract_det {x : AV} {i : Nat} (h : aextract x i φ) : ∃ z, aextract x i (fun w => w = z) ∧ φ z := by
 unfold aextract at *
 split at h <;> first | exact ⟨_, ⟨h.1, rfl⟩, h.2⟩ | exact h.elim
theorem anilCheck_det {x : AV} (h : anilCheck x φ) : ∃ z, anilCheck x (fun w => w = z) ∧ φ z := by
 unfold anilCheck at *
 split at h <;> first | exact ⟨_, rfl, h⟩ | exact h.elim
theorem aconvInt_det {k : IntKind} {x : AV} (h : aconvInt k x φ) : ∃ z, aconvInt k x (fun w => w = z) ∧ φ z := by
 unfold aconvInt at *
 split at h <;> first | exact ⟨_, rfl, h⟩ | exact h.elim
theorem amx_det {big : Bool} {x y : AV} (h : amx big x y φ) : ∃ z, amx big x y (fun w => w = z) ∧ φ z := by
 unfold amx at *
 split at h <;> first | exact ⟨_, rfl, h⟩ | exact h.elim
theorem aidx_det1 {x : Option AV} {d : Nat} {c1 c2 : Nat → Prop} {g : Nat → AV} (h : aidx x d fun k => c1 k ∧ c2 k ∧ φ (g k)) : ∃ z, (aidx x d fun k => c1 k ∧ c2 k ∧ g k = z) ∧ φ z := by
 unfold aidx at *
 split at h
 ·exact ⟨_, ⟨h.1, h.2.1, rfl⟩, h.2.2⟩
 ·exact ⟨_, ⟨h.1, h.2.1, h.2.2.1, rfl⟩, h.2.2.2⟩
 ·exact h.elim
theorem aidx_det {x : Option AV} {d : Nat} {ψ : (AV → Prop) → Nat → Prop} (h : aidx x d (ψ φ)) (hd : ∀ k, ψ φ k → ∃ z, ψ (fun w => w = z) k ∧ φ z) : ∃ z, aidx x d (ψ fun w => w = z) ∧ φ z := by
 unfold aidx at *
 split at h
 ·exact hd _ h
 ·obtain ⟨z, h2, h3⟩ := hd _ h.2; exact ⟨z, ⟨h.1, h2⟩, h3⟩
 ·exact h.elim
theorem aslice_det {esz : Nat} {x : AV} {lo hi mx : Option AV} (h : aslice esz x lo hi mx φ) : ∃ z, aslice esz x lo hi mx (fun w => w = z) ∧ φ z := by
 unfold aslice at *
 split at h <;> (try exact h.elim)
 rename_i xs hxs
 cases mx with
 | none => exact aidx_det (ψ := fun φ h => aidx lo 0 fun l => l ≤ h ∧ h ≤ xs.length ∧ φ (.lst 0 ((xs.take h).drop l))) h fun k h => aidx_det1 (c1 := fun l => l ≤ k) (c2 := fun _ => k ≤ xs.length) (g := fun l => .lst 0 ((xs.take k).drop l)) h
 | some m =>
   refine aidx_det (ψ := fun φ h => aidx lo 0 fun l => l ≤ h ∧ h ≤ xs.length ∧ hi.isSome = true ∧ aidx (some m) 0 fun m => m = h ∧ (∀ y ∈ xs, y.cells.length = esz) ∧ φ (.lst esz ((xs.take h).drop l))) h fun k h => ?_
   refine aidx_det (ψ := fun φ l => l ≤ k ∧ k ≤ xs.length ∧ hi.isSome = true ∧ aidx (some m) 0 fun m => m = k ∧ (∀ y ∈ xs, y.cells.length = esz) ∧ φ (.lst esz ((xs.take k).drop l))) h fun l h => ?_
   obtain ⟨h1, h2, h3, h4⟩ := h
   obtain ⟨z, k1, k2⟩ := aidx_det1 (g := fun _ => .lst esz ((xs.take k).drop l)) h4
   exact ⟨z, ⟨h1, h2, h3, k1⟩, k2⟩
theorem asliceX_det {esz : Nat} {x : AV} {lo hi mx : Option AV} (h : asliceX esz x lo hi mx φ) : ∃ z, asliceX esz x lo hi mx (fun w => w = z) ∧ φ z := by
 unfold asliceX aslicea aslicem at *
 split at h
 ·rename_i id off len cap
  split at h
  rotate_left
  ·rename_i m
   obtain ⟨h1, h2⟩ := h
   have := aidx_det (ψ := fun φ m => aidx hi len fun h => aidx lo 0 fun l => l ≤ h ∧ h ≤ m ∧ m ≤ cap ∧ φ (.arr id (if m = l then off else off + l * esz) (h - l) (m - l))) h2 fun m h =>
    aidx_det (ψ := fun φ h => aidx lo 0 fun l => l ≤ h ∧ h ≤ m ∧ m ≤ cap ∧ φ (.arr id (if m = l then off else off + l * esz) (h - l) (m - l))) h fun k h =>
     aidx_det (ψ := fun φ l => l ≤ k ∧ k ≤ m ∧ m ≤ cap ∧ φ (.arr id (if m = l then off else off + l * esz) (k - l) (m - l))) h fun l h => ⟨_, ⟨h.1, h.2.1, h.2.2.1, rfl⟩, h.2.2.2⟩
   obtain ⟨z, k1, k2⟩ := this
   exact ⟨z, ⟨h1, k1⟩, k2⟩
  have h2 := h
  have := aidx_det (ψ := fun φ h => aidx lo 0 fun l => l ≤ h ∧ h ≤ cap ∧ φ (.arr id (if cap = l then off else off + l * esz) (h - l) (cap - l))) h2 fun k h => aidx_det1 (c1 := fun l => l ≤ k) (c2 := fun _ => k ≤ cap) (g := fun l => .arr id (if cap = l then off else off + l * esz) (k - l) (cap - l)) h
  obtain ⟨z, k1, k2⟩ := this
  exact ⟨z, k1, k2⟩
 ·obtain ⟨z, k1, k2⟩ := aslice_det h.2
  exact ⟨z, ⟨h.1, k1⟩, k2⟩
theorem asliceStr_det {x : AV} {lo hi : Option AV} (h : asliceStr x lo hi φ) : ∃ z, asliceStr x lo hi (fun w => w = z) ∧ φ z := by
 unfold asliceStr at *
 split at h <;> (try exact h.elim)
 rename_i s
 exact aidx_det (ψ := fun φ h => aidx lo 0 fun l => l ≤ h ∧ h ≤ s.size ∧ φ (.str (s.extract l h))) h fun k h => aidx_det1 (c1 := fun l => l ≤ k) (c2 := fun _ => k ≤ s.size) (g := fun l => .str (s.extract l k)) h
theorem alookup_det {kd : Nat} {z m k : AV} {ok : Bool} {H : List AObj} (h : alookup kd z m k ok H φ) : ∃ y, alookup kd z m k ok H (fun w => w = y) ∧ φ y := by
 unfold alookup at *
 split at h <;> (try exact h.elim) <;> first | exact ⟨_, rfl, h⟩ | exact ⟨_, ⟨h.1, rfl⟩, h.2⟩ | (split at h <;> (try exact h.elim) <;> first | exact ⟨_, rfl, h⟩ | exact ⟨_, ⟨h.1, rfl⟩, h.2⟩ | (split at h <;> (try exact h.elim) <;> first | exact ⟨_, rfl, h⟩ | exact ⟨_, ⟨h.1, rfl⟩, h.2⟩))
theorem abslice_det {esz : Nat} {own : Nat} : ∀ {ps : List (Nat × AV)} {zs : List AV}, abslice zs esz ps (fun v => φ (.lst own v)) → ∃ z, abslice zs esz ps (fun v => .lst own v = z) ∧ φ z
 | [], zs, h => ⟨_, rfl, h⟩
 | (i, x) :: r, zs, h => by
   obtain ⟨z, k1, k2⟩ := abslice_det h.2.2.2
   exact ⟨z, ⟨h.1, h.2.1, h.2.2.1, k1⟩, k2⟩
theorem afill_det : ∀ {ps : List (Nat × Nat × AV)} {zs : List AV}, afill zs ps (fun v => φ (.agg v)) → ∃ z, afill zs ps (fun v => .agg v = z) ∧ φ z
 | [], zs, h => ⟨_, rfl, h⟩
 | (off, sz, x) :: r, zs, h => by
   obtain ⟨z, k1, k2⟩ := afill_det h.2.2.2
   exact ⟨z, ⟨h.1, h.2.1, h.2.2.1, k1⟩, k2⟩
end
def scond (v : AV) (A B : Prop) : Prop := boolP v fun q => (q = true → A) ∧ (q = false → B)
@[congr] theorem scond_congr {v v' : AV} {A B : Prop} (h : nrm v = v') : scond v A B = scond v' A B := by subst h; rfl
theorem scond_t (A B : Prop) : scond (.bool true) A B = A := by simp [scond, boolP]
theorem scond_f (A B : Prop) : scond (.bool false) A B = B := by simp [scond, boolP]
theorem scond_n (b : Bool) (A B : Prop) : scond (.bool (!b)) A B = scond (.bool b) B A := by cases b <;> simp [scond, boolP]
theorem scond_d (p : Prop) [Decidable p] (A B : Prop) : scond (.bool (decide p)) A B = ((p → A) ∧ (¬ p → B)) := by simp [scond, boolP]
theorem scond_b {b : Bool} {A B : Prop} (h1 : b = true → A) (h2 : b = false → B) : scond (.bool b) A B := ⟨h1, h2⟩
def sguard (v : AV) (g : Nat) (want : Bool) (env : Env) (yes no : Env → Prop) : Prop :=
 match v with
 | .bool b => (b = want → yes ((g, .bool want) :: env)) ∧ (b = (!want) → no ((g, .bool (!want)) :: env))
 | .tuple [] => no env
 | _ => False
@[congr] theorem sguard_congr {v v' : AV} {g : Nat} {want : Bool} {env : Env} {yes no : Env → Prop} (h : nrm v = v') : sguard v g want env yes no = sguard v' g want env yes no := by subst h; rfl
section
variable (g : Nat) (env : Env) (yes no : Env → Prop)
theorem sg_tt : sguard (.bool true) g true env yes no = yes ((g, .bool true) :: env) := by simp [sguard]
theorem sg_tf : sguard (.bool true) g false env yes no = no ((g, .bool true) :: env) := by simp [sguard]
theorem sg_ft : sguard (.bool false) g true env yes no = no ((g, .bool false) :: env) := by simp [sguard]
theorem sg_ff : sguard (.bool false) g false env yes no = yes ((g, .bool false) :: env) := by simp [sguard]
theorem sg_u (want : Bool) : sguard (.tuple []) g want env yes no = no env := _root_.id rfl
theorem sg_dt (p : Prop) [Decidable p] : sguard (.bool (decide p)) g true env yes no = ((p → yes ((g, .bool true) :: env)) ∧ (¬ p → no ((g, .bool false) :: env))) := by simp [sguard]
theorem sg_df (p : Prop) [Decidable p] : sguard (.bool (decide p)) g false env yes no = ((¬ p → yes ((g, .bool false) :: env)) ∧ (p → no ((g, .bool true) :: env))) := by simp [sguard]
end
def scall (P : Px) (g : FuncId) (xs : List AV) (H : List AObj) (K : AV → List AObj → Prop) : Prop := ∃ args', LeL xs args' ∧ XCalls P g args' H K
@[congr] theorem scall_congr {P : Px} {g : FuncId} {xs xs' : List AV} {H H' : List AObj} {K : AV → List AObj → Prop} (h : nrm xs = xs') (h2 : H = H') : scall P g xs H K = scall P g xs' H' K := by subst h; subst h2; rfl
theorem scall_to {P : Program} {lo : Option Nat} {g : FuncId} {xs : List AV} {H : List AObj} {R K : AV → List AObj → Prop} (hc : ACalls P g xs H R) (hk : ∀ r H', R r H' → K r H') : scall ⟨P, lo⟩ g xs H K := ⟨xs, LeL_refl _, XCalls.of (hc.mono hk)⟩
theorem scall_pure {P : Program} {lo : Option Nat} {g : FuncId} {xs : List AV} {v : AV} {H : List AObj} {K : AV → List AObj → Prop} (hc : Pure P g xs v) (hk : K v H) : scall ⟨P, lo⟩ g xs H K :=
 ⟨xs, LeL_refl _, XCalls.of ((hc H).mono fun r H' ⟨h1, h2⟩ => by rw [h1, h2]; exact hk)⟩
theorem acall_s {P : Px} {env : Env} {H : List AObj} (g : FuncId) (first cap : List AV) (args : List IX) (pass : Option Nat) (K : AV → Env → List AObj → Prop) : acall P (.fn (.func g) first cap) args pass env H K =
 scall P g (first.map AV.unown ++ baseArgs env pass 0 args ++ cap.map AV.unown) H (fun r H' => K r (unslotE env (passSlot args pass)) H') := _root_.id rfl
@[congr] theorem acall_congr {P : Px} {f f' : AV} {args : List IX} {pass : Option Nat} {env : Env} {H : List AObj} {K : AV → Env → List AObj → Prop} (h : nrm f = f') : acall P f args pass env H K = acall P f' args pass env H K := by subst h; rfl
def dcall (P : Px) (st : Bool) (g : FuncId) (xs : List AV) (H : List AObj) (K : AV → Prop) : Prop :=
 ∃ x, (match st with
  | true => ∃ args', LeL xs args' ∧ ACalls P.prog g args' H (fun r H' => r = x ∧ H' = H)
  | false => ∀ H, ∃ args', LeL xs args' ∧ ACalls P.prog g args' H (fun r H' => r = x ∧ H' = H)) ∧ K x
@[congr] theorem dcall_congr {P : Px} {st : Bool} {g : FuncId} {xs xs' : List AV} {H : List AObj} {K : AV → Prop} (h : nrm xs = xs') : dcall P st g xs H K = dcall P st g xs' H K := by subst h; rfl
theorem dcall_pure {P : Program} {lo : Option Nat} {st : Bool} {g : FuncId} {xs : List AV} {v : AV} {H : List AObj} {K : AV → Prop} (hc : Pure P g xs v) (hk : K v) : dcall ⟨P, lo⟩ st g xs H K :=
 ⟨v, (by cases st <;> first | exact ⟨xs, LeL_refl _, hc H⟩ | exact fun H => ⟨xs, LeL_refl _, hc H⟩), hk⟩
def scallD (P : Px) (st : Bool) (f : AV) (xs : List AV) (H : List AObj) (K : AV → Prop) : Prop :=
 match f with
 | .fn (.func g) first cap => dcall P st g (first.map AV.unown ++ xs ++ cap.map AV.unown) H K
 | _ => False
@[congr] theorem scallD_congr {P : Px} {st : Bool} {f f' : AV} {xs xs' : List AV} {H : List AObj} {K : AV → Prop} (h : nrm f = f') (h2 : xs = xs') : scallD P st f xs H K = scallD P st f' xs' H K := by subst h; subst h2; rfl
theorem scallD_fn {P : Px} {st : Bool} (g : FuncId) (first cap xs : List AV) (H : List AObj) (K : AV → Prop) : scallD P st (.fn (.func g) first cap) xs H K = dcall P st g (first.map AV.unown ++ xs ++ cap.map AV.unown) H K := _root_.id rfl
def alenD (x : AV) (H : List AObj) (φ : AV → Prop) : Prop := match x with | .lst _ xs => φ (.int .i64 xs.length) | x => alen x H φ
@[congr] theorem alenD_congr {x x' : AV} {H : List AObj} {φ : AV → Prop} (h : nrm x = x') : alenD x H φ = alenD x' H φ := by subst h; rfl
theorem alenD_det {x : AV} {H : List AObj} {φ : AV → Prop} (h : alenD x H φ) : ∃ z, alen x H (fun w => w = z) ∧ φ z := by
 cases x with
 | lst o xs => exact ⟨_, fun _ => rfl, h⟩
 | map id =>
   simp only [alenD, alen] at h ⊢
   split at h
   ·exact ⟨_, rfl, h⟩
   ·exact h.elim
 | _ => first | exact ⟨_, rfl, h⟩ | exact False.elim h
def aeqNilD (kd : Nat) (neq : Bool) (x : AV) (φ : AV → Prop) : Prop := match isNil kd x with | some b => φ (.bool (if neq then !b else b)) | none => False
@[congr] theorem aeqNilD_congr {kd : Nat} {neq : Bool} {x x' : AV} {φ : AV → Prop} (h : nrm x = x') : aeqNilD kd neq x φ = aeqNilD kd neq x' φ := by subst h; rfl
def dvalC (o : IOp) (ρ : IX → AV) (H : List AObj) (K : AV → Prop) : Prop :=
 match o with
 | .set i false => K (ρ i).unown
 | .pick c a b => scond (ρ c) (K (ρ a).unown) (K (ρ b).unown)
 | .bin op i j => abin op (ρ i) (ρ j) K
 | .shift op i j => ashift op (ρ i) (ρ j) K
 | .eqBool neq i j => aeqBool neq (ρ i) (ρ j) K
 | .eqNil kd neq i => aeqNilD kd neq (ρ i) K
 | .un op i => aun op (ρ i) K
 | .boxi i => (ρ i).val = true ∧ K (.iptr (ρ i))
 | .build z ps => abuild z.cells (ps.map fun q => (q.1, q.2.1, ρ q.2.2)) K
 | .buildSlice own esz z len ps => abslice (List.replicate len (canon z)) esz (ps.map fun q => (q.1, ρ q.2)) fun xs => K (.lst own xs)
 | .load sz i => aload sz (ρ i) H K
 | .nilCheck i => anilCheck (ρ i) K
 | .fieldAddr off sz i => afieldAddr off sz (ρ i) K
 | .field off sz i => afield off sz (ρ i) K
 | .indexAddr esz i j => (∀ own xs, ρ i = .lst own xs → ∀ z ∈ xs, z.cells.length = esz) ∧ aindexAddr esz (ρ i) (ρ j) K
 | .indexStr i j => aindexStr (ρ i) (ρ j) K
 | .indexArr n i j => aindexArr n (ρ i) (ρ j) K
 | .slice esz i lo hi mx => asliceX esz (ρ i) (lo.map ρ) (hi.map ρ) (mx.map ρ) K
 | .sliceStr i lo hi => asliceStr (ρ i) (lo.map ρ) (hi.map ρ) K
 | .len kd i => lenOk kd (ρ i) ∧ alenD (ρ i) H K
 | .lookup kd z m k ok => alookup kd z (ρ m) (ρ k) ok H K
 | .fn f first cap => K (.fn f (first.map fun x => (ρ x).unown) (cap.map fun x => (ρ x).unown))
 | .extract i k => aextract (ρ i) k K
 | .convInt k i => aconvInt k (ρ i) K
 | .mx big i j => amx big (ρ i) (ρ j) K
 | _ => False
theorem dvalC_ex {P : Px} {o : IOp} {ρ : IX → AV} {H : List AObj} {K : AV → Prop} (h : dvalC o ρ H K) : ∃ x, dval P o ρ H x ∧ K x := by
 unfold dvalC at h
 split at h
 ·exact ⟨_, rfl, h⟩
 ·unfold scond boolP at h
  simp only [dval, boolP]
  split at h
  ·rename_i b hb
   cases b with
   | true => exact ⟨_, ⟨fun _ => rfl, fun e => by cases e⟩, h.1 rfl⟩
   | false => exact ⟨_, ⟨fun e => (by cases e), fun _ => rfl⟩, h.2 rfl⟩
  ·exact h.elim
 ·exact abin_det h
 ·exact ashift_det h
 ·exact aeqBool_det h
 ·unfold aeqNilD at h
  split at h
  ·rename_i b hb
   refine ⟨_, ?_, h⟩
   simp only [dval, aeqNil, hb]
  ·exact h.elim
 ·exact aun_det h
 ·exact ⟨_, ⟨h.1, rfl⟩, h.2⟩
 ·exact afill_det h
 ·exact abslice_det h
 ·exact aload_det h
 ·exact anilCheck_det h
 ·exact afieldAddr_det h
 ·exact afield_det h
 ·obtain ⟨z, k1, k2⟩ := aindexAddr_det h.2
  exact ⟨z, ⟨h.1, k1⟩, k2⟩
 ·exact aindexStr_det h
 ·exact aindexArr_det h
 ·exact asliceX_det h
 ·exact asliceStr_det h
 ·obtain ⟨z, k1, k2⟩ := alenD_det h.2
  exact ⟨z, ⟨h.1, k1⟩, k2⟩
 ·exact alookup_det h
 ·exact ⟨_, rfl, h⟩
 ·exact aextract_det h
 ·exact aconvInt_det h
 ·exact amx_det h
 ·exact h.elim
theorem dvalC_any {P : Px} {o : IOp} {ρ : IX → AV} {K : AV → Prop} (h : dvalC o ρ [] K) : ∃ x, (∀ H, dval P o ρ H x) ∧ K x := by
 obtain ⟨x, h1, h2⟩ := dvalC_ex (P := P) h
 have hs : o.stays = true := by
  cases o <;> first | rfl | exact h.elim
 exact ⟨x, fun H => by have := dval_grow (e := H) hs h1; simpa using this, h2⟩
def sdv (P : Px) (st : Bool) (o : IOp) (ρ : IX → AV) (H : List AObj) (K : AV → Prop) : Prop :=
 match o with
 | .call f args none => scallD P st (ρ f) (args.map fun x => (ρ x).unown) H K
 | o => dvalC o ρ (match st with | true => H | false => []) K
theorem sdv_ex {P : Px} {st : Bool} {o : IOp} {ρ : IX → AV} {H : List AObj} {K : AV → Prop} (h : sdv P st o ρ H K) : ∃ x, dv P st o ρ H x ∧ K x := by
 unfold sdv at h
 split at h
 ·rename_i f args
  unfold scallD at h
  split at h
  ·rename_i g first cap e
   obtain ⟨x, h1, h2⟩ := h
   cases st with
   | true => exact ⟨x, by simp only [dv, dval, e]; exact h1, h2⟩
   | false => exact ⟨x, by simp only [dv, dval, e]; exact h1, h2⟩
  ·exact h.elim
 ·cases st with
  | true => exact dvalC_ex h
  | false => exact dvalC_any h
def stake (P : Px) (st : Bool) (o : IOper) (env : Env) (H : List AObj) (K : Env → Prop) : Prop :=
 match o.g with
 | none => sdv P st o.op (aval env) H fun x => K (put o.dst x env)
 | some (g, want) => sguard (get env g) g want env (fun _ => sdv P st o.op (aval env) H fun x => K (put o.dst x env)) (fun _ => K (put o.dst (.tuple []) env))
theorem stake_atake {P : Px} {st : Bool} {o : IOper} {env : Env} {H : List AObj} {K1 K2 : Env → Prop} (h : stake P st o env H K1) (hK : ∀ e, K1 e → K2 e) : atake P st o env H K2 := by
 unfold stake at h
 unfold atake
 split at h
 ·rename_i e
  rw [e]
  obtain ⟨x, h1, h2⟩ := sdv_ex h
  exact ⟨x, h1, hK _ h2⟩
 ·rename_i g want e
  rw [e]
  unfold sguard at h
  unfold aguard
  dsimp only
  split at h
  ·rename_i b hb
   rw [hb]
   refine ⟨fun eb => ?_, fun eb => hK _ (h.2 eb)⟩
   obtain ⟨x, h1, h2⟩ := sdv_ex (h.1 eb)
   exact ⟨x, h1, hK _ h2⟩
  ·rename_i hb
   rw [hb]
   exact hK _ h
  ·exact h.elim
theorem aop_mono {P : Px} {o : IOp} {dst : Option Nat} {env : Env} {H : List AObj} {K1 K2 : Env → List AObj → Prop} (h : aop P o dst env H K1) (hK : ∀ e H', K1 e H' → K2 e H') : aop P o dst env H K2 :=
 aop_frame (fun _ _ => rfl) h fun mods H' _ _ _ hk => hK _ _ hk
theorem agd_mono2 {P : Px} {o : IOper} {env : Env} {H : List AObj} {K1 K2 : Env → List AObj → Prop} (h : agd P o env H K1) (hK : ∀ e H', K1 e H' → K2 e H') : agd P o env H K2 := by
 unfold agd at *
 split at h
 ·exact aop_mono h hK
 ·rename_i g want e
  unfold aguard at *
  split at h
  ·exact ⟨fun eb => aop_mono (h.1 eb) hK, fun eb => hK _ _ (h.2 eb)⟩
  ·exact hK _ _ h
  ·exact h.elim
theorem aops_mono {P : Px} : ∀ {ops : List IOper} {env : Env} {H : List AObj} {K1 K2 : Env → List AObj → Prop}, aops P ops env H K1 → (∀ e H', K1 e H' → K2 e H') → aops P ops env H K2
 | [], _, _, _, _, h, hK => hK _ _ h
 | o :: r, _, _, _, _, h, hK => agd_mono2 h fun _ _ h => aops_mono h hK
def adtS (P : Px) : DT → Env → List AObj → (Env → List AObj → Prop) → Prop
 | .done, env, H, K => K env H
 | .take st o r, env, H, K => stake P st o env H fun env => adtS P r env H K
 | .br o t rest, env, H, K => agd P o env H (fun env H => adtS P t env H K) ∧ adtS P rest env H K
 | .nil, _, _, _ => True
theorem adtS_adt {P : Px} : ∀ {t : DT} {env : Env} {H : List AObj} {K1 K2 : Env → List AObj → Prop}, adtS P t env H K1 → (∀ e H', K1 e H' → K2 e H') → adt P t env H K2
 | .done, _, _, _, _, h, hK => hK _ _ h
 | .take st o r, _, _, _, _, h, hK => stake_atake h fun _ h => adtS_adt h hK
 | .br o t rest, _, _, _, _, h, hK => ⟨agd_mono2 h.1 fun _ _ h => adtS_adt h hK, adtS_adt h.2 hK⟩
 | .nil, _, _, _, _, h, hK => trivial
def srange (P : Px) (f : AV) (lc : LCode) (env : Env) (H : List AObj) (K : Option Code → List AObj → Prop) : Prop :=
 match f with
 | .fn (.func g) first cap => (∀ (as : Array Value) (w : World), (callFunc g as).run P.prog w = .ok (.enter g as) w) ∧
    ∃ args', LeL (first.map AV.unown ++ [.yld H.length] ++ cap.map AV.unown) args' ∧ XCalls P g args' (H ++ [.loop .ready lc (envL lc.n env)]) fun _ H' => behind H.length H' K
 | _ => False
theorem goOn_mono {j : Option Code} {Q1 Q2 : Exit → Env → List AObj → Prop} {env : Env} {H : List AObj} (h : goOn j Q1 env H) (hQ : ∀ x e H', Q1 x e H' → Q2 x e H') : goOn j Q2 env H := by
 unfold goOn at *
 split at h <;> first | exact hQ _ _ _ h | exact h.elim
theorem behind_mono {id : Nat} {H : List AObj} {K1 K2 : Option Code → List AObj → Prop} (h : behind id H K1) (hK : ∀ j H', K1 j H' → K2 j H') : behind id H K2 := by
 unfold behind at *
 split at h <;> first | exact hK _ _ h | exact h.elim
def swp (P : Px) (n0 : Nat) : IR → Env → List AObj → (Exit → Env → List AObj → Prop) → Prop
 | .skip, env, H, Q => Q .normal env H
 | .region ops live, env, H, Q => aops P ops env H fun env' H' => Q .normal (prune live env') H'
 | .draw t live, env, H, Q => adtS P t env H fun env' H' => Q .normal (prune live env') H'
 | .seq a b, env, H, Q => swp P n0 a env H fun e env' H' => match e with
   | .normal => swp P n0 b env' H' Q
   | e => Q e env' H'
 | .cond x a b, env, H, Q => scond (aval env x) (swp P n0 a env H Q) (swp P n0 b env H Q)
 | .block id a, env, H, Q => swp P n0 a env H fun e env' H' => match e with
   | .exit id' => if id' = id then Q .normal env' H' else Q (.exit id') env' H'
   | e => Q e env' H'
 | .loop a, env, H, Q => ∃ (ι : Type) (I : ι → Prop) (se : ι → Env) (sh : ι → List AObj) (μ : ι → Nat), (∃ i, I i ∧ sleX P.lo n0 env H (se i) (sh i)) ∧
    ∀ i, I i → swp P n0 a (se i) (sh i) fun e env' H' => match e with
     | .normal => ∃ j, I j ∧ μ j < μ i ∧ sleX P.lo n0 env' H' (se j) (sh j)
     | e => Q e env' H'
 | .exit id, env, H, Q => Q (.exit id) env H
 | .ret, env, H, Q => Q .ret env H
 | .never, env, H, Q => False
 | .rangeF f lc, env, H, Q => srange P (aval env f) lc env H fun j H'' => goOn j Q env H''
theorem swp_awp {P : Px} {n0 : Nat} : ∀ {ir : IR} {env : Env} {H : List AObj} {Q1 Q2 : Exit → Env → List AObj → Prop}, swp P n0 ir env H Q1 → (∀ x e H', Q1 x e H' → Q2 x e H') → awp P n0 ir env H Q2 := by
 intro ir
 induction ir with
 | skip => exact fun h hQ => hQ _ _ _ h
 | region ops live => exact fun h hQ => aops_mono h fun _ _ h => hQ _ _ _ h
 | draw t live => exact fun h hQ => adtS_adt h fun _ _ h => hQ _ _ _ h
 | seq a b iha ihb =>
   exact fun h hQ => iha h fun x e H' h => by
    cases x with
    | normal => exact ihb h hQ
    | _ => exact hQ _ _ _ h
 | cond x a b iha ihb =>
   intro env H Q1 Q2 h hQ
   unfold swp scond boolP at h
   unfold awp boolP
   split at h
   ·exact ⟨fun e => iha (h.1 e) hQ, fun e => ihb (h.2 e) hQ⟩
   ·exact h.elim
 | block id a iha =>
   exact fun h hQ => iha h fun x e H' h => by
    cases x with
    | exit id' =>
      dsimp only at h ⊢
      split
      ·rename_i hid; rw [if_pos hid] at h; exact hQ _ _ _ h
      ·rename_i hid; rw [if_neg hid] at h; exact hQ _ _ _ h
    | _ => exact hQ _ _ _ h
 | loop a iha =>
   intro env H Q1 Q2 h hQ
   obtain ⟨ι, I, se, sh, μ, h0, hs⟩ := h
   exact ⟨ι, I, se, sh, μ, h0, fun i hi => iha (hs i hi) fun x e H' h => by
    cases x with
    | normal => exact h
    | _ => exact hQ _ _ _ h⟩
 | exit id => exact fun h hQ => hQ _ _ _ h
 | ret => exact fun h hQ => hQ _ _ _ h
 | never => exact fun h _ => h.elim
 | rangeF f lc =>
   intro env H Q1 Q2 h hQ
   unfold swp srange at h
   unfold awp
   split at h
   ·rename_i g first cap e
    obtain ⟨h1, args', h2, h3⟩ := h
    rw [e]
    exact ⟨h1, args', h2, h3.mono fun _ H' hb => behind_mono hb fun j H'' hg => goOn_mono hg hQ⟩
   ·exact h.elim
theorem FunOk.calls {P : Program} {f : FuncId} {fi : FunI} (h : FunOk P f fi) {args : List AV} {H : List AObj} {R : AV → List AObj → Prop} (hn : Nat.ble args.length fi.n = true)
 (hw : swp P H.length fi.ir (argEnv 0 args) H fun e env H' => (e = .normal ∨ e = .ret) ∧ aret H.length fi.rs env H' R) : ACalls P f args H R :=
 h.acalls (Nat.le_of_ble_eq_true hn) (swp_awp hw fun _ _ _ h => h)
theorem FunOk.callsS {P : Program} {f : FuncId} {fi : FunI} (h : FunOk P f fi) {args : List AV} {H : List AObj} {R : AV → List AObj → Prop} (hn : Nat.ble args.length fi.n = true)
 (hw : swp ⟨P, some H.length⟩ H.length fi.ir (argEnv 0 args) H fun e env H' => (e = .normal ∨ e = .ret) ∧ aretC (sealS H.length) H.length fi.rs env H' R) : ACalls P f args H R :=
 h.acallsS (Nat.le_of_ble_eq_true hn) (swp_awp hw fun _ _ _ h => h)
section
variable {P : Px} {n0 : Nat} {env : Env} {H : List AObj} {Q : Exit → Env → List AObj → Prop}
theorem swp_skip : swp P n0 .skip env H Q = Q .normal env H := _root_.id rfl
theorem swp_region (ops : List IOper) (live : Option (List Nat)) : swp P n0 (.region ops live) env H Q = aops P ops env H fun env' H' => Q .normal (prune live env') H' := _root_.id rfl
theorem swp_draw (t : DT) (live : Option (List Nat)) : swp P n0 (.draw t live) env H Q = adtS P t env H fun env' H' => Q .normal (prune live env') H' := _root_.id rfl
theorem swp_seq (a b : IR) : swp P n0 (.seq a b) env H Q = swp P n0 a env H fun e env' H' => match e with
 | .normal => swp P n0 b env' H' Q
 | e => Q e env' H' := _root_.id rfl
theorem swp_cond (x : IX) (a b : IR) : swp P n0 (.cond x a b) env H Q = scond (aval env x) (swp P n0 a env H Q) (swp P n0 b env H Q) := _root_.id rfl
theorem swp_block (id : Nat) (a : IR) : swp P n0 (.block id a) env H Q = swp P n0 a env H fun e env' H' => match e with
 | .exit id' => if id' = id then Q .normal env' H' else Q (.exit id') env' H'
 | e => Q e env' H' := _root_.id rfl
theorem swp_range (f : IX) (lc : LCode) : swp P n0 (.rangeF f lc) env H Q = srange P (aval env f) lc env H fun j H'' => goOn j Q env H'' := _root_.id rfl
theorem swp_exit (id : Nat) : swp P n0 (.exit id) env H Q = Q (.exit id) env H := _root_.id rfl
theorem swp_ret : swp P n0 .ret env H Q = Q .ret env H := _root_.id rfl
@[congr] theorem swp_congr {ir : IR} {env' : Env} {H' : List AObj} (h : nrm env = env') (h2 : H = H') : swp P n0 ir env H Q = swp P n0 ir env' H' Q := by subst h; subst h2; rfl
@[congr] theorem aops_congr {ops : List IOper} {env' : Env} {H' : List AObj} {K : Env → List AObj → Prop} (h : nrm env = env') (h2 : H = H') : aops P ops env H K = aops P ops env' H' K := by subst h; subst h2; rfl
@[congr] theorem adtS_congr {t : DT} {env' : Env} {H' : List AObj} {K : Env → List AObj → Prop} (h : nrm env = env') (h2 : H = H') : adtS P t env H K = adtS P t env' H' K := by subst h; subst h2; rfl
theorem aops_nil (K : Env → List AObj → Prop) : aops P [] env H K = K env H := _root_.id rfl
theorem aops_n (d : Option Nat) (op : IOp) (r : List IOper) (K : Env → List AObj → Prop) : aops P (⟨none, d, op⟩ :: r) env H K = aop P op d env H fun env H => aops P r env H K := _root_.id rfl
theorem aops_g (g : Nat) (w : Bool) (d : Option Nat) (op : IOp) (r : List IOper) (K : Env → List AObj → Prop) : aops P (⟨some (g, w), d, op⟩ :: r) env H K =
 sguard (get env g) g w env (fun env => aop P op d env H fun env H => aops P r env H K) (fun env => aops P r (put d (.tuple []) env) H K) := _root_.id rfl
theorem agd_n (d : Option Nat) (op : IOp) (K : Env → List AObj → Prop) : agd P ⟨none, d, op⟩ env H K = aop P op d env H K := _root_.id rfl
theorem agd_g (g : Nat) (w : Bool) (d : Option Nat) (op : IOp) (K : Env → List AObj → Prop) : agd P ⟨some (g, w), d, op⟩ env H K =
 sguard (get env g) g w env (fun env => aop P op d env H K) (fun env => K (put d (.tuple []) env) H) := _root_.id rfl
@[congr] theorem agd_congr {o : IOper} {K : Env → List AObj → Prop} {H' : List AObj} (h : nrm H = H') : agd P o env H K = agd P o env H' K := by subst h; rfl
@[congr] theorem aop_congr {o : IOp} {d : Option Nat} {K : Env → List AObj → Prop} {H' : List AObj} (h : nrm H = H') : aop P o d env H K = aop P o d env H' K := by subst h; rfl
theorem adtS_done (K : Env → List AObj → Prop) : adtS P .done env H K = K env H := _root_.id rfl
theorem adtS_nil (K : Env → List AObj → Prop) : adtS P .nil env H K = True := _root_.id rfl
theorem adtS_n (st : Bool) (d : Option Nat) (op : IOp) (r : DT) (K : Env → List AObj → Prop) : adtS P (.take st ⟨none, d, op⟩ r) env H K = sdv P st op (aval env) H fun x => adtS P r (put d x env) H K := _root_.id rfl
theorem adtS_g (st : Bool) (g : Nat) (w : Bool) (d : Option Nat) (op : IOp) (r : DT) (K : Env → List AObj → Prop) : adtS P (.take st ⟨some (g, w), d, op⟩ r) env H K =
 sguard (get env g) g w env (fun _ => sdv P st op (aval env) H fun x => adtS P r (put d x env) H K) (fun _ => adtS P r (put d (.tuple []) env) H K) := _root_.id rfl
theorem adtS_br (o : IOper) (t rest : DT) (K : Env → List AObj → Prop) : adtS P (.br o t rest) env H K = (agd P o env H (fun env H => adtS P t env H K) ∧ adtS P rest env H K) := _root_.id rfl
@[congr] theorem sdv_congr {st : Bool} {o : IOp} {ρ : IX → AV} {K : AV → Prop} {H' : List AObj} (h : nrm H = H') : sdv P st o ρ H K = sdv P st o ρ H' K := by subst h; rfl
theorem swp_loop {P : Program} {a : IR} (ι : Type) (I : ι → Prop) (se : ι → Env) (sh : ι → List AObj) (μ : ι → Nat) (i0 : ι) (h0 : I i0) (hs0 : sle n0 env H (se i0) (sh i0))
 (hs : ∀ i, I i → swp P n0 a (se i) (sh i) fun e env' H' => match e with
   | .normal => ∃ j, I j ∧ μ j < μ i ∧ sle n0 env' H' (se j) (sh j)
   | e => Q e env' H') : swp P n0 (.loop a) env H Q := ⟨ι, I, se, sh, μ, ⟨i0, h0, hs0⟩, hs⟩
theorem swp_loop_nat {P : Program} {a : IR} (N : Nat) (I : Nat → Prop) (se : Nat → Env) (sh : Nat → List AObj) (h0 : I 0 ∧ sle n0 env H (se 0) (sh 0))
 (hs : ∀ i, i ≤ N → I i → swp P n0 a (se i) (sh i) fun e env' H' => match e with
   | .normal => ∃ j, (j ≤ N ∧ I j) ∧ N - j < N - i ∧ sle n0 env' H' (se j) (sh j)
   | e => Q e env' H') : swp P n0 (.loop a) env H Q :=
 ⟨Nat, fun i => i ≤ N ∧ I i, se, sh, fun i => N - i, ⟨0, ⟨Nat.zero_le _, h0.1⟩, h0.2⟩, fun i hi => hs i hi.1 hi.2⟩
end
section
variable {φ : AV → Prop}
@[congr] theorem boolP_congr {v v' : AV} {ψ : Bool → Prop} (h : nrm v = v') : boolP v ψ = boolP v' ψ := by subst h; rfl
@[congr] theorem abin_congr {op : BinOp} {x x' y y' : AV} (h : nrm x = x') (h2 : y = y') : abin op x y φ = abin op x' y' φ := by subst h; subst h2; rfl
@[congr] theorem ashift_congr {op : BinOp} {x x' y y' : AV} (h : nrm x = x') (h2 : y = y') : ashift op x y φ = ashift op x' y' φ := by subst h; subst h2; rfl
@[congr] theorem aeqBool_congr {n : Bool} {x x' y y' : AV} (h : nrm x = x') (h2 : y = y') : aeqBool n x y φ = aeqBool n x' y' φ := by subst h; subst h2; rfl
@[congr] theorem aeqNil_congr {k : Nat} {n : Bool} {x x' : AV} (h : nrm x = x') : aeqNil k n x φ = aeqNil k n x' φ := by subst h; rfl
@[congr] theorem aun_congr {op : UnOp} {x x' : AV} (h : nrm x = x') : aun op x φ = aun op x' φ := by subst h; rfl
@[congr] theorem aload_congr {sz : Option Nat} {x x' : AV} {H H' : List AObj} (h : nrm x = x') (h2 : H = H') : aload sz x H φ = aload sz x' H' φ := by subst h; subst h2; rfl
@[congr] theorem afieldAddr_congr {off : Nat} {sz : Option Nat} {x x' : AV} (h : nrm x = x') : afieldAddr off sz x φ = afieldAddr off sz x' φ := by subst h; rfl
@[congr] theorem afield_congr {off : Nat} {sz : Option Nat} {x x' : AV} (h : nrm x = x') : afield off sz x φ = afield off sz x' φ := by subst h; rfl
@[congr] theorem aindexAddr_congr {e : Nat} {x x' y y' : AV} (h : nrm x = x') (h2 : y = y') : aindexAddr e x y φ = aindexAddr e x' y' φ := by subst h; subst h2; rfl
@[congr] theorem aindexArr_congr {n : Nat} {x x' y y' : AV} (h : nrm x = x') (h2 : y = y') : aindexArr n x y φ = aindexArr n x' y' φ := by subst h; subst h2; rfl
@[congr] theorem aindexStr_congr {x x' y y' : AV} (h : nrm x = x') (h2 : y = y') : aindexStr x y φ = aindexStr x' y' φ := by subst h; subst h2; rfl
@[congr] theorem alen_congr {x x' : AV} {H H' : List AObj} (h : nrm x = x') (h2 : H = H') : alen x H φ = alen x' H' φ := by subst h; subst h2; rfl
@[congr] theorem aextract_congr {x x' : AV} {i : Nat} (h : nrm x = x') : aextract x i φ = aextract x' i φ := by subst h; rfl
@[congr] theorem anilCheck_congr {x x' : AV} (h : nrm x = x') : anilCheck x φ = anilCheck x' φ := by subst h; rfl
@[congr] theorem aconvInt_congr {k : IntKind} {x x' : AV} (h : nrm x = x') : aconvInt k x φ = aconvInt k x' φ := by subst h; rfl
@[congr] theorem amx_congr {b : Bool} {x x' y y' : AV} (h : nrm x = x') (h2 : y = y') : amx b x y φ = amx b x' y' φ := by subst h; subst h2; rfl
@[congr] theorem alookup_congr {kd : Nat} {z m m' k k' : AV} {ok : Bool} {H H' : List AObj} (h : nrm m = m') (h2 : k = k') (h3 : H = H') : alookup kd z m k ok H φ = alookup kd z m' k' ok H' φ := by subst h; subst h2; subst h3; rfl
@[congr] theorem amapset_congr {kd : Nat} {m m' k k' x x' : AV} {H H' : List AObj} {K : List AObj → Prop} (h : nrm m = m') (h2 : k = k') (h3 : x = x') (h4 : H = H') : amapset kd m k x H K = amapset kd m' k' x' H' K := by subst h; subst h2; subst h3; subst h4; rfl
@[congr] theorem astore_congr {m : Nat} {p p' x x' : AV} {H H' : List AObj} {K : List AObj → Prop} (h : nrm p = p') (h2 : x = x') (h3 : H = H') : astore m p x H K = astore m p' x' H' K := by subst h; subst h2; subst h3; rfl
@[congr] theorem aputCell_congr {p p' x x' : AV} {H H' : List AObj} {K : List AObj → Prop} (h : nrm p = p') (h2 : x = x') (h3 : H = H') : aputCell p x H K = aputCell p' x' H' K := by subst h; subst h2; subst h3; rfl
@[congr] theorem aappend_congr {e b : Nat} {s s' x x' : AV} {ψ : List AV → Prop} (h : nrm s = s') (h2 : x = x') : aappend e b s x ψ = aappend e b s' x' ψ := by subst h; subst h2; rfl
@[congr] theorem amkarr_congr {e b : Nat} {z n n' : AV} {H H' : List AObj} {K : AV → List AObj → Prop} (h : nrm n = n') (h2 : H = H') : amkarr e b z n H K = amkarr e b z n' H' K := by subst h; subst h2; rfl
@[congr] theorem aappendA_congr {e b : Nat} {z s s' x x' : AV} {H H' : List AObj} {K : AV → List AObj → Prop} (h : nrm s = s') (h2 : x = x') (h3 : H = H') : aappendA e b z s x H K = aappendA e b z s' x' H' K := by subst h; subst h2; subst h3; rfl
@[congr] theorem aclearA_congr {e : Nat} {z x x' : AV} {H H' : List AObj} {K : List AObj → Prop} (h : nrm x = x') (h2 : H = H') : aclearA e z x H K = aclearA e z x' H' K := by subst h; subst h2; rfl
@[congr] theorem alitA_congr {xs xs' : List AV} {H H' : List AObj} {K : AV → List AObj → Prop} (h : nrm xs = xs') (h2 : H = H') : alitA xs H K = alitA xs' H' K := by subst h; subst h2; rfl
@[congr] theorem amkbuf_congr {e b : Nat} {n n' : AV} (h : nrm n = n') : amkbuf e b n φ = amkbuf e b n' φ := by subst h; rfl
@[congr] theorem acopy_congr {e : Nat} {d d' s s' : AV} {H H' : List AObj} {K : AV → List AObj → Prop} (h : nrm d = d') (h2 : s = s') (h3 : H = H') : acopy e d s H K = acopy e d' s' H' K := by subst h; subst h2; subst h3; rfl
@[congr] theorem asetf_congr {e : Nat} {x x' : AV} {H H' : List AObj} {K : AV → List AObj → Prop} (h : nrm x = x') (h2 : H = H') : asetf e x H K = asetf e x' H' K := by subst h; subst h2; rfl
@[congr] theorem asliceX_congr {e : Nat} {x x' : AV} {lo lo' hi hi' m m' : Option AV} (h : nrm x = x') (h1 : lo = lo') (h2 : hi = hi') (h3 : m = m') : asliceX e x lo hi m φ = asliceX e x' lo' hi' m' φ := by subst h; subst h1; subst h2; subst h3; rfl
@[congr] theorem asliceStr_congr {x x' : AV} {lo lo' hi hi' : Option AV} (h : nrm x = x') (h1 : lo = lo') (h2 : hi = hi') : asliceStr x lo hi φ = asliceStr x lo' hi' φ := by subst h; subst h1; subst h2; rfl
@[congr] theorem aret_congr {n0 : Nat} {rs : List RX} {env env' : Env} {H H' : List AObj} {R : AV → List AObj → Prop} (h : nrm env = env') (h2 : H = H') : aret n0 rs env H R = aret n0 rs env' H' R := by subst h; subst h2; rfl
end
end Go.Abs
end
section
namespace Go.Abs
open Go
section
variable {P : Px} {env : Env} {H : List AObj} {dst : Option Nat} {K : Env → List AObj → Prop}
theorem op_bin (op : BinOp) (x : IX) (y : IX) : aop P (.bin op x y) dst env H K = (abin op (aval env x) (aval env y) fun z => K (put dst z env) H) := _root_.id rfl
theorem op_shift (op : BinOp) (x : IX) (y : IX) : aop P (.shift op x y) dst env H K = (ashift op (aval env x) (aval env y) fun z => K (put dst z env) H) := _root_.id rfl
theorem op_eqBool (neq : Bool) (x : IX) (y : IX) : aop P (.eqBool neq x y) dst env H K = (aeqBool neq (aval env x) (aval env y) fun z => K (put dst z env) H) := _root_.id rfl
theorem op_eqNil (kd : Nat) (neq : Bool) (x : IX) : aop P (.eqNil kd neq x) dst env H K = (aeqNil kd neq (aval env x) fun z => K (put dst z env) H) := _root_.id rfl
theorem op_un (op : UnOp) (x : IX) : aop P (.un op x) dst env H K = (aun op (aval env x) fun z => K (put dst z env) H) := _root_.id rfl
theorem op_box (x : IX) : aop P (.box x) dst env H K = ((aval env x).val = true ∧ belowL (H.length + 1) ((aval env x).cells.map AV.unown) = true ∧ K (put dst (.ptr H.length 0) env) (H ++ [.cells ((aval env x).cells.map AV.unown)])) := _root_.id rfl
theorem op_boxi (x : IX) : aop P (.boxi x) dst env H K = ((aval env x).val = true ∧ K (put dst (.iptr (aval env x)) env) H) := _root_.id rfl
theorem op_boxs (m : Nat) (x : IX) : aop P (.boxs m x) dst env H K = ((aval env x).val = true ∧ (aval env x).cells.length = m ∧ (aval env x).cells.all AV.one = true ∧ K (put dst (.iptr (aval env x)) env) H) := _root_.id rfl
theorem op_alloc (z : AV) : aop P (.alloc z) dst env H K = (belowL (H.length + 1) (z.cells.map AV.unown) = true ∧ K (put dst (.ptr H.length 0) env) (H ++ [.cells (z.cells.map AV.unown)])) := _root_.id rfl
theorem op_build (z : AV) (ps : List (Nat × Nat × IX)) : aop P (.build z ps) dst env H K = (abuild z.cells (ps.map fun q => (q.1, q.2.1, aval env q.2.2)) fun v => K (put dst v env) H) := _root_.id rfl
theorem op_buildSlice (own : Nat) (esz : Nat) (z : AV) (len : Nat) (ps : List (Nat × IX)) : aop P (.buildSlice own esz z len ps) dst env H K = (abslice (List.replicate len (canon z)) esz (ps.map fun q => (q.1, aval env q.2)) fun xs => K (put dst (.lst own xs) env) H) := _root_.id rfl
theorem op_load (sz : Option Nat) (a : IX) : aop P (.load sz a) dst env H K = (aload sz (aval env a) H fun z => K (put dst z env) H) := _root_.id rfl
theorem op_loadf (sz : Option Nat) (esz : Nat) (a : IX) : aop P (.loadf sz esz a) dst env H K = (aload sz (aval env a) H fun z => asetf esz z H fun y H' => K (put dst y env) H') := _root_.id rfl
theorem op_store (m : Nat) (a : IX) (x : IX) : aop P (.store m a x) dst env H K = (astore m (aval env a) (aval env x) H fun H' => K env H') := _root_.id rfl
theorem op_storeW {P : Program} {l : Nat} (m : Nat) (a : IX) (x : IX) : aop ⟨P, some l⟩ (.storeW m a x) dst env H K = (astoreW l m (aval env a) (aval env x) H fun H' => K env H') := _root_.id rfl
theorem op_putCell (a : IX) (s : Nat) : aop P (.putCell a s) dst env H K = (aputCell (aval env a) (get env s) H fun H' => K ((s, (get env s).unown) :: env) H') := _root_.id rfl
theorem op_nilCheck (x : IX) : aop P (.nilCheck x) dst env H K = (anilCheck (aval env x) fun z => K (put dst z env) H) := _root_.id rfl
theorem op_fieldAddr (off : Nat) (sz : Option Nat) (x : IX) : aop P (.fieldAddr off sz x) dst env H K = (afieldAddr off sz (aval env x) fun z => K (put dst z env) H) := _root_.id rfl
theorem op_field (off : Nat) (sz : Option Nat) (x : IX) : aop P (.field off sz x) dst env H K = (afield off sz (aval env x) fun z => K (put dst z env) H) := _root_.id rfl
theorem op_indexAddr (esz : Nat) (x : IX) (i : IX) : aop P (.indexAddr esz x i) dst env H K = ((∀ own xs, aval env x = .lst own xs → ∀ z ∈ xs, z.cells.length = esz) ∧ aindexAddr esz (aval env x) (aval env i) fun z => K (put dst z env) H) := _root_.id rfl
theorem op_indexArr (n : Nat) (x : IX) (i : IX) : aop P (.indexArr n x i) dst env H K = (aindexArr n (aval env x) (aval env i) fun z => K (put dst z env) H) := _root_.id rfl
theorem op_sliceZ (esz : Nat) (x : IX) (lo : Option IX) (hi : Option IX) (mx : Option IX) : aop P (.sliceZ esz x lo hi mx) dst env H K = ((∀ own xs, aval env x = .lst own xs → ∀ z ∈ xs, z.cells.length = esz) ∧ aslice esz (aval env x) (optX env lo) (optX env hi) (optX env mx) fun z => z = .lst esz [] ∧ K (put dst .emp env) H) := _root_.id rfl
theorem op_indexStr (x : IX) (i : IX) : aop P (.indexStr x i) dst env H K = (aindexStr (aval env x) (aval env i) fun z => K (put dst z env) H) := _root_.id rfl
theorem op_slice (esz : Nat) (x : IX) (lo : Option IX) (hi : Option IX) (mx : Option IX) : aop P (.slice esz x lo hi mx) dst env H K = (asliceX esz (aval env x) (optX env lo) (optX env hi) (optX env mx) fun z => K (put dst z env) H) := _root_.id rfl
theorem op_copy (esz : Nat) (d : IX) (s : IX) : aop P (.copy esz d s) dst env H K = (acopy esz (aval env d) (aval env s) H fun z H' => K (put dst z env) H') := _root_.id rfl
theorem op_sliceStr (x : IX) (lo : Option IX) (hi : Option IX) : aop P (.sliceStr x lo hi) dst env H K = (asliceStr (aval env x) (optX env lo) (optX env hi) fun z => K (put dst z env) H) := _root_.id rfl
theorem op_len (kd : Nat) (x : IX) : aop P (.len kd x) dst env H K = (lenOk kd (aval env x) ∧ alen (aval env x) H fun z => K (put dst z env) H) := _root_.id rfl
theorem op_append (esz : Nat) (bytes : Nat) (s : IX) (x : IX) : aop P (.append esz bytes s x) dst env H K = (aappend esz bytes (aval env s) (aval env x) fun zs => K (put dst (.lst esz zs) (unslotE env s.slot)) H) := _root_.id rfl
theorem op_mkarr (esz : Nat) (bytes : Nat) (z : AV) (n : IX) : aop P (.mkarr esz bytes z n) dst env H K = (amkarr esz bytes z (aval env n) H fun v H' => K (put dst v env) H') := _root_.id rfl
theorem op_litA (esz : Nat) (z : AV) (len : Nat) (ps : List (Nat × IX)) : aop P (.litA esz z len ps) dst env H K = (abslice (List.replicate len (canon z)) esz (ps.map fun q => (q.1, aval env q.2)) fun xs => alitA xs H fun v H' => K (put dst v env) H') := _root_.id rfl
theorem op_clearA (esz : Nat) (z : AV) (x : IX) : aop P (.clearA esz z x) dst env H K = (aclearA esz z (aval env x) H fun H' => K (put dst (.tuple []) env) H') := _root_.id rfl
theorem op_appendA (esz bytes : Nat) (z : AV) (s x : IX) : aop P (.appendA esz bytes z s x) dst env H K = (aappendA esz bytes z (aval env s) (aval env x) H fun v H' => K (put dst v env) H') := _root_.id rfl
theorem op_mkbuf (esz : Nat) (bytes : Nat) (n : IX) : aop P (.mkbuf esz bytes n) dst env H K = (amkbuf esz bytes (aval env n) fun v => K (put dst v env) H) := _root_.id rfl
theorem op_mkmap  : aop P (.mkmap ) dst env H K = (K (put dst (.map H.length) env) (H ++ [.map []])) := _root_.id rfl
theorem op_lookup (kd : Nat) (z : AV) (m : IX) (k : IX) (ok : Bool) : aop P (.lookup kd z m k ok) dst env H K = (alookup kd z (aval env m) (aval env k) ok H fun v => K (put dst v env) H) := _root_.id rfl
theorem op_mapset (kd : Nat) (m : IX) (k : IX) (x : IX) : aop P (.mapset kd m k x) dst env H K = (amapset kd (aval env m) (aval env k) (aval env x) H fun H' => K env H') := _root_.id rfl
theorem op_fn (f : Fn) (first : List IX) (cap : List IX) : aop P (.fn f first cap) dst env H K = (K (put dst (.fn f (first.map fun x => (aval env x).unown) (cap.map fun x => (aval env x).unown)) env) H) := _root_.id rfl
theorem op_extract (x : IX) (i : Nat) : aop P (.extract x i) dst env H K = (aextract (aval env x) i fun z => K (put dst z env) H) := _root_.id rfl
theorem op_convInt (k : IntKind) (x : IX) : aop P (.convInt k x) dst env H K = (aconvInt k (aval env x) fun z => K (put dst z env) H) := _root_.id rfl
theorem op_convStr (x : IX) : aop P (.convStr x) dst env H K = (aconvStr (aval env x) fun z => K (put dst z env) H) := _root_.id rfl
theorem op_bytesOf (x : IX) : aop P (.bytesOf x) dst env H K = (abytesOf 1 (aval env x) fun z => K (put dst z env) H) := _root_.id rfl
theorem op_strOf (x : IX) : aop P (.strOf x) dst env H K = (astrOf (aval env x) fun z => K (put dst z env) H) := _root_.id rfl
theorem op_mx (big : Bool) (a : IX) (b : IX) : aop P (.mx big a b) dst env H K = (amx big (aval env a) (aval env b) fun z => K (put dst z env) H) := _root_.id rfl
theorem op_setf (esz : Nat) (x : IX) : aop P (.setf esz x) dst env H K = (asetf esz (aval env x) H fun z H' => K (put dst z env) H') := _root_.id rfl
theorem op_set_n (x : IX) (take : Bool) : aop P (.set x take) none env H K = K env H := _root_.id rfl
theorem op_set (d : Nat) (x : IX) : aop P (.set x false) (some d) env H K = K ((d, (aval env x).unown) :: env) H := by cases x <;> rfl
theorem op_take (d s : Nat) : aop P (.set (.t s) true) (some d) env H K = K ((d, get env s) :: (s, (get env s).unown) :: env) H := _root_.id rfl
theorem op_takec (d : Nat) (v : AV) : aop P (.set (.c v) true) (some d) env H K = K ((d, v.unown) :: env) H := _root_.id rfl
theorem op_pick (c a b : IX) : aop P (.pick c a b) dst env H K = scond (aval env c) (K (put dst (aval env a).unown env) H) (K (put dst (aval env b).unown env) H) := _root_.id rfl
theorem op_call (f : IX) (args : List IX) (pass : Option Nat) : aop P (.call f args pass) dst env H K = acall P (aval env f) args pass env H (fun r env' H' => K (put dst r env') H') := _root_.id rfl
end
section
variable {P : Px} {st : Bool} {ρ : IX → AV} {H : List AObj} {K : AV → Prop}
theorem dv_set (i : IX) : sdv P st (.set i false) ρ H K = K (ρ i).unown := by cases st <;> rfl
theorem dv_pick (c : IX) (a : IX) (b : IX) : sdv P st (.pick c a b) ρ H K = (scond (ρ c) (K (ρ a).unown) (K (ρ b).unown)) := _root_.id rfl
theorem dv_bin (op : BinOp) (i : IX) (j : IX) : sdv P st (.bin op i j) ρ H K = (abin op (ρ i) (ρ j) K) := _root_.id rfl
theorem dv_shift (op : BinOp) (i : IX) (j : IX) : sdv P st (.shift op i j) ρ H K = (ashift op (ρ i) (ρ j) K) := _root_.id rfl
theorem dv_eqBool (neq : Bool) (i : IX) (j : IX) : sdv P st (.eqBool neq i j) ρ H K = (aeqBool neq (ρ i) (ρ j) K) := _root_.id rfl
theorem dv_eqNil (kd : Nat) (neq : Bool) (i : IX) : sdv P st (.eqNil kd neq i) ρ H K = (aeqNilD kd neq (ρ i) K) := _root_.id rfl
theorem dv_un (op : UnOp) (i : IX) : sdv P st (.un op i) ρ H K = (aun op (ρ i) K) := _root_.id rfl
theorem dv_boxi (i : IX) : sdv P st (.boxi i) ρ H K = ((ρ i).val = true ∧ K (.iptr (ρ i))) := _root_.id rfl
theorem dv_build (z : AV) (ps : List (Nat × Nat × IX)) : sdv P st (.build z ps) ρ H K = (abuild z.cells (ps.map fun q => (q.1, q.2.1, ρ q.2.2)) K) := _root_.id rfl
theorem dv_buildSlice (own : Nat) (esz : Nat) (z : AV) (len : Nat) (ps : List (Nat × IX)) : sdv P st (.buildSlice own esz z len ps) ρ H K = (abslice (List.replicate len (canon z)) esz (ps.map fun q => (q.1, ρ q.2)) fun xs => K (.lst own xs)) := _root_.id rfl
theorem dv_load_true (sz : Option Nat) (i : IX) : sdv P true (.load sz i) ρ H K = (aload sz (ρ i) H K) := _root_.id rfl
theorem dv_load_false (sz : Option Nat) (i : IX) : sdv P false (.load sz i) ρ H K = (aload sz (ρ i) [] K) := _root_.id rfl
theorem dv_nilCheck (i : IX) : sdv P st (.nilCheck i) ρ H K = (anilCheck (ρ i) K) := _root_.id rfl
theorem dv_fieldAddr (off : Nat) (sz : Option Nat) (i : IX) : sdv P st (.fieldAddr off sz i) ρ H K = (afieldAddr off sz (ρ i) K) := _root_.id rfl
theorem dv_field (off : Nat) (sz : Option Nat) (i : IX) : sdv P st (.field off sz i) ρ H K = (afield off sz (ρ i) K) := _root_.id rfl
theorem dv_indexAddr (esz : Nat) (i : IX) (j : IX) : sdv P st (.indexAddr esz i j) ρ H K = ((∀ own xs, ρ i = .lst own xs → ∀ z ∈ xs, z.cells.length = esz) ∧ aindexAddr esz (ρ i) (ρ j) K) := _root_.id rfl
theorem dv_indexArr (n : Nat) (i : IX) (j : IX) : sdv P st (.indexArr n i j) ρ H K = (aindexArr n (ρ i) (ρ j) K) := _root_.id rfl
theorem dv_indexStr (i : IX) (j : IX) : sdv P st (.indexStr i j) ρ H K = (aindexStr (ρ i) (ρ j) K) := _root_.id rfl
theorem dv_slice (esz : Nat) (i : IX) (lo : Option IX) (hi : Option IX) (mx : Option IX) : sdv P st (.slice esz i lo hi mx) ρ H K = (asliceX esz (ρ i) (lo.map ρ) (hi.map ρ) (mx.map ρ) K) := _root_.id rfl
theorem dv_sliceStr (i : IX) (lo : Option IX) (hi : Option IX) : sdv P st (.sliceStr i lo hi) ρ H K = (asliceStr (ρ i) (lo.map ρ) (hi.map ρ) K) := _root_.id rfl
theorem dv_len_true (kd : Nat) (i : IX) : sdv P true (.len kd i) ρ H K = (lenOk kd (ρ i) ∧ alenD (ρ i) H K) := _root_.id rfl
theorem dv_len_false (kd : Nat) (i : IX) : sdv P false (.len kd i) ρ H K = (lenOk kd (ρ i) ∧ alenD (ρ i) [] K) := _root_.id rfl
theorem dv_lookup_true (kd : Nat) (z : AV) (m : IX) (k : IX) (ok : Bool) : sdv P true (.lookup kd z m k ok) ρ H K = (alookup kd z (ρ m) (ρ k) ok H K) := _root_.id rfl
theorem dv_lookup_false (kd : Nat) (z : AV) (m : IX) (k : IX) (ok : Bool) : sdv P false (.lookup kd z m k ok) ρ H K = (alookup kd z (ρ m) (ρ k) ok [] K) := _root_.id rfl
theorem dv_fn (f : Fn) (first : List IX) (cap : List IX) : sdv P st (.fn f first cap) ρ H K = (K (.fn f (first.map fun x => (ρ x).unown) (cap.map fun x => (ρ x).unown))) := _root_.id rfl
theorem dv_extract (i : IX) (k : Nat) : sdv P st (.extract i k) ρ H K = (aextract (ρ i) k K) := _root_.id rfl
theorem dv_convInt (k : IntKind) (i : IX) : sdv P st (.convInt k i) ρ H K = (aconvInt k (ρ i) K) := _root_.id rfl
theorem dv_mx (big : Bool) (i : IX) (j : IX) : sdv P st (.mx big i j) ρ H K = (amx big (ρ i) (ρ j) K) := _root_.id rfl
theorem dv_call (f : IX) (args : List IX) : sdv P st (.call f args none) ρ H K = scallD P st (ρ f) (args.map fun x => (ρ x).unown) H K := _root_.id rfl
end
theorem prune_none (env : Env) : prune none env = env := _root_.id rfl
theorem prune_nil (env : Env) : prune (some []) env = [] := _root_.id rfl
theorem prune_cons (env : Env) (t : Nat) (l : List Nat) : prune (some (t :: l)) env = (t, get env t) :: prune (some l) env := _root_.id rfl
theorem argEnv_nil (k : Nat) : argEnv k [] = [] := _root_.id rfl
theorem argEnv_cons (k : Nat) (x : AV) (xs : List AV) : argEnv k (x :: xs) = (k, x) :: argEnv (k + 1) xs := _root_.id rfl
theorem aval_t (env : Env) (s : Nat) : aval env (.t s) = get env s := _root_.id rfl
theorem aval_c (env : Env) (v : AV) : aval env (.c v) = v := _root_.id rfl
theorem alenD_lst (o : Nat) (xs : List AV) (H : List AObj) (φ : AV → Prop) : alenD (.lst o xs) H φ = φ (.int .i64 xs.length) := _root_.id rfl
theorem alenD_nils (H : List AObj) (φ : AV → Prop) : alenD .nils H φ = φ (.int .i64 0) := _root_.id rfl
theorem alenD_str (s : ByteArray) (H : List AObj) (φ : AV → Prop) : alenD (.str s) H φ = φ (.int .i64 s.size) := _root_.id rfl
theorem alenD_arr (a b c d : Nat) (H : List AObj) (φ : AV → Prop) : alenD (.arr a b c d) H φ = φ (.int .i64 c) := _root_.id rfl
theorem map_nil' {α β : Type} (f : α → β) : List.map f [] = [] := _root_.id rfl
theorem map_cons' {α β : Type} (f : α → β) (x : α) (xs : List α) : List.map f (x :: xs) = f x :: List.map f xs := _root_.id rfl
end Go.Abs
end
section
namespace Go.Abs
open Go
theorem ga0 (H e : List AObj) : (H ++ e)[H.length]? = e[0]? := by
 rw [List.getElem?_append_right (Nat.le_refl _), Nat.sub_self]
theorem ga (H e : List AObj) (i : Nat) : (H ++ e)[H.length + i]? = e[i]? := by
 rw [List.getElem?_append_right (Nat.le_add_right _ _), Nat.add_sub_cancel_left]
theorem sa0 (H e : List AObj) (x : AObj) : (H ++ e).set H.length x = H ++ e.set 0 x := by
 rw [List.set_append_right _ _ (Nat.le_refl _), Nat.sub_self]
theorem sa (H e : List AObj) (i : Nat) (x : AObj) : (H ++ e).set (H.length + i) x = H ++ e.set i x := by
 rw [List.set_append_right _ _ (Nat.le_add_right _ _), Nat.add_sub_cancel_left]
theorem app2 (H e f : List AObj) : (H ++ e) ++ f = H ++ (e ++ f) := List.append_assoc _ _ _
theorem len2 (H e : List AObj) : (H ++ e).length = H.length + e.length := List.length_append
theorem g0 {α : Type} (x : α) (r : List α) : (x :: r)[0]? = some x := by simp
theorem g1 {α : Type} (x y : α) (r : List α) : (x :: y :: r)[1]? = some y := by simp
theorem g2 {α : Type} (x y z : α) (r : List α) : (x :: y :: z :: r)[2]? = some z := by simp
theorem s0 {α : Type} (x u : α) (r : List α) : (x :: r).set 0 u = u :: r := by simp
theorem s1 {α : Type} (x y u : α) (r : List α) : (x :: y :: r).set 1 u = x :: u :: r := by simp
theorem s2 {α : Type} (x y z u : α) (r : List α) : (x :: y :: z :: r).set 2 u = x :: y :: u :: r := by simp
theorem d0 {α : Type} (x d : α) (r : List α) : (x :: r).getD 0 d = x := by simp
theorem d1 {α : Type} (x y d : α) (r : List α) : (x :: y :: r).getD 1 d = y := by simp
theorem d2 {α : Type} (x y z d : α) (r : List α) : (x :: y :: z :: r).getD 2 d = z := by simp
theorem sp1 (x y : AV) : asplice [x] 0 [y] = [y] := by simp [asplice]
theorem alenD_mono {x : AV} {H : List AObj} {φ ψ : AV → Prop} (hm : ∀ z, φ z → ψ z) (h : alenD x H φ) : alenD x H ψ := by
 unfold alenD at *
 split at h
 ·exact hm _ h
 ·exact alen_mono hm h
theorem dvalC_mono {o : IOp} {ρ : IX → AV} {H : List AObj} {K K' : AV → Prop} (h : dvalC o ρ H K) (hK : ∀ x, K x → K' x) : dvalC o ρ H K' := by
 unfold dvalC at *
 split at h
 ·exact hK _ h
 ·unfold scond boolP at *
  split at h
  ·exact ⟨fun e => hK _ (h.1 e), fun e => hK _ (h.2 e)⟩
  ·exact h.elim
 ·exact abin_mono hK h
 ·exact ashift_mono hK h
 ·exact aeqBool_mono hK h
 ·unfold aeqNilD at *
  split at h
  ·exact hK _ h
  ·exact h.elim
 ·exact aun_mono hK h
 ·exact ⟨h.1, hK _ h.2⟩
 ·exact afill_mono (fun _ h => hK _ h) h
 ·exact abslice_mono (fun _ h => hK _ h) h
 ·exact aload_mono hK h
 ·exact anilCheck_mono hK h
 ·exact afieldAddr_mono hK h
 ·exact afield_mono hK h
 ·exact ⟨h.1, aindexAddr_mono hK h.2⟩
 ·exact aindexStr_mono hK h
 ·exact aindexArr_mono hK h
 ·exact asliceX_mono hK h
 ·exact asliceStr_mono hK h
 ·exact ⟨h.1, alenD_mono hK h.2⟩
 ·exact alookup_mono hK h
 ·exact hK _ h
 ·exact aextract_mono hK h
 ·exact aconvInt_mono hK h
 ·exact amx_mono hK h
 ·exact h.elim
theorem adtS_mono {P : Px} : ∀ {t : DT} {env : Env} {H : List AObj} {K1 K2 : Env → List AObj → Prop}, adtS P t env H K1 → (∀ e H', K1 e H' → K2 e H') → adtS P t env H K2
 | .done, _, _, _, _, h, hK => hK _ _ h
 | .take st o r, _, _, _, _, h, hK => by
   unfold adtS stake at *
   have key : ∀ {env : Env} {H : List AObj} {K : AV → Prop} {K' : AV → Prop}, sdv P st o.op (aval env) H K → (∀ x, K x → K' x) → sdv P st o.op (aval env) H K' := by
    intro env H K K' h hK
    unfold sdv at *
    split at h
    ·unfold scallD at *
     split at h
     ·obtain ⟨x, h1, h2⟩ := h; exact ⟨x, h1, hK _ h2⟩
     ·exact h.elim
    ·exact dvalC_mono h hK
   split at h
   ·exact key h fun _ h => adtS_mono h hK
   ·unfold sguard at *
    split at h
    ·exact ⟨fun e => key (h.1 e) fun _ h => adtS_mono h hK, fun e => adtS_mono (h.2 e) hK⟩
    ·exact adtS_mono h hK
    ·exact h.elim
 | .br o t rest, _, _, _, _, h, hK => ⟨agd_mono2 h.1 fun _ _ h => adtS_mono h hK, adtS_mono h.2 hK⟩
 | .nil, _, _, _, _, h, hK => trivial
theorem swp_mono {P : Px} {n0 : Nat} : ∀ {ir : IR} {env : Env} {H : List AObj} {Q1 Q2 : Exit → Env → List AObj → Prop}, swp P n0 ir env H Q1 → (∀ x e H', Q1 x e H' → Q2 x e H') → swp P n0 ir env H Q2 := by
 intro ir
 induction ir with
 | skip => exact fun h hQ => hQ _ _ _ h
 | region ops live => exact fun h hQ => aops_mono h fun _ _ h => hQ _ _ _ h
 | draw t live => exact fun h hQ => adtS_mono h fun _ _ h => hQ _ _ _ h
 | seq a b iha ihb =>
   exact fun h hQ => iha h fun x e H' h => by
    cases x with
    | normal => exact ihb h hQ
    | _ => exact hQ _ _ _ h
 | cond x a b iha ihb =>
   intro env H Q1 Q2 h hQ
   rw [swp_cond] at *
   unfold scond boolP at *
   split at h
   ·exact ⟨fun e => iha (h.1 e) hQ, fun e => ihb (h.2 e) hQ⟩
   ·exact h.elim
 | block id a iha =>
   exact fun h hQ => iha h fun x e H' h => by
    cases x with
    | exit id' =>
      dsimp only at h ⊢
      split
      ·rename_i hid; rw [if_pos hid] at h; exact hQ _ _ _ h
      ·rename_i hid; rw [if_neg hid] at h; exact hQ _ _ _ h
    | _ => exact hQ _ _ _ h
 | loop a iha =>
   intro env H Q1 Q2 h hQ
   obtain ⟨ι, I, se, sh, μ, h0, hs⟩ := h
   exact ⟨ι, I, se, sh, μ, h0, fun i hi => iha (hs i hi) fun x e H' h => by
    cases x with
    | normal => exact h
    | _ => exact hQ _ _ _ h⟩
 | exit id => exact fun h hQ => hQ _ _ _ h
 | ret => exact fun h hQ => hQ _ _ _ h
 | never => exact fun h _ => h.elim
 | rangeF f lc =>
   intro env H Q1 Q2 h hQ
   rw [swp_range] at *
   unfold srange at *
   split at h
   ·obtain ⟨h1, args', h2, h3⟩ := h
    exact ⟨h1, args', h2, h3.mono fun _ H' hb => behind_mono hb fun j H'' hg => goOn_mono hg hQ⟩
   ·exact h.elim
theorem sp20 (a b y : AV) : asplice [a, b] 0 [y] = [y, b] := by simp [asplice]
theorem sp21 (a b y : AV) : asplice [a, b] 1 [y] = [a, y] := by simp [asplice]
theorem sp30 (a b c y : AV) : asplice [a, b, c] 0 [y] = [y, b, c] := by simp [asplice]
theorem sp31 (a b c y : AV) : asplice [a, b, c] 1 [y] = [a, y, c] := by simp [asplice]
theorem sp32 (a b c y : AV) : asplice [a, b, c] 2 [y] = [a, b, y] := by simp [asplice]
theorem sp33 (a b c x y z : AV) : asplice [a, b, c] 0 [x, y, z] = [x, y, z] := by simp [asplice]
theorem mx_max (k k' : IntKind) (a b : Int) (φ : AV → Prop) : amx true (.int k a) (.int k' b) φ = φ (.int k (max a b)) := by
 have : (if a < b then b else a) = max a b := by rw [Int.max_def]; split <;> split <;> omega
 simp [amx, this]
theorem mx_min (k k' : IntKind) (a b : Int) (φ : AV → Prop) : amx false (.int k a) (.int k' b) φ = φ (.int k (min a b)) := by
 have : (if b < a then b else a) = min a b := by rw [Int.min_def]; split <;> split <;> omega
 simp [amx, this]
def loadC (o : Option AObj) (sz : Option Nat) (off : Nat) (φ : AV → Prop) : Prop :=
 match o with
 | some (.cells es) => match sz with
   | some m => off + m ≤ es.length ∧ φ (.agg (((es.drop off).take m).map AV.drop))
   | none => off < es.length ∧ φ (es.getD off .any).unown
 | _ => False
@[congr] theorem loadC_congr {o o' : Option AObj} {sz : Option Nat} {off : Nat} {φ : AV → Prop} (h : nrm o = o') : loadC o sz off φ = loadC o' sz off φ := by subst h; rfl
theorem load_ptr (sz : Option Nat) (id off : Nat) (H : List AObj) (φ : AV → Prop) : aload sz (.ptr id off) H φ = loadC H[id]? sz off φ := by
 unfold aload loadC; rfl
theorem loadC_1 (es : List AV) (off : Nat) (φ : AV → Prop) : loadC (some (.cells es)) none off φ = (off < es.length ∧ φ (es.getD off .any).unown) := _root_.id rfl
theorem loadC_3 (a b c : AV) (φ : AV → Prop) : loadC (some (.cells [a, b, c])) (some 3) 0 φ = φ (.agg [a.drop, b.drop, c.drop]) := by simp [loadC]
theorem loadC_2 (a b : AV) (φ : AV → Prop) : loadC (some (.cells [a, b])) (some 2) 0 φ = φ (.agg [a.drop, b.drop]) := by simp [loadC]
def storeC (o : Option AObj) (m id off : Nat) (x : AV) (H : List AObj) (K : List AObj → Prop) : Prop :=
 match o with
 | some (.cells es) => x.val = true ∧ x.cells.length = m ∧ off + m ≤ es.length ∧ x.cells.all AV.one = true ∧ belowL (id + 1) (x.cells.map AV.unown) = true ∧
    K (H.set id (.cells (asplice es off (x.cells.map AV.unown))))
 | _ => False
@[congr] theorem storeC_congr {o o' : Option AObj} {m id off : Nat} {x : AV} {H : List AObj} {K : List AObj → Prop} (h : nrm o = o') {x' : AV} (h2 : x = x') : storeC o m id off x H K = storeC o' m id off x' H K := by subst h; subst h2; rfl
theorem store_ptr (m id off : Nat) (x : AV) (H : List AObj) (K : List AObj → Prop) : astore m (.ptr id off) x H K = storeC H[id]? m id off x H K := by
 unfold astore storeC; rfl
theorem storeC_1 (es : List AV) (m id off : Nat) (x : AV) (H : List AObj) (K : List AObj → Prop) : storeC (some (.cells es)) m id off x H K = (x.val = true ∧ x.cells.length = m ∧ off + m ≤ es.length ∧ x.cells.all AV.one = true ∧ belowL (id + 1) (x.cells.map AV.unown) = true ∧
 K (H.set id (.cells (asplice es off (x.cells.map AV.unown))))) := _root_.id rfl
def storeWC (o : Option AObj) (l m id off : Nat) (x : AV) (H : List AObj) (K : List AObj → Prop) : Prop :=
 match o with
 | some (.cells es) => l ≤ id ∧ x.val = true ∧ x.cells.length = m ∧ off + m ≤ es.length ∧ x.cells.all AV.one = true ∧ belowL H.length (x.cells.map AV.unown) = true ∧
    K (H.set id (.cells (asplice es off (x.cells.map AV.unown))))
 | _ => False
@[congr] theorem storeWC_congr {o o' : Option AObj} {l m id off : Nat} {x : AV} {H : List AObj} {K : List AObj → Prop} (h : nrm o = o') {x' : AV} (h2 : x = x') : storeWC o l m id off x H K = storeWC o' l m id off x' H K := by subst h; subst h2; rfl
theorem storeW_ptr (l m id off : Nat) (x : AV) (H : List AObj) (K : List AObj → Prop) : astoreW l m (.ptr id off) x H K = storeWC H[id]? l m id off x H K := by
 unfold astoreW storeWC; rfl
theorem storeWC_1 (es : List AV) (l m id off : Nat) (x : AV) (H : List AObj) (K : List AObj → Prop) : storeWC (some (.cells es)) l m id off x H K = (l ≤ id ∧ x.val = true ∧ x.cells.length = m ∧ off + m ≤ es.length ∧ x.cells.all AV.one = true ∧ belowL H.length (x.cells.map AV.unown) = true ∧
 K (H.set id (.cells (asplice es off (x.cells.map AV.unown))))) := _root_.id rfl
@[congr] theorem astoreW_congr {l m : Nat} {p p' x : AV} {H H' : List AObj} {K : List AObj → Prop} (h : nrm p = p') (h2 : H = H') : astoreW l m p x H K = astoreW l m p' x H' K := by subst h; subst h2; rfl
theorem asetf_agg (e : Nat) (xs : List AV) (H : List AObj) (K : AV → List AObj → Prop) : asetf e (.agg xs) H K = asetfL e xs H fun ys H' => K (.agg ys) H' := _root_.id rfl
theorem asetfL_nil (e : Nat) (H : List AObj) (K : List AV → List AObj → Prop) : asetfL e [] H K = K [] H := _root_.id rfl
theorem asetfL_cons (e : Nat) (x : AV) (r : List AV) (H : List AObj) (K : List AV → List AObj → Prop) : asetfL e (x :: r) H K = asetf1 e x H fun y H' => asetfL e r H' fun ys H'' => K (y :: ys) H'' := _root_.id rfl
theorem asetf1_int (e : Nat) (k : IntKind) (n : Int) (H : List AObj) (K : AV → List AObj → Prop) : asetf1 e (.int k n) H K = K (.int k n) H := _root_.id rfl
def stepsW := And.intro @op_storeW (And.intro @storeW_ptr (And.intro @storeWC_1 (And.intro @op_loadf (And.intro @asetf_agg (And.intro @asetfL_nil (And.intro @asetfL_cons @asetf1_int))))))
def lookupC (o : Option AObj) (kd : Nat) (zero k : AV) (ok : Bool) (φ : AV → Prop) : Prop :=
 match o with
 | some (.map es) => match afind kd k es 0 with
   | some (some (_, v)) => φ (if ok then .tuple [v.drop, .bool true] else v.drop)
   | some none => keyEq kd k k = some true ∧ φ (if ok then .tuple [canon zero, .bool false] else canon zero)
   | none => False
 | _ => False
@[congr] theorem lookupC_congr {o o' : Option AObj} {kd : Nat} {z k k' : AV} {ok : Bool} {φ : AV → Prop} (h : nrm o = o') (h2 : k = k') : lookupC o kd z k ok φ = lookupC o' kd z k' ok φ := by subst h; subst h2; rfl
theorem lookup_map (kd id : Nat) (z k : AV) (ok : Bool) (H : List AObj) (φ : AV → Prop) : alookup kd z (.map id) k ok H φ = lookupC H[id]? kd z k ok φ := by
 unfold alookup lookupC; rfl
def mapsetC (o : Option AObj) (kd id : Nat) (k x : AV) (H : List AObj) (K : List AObj → Prop) : Prop :=
 match o with
 | some (.map es) => k.blw (id + 1) = true ∧ x.blw (id + 1) = true ∧ x.val = true ∧ match afind kd k es 0 with
    | some (some (i, _)) => K (H.set id (.map (es.set i (k, canon x))))
    | some none => keyEq kd k k = some true ∧ K (H.set id (.map (es ++ [(k, canon x)])))
    | none => False
 | _ => False
@[congr] theorem mapsetC_congr {o o' : Option AObj} {kd id : Nat} {k k' x x' : AV} {H : List AObj} {K : List AObj → Prop} (h : nrm o = o') (h2 : k = k') (h3 : x = x') : mapsetC o kd id k x H K = mapsetC o' kd id k' x' H K := by subst h; subst h2; subst h3; rfl
theorem mapset_map (kd id : Nat) (k x : AV) (H : List AObj) (K : List AObj → Prop) : amapset kd (.map id) k x H K = mapsetC H[id]? kd id k x H K := by
 unfold amapset mapsetC; rfl
def takeC (o : Option AObj) (d id off : Nat) (env : Env) (H : List AObj) (K : Env → List AObj → Prop) : Prop :=
 match o with
 | some (.cells es) => off < es.length ∧ K ((d, es.getD off .any) :: env) (H.set id (.cells (es.set off (es.getD off .any).unown)))
 | _ => False
@[congr] theorem takeC_congr {o o' : Option AObj} {d id off : Nat} {env : Env} {H : List AObj} {K : Env → List AObj → Prop} (h : nrm o = o') : takeC o d id off env H K = takeC o' d id off env H K := by subst h; rfl
theorem takeC_1 (es : List AV) (d id off : Nat) (env : Env) (H : List AObj) (K : Env → List AObj → Prop) : takeC (some (.cells es)) d id off env H K = (off < es.length ∧ K ((d, es.getD off .any) :: env) (H.set id (.cells (es.set off (es.getD off .any).unown)))) := _root_.id rfl
def takeV (v : AV) (d : Nat) (env : Env) (H : List AObj) (K : Env → List AObj → Prop) : Prop :=
 match v with
 | .ptr id off => takeC H[id]? d id off env H K
 | _ => False
@[congr] theorem takeV_congr {v v' : AV} {d : Nat} {env : Env} {H : List AObj} {K : Env → List AObj → Prop} (h : nrm v = v') : takeV v d env H K = takeV v' d env H K := by subst h; rfl
theorem takeV_p (id off d : Nat) (env : Env) (H : List AObj) (K : Env → List AObj → Prop) : takeV (.ptr id off) d env H K = takeC H[id]? d id off env H K := _root_.id rfl
theorem op_takeC {P : Px} (a : IX) (d : Nat) (env : Env) (H : List AObj) (K : Env → List AObj → Prop) : aop P (.takeCell a) (some d) env H K = takeV (aval env a) d env H K := by
 simp only [aop, takeV, takeC]
 cases aval env a <;> rfl
def putC (o : Option AObj) (id off : Nat) (x : AV) (H : List AObj) (K : List AObj → Prop) : Prop :=
 match o with
 | some (.cells es) => off < es.length ∧ x.one = true ∧ x.blw (id + 1) = true ∧ K (H.set id (.cells (es.set off x)))
 | _ => False
@[congr] theorem putC_congr {o o' : Option AObj} {id off : Nat} {x x' : AV} {H : List AObj} {K : List AObj → Prop} (h : nrm o = o') (h2 : x = x') : putC o id off x H K = putC o' id off x' H K := by subst h; subst h2; rfl
theorem put_ptr (id off : Nat) (x : AV) (H : List AObj) (K : List AObj → Prop) : aputCell (.ptr id off) x H K = putC H[id]? id off x H K := by
 unfold aputCell putC; rfl
theorem putC_1 (es : List AV) (id off : Nat) (x : AV) (H : List AObj) (K : List AObj → Prop) : putC (some (.cells es)) id off x H K = (off < es.length ∧ x.one = true ∧ x.blw (id + 1) = true ∧ K (H.set id (.cells (es.set off x)))) := _root_.id rfl
theorem bd2 (x y : AV) (φ : AV → Prop) : abuild [.int .i64 0, .int .i64 0, .nils] [(0, 1, x), (1, 1, y)] φ = (x.val = true ∧ x.cells.length = 1 ∧ y.val = true ∧ y.cells.length = 1 ∧ φ (.agg (asplice (asplice [.int .i64 0, .int .i64 0, .nils] 0 (x.cells.map AV.unown)) 1 (y.cells.map AV.unown)))) := by
 simp only [abuild, afill, eq_iff_iff]
 constructor
 ·rintro ⟨h1, h2, h3, h4, h5, h6, h7⟩; exact ⟨h1, h2, h4, h5, h7⟩
 ·rintro ⟨h1, h2, h4, h5, h7⟩
  have e1 : (x.cells.map AV.unown).length = 1 := by simpa using h2
  refine ⟨h1, h2, by simp, h4, h5, ?_, h7⟩
  simp [asplice, h2]
theorem bd0 (cs : List AV) (φ : AV → Prop) : abuild cs [] φ = φ (.agg cs) := _root_.id rfl
theorem ap_nils (e b : Nat) (ys : List AV) (o : Nat) (ψ : List AV → Prop) : aappend e b .nils (.lst o ys) ψ = (ys.length * b ≤ 140737488355328 ∧ okE e ys ∧ ψ ys) := by
 simp [aappend, alist, rlist]
theorem ap_lst (e b : Nat) (xs ys : List AV) (o : Nat) (ψ : List AV → Prop) : aappend e b (.lst e xs) (.lst o ys) ψ = ((xs.length + ys.length) * b ≤ 140737488355328 ∧ okE e ys ∧ ψ (xs ++ ys)) := by
 simp [aappend, alist, rlist]
theorem sl_t (n : Nat) : (IX.t n).slot = some n := _root_.id rfl
theorem sl_c (v : AV) : (IX.c v).slot = none := _root_.id rfl
theorem li_map (id : Nat) (H : List AObj) (φ : AV → Prop) : aload none (.iptr (.map id)) H φ = φ (.map id) := by simp [aload, AV.one, un_map]
theorem li_ptr (id off : Nat) (H : List AObj) (φ : AV → Prop) : aload none (.iptr (.ptr id off)) H φ = φ (.ptr id off) := by simp [aload, AV.one, un_ptr]
theorem on_bool (b : Bool) : (AV.bool b).one = true := _root_.id rfl
theorem on_int (k : IntKind) (n : Int) : (AV.int k n).one = true := _root_.id rfl
theorem on_str (s : ByteArray) : (AV.str s).one = true := _root_.id rfl
theorem on_lst (o : Nat) (xs : List AV) : (AV.lst o xs).one = true := _root_.id rfl
theorem on_nils : AV.nils.one = true := _root_.id rfl
theorem on_fn (f : Fn) (a b : List AV) : (AV.fn f a b).one = true := _root_.id rfl
theorem on_ptr (a b : Nat) : (AV.ptr a b).one = true := _root_.id rfl
theorem on_iptr (x : AV) : (AV.iptr x).one = true := _root_.id rfl
theorem on_map (a : Nat) : (AV.map a).one = true := _root_.id rfl
theorem all1 {α : Type} (p : α → Bool) (x : α) (r : List α) : (x :: r).all p = (p x && r.all p) := _root_.id rfl
theorem all0 {α : Type} (p : α → Bool) : ([] : List α).all p = true := _root_.id rfl
theorem wrap_in (n : Int) (h : -9223372036854775808 ≤ n ∧ n ≤ 9223372036854775807) : IntKind.i64.wrap n = n := by
 rw [show IntKind.i64.wrap n = (n + 9223372036854775808) % 18446744073709551616 - 9223372036854775808 from IntKind.wrap_i64 n]; omega
theorem swp_loop_st {P : Program} {n0 : Nat} {env : Env} {H : List AObj} {Q : Exit → Env → List AObj → Prop} {a : IR} {ι : Type} (N : Nat) (I : Nat → ι → Prop) (se : Nat → ι → Env) (sh : Nat → ι → List AObj) (s0 : ι) (h0 : I 0 s0 ∧ sle n0 env H (se 0 s0) (sh 0 s0))
 (hs : ∀ i s, i ≤ N → I i s → swp P n0 a (se i s) (sh i s) fun e env' H' => match e with
   | .normal => ∃ j t, (j ≤ N ∧ I j t) ∧ N - j < N - i ∧ sle n0 env' H' (se j t) (sh j t)
   | e => Q e env' H') : swp P n0 (.loop a) env H Q :=
 ⟨Nat × ι, fun p => p.1 ≤ N ∧ I p.1 p.2, fun p => se p.1 p.2, fun p => sh p.1 p.2, fun p => N - p.1, ⟨(0, s0), ⟨Nat.zero_le _, h0.1⟩, h0.2⟩, fun p hp => swp_mono (hs p.1 p.2 hp.1 hp.2) fun x e H' h => by
   cases x with
   | normal => obtain ⟨j, t, h1, h2, h3⟩ := h; exact ⟨(j, t), h1, h2, h3⟩
   | _ => exact h⟩
theorem swp_loop_stL {P : Program} {l : Nat} {n0 : Nat} {env : Env} {H : List AObj} {Q : Exit → Env → List AObj → Prop} {a : IR} {ι : Type} (N : Nat) (I : Nat → ι → Prop) (se : Nat → ι → Env) (sh : Nat → ι → List AObj) (s0 : ι) (h0 : I 0 s0 ∧ sleL n0 env H (se 0 s0) (sh 0 s0))
 (hs : ∀ i s, i ≤ N → I i s → swp ⟨P, some l⟩ n0 a (se i s) (sh i s) fun e env' H' => match e with
   | .normal => ∃ j t, (j ≤ N ∧ I j t) ∧ N - j < N - i ∧ sleL n0 env' H' (se j t) (sh j t)
   | e => Q e env' H') : swp ⟨P, some l⟩ n0 (.loop a) env H Q :=
 ⟨Nat × ι, fun p => p.1 ≤ N ∧ I p.1 p.2, fun p => se p.1 p.2, fun p => sh p.1 p.2, fun p => N - p.1, ⟨(0, s0), ⟨Nat.zero_le _, h0.1⟩, h0.2⟩, fun p hp => swp_mono (hs p.1 p.2 hp.1 hp.2) fun x e H' h => by
   cases x with
   | normal => obtain ⟨j, t, h1, h2, h3⟩ := h; exact ⟨(j, t), h1, h2, h3⟩
   | _ => exact h⟩
theorem ret0 {H : List AObj} {s : Nat} {v v' : AV} (hb : v.blw H.length = true) (hv : v = v') : aret H.length [.t s] [(s, v)] H fun r H' => r = v' ∧ H' = H :=
 aret_one _ (Nat.le_refl _) (by rw [gt_cons, if_pos rfl]; exact hb) ⟨by rw [gt_cons, if_pos rfl]; exact hv, by simp⟩
theorem ret1 {H e : List AObj} {s : Nat} {v v' : AV} (hb : v.blw H.length = true) (hv : v = v') : aret H.length [.t s] [(s, v)] (H ++ e) fun r H' => r = v' ∧ H' = H :=
 aret_one _ (Nat.le_refl _) (by rw [gt_cons, if_pos rfl]; exact hb) ⟨by rw [gt_cons, if_pos rfl]; exact hv, by simp⟩
theorem ret2 {H H' : List AObj} {n0 s : Nat} {v v' : AV} (hn : n0 = H.length) (hb : v.blw n0 = true) (hv : v = v') (hl : H = H') : aret n0 [.t s] [(s, v)] H fun r H'' => r = v' ∧ H'' = H' := by
 subst hn hl; exact ret0 hb hv
theorem ret_none {H H' : List AObj} {n0 : Nat} {env : Env} (hn : n0 = H.length) (hl : H = H') : aret n0 [] env H fun r H'' => r = .tuple [] ∧ H'' = H' := by
 subst hn hl
 exact ⟨H.length, Nat.le_refl _, [], trivial, rfl, rfl, by simp⟩
theorem ret22 {H e : List AObj} {s s' : Nat} {v v' x y : AV} (hs : s' ≠ s) (hb : x.blw H.length = true) (hb' : y.blw H.length = true) (hx : v.unown = x) (hy : v'.unown = y) :
 aret H.length [.t s, .t s'] [(s, v), (s', v')] (H ++ e) fun r H' => r = .tuple [x, y] ∧ H' = H := by
 subst hx hy
 refine ⟨H.length, Nat.le_refl _, [v.unown, v'.unown], ?_, ?_, rfl, by simp⟩
 ·simp only [gt_cons, if_neg hs, if_true, List.map]
  exact LeL_refl _
 ·simp only [belowL, hb, hb', Bool.and_self]
def aret1 (n0 : Nat) (x : AV) (H : List AObj) (R : AV → List AObj → Prop) : Prop := ∃ m, n0 ≤ m ∧ ∃ r, x.le r ∧ r.blw m = true ∧ R r (H.take m)
@[congr] theorem aret1_congr {n0 : Nat} {x x' : AV} {H H' : List AObj} {R : AV → List AObj → Prop} (h : nrm x = x') (h2 : H = H') : aret1 n0 x H R = aret1 n0 x' H' R := by subst h; subst h2; rfl
def aret2 (n0 : Nat) (xs : List AV) (H : List AObj) (R : AV → List AObj → Prop) : Prop := ∃ m, n0 ≤ m ∧ ∃ ys, LeL (xs.map AV.unown) ys ∧ belowL m ys = true ∧ R (.tuple ys) (H.take m)
@[congr] theorem aret2_congr {n0 : Nat} {x x' : List AV} {H H' : List AObj} {R : AV → List AObj → Prop} (h : nrm x = x') (h2 : H = H') : aret2 n0 x H R = aret2 n0 x' H' R := by subst h; subst h2; rfl
theorem aret_c (n0 s : Nat) (sz : Option Nat) (env : Env) (H : List AObj) (R : AV → List AObj → Prop) : aret n0 [.c s sz] env H R = aload sz (get env s) H fun x => aret1 n0 x H R := _root_.id rfl
theorem aret_ct (n0 s s' : Nat) (sz : Option Nat) (env : Env) (H : List AObj) (R : AV → List AObj → Prop) : aret n0 [.c s sz, .t s'] env H R = aload sz (get env s) H fun x => aret2 n0 [x, get env s'] H R := _root_.id rfl
theorem ret1v {H e : List AObj} {v v' : AV} (hb : v.blw H.length = true) (hv : v = v') : aret1 H.length v (H ++ e) fun r H' => r = v' ∧ H' = H := by
 subst hv; exact ⟨H.length, Nat.le_refl _, v, le_refl _, hb, rfl, by simp⟩
theorem len_lt {i n : Nat} (h : (i : Int) < (n : Int)) : i < n := by omega
theorem len_nlt {i n : Nat} (h : (n : Int) ≤ (i : Int)) : n ≤ i := by omega
def stepsA := (And.intro @op_indexArr (And.intro @dv_indexArr (And.intro @swp_range @op_sliceZ)))
def stepsS := (And.intro (And.intro (And.intro (And.intro (And.intro (And.intro (And.intro (And.intro @nrm_eq @swp_skip) (And.intro @swp_region @swp_draw)) (And.intro (And.intro @swp_seq @swp_cond) (And.intro @swp_block (And.intro @swp_exit @swp_ret)))) (And.intro (And.intro (And.intro @aops_nil @aops_n) (And.intro @aops_g @agd_n)) (And.intro (And.intro @agd_g @adtS_done) (And.intro @adtS_nil (And.intro @adtS_n @adtS_g))))) (And.intro (And.intro (And.intro (And.intro @adtS_br @put_none) (And.intro @put_some @gt_cons)) (And.intro (And.intro @gt_nil @op_bin) (And.intro @op_shift (And.intro @op_eqBool @op_eqNil)))) (And.intro (And.intro (And.intro @op_un @op_box) (And.intro @op_boxi (And.intro @op_boxs @op_alloc))) (And.intro (And.intro @op_build @op_buildSlice) (And.intro @op_load (And.intro @op_takeC @takeV_p)))))) (And.intro (And.intro (And.intro (And.intro (And.intro @takeC_1 @put_ptr) (And.intro @putC_1 @lookup_map)) (And.intro (And.intro @mapset_map @ap_nils) (And.intro @ap_lst (And.intro @li_map @li_ptr)))) (And.intro (And.intro (And.intro @sl_t @sl_c) (And.intro @aret_c (And.intro @aret_ct @bd0))) (And.intro (And.intro @bd2 @op_store) (And.intro @op_putCell (And.intro @op_nilCheck @op_fieldAddr))))) (And.intro (And.intro (And.intro (And.intro @op_field @op_indexAddr) (And.intro @op_indexStr @op_slice)) (And.intro (And.intro @op_copy @op_sliceStr) (And.intro @op_len (And.intro @op_append (And.intro @op_mkarr (And.intro @op_litA @op_appendA)))))) (And.intro (And.intro (And.intro @op_mkbuf @op_mkmap) (And.intro @op_lookup (And.intro @op_mapset @op_fn))) (And.intro (And.intro @op_extract @op_convInt) (And.intro @op_convStr (And.intro @op_bytesOf @op_strOf))))))) (And.intro (And.intro (And.intro (And.intro (And.intro (And.intro @op_mx @op_setf) (And.intro @op_set_n @op_set)) (And.intro (And.intro @op_take @op_takec) (And.intro @op_pick (And.intro @op_call @dv_set)))) (And.intro (And.intro (And.intro @dv_pick @dv_bin) (And.intro @dv_shift @dv_eqBool)) (And.intro (And.intro @dv_eqNil @dv_un) (And.intro @dv_boxi (And.intro @dv_build @dv_buildSlice))))) (And.intro (And.intro (And.intro (And.intro @dv_load_true @dv_load_false) (And.intro @dv_nilCheck @dv_fieldAddr)) (And.intro (And.intro @dv_field @dv_indexAddr) (And.intro @dv_indexStr (And.intro @dv_slice @dv_sliceStr)))) (And.intro (And.intro (And.intro @dv_len_true @dv_len_false) (And.intro @dv_lookup_true (And.intro @dv_lookup_false @dv_fn))) (And.intro (And.intro @dv_extract @dv_convInt) (And.intro @dv_mx (And.intro @dv_call @prune_none)))))) (And.intro (And.intro (And.intro (And.intro (And.intro @prune_nil @prune_cons) (And.intro @argEnv_nil @argEnv_cons)) (And.intro (And.intro @aval_t @aval_c) (And.intro @alenD_lst (And.intro @alenD_nils @alenD_str)))) (And.intro (And.intro (And.intro @alenD_arr @map_nil') (And.intro @map_cons' (And.intro @scond_t @scond_f))) (And.intro (And.intro @scond_n @scond_d) (And.intro @sg_tt (And.intro @sg_tf @sg_ft))))) (And.intro (And.intro (And.intro (And.intro @sg_ff @sg_u) (And.intro @sg_dt @sg_df)) (And.intro (And.intro @acall_s @scallD_fn) (And.intro @un_any (And.intro @un_bool @un_int)))) (And.intro (And.intro (And.intro @un_str @un_nils) (And.intro @un_lst (And.intro @un_arr @un_agg))) (And.intro (And.intro @un_tuple @un_ptr) (And.intro @un_iptr (And.intro @un_nilp @un_map)))))))) (And.intro (And.intro (And.intro (And.intro (And.intro (And.intro (And.intro @un_nilm @un_fn) (And.intro @un_nilf @ce_bool)) (And.intro (And.intro @ce_int @ce_str) (And.intro @ce_nils (And.intro @ce_lst @ce_agg)))) (And.intro (And.intro (And.intro @ce_fn @ce_nilf) (And.intro @ce_ptr @ce_iptr)) (And.intro (And.intro @ce_map @dr_bool) (And.intro @dr_int (And.intro @dr_str @dr_nils))))) (And.intro (And.intro (And.intro (And.intro @dr_lst @dr_agg) (And.intro @dr_fn @dr_nilf)) (And.intro (And.intro @dr_ptr @dr_iptr) (And.intro @dr_map (And.intro @va_bool @va_int)))) (And.intro (And.intro (And.intro @va_str @va_nils) (And.intro @va_lst (And.intro @va_agg @va_fn))) (And.intro (And.intro @va_nilf @va_ptr) (And.intro @va_iptr (And.intro @va_map @bw_bool)))))) (And.intro (And.intro (And.intro (And.intro (And.intro @bw_int @bw_str) (And.intro @bw_nils @bw_lst)) (And.intro (And.intro @bw_agg @bw_tuple) (And.intro @bw_ptr (And.intro @bw_map @bw_arr)))) (And.intro (And.intro (And.intro @bw_iptr @bw_fn) (And.intro @bw_nilf (And.intro @bl_nil @bl_cons))) (And.intro (And.intro @eb_nil @eb_cons) (And.intro @ab_add (And.intro @ab_sub @ab_mul))))) (And.intro (And.intro (And.intro (And.intro @ab_rem @ab_quo) (And.intro @ab_eql @ab_neq)) (And.intro (And.intro @ab_lss @ab_leq) (And.intro @ab_gtr (And.intro @ab_geq @as_eql)))) (And.intro (And.intro (And.intro @as_neq @as_add) (And.intro @au_not (And.intro @au_neg @ae_neq))) (And.intro (And.intro @ae_eql @bp_b) (And.intro @al_str (And.intro @al_nils @al_lst))))))) (And.intro (And.intro (And.intro (And.intro (And.intro (And.intro @al_arr @al_nilm) (And.intro @lo_str @lo_nils)) (And.intro (And.intro @lo_lst @lo_arr) (And.intro @lo_nilm (And.intro @lo_map @li_bool)))) (And.intro (And.intro (And.intro @li_int @li_str) (And.intro @li_lst @li_nils)) (And.intro (And.intro @li_fn @nc_ptr) (And.intro @nc_iptr (And.intro @ex_tuple @fa_ptr))))) (And.intro (And.intro (And.intro (And.intro @base_nil @base_c) (And.intro @base_t @base_f)) (And.intro (And.intro @base_p @pass_none) (And.intro @pass_c0 (And.intro @pass_c1 @pass_c2)))) (And.intro (And.intro (And.intro @pass_big0 @pass_big1) (And.intro @pass_big2 (And.intro @pass_big3 @pass_big4))) (And.intro (And.intro @unslot_none @unslot_some) (And.intro @ga0 (And.intro @ga @sa0)))))) (And.intro (And.intro (And.intro (And.intro (And.intro @sa @app2) (And.intro @len2 @g0)) (And.intro (And.intro @g1 @g2) (And.intro @s0 (And.intro @s1 @s2)))) (And.intro (And.intro (And.intro @d0 @d1) (And.intro @d2 (And.intro @sp1 @sp20))) (And.intro (And.intro @sp21 @sp30) (And.intro @sp31 (And.intro @sp32 @sp33))))) (And.intro (And.intro (And.intro (And.intro @mx_max @mx_min) (And.intro @loadC_3 @loadC_2)) (And.intro (And.intro @load_ptr @loadC_1) (And.intro @store_ptr (And.intro @storeC_1 @on_bool)))) (And.intro (And.intro (And.intro @on_int @on_str) (And.intro @on_lst (And.intro @on_nils @on_fn))) (And.intro (And.intro @on_ptr @on_iptr) (And.intro @on_map (And.intro @all1 @all0)))))))))
end Go.Abs
end
section
namespace Go.Abs
open Go Go.RowKit
def memOf (w : World) : Mem := fun b o => w.cell? ⟨b, o, none⟩
def startA (w : World) : Perm := ⟨fun b => w.heap.size ≤ b, fun id => some (id + 1), (fun id n h => by cases h; omega), 0⟩
theorem startA_entry (w : World) : (startA w).entry false ([] : List AObj).length := ⟨fun id h => absurd h (Nat.not_lt_zero _), fun id _ => rfl⟩
theorem St.start {w : World} {vs : Array Value} {xs : List AV} (h : RepL (memOf w) [] vs.toList xs) (hf : ∀ x ∈ xs, ∀ own ys, x = .lst own ys → own = 0) :
 St (startA w) (memOf w) [] w [] (fun t => vs.getD t undef) (fun t => xs.getD t .any) (fun _ => none) where
 len := rfl
 nodup := by simp
 env := fun t => by
  have := h.getD t
  rw [List.getD_eq_getElem?_getD] at this
  rw [Array.getD_eq_getD_getElem?]
  simpa using this
 mem := fun b o v hv => hv
 obj := fun id o b ho => by simp at ho
 strat := fun id o ho => by simp at ho
 lt := fun b hb => by cases hb
 spt := fun t => by
  refine Spare.free fun own ys e => ?_
  rw [List.getD_eq_getElem?_getD] at e
  cases hx : xs[t]? with
  | none => rw [hx] at e; cases e
  | some x => rw [hx] at e; exact hf x (List.mem_of_getElem? hx) own ys e
 spc := fun id j => by simp [cellA, Spare]
 oinj := fun p q b hp => by cases hp
 osep := fun p b hp => by cases hp
 olt := fun p b hp => by cases hp
 La := fun b hb => by cases hb
 Oa := fun p b hp => by cases hp
 fresh := fun b hb => hb
theorem Ext.below {M M' : Mem} {w w' : World} (h : Ext (startA w) M w M' w') : Below w.heap.size w w' :=
 ⟨h.os, h.tape, h.output, h.size, fun k hk => (h.keep k hk (by show ¬ w.heap.size ≤ k; omega)).1⟩
theorem Pure.lift {P : Program} {f : FuncId} {xs : List AV} {b : Bool} (hp : Pure P f xs (.bool b)) (he : ∀ (as : Array Value) (w : World), (callFunc f as).run P w = .ok (.enter f as) w)
 {w : World} {vs : Array Value} (hr : RepL (memOf w) [] vs.toList xs) (hf : ∀ x ∈ xs, ∀ own ys, x = .lst own ys → own = 0) :
 Calls P f vs w fun e w' => e = .returned (.bool b) ∧ Below w.heap.size w w' := by
 have hs : vs.size = xs.length := by have := hr.length; simpa using this
 refine ((hp []).body he (startA_entry w) hs (St.start hr hf)).mono ?_
 rintro e w' ⟨v, r, H', M', L', O', rfl, ⟨rfl, rfl⟩, hst, hext, _⟩
 have := hst.env 0
 simp only [upd_same] at this
 cases this
 exact ⟨rfl, hext.below⟩
theorem addr_add {a : Addr} {n : Nat} (h : a.spot = none) : a.add n = ⟨a.block, a.off + n, none⟩ := by
 obtain ⟨b, o, s⟩ := a
 simp only at h
 subst h
 unfold Addr.add
 split
 ·rename_i e; subst e; rfl
 ·rfl
theorem cell_spot {w : World} {a : Addr} {v : Value} (h : w.cell? a = some v) : a.spot = none := by
 unfold World.cell? at h
 split at h
 ·split at h
  ·cases h
  ·rename_i hs; cases hsp : a.spot <;> simp_all
 ·cases h
theorem repL_flat {M : Mem} {L : List Nat} : ∀ {n : Nat} {cs : Nat → List Value} {f : Nat → AV}, (∀ i, i < n → RepL M L (cs i) (f i).cells) → RepL M L ((List.range n).flatMap cs) (flat ((List.range n).map f))
 | 0, _, _, _ => by simp [flat]; exact .nil
 | n + 1, cs, f, h => by
   have ih := repL_flat (n := n) (fun i hi => h i (by omega))
   simp only [List.range_succ, List.flatMap_append, List.map_append, flat] at ih ⊢
   refine ih.append ?_
   simpa using h n (by omega)
theorem range_cells {n e : Nat} {cs : Nat → List Value} : (∀ i, i < n → (cs i).length = e) → ∀ (j : Nat) (v : Value), ((List.range n).flatMap cs)[j]? = some v → ∃ i k, i < n ∧ k < e ∧ j = i * e + k ∧ (cs i)[k]? = some v := by
 induction n with
 | zero => intro _ j v h; simp at h
 | succ n ih =>
   intro hl j v h
   simp only [List.range_succ, List.flatMap_append] at h
   have hlen : ((List.range n).flatMap cs).length = n * e := by
    clear h ih
    induction n with
    | zero => simp
    | succ n ih2 =>
      simp only [List.range_succ, List.flatMap_append, List.length_append]
      rw [ih2 (fun i hi => hl i (by omega))]
      simp [hl n (by omega), Nat.succ_mul]
   rcases Nat.lt_or_ge j (n * e) with hj | hj
   ·rw [List.getElem?_append_left (by omega)] at h
    obtain ⟨i, k, h1, h2, h3, h4⟩ := ih (fun i hi => hl i (by omega)) j v h
    exact ⟨i, k, by omega, h2, h3, h4⟩
   ·rw [List.getElem?_append_right (by omega), hlen] at h
    simp only [List.flatMap_cons, List.flatMap_nil, List.append_nil] at h
    have hk := (List.getElem?_eq_some_iff.1 h).1
    rw [hl n (by omega)] at hk
    exact ⟨n, j - n * e, by omega, hk, by omega, h⟩
theorem rep_slice {w : World} {base e len cap : Nat} {a : Addr} (he : 0 < e) (hl : len ≤ cap) (hc : cap ≤ maxLen) (cs : Nat → List Value) (f : Nat → AV)
 (h : ∀ i, i < len → w.cells? base (a.add (i * e)) e = some (cs i) ∧ RepL (memOf w) [] (cs i) (f i).cells) : Rep (memOf w) [] (.slice (some a) len cap) (.lst 0 ((List.range len).map f)) := by
 have hcap : cap < 9223372036854775808 := by have : maxLen = 9223372036854775807 := rfl; omega
 rcases Nat.eq_zero_or_pos len with h0 | h0
 ·subst h0
  exact .lst0 _ _ _ hcap
 have hlen : ∀ i, i < len → (cs i).length = e := fun i hi => (World.cells?_some (h i hi).1).2.1
 have hcell : ∀ i, i < len → ∀ k, k < e → w.cell? ((a.add (i * e)).add k) = (cs i)[k]? := fun i hi => (World.cells?_some (h i hi).1).2.2
 have hspot : a.spot = none := by
  have h1 := hcell 0 h0 0 he
  rw [List.getElem?_eq_getElem (by rw [hlen 0 h0]; exact he)] at h1
  have h2 := cell_spot h1
  simpa [Addr.add] using h2
 have key : Rep (memOf w) [] (.slice (some ⟨a.block, a.off, none⟩) ((List.range len).map f).length cap) (.lst 0 ((List.range len).map f)) := by
  refine .lst a.block a.off cap 0 e ((List.range len).flatMap cs) _ he ?_ (by simpa using h0) (by simpa using hl) hcap (repL_flat fun i hi => (h i hi).2) ?_
  ·intro x hx
   obtain ⟨i, hi, rfl⟩ := List.mem_map.1 hx
   have hi := List.mem_range.1 hi
   rw [← (h i hi).2.length, hlen i hi]
  ·intro j v hv
   obtain ⟨i, k, h1, h2, rfl, h4⟩ := range_cells hlen j v hv
   have := hcell i h1 k h2
   rw [addr_add hspot, addr_add (by rfl)] at this
   show w.cell? ⟨a.block, a.off + (i * e + k), none⟩ = some v
   rw [← Nat.add_assoc, this, h4]
 have ea : (some a : Option Addr) = some ⟨a.block, a.off, none⟩ := by obtain ⟨b, o, s⟩ := a; simp only at hspot; rw [hspot]
 rw [ea]
 simpa using key
section
variable {H : Type} {enc : TypeId × Value → H} {P : Program}
theorem trodAll_below (hl : laidOutB P = true) {W W' : World} (hb : Below W.heap.size W W') : ∀ {ts : List TypeId} {vs : List Value} {ds : List (DataW H)} {ps : List MemPlace}, (∀ t ∈ ts, P.readableRec t = true ∧ t < P.types.size) →
 DataW.TrodAll enc P W 0 (fun _ => true) true ts vs ds ps → (∀ x ∈ ps, x.block < W.heap.size) → DataW.TrodAll enc P W' 0 (fun b => decide (b < W.heap.size)) true ts vs ds ps
 | [], [], [], _, _, h, _ => h
 | t :: ts, v :: vs, d :: ds, _, ht, ⟨p, q, h1, h2, e⟩, hp => by
   subst e
   exact ⟨p, q, Below.trod hl (ht t (by simp)).1 (ht t (by simp)).2 h1 hb (fun x hx => hp x (by simp [hx])), trodAll_below hl hb (fun t ht' => ht t (by simp [ht'])) h2 (fun x hx => hp x (by simp [hx])), rfl⟩
theorem post_law {fn : Func} {s : ChangeSpec} {apart : Bool} {W W' : World} {args : Array Value} {ds gs : List (DataW H)} {before : List MemPlace} {t : TypeId} (hl : laidOutB P = true) (hb : Below W.heap.size W W')
 (hW : DataW.Whole enc P fn.params.toList s.vars apart W args.toList ds gs before) (hv : s.vars = []) (hres : fn.resultTypes = #[t]) (ht : P.underlying t = some .bool) (hs : s.fn H ds = { results := [.lit (.bool true)], args := ds })
 (hp : fn.params.toList.all (fun t => P.readableRec t && decide (t < P.types.size)) = true) : s.post enc P fn apart true false false W args (.bool true) W' := by
 have hlt : ∀ x ∈ before, x.block < W.heap.size := fun x hx => by simpa using hW.lt x hx
 have hW0 := hW
 obtain ⟨p, q, h1, h2, h3, h4, h5⟩ := hW
 rw [hv] at h2
 obtain ⟨rfl, rfl⟩ := ChangeShapes.trodVars_none h2
 simp only [List.append_nil] at h3
 subst h3
 refine ⟨ds, [], before, [], before, [], hW0, ?_, ?_, ?_, hb.frame _, fun h => by cases h⟩
 ·simp only [List.append_nil, hs, hres]
  exact ChangeShapes.trodAll_mk1 (shut_bool ht true)
 ·simp only [List.append_nil, hs]
  exact trodAll_below hl hb (fun t ht => by simpa using List.all_eq_true.1 hp t ht) h1 hlt
 ·simp only [hv, List.append_nil, hs]
  rfl
end
end Go.Abs
end
section
namespace Go.Abs
open Go
structure Fam {σ : Type} (S : σ → List AObj) (p : Nat) (obj : σ → AObj) (n : Nat) : Prop where
 get : ∀ s, (S s)[p]? = some (obj s)
 set : ∀ s s', (S s).set p (obj s') = S s'
 len : ∀ s, (S s).length = n
namespace Fam
variable {σ : Type} {S : σ → List AObj} {p : Nat} {obj : σ → AObj} {n : Nat} (F : Fam S p obj n)
include F
theorem lt (s : σ) : p < n := by
 have := F.get s
 rw [← F.len s]
 exact (List.getElem?_eq_some_iff.1 this).1
theorem take (s : σ) (e : List AObj) : (S s ++ e).take n = S s := by
 rw [← F.len s]; simp
end Fam
theorem ret2w {Hs G : List AObj} {n0 : Nat} {v w x y : AV} {R : AV → List AObj → Prop} (hH : Hs.take n0 = G) (hb : x.blw n0 = true) (hb' : y.blw n0 = true) (hx : v.unown = x) (hy : w.unown = y) (hR : R (.tuple [x, y]) G) :
 aret2 n0 [v, w] Hs R := by
 subst hx hy hH
 exact ⟨n0, Nat.le_refl _, [v.unown, w.unown], LeL_refl _, by simp only [belowL, hb, hb', Bool.and_self], hR⟩
theorem ret1w {Hs G : List AObj} {n0 : Nat} {v x : AV} {R : AV → List AObj → Prop} (hH : Hs.take n0 = G) (hb : x.blw n0 = true) (hx : v = x) (hR : R x G) : aret1 n0 v Hs R := by
 subst hx hH
 exact ⟨n0, Nat.le_refl _, v, le_refl _, hb, hR⟩
theorem retw {Hs G : List AObj} {n0 s : Nat} {v x : AV} {R : AV → List AObj → Prop} (hH : Hs.take n0 = G) (hb : x.blw n0 = true) (hx : v = x) (hR : R x G) : aret n0 [.t s] [(s, v)] Hs R := by
 subst hx hH
 exact aret_one _ (Nat.le_refl _) (by rw [gt_cons, if_pos rfl]; exact hb) (by rw [gt_cons, if_pos rfl]; exact hR)
end Go.Abs
end
section
namespace Go.Abs
open Go
def aretC1 (C : List AObj → Nat → List AObj → Prop) (n0 : Nat) (v : AV) (H : List AObj) (R : AV → List AObj → Prop) : Prop :=
 ∃ m H', n0 ≤ m ∧ C H m H' ∧ ∃ r, v.le r ∧ r.blw m = true ∧ R r H'
@[congr] theorem aretC1_congr {C : List AObj → Nat → List AObj → Prop} {n0 : Nat} {x x' : AV} {H H' : List AObj} {R : AV → List AObj → Prop} (h : nrm x = x') (h2 : H = H') : aretC1 C n0 x H R = aretC1 C n0 x' H' R := by subst h; subst h2; rfl
theorem aretC_c {C : List AObj → Nat → List AObj → Prop} {n0 s : Nat} {sz : Option Nat} {env : Env} {H : List AObj} {R : AV → List AObj → Prop} : aretC C n0 [.c s sz] env H R = aload sz (get env s) H fun v => aretC1 C n0 v H R := _root_.id rfl
theorem aretC_t {C : List AObj → Nat → List AObj → Prop} {n0 s : Nat} {env : Env} {H : List AObj} {R : AV → List AObj → Prop} : aretC C n0 [.t s] env H R = aretC1 C n0 (get env s) H R := _root_.id rfl
theorem sealS_low {n0 : Nat} {H G : List AObj} (h : G.take n0 = H) (hl : H.length = n0) : sealS n0 G n0 H := by
 subst h
 refine ⟨by simp, fun id o ho => ?_⟩
 rw [List.getElem?_take] at ho
 split at ho
 ·exact .inr ⟨ho, fun h => by omega⟩
 ·cases ho
def only (n0 id : Nat) (G : List AObj) : List AObj := G.mapIdx fun j o => if j < n0 ∨ j = id then o else .dead
theorem sleL_refl (n0 : Nat) (env : Env) (H : List AObj) : sleL n0 env H env H := ⟨fun t => le_refl _, .inl rfl⟩
theorem sleL_eq {n0 : Nat} {env env' : Env} {H H' : List AObj} (he : env = env') (hH : H = H') : sleL n0 env H env' H' := by
 subst he; subst hH; exact sleL_refl _ _ _
def stepsX := And.intro @aretC_c (And.intro @aretC_t stepsW)
end Go.Abs
end
