/- Part 10 of 18 of the proof. -/
import Derived.Test.YtljchnfgjdjobaaGreatTah
import Derived.ProofKit
import Derived.Deep.Slices
import Derived.Deep.Strs
set_option linter.unusedVariables false
set_option linter.unusedSimpArgs false
set_option linter.defProp false
set_option linter.unusedSectionVars false
section
namespace Go.aL
open Go
theorem Qx : AV.any.ae = .any := _root_.id rfl
theorem nU (b : Bool) : (AV.bool b).ae = .bool b := _root_.id rfl
theorem m8 (k : IntKind) (n : Int) : (AV.int k n).ae = .int k n := _root_.id rfl
theorem zA (s : ByteArray) : (AV.str s).ae = .str s := _root_.id rfl
theorem Fh : AV.ah.ae = .ah := _root_.id rfl
theorem vg (o : Nat) (xs : List AV) : (AV.aq o xs).ae = .aq 0 xs := _root_.id rfl
theorem Qy (a b c d : Nat) : (AV.bg a b c d).ae = .bg a b c d := _root_.id rfl
theorem Qz (xs : List AV) : (AV.agg xs).ae = .agg xs := _root_.id rfl
theorem I5 (xs : List AV) : (AV.tuple xs).ae = .tuple xs := _root_.id rfl
theorem I6 (a b : Nat) : (AV.ptr a b).ae = .ptr a b := _root_.id rfl
theorem Fi (x : AV) : (AV.aj x).ae = .aj x := _root_.id rfl
theorem Ms : AV.qQ.ae = .qQ := _root_.id rfl
theorem I7 (a : Nat) : (AV.map a).ae = .map a := _root_.id rfl
theorem Mt : AV.iE.ae = .iE := _root_.id rfl
theorem OT (f : Fn) (a b : List AV) : (AV.fn f a b).ae = .fn f a b := _root_.id rfl
theorem Mv : AV.fx.ae = .fx := _root_.id rfl
theorem Mw (b : Bool) : (AV.bool b).cells = [.bool b] := _root_.id rfl
theorem QA (k : IntKind) (n : Int) : (AV.int k n).cells = [.int k n] := _root_.id rfl
theorem QB (s : ByteArray) : (AV.str s).cells = [.str s] := _root_.id rfl
theorem Mx : AV.ah.cells = [.ah] := _root_.id rfl
theorem QC (o : Nat) (xs : List AV) : (AV.aq o xs).cells = [.aq o xs] := _root_.id rfl
theorem QD (xs : List AV) : (AV.agg xs).cells = xs := _root_.id rfl
theorem Vw (f : Fn) (a b : List AV) : (AV.fn f a b).cells = [.fn f a b] := _root_.id rfl
theorem My : AV.fx.cells = [.fx] := _root_.id rfl
theorem QE (a b : Nat) : (AV.ptr a b).cells = [.ptr a b] := _root_.id rfl
theorem Mz (x : AV) : (AV.aj x).cells = [.aj x] := _root_.id rfl
theorem QF (a : Nat) : (AV.map a).cells = [.map a] := _root_.id rfl
theorem tO (b : Bool) : (AV.bool b).drop = .bool b := _root_.id rfl
theorem QG (k : IntKind) (n : Int) : (AV.int k n).drop = .int k n := _root_.id rfl
theorem QH (s : ByteArray) : (AV.str s).drop = .str s := _root_.id rfl
theorem MA : AV.ah.drop = .aq 0 [] := _root_.id rfl
theorem QI (o : Nat) (xs : List AV) : (AV.aq o xs).drop = .aq 0 xs := _root_.id rfl
theorem QJ (xs : List AV) : (AV.agg xs).drop = .agg xs := _root_.id rfl
theorem Vx (f : Fn) (a b : List AV) : (AV.fn f a b).drop = .fn f a b := _root_.id rfl
theorem MB : AV.fx.drop = .fx := _root_.id rfl
theorem QK (a b : Nat) : (AV.ptr a b).drop = .ptr a b := _root_.id rfl
theorem MC (x : AV) : (AV.aj x).drop = .aj x := _root_.id rfl
theorem QL (a : Nat) : (AV.map a).drop = .map a := _root_.id rfl
theorem Fj (b : Bool) : (AV.bool b).val = true := _root_.id rfl
theorem QM (k : IntKind) (n : Int) : (AV.int k n).val = true := _root_.id rfl
theorem QN (s : ByteArray) : (AV.str s).val = true := _root_.id rfl
theorem MD : AV.ah.val = true := _root_.id rfl
theorem QO (o : Nat) (xs : List AV) : (AV.aq o xs).val = true := _root_.id rfl
theorem QP (xs : List AV) : (AV.agg xs).val = true := _root_.id rfl
theorem Vy (f : Fn) (a b : List AV) : (AV.fn f a b).val = true := _root_.id rfl
theorem ME : AV.fx.val = true := _root_.id rfl
theorem QQ (a b : Nat) : (AV.ptr a b).val = true := _root_.id rfl
theorem MF (x : AV) : (AV.aj x).val = true := _root_.id rfl
theorem QR (a : Nat) : (AV.map a).val = true := _root_.id rfl
theorem zB (n : Nat) (b : Bool) : (AV.bool b).aZ n = true := _root_.id rfl
theorem iP (n : Nat) (k : IntKind) (m : Int) : (AV.int k m).aZ n = true := _root_.id rfl
theorem I8 (n : Nat) (s : ByteArray) : (AV.str s).aZ n = true := _root_.id rfl
theorem Fk (n : Nat) : AV.ah.aZ n = true := _root_.id rfl
theorem cR (n o : Nat) (xs : List AV) : (AV.aq o xs).aZ n = ak n xs := by rw [AV.aZ]
theorem vh (n : Nat) (xs : List AV) : (AV.agg xs).aZ n = ak n xs := by rw [AV.aZ]
theorem I9 (n : Nat) (xs : List AV) : (AV.tuple xs).aZ n = ak n xs := by rw [AV.aZ]
theorem rA (n a b : Nat) : (AV.ptr a b).aZ n = decide (a < n) := by rw [AV.aZ]
theorem Ja (n a : Nat) : (AV.map a).aZ n = decide (a < n) := by rw [AV.aZ]
theorem jE (n a b c d : Nat) : (AV.bg a b c d).aZ n = decide (a < n) := by rw [AV.aZ]
theorem zC (n : Nat) (x : AV) : (AV.aj x).aZ n = x.aZ n := by rw [AV.aZ]
theorem Vz (n : Nat) (f : Fn) (a b : List AV) : (AV.fn f a b).aZ n = (ak n a && ak n b) := by rw [AV.aZ]
theorem MG (n : Nat) : AV.fx.aZ n = true := _root_.id rfl
theorem cW (n : Nat) : ak n [] = true := _root_.id rfl
theorem bM (n : Nat) (x : AV) (xs : List AV) : ak n (x :: xs) = (x.aZ n && ak n xs) := by rw [ak]
section
variable (k : IntKind) (a b : Int) (φ : AV → Prop)
theorem QS : cV .add (.int k a) (.int k b) φ = φ (.int k (k.wrap (a + b))) := by simp [cV]
theorem QT : cV .sub (.int k a) (.int k b) φ = φ (.int k (k.wrap (a - b))) := by simp [cV]
theorem QU : cV .mul (.int k a) (.int k b) φ = φ (.int k (k.wrap (a * b))) := by simp [cV]
theorem QV : cV .rem (.int k a) (.int k b) φ = (b ≠ 0 ∧ φ (.int k (a.tmod b))) := by simp [cV]
theorem QW : cV .quo (.int k a) (.int k b) φ = (b ≠ 0 ∧ φ (.int k (k.wrap (a.tdiv b)))) := by simp [cV]
theorem QX : cV .eql (.int k a) (.int k b) φ = φ (.bool (decide (a = b))) := by simp [cV]
theorem QY : cV .neq (.int k a) (.int k b) φ = φ (.bool (decide (a ≠ b))) := by simp [cV]
theorem QZ : cV .lss (.int k a) (.int k b) φ = φ (.bool (decide (a < b))) := by simp [cV]
theorem Q0 : cV .leq (.int k a) (.int k b) φ = φ (.bool (decide (a ≤ b))) := by simp [cV]
theorem Q3 : cV .gtr (.int k a) (.int k b) φ = φ (.bool (decide (b < a))) := by simp [cV]
theorem Q4 : cV .geq (.int k a) (.int k b) φ = φ (.bool (decide (b ≤ a))) := by simp [cV]
theorem Q5 (s t : ByteArray) : cV .eql (.str s) (.str t) φ = φ (.bool (decide (s = t))) := by simp [cV]
theorem Q6 (s t : ByteArray) : cV .neq (.str s) (.str t) φ = φ (.bool (decide (s ≠ t))) := by simp [cV]
theorem Q7 (s t : ByteArray) : cV .add (.str s) (.str t) φ = (s.size + t.size < 9223372036854775808 ∧ φ (.str (s ++ t))) := by simp [cV]
theorem Q8 (q : Bool) : yE .not (.bool q) φ = φ (.bool (!q)) := _root_.id rfl
theorem Q9 : yE .neg (.int k a) φ = φ (.int k (k.wrap (0 - a))) := _root_.id rfl
theorem Ra (p q : Bool) : cM true (.bool p) (.bool q) φ = φ (.bool (decide (p ≠ q))) := _root_.id rfl
theorem Rb (p q : Bool) : cM false (.bool p) (.bool q) φ = φ (.bool (decide (p = q))) := _root_.id rfl
theorem YM (q : Bool) (ψ : Bool → Prop) : eI (.bool q) ψ = ψ q := _root_.id rfl
theorem Rc (s : ByteArray) (H : List aa) : eW (.str s) H φ = φ (.int .i64 s.size) := _root_.id rfl
theorem MH (H : List aa) : eW .ah H φ = φ (.int .i64 0) := _root_.id rfl
theorem Re (o : Nat) (xs : List AV) (H : List aa) : eW (.aq o xs) H φ = (xs.length < 9223372036854775808 → φ (.int .i64 xs.length)) := _root_.id rfl
theorem Rf (x y l c : Nat) (H : List aa) : eW (.bg x y l c) H φ = φ (.int .i64 l) := _root_.id rfl
theorem MJ (H : List aa) : eW .iE H φ = φ (.int .i64 0) := _root_.id rfl
theorem Rg (s : ByteArray) : aM 0 (.str s) = True := _root_.id rfl
theorem MK : aM 1 .ah = True := _root_.id rfl
theorem Rh (o : Nat) (xs : List AV) : aM 1 (.aq o xs) = True := _root_.id rfl
theorem Ri (x y l c : Nat) : aM 1 (.bg x y l c) = True := _root_.id rfl
theorem ML : aM 2 .iE = True := _root_.id rfl
theorem Rj (x : Nat) : aM 2 (.map x) = True := _root_.id rfl
theorem MM (q : Bool) (H : List aa) : aS none (.aj (.bool q)) H φ = φ (.bool q) := by simp [aS, AV.one, nU]
theorem Rk (H : List aa) : aS none (.aj (.int k a)) H φ = φ (.int k a) := by simp [aS, AV.one, m8]
theorem Rl (s : ByteArray) (H : List aa) : aS none (.aj (.str s)) H φ = φ (.str s) := by simp [aS, AV.one, zA]
theorem Rm (o : Nat) (xs : List AV) (H : List aa) : aS none (.aj (.aq o xs)) H φ = φ (.aq 0 xs) := by simp [aS, AV.one, vg]
theorem MN (H : List aa) : aS none (.aj .ah) H φ = φ .ah := by simp [aS, AV.one, Fh]
theorem VA (f : Fn) (x y : List AV) (H : List aa) : aS none (.aj (.fn f x y)) H φ = φ (.fn f x y) := by simp [aS, AV.one, OT]
theorem Rn (x y : Nat) : bS (.ptr x y) φ = φ (.ptr x y) := _root_.id rfl
theorem MO (x : AV) : bS (.aj x) φ = φ (.aj x) := _root_.id rfl
theorem Jb (xs : List AV) (i : Nat) : bD (.tuple xs) i φ = (i < xs.length ∧ φ (xs.getD i .any).ae) := _root_.id rfl
theorem Ro (id o off : Nat) (sz : Option Nat) : al off sz (.ptr id o) φ = φ (.ptr id (o + off)) := by simp [al]
end
section
variable {P : Px} {n0 : Nat} {env : Env} {H : List aa} {Q : Exit → Env → List aa → Prop}
theorem Jc (pass : Option Nat) (j : Nat) : aG env pass j [] = [] := _root_.id rfl
theorem Rp (pass : Option Nat) (j : Nat) (v : AV) (xs : List IX) : aG env pass j (.c v :: xs) = v.ae :: aG env pass (j + 1) xs := _root_.id rfl
theorem Rq (j s : Nat) (xs : List IX) : aG env none j (.t s :: xs) = (get env s).ae :: aG env none (j + 1) xs := by simp [aG]
theorem Rr (j s : Nat) (xs : List IX) : aG env (some 1999) j (.t s :: xs) = (if 1999 = j then get env s else (get env s).ae) :: aG env (some 1999) (j + 1) xs := by simp [aG]
theorem Ru (p j s : Nat) (xs : List IX) : aG env (some p) j (.t s :: xs) = (if p = j then get env s else (get env s).ae) :: aG env (some p) (j + 1) xs := by simp [aG]
theorem GJ (args : List IX) : bf args none = none := _root_.id rfl
theorem MP (x : Nat) (xs : List IX) : bf (.t x :: xs) (some 0) = some x := by simp [bf]
theorem MQ (x : Nat) (y : IX) (xs : List IX) : bf (y :: .t x :: xs) (some 1) = some x := by simp [bf]
theorem MR (x : Nat) (y z : IX) (xs : List IX) : bf (y :: z :: .t x :: xs) (some 2) = some x := by simp [bf]
theorem GK : bf [] (some 1999) = none := _root_.id rfl
theorem GL (x : IX) : bf [x] (some 1999) = none := _root_.id rfl
theorem GM (x y : IX) : bf [x, y] (some 1999) = none := _root_.id rfl
theorem GN (x y z : IX) : bf [x, y, z] (some 1999) = none := _root_.id rfl
theorem GO (x y z u : IX) : bf [x, y, z, u] (some 1999) = none := _root_.id rfl
theorem Bv : cD env none = env := _root_.id rfl
theorem Bw (d : Nat) : cD env (some d) = (d, (get env d).ae) :: env := _root_.id rfl
theorem Jd (z : AV) : put none z env = env := _root_.id rfl
theorem Je (d : Nat) (z : AV) : put (some d) z env = (d, z) :: env := _root_.id rfl
theorem ay (k : Nat) (v : AV) (t : Nat) : get ((k, v) :: env) t = if t = k then v else get env t := _root_.id rfl
theorem Rv (t : Nat) : get [] t = .any := _root_.id rfl
theorem aW {s : Nat} {R : AV → List aa → Prop} (m : Nat) (h0 : n0 ≤ m) (hb : (get env s).aZ m = true) (h : R (get env s) (H.take m)) : bV n0 [.t s] env H R :=
 ⟨m, h0, _, le_refl _, hb, h⟩
end
def Pure (P : Program) (g : FuncId) (xs : List AV) (v : AV) : Prop := ∀ H, au P g xs H fun r H' => r = v ∧ H' = H
theorem Pure.mk {P : Program} {g : FuncId} {xs : List AV} {v : AV} (hb : ak 0 xs = true) (h : au P g xs [] fun r H' => r = v ∧ H' = []) : Pure P g xs v :=
 au.frame (fun x hx => (ba 0 xs).1 hb x hx) h
def o9 (n : Nat) (env : Env) : Bool := env.all fun p => p.2.aZ n
theorem DJ {n : Nat} {env : Env} (h : o9 n env = true) (t : Nat) : (get env t).aZ n = true := by
 rcases get_mem (env := env) (t := t) rfl with h' | h'
 ·rw [h']; rfl
 ·exact List.all_eq_true.1 h _ h'
theorem Rw (n : Nat) : o9 n [] = true := _root_.id rfl
theorem MS (n k : Nat) (v : AV) (env : Env) : o9 n ((k, v) :: env) = (v.aZ n && o9 n env) := _root_.id rfl
theorem Bx {n0 : Nat} {env aE : Env} {H H' : List aa} (he : env = aE) (h0 : n0 ≤ H'.length) (hb : o9 H'.length aE = true) (e : List aa) (hH : H = H' ++ e) : sle n0 env H aE H' := by
 subst he; subst hH
 exact ⟨fun t => le_refl _, .inr ⟨H'.length, h0, by simp, DJ hb⟩⟩
theorem aH {n0 : Nat} {env aE : Env} {H H' : List aa} (he : env = aE) (hH : H = H') : sle n0 env H aE H' := by
 subst he; subst hH; exact aB _ _ _
theorem ax (i : Nat) (h : i + 1 < 9223372036854775808) : IntKind.i64.wrap ((i : Int) + 1) = ((i + 1 : Nat) : Int) := by
 show IntKind.wrap .i64 ((i : Int) + 1) = _
 unfold IntKind.wrap
 simp [IntKind.signed, IntKind.bits]
 omega
end Go.aL
end
section
namespace Go.aL
open Go
def fY {α : Type} (x : α) : α := x
theorem Rx {α : Type} (x : α) : fY x = x := _root_.id rfl
section
variable {φ : AV → Prop}
theorem Jf {op : BinOp} {x y : AV} (h : cV op x y φ) : ∃ z, cV op x y (fun w => w = z) ∧ φ z := by
 unfold cV at *
 split at h <;> (try exact h.elim)
 ·obtain ⟨h0, h⟩ := h
  split at h <;> first | exact ⟨_, ⟨h0, rfl⟩, h⟩ | exact ⟨_, ⟨h0, h.1, rfl⟩, h.2⟩ | exact h.elim
 ·split at h <;> first | exact ⟨_, rfl, h⟩ | exact ⟨_, ⟨h.1, rfl⟩, h.2⟩ | exact h.elim
theorem DK {op : BinOp} {x y : AV} (h : dJ op x y φ) : ∃ z, dJ op x y (fun w => w = z) ∧ φ z := by
 unfold dJ at *
 split at h <;> (try exact h.elim)
 obtain ⟨h0, h⟩ := h
 split at h <;> first | exact ⟨_, ⟨h0, rfl⟩, h⟩ | exact h.elim
theorem By {neq : Bool} {x y : AV} (h : cM neq x y φ) : ∃ z, cM neq x y (fun w => w = z) ∧ φ z := by
 unfold cM at *
 split at h <;> first | exact ⟨_, rfl, h⟩ | exact h.elim
theorem MT {op : UnOp} {x : AV} (h : yE op x φ) : ∃ z, yE op x (fun w => w = z) ∧ φ z := by
 unfold yE at *
 split at h <;> first | exact ⟨_, rfl, h⟩ | exact h.elim
theorem GP {sz : Option Nat} {x : AV} {H : List aa} (h : aS sz x H φ) : ∃ z, aS sz x H (fun w => w = z) ∧ φ z := by
 unfold aS at *
 split at h <;> (try exact h.elim) <;> (split at h <;> (try exact h.elim)) <;> first | exact ⟨_, ⟨h.1, rfl⟩, h.2⟩ | (split at h <;> exact ⟨_, ⟨h.1, rfl⟩, h.2⟩)
theorem xI {off : Nat} {sz : Option Nat} {xs : List AV} {g : AV → AV} (h : apart off sz xs fun z => φ (g z)) : ∃ z, (apart off sz xs fun w => g w = z) ∧ φ z := by
 unfold apart at *
 split at h <;> first | exact ⟨_, ⟨h.1, rfl⟩, h.2⟩ | exact ⟨_, ⟨h.1, h.2.1, rfl⟩, h.2.2⟩
theorem DL {off : Nat} {sz : Option Nat} {x : AV} (h : eJ off sz x φ) : ∃ z, eJ off sz x (fun w => w = z) ∧ φ z := by
 unfold eJ at *
 split at h <;> (try exact h.elim)
 exact xI h
theorem vi {off : Nat} {sz : Option Nat} {x : AV} (h : al off sz x φ) : ∃ z, al off sz x (fun w => w = z) ∧ φ z := by
 unfold al at *
 split at h <;> (try exact h.elim)
 ·exact ⟨_, rfl, h⟩
 ·exact xI h
theorem vj {esz : Nat} {x i : AV} (h : aA esz x i φ) : ∃ z, aA esz x i (fun w => w = z) ∧ φ z := by
 unfold aA at *
 split at h <;> first | exact ⟨_, ⟨h.1, h.2.1, rfl⟩, h.2.2⟩ | exact h.elim
theorem wO {x i : AV} (h : bI x i φ) : ∃ z, bI x i (fun w => w = z) ∧ φ z := by
 unfold bI at *
 split at h <;> first | exact ⟨_, ⟨h.1, h.2.1, rfl⟩, h.2.2⟩ | exact h.elim
theorem wP {n : Nat} {x i : AV} (h : bR n x i φ) : ∃ z, bR n x i (fun w => w = z) ∧ φ z := by
 unfold bR at *
 split at h <;> first | exact ⟨_, ⟨h.1, h.2.1, h.2.2.1, rfl⟩, h.2.2.2⟩ | exact h.elim
theorem zD {x : AV} {i : Nat} (h : bD x i φ) : ∃ z, bD x i (fun w => w = z) ∧ φ z := by
 unfold bD at *
 split at h <;> first | exact ⟨_, ⟨h.1, rfl⟩, h.2⟩ | exact h.elim
theorem wQ {x : AV} (h : bS x φ) : ∃ z, bS x (fun w => w = z) ∧ φ z := by
 unfold bS at *
 split at h <;> first | exact ⟨_, rfl, h⟩ | exact h.elim
theorem zE {k : IntKind} {x : AV} (h : cr k x φ) : ∃ z, cr k x (fun w => w = z) ∧ φ z := by
 unfold cr at *
 split at h <;> first | exact ⟨_, rfl, h⟩ | exact h.elim
theorem MU {big : Bool} {x y : AV} (h : wv big x y φ) : ∃ z, wv big x y (fun w => w = z) ∧ φ z := by
 unfold wv at *
 split at h <;> first | exact ⟨_, rfl, h⟩ | exact h.elim
theorem nV {x : Option AV} {d : Nat} {c1 c2 : Nat → Prop} {g : Nat → AV} (h : dL x d fun k => c1 k ∧ c2 k ∧ φ (g k)) : ∃ z, (dL x d fun k => c1 k ∧ c2 k ∧ g k = z) ∧ φ z := by
 unfold dL at *
 split at h
 ·exact ⟨_, ⟨h.1, h.2.1, rfl⟩, h.2.2⟩
 ·exact ⟨_, ⟨h.1, h.2.1, h.2.2.1, rfl⟩, h.2.2.2⟩
 ·exact h.elim
theorem iq {x : Option AV} {d : Nat} {ψ : (AV → Prop) → Nat → Prop} (h : dL x d (ψ φ)) (hd : ∀ k, ψ φ k → ∃ z, ψ (fun w => w = z) k ∧ φ z) : ∃ z, dL x d (ψ fun w => w = z) ∧ φ z := by
 unfold dL at *
 split at h
 ·exact hd _ h
 ·obtain ⟨z, h2, h3⟩ := hd _ h.2; exact ⟨z, ⟨h.1, h2⟩, h3⟩
 ·exact h.elim
theorem DM {esz : Nat} {x : AV} {lo hi mx : Option AV} (h : fq esz x lo hi mx φ) : ∃ z, fq esz x lo hi mx (fun w => w = z) ∧ φ z := by
 unfold fq at *
 split at h <;> (try exact h.elim)
 rename_i xs ft
 cases mx with
 | none => exact iq (ψ := fun φ h => dL lo 0 fun l => l ≤ h ∧ h ≤ xs.length ∧ φ (.aq 0 ((xs.take h).drop l))) h fun k h => nV (c1 := fun l => l ≤ k) (c2 := fun _ => k ≤ xs.length) (g := fun l => .aq 0 ((xs.take k).drop l)) h
 | some m =>
   refine iq (ψ := fun φ h => dL lo 0 fun l => l ≤ h ∧ h ≤ xs.length ∧ hi.isSome = true ∧ dL (some m) 0 fun m => m = h ∧ (∀ y ∈ xs, y.cells.length = esz) ∧ φ (.aq esz ((xs.take h).drop l))) h fun k h => ?_
   refine iq (ψ := fun φ l => l ≤ k ∧ k ≤ xs.length ∧ hi.isSome = true ∧ dL (some m) 0 fun m => m = k ∧ (∀ y ∈ xs, y.cells.length = esz) ∧ φ (.aq esz ((xs.take k).drop l))) h fun l h => ?_
   obtain ⟨h1, h2, h3, h4⟩ := h
   obtain ⟨z, k1, k2⟩ := nV (g := fun _ => .aq esz ((xs.take k).drop l)) h4
   exact ⟨z, ⟨h1, h2, h3, k1⟩, k2⟩
theorem Bz {esz : Nat} {x : AV} {lo hi mx : Option AV} (h : bB esz x lo hi mx φ) : ∃ z, bB esz x lo hi mx (fun w => w = z) ∧ φ z := by
 unfold bB gn nI at *
 split at h
 ·rename_i id off len cap
  split at h
  rotate_left
  ·rename_i m
   obtain ⟨h1, h2⟩ := h
   have := iq (ψ := fun φ m => dL hi len fun h => dL lo 0 fun l => l ≤ h ∧ h ≤ m ∧ m ≤ cap ∧ φ (.bg id (if m = l then off else off + l * esz) (h - l) (m - l))) h2 fun m h =>
    iq (ψ := fun φ h => dL lo 0 fun l => l ≤ h ∧ h ≤ m ∧ m ≤ cap ∧ φ (.bg id (if m = l then off else off + l * esz) (h - l) (m - l))) h fun k h =>
     iq (ψ := fun φ l => l ≤ k ∧ k ≤ m ∧ m ≤ cap ∧ φ (.bg id (if m = l then off else off + l * esz) (k - l) (m - l))) h fun l h => ⟨_, ⟨h.1, h.2.1, h.2.2.1, rfl⟩, h.2.2.2⟩
   obtain ⟨z, k1, k2⟩ := this
   exact ⟨z, ⟨h1, k1⟩, k2⟩
  have h2 := h
  have := iq (ψ := fun φ h => dL lo 0 fun l => l ≤ h ∧ h ≤ cap ∧ φ (.bg id (if cap = l then off else off + l * esz) (h - l) (cap - l))) h2 fun k h => nV (c1 := fun l => l ≤ k) (c2 := fun _ => k ≤ cap) (g := fun l => .bg id (if cap = l then off else off + l * esz) (k - l) (cap - l)) h
  obtain ⟨z, k1, k2⟩ := this
  exact ⟨z, k1, k2⟩
 ·obtain ⟨z, k1, k2⟩ := DM h.2
  exact ⟨z, ⟨h.1, k1⟩, k2⟩
theorem wR {x : AV} {lo hi : Option AV} (h : b8 x lo hi φ) : ∃ z, b8 x lo hi (fun w => w = z) ∧ φ z := by
 unfold b8 at *
 split at h <;> (try exact h.elim)
 rename_i s
 exact iq (ψ := fun φ h => dL lo 0 fun l => l ≤ h ∧ h ≤ s.size ∧ φ (.str (s.extract l h))) h fun k h => nV (c1 := fun l => l ≤ k) (c2 := fun _ => k ≤ s.size) (g := fun l => .str (s.extract l k)) h
theorem BA {kd : Nat} {z m k : AV} {ok : Bool} {H : List aa} (h : cc kd z m k ok H φ) : ∃ y, cc kd z m k ok H (fun w => w = y) ∧ φ y := by
 unfold cc at *
 split at h <;> (try exact h.elim) <;> first | exact ⟨_, rfl, h⟩ | exact ⟨_, ⟨h.1, rfl⟩, h.2⟩ | (split at h <;> (try exact h.elim) <;> first | exact ⟨_, rfl, h⟩ | exact ⟨_, ⟨h.1, rfl⟩, h.2⟩ | (split at h <;> (try exact h.elim) <;> first | exact ⟨_, rfl, h⟩ | exact ⟨_, ⟨h.1, rfl⟩, h.2⟩))
theorem sN {esz : Nat} {own : Nat} : ∀ {ps : List (Nat × AV)} {zs : List AV}, bk zs esz ps (fun v => φ (.aq own v)) → ∃ z, bk zs esz ps (fun v => .aq own v = z) ∧ φ z
 | [], zs, h => ⟨_, rfl, h⟩
 | (i, x) :: r, zs, h => by
   obtain ⟨z, k1, k2⟩ := sN h.2.2.2
   exact ⟨z, ⟨h.1, h.2.1, h.2.2.1, k1⟩, k2⟩
theorem xJ : ∀ {ps : List (Nat × Nat × AV)} {zs : List AV}, gk zs ps (fun v => φ (.agg v)) → ∃ z, gk zs ps (fun v => .agg v = z) ∧ φ z
 | [], zs, h => ⟨_, rfl, h⟩
 | (off, sz, x) :: r, zs, h => by
   obtain ⟨z, k1, k2⟩ := xJ h.2.2.2
   exact ⟨z, ⟨h.1, h.2.1, h.2.2.1, k1⟩, k2⟩
end
def fD (v : AV) (A B : Prop) : Prop := eI v fun q => (q = true → A) ∧ (q = false → B)
@[congr] theorem OU {v v' : AV} {A B : Prop} (h : fY v = v') : fD v A B = fD v' A B := by subst h; rfl
theorem MV (A B : Prop) : fD (.bool true) A B = A := by simp [fD, eI]
theorem MW (A B : Prop) : fD (.bool false) A B = B := by simp [fD, eI]
theorem MX (b : Bool) (A B : Prop) : fD (.bool (!b)) A B = fD (.bool b) B A := by cases b <;> simp [fD, eI]
theorem MY (p : Prop) [Decidable p] (A B : Prop) : fD (.bool (decide p)) A B = ((p → A) ∧ (¬ p → B)) := by simp [fD, eI]
theorem tP {b : Bool} {A B : Prop} (h1 : b = true → A) (h2 : b = false → B) : fD (.bool b) A B := ⟨h1, h2⟩
def dC (v : AV) (g : Nat) (want : Bool) (env : Env) (yes no : Env → Prop) : Prop :=
 match v with
 | .bool b => (b = want → yes ((g, .bool want) :: env)) ∧ (b = (!want) → no ((g, .bool (!want)) :: env))
 | .tuple [] => no env
 | _ => False
@[congr] theorem MZ {v v' : AV} {g : Nat} {want : Bool} {env : Env} {yes no : Env → Prop} (h : fY v = v') : dC v g want env yes no = dC v' g want env yes no := by subst h; rfl
section
variable (g : Nat) (env : Env) (yes no : Env → Prop)
theorem VB : dC (.bool true) g true env yes no = yes ((g, .bool true) :: env) := by simp [dC]
theorem VC : dC (.bool true) g false env yes no = no ((g, .bool true) :: env) := by simp [dC]
theorem VD : dC (.bool false) g true env yes no = no ((g, .bool false) :: env) := by simp [dC]
theorem VE : dC (.bool false) g false env yes no = yes ((g, .bool false) :: env) := by simp [dC]
theorem YN (want : Bool) : dC (.tuple []) g want env yes no = no env := _root_.id rfl
theorem VF (p : Prop) [Decidable p] : dC (.bool (decide p)) g true env yes no = ((p → yes ((g, .bool true) :: env)) ∧ (¬ p → no ((g, .bool false) :: env))) := by simp [dC]
theorem VG (p : Prop) [Decidable p] : dC (.bool (decide p)) g false env yes no = ((¬ p → yes ((g, .bool false) :: env)) ∧ (p → no ((g, .bool true) :: env))) := by simp [dC]
end
def BB (P : Px) (g : FuncId) (xs : List AV) (H : List aa) (K : AV → List aa → Prop) : Prop := ∃ bP, xp xs bP ∧ dW P g bP H K
@[congr] theorem OV {P : Px} {g : FuncId} {xs xs' : List AV} {H H' : List aa} {K : AV → List aa → Prop} (h : fY xs = xs') (h2 : H = H') : BB P g xs H K = BB P g xs' H' K := by subst h; subst h2; rfl
theorem ag {P : Program} {lo : Option Nat} {g : FuncId} {xs : List AV} {H : List aa} {R K : AV → List aa → Prop} (hc : au P g xs H R) (hk : ∀ r H', R r H' → K r H') : BB ⟨P, lo⟩ g xs H K := ⟨xs, ca _, dW.of (hc.mono hk)⟩
theorem af {P : Program} {lo : Option Nat} {g : FuncId} {xs : List AV} {v : AV} {H : List aa} {K : AV → List aa → Prop} (hc : Pure P g xs v) (hk : K v H) : BB ⟨P, lo⟩ g xs H K :=
 ⟨xs, ca _, dW.of ((hc H).mono fun r H' ⟨h1, h2⟩ => by rw [h1, h2]; exact hk)⟩
theorem M4 {P : Px} {env : Env} {H : List aa} (g : FuncId) (first cap : List AV) (args : List IX) (pass : Option Nat) (K : AV → Env → List aa → Prop) : oB P (.fn (.func g) first cap) args pass env H K =
 BB P g (first.map AV.ae ++ aG env pass 0 args ++ cap.map AV.ae) H (fun r H' => K r (cD env (bf args pass)) H') := _root_.id rfl
@[congr] theorem OW {P : Px} {f f' : AV} {args : List IX} {pass : Option Nat} {env : Env} {H : List aa} {K : AV → Env → List aa → Prop} (h : fY f = f') : oB P f args pass env H K = oB P f' args pass env H K := by subst h; rfl
def BC (P : Px) (st : Bool) (g : FuncId) (xs : List AV) (H : List aa) (K : AV → Prop) : Prop :=
 ∃ x, (match st with
  | true => ∃ bP, xp xs bP ∧ au P.prog g bP H (fun r H' => r = x ∧ H' = H)
  | false => ∀ H, ∃ bP, xp xs bP ∧ au P.prog g bP H (fun r H' => r = x ∧ H' = H)) ∧ K x
@[congr] theorem OX {P : Px} {st : Bool} {g : FuncId} {xs xs' : List AV} {H : List aa} {K : AV → Prop} (h : fY xs = xs') : BC P st g xs H K = BC P st g xs' H K := by subst h; rfl
theorem aI {P : Program} {lo : Option Nat} {st : Bool} {g : FuncId} {xs : List AV} {v : AV} {H : List aa} {K : AV → Prop} (hc : Pure P g xs v) (hk : K v) : BC ⟨P, lo⟩ st g xs H K :=
 ⟨v, (by cases st <;> first | exact ⟨xs, ca _, hc H⟩ | exact fun H => ⟨xs, ca _, hc H⟩), hk⟩
def pc (P : Px) (st : Bool) (f : AV) (xs : List AV) (H : List aa) (K : AV → Prop) : Prop :=
 match f with
 | .fn (.func g) first cap => BC P st g (first.map AV.ae ++ xs ++ cap.map AV.ae) H K
 | _ => False
@[congr] theorem M5 {P : Px} {st : Bool} {f f' : AV} {xs xs' : List AV} {H : List aa} {K : AV → Prop} (h : fY f = f') (h2 : xs = xs') : pc P st f xs H K = pc P st f' xs' H K := by subst h; subst h2; rfl
theorem GQ {P : Px} {st : Bool} (g : FuncId) (first cap xs : List AV) (H : List aa) (K : AV → Prop) : pc P st (.fn (.func g) first cap) xs H K = BC P st g (first.map AV.ae ++ xs ++ cap.map AV.ae) H K := _root_.id rfl
def gM (x : AV) (H : List aa) (φ : AV → Prop) : Prop := match x with | .aq _ xs => φ (.int .i64 xs.length) | x => eW x H φ
@[congr] theorem OY {x x' : AV} {H : List aa} {φ : AV → Prop} (h : fY x = x') : gM x H φ = gM x' H φ := by subst h; rfl
theorem GR {x : AV} {H : List aa} {φ : AV → Prop} (h : gM x H φ) : ∃ z, eW x H (fun w => w = z) ∧ φ z := by
 cases x with
 | aq o xs => exact ⟨_, fun _ => rfl, h⟩
 | map id =>
   simp only [gM, eW] at h ⊢
   split at h
   ·exact ⟨_, rfl, h⟩
   ·exact h.elim
 | _ => first | exact ⟨_, rfl, h⟩ | exact False.elim h
def nW (kd : Nat) (neq : Bool) (x : AV) (φ : AV → Prop) : Prop := match isNil kd x with | some b => φ (.bool (if neq then !b else b)) | none => False
@[congr] theorem Lh {kd : Nat} {neq : Bool} {x x' : AV} {φ : AV → Prop} (h : fY x = x') : nW kd neq x φ = nW kd neq x' φ := by subst h; rfl
def vk (o : bX) (ρ : IX → AV) (H : List aa) (K : AV → Prop) : Prop :=
 match o with
 | .set i false => K (ρ i).ae
 | .pick c a b => fD (ρ c) (K (ρ a).ae) (K (ρ b).ae)
 | .bin op i j => cV op (ρ i) (ρ j) K
 | .shift op i j => dJ op (ρ i) (ρ j) K
 | .gP neq i j => cM neq (ρ i) (ρ j) K
 | .iU kd neq i => nW kd neq (ρ i) K
 | .un op i => yE op (ρ i) K
 | .lg i => (ρ i).val = true ∧ K (.aj (ρ i))
 | .build z ps => cj z.cells (ps.map fun q => (q.1, q.2.1, ρ q.2.2)) K
 | .buildSlice own esz z len ps => bk (List.replicate len (aT z)) esz (ps.map fun q => (q.1, ρ q.2)) fun xs => K (.aq own xs)
 | .load sz i => aS sz (ρ i) H K
 | .nilCheck i => bS (ρ i) K
 | .fieldAddr off sz i => al off sz (ρ i) K
 | .field off sz i => eJ off sz (ρ i) K
 | .indexAddr esz i j => (∀ own xs, ρ i = .aq own xs → ∀ z ∈ xs, z.cells.length = esz) ∧ aA esz (ρ i) (ρ j) K
 | .c8 i j => bI (ρ i) (ρ j) K
 | .dH n i j => bR n (ρ i) (ρ j) K
 | .slice esz i lo hi mx => bB esz (ρ i) (lo.map ρ) (hi.map ρ) (mx.map ρ) K
 | .dI i lo hi => b8 (ρ i) (lo.map ρ) (hi.map ρ) K
 | .len kd i => aM kd (ρ i) ∧ gM (ρ i) H K
 | .lookup kd z m k ok => cc kd z (ρ m) (ρ k) ok H K
 | .fn f first cap => K (.fn f (first.map fun x => (ρ x).ae) (cap.map fun x => (ρ x).ae))
 | .extract i k => bD (ρ i) k K
 | .eC k i => cr k (ρ i) K
 | .mx big i j => wv big (ρ i) (ρ j) K
 | _ => False
theorem BD {P : Px} {o : bX} {ρ : IX → AV} {H : List aa} {K : AV → Prop} (h : vk o ρ H K) : ∃ x, cT P o ρ H x ∧ K x := by
 unfold vk at h
 split at h
 ·exact ⟨_, rfl, h⟩
 ·unfold fD eI at h
  simp only [cT, eI]
  split at h
  ·rename_i b hb
   cases b with
   | true => exact ⟨_, ⟨fun _ => rfl, fun e => by cases e⟩, h.1 rfl⟩
   | false => exact ⟨_, ⟨fun e => (by cases e), fun _ => rfl⟩, h.2 rfl⟩
  ·exact h.elim
 ·exact Jf h
 ·exact DK h
 ·exact By h
 ·unfold nW at h
  split at h
  ·rename_i b hb
   refine ⟨_, ?_, h⟩
   simp only [cT, dc, hb]
  ·exact h.elim
 ·exact MT h
 ·exact ⟨_, ⟨h.1, rfl⟩, h.2⟩
 ·exact xJ h
 ·exact sN h
 ·exact GP h
 ·exact wQ h
 ·exact vi h
 ·exact DL h
 ·obtain ⟨z, k1, k2⟩ := vj h.2
  exact ⟨z, ⟨h.1, k1⟩, k2⟩
 ·exact wO h
 ·exact wP h
 ·exact Bz h
 ·exact wR h
 ·obtain ⟨z, k1, k2⟩ := GR h.2
  exact ⟨z, ⟨h.1, k1⟩, k2⟩
 ·exact BA h
 ·exact ⟨_, rfl, h⟩
 ·exact zD h
 ·exact zE h
 ·exact MU h
 ·exact h.elim
theorem GS {P : Px} {o : bX} {ρ : IX → AV} {K : AV → Prop} (h : vk o ρ [] K) : ∃ x, (∀ H, cT P o ρ H x) ∧ K x := by
 obtain ⟨x, h1, h2⟩ := BD (P := P) h
 have hs : o.stays = true := by
  cases o <;> first | rfl | exact h.elim
 exact ⟨x, fun H => by have := xx (e := H) hs h1; simpa using this, h2⟩
def k7 (P : Px) (st : Bool) (o : bX) (ρ : IX → AV) (H : List aa) (K : AV → Prop) : Prop :=
 match o with
 | .call f args none => pc P st (ρ f) (args.map fun x => (ρ x).ae) H K
 | o => vk o ρ (match st with | true => H | false => []) K
theorem Jg {P : Px} {st : Bool} {o : bX} {ρ : IX → AV} {H : List aa} {K : AV → Prop} (h : k7 P st o ρ H K) : ∃ x, dv P st o ρ H x ∧ K x := by
 unfold k7 at h
 split at h
 ·rename_i f args
  unfold pc at h
  split at h
  ·rename_i g first cap e
   obtain ⟨x, h1, h2⟩ := h
   cases st with
   | true => exact ⟨x, by simp only [dv, cT, e]; exact h1, h2⟩
   | false => exact ⟨x, by simp only [dv, cT, e]; exact h1, h2⟩
  ·exact h.elim
 ·cases st with
  | true => exact BD h
  | false => exact GS h
def Fl (P : Px) (st : Bool) (o : bu) (env : Env) (H : List aa) (K : Env → Prop) : Prop :=
 match o.g with
 | none => k7 P st o.op (ap env) H fun x => K (put o.dst x env)
 | some (g, want) => dC (get env g) g want env (fun _ => k7 P st o.op (ap env) H fun x => K (put o.dst x env)) (fun _ => K (put o.dst (.tuple []) env))
theorem BE {P : Px} {st : Bool} {o : bu} {env : Env} {H : List aa} {K1 K2 : Env → Prop} (h : Fl P st o env H K1) (hK : ∀ e, K1 e → K2 e) : sy P st o env H K2 := by
 unfold Fl at h
 unfold sy
 split at h
 ·rename_i e
  rw [e]
  obtain ⟨x, h1, h2⟩ := Jg h
  exact ⟨x, h1, hK _ h2⟩
 ·rename_i g want e
  rw [e]
  unfold dC at h
  unfold gS
  dsimp only
  split at h
  ·rename_i b hb
   rw [hb]
   refine ⟨fun eb => ?_, fun eb => hK _ (h.2 eb)⟩
   obtain ⟨x, h1, h2⟩ := Jg (h.1 eb)
   exact ⟨x, h1, hK _ h2⟩
  ·rename_i hb
   rw [hb]
   exact hK _ h
  ·exact h.elim
theorem BF {P : Px} {o : bX} {dst : Option Nat} {env : Env} {H : List aa} {K1 K2 : Env → List aa → Prop} (h : bt P o dst env H K1) (hK : ∀ e H', K1 e H' → K2 e H') : bt P o dst env H K2 :=
 nN (fun _ _ => rfl) h fun mods H' _ _ _ hk => hK _ _ hk
theorem rB {P : Px} {o : bu} {env : Env} {H : List aa} {K1 K2 : Env → List aa → Prop} (h : ra P o env H K1) (hK : ∀ e H', K1 e H' → K2 e H') : ra P o env H K2 := by
 unfold ra at *
 split at h
 ·exact BF h hK
 ·rename_i g want e
  unfold gS at *
  split at h
  ·exact ⟨fun eb => BF (h.1 eb) hK, fun eb => hK _ _ (h.2 eb)⟩
  ·exact hK _ _ h
  ·exact h.elim
theorem rC {P : Px} : ∀ {ops : List bu} {env : Env} {H : List aa} {K1 K2 : Env → List aa → Prop}, iZ P ops env H K1 → (∀ e H', K1 e H' → K2 e H') → iZ P ops env H K2
 | [], _, _, _, _, h, hK => hK _ _ h
 | o :: r, _, _, _, _, h, hK => rB h fun _ _ h => rC h hK
def iQ (P : Px) : DT → Env → List aa → (Env → List aa → Prop) → Prop
 | .done, env, H, K => K env H
 | .take st o r, env, H, K => Fl P st o env H fun env => iQ P r env H K
 | .br o t rest, env, H, K => ra P o env H (fun env H => iQ P t env H K) ∧ iQ P rest env H K
 | .nil, _, _, _ => True
theorem qk {P : Px} : ∀ {t : DT} {env : Env} {H : List aa} {K1 K2 : Env → List aa → Prop}, iQ P t env H K1 → (∀ e H', K1 e H' → K2 e H') → tF P t env H K2
 | .done, _, _, _, _, h, hK => hK _ _ h
 | .take st o r, _, _, _, _, h, hK => BE h fun _ h => qk h hK
 | .br o t rest, _, _, _, _, h, hK => ⟨rB h.1 fun _ _ h => qk h hK, qk h.2 hK⟩
 | .nil, _, _, _, _, h, hK => trivial
def vn (P : Px) (f : AV) (lc : ig) (env : Env) (H : List aa) (K : Option Code → List aa → Prop) : Prop :=
 match f with
 | .fn (.func g) first cap => (∀ (as : Array Value) (w : World), (callFunc g as).run P.prog w = .ok (.enter g as) w) ∧
    ∃ bP, xp (first.map AV.ae ++ [.mE H.length] ++ cap.map AV.ae) bP ∧ dW P g bP (H ++ [.loop .ready lc (km lc.n env)]) fun _ H' => behind H.length H' K
 | _ => False
theorem xK {j : Option Code} {Q1 Q2 : Exit → Env → List aa → Prop} {env : Env} {H : List aa} (h : oU j Q1 env H) (hQ : ∀ x e H', Q1 x e H' → Q2 x e H') : oU j Q2 env H := by
 unfold oU at *
 split at h <;> first | exact hQ _ _ _ h | exact h.elim
theorem sO {id : Nat} {H : List aa} {K1 K2 : Option Code → List aa → Prop} (h : behind id H K1) (hK : ∀ j H', K1 j H' → K2 j H') : behind id H K2 := by
 unfold behind at *
 split at h <;> first | exact hK _ _ h | exact h.elim
def k8 (P : Px) (n0 : Nat) : IR → Env → List aa → (Exit → Env → List aa → Prop) → Prop
 | .skip, env, H, Q => Q .normal env H
 | .region ops live, env, H, Q => iZ P ops env H fun aE H' => Q .normal (ej live aE) H'
 | .draw t live, env, H, Q => iQ P t env H fun aE H' => Q .normal (ej live aE) H'
 | .seq a b, env, H, Q => k8 P n0 a env H fun e aE H' => match e with
   | .normal => k8 P n0 b aE H' Q
   | e => Q e aE H'
 | .cond x a b, env, H, Q => fD (ap env x) (k8 P n0 a env H Q) (k8 P n0 b env H Q)
 | .block id a, env, H, Q => k8 P n0 a env H fun e aE H' => match e with
   | .exit id' => if id' = id then Q .normal aE H' else Q (.exit id') aE H'
   | e => Q e aE H'
 | .loop a, env, H, Q => ∃ (ι : Type) (I : ι → Prop) (se : ι → Env) (sh : ι → List aa) (μ : ι → Nat), (∃ i, I i ∧ Gk P.lo n0 env H (se i) (sh i)) ∧
    ∀ i, I i → k8 P n0 a (se i) (sh i) fun e aE H' => match e with
     | .normal => ∃ j, I j ∧ μ j < μ i ∧ Gk P.lo n0 aE H' (se j) (sh j)
     | e => Q e aE H'
 | .exit id, env, H, Q => Q (.exit id) env H
 | .ret, env, H, Q => Q .ret env H
 | .never, env, H, Q => False
 | .iL f lc, env, H, Q => vn P (ap env f) lc env H fun j H'' => oU j Q env H''
theorem tQ {P : Px} {n0 : Nat} : ∀ {ir : IR} {env : Env} {H : List aa} {Q1 Q2 : Exit → Env → List aa → Prop}, k8 P n0 ir env H Q1 → (∀ x e H', Q1 x e H' → Q2 x e H') → me P n0 ir env H Q2 := by
 intro ir
 induction ir with
 | skip => exact fun h hQ => hQ _ _ _ h
 | region ops live => exact fun h hQ => rC h fun _ _ h => hQ _ _ _ h
 | draw t live => exact fun h hQ => qk h fun _ _ h => hQ _ _ _ h
 | seq a b DN Ry =>
   exact fun h hQ => DN h fun x e H' h => by
    cases x with
    | normal => exact Ry h hQ
    | _ => exact hQ _ _ _ h
 | cond x a b DN Ry =>
   intro env H Q1 Q2 h hQ
   unfold k8 fD eI at h
   unfold me eI
   split at h
   ·exact ⟨fun e => DN (h.1 e) hQ, fun e => Ry (h.2 e) hQ⟩
   ·exact h.elim
 | block id a DN =>
   exact fun h hQ => DN h fun x e H' h => by
    cases x with
    | exit id' =>
      dsimp only at h ⊢
      split
      ·rename_i bn; rw [if_pos bn] at h; exact hQ _ _ _ h
      ·rename_i bn; rw [if_neg bn] at h; exact hQ _ _ _ h
    | _ => exact hQ _ _ _ h
 | loop a DN =>
   intro env H Q1 Q2 h hQ
   obtain ⟨ι, I, se, sh, μ, h0, hs⟩ := h
   exact ⟨ι, I, se, sh, μ, h0, fun i hi => DN (hs i hi) fun x e H' h => by
    cases x with
    | normal => exact h
    | _ => exact hQ _ _ _ h⟩
 | exit id => exact fun h hQ => hQ _ _ _ h
 | ret => exact fun h hQ => hQ _ _ _ h
 | never => exact fun h _ => h.elim
 | iL f lc =>
   intro env H Q1 Q2 h hQ
   unfold k8 vn at h
   unfold me
   split at h
   ·rename_i g first cap e
    obtain ⟨h1, bP, h2, h3⟩ := h
    rw [e]
    exact ⟨h1, bP, h2, h3.mono fun _ H' hb => sO hb fun j H'' hg => xK hg hQ⟩
   ·exact h.elim
theorem ij.calls {P : Program} {f : FuncId} {fi : qi} (h : ij P f fi) {args : List AV} {H : List aa} {R : AV → List aa → Prop} (hn : Nat.ble args.length fi.n = true)
 (hw : k8 P H.length fi.ir (bW 0 args) H fun e env H' => (e = .normal ∨ e = .ret) ∧ bV H.length fi.rs env H' R) : au P f args H R :=
 h.zq (Nat.le_of_ble_eq_true hn) (tQ hw fun _ _ _ h => h)
theorem ij.DO {P : Program} {f : FuncId} {fi : qi} (h : ij P f fi) {args : List AV} {H : List aa} {R : AV → List aa → Prop} (hn : Nat.ble args.length fi.n = true)
 (hw : k8 ⟨P, some H.length⟩ H.length fi.ir (bW 0 args) H fun e env H' => (e = .normal ∨ e = .ret) ∧ kI (mf H.length) H.length fi.rs env H' R) : au P f args H R :=
 h.L4 (Nat.le_of_ble_eq_true hn) (tQ hw fun _ _ _ h => h)
section
variable {P : Px} {n0 : Nat} {env : Env} {H : List aa} {Q : Exit → Env → List aa → Prop}
theorem Jh : k8 P n0 .skip env H Q = Q .normal env H := _root_.id rfl
theorem DP (ops : List bu) (live : Option (List Nat)) : k8 P n0 (.region ops live) env H Q = iZ P ops env H fun aE H' => Q .normal (ej live aE) H' := _root_.id rfl
theorem Ji (t : DT) (live : Option (List Nat)) : k8 P n0 (.draw t live) env H Q = iQ P t env H fun aE H' => Q .normal (ej live aE) H' := _root_.id rfl
theorem M6 (a b : IR) : k8 P n0 (.seq a b) env H Q = k8 P n0 a env H fun e aE H' => match e with
 | .normal => k8 P n0 b aE H' Q
 | e => Q e aE H' := _root_.id rfl
theorem BG (x : IX) (a b : IR) : k8 P n0 (.cond x a b) env H Q = fD (ap env x) (k8 P n0 a env H Q) (k8 P n0 b env H Q) := _root_.id rfl
theorem GU (id : Nat) (a : IR) : k8 P n0 (.block id a) env H Q = k8 P n0 a env H fun e aE H' => match e with
 | .exit id' => if id' = id then Q .normal aE H' else Q (.exit id') aE H'
 | e => Q e aE H' := _root_.id rfl
theorem xL (f : IX) (lc : ig) : k8 P n0 (.iL f lc) env H Q = vn P (ap env f) lc env H fun j H'' => oU j Q env H'' := _root_.id rfl
theorem Jj (id : Nat) : k8 P n0 (.exit id) env H Q = Q (.exit id) env H := _root_.id rfl
theorem M7 : k8 P n0 .ret env H Q = Q .ret env H := _root_.id rfl
@[congr] theorem To {ir : IR} {aE : Env} {H' : List aa} (h : fY env = aE) (h2 : H = H') : k8 P n0 ir env H Q = k8 P n0 ir aE H' Q := by subst h; subst h2; rfl
@[congr] theorem Rz {ops : List bu} {aE : Env} {H' : List aa} {K : Env → List aa → Prop} (h : fY env = aE) (h2 : H = H') : iZ P ops env H K = iZ P ops aE H' K := by subst h; subst h2; rfl
@[congr] theorem RA {t : DT} {aE : Env} {H' : List aa} {K : Env → List aa → Prop} (h : fY env = aE) (h2 : H = H') : iQ P t env H K = iQ P t aE H' K := by subst h; subst h2; rfl
theorem Jk (K : Env → List aa → Prop) : iZ P [] env H K = K env H := _root_.id rfl
theorem RB (d : Option Nat) (op : bX) (r : List bu) (K : Env → List aa → Prop) : iZ P (⟨none, d, op⟩ :: r) env H K = bt P op d env H fun env H => iZ P r env H K := _root_.id rfl
theorem RC (g : Nat) (w : Bool) (d : Option Nat) (op : bX) (r : List bu) (K : Env → List aa → Prop) : iZ P (⟨some (g, w), d, op⟩ :: r) env H K =
 dC (get env g) g w env (fun env => bt P op d env H fun env H => iZ P r env H K) (fun env => iZ P r (put d (.tuple []) env) H K) := _root_.id rfl
theorem VH (d : Option Nat) (op : bX) (K : Env → List aa → Prop) : ra P ⟨none, d, op⟩ env H K = bt P op d env H K := _root_.id rfl
theorem VI (g : Nat) (w : Bool) (d : Option Nat) (op : bX) (K : Env → List aa → Prop) : ra P ⟨some (g, w), d, op⟩ env H K =
 dC (get env g) g w env (fun env => bt P op d env H K) (fun env => K (put d (.tuple []) env) H) := _root_.id rfl
@[congr] theorem Tp {o : bu} {K : Env → List aa → Prop} {H' : List aa} (h : fY H = H') : ra P o env H K = ra P o env H' K := by subst h; rfl
@[congr] theorem Tq {o : bX} {d : Option Nat} {K : Env → List aa → Prop} {H' : List aa} (h : fY H = H') : bt P o d env H K = bt P o d env H' K := by subst h; rfl
theorem GV (K : Env → List aa → Prop) : iQ P .done env H K = K env H := _root_.id rfl
theorem Jl (K : Env → List aa → Prop) : iQ P .nil env H K = True := _root_.id rfl
theorem RD (st : Bool) (d : Option Nat) (op : bX) (r : DT) (K : Env → List aa → Prop) : iQ P (.take st ⟨none, d, op⟩ r) env H K = k7 P st op (ap env) H fun x => iQ P r (put d x env) H K := _root_.id rfl
theorem RE (st : Bool) (g : Nat) (w : Bool) (d : Option Nat) (op : bX) (r : DT) (K : Env → List aa → Prop) : iQ P (.take st ⟨some (g, w), d, op⟩ r) env H K =
 dC (get env g) g w env (fun _ => k7 P st op (ap env) H fun x => iQ P r (put d x env) H K) (fun _ => iQ P r (put d (.tuple []) env) H K) := _root_.id rfl
theorem M8 (o : bu) (t rest : DT) (K : Env → List aa → Prop) : iQ P (.br o t rest) env H K = (ra P o env H (fun env H => iQ P t env H K) ∧ iQ P rest env H K) := _root_.id rfl
@[congr] theorem Tr {st : Bool} {o : bX} {ρ : IX → AV} {K : AV → Prop} {H' : List aa} (h : fY H = H') : k7 P st o ρ H K = k7 P st o ρ H' K := by subst h; rfl
theorem Jm {P : Program} {a : IR} (ι : Type) (I : ι → Prop) (se : ι → Env) (sh : ι → List aa) (μ : ι → Nat) (i0 : ι) (h0 : I i0) (YB : sle n0 env H (se i0) (sh i0))
 (hs : ∀ i, I i → k8 P n0 a (se i) (sh i) fun e aE H' => match e with
   | .normal => ∃ j, I j ∧ μ j < μ i ∧ sle n0 aE H' (se j) (sh j)
   | e => Q e aE H') : k8 P n0 (.loop a) env H Q := ⟨ι, I, se, sh, μ, ⟨i0, h0, YB⟩, hs⟩
theorem aD {P : Program} {a : IR} (N : Nat) (I : Nat → Prop) (se : Nat → Env) (sh : Nat → List aa) (h0 : I 0 ∧ sle n0 env H (se 0) (sh 0))
 (hs : ∀ i, i ≤ N → I i → k8 P n0 a (se i) (sh i) fun e aE H' => match e with
   | .normal => ∃ j, (j ≤ N ∧ I j) ∧ N - j < N - i ∧ sle n0 aE H' (se j) (sh j)
   | e => Q e aE H') : k8 P n0 (.loop a) env H Q :=
 ⟨Nat, fun i => i ≤ N ∧ I i, se, sh, fun i => N - i, ⟨0, ⟨Nat.zero_le _, h0.1⟩, h0.2⟩, fun i hi => hs i hi.1 hi.2⟩
end
section
variable {φ : AV → Prop}
@[congr] theorem OZ {v v' : AV} {ψ : Bool → Prop} (h : fY v = v') : eI v ψ = eI v' ψ := by subst h; rfl
@[congr] theorem RF {op : BinOp} {x x' y y' : AV} (h : fY x = x') (h2 : y = y') : cV op x y φ = cV op x' y' φ := by subst h; subst h2; rfl
@[congr] theorem M9 {op : BinOp} {x x' y y' : AV} (h : fY x = x') (h2 : y = y') : dJ op x y φ = dJ op x' y' φ := by subst h; subst h2; rfl
@[congr] theorem Li {n : Bool} {x x' y y' : AV} (h : fY x = x') (h2 : y = y') : cM n x y φ = cM n x' y' φ := by subst h; subst h2; rfl
@[congr] theorem Na {k : Nat} {n : Bool} {x x' : AV} (h : fY x = x') : dc k n x φ = dc k n x' φ := by subst h; rfl
@[congr] theorem Ts {op : UnOp} {x x' : AV} (h : fY x = x') : yE op x φ = yE op x' φ := by subst h; rfl
@[congr] theorem O0 {sz : Option Nat} {x x' : AV} {H H' : List aa} (h : fY x = x') (h2 : H = H') : aS sz x H φ = aS sz x' H' φ := by subst h; subst h2; rfl
@[congr] theorem GW {off : Nat} {sz : Option Nat} {x x' : AV} (h : fY x = x') : al off sz x φ = al off sz x' φ := by subst h; rfl
@[congr] theorem Nb {off : Nat} {sz : Option Nat} {x x' : AV} (h : fY x = x') : eJ off sz x φ = eJ off sz x' φ := by subst h; rfl
@[congr] theorem GX {e : Nat} {x x' y y' : AV} (h : fY x = x') (h2 : y = y') : aA e x y φ = aA e x' y' φ := by subst h; subst h2; rfl
@[congr] theorem HT {n : Nat} {x x' y y' : AV} (h : fY x = x') (h2 : y = y') : bR n x y φ = bR n x' y' φ := by subst h; subst h2; rfl
@[congr] theorem HU {x x' y y' : AV} (h : fY x = x') (h2 : y = y') : bI x y φ = bI x' y' φ := by subst h; subst h2; rfl
@[congr] theorem RG {x x' : AV} {H H' : List aa} (h : fY x = x') (h2 : H = H') : eW x H φ = eW x' H' φ := by subst h; subst h2; rfl
@[congr] theorem Jn {x x' : AV} {i : Nat} (h : fY x = x') : bD x i φ = bD x' i φ := by subst h; rfl
@[congr] theorem HV {x x' : AV} (h : fY x = x') : bS x φ = bS x' φ := by subst h; rfl
@[congr] theorem Jo {k : IntKind} {x x' : AV} (h : fY x = x') : cr k x φ = cr k x' φ := by subst h; rfl
@[congr] theorem Tt {b : Bool} {x x' y y' : AV} (h : fY x = x') (h2 : y = y') : wv b x y φ = wv b x' y' φ := by subst h; subst h2; rfl
@[congr] theorem Lj {kd : Nat} {z m m' k k' : AV} {ok : Bool} {H H' : List aa} (h : fY m = m') (h2 : k = k') (h3 : H = H') : cc kd z m k ok H φ = cc kd z m' k' ok H' φ := by subst h; subst h2; subst h3; rfl
@[congr] theorem Lk {kd : Nat} {m m' k k' x x' : AV} {H H' : List aa} {K : List aa → Prop} (h : fY m = m') (h2 : k = k') (h3 : x = x') (h4 : H = H') : eZ kd m k x H K = eZ kd m' k' x' H' K := by subst h; subst h2; subst h3; subst h4; rfl
@[congr] theorem Nc {m : Nat} {p p' x x' : AV} {H H' : List aa} {K : List aa → Prop} (h : fY p = p') (h2 : x = x') (h3 : H = H') : gR m p x H K = gR m p' x' H' K := by subst h; subst h2; subst h3; rfl
@[congr] theorem Jp {p p' x x' : AV} {H H' : List aa} {K : List aa → Prop} (h : fY p = p') (h2 : x = x') (h3 : H = H') : dK p x H K = dK p' x' H' K := by subst h; subst h2; subst h3; rfl
@[congr] theorem Ll {e b : Nat} {s s' x x' : AV} {ψ : List AV → Prop} (h : fY s = s') (h2 : x = x') : bF e b s x ψ = bF e b s' x' ψ := by subst h; subst h2; rfl
@[congr] theorem Nf {e b : Nat} {z n n' : AV} {H H' : List aa} {K : AV → List aa → Prop} (h : fY n = n') (h2 : H = H') : fN e b z n H K = fN e b z n' H' K := by subst h; subst h2; rfl
@[congr] theorem Jq {e b : Nat} {z s s' x x' : AV} {H H' : List aa} {K : AV → List aa → Prop} (h : fY s = s') (h2 : x = x') (h3 : H = H') : cG e b z s x H K = cG e b z s' x' H' K := by subst h; subst h2; subst h3; rfl
@[congr] theorem Lm {e : Nat} {z x x' : AV} {H H' : List aa} {K : List aa → Prop} (h : fY x = x') (h2 : H = H') : gZ e z x H K = gZ e z x' H' K := by subst h; subst h2; rfl
@[congr] theorem O4 {xs xs' : List AV} {H H' : List aa} {K : AV → List aa → Prop} (h : fY xs = xs') (h2 : H = H') : sq xs H K = sq xs' H' K := by subst h; subst h2; rfl
@[congr] theorem Ng {e b : Nat} {n n' : AV} (h : fY n = n') : iJ e b n φ = iJ e b n' φ := by subst h; rfl
@[congr] theorem O5 {e : Nat} {d d' s s' : AV} {H H' : List aa} {K : AV → List aa → Prop} (h : fY d = d') (h2 : s = s') (h3 : H = H') : jt e d s H K = jt e d' s' H' K := by subst h; subst h2; subst h3; rfl
@[congr] theorem O6 {e : Nat} {x x' : AV} {H H' : List aa} {K : AV → List aa → Prop} (h : fY x = x') (h2 : H = H') : ff e x H K = ff e x' H' K := by subst h; subst h2; rfl
@[congr] theorem Ln {e : Nat} {x x' : AV} {lo lo' hi mq m m' : Option AV} (h : fY x = x') (h1 : lo = lo') (h2 : hi = mq) (h3 : m = m') : bB e x lo hi m φ = bB e x' lo' mq m' φ := by subst h; subst h1; subst h2; subst h3; rfl
@[congr] theorem HW {x x' : AV} {lo lo' hi mq : Option AV} (h : fY x = x') (h1 : lo = lo') (h2 : hi = mq) : b8 x lo hi φ = b8 x lo' mq φ := by subst h; subst h1; subst h2; rfl
@[congr] theorem RH {n0 : Nat} {rs : List RX} {env aE : Env} {H H' : List aa} {R : AV → List aa → Prop} (h : fY env = aE) (h2 : H = H') : bV n0 rs env H R = bV n0 rs aE H' R := by subst h; subst h2; rfl
end
end Go.aL
end
section
namespace Go.aL
open Go
section
variable {P : Px} {env : Env} {H : List aa} {dst : Option Nat} {K : Env → List aa → Prop}
theorem RI (op : BinOp) (x : IX) (y : IX) : bt P (.bin op x y) dst env H K = (cV op (ap env x) (ap env y) fun z => K (put dst z env) H) := _root_.id rfl
theorem Jr (op : BinOp) (x : IX) (y : IX) : bt P (.shift op x y) dst env H K = (dJ op (ap env x) (ap env y) fun z => K (put dst z env) H) := _root_.id rfl
theorem GY (neq : Bool) (x : IX) (y : IX) : bt P (.gP neq x y) dst env H K = (cM neq (ap env x) (ap env y) fun z => K (put dst z env) H) := _root_.id rfl
theorem Js (kd : Nat) (neq : Bool) (x : IX) : bt P (.iU kd neq x) dst env H K = (dc kd neq (ap env x) fun z => K (put dst z env) H) := _root_.id rfl
theorem VJ (op : UnOp) (x : IX) : bt P (.un op x) dst env H K = (yE op (ap env x) fun z => K (put dst z env) H) := _root_.id rfl
theorem RJ (x : IX) : bt P (.box x) dst env H K = ((ap env x).val = true ∧ ak (H.length + 1) ((ap env x).cells.map AV.ae) = true ∧ K (put dst (.ptr H.length 0) env) (H ++ [.cells ((ap env x).cells.map AV.ae)])) := _root_.id rfl
theorem Nh (x : IX) : bt P (.lg x) dst env H K = ((ap env x).val = true ∧ K (put dst (.aj (ap env x)) env) H) := _root_.id rfl
theorem Ni (m : Nat) (x : IX) : bt P (.qS m x) dst env H K = ((ap env x).val = true ∧ (ap env x).cells.length = m ∧ (ap env x).cells.all AV.one = true ∧ K (put dst (.aj (ap env x)) env) H) := _root_.id rfl
theorem Jt (z : AV) : bt P (.alloc z) dst env H K = (ak (H.length + 1) (z.cells.map AV.ae) = true ∧ K (put dst (.ptr H.length 0) env) (H ++ [.cells (z.cells.map AV.ae)])) := _root_.id rfl
theorem Ju (z : AV) (ps : List (Nat × Nat × IX)) : bt P (.build z ps) dst env H K = (cj z.cells (ps.map fun q => (q.1, q.2.1, ap env q.2.2)) fun v => K (put dst v env) H) := _root_.id rfl
theorem wS (own : Nat) (esz : Nat) (z : AV) (len : Nat) (ps : List (Nat × IX)) : bt P (.buildSlice own esz z len ps) dst env H K = (bk (List.replicate len (aT z)) esz (ps.map fun q => (q.1, ap env q.2)) fun xs => K (put dst (.aq own xs) env) H) := _root_.id rfl
theorem Nj (sz : Option Nat) (a : IX) : bt P (.load sz a) dst env H K = (aS sz (ap env a) H fun z => K (put dst z env) H) := _root_.id rfl
theorem Jv (sz : Option Nat) (esz : Nat) (a : IX) : bt P (.sd sz esz a) dst env H K = (aS sz (ap env a) H fun z => ff esz z H fun y H' => K (put dst y env) H') := _root_.id rfl
theorem Jw (m : Nat) (a : IX) (x : IX) : bt P (.store m a x) dst env H K = (gR m (ap env a) (ap env x) H fun H' => K env H') := _root_.id rfl
theorem GZ {P : Program} {l : Nat} (m : Nat) (a : IX) (x : IX) : bt ⟨P, some l⟩ (.mG m a x) dst env H K = (gl l m (ap env a) (ap env x) H fun H' => K env H') := _root_.id rfl
theorem DQ (a : IX) (s : Nat) : bt P (.eU a s) dst env H K = (dK (ap env a) (get env s) H fun H' => K ((s, (get env s).ae) :: env) H') := _root_.id rfl
theorem BH (x : IX) : bt P (.nilCheck x) dst env H K = (bS (ap env x) fun z => K (put dst z env) H) := _root_.id rfl
theorem zF (off : Nat) (sz : Option Nat) (x : IX) : bt P (.fieldAddr off sz x) dst env H K = (al off sz (ap env x) fun z => K (put dst z env) H) := _root_.id rfl
theorem Jx (off : Nat) (sz : Option Nat) (x : IX) : bt P (.field off sz x) dst env H K = (eJ off sz (ap env x) fun z => K (put dst z env) H) := _root_.id rfl
theorem zG (esz : Nat) (x : IX) (i : IX) : bt P (.indexAddr esz x i) dst env H K = ((∀ own xs, ap env x = .aq own xs → ∀ z ∈ xs, z.cells.length = esz) ∧ aA esz (ap env x) (ap env i) fun z => K (put dst z env) H) := _root_.id rfl
theorem BI (n : Nat) (x : IX) (i : IX) : bt P (.dH n x i) dst env H K = (bR n (ap env x) (ap env i) fun z => K (put dst z env) H) := _root_.id rfl
theorem G7 (esz : Nat) (x : IX) (lo : Option IX) (hi : Option IX) (mx : Option IX) : bt P (.oO esz x lo hi mx) dst env H K = ((∀ own xs, ap env x = .aq own xs → ∀ z ∈ xs, z.cells.length = esz) ∧ fq esz (ap env x) (gr env lo) (gr env hi) (gr env mx) fun z => z = .aq esz [] ∧ K (put dst .oo env) H) := _root_.id rfl
theorem BJ (x : IX) (i : IX) : bt P (.c8 x i) dst env H K = (bI (ap env x) (ap env i) fun z => K (put dst z env) H) := _root_.id rfl
theorem Jy (esz : Nat) (x : IX) (lo : Option IX) (hi : Option IX) (mx : Option IX) : bt P (.slice esz x lo hi mx) dst env H K = (bB esz (ap env x) (gr env lo) (gr env hi) (gr env mx) fun z => K (put dst z env) H) := _root_.id rfl
theorem Nk (esz : Nat) (d : IX) (s : IX) : bt P (.copy esz d s) dst env H K = (jt esz (ap env d) (ap env s) H fun z H' => K (put dst z env) H') := _root_.id rfl
theorem BK (x : IX) (lo : Option IX) (hi : Option IX) : bt P (.dI x lo hi) dst env H K = (b8 (ap env x) (gr env lo) (gr env hi) fun z => K (put dst z env) H) := _root_.id rfl
theorem RK (kd : Nat) (x : IX) : bt P (.len kd x) dst env H K = (aM kd (ap env x) ∧ eW (ap env x) H fun z => K (put dst z env) H) := _root_.id rfl
theorem G8 (esz : Nat) (bytes : Nat) (s : IX) (x : IX) : bt P (.append esz bytes s x) dst env H K = (bF esz bytes (ap env s) (ap env x) fun zs => K (put dst (.aq esz zs) (cD env s.slot)) H) := _root_.id rfl
theorem Jz (esz : Nat) (bytes : Nat) (z : AV) (n : IX) : bt P (.sf esz bytes z n) dst env H K = (fN esz bytes z (ap env n) H fun v H' => K (put dst v env) H') := _root_.id rfl
theorem tR (esz : Nat) (z : AV) (len : Nat) (ps : List (Nat × IX)) : bt P (.AG esz z len ps) dst env H K = (bk (List.replicate len (aT z)) esz (ps.map fun q => (q.1, ap env q.2)) fun xs => sq xs H fun v H' => K (put dst v env) H') := _root_.id rfl
theorem G9 (esz : Nat) (z : AV) (x : IX) : bt P (.mJ esz z x) dst env H K = (gZ esz z (ap env x) H fun H' => K (put dst (.tuple []) env) H') := _root_.id rfl
theorem DR (esz bytes : Nat) (z : AV) (s x : IX) : bt P (.iW esz bytes z s x) dst env H K = (cG esz bytes z (ap env s) (ap env x) H fun v H' => K (put dst v env) H') := _root_.id rfl
theorem JA (esz : Nat) (bytes : Nat) (n : IX) : bt P (.mH esz bytes n) dst env H K = (iJ esz bytes (ap env n) fun v => K (put dst v env) H) := _root_.id rfl
theorem JB  : bt P (.mI ) dst env H K = (K (put dst (.map H.length) env) (H ++ [.map []])) := _root_.id rfl
theorem Ha (kd : Nat) (z : AV) (m : IX) (k : IX) (ok : Bool) : bt P (.lookup kd z m k ok) dst env H K = (cc kd z (ap env m) (ap env k) ok H fun v => K (put dst v env) H) := _root_.id rfl
theorem Hb (kd : Nat) (m : IX) (k : IX) (x : IX) : bt P (.j4 kd m k x) dst env H K = (eZ kd (ap env m) (ap env k) (ap env x) H fun H' => K env H') := _root_.id rfl
theorem VK (f : Fn) (first : List IX) (cap : List IX) : bt P (.fn f first cap) dst env H K = (K (put dst (.fn f (first.map fun x => (ap env x).ae) (cap.map fun x => (ap env x).ae)) env) H) := _root_.id rfl
theorem DS (x : IX) (i : Nat) : bt P (.extract x i) dst env H K = (bD (ap env x) i fun z => K (put dst z env) H) := _root_.id rfl
theorem DU (k : IntKind) (x : IX) : bt P (.eC k x) dst env H K = (cr k (ap env x) fun z => K (put dst z env) H) := _root_.id rfl
theorem DV (x : IX) : bt P (.gh x) dst env H K = (fz (ap env x) fun z => K (put dst z env) H) := _root_.id rfl
theorem DW (x : IX) : bt P (.bytesOf x) dst env H K = (eM 1 (ap env x) fun z => K (put dst z env) H) := _root_.id rfl
theorem JC (x : IX) : bt P (.strOf x) dst env H K = (jr (ap env x) fun z => K (put dst z env) H) := _root_.id rfl
theorem VL (big : Bool) (a : IX) (b : IX) : bt P (.mx big a b) dst env H K = (wv big (ap env a) (ap env b) fun z => K (put dst z env) H) := _root_.id rfl
theorem Nl (esz : Nat) (x : IX) : bt P (.yC esz x) dst env H K = (ff esz (ap env x) H fun z H' => K (put dst z env) H') := _root_.id rfl
theorem JD (x : IX) (take : Bool) : bt P (.set x take) none env H K = K env H := _root_.id rfl
theorem RL (d : Nat) (x : IX) : bt P (.set x false) (some d) env H K = K ((d, (ap env x).ae) :: env) H := by cases x <;> rfl
theorem Nm (d s : Nat) : bt P (.set (.t s) true) (some d) env H K = K ((d, get env s) :: (s, (get env s).ae) :: env) H := _root_.id rfl
theorem JE (d : Nat) (v : AV) : bt P (.set (.c v) true) (some d) env H K = K ((d, v.ae) :: env) H := _root_.id rfl
theorem Nn (c a b : IX) : bt P (.pick c a b) dst env H K = fD (ap env c) (K (put dst (ap env a).ae env) H) (K (put dst (ap env b).ae env) H) := _root_.id rfl
theorem No (f : IX) (args : List IX) (pass : Option Nat) : bt P (.call f args pass) dst env H K = oB P (ap env f) args pass env H (fun r aE H' => K (put dst r aE) H') := _root_.id rfl
end
section
variable {P : Px} {st : Bool} {ρ : IX → AV} {H : List aa} {K : AV → Prop}
theorem RM (i : IX) : k7 P st (.set i false) ρ H K = K (ρ i).ae := by cases st <;> rfl
theorem Np (c : IX) (a : IX) (b : IX) : k7 P st (.pick c a b) ρ H K = (fD (ρ c) (K (ρ a).ae) (K (ρ b).ae)) := _root_.id rfl
theorem RN (op : BinOp) (i : IX) (j : IX) : k7 P st (.bin op i j) ρ H K = (cV op (ρ i) (ρ j) K) := _root_.id rfl
theorem JF (op : BinOp) (i : IX) (j : IX) : k7 P st (.shift op i j) ρ H K = (dJ op (ρ i) (ρ j) K) := _root_.id rfl
theorem Hc (neq : Bool) (i : IX) (j : IX) : k7 P st (.gP neq i j) ρ H K = (cM neq (ρ i) (ρ j) K) := _root_.id rfl
theorem JG (kd : Nat) (neq : Bool) (i : IX) : k7 P st (.iU kd neq i) ρ H K = (nW kd neq (ρ i) K) := _root_.id rfl
theorem VM (op : UnOp) (i : IX) : k7 P st (.un op i) ρ H K = (yE op (ρ i) K) := _root_.id rfl
theorem Nq (i : IX) : k7 P st (.lg i) ρ H K = ((ρ i).val = true ∧ K (.aj (ρ i))) := _root_.id rfl
theorem JH (z : AV) (ps : List (Nat × Nat × IX)) : k7 P st (.build z ps) ρ H K = (cj z.cells (ps.map fun q => (q.1, q.2.1, ρ q.2.2)) K) := _root_.id rfl
theorem wT (own : Nat) (esz : Nat) (z : AV) (len : Nat) (ps : List (Nat × IX)) : k7 P st (.buildSlice own esz z len ps) ρ H K = (bk (List.replicate len (aT z)) esz (ps.map fun q => (q.1, ρ q.2)) fun xs => K (.aq own xs)) := _root_.id rfl
theorem zH (sz : Option Nat) (i : IX) : k7 P true (.load sz i) ρ H K = (aS sz (ρ i) H K) := _root_.id rfl
theorem wU (sz : Option Nat) (i : IX) : k7 P false (.load sz i) ρ H K = (aS sz (ρ i) [] K) := _root_.id rfl
theorem BL (i : IX) : k7 P st (.nilCheck i) ρ H K = (bS (ρ i) K) := _root_.id rfl
theorem zJ (off : Nat) (sz : Option Nat) (i : IX) : k7 P st (.fieldAddr off sz i) ρ H K = (al off sz (ρ i) K) := _root_.id rfl
theorem JI (off : Nat) (sz : Option Nat) (i : IX) : k7 P st (.field off sz i) ρ H K = (eJ off sz (ρ i) K) := _root_.id rfl
theorem zK (esz : Nat) (i : IX) (j : IX) : k7 P st (.indexAddr esz i j) ρ H K = ((∀ own xs, ρ i = .aq own xs → ∀ z ∈ xs, z.cells.length = esz) ∧ aA esz (ρ i) (ρ j) K) := _root_.id rfl
theorem BM (n : Nat) (i : IX) (j : IX) : k7 P st (.dH n i j) ρ H K = (bR n (ρ i) (ρ j) K) := _root_.id rfl
theorem BN (i : IX) (j : IX) : k7 P st (.c8 i j) ρ H K = (bI (ρ i) (ρ j) K) := _root_.id rfl
theorem JJ (esz : Nat) (i : IX) (lo : Option IX) (hi : Option IX) (mx : Option IX) : k7 P st (.slice esz i lo hi mx) ρ H K = (bB esz (ρ i) (lo.map ρ) (hi.map ρ) (mx.map ρ) K) := _root_.id rfl
theorem BO (i : IX) (lo : Option IX) (hi : Option IX) : k7 P st (.dI i lo hi) ρ H K = (b8 (ρ i) (lo.map ρ) (hi.map ρ) K) := _root_.id rfl
theorem BP (kd : Nat) (i : IX) : k7 P true (.len kd i) ρ H K = (aM kd (ρ i) ∧ gM (ρ i) H K) := _root_.id rfl
theorem zL (kd : Nat) (i : IX) : k7 P false (.len kd i) ρ H K = (aM kd (ρ i) ∧ gM (ρ i) [] K) := _root_.id rfl
theorem vq (kd : Nat) (z : AV) (m : IX) (k : IX) (ok : Bool) : k7 P true (.lookup kd z m k ok) ρ H K = (cc kd z (ρ m) (ρ k) ok H K) := _root_.id rfl
theorem tq (kd : Nat) (z : AV) (m : IX) (k : IX) (ok : Bool) : k7 P false (.lookup kd z m k ok) ρ H K = (cc kd z (ρ m) (ρ k) ok [] K) := _root_.id rfl
theorem VN (f : Fn) (first : List IX) (cap : List IX) : k7 P st (.fn f first cap) ρ H K = (K (.fn f (first.map fun x => (ρ x).ae) (cap.map fun x => (ρ x).ae))) := _root_.id rfl
theorem DX (i : IX) (k : Nat) : k7 P st (.extract i k) ρ H K = (bD (ρ i) k K) := _root_.id rfl
theorem DY (k : IntKind) (i : IX) : k7 P st (.eC k i) ρ H K = (cr k (ρ i) K) := _root_.id rfl
theorem VO (big : Bool) (i : IX) (j : IX) : k7 P st (.mx big i j) ρ H K = (wv big (ρ i) (ρ j) K) := _root_.id rfl
theorem Nr (f : IX) (args : List IX) : k7 P st (.call f args none) ρ H K = pc P st (ρ f) (args.map fun x => (ρ x).ae) H K := _root_.id rfl
end
theorem DZ (env : Env) : ej none env = env := _root_.id rfl
theorem Hd (env : Env) : ej (some []) env = [] := _root_.id rfl
theorem D0 (env : Env) (t : Nat) (l : List Nat) : ej (some (t :: l)) env = (t, get env t) :: ej (some l) env := _root_.id rfl
theorem D1 (k : Nat) : bW k [] = [] := _root_.id rfl
theorem BQ (k : Nat) (x : AV) (xs : List AV) : bW k (x :: xs) = (k, x) :: bW (k + 1) xs := _root_.id rfl
theorem RP (env : Env) (s : Nat) : ap env (.t s) = get env s := _root_.id rfl
theorem RQ (env : Env) (v : AV) : ap env (.c v) = v := _root_.id rfl
theorem kK (o : Nat) (xs : List AV) (H : List aa) (φ : AV → Prop) : gM (.aq o xs) H φ = φ (.int .i64 xs.length) := _root_.id rfl
theorem D2 (H : List aa) (φ : AV → Prop) : gM .ah H φ = φ (.int .i64 0) := _root_.id rfl
theorem He (s : ByteArray) (H : List aa) (φ : AV → Prop) : gM (.str s) H φ = φ (.int .i64 s.size) := _root_.id rfl
theorem Hf (a b c d : Nat) (H : List aa) (φ : AV → Prop) : gM (.bg a b c d) H φ = φ (.int .i64 c) := _root_.id rfl
theorem JK {α β : Type} (f : α → β) : List.map f [] = [] := _root_.id rfl
theorem Hg {α β : Type} (f : α → β) (x : α) (xs : List α) : List.map f (x :: xs) = f x :: List.map f xs := _root_.id rfl
end Go.aL
end
section
namespace Go.aL
open Go
theorem ga0 (H e : List aa) : (H ++ e)[H.length]? = e[0]? := by
 rw [List.getElem?_append_right (Nat.le_refl _), Nat.sub_self]
theorem ga (H e : List aa) (i : Nat) : (H ++ e)[H.length + i]? = e[i]? := by
 rw [List.getElem?_append_right (Nat.le_add_right _ _), Nat.add_sub_cancel_left]
theorem sa0 (H e : List aa) (x : aa) : (H ++ e).set H.length x = H ++ e.set 0 x := by
 rw [List.set_append_right _ _ (Nat.le_refl _), Nat.sub_self]
theorem sa (H e : List aa) (i : Nat) (x : aa) : (H ++ e).set (H.length + i) x = H ++ e.set i x := by
 rw [List.set_append_right _ _ (Nat.le_add_right _ _), Nat.add_sub_cancel_left]
theorem YO (H e f : List aa) : (H ++ e) ++ f = H ++ (e ++ f) := List.append_assoc _ _ _
theorem TS (H e : List aa) : (H ++ e).length = H.length + e.length := List.length_append
theorem g0 {α : Type} (x : α) (r : List α) : (x :: r)[0]? = some x := by simp
theorem g1 {α : Type} (x y : α) (r : List α) : (x :: y :: r)[1]? = some y := by simp
theorem g2 {α : Type} (x y z : α) (r : List α) : (x :: y :: z :: r)[2]? = some z := by simp
theorem s0 {α : Type} (x u : α) (r : List α) : (x :: r).set 0 u = u :: r := by simp
theorem s1 {α : Type} (x y u : α) (r : List α) : (x :: y :: r).set 1 u = x :: u :: r := by simp
theorem s2 {α : Type} (x y z u : α) (r : List α) : (x :: y :: z :: r).set 2 u = x :: y :: u :: r := by simp
theorem d0 {α : Type} (x d : α) (r : List α) : (x :: r).getD 0 d = x := by simp
theorem d1 {α : Type} (x y d : α) (r : List α) : (x :: y :: r).getD 1 d = y := by simp
theorem d2 {α : Type} (x y z d : α) (r : List α) : (x :: y :: z :: r).getD 2 d = z := by simp
theorem YP (x y : AV) : ai [x] 0 [y] = [y] := by simp [ai]
theorem D3 {x : AV} {H : List aa} {φ ψ : AV → Prop} (hm : ∀ z, φ z → ψ z) (h : gM x H φ) : gM x H ψ := by
 unfold gM at *
 split at h
 ·exact hm _ h
 ·exact rh hm h
theorem D4 {o : bX} {ρ : IX → AV} {H : List aa} {K K' : AV → Prop} (h : vk o ρ H K) (hK : ∀ x, K x → K' x) : vk o ρ H K' := by
 unfold vk at *
 split at h
 ·exact hK _ h
 ·unfold fD eI at *
  split at h
  ·exact ⟨fun e => hK _ (h.1 e), fun e => hK _ (h.2 e)⟩
  ·exact h.elim
 ·exact rf hK h
 ·exact mR hK h
 ·exact lB hK h
 ·unfold nW at *
  split at h
  ·exact hK _ h
  ·exact h.elim
 ·exact uH hK h
 ·exact ⟨h.1, hK _ h.2⟩
 ·exact lE (fun _ h => hK _ h) h
 ·exact gA (fun _ h => hK _ h) h
 ·exact jy hK h
 ·exact jB hK h
 ·exact iN hK h
 ·exact mS hK h
 ·exact ⟨h.1, iO hK h.2⟩
 ·exact jz hK h
 ·exact jA hK h
 ·exact lD hK h
 ·exact jC hK h
 ·exact ⟨h.1, D3 hK h.2⟩
 ·exact lC hK h
 ·exact hK _ h
 ·exact ko hK h
 ·exact kq hK h
 ·exact uI hK h
 ·exact h.elim
theorem dw {P : Px} : ∀ {t : DT} {env : Env} {H : List aa} {K1 K2 : Env → List aa → Prop}, iQ P t env H K1 → (∀ e H', K1 e H' → K2 e H') → iQ P t env H K2
 | .done, _, _, _, _, h, hK => hK _ _ h
 | .take st o r, _, _, _, _, h, hK => by
   unfold iQ Fl at *
   have key : ∀ {env : Env} {H : List aa} {K : AV → Prop} {K' : AV → Prop}, k7 P st o.op (ap env) H K → (∀ x, K x → K' x) → k7 P st o.op (ap env) H K' := by
    intro env H K K' h hK
    unfold k7 at *
    split at h
    ·unfold pc at *
     split at h
     ·obtain ⟨x, h1, h2⟩ := h; exact ⟨x, h1, hK _ h2⟩
     ·exact h.elim
    ·exact D4 h hK
   split at h
   ·exact key h fun _ h => dw h hK
   ·unfold dC at *
    split at h
    ·exact ⟨fun e => key (h.1 e) fun _ h => dw h hK, fun e => dw (h.2 e) hK⟩
    ·exact dw h hK
    ·exact h.elim
 | .br o t rest, _, _, _, _, h, hK => ⟨rB h.1 fun _ _ h => dw h hK, dw h.2 hK⟩
 | .nil, _, _, _, _, h, hK => trivial
theorem kL {P : Px} {n0 : Nat} : ∀ {ir : IR} {env : Env} {H : List aa} {Q1 Q2 : Exit → Env → List aa → Prop}, k8 P n0 ir env H Q1 → (∀ x e H', Q1 x e H' → Q2 x e H') → k8 P n0 ir env H Q2 := by
 intro ir
 induction ir with
 | skip => exact fun h hQ => hQ _ _ _ h
 | region ops live => exact fun h hQ => rC h fun _ _ h => hQ _ _ _ h
 | draw t live => exact fun h hQ => dw h fun _ _ h => hQ _ _ _ h
 | seq a b DN Ry =>
   exact fun h hQ => DN h fun x e H' h => by
    cases x with
    | normal => exact Ry h hQ
    | _ => exact hQ _ _ _ h
 | cond x a b DN Ry =>
   intro env H Q1 Q2 h hQ
   rw [BG] at *
   unfold fD eI at *
   split at h
   ·exact ⟨fun e => DN (h.1 e) hQ, fun e => Ry (h.2 e) hQ⟩
   ·exact h.elim
 | block id a DN =>
   exact fun h hQ => DN h fun x e H' h => by
    cases x with
    | exit id' =>
      dsimp only at h ⊢
      split
      ·rename_i bn; rw [if_pos bn] at h; exact hQ _ _ _ h
      ·rename_i bn; rw [if_neg bn] at h; exact hQ _ _ _ h
    | _ => exact hQ _ _ _ h
 | loop a DN =>
   intro env H Q1 Q2 h hQ
   obtain ⟨ι, I, se, sh, μ, h0, hs⟩ := h
   exact ⟨ι, I, se, sh, μ, h0, fun i hi => DN (hs i hi) fun x e H' h => by
    cases x with
    | normal => exact h
    | _ => exact hQ _ _ _ h⟩
 | exit id => exact fun h hQ => hQ _ _ _ h
 | ret => exact fun h hQ => hQ _ _ _ h
 | never => exact fun h _ => h.elim
 | iL f lc =>
   intro env H Q1 Q2 h hQ
   rw [xL] at *
   unfold vn at *
   split at h
   ·obtain ⟨h1, bP, h2, h3⟩ := h
    exact ⟨h1, bP, h2, h3.mono fun _ H' hb => sO hb fun j H'' hg => xK hg hQ⟩
   ·exact h.elim
theorem YQ (a b y : AV) : ai [a, b] 0 [y] = [y, b] := by simp [ai]
theorem YR (a b y : AV) : ai [a, b] 1 [y] = [a, y] := by simp [ai]
theorem YT (a b c y : AV) : ai [a, b, c] 0 [y] = [y, b, c] := by simp [ai]
theorem YU (a b c y : AV) : ai [a, b, c] 1 [y] = [a, y, c] := by simp [ai]
theorem YV (a b c y : AV) : ai [a, b, c] 2 [y] = [a, b, y] := by simp [ai]
theorem YW (a b c x y z : AV) : ai [a, b, c] 0 [x, y, z] = [x, y, z] := by simp [ai]
theorem RR (k k' : IntKind) (a b : Int) (φ : AV → Prop) : wv true (.int k a) (.int k' b) φ = φ (.int k (max a b)) := by
 have : (if a < b then b else a) = max a b := by rw [Int.max_def]; split <;> split <;> omega
 simp [wv, this]
theorem RS (k k' : IntKind) (a b : Int) (φ : AV → Prop) : wv false (.int k a) (.int k' b) φ = φ (.int k (min a b)) := by
 have : (if b < a then b else a) = min a b := by rw [Int.min_def]; split <;> split <;> omega
 simp [wv, this]
def db (o : Option aa) (sz : Option Nat) (off : Nat) (φ : AV → Prop) : Prop :=
 match o with
 | some (.cells es) => match sz with
   | some m => off + m ≤ es.length ∧ φ (.agg (((es.drop off).take m).map AV.drop))
   | none => off < es.length ∧ φ (es.getD off .any).ae
 | _ => False
@[congr] theorem O7 {o o' : Option aa} {sz : Option Nat} {off : Nat} {φ : AV → Prop} (h : fY o = o') : db o sz off φ = db o' sz off φ := by subst h; rfl
theorem JL (sz : Option Nat) (id off : Nat) (H : List aa) (φ : AV → Prop) : aS sz (.ptr id off) H φ = db H[id]? sz off φ := by
 unfold aS db; rfl
theorem Ns (es : List AV) (off : Nat) (φ : AV → Prop) : db (some (.cells es)) none off φ = (off < es.length ∧ φ (es.getD off .any).ae) := _root_.id rfl
theorem Fp (a b c : AV) (φ : AV → Prop) : db (some (.cells [a, b, c])) (some 3) 0 φ = φ (.agg [a.drop, b.drop, c.drop]) := by simp [db]
theorem Nt (a b : AV) (φ : AV → Prop) : db (some (.cells [a, b])) (some 2) 0 φ = φ (.agg [a.drop, b.drop]) := by simp [db]
def gV (o : Option aa) (m id off : Nat) (x : AV) (H : List aa) (K : List aa → Prop) : Prop :=
 match o with
 | some (.cells es) => x.val = true ∧ x.cells.length = m ∧ off + m ≤ es.length ∧ x.cells.all AV.one = true ∧ ak (id + 1) (x.cells.map AV.ae) = true ∧
    K (H.set id (.cells (ai es off (x.cells.map AV.ae))))
 | _ => False
@[congr] theorem Nu {o o' : Option aa} {m id off : Nat} {x : AV} {H : List aa} {K : List aa → Prop} (h : fY o = o') {x' : AV} (h2 : x = x') : gV o m id off x H K = gV o' m id off x' H K := by subst h; subst h2; rfl
theorem Hh (m id off : Nat) (x : AV) (H : List aa) (K : List aa → Prop) : gR m (.ptr id off) x H K = gV H[id]? m id off x H K := by
 unfold gR gV; rfl
theorem BR (es : List AV) (m id off : Nat) (x : AV) (H : List aa) (K : List aa → Prop) : gV (some (.cells es)) m id off x H K = (x.val = true ∧ x.cells.length = m ∧ off + m ≤ es.length ∧ x.cells.all AV.one = true ∧ ak (id + 1) (x.cells.map AV.ae) = true ∧
 K (H.set id (.cells (ai es off (x.cells.map AV.ae))))) := _root_.id rfl
def qm (o : Option aa) (l m id off : Nat) (x : AV) (H : List aa) (K : List aa → Prop) : Prop :=
 match o with
 | some (.cells es) => l ≤ id ∧ x.val = true ∧ x.cells.length = m ∧ off + m ≤ es.length ∧ x.cells.all AV.one = true ∧ ak H.length (x.cells.map AV.ae) = true ∧
    K (H.set id (.cells (ai es off (x.cells.map AV.ae))))
 | _ => False
@[congr] theorem Lo {o o' : Option aa} {l m id off : Nat} {x : AV} {H : List aa} {K : List aa → Prop} (h : fY o = o') {x' : AV} (h2 : x = x') : qm o l m id off x H K = qm o' l m id off x' H K := by subst h; subst h2; rfl
theorem D5 (l m id off : Nat) (x : AV) (H : List aa) (K : List aa → Prop) : gl l m (.ptr id off) x H K = qm H[id]? l m id off x H K := by
 unfold gl qm; rfl
theorem Hi (es : List AV) (l m id off : Nat) (x : AV) (H : List aa) (K : List aa → Prop) : qm (some (.cells es)) l m id off x H K = (l ≤ id ∧ x.val = true ∧ x.cells.length = m ∧ off + m ≤ es.length ∧ x.cells.all AV.one = true ∧ ak H.length (x.cells.map AV.ae) = true ∧
 K (H.set id (.cells (ai es off (x.cells.map AV.ae))))) := _root_.id rfl
@[congr] theorem Lp {l m : Nat} {p p' x : AV} {H H' : List aa} {K : List aa → Prop} (h : fY p = p') (h2 : H = H') : gl l m p x H K = gl l m p' x H' K := by subst h; subst h2; rfl
theorem Hj (e : Nat) (xs : List AV) (H : List aa) (K : AV → List aa → Prop) : ff e (.agg xs) H K = ju e xs H fun ys H' => K (.agg ys) H' := _root_.id rfl
theorem D6 (e : Nat) (H : List aa) (K : List AV → List aa → Prop) : ju e [] H K = K [] H := _root_.id rfl
theorem BS (e : Nat) (x : AV) (r : List AV) (H : List aa) (K : List AV → List aa → Prop) : ju e (x :: r) H K = dB e x H fun y H' => ju e r H' fun ys H'' => K (y :: ys) H'' := _root_.id rfl
theorem D7 (e : Nat) (k : IntKind) (n : Int) (H : List aa) (K : AV → List aa → Prop) : dB e (.int k n) H K = K (.int k n) H := _root_.id rfl
def JM := And.intro @GZ (And.intro @D5 (And.intro @Hi (And.intro @Jv (And.intro @Hj (And.intro @D6 (And.intro @BS @D7))))))
def g9 (o : Option aa) (kd : Nat) (zero k : AV) (ok : Bool) (φ : AV → Prop) : Prop :=
 match o with
 | some (.map es) => match dM kd k es 0 with
   | some (some (_, v)) => φ (if ok then .tuple [v.drop, .bool true] else v.drop)
   | some none => cP kd k k = some true ∧ φ (if ok then .tuple [aT zero, .bool false] else aT zero)
   | none => False
 | _ => False
@[congr] theorem Lq {o o' : Option aa} {kd : Nat} {z k k' : AV} {ok : Bool} {φ : AV → Prop} (h : fY o = o') (h2 : k = k') : g9 o kd z k ok φ = g9 o' kd z k' ok φ := by subst h; subst h2; rfl
theorem D8 (kd id : Nat) (z k : AV) (ok : Bool) (H : List aa) (φ : AV → Prop) : cc kd z (.map id) k ok H φ = g9 H[id]? kd z k ok φ := by
 unfold cc g9; rfl
def hJ (o : Option aa) (kd id : Nat) (k x : AV) (H : List aa) (K : List aa → Prop) : Prop :=
 match o with
 | some (.map es) => k.aZ (id + 1) = true ∧ x.aZ (id + 1) = true ∧ x.val = true ∧ match dM kd k es 0 with
    | some (some (i, _)) => K (H.set id (.map (es.set i (k, aT x))))
    | some none => cP kd k k = some true ∧ K (H.set id (.map (es ++ [(k, aT x)])))
    | none => False
 | _ => False
@[congr] theorem Lr {o o' : Option aa} {kd id : Nat} {k k' x x' : AV} {H : List aa} {K : List aa → Prop} (h : fY o = o') (h2 : k = k') (h3 : x = x') : hJ o kd id k x H K = hJ o' kd id k' x' H K := by subst h; subst h2; subst h3; rfl
theorem D9 (kd id : Nat) (k x : AV) (H : List aa) (K : List aa → Prop) : eZ kd (.map id) k x H K = hJ H[id]? kd id k x H K := by
 unfold eZ hJ; rfl
def xM (o : Option aa) (d id off : Nat) (env : Env) (H : List aa) (K : Env → List aa → Prop) : Prop :=
 match o with
 | some (.cells es) => off < es.length ∧ K ((d, es.getD off .any) :: env) (H.set id (.cells (es.set off (es.getD off .any).ae)))
 | _ => False
@[congr] theorem O8 {o o' : Option aa} {d id off : Nat} {env : Env} {H : List aa} {K : Env → List aa → Prop} (h : fY o = o') : xM o d id off env H K = xM o' d id off env H K := by subst h; rfl
theorem Nv (es : List AV) (d id off : Nat) (env : Env) (H : List aa) (K : Env → List aa → Prop) : xM (some (.cells es)) d id off env H K = (off < es.length ∧ K ((d, es.getD off .any) :: env) (H.set id (.cells (es.set off (es.getD off .any).ae)))) := _root_.id rfl
def BT (v : AV) (d : Nat) (env : Env) (H : List aa) (K : Env → List aa → Prop) : Prop :=
 match v with
 | .ptr id off => xM H[id]? d id off env H K
 | _ => False
@[congr] theorem O9 {v v' : AV} {d : Nat} {env : Env} {H : List aa} {K : Env → List aa → Prop} (h : fY v = v') : BT v d env H K = BT v' d env H K := by subst h; rfl
theorem Nw (id off d : Nat) (env : Env) (H : List aa) (K : Env → List aa → Prop) : BT (.ptr id off) d env H K = xM H[id]? d id off env H K := _root_.id rfl
theorem JN {P : Px} (a : IX) (d : Nat) (env : Env) (H : List aa) (K : Env → List aa → Prop) : bt P (.ee a) (some d) env H K = BT (ap env a) d env H K := by
 simp only [bt, BT, xM]
 cases ap env a <;> rfl
def JO (o : Option aa) (id off : Nat) (x : AV) (H : List aa) (K : List aa → Prop) : Prop :=
 match o with
 | some (.cells es) => off < es.length ∧ x.one = true ∧ x.aZ (id + 1) = true ∧ K (H.set id (.cells (es.set off x)))
 | _ => False
@[congr] theorem RT {o o' : Option aa} {id off : Nat} {x x' : AV} {H : List aa} {K : List aa → Prop} (h : fY o = o') (h2 : x = x') : JO o id off x H K = JO o' id off x' H K := by subst h; subst h2; rfl
theorem Nx (id off : Nat) (x : AV) (H : List aa) (K : List aa → Prop) : dK (.ptr id off) x H K = JO H[id]? id off x H K := by
 unfold dK JO; rfl
theorem RU (es : List AV) (id off : Nat) (x : AV) (H : List aa) (K : List aa → Prop) : JO (some (.cells es)) id off x H K = (off < es.length ∧ x.one = true ∧ x.aZ (id + 1) = true ∧ K (H.set id (.cells (es.set off x)))) := _root_.id rfl
theorem bd2 (x y : AV) (φ : AV → Prop) : cj [.int .i64 0, .int .i64 0, .ah] [(0, 1, x), (1, 1, y)] φ = (x.val = true ∧ x.cells.length = 1 ∧ y.val = true ∧ y.cells.length = 1 ∧ φ (.agg (ai (ai [.int .i64 0, .int .i64 0, .ah] 0 (x.cells.map AV.ae)) 1 (y.cells.map AV.ae)))) := by
 simp only [cj, gk, eq_iff_iff]
 constructor
 ·rintro ⟨h1, h2, h3, h4, h5, h6, h7⟩; exact ⟨h1, h2, h4, h5, h7⟩
 ·rintro ⟨h1, h2, h4, h5, h7⟩
  have e1 : (x.cells.map AV.ae).length = 1 := by simpa using h2
  refine ⟨h1, h2, by simp, h4, h5, ?_, h7⟩
  simp [ai, h2]
theorem bd0 (cs : List AV) (φ : AV → Prop) : cj cs [] φ = φ (.agg cs) := _root_.id rfl
theorem nX (e b : Nat) (ys : List AV) (o : Nat) (ψ : List AV → Prop) : bF e b .ah (.aq o ys) ψ = (ys.length * b ≤ 140737488355328 ∧ tb e ys ∧ ψ ys) := by
 simp [bF, mc, dE]
theorem m9 (e b : Nat) (xs ys : List AV) (o : Nat) (ψ : List AV → Prop) : bF e b (.aq e xs) (.aq o ys) ψ = ((xs.length + ys.length) * b ≤ 140737488355328 ∧ tb e ys ∧ ψ (xs ++ ys)) := by
 simp [bF, mc, dE]
theorem YX (n : Nat) : (IX.t n).slot = some n := _root_.id rfl
theorem YY (v : AV) : (IX.c v).slot = none := _root_.id rfl
theorem RV (id : Nat) (H : List aa) (φ : AV → Prop) : aS none (.aj (.map id)) H φ = φ (.map id) := by simp [aS, AV.one, I7]
theorem RW (id off : Nat) (H : List aa) (φ : AV → Prop) : aS none (.aj (.ptr id off)) H φ = φ (.ptr id off) := by simp [aS, AV.one, I6]
theorem Ny (b : Bool) : (AV.bool b).one = true := _root_.id rfl
theorem RY (k : IntKind) (n : Int) : (AV.int k n).one = true := _root_.id rfl
theorem RZ (s : ByteArray) : (AV.str s).one = true := _root_.id rfl
theorem R0 (o : Nat) (xs : List AV) : (AV.aq o xs).one = true := _root_.id rfl
theorem Nz : AV.ah.one = true := _root_.id rfl
theorem VP (f : Fn) (a b : List AV) : (AV.fn f a b).one = true := _root_.id rfl
theorem R1 (a b : Nat) : (AV.ptr a b).one = true := _root_.id rfl
theorem NA (x : AV) : (AV.aj x).one = true := _root_.id rfl
theorem R2 (a : Nat) : (AV.map a).one = true := _root_.id rfl
theorem YZ {α : Type} (p : α → Bool) (x : α) (r : List α) : (x :: r).all p = (p x && r.all p) := _root_.id rfl
theorem Y0 {α : Type} (p : α → Bool) : ([] : List α).all p = true := _root_.id rfl
theorem dG (n : Int) (h : -9223372036854775808 ≤ n ∧ n ≤ 9223372036854775807) : IntKind.i64.wrap n = n := by
 rw [show IntKind.i64.wrap n = (n + 9223372036854775808) % 18446744073709551616 - 9223372036854775808 from IntKind.wrap_i64 n]; omega
theorem aO {P : Program} {n0 : Nat} {env : Env} {H : List aa} {Q : Exit → Env → List aa → Prop} {a : IR} {ι : Type} (N : Nat) (I : Nat → ι → Prop) (se : Nat → ι → Env) (sh : Nat → ι → List aa) (s0 : ι) (h0 : I 0 s0 ∧ sle n0 env H (se 0 s0) (sh 0 s0))
 (hs : ∀ i s, i ≤ N → I i s → k8 P n0 a (se i s) (sh i s) fun e aE H' => match e with
   | .normal => ∃ j t, (j ≤ N ∧ I j t) ∧ N - j < N - i ∧ sle n0 aE H' (se j t) (sh j t)
   | e => Q e aE H') : k8 P n0 (.loop a) env H Q :=
 ⟨Nat × ι, fun p => p.1 ≤ N ∧ I p.1 p.2, fun p => se p.1 p.2, fun p => sh p.1 p.2, fun p => N - p.1, ⟨(0, s0), ⟨Nat.zero_le _, h0.1⟩, h0.2⟩, fun p hp => kL (hs p.1 p.2 hp.1 hp.2) fun x e H' h => by
   cases x with
   | normal => obtain ⟨j, t, h1, h2, h3⟩ := h; exact ⟨(j, t), h1, h2, h3⟩
   | _ => exact h⟩
theorem lN {P : Program} {l : Nat} {n0 : Nat} {env : Env} {H : List aa} {Q : Exit → Env → List aa → Prop} {a : IR} {ι : Type} (N : Nat) (I : Nat → ι → Prop) (se : Nat → ι → Env) (sh : Nat → ι → List aa) (s0 : ι) (h0 : I 0 s0 ∧ Gj n0 env H (se 0 s0) (sh 0 s0))
 (hs : ∀ i s, i ≤ N → I i s → k8 ⟨P, some l⟩ n0 a (se i s) (sh i s) fun e aE H' => match e with
   | .normal => ∃ j t, (j ≤ N ∧ I j t) ∧ N - j < N - i ∧ Gj n0 aE H' (se j t) (sh j t)
   | e => Q e aE H') : k8 ⟨P, some l⟩ n0 (.loop a) env H Q :=
 ⟨Nat × ι, fun p => p.1 ≤ N ∧ I p.1 p.2, fun p => se p.1 p.2, fun p => sh p.1 p.2, fun p => N - p.1, ⟨(0, s0), ⟨Nat.zero_le _, h0.1⟩, h0.2⟩, fun p hp => kL (hs p.1 p.2 hp.1 hp.2) fun x e H' h => by
   cases x with
   | normal => obtain ⟨j, t, h1, h2, h3⟩ := h; exact ⟨(j, t), h1, h2, h3⟩
   | _ => exact h⟩
theorem a9 {H : List aa} {s : Nat} {v v' : AV} (hb : v.aZ H.length = true) (hv : v = v') : bV H.length [.t s] [(s, v)] H fun r H' => r = v' ∧ H' = H :=
 aW _ (Nat.le_refl _) (by rw [ay, if_pos rfl]; exact hb) ⟨by rw [ay, if_pos rfl]; exact hv, by simp⟩
theorem JP {H e : List aa} {s : Nat} {v v' : AV} (hb : v.aZ H.length = true) (hv : v = v') : bV H.length [.t s] [(s, v)] (H ++ e) fun r H' => r = v' ∧ H' = H :=
 aW _ (Nat.le_refl _) (by rw [ay, if_pos rfl]; exact hb) ⟨by rw [ay, if_pos rfl]; exact hv, by simp⟩
theorem R3 {H H' : List aa} {n0 s : Nat} {v v' : AV} (hn : n0 = H.length) (hb : v.aZ n0 = true) (hv : v = v') (hl : H = H') : bV n0 [.t s] [(s, v)] H fun r H'' => r = v' ∧ H'' = H' := by
 subst hn hl; exact a9 hb hv
theorem qn {H H' : List aa} {n0 : Nat} {env : Env} (hn : n0 = H.length) (hl : H = H') : bV n0 [] env H fun r H'' => r = .tuple [] ∧ H'' = H' := by
 subst hn hl
 exact ⟨H.length, Nat.le_refl _, [], trivial, rfl, rfl, by simp⟩
theorem xN {H e : List aa} {s s' : Nat} {v v' x y : AV} (hs : s' ≠ s) (hb : x.aZ H.length = true) (dT : y.aZ H.length = true) (hx : v.ae = x) (hy : v'.ae = y) :
 bV H.length [.t s, .t s'] [(s, v), (s', v')] (H ++ e) fun r H' => r = .tuple [x, y] ∧ H' = H := by
 subst hx hy
 refine ⟨H.length, Nat.le_refl _, [v.ae, v'.ae], ?_, ?_, rfl, by simp⟩
 ·simp only [ay, if_neg hs, if_true, List.map]
  exact ca _
 ·simp only [ak, hb, dT, Bool.and_self]
theorem BU {H : List aa} {s s' : Nat} {v v' x y : AV} (hs : s' ≠ s) (hb : x.aZ H.length = true) (dT : y.aZ H.length = true) (hx : v.ae = x) (hy : v'.ae = y) :
 bV H.length [.t s, .t s'] [(s, v), (s', v')] H fun r H' => r = .tuple [x, y] ∧ H' = H := by
 have := xN (e := []) hs hb dT hx hy
 rw [List.append_nil] at this
 exact this
def xO (n0 : Nat) (x : AV) (H : List aa) (R : AV → List aa → Prop) : Prop := ∃ m, n0 ≤ m ∧ ∃ r, x.le r ∧ r.aZ m = true ∧ R r (H.take m)
@[congr] theorem Pa {n0 : Nat} {x x' : AV} {H H' : List aa} {R : AV → List aa → Prop} (h : fY x = x') (h2 : H = H') : xO n0 x H R = xO n0 x' H' R := by subst h; subst h2; rfl
def sP (n0 : Nat) (xs : List AV) (H : List aa) (R : AV → List aa → Prop) : Prop := ∃ m, n0 ≤ m ∧ ∃ ys, xp (xs.map AV.ae) ys ∧ ak m ys = true ∧ R (.tuple ys) (H.take m)
@[congr] theorem Pb {n0 : Nat} {x x' : List AV} {H H' : List aa} {R : AV → List aa → Prop} (h : fY x = x') (h2 : H = H') : sP n0 x H R = sP n0 x' H' R := by subst h; subst h2; rfl
theorem R4 (n0 s : Nat) (sz : Option Nat) (env : Env) (H : List aa) (R : AV → List aa → Prop) : bV n0 [.c s sz] env H R = aS sz (get env s) H fun x => xO n0 x H R := _root_.id rfl
theorem NB (n0 s s' : Nat) (sz : Option Nat) (env : Env) (H : List aa) (R : AV → List aa → Prop) : bV n0 [.c s sz, .t s'] env H R = aS sz (get env s) H fun x => sP n0 [x, get env s'] H R := _root_.id rfl
theorem Fq {H e : List aa} {v v' : AV} (hb : v.aZ H.length = true) (hv : v = v') : xO H.length v (H ++ e) fun r H' => r = v' ∧ H' = H := by
 subst hv; exact ⟨H.length, Nat.le_refl _, v, le_refl _, hb, rfl, by simp⟩
theorem b7 {i n : Nat} (h : (i : Int) < (n : Int)) : i < n := by omega
theorem dl {i n : Nat} (h : (n : Int) ≤ (i : Int)) : n ≤ i := by omega
def lO := (And.intro @BI (And.intro @BM (And.intro @xL @G7)))
def R5 := (And.intro (And.intro (And.intro (And.intro (And.intro (And.intro (And.intro (And.intro @Rx @Jh) (And.intro @DP @Ji)) (And.intro (And.intro @M6 @BG) (And.intro @GU (And.intro @Jj @M7)))) (And.intro (And.intro (And.intro @Jk @RB) (And.intro @RC @VH)) (And.intro (And.intro @VI @GV) (And.intro @Jl (And.intro @RD @RE))))) (And.intro (And.intro (And.intro (And.intro @M8 @Jd) (And.intro @Je @ay)) (And.intro (And.intro @Rv @RI) (And.intro @Jr (And.intro @GY @Js)))) (And.intro (And.intro (And.intro @VJ @RJ) (And.intro @Nh (And.intro @Ni @Jt))) (And.intro (And.intro @Ju @wS) (And.intro @Nj (And.intro @JN @Nw)))))) (And.intro (And.intro (And.intro (And.intro (And.intro @Nv @Nx) (And.intro @RU @D8)) (And.intro (And.intro @D9 @nX) (And.intro @m9 (And.intro @RV @RW)))) (And.intro (And.intro (And.intro @YX @YY) (And.intro @R4 (And.intro @NB @bd0))) (And.intro (And.intro @bd2 @Jw) (And.intro @DQ (And.intro @BH @zF))))) (And.intro (And.intro (And.intro (And.intro @Jx @zG) (And.intro @BJ @Jy)) (And.intro (And.intro @Nk @BK) (And.intro @RK (And.intro @G8 (And.intro @Jz (And.intro @tR @DR)))))) (And.intro (And.intro (And.intro @JA @JB) (And.intro @Ha (And.intro @Hb @VK))) (And.intro (And.intro @DS @DU) (And.intro @DV (And.intro @DW @JC))))))) (And.intro (And.intro (And.intro (And.intro (And.intro (And.intro @VL @Nl) (And.intro @JD @RL)) (And.intro (And.intro @Nm @JE) (And.intro @Nn (And.intro @No @RM)))) (And.intro (And.intro (And.intro @Np @RN) (And.intro @JF @Hc)) (And.intro (And.intro @JG @VM) (And.intro @Nq (And.intro @JH @wT))))) (And.intro (And.intro (And.intro (And.intro @zH @wU) (And.intro @BL @zJ)) (And.intro (And.intro @JI @zK) (And.intro @BN (And.intro @JJ @BO)))) (And.intro (And.intro (And.intro @BP @zL) (And.intro @vq (And.intro @tq @VN))) (And.intro (And.intro @DX @DY) (And.intro @VO (And.intro @Nr @DZ)))))) (And.intro (And.intro (And.intro (And.intro (And.intro @Hd @D0) (And.intro @D1 @BQ)) (And.intro (And.intro @RP @RQ) (And.intro @kK (And.intro @D2 @He)))) (And.intro (And.intro (And.intro @Hf @JK) (And.intro @Hg (And.intro @MV @MW))) (And.intro (And.intro @MX @MY) (And.intro @VB (And.intro @VC @VD))))) (And.intro (And.intro (And.intro (And.intro @VE @YN) (And.intro @VF @VG)) (And.intro (And.intro @M4 @GQ) (And.intro @Qx (And.intro @nU @m8)))) (And.intro (And.intro (And.intro @zA @Fh) (And.intro @vg (And.intro @Qy @Qz))) (And.intro (And.intro @I5 @I6) (And.intro @Fi (And.intro @Ms @I7)))))))) (And.intro (And.intro (And.intro (And.intro (And.intro (And.intro (And.intro @Mt @OT) (And.intro @Mv @Mw)) (And.intro (And.intro @QA @QB) (And.intro @Mx (And.intro @QC @QD)))) (And.intro (And.intro (And.intro @Vw @My) (And.intro @QE @Mz)) (And.intro (And.intro @QF @tO) (And.intro @QG (And.intro @QH @MA))))) (And.intro (And.intro (And.intro (And.intro @QI @QJ) (And.intro @Vx @MB)) (And.intro (And.intro @QK @MC) (And.intro @QL (And.intro @Fj @QM)))) (And.intro (And.intro (And.intro @QN @MD) (And.intro @QO (And.intro @QP @Vy))) (And.intro (And.intro @ME @QQ) (And.intro @MF (And.intro @QR @zB)))))) (And.intro (And.intro (And.intro (And.intro (And.intro @iP @I8) (And.intro @Fk @cR)) (And.intro (And.intro @vh @I9) (And.intro @rA (And.intro @Ja @jE)))) (And.intro (And.intro (And.intro @zC @Vz) (And.intro @MG (And.intro @cW @bM))) (And.intro (And.intro @Rw @MS) (And.intro @QS (And.intro @QT @QU))))) (And.intro (And.intro (And.intro (And.intro @QV @QW) (And.intro @QX @QY)) (And.intro (And.intro @QZ @Q0) (And.intro @Q3 (And.intro @Q4 @Q5)))) (And.intro (And.intro (And.intro @Q6 @Q7) (And.intro @Q8 (And.intro @Q9 @Ra))) (And.intro (And.intro @Rb @YM) (And.intro @Rc (And.intro @MH @Re))))))) (And.intro (And.intro (And.intro (And.intro (And.intro (And.intro @Rf @MJ) (And.intro @Rg @MK)) (And.intro (And.intro @Rh @Ri) (And.intro @ML (And.intro @Rj @MM)))) (And.intro (And.intro (And.intro @Rk @Rl) (And.intro @Rm @MN)) (And.intro (And.intro @VA @Rn) (And.intro @MO (And.intro @Jb @Ro))))) (And.intro (And.intro (And.intro (And.intro @Jc @Rp) (And.intro @Rq @Rr)) (And.intro (And.intro @Ru @GJ) (And.intro @MP (And.intro @MQ @MR)))) (And.intro (And.intro (And.intro @GK @GL) (And.intro @GM (And.intro @GN @GO))) (And.intro (And.intro @Bv @Bw) (And.intro @ga0 (And.intro @ga @sa0)))))) (And.intro (And.intro (And.intro (And.intro (And.intro @sa @YO) (And.intro @TS @g0)) (And.intro (And.intro @g1 @g2) (And.intro @s0 (And.intro @s1 @s2)))) (And.intro (And.intro (And.intro @d0 @d1) (And.intro @d2 (And.intro @YP @YQ))) (And.intro (And.intro @YR @YT) (And.intro @YU (And.intro @YV @YW))))) (And.intro (And.intro (And.intro (And.intro @RR @RS) (And.intro @Fp @Nt)) (And.intro (And.intro @JL @Ns) (And.intro @Hh (And.intro @BR @Ny)))) (And.intro (And.intro (And.intro @RY @RZ) (And.intro @R0 (And.intro @Nz @VP))) (And.intro (And.intro @R1 @NA) (And.intro @R2 (And.intro @YZ @Y0)))))))))
end Go.aL
end
section
namespace Go.aL
open Go Go.RowKit
def fg (w : World) : Mem := fun b o => w.cell? ⟨b, o, none⟩
def Ea (w : World) : Perm := ⟨fun b => w.heap.size ≤ b, fun id => some (id + 1), (fun id n h => by cases h; omega), 0⟩
theorem zM (w : World) : (Ea w).entry false ([] : List aa).length := ⟨fun id h => absurd h (Nat.not_lt_zero _), fun id _ => rfl⟩
theorem St.start {w : World} {vs : Array Value} {xs : List AV} (h : aK (fg w) [] vs.toList xs) (hf : ∀ x ∈ xs, ∀ own ys, x = .aq own ys → own = 0) :
 St (Ea w) (fg w) [] w [] (fun t => vs.getD t undef) (fun t => xs.getD t .any) (fun _ => none) where
 len := rfl
 nodup := by simp
 env := fun t => by
  have := h.getD t
  rw [List.getD_eq_getElem?_getD] at this
  rw [Array.getD_eq_getD_getElem?]
  simpa using this
 mem := fun b o v hv => hv
 obj := fun id o b ho => by simp at ho
 bC := fun id o ho => by simp at ho
 lt := fun b hb => by cases hb
 gJ := fun t => by
  refine bc.free fun own ys e => ?_
  rw [List.getD_eq_getElem?_getD] at e
  cases hx : xs[t]? with
  | none => rw [hx] at e; cases e
  | some x => rw [hx] at e; exact hf x (List.mem_of_getElem? hx) own ys e
 gG := fun id j => by simp [bp, bc]
 bZ := fun p q b hp => by cases hp
 ch := fun p b hp => by cases hp
 eS := fun p b hp => by cases hp
 La := fun b hb => by cases hb
 Oa := fun p b hp => by cases hp
 fresh := fun b hb => hb
theorem Ext.below {M M' : Mem} {w w' : World} (h : Ext (Ea w) M w M' w') : Below w.heap.size w w' :=
 ⟨h.os, h.tape, h.output, h.size, fun k hk => (h.j3 k hk (by show ¬ w.heap.size ≤ k; omega)).1⟩
theorem Pure.lift {P : Program} {f : FuncId} {xs : List AV} {b : Bool} (hp : Pure P f xs (.bool b)) (he : ∀ (as : Array Value) (w : World), (callFunc f as).run P w = .ok (.enter f as) w)
 {w : World} {vs : Array Value} (hr : aK (fg w) [] vs.toList xs) (hf : ∀ x ∈ xs, ∀ own ys, x = .aq own ys → own = 0) :
 Calls P f vs w fun e w' => e = .returned (.bool b) ∧ Below w.heap.size w w' := by
 have hs : vs.size = xs.length := by have := hr.length; simpa using this
 refine ((hp []).body he (zM w) hs (St.start hr hf)).mono ?_
 rintro e w' ⟨v, r, H', M', L', O', rfl, ⟨rfl, rfl⟩, bQ, ct, _⟩
 have := bQ.env 0
 simp only [H6] at this
 cases this
 exact ⟨rfl, ct.below⟩
theorem BV {a : Addr} {n : Nat} (h : a.spot = none) : a.add n = ⟨a.block, a.off + n, none⟩ := by
 obtain ⟨b, o, s⟩ := a
 simp only at h
 subst h
 unfold Addr.add
 split
 ·rename_i e; subst e; rfl
 ·rfl
theorem Hk {w : World} {a : Addr} {v : Value} (h : w.cell? a = some v) : a.spot = none := by
 unfold World.cell? at h
 split at h
 ·split at h
  ·cases h
  ·rename_i hs; cases K7 : a.spot <;> simp_all
 ·cases h
theorem xP {M : Mem} {L : List Nat} : ∀ {n : Nat} {cs : Nat → List Value} {f : Nat → AV}, (∀ i, i < n → aK M L (cs i) (f i).cells) → aK M L ((List.range n).flatMap cs) (flat ((List.range n).map f))
 | 0, _, _, _ => by simp [flat]; exact .nil
 | n + 1, cs, f, h => by
   have ih := xP (n := n) (fun i hi => h i (by omega))
   simp only [List.range_succ, List.flatMap_append, List.map_append, flat] at ih ⊢
   refine ih.append ?_
   simpa using h n (by omega)
theorem BW {n e : Nat} {cs : Nat → List Value} : (∀ i, i < n → (cs i).length = e) → ∀ (j : Nat) (v : Value), ((List.range n).flatMap cs)[j]? = some v → ∃ i k, i < n ∧ k < e ∧ j = i * e + k ∧ (cs i)[k]? = some v := by
 induction n with
 | zero => intro _ j v h; simp at h
 | succ n ih =>
   intro hl j v h
   simp only [List.range_succ, List.flatMap_append] at h
   have hlen : ((List.range n).flatMap cs).length = n * e := by
    clear h ih
    induction n with
    | zero => simp
    | succ n ih2 =>
      simp only [List.range_succ, List.flatMap_append, List.length_append]
      rw [ih2 (fun i hi => hl i (by omega))]
      simp [hl n (by omega), Nat.succ_mul]
   rcases Nat.lt_or_ge j (n * e) with hj | hj
   ·rw [List.getElem?_append_left (by omega)] at h
    obtain ⟨i, k, h1, h2, h3, h4⟩ := ih (fun i hi => hl i (by omega)) j v h
    exact ⟨i, k, by omega, h2, h3, h4⟩
   ·rw [List.getElem?_append_right (by omega), hlen] at h
    simp only [List.flatMap_cons, List.flatMap_nil, List.append_nil] at h
    have hk := (List.getElem?_eq_some_iff.1 h).1
    rw [hl n (by omega)] at hk
    exact ⟨n, j - n * e, by omega, hk, by omega, h⟩
theorem xQ {w : World} {base e len cap : Nat} {a : Addr} (he : 0 < e) (hl : len ≤ cap) (hc : cap ≤ maxLen) (cs : Nat → List Value) (f : Nat → AV)
 (h : ∀ i, i < len → w.cells? base (a.add (i * e)) e = some (cs i) ∧ aK (fg w) [] (cs i) (f i).cells) : aR (fg w) [] (.slice (some a) len cap) (.aq 0 ((List.range len).map f)) := by
 have cF : cap < 9223372036854775808 := by have : maxLen = 9223372036854775807 := rfl; omega
 rcases Nat.eq_zero_or_pos len with h0 | h0
 ·subst h0
  exact .gf _ _ _ cF
 have hlen : ∀ i, i < len → (cs i).length = e := fun i hi => (World.cells?_some (h i hi).1).2.1
 have hcell : ∀ i, i < len → ∀ k, k < e → w.cell? ((a.add (i * e)).add k) = (cs i)[k]? := fun i hi => (World.cells?_some (h i hi).1).2.2
 have hspot : a.spot = none := by
  have h1 := hcell 0 h0 0 he
  rw [List.getElem?_eq_getElem (by rw [hlen 0 h0]; exact he)] at h1
  have h2 := Hk h1
  simpa [Addr.add] using h2
 have key : aR (fg w) [] (.slice (some ⟨a.block, a.off, none⟩) ((List.range len).map f).length cap) (.aq 0 ((List.range len).map f)) := by
  refine .aq a.block a.off cap 0 e ((List.range len).flatMap cs) _ he ?_ (by simpa using h0) (by simpa using hl) cF (xP fun i hi => (h i hi).2) ?_
  ·intro x hx
   obtain ⟨i, hi, rfl⟩ := List.mem_map.1 hx
   have hi := List.mem_range.1 hi
   rw [← (h i hi).2.length, hlen i hi]
  ·intro j v hv
   obtain ⟨i, k, h1, h2, rfl, h4⟩ := BW hlen j v hv
   have := hcell i h1 k h2
   rw [BV hspot, BV (by rfl)] at this
   show w.cell? ⟨a.block, a.off + (i * e + k), none⟩ = some v
   rw [← Nat.add_assoc, this, h4]
 have ea : (some a : Option Addr) = some ⟨a.block, a.off, none⟩ := by obtain ⟨b, o, s⟩ := a; simp only at hspot; rw [hspot]
 rw [ea]
 simpa using key
section
variable {H : Type} {enc : TypeId × Value → H} {P : Program}
theorem oI (hl : laidOutB P = true) {W W' : World} (hb : Below W.heap.size W W') : ∀ {ts : List TypeId} {vs : List Value} {ds : List (DataW H)} {ps : List MemPlace}, (∀ t ∈ ts, P.readableRec t = true ∧ t < P.types.size) →
 DataW.TrodAll enc P W 0 (fun _ => true) true ts vs ds ps → (∀ x ∈ ps, x.block < W.heap.size) → DataW.TrodAll enc P W' 0 (fun b => decide (b < W.heap.size)) true ts vs ds ps
 | [], [], [], _, _, h, _ => h
 | t :: ts, v :: vs, d :: ds, _, ht, ⟨p, q, h1, h2, e⟩, hp => by
   subst e
   exact ⟨p, q, Below.trod hl (ht t (by simp)).1 (ht t (by simp)).2 h1 hb (fun x hx => hp x (by simp [hx])), oI hl hb (fun t ht' => ht t (by simp [ht'])) h2 (fun x hx => hp x (by simp [hx])), rfl⟩
theorem JQ {fn : Func} {s : ChangeSpec} {apart : Bool} {W W' : World} {args : Array Value} {ds gs : List (DataW H)} {before : List MemPlace} {t : TypeId} (hl : laidOutB P = true) (hb : Below W.heap.size W W')
 (hW : DataW.Whole enc P fn.params.toList s.vars apart W args.toList ds gs before) (hv : s.vars = []) (tu : fn.resultTypes = #[t]) (ht : P.underlying t = some .bool) (hs : s.fn H ds = { results := [.lit (.bool true)], args := ds })
 (hp : fn.params.toList.all (fun t => P.readableRec t && decide (t < P.types.size)) = true) : s.post enc P fn apart true false false W args (.bool true) W' := by
 have a8 : ∀ x ∈ before, x.block < W.heap.size := fun x hx => by simpa using hW.lt x hx
 have hW0 := hW
 obtain ⟨p, q, h1, h2, h3, h4, h5⟩ := hW
 rw [hv] at h2
 obtain ⟨rfl, rfl⟩ := ChangeShapes.trodVars_none h2
 simp only [List.append_nil] at h3
 subst h3
 refine ⟨ds, [], before, [], before, [], hW0, ?_, ?_, ?_, hb.frame _, fun h => by cases h⟩
 ·simp only [List.append_nil, hs, tu]
  exact ChangeShapes.trodAll_mk1 (shut_bool ht true)
 ·simp only [List.append_nil, hs]
  exact oI hl hb (fun t ht => by simpa using List.all_eq_true.1 hp t ht) h1 a8
 ·simp only [hv, List.append_nil, hs]
  rfl
end
end Go.aL
end
section
namespace Go.aL
open Go
structure Y1 {σ : Type} (S : σ → List aa) (p : Nat) (obj : σ → aa) (n : Nat) : Prop where
 get : ∀ s, (S s)[p]? = some (obj s)
 set : ∀ s s', (S s).set p (obj s') = S s'
 len : ∀ s, (S s).length = n
namespace Y1
variable {σ : Type} {S : σ → List aa} {p : Nat} {obj : σ → aa} {n : Nat} (F : Y1 S p obj n)
include F
theorem lt (s : σ) : p < n := by
 have := F.get s
 rw [← F.len s]
 exact (List.getElem?_eq_some_iff.1 this).1
theorem take (s : σ) (e : List aa) : (S s ++ e).take n = S s := by
 rw [← F.len s]; simp
end Y1
theorem Pc {Hs G : List aa} {n0 : Nat} {v w x y : AV} {R : AV → List aa → Prop} (hH : Hs.take n0 = G) (hb : x.aZ n0 = true) (dT : y.aZ n0 = true) (hx : v.ae = x) (hy : w.ae = y) (hR : R (.tuple [x, y]) G) :
 sP n0 [v, w] Hs R := by
 subst hx hy hH
 exact ⟨n0, Nat.le_refl _, [v.ae, w.ae], ca _, by simp only [ak, hb, dT, Bool.and_self], hR⟩
theorem Pd {Hs G : List aa} {n0 : Nat} {v x : AV} {R : AV → List aa → Prop} (hH : Hs.take n0 = G) (hb : x.aZ n0 = true) (hx : v = x) (hR : R x G) : xO n0 v Hs R := by
 subst hx hH
 exact ⟨n0, Nat.le_refl _, v, le_refl _, hb, hR⟩
theorem NC {Hs G : List aa} {n0 s : Nat} {v x : AV} {R : AV → List aa → Prop} (hH : Hs.take n0 = G) (hb : x.aZ n0 = true) (hx : v = x) (hR : R x G) : bV n0 [.t s] [(s, v)] Hs R := by
 subst hx hH
 exact aW _ (Nat.le_refl _) (by rw [ay, if_pos rfl]; exact hb) (by rw [ay, if_pos rfl]; exact hR)
end Go.aL
end
section
namespace Go.aL
open Go
def vr (C : List aa → Nat → List aa → Prop) (n0 : Nat) (v : AV) (H : List aa) (R : AV → List aa → Prop) : Prop :=
 ∃ m H', n0 ≤ m ∧ C H m H' ∧ ∃ r, v.le r ∧ r.aZ m = true ∧ R r H'
@[congr] theorem ND {C : List aa → Nat → List aa → Prop} {n0 : Nat} {x x' : AV} {H H' : List aa} {R : AV → List aa → Prop} (h : fY x = x') (h2 : H = H') : vr C n0 x H R = vr C n0 x' H' R := by subst h; subst h2; rfl
theorem NE {C : List aa → Nat → List aa → Prop} {n0 s : Nat} {sz : Option Nat} {env : Env} {H : List aa} {R : AV → List aa → Prop} : kI C n0 [.c s sz] env H R = aS sz (get env s) H fun v => vr C n0 v H R := _root_.id rfl
theorem NF {C : List aa → Nat → List aa → Prop} {n0 s : Nat} {env : Env} {H : List aa} {R : AV → List aa → Prop} : kI C n0 [.t s] env H R = vr C n0 (get env s) H R := _root_.id rfl
theorem Hl {n0 : Nat} {H G : List aa} (h : G.take n0 = H) (hl : H.length = n0) : mf n0 G n0 H := by
 subst h
 refine ⟨by simp, fun id o ho => ?_⟩
 rw [List.getElem?_take] at ho
 split at ho
 ·exact .inr ⟨ho, fun h => by omega⟩
 ·cases ho
def only (n0 id : Nat) (G : List aa) : List aa := G.mapIdx fun j o => if j < n0 ∨ j = id then o else .dead
theorem nY (n0 : Nat) (env : Env) (H : List aa) : Gj n0 env H env H := ⟨fun t => le_refl _, .inl rfl⟩
theorem zO {n0 : Nat} {env aE : Env} {H H' : List aa} (he : env = aE) (hH : H = H') : Gj n0 env H aE H' := by
 subst he; subst hH; exact nY _ _ _
def rD := And.intro @NE (And.intro @NF JM)
end Go.aL
end
