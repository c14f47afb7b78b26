/- Part 10 of 18 of the proof. -/
import Derived.Test.YtljchnfgjdjobaaGreatSah
import Derived.ProofKit
import Derived.Deep.Slices
import Derived.Deep.Strs
set_option linter.unusedVariables false
set_option linter.unusedSimpArgs false
set_option linter.defProp false
set_option linter.unusedSectionVars false
section
namespace Go.aK
open Go
theorem Qp : AV.any.ab = .any := _root_.id rfl
theorem nT (b : Bool) : (AV.bool b).ab = .bool b := _root_.id rfl
theorem mY (k : IntKind) (n : Int) : (AV.int k n).ab = .int k n := _root_.id rfl
theorem zA (s : ByteArray) : (AV.str s).ab = .str s := _root_.id rfl
theorem Fb : AV.ah.ab = .ah := _root_.id rfl
theorem uU (o : Nat) (xs : List AV) : (AV.ap o xs).ab = .ap 0 xs := _root_.id rfl
theorem Qq (a b c d : Nat) : (AV.bf a b c d).ab = .bf a b c d := _root_.id rfl
theorem Qr (xs : List AV) : (AV.agg xs).ab = .agg xs := _root_.id rfl
theorem I2 (xs : List AV) : (AV.tuple xs).ab = .tuple xs := _root_.id rfl
theorem I3 (a b : Nat) : (AV.ptr a b).ab = .ptr a b := _root_.id rfl
theorem Fc (x : AV) : (AV.ai x).ab = .ai x := _root_.id rfl
theorem Mk : AV.qO.ab = .qO := _root_.id rfl
theorem I4 (a : Nat) : (AV.map a).ab = .map a := _root_.id rfl
theorem Ml : AV.iD.ab = .iD := _root_.id rfl
theorem OM (f : Fn) (a b : List AV) : (AV.fn f a b).ab = .fn f a b := _root_.id rfl
theorem Mm : AV.fq.ab = .fq := _root_.id rfl
theorem Mn (b : Bool) : (AV.bool b).cells = [.bool b] := _root_.id rfl
theorem Qs (k : IntKind) (n : Int) : (AV.int k n).cells = [.int k n] := _root_.id rfl
theorem Qt (s : ByteArray) : (AV.str s).cells = [.str s] := _root_.id rfl
theorem Mo : AV.ah.cells = [.ah] := _root_.id rfl
theorem Qu (o : Nat) (xs : List AV) : (AV.ap o xs).cells = [.ap o xs] := _root_.id rfl
theorem Qv (xs : List AV) : (AV.agg xs).cells = xs := _root_.id rfl
theorem Vo (f : Fn) (a b : List AV) : (AV.fn f a b).cells = [.fn f a b] := _root_.id rfl
theorem Mq : AV.fq.cells = [.fq] := _root_.id rfl
theorem Qw (a b : Nat) : (AV.ptr a b).cells = [.ptr a b] := _root_.id rfl
theorem Mr (x : AV) : (AV.ai x).cells = [.ai x] := _root_.id rfl
theorem Qx (a : Nat) : (AV.map a).cells = [.map a] := _root_.id rfl
theorem tJ (b : Bool) : (AV.bool b).drop = .bool b := _root_.id rfl
theorem Qy (k : IntKind) (n : Int) : (AV.int k n).drop = .int k n := _root_.id rfl
theorem Qz (s : ByteArray) : (AV.str s).drop = .str s := _root_.id rfl
theorem Ms : AV.ah.drop = .ap 0 [] := _root_.id rfl
theorem QA (o : Nat) (xs : List AV) : (AV.ap o xs).drop = .ap 0 xs := _root_.id rfl
theorem QB (xs : List AV) : (AV.agg xs).drop = .agg xs := _root_.id rfl
theorem Vp (f : Fn) (a b : List AV) : (AV.fn f a b).drop = .fn f a b := _root_.id rfl
theorem Mt : AV.fq.drop = .fq := _root_.id rfl
theorem QC (a b : Nat) : (AV.ptr a b).drop = .ptr a b := _root_.id rfl
theorem Mv (x : AV) : (AV.ai x).drop = .ai x := _root_.id rfl
theorem QD (a : Nat) : (AV.map a).drop = .map a := _root_.id rfl
theorem Fe (b : Bool) : (AV.bool b).val = true := _root_.id rfl
theorem QE (k : IntKind) (n : Int) : (AV.int k n).val = true := _root_.id rfl
theorem QF (s : ByteArray) : (AV.str s).val = true := _root_.id rfl
theorem Mw : AV.ah.val = true := _root_.id rfl
theorem QG (o : Nat) (xs : List AV) : (AV.ap o xs).val = true := _root_.id rfl
theorem QH (xs : List AV) : (AV.agg xs).val = true := _root_.id rfl
theorem Vq (f : Fn) (a b : List AV) : (AV.fn f a b).val = true := _root_.id rfl
theorem Mx : AV.fq.val = true := _root_.id rfl
theorem QI (a b : Nat) : (AV.ptr a b).val = true := _root_.id rfl
theorem My (x : AV) : (AV.ai x).val = true := _root_.id rfl
theorem QJ (a : Nat) : (AV.map a).val = true := _root_.id rfl
theorem zB (n : Nat) (b : Bool) : (AV.bool b).a7 n = true := _root_.id rfl
theorem iO (n : Nat) (k : IntKind) (m : Int) : (AV.int k m).a7 n = true := _root_.id rfl
theorem I5 (n : Nat) (s : ByteArray) : (AV.str s).a7 n = true := _root_.id rfl
theorem Ff (n : Nat) : AV.ah.a7 n = true := _root_.id rfl
theorem cW (n o : Nat) (xs : List AV) : (AV.ap o xs).a7 n = aj n xs := by rw [AV.a7]
theorem uV (n : Nat) (xs : List AV) : (AV.agg xs).a7 n = aj n xs := by rw [AV.a7]
theorem I6 (n : Nat) (xs : List AV) : (AV.tuple xs).a7 n = aj n xs := by rw [AV.a7]
theorem rv (n a b : Nat) : (AV.ptr a b).a7 n = decide (a < n) := by rw [AV.a7]
theorem I7 (n a : Nat) : (AV.map a).a7 n = decide (a < n) := by rw [AV.a7]
theorem jC (n a b c d : Nat) : (AV.bf a b c d).a7 n = decide (a < n) := by rw [AV.a7]
theorem zC (n : Nat) (x : AV) : (AV.ai x).a7 n = x.a7 n := by rw [AV.a7]
theorem Vr (n : Nat) (f : Fn) (a b : List AV) : (AV.fn f a b).a7 n = (aj n a && aj n b) := by rw [AV.a7]
theorem Mz (n : Nat) : AV.fq.a7 n = true := _root_.id rfl
theorem cZ (n : Nat) : aj n [] = true := _root_.id rfl
theorem bL (n : Nat) (x : AV) (xs : List AV) : aj n (x :: xs) = (x.a7 n && aj n xs) := by rw [aj]
section
variable (k : IntKind) (a b : Int) (φ : AV → Prop)
theorem QK : cV .add (.int k a) (.int k b) φ = φ (.int k (k.wrap (a + b))) := by simp [cV]
theorem QL : cV .sub (.int k a) (.int k b) φ = φ (.int k (k.wrap (a - b))) := by simp [cV]
theorem QM : cV .mul (.int k a) (.int k b) φ = φ (.int k (k.wrap (a * b))) := by simp [cV]
theorem QN : cV .rem (.int k a) (.int k b) φ = (b ≠ 0 ∧ φ (.int k (a.tmod b))) := by simp [cV]
theorem QO : cV .quo (.int k a) (.int k b) φ = (b ≠ 0 ∧ φ (.int k (k.wrap (a.tdiv b)))) := by simp [cV]
theorem QP : cV .eql (.int k a) (.int k b) φ = φ (.bool (decide (a = b))) := by simp [cV]
theorem QQ : cV .neq (.int k a) (.int k b) φ = φ (.bool (decide (a ≠ b))) := by simp [cV]
theorem QR : cV .lss (.int k a) (.int k b) φ = φ (.bool (decide (a < b))) := by simp [cV]
theorem QS : cV .leq (.int k a) (.int k b) φ = φ (.bool (decide (a ≤ b))) := by simp [cV]
theorem QT : cV .gtr (.int k a) (.int k b) φ = φ (.bool (decide (b < a))) := by simp [cV]
theorem QU : cV .geq (.int k a) (.int k b) φ = φ (.bool (decide (b ≤ a))) := by simp [cV]
theorem QV (s t : ByteArray) : cV .eql (.str s) (.str t) φ = φ (.bool (decide (s = t))) := by simp [cV]
theorem QW (s t : ByteArray) : cV .neq (.str s) (.str t) φ = φ (.bool (decide (s ≠ t))) := by simp [cV]
theorem QX (s t : ByteArray) : cV .add (.str s) (.str t) φ = (s.size + t.size < 9223372036854775808 ∧ φ (.str (s ++ t))) := by simp [cV]
theorem QY (q : Bool) : yE .not (.bool q) φ = φ (.bool (!q)) := _root_.id rfl
theorem QZ : yE .neg (.int k a) φ = φ (.int k (k.wrap (0 - a))) := _root_.id rfl
theorem Q0 (p q : Bool) : cM true (.bool p) (.bool q) φ = φ (.bool (decide (p ≠ q))) := _root_.id rfl
theorem Q3 (p q : Bool) : cM false (.bool p) (.bool q) φ = φ (.bool (decide (p = q))) := _root_.id rfl
theorem YE (q : Bool) (ψ : Bool → Prop) : eI (.bool q) ψ = ψ q := _root_.id rfl
theorem Q4 (s : ByteArray) (H : List aa) : eW (.str s) H φ = φ (.int .i64 s.size) := _root_.id rfl
theorem MA (H : List aa) : eW .ah H φ = φ (.int .i64 0) := _root_.id rfl
theorem Q5 (o : Nat) (xs : List AV) (H : List aa) : eW (.ap o xs) H φ = (xs.length < 9223372036854775808 → φ (.int .i64 xs.length)) := _root_.id rfl
theorem Q6 (x y l c : Nat) (H : List aa) : eW (.bf x y l c) H φ = φ (.int .i64 l) := _root_.id rfl
theorem MB (H : List aa) : eW .iD H φ = φ (.int .i64 0) := _root_.id rfl
theorem Q7 (s : ByteArray) : aL 0 (.str s) = True := _root_.id rfl
theorem MC : aL 1 .ah = True := _root_.id rfl
theorem Q8 (o : Nat) (xs : List AV) : aL 1 (.ap o xs) = True := _root_.id rfl
theorem Q9 (x y l c : Nat) : aL 1 (.bf x y l c) = True := _root_.id rfl
theorem MD : aL 2 .iD = True := _root_.id rfl
theorem Ra (x : Nat) : aL 2 (.map x) = True := _root_.id rfl
theorem ME (q : Bool) (H : List aa) : aS none (.ai (.bool q)) H φ = φ (.bool q) := by simp [aS, AV.one, nT]
theorem Rb (H : List aa) : aS none (.ai (.int k a)) H φ = φ (.int k a) := by simp [aS, AV.one, mY]
theorem Rc (s : ByteArray) (H : List aa) : aS none (.ai (.str s)) H φ = φ (.str s) := by simp [aS, AV.one, zA]
theorem Re (o : Nat) (xs : List AV) (H : List aa) : aS none (.ai (.ap o xs)) H φ = φ (.ap 0 xs) := by simp [aS, AV.one, uU]
theorem MF (H : List aa) : aS none (.ai .ah) H φ = φ .ah := by simp [aS, AV.one, Fb]
theorem Vs (f : Fn) (x y : List AV) (H : List aa) : aS none (.ai (.fn f x y)) H φ = φ (.fn f x y) := by simp [aS, AV.one, OM]
theorem Rf (x y : Nat) : bR (.ptr x y) φ = φ (.ptr x y) := _root_.id rfl
theorem MG (x : AV) : bR (.ai x) φ = φ (.ai x) := _root_.id rfl
theorem I8 (xs : List AV) (i : Nat) : bC (.tuple xs) i φ = (i < xs.length ∧ φ (xs.getD i .any).ab) := _root_.id rfl
theorem Rg (id o off : Nat) (sz : Option Nat) : ak off sz (.ptr id o) φ = φ (.ptr id (o + off)) := by simp [ak]
end
section
variable {P : Px} {n0 : Nat} {env : Env} {H : List aa} {Q : Exit → Env → List aa → Prop}
theorem I9 (pass : Option Nat) (j : Nat) : aH env pass j [] = [] := _root_.id rfl
theorem Rh (pass : Option Nat) (j : Nat) (v : AV) (xs : List IX) : aH env pass j (.c v :: xs) = v.ab :: aH env pass (j + 1) xs := _root_.id rfl
theorem Ri (j s : Nat) (xs : List IX) : aH env none j (.t s :: xs) = (get env s).ab :: aH env none (j + 1) xs := by simp [aH]
theorem Rj (j s : Nat) (xs : List IX) : aH env (some 1999) j (.t s :: xs) = (if 1999 = j then get env s else (get env s).ab) :: aH env (some 1999) (j + 1) xs := by simp [aH]
theorem Rk (p j s : Nat) (xs : List IX) : aH env (some p) j (.t s :: xs) = (if p = j then get env s else (get env s).ab) :: aH env (some p) (j + 1) xs := by simp [aH]
theorem GG (args : List IX) : bc args none = none := _root_.id rfl
theorem MH (x : Nat) (xs : List IX) : bc (.t x :: xs) (some 0) = some x := by simp [bc]
theorem MJ (x : Nat) (y : IX) (xs : List IX) : bc (y :: .t x :: xs) (some 1) = some x := by simp [bc]
theorem MK (x : Nat) (y z : IX) (xs : List IX) : bc (y :: z :: .t x :: xs) (some 2) = some x := by simp [bc]
theorem GH : bc [] (some 1999) = none := _root_.id rfl
theorem GI (x : IX) : bc [x] (some 1999) = none := _root_.id rfl
theorem GJ (x y : IX) : bc [x, y] (some 1999) = none := _root_.id rfl
theorem GK (x y z : IX) : bc [x, y, z] (some 1999) = none := _root_.id rfl
theorem GL (x y z u : IX) : bc [x, y, z, u] (some 1999) = none := _root_.id rfl
theorem Bv : cD env none = env := _root_.id rfl
theorem Bw (d : Nat) : cD env (some d) = (d, (get env d).ab) :: env := _root_.id rfl
theorem Ja (z : AV) : put none z env = env := _root_.id rfl
theorem Jb (d : Nat) (z : AV) : put (some d) z env = (d, z) :: env := _root_.id rfl
theorem ax (k : Nat) (v : AV) (t : Nat) : get ((k, v) :: env) t = if t = k then v else get env t := _root_.id rfl
theorem Rl (t : Nat) : get [] t = .any := _root_.id rfl
theorem aQ {s : Nat} {R : AV → List aa → Prop} (m : Nat) (h0 : n0 ≤ m) (hb : (get env s).a7 m = true) (h : R (get env s) (H.take m)) : bT n0 [.t s] env H R :=
 ⟨m, h0, _, le_refl _, hb, h⟩
end
def Pure (P : Program) (g : FuncId) (xs : List AV) (v : AV) : Prop := ∀ H, aq P g xs H fun r H' => r = v ∧ H' = H
theorem Pure.mk {P : Program} {g : FuncId} {xs : List AV} {v : AV} (hb : aj 0 xs = true) (h : aq P g xs [] fun r H' => r = v ∧ H' = []) : Pure P g xs v :=
 aq.frame (fun x hx => (a9 0 xs).1 hb x hx) h
def mZ (n : Nat) (env : Env) : Bool := env.all fun p => p.2.a7 n
theorem DH {n : Nat} {env : Env} (h : mZ n env = true) (t : Nat) : (get env t).a7 n = true := by
 rcases get_mem (env := env) (t := t) rfl with h' | h'
 ·rw [h']; rfl
 ·exact List.all_eq_true.1 h _ h'
theorem Rm (n : Nat) : mZ n [] = true := _root_.id rfl
theorem ML (n k : Nat) (v : AV) (env : Env) : mZ n ((k, v) :: env) = (v.a7 n && mZ n env) := _root_.id rfl
theorem qe {n0 : Nat} {env aD : Env} {H H' : List aa} (he : env = aD) (h0 : n0 ≤ H'.length) (hb : mZ H'.length aD = true) (e : List aa) (hH : H = H' ++ e) : sle n0 env H aD H' := by
 subst he; subst hH
 exact ⟨fun t => le_refl _, .inr ⟨H'.length, h0, by simp, DH hb⟩⟩
theorem aF {n0 : Nat} {env aD : Env} {H H' : List aa} (he : env = aD) (hH : H = H') : sle n0 env H aD H' := by
 subst he; subst hH; exact aA _ _ _
theorem au (i : Nat) (h : i + 1 < 9223372036854775808) : IntKind.i64.wrap ((i : Int) + 1) = ((i + 1 : Nat) : Int) := by
 show IntKind.wrap .i64 ((i : Int) + 1) = _
 unfold IntKind.wrap
 simp [IntKind.signed, IntKind.bits]
 omega
end Go.aK
end
section
namespace Go.aK
open Go
def fY {α : Type} (x : α) : α := x
theorem Rn {α : Type} (x : α) : fY x = x := _root_.id rfl
section
variable {φ : AV → Prop}
theorem Jc {op : BinOp} {x y : AV} (h : cV op x y φ) : ∃ z, cV op x y (fun w => w = z) ∧ φ z := by
 unfold cV at *
 split at h <;> (try exact h.elim)
 ·obtain ⟨h0, h⟩ := h
  split at h <;> first | exact ⟨_, ⟨h0, rfl⟩, h⟩ | exact ⟨_, ⟨h0, h.1, rfl⟩, h.2⟩ | exact h.elim
 ·split at h <;> first | exact ⟨_, rfl, h⟩ | exact ⟨_, ⟨h.1, rfl⟩, h.2⟩ | exact h.elim
theorem DI {op : BinOp} {x y : AV} (h : dN op x y φ) : ∃ z, dN op x y (fun w => w = z) ∧ φ z := by
 unfold dN at *
 split at h <;> (try exact h.elim)
 obtain ⟨h0, h⟩ := h
 split at h <;> first | exact ⟨_, ⟨h0, rfl⟩, h⟩ | exact h.elim
theorem Bx {neq : Bool} {x y : AV} (h : cM neq x y φ) : ∃ z, cM neq x y (fun w => w = z) ∧ φ z := by
 unfold cM at *
 split at h <;> first | exact ⟨_, rfl, h⟩ | exact h.elim
theorem MM {op : UnOp} {x : AV} (h : yE op x φ) : ∃ z, yE op x (fun w => w = z) ∧ φ z := by
 unfold yE at *
 split at h <;> first | exact ⟨_, rfl, h⟩ | exact h.elim
theorem GM {sz : Option Nat} {x : AV} {H : List aa} (h : aS sz x H φ) : ∃ z, aS sz x H (fun w => w = z) ∧ φ z := by
 unfold aS at *
 split at h <;> (try exact h.elim) <;> (split at h <;> (try exact h.elim)) <;> first | exact ⟨_, ⟨h.1, rfl⟩, h.2⟩ | (split at h <;> exact ⟨_, ⟨h.1, rfl⟩, h.2⟩)
theorem xD {off : Nat} {sz : Option Nat} {xs : List AV} {g : AV → AV} (h : apart off sz xs fun z => φ (g z)) : ∃ z, (apart off sz xs fun w => g w = z) ∧ φ z := by
 unfold apart at *
 split at h <;> first | exact ⟨_, ⟨h.1, rfl⟩, h.2⟩ | exact ⟨_, ⟨h.1, h.2.1, rfl⟩, h.2.2⟩
theorem DJ {off : Nat} {sz : Option Nat} {x : AV} (h : eJ off sz x φ) : ∃ z, eJ off sz x (fun w => w = z) ∧ φ z := by
 unfold eJ at *
 split at h <;> (try exact h.elim)
 exact xD h
theorem uW {off : Nat} {sz : Option Nat} {x : AV} (h : ak off sz x φ) : ∃ z, ak off sz x (fun w => w = z) ∧ φ z := by
 unfold ak at *
 split at h <;> (try exact h.elim)
 ·exact ⟨_, rfl, h⟩
 ·exact xD h
theorem uX {esz : Nat} {x i : AV} (h : ay esz x i φ) : ∃ z, ay esz x i (fun w => w = z) ∧ φ z := by
 unfold ay at *
 split at h <;> first | exact ⟨_, ⟨h.1, h.2.1, rfl⟩, h.2.2⟩ | exact h.elim
theorem wK {x i : AV} (h : bH x i φ) : ∃ z, bH x i (fun w => w = z) ∧ φ z := by
 unfold bH at *
 split at h <;> first | exact ⟨_, ⟨h.1, h.2.1, rfl⟩, h.2.2⟩ | exact h.elim
theorem wL {n : Nat} {x i : AV} (h : bQ n x i φ) : ∃ z, bQ n x i (fun w => w = z) ∧ φ z := by
 unfold bQ at *
 split at h <;> first | exact ⟨_, ⟨h.1, h.2.1, h.2.2.1, rfl⟩, h.2.2.2⟩ | exact h.elim
theorem zD {x : AV} {i : Nat} (h : bC x i φ) : ∃ z, bC x i (fun w => w = z) ∧ φ z := by
 unfold bC at *
 split at h <;> first | exact ⟨_, ⟨h.1, rfl⟩, h.2⟩ | exact h.elim
theorem wM {x : AV} (h : bR x φ) : ∃ z, bR x (fun w => w = z) ∧ φ z := by
 unfold bR at *
 split at h <;> first | exact ⟨_, rfl, h⟩ | exact h.elim
theorem zE {k : IntKind} {x : AV} (h : cq k x φ) : ∃ z, cq k x (fun w => w = z) ∧ φ z := by
 unfold cq at *
 split at h <;> first | exact ⟨_, rfl, h⟩ | exact h.elim
theorem MN {big : Bool} {x y : AV} (h : wj big x y φ) : ∃ z, wj big x y (fun w => w = z) ∧ φ z := by
 unfold wj at *
 split at h <;> first | exact ⟨_, rfl, h⟩ | exact h.elim
theorem nU {x : Option AV} {d : Nat} {c1 c2 : Nat → Prop} {g : Nat → AV} (h : dH x d fun k => c1 k ∧ c2 k ∧ φ (g k)) : ∃ z, (dH x d fun k => c1 k ∧ c2 k ∧ g k = z) ∧ φ z := by
 unfold dH at *
 split at h
 ·exact ⟨_, ⟨h.1, h.2.1, rfl⟩, h.2.2⟩
 ·exact ⟨_, ⟨h.1, h.2.1, h.2.2.1, rfl⟩, h.2.2.2⟩
 ·exact h.elim
theorem iu {x : Option AV} {d : Nat} {ψ : (AV → Prop) → Nat → Prop} (h : dH x d (ψ φ)) (hd : ∀ k, ψ φ k → ∃ z, ψ (fun w => w = z) k ∧ φ z) : ∃ z, dH x d (ψ fun w => w = z) ∧ φ z := by
 unfold dH at *
 split at h
 ·exact hd _ h
 ·obtain ⟨z, h2, h3⟩ := hd _ h.2; exact ⟨z, ⟨h.1, h2⟩, h3⟩
 ·exact h.elim
theorem DK {esz : Nat} {x : AV} {lo hi mx : Option AV} (h : eM esz x lo hi mx φ) : ∃ z, eM esz x lo hi mx (fun w => w = z) ∧ φ z := by
 unfold eM at *
 split at h <;> (try exact h.elim)
 rename_i xs fp
 cases mx with
 | none => exact iu (ψ := fun φ h => dH lo 0 fun l => l ≤ h ∧ h ≤ xs.length ∧ φ (.ap 0 ((xs.take h).drop l))) h fun k h => nU (c1 := fun l => l ≤ k) (c2 := fun _ => k ≤ xs.length) (g := fun l => .ap 0 ((xs.take k).drop l)) h
 | some m =>
   refine iu (ψ := fun φ h => dH lo 0 fun l => l ≤ h ∧ h ≤ xs.length ∧ hi.isSome = true ∧ dH (some m) 0 fun m => m = h ∧ (∀ y ∈ xs, y.cells.length = esz) ∧ φ (.ap esz ((xs.take h).drop l))) h fun k h => ?_
   refine iu (ψ := fun φ l => l ≤ k ∧ k ≤ xs.length ∧ hi.isSome = true ∧ dH (some m) 0 fun m => m = k ∧ (∀ y ∈ xs, y.cells.length = esz) ∧ φ (.ap esz ((xs.take k).drop l))) h fun l h => ?_
   obtain ⟨h1, h2, h3, h4⟩ := h
   obtain ⟨z, k1, k2⟩ := nU (g := fun _ => .ap esz ((xs.take k).drop l)) h4
   exact ⟨z, ⟨h1, h2, h3, k1⟩, k2⟩
theorem By {esz : Nat} {x : AV} {lo hi mx : Option AV} (h : bn esz x lo hi mx φ) : ∃ z, bn esz x lo hi mx (fun w => w = z) ∧ φ z := by
 unfold bn gk nH at *
 split at h
 ·rename_i id off len cap
  split at h
  rotate_left
  ·rename_i m
   obtain ⟨h1, h2⟩ := h
   have := iu (ψ := fun φ m => dH hi len fun h => dH lo 0 fun l => l ≤ h ∧ h ≤ m ∧ m ≤ cap ∧ φ (.bf id (if m = l then off else off + l * esz) (h - l) (m - l))) h2 fun m h =>
    iu (ψ := fun φ h => dH lo 0 fun l => l ≤ h ∧ h ≤ m ∧ m ≤ cap ∧ φ (.bf id (if m = l then off else off + l * esz) (h - l) (m - l))) h fun k h =>
     iu (ψ := fun φ l => l ≤ k ∧ k ≤ m ∧ m ≤ cap ∧ φ (.bf id (if m = l then off else off + l * esz) (k - l) (m - l))) h fun l h => ⟨_, ⟨h.1, h.2.1, h.2.2.1, rfl⟩, h.2.2.2⟩
   obtain ⟨z, k1, k2⟩ := this
   exact ⟨z, ⟨h1, k1⟩, k2⟩
  have h2 := h
  have := iu (ψ := fun φ h => dH lo 0 fun l => l ≤ h ∧ h ≤ cap ∧ φ (.bf id (if cap = l then off else off + l * esz) (h - l) (cap - l))) h2 fun k h => nU (c1 := fun l => l ≤ k) (c2 := fun _ => k ≤ cap) (g := fun l => .bf id (if cap = l then off else off + l * esz) (k - l) (cap - l)) h
  obtain ⟨z, k1, k2⟩ := this
  exact ⟨z, k1, k2⟩
 ·obtain ⟨z, k1, k2⟩ := DK h.2
  exact ⟨z, ⟨h.1, k1⟩, k2⟩
theorem wN {x : AV} {lo hi : Option AV} (h : b7 x lo hi φ) : ∃ z, b7 x lo hi (fun w => w = z) ∧ φ z := by
 unfold b7 at *
 split at h <;> (try exact h.elim)
 rename_i s
 exact iu (ψ := fun φ h => dH lo 0 fun l => l ≤ h ∧ h ≤ s.size ∧ φ (.str (s.extract l h))) h fun k h => nU (c1 := fun l => l ≤ k) (c2 := fun _ => k ≤ s.size) (g := fun l => .str (s.extract l k)) h
theorem Bz {kd : Nat} {z m k : AV} {ok : Bool} {H : List aa} (h : cb kd z m k ok H φ) : ∃ y, cb kd z m k ok H (fun w => w = y) ∧ φ y := by
 unfold cb at *
 split at h <;> (try exact h.elim) <;> first | exact ⟨_, rfl, h⟩ | exact ⟨_, ⟨h.1, rfl⟩, h.2⟩ | (split at h <;> (try exact h.elim) <;> first | exact ⟨_, rfl, h⟩ | exact ⟨_, ⟨h.1, rfl⟩, h.2⟩ | (split at h <;> (try exact h.elim) <;> first | exact ⟨_, rfl, h⟩ | exact ⟨_, ⟨h.1, rfl⟩, h.2⟩))
theorem sM {esz : Nat} {own : Nat} : ∀ {ps : List (Nat × AV)} {zs : List AV}, bh zs esz ps (fun v => φ (.ap own v)) → ∃ z, bh zs esz ps (fun v => .ap own v = z) ∧ φ z
 | [], zs, h => ⟨_, rfl, h⟩
 | (i, x) :: r, zs, h => by
   obtain ⟨z, k1, k2⟩ := sM h.2.2.2
   exact ⟨z, ⟨h.1, h.2.1, h.2.2.1, k1⟩, k2⟩
theorem xE : ∀ {ps : List (Nat × Nat × AV)} {zs : List AV}, gI zs ps (fun v => φ (.agg v)) → ∃ z, gI zs ps (fun v => .agg v = z) ∧ φ z
 | [], zs, h => ⟨_, rfl, h⟩
 | (off, sz, x) :: r, zs, h => by
   obtain ⟨z, k1, k2⟩ := xE h.2.2.2
   exact ⟨z, ⟨h.1, h.2.1, h.2.2.1, k1⟩, k2⟩
end
def fA (v : AV) (A B : Prop) : Prop := eI v fun q => (q = true → A) ∧ (q = false → B)
@[congr] theorem ON {v v' : AV} {A B : Prop} (h : fY v = v') : fA v A B = fA v' A B := by subst h; rfl
theorem MO (A B : Prop) : fA (.bool true) A B = A := by simp [fA, eI]
theorem MP (A B : Prop) : fA (.bool false) A B = B := by simp [fA, eI]
theorem MQ (b : Bool) (A B : Prop) : fA (.bool (!b)) A B = fA (.bool b) B A := by cases b <;> simp [fA, eI]
theorem MR (p : Prop) [Decidable p] (A B : Prop) : fA (.bool (decide p)) A B = ((p → A) ∧ (¬ p → B)) := by simp [fA, eI]
theorem qf {b : Bool} {A B : Prop} (h1 : b = true → A) (h2 : b = false → B) : fA (.bool b) A B := ⟨h1, h2⟩
def dE (v : AV) (g : Nat) (want : Bool) (env : Env) (yes no : Env → Prop) : Prop :=
 match v with
 | .bool b => (b = want → yes ((g, .bool want) :: env)) ∧ (b = (!want) → no ((g, .bool (!want)) :: env))
 | .tuple [] => no env
 | _ => False
@[congr] theorem MS {v v' : AV} {g : Nat} {want : Bool} {env : Env} {yes no : Env → Prop} (h : fY v = v') : dE v g want env yes no = dE v' g want env yes no := by subst h; rfl
section
variable (g : Nat) (env : Env) (yes no : Env → Prop)
theorem Vt : dE (.bool true) g true env yes no = yes ((g, .bool true) :: env) := by simp [dE]
theorem Vu : dE (.bool true) g false env yes no = no ((g, .bool true) :: env) := by simp [dE]
theorem Vv : dE (.bool false) g true env yes no = no ((g, .bool false) :: env) := by simp [dE]
theorem Vw : dE (.bool false) g false env yes no = yes ((g, .bool false) :: env) := by simp [dE]
theorem YF (want : Bool) : dE (.tuple []) g want env yes no = no env := _root_.id rfl
theorem Vx (p : Prop) [Decidable p] : dE (.bool (decide p)) g true env yes no = ((p → yes ((g, .bool true) :: env)) ∧ (¬ p → no ((g, .bool false) :: env))) := by simp [dE]
theorem Vy (p : Prop) [Decidable p] : dE (.bool (decide p)) g false env yes no = ((¬ p → yes ((g, .bool false) :: env)) ∧ (p → no ((g, .bool true) :: env))) := by simp [dE]
end
def BA (P : Px) (g : FuncId) (xs : List AV) (H : List aa) (K : AV → List aa → Prop) : Prop := ∃ bO, xk xs bO ∧ dY P g bO H K
@[congr] theorem OO {P : Px} {g : FuncId} {xs xs' : List AV} {H H' : List aa} {K : AV → List aa → Prop} (h : fY xs = xs') (h2 : H = H') : BA P g xs H K = BA P g xs' H' K := by subst h; subst h2; rfl
theorem af {P : Program} {lo : Option Nat} {g : FuncId} {xs : List AV} {H : List aa} {R K : AV → List aa → Prop} (hc : aq P g xs H R) (hk : ∀ r H', R r H' → K r H') : BA ⟨P, lo⟩ g xs H K := ⟨xs, b9 _, dY.of (hc.mono hk)⟩
theorem ae {P : Program} {lo : Option Nat} {g : FuncId} {xs : List AV} {v : AV} {H : List aa} {K : AV → List aa → Prop} (hc : Pure P g xs v) (hk : K v H) : BA ⟨P, lo⟩ g xs H K :=
 ⟨xs, b9 _, dY.of ((hc H).mono fun r H' ⟨h1, h2⟩ => by rw [h1, h2]; exact hk)⟩
theorem MT {P : Px} {env : Env} {H : List aa} (g : FuncId) (first cap : List AV) (args : List IX) (pass : Option Nat) (K : AV → Env → List aa → Prop) : oz P (.fn (.func g) first cap) args pass env H K =
 BA P g (first.map AV.ab ++ aH env pass 0 args ++ cap.map AV.ab) H (fun r H' => K r (cD env (bc args pass)) H') := _root_.id rfl
@[congr] theorem OP {P : Px} {f f' : AV} {args : List IX} {pass : Option Nat} {env : Env} {H : List aa} {K : AV → Env → List aa → Prop} (h : fY f = f') : oz P f args pass env H K = oz P f' args pass env H K := by subst h; rfl
def BB (P : Px) (st : Bool) (g : FuncId) (xs : List AV) (H : List aa) (K : AV → Prop) : Prop :=
 ∃ x, (match st with
  | true => ∃ bO, xk xs bO ∧ aq P.prog g bO H (fun r H' => r = x ∧ H' = H)
  | false => ∀ H, ∃ bO, xk xs bO ∧ aq P.prog g bO H (fun r H' => r = x ∧ H' = H)) ∧ K x
@[congr] theorem OQ {P : Px} {st : Bool} {g : FuncId} {xs xs' : List AV} {H : List aa} {K : AV → Prop} (h : fY xs = xs') : BB P st g xs H K = BB P st g xs' H K := by subst h; rfl
theorem aG {P : Program} {lo : Option Nat} {st : Bool} {g : FuncId} {xs : List AV} {v : AV} {H : List aa} {K : AV → Prop} (hc : Pure P g xs v) (hk : K v) : BB ⟨P, lo⟩ st g xs H K :=
 ⟨v, (by cases st <;> first | exact ⟨xs, b9 _, hc H⟩ | exact fun H => ⟨xs, b9 _, hc H⟩), hk⟩
def o7 (P : Px) (st : Bool) (f : AV) (xs : List AV) (H : List aa) (K : AV → Prop) : Prop :=
 match f with
 | .fn (.func g) first cap => BB P st g (first.map AV.ab ++ xs ++ cap.map AV.ab) H K
 | _ => False
@[congr] theorem MU {P : Px} {st : Bool} {f f' : AV} {xs xs' : List AV} {H : List aa} {K : AV → Prop} (h : fY f = f') (h2 : xs = xs') : o7 P st f xs H K = o7 P st f' xs' H K := by subst h; subst h2; rfl
theorem GN {P : Px} {st : Bool} (g : FuncId) (first cap xs : List AV) (H : List aa) (K : AV → Prop) : o7 P st (.fn (.func g) first cap) xs H K = BB P st g (first.map AV.ab ++ xs ++ cap.map AV.ab) H K := _root_.id rfl
def gL (x : AV) (H : List aa) (φ : AV → Prop) : Prop := match x with | .ap _ xs => φ (.int .i64 xs.length) | x => eW x H φ
@[congr] theorem OR {x x' : AV} {H : List aa} {φ : AV → Prop} (h : fY x = x') : gL x H φ = gL x' H φ := by subst h; rfl
theorem GO {x : AV} {H : List aa} {φ : AV → Prop} (h : gL x H φ) : ∃ z, eW x H (fun w => w = z) ∧ φ z := by
 cases x with
 | ap o xs => exact ⟨_, fun _ => rfl, h⟩
 | map id =>
   simp only [gL, eW] at h ⊢
   split at h
   ·exact ⟨_, rfl, h⟩
   ·exact h.elim
 | _ => first | exact ⟨_, rfl, h⟩ | exact False.elim h
def nV (kd : Nat) (neq : Bool) (x : AV) (φ : AV → Prop) : Prop := match isNil kd x with | some b => φ (.bool (if neq then !b else b)) | none => False
@[congr] theorem K7 {kd : Nat} {neq : Bool} {x x' : AV} {φ : AV → Prop} (h : fY x = x') : nV kd neq x φ = nV kd neq x' φ := by subst h; rfl
def uY (o : bW) (ρ : IX → AV) (H : List aa) (K : AV → Prop) : Prop :=
 match o with
 | .set i false => K (ρ i).ab
 | .pick c a b => fA (ρ c) (K (ρ a).ab) (K (ρ b).ab)
 | .bin op i j => cV op (ρ i) (ρ j) K
 | .shift op i j => dN op (ρ i) (ρ j) K
 | .gO neq i j => cM neq (ρ i) (ρ j) K
 | .iT kd neq i => nV kd neq (ρ i) K
 | .un op i => yE op (ρ i) K
 | .k9 i => (ρ i).val = true ∧ K (.ai (ρ i))
 | .build z ps => cC z.cells (ps.map fun q => (q.1, q.2.1, ρ q.2.2)) K
 | .buildSlice own esz z len ps => bh (List.replicate len (aT z)) esz (ps.map fun q => (q.1, ρ q.2)) fun xs => K (.ap own xs)
 | .load sz i => aS sz (ρ i) H K
 | .nilCheck i => bR (ρ i) K
 | .fieldAddr off sz i => ak off sz (ρ i) K
 | .field off sz i => eJ off sz (ρ i) K
 | .indexAddr esz i j => (∀ own xs, ρ i = .ap own xs → ∀ z ∈ xs, z.cells.length = esz) ∧ ay esz (ρ i) (ρ j) K
 | .c8 i j => bH (ρ i) (ρ j) K
 | .dL n i j => bQ n (ρ i) (ρ j) K
 | .slice esz i lo hi mx => bn esz (ρ i) (lo.map ρ) (hi.map ρ) (mx.map ρ) K
 | .dM i lo hi => b7 (ρ i) (lo.map ρ) (hi.map ρ) K
 | .len kd i => aL kd (ρ i) ∧ gL (ρ i) H K
 | .lookup kd z m k ok => cb kd z (ρ m) (ρ k) ok H K
 | .fn f first cap => K (.fn f (first.map fun x => (ρ x).ab) (cap.map fun x => (ρ x).ab))
 | .extract i k => bC (ρ i) k K
 | .eC k i => cq k (ρ i) K
 | .mx big i j => wj big (ρ i) (ρ j) K
 | _ => False
theorem BC {P : Px} {o : bW} {ρ : IX → AV} {H : List aa} {K : AV → Prop} (h : uY o ρ H K) : ∃ x, cS P o ρ H x ∧ K x := by
 unfold uY at h
 split at h
 ·exact ⟨_, rfl, h⟩
 ·unfold fA eI at h
  simp only [cS, eI]
  split at h
  ·rename_i b hb
   cases b with
   | true => exact ⟨_, ⟨fun _ => rfl, fun e => by cases e⟩, h.1 rfl⟩
   | false => exact ⟨_, ⟨fun e => (by cases e), fun _ => rfl⟩, h.2 rfl⟩
  ·exact h.elim
 ·exact Jc h
 ·exact DI h
 ·exact Bx h
 ·unfold nV at h
  split at h
  ·rename_i b hb
   refine ⟨_, ?_, h⟩
   simp only [cS, dc, hb]
  ·exact h.elim
 ·exact MM h
 ·exact ⟨_, ⟨h.1, rfl⟩, h.2⟩
 ·exact xE h
 ·exact sM h
 ·exact GM h
 ·exact wM h
 ·exact uW h
 ·exact DJ h
 ·obtain ⟨z, k1, k2⟩ := uX h.2
  exact ⟨z, ⟨h.1, k1⟩, k2⟩
 ·exact wK h
 ·exact wL h
 ·exact By h
 ·exact wN h
 ·obtain ⟨z, k1, k2⟩ := GO h.2
  exact ⟨z, ⟨h.1, k1⟩, k2⟩
 ·exact Bz h
 ·exact ⟨_, rfl, h⟩
 ·exact zD h
 ·exact zE h
 ·exact MN h
 ·exact h.elim
theorem GP {P : Px} {o : bW} {ρ : IX → AV} {K : AV → Prop} (h : uY o ρ [] K) : ∃ x, (∀ H, cS P o ρ H x) ∧ K x := by
 obtain ⟨x, h1, h2⟩ := BC (P := P) h
 have hs : o.stays = true := by
  cases o <;> first | rfl | exact h.elim
 exact ⟨x, fun H => by have := xr (e := H) hs h1; simpa using this, h2⟩
def kY (P : Px) (st : Bool) (o : bW) (ρ : IX → AV) (H : List aa) (K : AV → Prop) : Prop :=
 match o with
 | .call f args none => o7 P st (ρ f) (args.map fun x => (ρ x).ab) H K
 | o => uY o ρ (match st with | true => H | false => []) K
theorem Jd {P : Px} {st : Bool} {o : bW} {ρ : IX → AV} {H : List aa} {K : AV → Prop} (h : kY P st o ρ H K) : ∃ x, dv P st o ρ H x ∧ K x := by
 unfold kY at h
 split at h
 ·rename_i f args
  unfold o7 at h
  split at h
  ·rename_i g first cap e
   obtain ⟨x, h1, h2⟩ := h
   cases st with
   | true => exact ⟨x, by simp only [dv, cS, e]; exact h1, h2⟩
   | false => exact ⟨x, by simp only [dv, cS, e]; exact h1, h2⟩
  ·exact h.elim
 ·cases st with
  | true => exact BC h
  | false => exact GP h
def Fg (P : Px) (st : Bool) (o : bu) (env : Env) (H : List aa) (K : Env → Prop) : Prop :=
 match o.g with
 | none => kY P st o.op (al env) H fun x => K (put o.dst x env)
 | some (g, want) => dE (get env g) g want env (fun _ => kY P st o.op (al env) H fun x => K (put o.dst x env)) (fun _ => K (put o.dst (.tuple []) env))
theorem BD {P : Px} {st : Bool} {o : bu} {env : Env} {H : List aa} {K1 K2 : Env → Prop} (h : Fg P st o env H K1) (hK : ∀ e, K1 e → K2 e) : sx P st o env H K2 := by
 unfold Fg at h
 unfold sx
 split at h
 ·rename_i e
  rw [e]
  obtain ⟨x, h1, h2⟩ := Jd h
  exact ⟨x, h1, hK _ h2⟩
 ·rename_i g want e
  rw [e]
  unfold dE at h
  unfold gR
  dsimp only
  split at h
  ·rename_i b hb
   rw [hb]
   refine ⟨fun eb => ?_, fun eb => hK _ (h.2 eb)⟩
   obtain ⟨x, h1, h2⟩ := Jd (h.1 eb)
   exact ⟨x, h1, hK _ h2⟩
  ·rename_i hb
   rw [hb]
   exact hK _ h
  ·exact h.elim
theorem BE {P : Px} {o : bW} {dst : Option Nat} {env : Env} {H : List aa} {K1 K2 : Env → List aa → Prop} (h : bt P o dst env H K1) (hK : ∀ e H', K1 e H' → K2 e H') : bt P o dst env H K2 :=
 nM (fun _ _ => rfl) h fun mods H' _ _ _ hk => hK _ _ hk
theorem ry {P : Px} {o : bu} {env : Env} {H : List aa} {K1 K2 : Env → List aa → Prop} (h : qY P o env H K1) (hK : ∀ e H', K1 e H' → K2 e H') : qY P o env H K2 := by
 unfold qY at *
 split at h
 ·exact BE h hK
 ·rename_i g want e
  unfold gR at *
  split at h
  ·exact ⟨fun eb => BE (h.1 eb) hK, fun eb => hK _ _ (h.2 eb)⟩
  ·exact hK _ _ h
  ·exact h.elim
theorem rA {P : Px} : ∀ {ops : List bu} {env : Env} {H : List aa} {K1 K2 : Env → List aa → Prop}, iZ P ops env H K1 → (∀ e H', K1 e H' → K2 e H') → iZ P ops env H K2
 | [], _, _, _, _, h, hK => hK _ _ h
 | o :: r, _, _, _, _, h, hK => ry h fun _ _ h => rA h hK
def iP (P : Px) : DT → Env → List aa → (Env → List aa → Prop) → Prop
 | .done, env, H, K => K env H
 | .take st o r, env, H, K => Fg P st o env H fun env => iP P r env H K
 | .br o t rest, env, H, K => qY P o env H (fun env H => iP P t env H K) ∧ iP P rest env H K
 | .nil, _, _, _ => True
theorem qg {P : Px} : ∀ {t : DT} {env : Env} {H : List aa} {K1 K2 : Env → List aa → Prop}, iP P t env H K1 → (∀ e H', K1 e H' → K2 e H') → tA P t env H K2
 | .done, _, _, _, _, h, hK => hK _ _ h
 | .take st o r, _, _, _, _, h, hK => BD h fun _ h => qg h hK
 | .br o t rest, _, _, _, _, h, hK => ⟨ry h.1 fun _ _ h => qg h hK, qg h.2 hK⟩
 | .nil, _, _, _, _, h, hK => trivial
def uZ (P : Px) (f : AV) (lc : ij) (env : Env) (H : List aa) (K : Option Code → List aa → Prop) : Prop :=
 match f with
 | .fn (.func g) first cap => (∀ (as : Array Value) (w : World), (callFunc g as).run P.prog w = .ok (.enter g as) w) ∧
    ∃ bO, xk (first.map AV.ab ++ [.mC H.length] ++ cap.map AV.ab) bO ∧ dY P g bO (H ++ [.loop .ready lc (kg lc.n env)]) fun _ H' => behind H.length H' K
 | _ => False
theorem xF {j : Option Code} {Q1 Q2 : Exit → Env → List aa → Prop} {env : Env} {H : List aa} (h : oR j Q1 env H) (hQ : ∀ x e H', Q1 x e H' → Q2 x e H') : oR j Q2 env H := by
 unfold oR at *
 split at h <;> first | exact hQ _ _ _ h | exact h.elim
theorem sN {id : Nat} {H : List aa} {K1 K2 : Option Code → List aa → Prop} (h : behind id H K1) (hK : ∀ j H', K1 j H' → K2 j H') : behind id H K2 := by
 unfold behind at *
 split at h <;> first | exact hK _ _ h | exact h.elim
def kZ (P : Px) (n0 : Nat) : IR → Env → List aa → (Exit → Env → List aa → Prop) → Prop
 | .skip, env, H, Q => Q .normal env H
 | .region ops live, env, H, Q => iZ P ops env H fun aD H' => Q .normal (eo live aD) H'
 | .draw t live, env, H, Q => iP P t env H fun aD H' => Q .normal (eo live aD) H'
 | .seq a b, env, H, Q => kZ P n0 a env H fun e aD H' => match e with
   | .normal => kZ P n0 b aD H' Q
   | e => Q e aD H'
 | .cond x a b, env, H, Q => fA (al env x) (kZ P n0 a env H Q) (kZ P n0 b env H Q)
 | .block id a, env, H, Q => kZ P n0 a env H fun e aD H' => match e with
   | .exit id' => if id' = id then Q .normal aD H' else Q (.exit id') aD H'
   | e => Q e aD H'
 | .loop a, env, H, Q => ∃ (ι : Type) (I : ι → Prop) (se : ι → Env) (sh : ι → List aa) (μ : ι → Nat), (∃ i, I i ∧ Gg P.lo n0 env H (se i) (sh i)) ∧
    ∀ i, I i → kZ P n0 a (se i) (sh i) fun e aD H' => match e with
     | .normal => ∃ j, I j ∧ μ j < μ i ∧ Gg P.lo n0 aD H' (se j) (sh j)
     | e => Q e aD H'
 | .exit id, env, H, Q => Q (.exit id) env H
 | .ret, env, H, Q => Q .ret env H
 | .never, env, H, Q => False
 | .iK f lc, env, H, Q => uZ P (al env f) lc env H fun j H'' => oR j Q env H''
theorem tK {P : Px} {n0 : Nat} : ∀ {ir : IR} {env : Env} {H : List aa} {Q1 Q2 : Exit → Env → List aa → Prop}, kZ P n0 ir env H Q1 → (∀ x e H', Q1 x e H' → Q2 x e H') → mb P n0 ir env H Q2 := by
 intro ir
 induction ir with
 | skip => exact fun h hQ => hQ _ _ _ h
 | region ops live => exact fun h hQ => rA h fun _ _ h => hQ _ _ _ h
 | draw t live => exact fun h hQ => qg h fun _ _ h => hQ _ _ _ h
 | seq a b DL Ro =>
   exact fun h hQ => DL h fun x e H' h => by
    cases x with
    | normal => exact Ro h hQ
    | _ => exact hQ _ _ _ h
 | cond x a b DL Ro =>
   intro env H Q1 Q2 h hQ
   unfold kZ fA eI at h
   unfold mb eI
   split at h
   ·exact ⟨fun e => DL (h.1 e) hQ, fun e => Ro (h.2 e) hQ⟩
   ·exact h.elim
 | block id a DL =>
   exact fun h hQ => DL h fun x e H' h => by
    cases x with
    | exit id' =>
      dsimp only at h ⊢
      split
      ·rename_i bm; rw [if_pos bm] at h; exact hQ _ _ _ h
      ·rename_i bm; rw [if_neg bm] at h; exact hQ _ _ _ h
    | _ => exact hQ _ _ _ h
 | loop a DL =>
   intro env H Q1 Q2 h hQ
   obtain ⟨ι, I, se, sh, μ, h0, hs⟩ := h
   exact ⟨ι, I, se, sh, μ, h0, fun i hi => DL (hs i hi) fun x e H' h => by
    cases x with
    | normal => exact h
    | _ => exact hQ _ _ _ h⟩
 | exit id => exact fun h hQ => hQ _ _ _ h
 | ret => exact fun h hQ => hQ _ _ _ h
 | never => exact fun h _ => h.elim
 | iK f lc =>
   intro env H Q1 Q2 h hQ
   unfold kZ uZ at h
   unfold mb
   split at h
   ·rename_i g first cap e
    obtain ⟨h1, bO, h2, h3⟩ := h
    rw [e]
    exact ⟨h1, bO, h2, h3.mono fun _ H' hb => sN hb fun j H'' hg => xF hg hQ⟩
   ·exact h.elim
theorem iq.calls {P : Program} {f : FuncId} {fi : qc} (h : iq P f fi) {args : List AV} {H : List aa} {R : AV → List aa → Prop} (hn : Nat.ble args.length fi.n = true)
 (hw : kZ P H.length fi.ir (bV 0 args) H fun e env H' => (e = .normal ∨ e = .ret) ∧ bT H.length fi.rs env H' R) : aq P f args H R :=
 h.zq (Nat.le_of_ble_eq_true hn) (tK hw fun _ _ _ h => h)
theorem iq.DM {P : Program} {f : FuncId} {fi : qc} (h : iq P f fi) {args : List AV} {H : List aa} {R : AV → List aa → Prop} (hn : Nat.ble args.length fi.n = true)
 (hw : kZ ⟨P, some H.length⟩ H.length fi.ir (bV 0 args) H fun e env H' => (e = .normal ∨ e = .ret) ∧ kG (mc H.length) H.length fi.rs env H' R) : aq P f args H R :=
 h.LU (Nat.le_of_ble_eq_true hn) (tK hw fun _ _ _ h => h)
section
variable {P : Px} {n0 : Nat} {env : Env} {H : List aa} {Q : Exit → Env → List aa → Prop}
theorem Je : kZ P n0 .skip env H Q = Q .normal env H := _root_.id rfl
theorem DN (ops : List bu) (live : Option (List Nat)) : kZ P n0 (.region ops live) env H Q = iZ P ops env H fun aD H' => Q .normal (eo live aD) H' := _root_.id rfl
theorem Jf (t : DT) (live : Option (List Nat)) : kZ P n0 (.draw t live) env H Q = iP P t env H fun aD H' => Q .normal (eo live aD) H' := _root_.id rfl
theorem MV (a b : IR) : kZ P n0 (.seq a b) env H Q = kZ P n0 a env H fun e aD H' => match e with
 | .normal => kZ P n0 b aD H' Q
 | e => Q e aD H' := _root_.id rfl
theorem BF (x : IX) (a b : IR) : kZ P n0 (.cond x a b) env H Q = fA (al env x) (kZ P n0 a env H Q) (kZ P n0 b env H Q) := _root_.id rfl
theorem GQ (id : Nat) (a : IR) : kZ P n0 (.block id a) env H Q = kZ P n0 a env H fun e aD H' => match e with
 | .exit id' => if id' = id then Q .normal aD H' else Q (.exit id') aD H'
 | e => Q e aD H' := _root_.id rfl
theorem xG (f : IX) (lc : ij) : kZ P n0 (.iK f lc) env H Q = uZ P (al env f) lc env H fun j H'' => oR j Q env H'' := _root_.id rfl
theorem Jg (id : Nat) : kZ P n0 (.exit id) env H Q = Q (.exit id) env H := _root_.id rfl
theorem MW : kZ P n0 .ret env H Q = Q .ret env H := _root_.id rfl
@[congr] theorem Th {ir : IR} {aD : Env} {H' : List aa} (h : fY env = aD) (h2 : H = H') : kZ P n0 ir env H Q = kZ P n0 ir aD H' Q := by subst h; subst h2; rfl
@[congr] theorem Rp {ops : List bu} {aD : Env} {H' : List aa} {K : Env → List aa → Prop} (h : fY env = aD) (h2 : H = H') : iZ P ops env H K = iZ P ops aD H' K := by subst h; subst h2; rfl
@[congr] theorem Rq {t : DT} {aD : Env} {H' : List aa} {K : Env → List aa → Prop} (h : fY env = aD) (h2 : H = H') : iP P t env H K = iP P t aD H' K := by subst h; subst h2; rfl
theorem Jh (K : Env → List aa → Prop) : iZ P [] env H K = K env H := _root_.id rfl
theorem Rr (d : Option Nat) (op : bW) (r : List bu) (K : Env → List aa → Prop) : iZ P (⟨none, d, op⟩ :: r) env H K = bt P op d env H fun env H => iZ P r env H K := _root_.id rfl
theorem Ru (g : Nat) (w : Bool) (d : Option Nat) (op : bW) (r : List bu) (K : Env → List aa → Prop) : iZ P (⟨some (g, w), d, op⟩ :: r) env H K =
 dE (get env g) g w env (fun env => bt P op d env H fun env H => iZ P r env H K) (fun env => iZ P r (put d (.tuple []) env) H K) := _root_.id rfl
theorem Vz (d : Option Nat) (op : bW) (K : Env → List aa → Prop) : qY P ⟨none, d, op⟩ env H K = bt P op d env H K := _root_.id rfl
theorem VA (g : Nat) (w : Bool) (d : Option Nat) (op : bW) (K : Env → List aa → Prop) : qY P ⟨some (g, w), d, op⟩ env H K =
 dE (get env g) g w env (fun env => bt P op d env H K) (fun env => K (put d (.tuple []) env) H) := _root_.id rfl
@[congr] theorem Ti {o : bu} {K : Env → List aa → Prop} {H' : List aa} (h : fY H = H') : qY P o env H K = qY P o env H' K := by subst h; rfl
@[congr] theorem Tj {o : bW} {d : Option Nat} {K : Env → List aa → Prop} {H' : List aa} (h : fY H = H') : bt P o d env H K = bt P o d env H' K := by subst h; rfl
theorem GR (K : Env → List aa → Prop) : iP P .done env H K = K env H := _root_.id rfl
theorem Ji (K : Env → List aa → Prop) : iP P .nil env H K = True := _root_.id rfl
theorem Rv (st : Bool) (d : Option Nat) (op : bW) (r : DT) (K : Env → List aa → Prop) : iP P (.take st ⟨none, d, op⟩ r) env H K = kY P st op (al env) H fun x => iP P r (put d x env) H K := _root_.id rfl
theorem Rw (st : Bool) (g : Nat) (w : Bool) (d : Option Nat) (op : bW) (r : DT) (K : Env → List aa → Prop) : iP P (.take st ⟨some (g, w), d, op⟩ r) env H K =
 dE (get env g) g w env (fun _ => kY P st op (al env) H fun x => iP P r (put d x env) H K) (fun _ => iP P r (put d (.tuple []) env) H K) := _root_.id rfl
theorem MX (o : bu) (t rest : DT) (K : Env → List aa → Prop) : iP P (.br o t rest) env H K = (qY P o env H (fun env H => iP P t env H K) ∧ iP P rest env H K) := _root_.id rfl
@[congr] theorem Tk {st : Bool} {o : bW} {ρ : IX → AV} {K : AV → Prop} {H' : List aa} (h : fY H = H') : kY P st o ρ H K = kY P st o ρ H' K := by subst h; rfl
theorem Jj {P : Program} {a : IR} (ι : Type) (I : ι → Prop) (se : ι → Env) (sh : ι → List aa) (μ : ι → Nat) (i0 : ι) (h0 : I i0) (Yt : sle n0 env H (se i0) (sh i0))
 (hs : ∀ i, I i → kZ P n0 a (se i) (sh i) fun e aD H' => match e with
   | .normal => ∃ j, I j ∧ μ j < μ i ∧ sle n0 aD H' (se j) (sh j)
   | e => Q e aD H') : kZ P n0 (.loop a) env H Q := ⟨ι, I, se, sh, μ, ⟨i0, h0, Yt⟩, hs⟩
theorem aB {P : Program} {a : IR} (N : Nat) (I : Nat → Prop) (se : Nat → Env) (sh : Nat → List aa) (h0 : I 0 ∧ sle n0 env H (se 0) (sh 0))
 (hs : ∀ i, i ≤ N → I i → kZ P n0 a (se i) (sh i) fun e aD H' => match e with
   | .normal => ∃ j, (j ≤ N ∧ I j) ∧ N - j < N - i ∧ sle n0 aD H' (se j) (sh j)
   | e => Q e aD H') : kZ P n0 (.loop a) env H Q :=
 ⟨Nat, fun i => i ≤ N ∧ I i, se, sh, fun i => N - i, ⟨0, ⟨Nat.zero_le _, h0.1⟩, h0.2⟩, fun i hi => hs i hi.1 hi.2⟩
end
section
variable {φ : AV → Prop}
@[congr] theorem OS {v v' : AV} {ψ : Bool → Prop} (h : fY v = v') : eI v ψ = eI v' ψ := by subst h; rfl
@[congr] theorem Rx {op : BinOp} {x x' y y' : AV} (h : fY x = x') (h2 : y = y') : cV op x y φ = cV op x' y' φ := by subst h; subst h2; rfl
@[congr] theorem MY {op : BinOp} {x x' y y' : AV} (h : fY x = x') (h2 : y = y') : dN op x y φ = dN op x' y' φ := by subst h; subst h2; rfl
@[congr] theorem K8 {n : Bool} {x x' y y' : AV} (h : fY x = x') (h2 : y = y') : cM n x y φ = cM n x' y' φ := by subst h; subst h2; rfl
@[congr] theorem MZ {k : Nat} {n : Bool} {x x' : AV} (h : fY x = x') : dc k n x φ = dc k n x' φ := by subst h; rfl
@[congr] theorem Tl {op : UnOp} {x x' : AV} (h : fY x = x') : yE op x φ = yE op x' φ := by subst h; rfl
@[congr] theorem OT {sz : Option Nat} {x x' : AV} {H H' : List aa} (h : fY x = x') (h2 : H = H') : aS sz x H φ = aS sz x' H' φ := by subst h; subst h2; rfl
@[congr] theorem GS {off : Nat} {sz : Option Nat} {x x' : AV} (h : fY x = x') : ak off sz x φ = ak off sz x' φ := by subst h; rfl
@[congr] theorem M4 {off : Nat} {sz : Option Nat} {x x' : AV} (h : fY x = x') : eJ off sz x φ = eJ off sz x' φ := by subst h; rfl
@[congr] theorem GU {e : Nat} {x x' y y' : AV} (h : fY x = x') (h2 : y = y') : ay e x y φ = ay e x' y' φ := by subst h; subst h2; rfl
@[congr] theorem HQ {n : Nat} {x x' y y' : AV} (h : fY x = x') (h2 : y = y') : bQ n x y φ = bQ n x' y' φ := by subst h; subst h2; rfl
@[congr] theorem HR {x x' y y' : AV} (h : fY x = x') (h2 : y = y') : bH x y φ = bH x' y' φ := by subst h; subst h2; rfl
@[congr] theorem Ry {x x' : AV} {H H' : List aa} (h : fY x = x') (h2 : H = H') : eW x H φ = eW x' H' φ := by subst h; subst h2; rfl
@[congr] theorem Jk {x x' : AV} {i : Nat} (h : fY x = x') : bC x i φ = bC x' i φ := by subst h; rfl
@[congr] theorem HS {x x' : AV} (h : fY x = x') : bR x φ = bR x' φ := by subst h; rfl
@[congr] theorem Jl {k : IntKind} {x x' : AV} (h : fY x = x') : cq k x φ = cq k x' φ := by subst h; rfl
@[congr] theorem Tm {b : Bool} {x x' y y' : AV} (h : fY x = x') (h2 : y = y') : wj b x y φ = wj b x' y' φ := by subst h; subst h2; rfl
@[congr] theorem K9 {kd : Nat} {z m m' k k' : AV} {ok : Bool} {H H' : List aa} (h : fY m = m') (h2 : k = k') (h3 : H = H') : cb kd z m k ok H φ = cb kd z m' k' ok H' φ := by subst h; subst h2; subst h3; rfl
@[congr] theorem Lb {kd : Nat} {m m' k k' x x' : AV} {H H' : List aa} {K : List aa → Prop} (h : fY m = m') (h2 : k = k') (h3 : x = x') (h4 : H = H') : eZ kd m k x H K = eZ kd m' k' x' H' K := by subst h; subst h2; subst h3; subst h4; rfl
@[congr] theorem M5 {m : Nat} {p p' x x' : AV} {H H' : List aa} {K : List aa → Prop} (h : fY p = p') (h2 : x = x') (h3 : H = H') : gQ m p x H K = gQ m p' x' H' K := by subst h; subst h2; subst h3; rfl
@[congr] theorem Jm {p p' x x' : AV} {H H' : List aa} {K : List aa → Prop} (h : fY p = p') (h2 : x = x') (h3 : H = H') : dO p x H K = dO p' x' H' K := by subst h; subst h2; subst h3; rfl
@[congr] theorem Lc {e b : Nat} {s s' x x' : AV} {ψ : List AV → Prop} (h : fY s = s') (h2 : x = x') : bE e b s x ψ = bE e b s' x' ψ := by subst h; subst h2; rfl
@[congr] theorem M6 {e b : Nat} {z n n' : AV} {H H' : List aa} {K : AV → List aa → Prop} (h : fY n = n') (h2 : H = H') : fK e b z n H K = fK e b z n' H' K := by subst h; subst h2; rfl
@[congr] theorem Jn {e b : Nat} {z s s' x x' : AV} {H H' : List aa} {K : AV → List aa → Prop} (h : fY s = s') (h2 : x = x') (h3 : H = H') : cG e b z s x H K = cG e b z s' x' H' K := by subst h; subst h2; subst h3; rfl
@[congr] theorem Ld {e : Nat} {z x x' : AV} {H H' : List aa} {K : List aa → Prop} (h : fY x = x') (h2 : H = H') : gZ e z x H K = gZ e z x' H' K := by subst h; subst h2; rfl
@[congr] theorem OU {xs xs' : List AV} {H H' : List aa} {K : AV → List aa → Prop} (h : fY xs = xs') (h2 : H = H') : so xs H K = so xs' H' K := by subst h; subst h2; rfl
@[congr] theorem M7 {e b : Nat} {n n' : AV} (h : fY n = n') : iI e b n φ = iI e b n' φ := by subst h; rfl
@[congr] theorem OV {e : Nat} {d d' s s' : AV} {H H' : List aa} {K : AV → List aa → Prop} (h : fY d = d') (h2 : s = s') (h3 : H = H') : jq e d s H K = jq e d' s' H' K := by subst h; subst h2; subst h3; rfl
@[congr] theorem OW {e : Nat} {x x' : AV} {H H' : List aa} {K : AV → List aa → Prop} (h : fY x = x') (h2 : H = H') : ff e x H K = ff e x' H' K := by subst h; subst h2; rfl
@[congr] theorem Lf {e : Nat} {x x' : AV} {lo lo' hi mi m m' : Option AV} (h : fY x = x') (h1 : lo = lo') (h2 : hi = mi) (h3 : m = m') : bn e x lo hi m φ = bn e x' lo' mi m' φ := by subst h; subst h1; subst h2; subst h3; rfl
@[congr] theorem HT {x x' : AV} {lo lo' hi mi : Option AV} (h : fY x = x') (h1 : lo = lo') (h2 : hi = mi) : b7 x lo hi φ = b7 x lo' mi φ := by subst h; subst h1; subst h2; rfl
@[congr] theorem Rz {n0 : Nat} {rs : List RX} {env aD : Env} {H H' : List aa} {R : AV → List aa → Prop} (h : fY env = aD) (h2 : H = H') : bT n0 rs env H R = bT n0 rs aD H' R := by subst h; subst h2; rfl
end
end Go.aK
end
section
namespace Go.aK
open Go
section
variable {P : Px} {env : Env} {H : List aa} {dst : Option Nat} {K : Env → List aa → Prop}
theorem RA (op : BinOp) (x : IX) (y : IX) : bt P (.bin op x y) dst env H K = (cV op (al env x) (al env y) fun z => K (put dst z env) H) := _root_.id rfl
theorem Jo (op : BinOp) (x : IX) (y : IX) : bt P (.shift op x y) dst env H K = (dN op (al env x) (al env y) fun z => K (put dst z env) H) := _root_.id rfl
theorem GV (neq : Bool) (x : IX) (y : IX) : bt P (.gO neq x y) dst env H K = (cM neq (al env x) (al env y) fun z => K (put dst z env) H) := _root_.id rfl
theorem Jp (kd : Nat) (neq : Bool) (x : IX) : bt P (.iT kd neq x) dst env H K = (dc kd neq (al env x) fun z => K (put dst z env) H) := _root_.id rfl
theorem VB (op : UnOp) (x : IX) : bt P (.un op x) dst env H K = (yE op (al env x) fun z => K (put dst z env) H) := _root_.id rfl
theorem RB (x : IX) : bt P (.box x) dst env H K = ((al env x).val = true ∧ aj (H.length + 1) ((al env x).cells.map AV.ab) = true ∧ K (put dst (.ptr H.length 0) env) (H ++ [.cells ((al env x).cells.map AV.ab)])) := _root_.id rfl
theorem M8 (x : IX) : bt P (.k9 x) dst env H K = ((al env x).val = true ∧ K (put dst (.ai (al env x)) env) H) := _root_.id rfl
theorem M9 (m : Nat) (x : IX) : bt P (.qQ m x) dst env H K = ((al env x).val = true ∧ (al env x).cells.length = m ∧ (al env x).cells.all AV.one = true ∧ K (put dst (.ai (al env x)) env) H) := _root_.id rfl
theorem Jq (z : AV) : bt P (.alloc z) dst env H K = (aj (H.length + 1) (z.cells.map AV.ab) = true ∧ K (put dst (.ptr H.length 0) env) (H ++ [.cells (z.cells.map AV.ab)])) := _root_.id rfl
theorem Jr (z : AV) (ps : List (Nat × Nat × IX)) : bt P (.build z ps) dst env H K = (cC z.cells (ps.map fun q => (q.1, q.2.1, al env q.2.2)) fun v => K (put dst v env) H) := _root_.id rfl
theorem wO (own : Nat) (esz : Nat) (z : AV) (len : Nat) (ps : List (Nat × IX)) : bt P (.buildSlice own esz z len ps) dst env H K = (bh (List.replicate len (aT z)) esz (ps.map fun q => (q.1, al env q.2)) fun xs => K (put dst (.ap own xs) env) H) := _root_.id rfl
theorem Na (sz : Option Nat) (a : IX) : bt P (.load sz a) dst env H K = (aS sz (al env a) H fun z => K (put dst z env) H) := _root_.id rfl
theorem Js (sz : Option Nat) (esz : Nat) (a : IX) : bt P (.sc sz esz a) dst env H K = (aS sz (al env a) H fun z => ff esz z H fun y H' => K (put dst y env) H') := _root_.id rfl
theorem Jt (m : Nat) (a : IX) (x : IX) : bt P (.store m a x) dst env H K = (gQ m (al env a) (al env x) H fun H' => K env H') := _root_.id rfl
theorem GW {P : Program} {l : Nat} (m : Nat) (a : IX) (x : IX) : bt ⟨P, some l⟩ (.mE m a x) dst env H K = (gh l m (al env a) (al env x) H fun H' => K env H') := _root_.id rfl
theorem DO (a : IX) (s : Nat) : bt P (.eV a s) dst env H K = (dO (al env a) (get env s) H fun H' => K ((s, (get env s).ab) :: env) H') := _root_.id rfl
theorem BG (x : IX) : bt P (.nilCheck x) dst env H K = (bR (al env x) fun z => K (put dst z env) H) := _root_.id rfl
theorem zF (off : Nat) (sz : Option Nat) (x : IX) : bt P (.fieldAddr off sz x) dst env H K = (ak off sz (al env x) fun z => K (put dst z env) H) := _root_.id rfl
theorem Ju (off : Nat) (sz : Option Nat) (x : IX) : bt P (.field off sz x) dst env H K = (eJ off sz (al env x) fun z => K (put dst z env) H) := _root_.id rfl
theorem zG (esz : Nat) (x : IX) (i : IX) : bt P (.indexAddr esz x i) dst env H K = ((∀ own xs, al env x = .ap own xs → ∀ z ∈ xs, z.cells.length = esz) ∧ ay esz (al env x) (al env i) fun z => K (put dst z env) H) := _root_.id rfl
theorem BH (n : Nat) (x : IX) (i : IX) : bt P (.dL n x i) dst env H K = (bQ n (al env x) (al env i) fun z => K (put dst z env) H) := _root_.id rfl
theorem GX (esz : Nat) (x : IX) (lo : Option IX) (hi : Option IX) (mx : Option IX) : bt P (.oM esz x lo hi mx) dst env H K = ((∀ own xs, al env x = .ap own xs → ∀ z ∈ xs, z.cells.length = esz) ∧ eM esz (al env x) (fX env lo) (fX env hi) (fX env mx) fun z => z = .ap esz [] ∧ K (put dst .oh env) H) := _root_.id rfl
theorem BI (x : IX) (i : IX) : bt P (.c8 x i) dst env H K = (bH (al env x) (al env i) fun z => K (put dst z env) H) := _root_.id rfl
theorem Jv (esz : Nat) (x : IX) (lo : Option IX) (hi : Option IX) (mx : Option IX) : bt P (.slice esz x lo hi mx) dst env H K = (bn esz (al env x) (fX env lo) (fX env hi) (fX env mx) fun z => K (put dst z env) H) := _root_.id rfl
theorem Nb (esz : Nat) (d : IX) (s : IX) : bt P (.copy esz d s) dst env H K = (jq esz (al env d) (al env s) H fun z H' => K (put dst z env) H') := _root_.id rfl
theorem BJ (x : IX) (lo : Option IX) (hi : Option IX) : bt P (.dM x lo hi) dst env H K = (b7 (al env x) (fX env lo) (fX env hi) fun z => K (put dst z env) H) := _root_.id rfl
theorem RC (kd : Nat) (x : IX) : bt P (.len kd x) dst env H K = (aL kd (al env x) ∧ eW (al env x) H fun z => K (put dst z env) H) := _root_.id rfl
theorem GY (esz : Nat) (bytes : Nat) (s : IX) (x : IX) : bt P (.append esz bytes s x) dst env H K = (bE esz bytes (al env s) (al env x) fun zs => K (put dst (.ap esz zs) (cD env s.slot)) H) := _root_.id rfl
theorem Jw (esz : Nat) (bytes : Nat) (z : AV) (n : IX) : bt P (.sd esz bytes z n) dst env H K = (fK esz bytes z (al env n) H fun v H' => K (put dst v env) H') := _root_.id rfl
theorem tL (esz : Nat) (z : AV) (len : Nat) (ps : List (Nat × IX)) : bt P (.AG esz z len ps) dst env H K = (bh (List.replicate len (aT z)) esz (ps.map fun q => (q.1, al env q.2)) fun xs => so xs H fun v H' => K (put dst v env) H') := _root_.id rfl
theorem GZ (esz : Nat) (z : AV) (x : IX) : bt P (.mH esz z x) dst env H K = (gZ esz z (al env x) H fun H' => K (put dst (.tuple []) env) H') := _root_.id rfl
theorem DP (esz bytes : Nat) (z : AV) (s x : IX) : bt P (.iV esz bytes z s x) dst env H K = (cG esz bytes z (al env s) (al env x) H fun v H' => K (put dst v env) H') := _root_.id rfl
theorem Jx (esz : Nat) (bytes : Nat) (n : IX) : bt P (.mF esz bytes n) dst env H K = (iI esz bytes (al env n) fun v => K (put dst v env) H) := _root_.id rfl
theorem Jy  : bt P (.mG ) dst env H K = (K (put dst (.map H.length) env) (H ++ [.map []])) := _root_.id rfl
theorem G7 (kd : Nat) (z : AV) (m : IX) (k : IX) (ok : Bool) : bt P (.lookup kd z m k ok) dst env H K = (cb kd z (al env m) (al env k) ok H fun v => K (put dst v env) H) := _root_.id rfl
theorem G8 (kd : Nat) (m : IX) (k : IX) (x : IX) : bt P (.jY kd m k x) dst env H K = (eZ kd (al env m) (al env k) (al env x) H fun H' => K env H') := _root_.id rfl
theorem VC (f : Fn) (first : List IX) (cap : List IX) : bt P (.fn f first cap) dst env H K = (K (put dst (.fn f (first.map fun x => (al env x).ab) (cap.map fun x => (al env x).ab)) env) H) := _root_.id rfl
theorem DQ (x : IX) (i : Nat) : bt P (.extract x i) dst env H K = (bC (al env x) i fun z => K (put dst z env) H) := _root_.id rfl
theorem DR (k : IntKind) (x : IX) : bt P (.eC k x) dst env H K = (cq k (al env x) fun z => K (put dst z env) H) := _root_.id rfl
theorem DS (x : IX) : bt P (.gg x) dst env H K = (fw (al env x) fun z => K (put dst z env) H) := _root_.id rfl
theorem DU (x : IX) : bt P (.bytesOf x) dst env H K = (eN 1 (al env x) fun z => K (put dst z env) H) := _root_.id rfl
theorem Jz (x : IX) : bt P (.strOf x) dst env H K = (jo (al env x) fun z => K (put dst z env) H) := _root_.id rfl
theorem VD (big : Bool) (a : IX) (b : IX) : bt P (.mx big a b) dst env H K = (wj big (al env a) (al env b) fun z => K (put dst z env) H) := _root_.id rfl
theorem Nc (esz : Nat) (x : IX) : bt P (.yC esz x) dst env H K = (ff esz (al env x) H fun z H' => K (put dst z env) H') := _root_.id rfl
theorem JA (x : IX) (take : Bool) : bt P (.set x take) none env H K = K env H := _root_.id rfl
theorem RD (d : Nat) (x : IX) : bt P (.set x false) (some d) env H K = K ((d, (al env x).ab) :: env) H := by cases x <;> rfl
theorem Nf (d s : Nat) : bt P (.set (.t s) true) (some d) env H K = K ((d, get env s) :: (s, (get env s).ab) :: env) H := _root_.id rfl
theorem JB (d : Nat) (v : AV) : bt P (.set (.c v) true) (some d) env H K = K ((d, v.ab) :: env) H := _root_.id rfl
theorem Ng (c a b : IX) : bt P (.pick c a b) dst env H K = fA (al env c) (K (put dst (al env a).ab env) H) (K (put dst (al env b).ab env) H) := _root_.id rfl
theorem Nh (f : IX) (args : List IX) (pass : Option Nat) : bt P (.call f args pass) dst env H K = oz P (al env f) args pass env H (fun r aD H' => K (put dst r aD) H') := _root_.id rfl
end
section
variable {P : Px} {st : Bool} {ρ : IX → AV} {H : List aa} {K : AV → Prop}
theorem RE (i : IX) : kY P st (.set i false) ρ H K = K (ρ i).ab := by cases st <;> rfl
theorem Ni (c : IX) (a : IX) (b : IX) : kY P st (.pick c a b) ρ H K = (fA (ρ c) (K (ρ a).ab) (K (ρ b).ab)) := _root_.id rfl
theorem RF (op : BinOp) (i : IX) (j : IX) : kY P st (.bin op i j) ρ H K = (cV op (ρ i) (ρ j) K) := _root_.id rfl
theorem JC (op : BinOp) (i : IX) (j : IX) : kY P st (.shift op i j) ρ H K = (dN op (ρ i) (ρ j) K) := _root_.id rfl
theorem G9 (neq : Bool) (i : IX) (j : IX) : kY P st (.gO neq i j) ρ H K = (cM neq (ρ i) (ρ j) K) := _root_.id rfl
theorem JD (kd : Nat) (neq : Bool) (i : IX) : kY P st (.iT kd neq i) ρ H K = (nV kd neq (ρ i) K) := _root_.id rfl
theorem VE (op : UnOp) (i : IX) : kY P st (.un op i) ρ H K = (yE op (ρ i) K) := _root_.id rfl
theorem Nj (i : IX) : kY P st (.k9 i) ρ H K = ((ρ i).val = true ∧ K (.ai (ρ i))) := _root_.id rfl
theorem JE (z : AV) (ps : List (Nat × Nat × IX)) : kY P st (.build z ps) ρ H K = (cC z.cells (ps.map fun q => (q.1, q.2.1, ρ q.2.2)) K) := _root_.id rfl
theorem wP (own : Nat) (esz : Nat) (z : AV) (len : Nat) (ps : List (Nat × IX)) : kY P st (.buildSlice own esz z len ps) ρ H K = (bh (List.replicate len (aT z)) esz (ps.map fun q => (q.1, ρ q.2)) fun xs => K (.ap own xs)) := _root_.id rfl
theorem zH (sz : Option Nat) (i : IX) : kY P true (.load sz i) ρ H K = (aS sz (ρ i) H K) := _root_.id rfl
theorem wQ (sz : Option Nat) (i : IX) : kY P false (.load sz i) ρ H K = (aS sz (ρ i) [] K) := _root_.id rfl
theorem BK (i : IX) : kY P st (.nilCheck i) ρ H K = (bR (ρ i) K) := _root_.id rfl
theorem zJ (off : Nat) (sz : Option Nat) (i : IX) : kY P st (.fieldAddr off sz i) ρ H K = (ak off sz (ρ i) K) := _root_.id rfl
theorem JF (off : Nat) (sz : Option Nat) (i : IX) : kY P st (.field off sz i) ρ H K = (eJ off sz (ρ i) K) := _root_.id rfl
theorem zK (esz : Nat) (i : IX) (j : IX) : kY P st (.indexAddr esz i j) ρ H K = ((∀ own xs, ρ i = .ap own xs → ∀ z ∈ xs, z.cells.length = esz) ∧ ay esz (ρ i) (ρ j) K) := _root_.id rfl
theorem BL (n : Nat) (i : IX) (j : IX) : kY P st (.dL n i j) ρ H K = (bQ n (ρ i) (ρ j) K) := _root_.id rfl
theorem BM (i : IX) (j : IX) : kY P st (.c8 i j) ρ H K = (bH (ρ i) (ρ j) K) := _root_.id rfl
theorem JG (esz : Nat) (i : IX) (lo : Option IX) (hi : Option IX) (mx : Option IX) : kY P st (.slice esz i lo hi mx) ρ H K = (bn esz (ρ i) (lo.map ρ) (hi.map ρ) (mx.map ρ) K) := _root_.id rfl
theorem BN (i : IX) (lo : Option IX) (hi : Option IX) : kY P st (.dM i lo hi) ρ H K = (b7 (ρ i) (lo.map ρ) (hi.map ρ) K) := _root_.id rfl
theorem BO (kd : Nat) (i : IX) : kY P true (.len kd i) ρ H K = (aL kd (ρ i) ∧ gL (ρ i) H K) := _root_.id rfl
theorem zL (kd : Nat) (i : IX) : kY P false (.len kd i) ρ H K = (aL kd (ρ i) ∧ gL (ρ i) [] K) := _root_.id rfl
theorem u0 (kd : Nat) (z : AV) (m : IX) (k : IX) (ok : Bool) : kY P true (.lookup kd z m k ok) ρ H K = (cb kd z (ρ m) (ρ k) ok H K) := _root_.id rfl
theorem tc (kd : Nat) (z : AV) (m : IX) (k : IX) (ok : Bool) : kY P false (.lookup kd z m k ok) ρ H K = (cb kd z (ρ m) (ρ k) ok [] K) := _root_.id rfl
theorem VF (f : Fn) (first : List IX) (cap : List IX) : kY P st (.fn f first cap) ρ H K = (K (.fn f (first.map fun x => (ρ x).ab) (cap.map fun x => (ρ x).ab))) := _root_.id rfl
theorem DV (i : IX) (k : Nat) : kY P st (.extract i k) ρ H K = (bC (ρ i) k K) := _root_.id rfl
theorem DW (k : IntKind) (i : IX) : kY P st (.eC k i) ρ H K = (cq k (ρ i) K) := _root_.id rfl
theorem VG (big : Bool) (i : IX) (j : IX) : kY P st (.mx big i j) ρ H K = (wj big (ρ i) (ρ j) K) := _root_.id rfl
theorem Nk (f : IX) (args : List IX) : kY P st (.call f args none) ρ H K = o7 P st (ρ f) (args.map fun x => (ρ x).ab) H K := _root_.id rfl
end
theorem DX (env : Env) : eo none env = env := _root_.id rfl
theorem Ha (env : Env) : eo (some []) env = [] := _root_.id rfl
theorem DY (env : Env) (t : Nat) (l : List Nat) : eo (some (t :: l)) env = (t, get env t) :: eo (some l) env := _root_.id rfl
theorem DZ (k : Nat) : bV k [] = [] := _root_.id rfl
theorem BP (k : Nat) (x : AV) (xs : List AV) : bV k (x :: xs) = (k, x) :: bV (k + 1) xs := _root_.id rfl
theorem RG (env : Env) (s : Nat) : al env (.t s) = get env s := _root_.id rfl
theorem RH (env : Env) (v : AV) : al env (.c v) = v := _root_.id rfl
theorem kI (o : Nat) (xs : List AV) (H : List aa) (φ : AV → Prop) : gL (.ap o xs) H φ = φ (.int .i64 xs.length) := _root_.id rfl
theorem D0 (H : List aa) (φ : AV → Prop) : gL .ah H φ = φ (.int .i64 0) := _root_.id rfl
theorem Hb (s : ByteArray) (H : List aa) (φ : AV → Prop) : gL (.str s) H φ = φ (.int .i64 s.size) := _root_.id rfl
theorem Hc (a b c d : Nat) (H : List aa) (φ : AV → Prop) : gL (.bf a b c d) H φ = φ (.int .i64 c) := _root_.id rfl
theorem JH {α β : Type} (f : α → β) : List.map f [] = [] := _root_.id rfl
theorem Hd {α β : Type} (f : α → β) (x : α) (xs : List α) : List.map f (x :: xs) = f x :: List.map f xs := _root_.id rfl
end Go.aK
end
section
namespace Go.aK
open Go
theorem ga0 (H e : List aa) : (H ++ e)[H.length]? = e[0]? := by
 rw [List.getElem?_append_right (Nat.le_refl _), Nat.sub_self]
theorem ga (H e : List aa) (i : Nat) : (H ++ e)[H.length + i]? = e[i]? := by
 rw [List.getElem?_append_right (Nat.le_add_right _ _), Nat.add_sub_cancel_left]
theorem sa0 (H e : List aa) (x : aa) : (H ++ e).set H.length x = H ++ e.set 0 x := by
 rw [List.set_append_right _ _ (Nat.le_refl _), Nat.sub_self]
theorem sa (H e : List aa) (i : Nat) (x : aa) : (H ++ e).set (H.length + i) x = H ++ e.set i x := by
 rw [List.set_append_right _ _ (Nat.le_add_right _ _), Nat.add_sub_cancel_left]
theorem YG (H e f : List aa) : (H ++ e) ++ f = H ++ (e ++ f) := List.append_assoc _ _ _
theorem TK (H e : List aa) : (H ++ e).length = H.length + e.length := List.length_append
theorem g0 {α : Type} (x : α) (r : List α) : (x :: r)[0]? = some x := by simp
theorem g1 {α : Type} (x y : α) (r : List α) : (x :: y :: r)[1]? = some y := by simp
theorem g2 {α : Type} (x y z : α) (r : List α) : (x :: y :: z :: r)[2]? = some z := by simp
theorem s0 {α : Type} (x u : α) (r : List α) : (x :: r).set 0 u = u :: r := by simp
theorem s1 {α : Type} (x y u : α) (r : List α) : (x :: y :: r).set 1 u = x :: u :: r := by simp
theorem s2 {α : Type} (x y z u : α) (r : List α) : (x :: y :: z :: r).set 2 u = x :: y :: u :: r := by simp
theorem d0 {α : Type} (x d : α) (r : List α) : (x :: r).getD 0 d = x := by simp
theorem d1 {α : Type} (x y d : α) (r : List α) : (x :: y :: r).getD 1 d = y := by simp
theorem d2 {α : Type} (x y z d : α) (r : List α) : (x :: y :: z :: r).getD 2 d = z := by simp
theorem YH (x y : AV) : ag [x] 0 [y] = [y] := by simp [ag]
theorem D1 {x : AV} {H : List aa} {φ ψ : AV → Prop} (hm : ∀ z, φ z → ψ z) (h : gL x H φ) : gL x H ψ := by
 unfold gL at *
 split at h
 ·exact hm _ h
 ·exact rc hm h
theorem D2 {o : bW} {ρ : IX → AV} {H : List aa} {K K' : AV → Prop} (h : uY o ρ H K) (hK : ∀ x, K x → K' x) : uY o ρ H K' := by
 unfold uY at *
 split at h
 ·exact hK _ h
 ·unfold fA eI at *
  split at h
  ·exact ⟨fun e => hK _ (h.1 e), fun e => hK _ (h.2 e)⟩
  ·exact h.elim
 ·exact rb hK h
 ·exact mP hK h
 ·exact lA hK h
 ·unfold nV at *
  split at h
  ·exact hK _ h
  ·exact h.elim
 ·exact uy hK h
 ·exact ⟨h.1, hK _ h.2⟩
 ·exact lD (fun _ h => hK _ h) h
 ·exact gn (fun _ h => hK _ h) h
 ·exact jv hK h
 ·exact jz hK h
 ·exact iM hK h
 ·exact mQ hK h
 ·exact ⟨h.1, iN hK h.2⟩
 ·exact jw hK h
 ·exact jy hK h
 ·exact lC hK h
 ·exact jA hK h
 ·exact ⟨h.1, D1 hK h.2⟩
 ·exact lB hK h
 ·exact hK _ h
 ·exact kh hK h
 ·exact kj hK h
 ·exact uz hK h
 ·exact h.elim
theorem dx {P : Px} : ∀ {t : DT} {env : Env} {H : List aa} {K1 K2 : Env → List aa → Prop}, iP P t env H K1 → (∀ e H', K1 e H' → K2 e H') → iP P t env H K2
 | .done, _, _, _, _, h, hK => hK _ _ h
 | .take st o r, _, _, _, _, h, hK => by
   unfold iP Fg at *
   have key : ∀ {env : Env} {H : List aa} {K : AV → Prop} {K' : AV → Prop}, kY P st o.op (al env) H K → (∀ x, K x → K' x) → kY P st o.op (al env) H K' := by
    intro env H K K' h hK
    unfold kY at *
    split at h
    ·unfold o7 at *
     split at h
     ·obtain ⟨x, h1, h2⟩ := h; exact ⟨x, h1, hK _ h2⟩
     ·exact h.elim
    ·exact D2 h hK
   split at h
   ·exact key h fun _ h => dx h hK
   ·unfold dE at *
    split at h
    ·exact ⟨fun e => key (h.1 e) fun _ h => dx h hK, fun e => dx (h.2 e) hK⟩
    ·exact dx h hK
    ·exact h.elim
 | .br o t rest, _, _, _, _, h, hK => ⟨ry h.1 fun _ _ h => dx h hK, dx h.2 hK⟩
 | .nil, _, _, _, _, h, hK => trivial
theorem kJ {P : Px} {n0 : Nat} : ∀ {ir : IR} {env : Env} {H : List aa} {Q1 Q2 : Exit → Env → List aa → Prop}, kZ P n0 ir env H Q1 → (∀ x e H', Q1 x e H' → Q2 x e H') → kZ P n0 ir env H Q2 := by
 intro ir
 induction ir with
 | skip => exact fun h hQ => hQ _ _ _ h
 | region ops live => exact fun h hQ => rA h fun _ _ h => hQ _ _ _ h
 | draw t live => exact fun h hQ => dx h fun _ _ h => hQ _ _ _ h
 | seq a b DL Ro =>
   exact fun h hQ => DL h fun x e H' h => by
    cases x with
    | normal => exact Ro h hQ
    | _ => exact hQ _ _ _ h
 | cond x a b DL Ro =>
   intro env H Q1 Q2 h hQ
   rw [BF] at *
   unfold fA eI at *
   split at h
   ·exact ⟨fun e => DL (h.1 e) hQ, fun e => Ro (h.2 e) hQ⟩
   ·exact h.elim
 | block id a DL =>
   exact fun h hQ => DL h fun x e H' h => by
    cases x with
    | exit id' =>
      dsimp only at h ⊢
      split
      ·rename_i bm; rw [if_pos bm] at h; exact hQ _ _ _ h
      ·rename_i bm; rw [if_neg bm] at h; exact hQ _ _ _ h
    | _ => exact hQ _ _ _ h
 | loop a DL =>
   intro env H Q1 Q2 h hQ
   obtain ⟨ι, I, se, sh, μ, h0, hs⟩ := h
   exact ⟨ι, I, se, sh, μ, h0, fun i hi => DL (hs i hi) fun x e H' h => by
    cases x with
    | normal => exact h
    | _ => exact hQ _ _ _ h⟩
 | exit id => exact fun h hQ => hQ _ _ _ h
 | ret => exact fun h hQ => hQ _ _ _ h
 | never => exact fun h _ => h.elim
 | iK f lc =>
   intro env H Q1 Q2 h hQ
   rw [xG] at *
   unfold uZ at *
   split at h
   ·obtain ⟨h1, bO, h2, h3⟩ := h
    exact ⟨h1, bO, h2, h3.mono fun _ H' hb => sN hb fun j H'' hg => xF hg hQ⟩
   ·exact h.elim
theorem YI (a b y : AV) : ag [a, b] 0 [y] = [y, b] := by simp [ag]
theorem YJ (a b y : AV) : ag [a, b] 1 [y] = [a, y] := by simp [ag]
theorem YK (a b c y : AV) : ag [a, b, c] 0 [y] = [y, b, c] := by simp [ag]
theorem YL (a b c y : AV) : ag [a, b, c] 1 [y] = [a, y, c] := by simp [ag]
theorem YM (a b c y : AV) : ag [a, b, c] 2 [y] = [a, b, y] := by simp [ag]
theorem YN (a b c x y z : AV) : ag [a, b, c] 0 [x, y, z] = [x, y, z] := by simp [ag]
theorem RI (k k' : IntKind) (a b : Int) (φ : AV → Prop) : wj true (.int k a) (.int k' b) φ = φ (.int k (max a b)) := by
 have : (if a < b then b else a) = max a b := by rw [Int.max_def]; split <;> split <;> omega
 simp [wj, this]
theorem RJ (k k' : IntKind) (a b : Int) (φ : AV → Prop) : wj false (.int k a) (.int k' b) φ = φ (.int k (min a b)) := by
 have : (if b < a then b else a) = min a b := by rw [Int.min_def]; split <;> split <;> omega
 simp [wj, this]
def db (o : Option aa) (sz : Option Nat) (off : Nat) (φ : AV → Prop) : Prop :=
 match o with
 | some (.cells es) => match sz with
   | some m => off + m ≤ es.length ∧ φ (.agg (((es.drop off).take m).map AV.drop))
   | none => off < es.length ∧ φ (es.getD off .any).ab
 | _ => False
@[congr] theorem OX {o o' : Option aa} {sz : Option Nat} {off : Nat} {φ : AV → Prop} (h : fY o = o') : db o sz off φ = db o' sz off φ := by subst h; rfl
theorem JI (sz : Option Nat) (id off : Nat) (H : List aa) (φ : AV → Prop) : aS sz (.ptr id off) H φ = db H[id]? sz off φ := by
 unfold aS db; rfl
theorem Nl (es : List AV) (off : Nat) (φ : AV → Prop) : db (some (.cells es)) none off φ = (off < es.length ∧ φ (es.getD off .any).ab) := _root_.id rfl
theorem Fh (a b c : AV) (φ : AV → Prop) : db (some (.cells [a, b, c])) (some 3) 0 φ = φ (.agg [a.drop, b.drop, c.drop]) := by simp [db]
theorem Nm (a b : AV) (φ : AV → Prop) : db (some (.cells [a, b])) (some 2) 0 φ = φ (.agg [a.drop, b.drop]) := by simp [db]
def gU (o : Option aa) (m id off : Nat) (x : AV) (H : List aa) (K : List aa → Prop) : Prop :=
 match o with
 | some (.cells es) => x.val = true ∧ x.cells.length = m ∧ off + m ≤ es.length ∧ x.cells.all AV.one = true ∧ aj (id + 1) (x.cells.map AV.ab) = true ∧
    K (H.set id (.cells (ag es off (x.cells.map AV.ab))))
 | _ => False
@[congr] theorem Nn {o o' : Option aa} {m id off : Nat} {x : AV} {H : List aa} {K : List aa → Prop} (h : fY o = o') {x' : AV} (h2 : x = x') : gU o m id off x H K = gU o' m id off x' H K := by subst h; subst h2; rfl
theorem He (m id off : Nat) (x : AV) (H : List aa) (K : List aa → Prop) : gQ m (.ptr id off) x H K = gU H[id]? m id off x H K := by
 unfold gQ gU; rfl
theorem BQ (es : List AV) (m id off : Nat) (x : AV) (H : List aa) (K : List aa → Prop) : gU (some (.cells es)) m id off x H K = (x.val = true ∧ x.cells.length = m ∧ off + m ≤ es.length ∧ x.cells.all AV.one = true ∧ aj (id + 1) (x.cells.map AV.ab) = true ∧
 K (H.set id (.cells (ag es off (x.cells.map AV.ab))))) := _root_.id rfl
def qh (o : Option aa) (l m id off : Nat) (x : AV) (H : List aa) (K : List aa → Prop) : Prop :=
 match o with
 | some (.cells es) => l ≤ id ∧ x.val = true ∧ x.cells.length = m ∧ off + m ≤ es.length ∧ x.cells.all AV.one = true ∧ aj H.length (x.cells.map AV.ab) = true ∧
    K (H.set id (.cells (ag es off (x.cells.map AV.ab))))
 | _ => False
@[congr] theorem Lg {o o' : Option aa} {l m id off : Nat} {x : AV} {H : List aa} {K : List aa → Prop} (h : fY o = o') {x' : AV} (h2 : x = x') : qh o l m id off x H K = qh o' l m id off x' H K := by subst h; subst h2; rfl
theorem D3 (l m id off : Nat) (x : AV) (H : List aa) (K : List aa → Prop) : gh l m (.ptr id off) x H K = qh H[id]? l m id off x H K := by
 unfold gh qh; rfl
theorem Hf (es : List AV) (l m id off : Nat) (x : AV) (H : List aa) (K : List aa → Prop) : qh (some (.cells es)) l m id off x H K = (l ≤ id ∧ x.val = true ∧ x.cells.length = m ∧ off + m ≤ es.length ∧ x.cells.all AV.one = true ∧ aj H.length (x.cells.map AV.ab) = true ∧
 K (H.set id (.cells (ag es off (x.cells.map AV.ab))))) := _root_.id rfl
@[congr] theorem Lh {l m : Nat} {p p' x : AV} {H H' : List aa} {K : List aa → Prop} (h : fY p = p') (h2 : H = H') : gh l m p x H K = gh l m p' x H' K := by subst h; subst h2; rfl
theorem Hg (e : Nat) (xs : List AV) (H : List aa) (K : AV → List aa → Prop) : ff e (.agg xs) H K = jr e xs H fun ys H' => K (.agg ys) H' := _root_.id rfl
theorem D4 (e : Nat) (H : List aa) (K : List AV → List aa → Prop) : jr e [] H K = K [] H := _root_.id rfl
theorem BR (e : Nat) (x : AV) (r : List AV) (H : List aa) (K : List AV → List aa → Prop) : jr e (x :: r) H K = dD e x H fun y H' => jr e r H' fun ys H'' => K (y :: ys) H'' := _root_.id rfl
theorem D5 (e : Nat) (k : IntKind) (n : Int) (H : List aa) (K : AV → List aa → Prop) : dD e (.int k n) H K = K (.int k n) H := _root_.id rfl
def JJ := And.intro @GW (And.intro @D3 (And.intro @Hf (And.intro @Js (And.intro @Hg (And.intro @D4 (And.intro @BR @D5))))))
def g9 (o : Option aa) (kd : Nat) (zero k : AV) (ok : Bool) (φ : AV → Prop) : Prop :=
 match o with
 | some (.map es) => match dP kd k es 0 with
   | some (some (_, v)) => φ (if ok then .tuple [v.drop, .bool true] else v.drop)
   | some none => cP kd k k = some true ∧ φ (if ok then .tuple [aT zero, .bool false] else aT zero)
   | none => False
 | _ => False
@[congr] theorem Li {o o' : Option aa} {kd : Nat} {z k k' : AV} {ok : Bool} {φ : AV → Prop} (h : fY o = o') (h2 : k = k') : g9 o kd z k ok φ = g9 o' kd z k' ok φ := by subst h; subst h2; rfl
theorem D6 (kd id : Nat) (z k : AV) (ok : Bool) (H : List aa) (φ : AV → Prop) : cb kd z (.map id) k ok H φ = g9 H[id]? kd z k ok φ := by
 unfold cb g9; rfl
def hJ (o : Option aa) (kd id : Nat) (k x : AV) (H : List aa) (K : List aa → Prop) : Prop :=
 match o with
 | some (.map es) => k.a7 (id + 1) = true ∧ x.a7 (id + 1) = true ∧ x.val = true ∧ match dP kd k es 0 with
    | some (some (i, _)) => K (H.set id (.map (es.set i (k, aT x))))
    | some none => cP kd k k = some true ∧ K (H.set id (.map (es ++ [(k, aT x)])))
    | none => False
 | _ => False
@[congr] theorem Lj {o o' : Option aa} {kd id : Nat} {k k' x x' : AV} {H : List aa} {K : List aa → Prop} (h : fY o = o') (h2 : k = k') (h3 : x = x') : hJ o kd id k x H K = hJ o' kd id k' x' H K := by subst h; subst h2; subst h3; rfl
theorem D7 (kd id : Nat) (k x : AV) (H : List aa) (K : List aa → Prop) : eZ kd (.map id) k x H K = hJ H[id]? kd id k x H K := by
 unfold eZ hJ; rfl
def xH (o : Option aa) (d id off : Nat) (env : Env) (H : List aa) (K : Env → List aa → Prop) : Prop :=
 match o with
 | some (.cells es) => off < es.length ∧ K ((d, es.getD off .any) :: env) (H.set id (.cells (es.set off (es.getD off .any).ab)))
 | _ => False
@[congr] theorem OY {o o' : Option aa} {d id off : Nat} {env : Env} {H : List aa} {K : Env → List aa → Prop} (h : fY o = o') : xH o d id off env H K = xH o' d id off env H K := by subst h; rfl
theorem No (es : List AV) (d id off : Nat) (env : Env) (H : List aa) (K : Env → List aa → Prop) : xH (some (.cells es)) d id off env H K = (off < es.length ∧ K ((d, es.getD off .any) :: env) (H.set id (.cells (es.set off (es.getD off .any).ab)))) := _root_.id rfl
def BS (v : AV) (d : Nat) (env : Env) (H : List aa) (K : Env → List aa → Prop) : Prop :=
 match v with
 | .ptr id off => xH H[id]? d id off env H K
 | _ => False
@[congr] theorem OZ {v v' : AV} {d : Nat} {env : Env} {H : List aa} {K : Env → List aa → Prop} (h : fY v = v') : BS v d env H K = BS v' d env H K := by subst h; rfl
theorem Np (id off d : Nat) (env : Env) (H : List aa) (K : Env → List aa → Prop) : BS (.ptr id off) d env H K = xH H[id]? d id off env H K := _root_.id rfl
theorem JK {P : Px} (a : IX) (d : Nat) (env : Env) (H : List aa) (K : Env → List aa → Prop) : bt P (.eh a) (some d) env H K = BS (al env a) d env H K := by
 simp only [bt, BS, xH]
 cases al env a <;> rfl
def JL (o : Option aa) (id off : Nat) (x : AV) (H : List aa) (K : List aa → Prop) : Prop :=
 match o with
 | some (.cells es) => off < es.length ∧ x.one = true ∧ x.a7 (id + 1) = true ∧ K (H.set id (.cells (es.set off x)))
 | _ => False
@[congr] theorem RK {o o' : Option aa} {id off : Nat} {x x' : AV} {H : List aa} {K : List aa → Prop} (h : fY o = o') (h2 : x = x') : JL o id off x H K = JL o' id off x' H K := by subst h; subst h2; rfl
theorem Nq (id off : Nat) (x : AV) (H : List aa) (K : List aa → Prop) : dO (.ptr id off) x H K = JL H[id]? id off x H K := by
 unfold dO JL; rfl
theorem RL (es : List AV) (id off : Nat) (x : AV) (H : List aa) (K : List aa → Prop) : JL (some (.cells es)) id off x H K = (off < es.length ∧ x.one = true ∧ x.a7 (id + 1) = true ∧ K (H.set id (.cells (es.set off x)))) := _root_.id rfl
theorem bd2 (x y : AV) (φ : AV → Prop) : cC [.int .i64 0, .int .i64 0, .ah] [(0, 1, x), (1, 1, y)] φ = (x.val = true ∧ x.cells.length = 1 ∧ y.val = true ∧ y.cells.length = 1 ∧ φ (.agg (ag (ag [.int .i64 0, .int .i64 0, .ah] 0 (x.cells.map AV.ab)) 1 (y.cells.map AV.ab)))) := by
 simp only [cC, gI, eq_iff_iff]
 constructor
 ·rintro ⟨h1, h2, h3, h4, h5, h6, h7⟩; exact ⟨h1, h2, h4, h5, h7⟩
 ·rintro ⟨h1, h2, h4, h5, h7⟩
  have e1 : (x.cells.map AV.ab).length = 1 := by simpa using h2
  refine ⟨h1, h2, by simp, h4, h5, ?_, h7⟩
  simp [ag, h2]
theorem bd0 (cs : List AV) (φ : AV → Prop) : cC cs [] φ = φ (.agg cs) := _root_.id rfl
theorem nW (e b : Nat) (ys : List AV) (o : Nat) (ψ : List AV → Prop) : bE e b .ah (.ap o ys) ψ = (ys.length * b ≤ 140737488355328 ∧ s5 e ys ∧ ψ ys) := by
 simp [bE, ma, dz]
theorem m8 (e b : Nat) (xs ys : List AV) (o : Nat) (ψ : List AV → Prop) : bE e b (.ap e xs) (.ap o ys) ψ = ((xs.length + ys.length) * b ≤ 140737488355328 ∧ s5 e ys ∧ ψ (xs ++ ys)) := by
 simp [bE, ma, dz]
theorem YO (n : Nat) : (IX.t n).slot = some n := _root_.id rfl
theorem YP (v : AV) : (IX.c v).slot = none := _root_.id rfl
theorem RM (id : Nat) (H : List aa) (φ : AV → Prop) : aS none (.ai (.map id)) H φ = φ (.map id) := by simp [aS, AV.one, I4]
theorem RN (id off : Nat) (H : List aa) (φ : AV → Prop) : aS none (.ai (.ptr id off)) H φ = φ (.ptr id off) := by simp [aS, AV.one, I3]
theorem Nr (b : Bool) : (AV.bool b).one = true := _root_.id rfl
theorem RP (k : IntKind) (n : Int) : (AV.int k n).one = true := _root_.id rfl
theorem RQ (s : ByteArray) : (AV.str s).one = true := _root_.id rfl
theorem RR (o : Nat) (xs : List AV) : (AV.ap o xs).one = true := _root_.id rfl
theorem Ns : AV.ah.one = true := _root_.id rfl
theorem VH (f : Fn) (a b : List AV) : (AV.fn f a b).one = true := _root_.id rfl
theorem RS (a b : Nat) : (AV.ptr a b).one = true := _root_.id rfl
theorem Nt (x : AV) : (AV.ai x).one = true := _root_.id rfl
theorem RT (a : Nat) : (AV.map a).one = true := _root_.id rfl
theorem YQ {α : Type} (p : α → Bool) (x : α) (r : List α) : (x :: r).all p = (p x && r.all p) := _root_.id rfl
theorem YR {α : Type} (p : α → Bool) : ([] : List α).all p = true := _root_.id rfl
theorem dJ (n : Int) (h : -9223372036854775808 ≤ n ∧ n ≤ 9223372036854775807) : IntKind.i64.wrap n = n := by
 rw [show IntKind.i64.wrap n = (n + 9223372036854775808) % 18446744073709551616 - 9223372036854775808 from IntKind.wrap_i64 n]; omega
theorem aM {P : Program} {n0 : Nat} {env : Env} {H : List aa} {Q : Exit → Env → List aa → Prop} {a : IR} {ι : Type} (N : Nat) (I : Nat → ι → Prop) (se : Nat → ι → Env) (sh : Nat → ι → List aa) (s0 : ι) (h0 : I 0 s0 ∧ sle n0 env H (se 0 s0) (sh 0 s0))
 (hs : ∀ i s, i ≤ N → I i s → kZ P n0 a (se i s) (sh i s) fun e aD H' => match e with
   | .normal => ∃ j t, (j ≤ N ∧ I j t) ∧ N - j < N - i ∧ sle n0 aD H' (se j t) (sh j t)
   | e => Q e aD H') : kZ P n0 (.loop a) env H Q :=
 ⟨Nat × ι, fun p => p.1 ≤ N ∧ I p.1 p.2, fun p => se p.1 p.2, fun p => sh p.1 p.2, fun p => N - p.1, ⟨(0, s0), ⟨Nat.zero_le _, h0.1⟩, h0.2⟩, fun p hp => kJ (hs p.1 p.2 hp.1 hp.2) fun x e H' h => by
   cases x with
   | normal => obtain ⟨j, t, h1, h2, h3⟩ := h; exact ⟨(j, t), h1, h2, h3⟩
   | _ => exact h⟩
theorem lM {P : Program} {l : Nat} {n0 : Nat} {env : Env} {H : List aa} {Q : Exit → Env → List aa → Prop} {a : IR} {ι : Type} (N : Nat) (I : Nat → ι → Prop) (se : Nat → ι → Env) (sh : Nat → ι → List aa) (s0 : ι) (h0 : I 0 s0 ∧ Gf n0 env H (se 0 s0) (sh 0 s0))
 (hs : ∀ i s, i ≤ N → I i s → kZ ⟨P, some l⟩ n0 a (se i s) (sh i s) fun e aD H' => match e with
   | .normal => ∃ j t, (j ≤ N ∧ I j t) ∧ N - j < N - i ∧ Gf n0 aD H' (se j t) (sh j t)
   | e => Q e aD H') : kZ ⟨P, some l⟩ n0 (.loop a) env H Q :=
 ⟨Nat × ι, fun p => p.1 ≤ N ∧ I p.1 p.2, fun p => se p.1 p.2, fun p => sh p.1 p.2, fun p => N - p.1, ⟨(0, s0), ⟨Nat.zero_le _, h0.1⟩, h0.2⟩, fun p hp => kJ (hs p.1 p.2 hp.1 hp.2) fun x e H' h => by
   cases x with
   | normal => obtain ⟨j, t, h1, h2, h3⟩ := h; exact ⟨(j, t), h1, h2, h3⟩
   | _ => exact h⟩
theorem aY {H : List aa} {s : Nat} {v v' : AV} (hb : v.a7 H.length = true) (hv : v = v') : bT H.length [.t s] [(s, v)] H fun r H' => r = v' ∧ H' = H :=
 aQ _ (Nat.le_refl _) (by rw [ax, if_pos rfl]; exact hb) ⟨by rw [ax, if_pos rfl]; exact hv, by simp⟩
theorem JM {H e : List aa} {s : Nat} {v v' : AV} (hb : v.a7 H.length = true) (hv : v = v') : bT H.length [.t s] [(s, v)] (H ++ e) fun r H' => r = v' ∧ H' = H :=
 aQ _ (Nat.le_refl _) (by rw [ax, if_pos rfl]; exact hb) ⟨by rw [ax, if_pos rfl]; exact hv, by simp⟩
theorem RU {H H' : List aa} {n0 s : Nat} {v v' : AV} (hn : n0 = H.length) (hb : v.a7 n0 = true) (hv : v = v') (hl : H = H') : bT n0 [.t s] [(s, v)] H fun r H'' => r = v' ∧ H'' = H' := by
 subst hn hl; exact aY hb hv
theorem qi {H H' : List aa} {n0 : Nat} {env : Env} (hn : n0 = H.length) (hl : H = H') : bT n0 [] env H fun r H'' => r = .tuple [] ∧ H'' = H' := by
 subst hn hl
 exact ⟨H.length, Nat.le_refl _, [], trivial, rfl, rfl, by simp⟩
theorem xI {H e : List aa} {s s' : Nat} {v v' x y : AV} (hs : s' ≠ s) (hb : x.a7 H.length = true) (dV : y.a7 H.length = true) (hx : v.ab = x) (hy : v'.ab = y) :
 bT H.length [.t s, .t s'] [(s, v), (s', v')] (H ++ e) fun r H' => r = .tuple [x, y] ∧ H' = H := by
 subst hx hy
 refine ⟨H.length, Nat.le_refl _, [v.ab, v'.ab], ?_, ?_, rfl, by simp⟩
 ·simp only [ax, if_neg hs, if_true, List.map]
  exact b9 _
 ·simp only [aj, hb, dV, Bool.and_self]
theorem BT {H : List aa} {s s' : Nat} {v v' x y : AV} (hs : s' ≠ s) (hb : x.a7 H.length = true) (dV : y.a7 H.length = true) (hx : v.ab = x) (hy : v'.ab = y) :
 bT H.length [.t s, .t s'] [(s, v), (s', v')] H fun r H' => r = .tuple [x, y] ∧ H' = H := by
 have := xI (e := []) hs hb dV hx hy
 rw [List.append_nil] at this
 exact this
def xJ (n0 : Nat) (x : AV) (H : List aa) (R : AV → List aa → Prop) : Prop := ∃ m, n0 ≤ m ∧ ∃ r, x.le r ∧ r.a7 m = true ∧ R r (H.take m)
@[congr] theorem O0 {n0 : Nat} {x x' : AV} {H H' : List aa} {R : AV → List aa → Prop} (h : fY x = x') (h2 : H = H') : xJ n0 x H R = xJ n0 x' H' R := by subst h; subst h2; rfl
def sO (n0 : Nat) (xs : List AV) (H : List aa) (R : AV → List aa → Prop) : Prop := ∃ m, n0 ≤ m ∧ ∃ ys, xk (xs.map AV.ab) ys ∧ aj m ys = true ∧ R (.tuple ys) (H.take m)
@[congr] theorem O4 {n0 : Nat} {x x' : List AV} {H H' : List aa} {R : AV → List aa → Prop} (h : fY x = x') (h2 : H = H') : sO n0 x H R = sO n0 x' H' R := by subst h; subst h2; rfl
theorem RV (n0 s : Nat) (sz : Option Nat) (env : Env) (H : List aa) (R : AV → List aa → Prop) : bT n0 [.c s sz] env H R = aS sz (get env s) H fun x => xJ n0 x H R := _root_.id rfl
theorem Nu (n0 s s' : Nat) (sz : Option Nat) (env : Env) (H : List aa) (R : AV → List aa → Prop) : bT n0 [.c s sz, .t s'] env H R = aS sz (get env s) H fun x => sO n0 [x, get env s'] H R := _root_.id rfl
theorem Fi {H e : List aa} {v v' : AV} (hb : v.a7 H.length = true) (hv : v = v') : xJ H.length v (H ++ e) fun r H' => r = v' ∧ H' = H := by
 subst hv; exact ⟨H.length, Nat.le_refl _, v, le_refl _, hb, rfl, by simp⟩
theorem bZ {i n : Nat} (h : (i : Int) < (n : Int)) : i < n := by omega
theorem dl {i n : Nat} (h : (n : Int) ≤ (i : Int)) : n ≤ i := by omega
def lN := (And.intro @BH (And.intro @BL (And.intro @xG @GX)))
def RW := (And.intro (And.intro (And.intro (And.intro (And.intro (And.intro (And.intro (And.intro @Rn @Je) (And.intro @DN @Jf)) (And.intro (And.intro @MV @BF) (And.intro @GQ (And.intro @Jg @MW)))) (And.intro (And.intro (And.intro @Jh @Rr) (And.intro @Ru @Vz)) (And.intro (And.intro @VA @GR) (And.intro @Ji (And.intro @Rv @Rw))))) (And.intro (And.intro (And.intro (And.intro @MX @Ja) (And.intro @Jb @ax)) (And.intro (And.intro @Rl @RA) (And.intro @Jo (And.intro @GV @Jp)))) (And.intro (And.intro (And.intro @VB @RB) (And.intro @M8 (And.intro @M9 @Jq))) (And.intro (And.intro @Jr @wO) (And.intro @Na (And.intro @JK @Np)))))) (And.intro (And.intro (And.intro (And.intro (And.intro @No @Nq) (And.intro @RL @D6)) (And.intro (And.intro @D7 @nW) (And.intro @m8 (And.intro @RM @RN)))) (And.intro (And.intro (And.intro @YO @YP) (And.intro @RV (And.intro @Nu @bd0))) (And.intro (And.intro @bd2 @Jt) (And.intro @DO (And.intro @BG @zF))))) (And.intro (And.intro (And.intro (And.intro @Ju @zG) (And.intro @BI @Jv)) (And.intro (And.intro @Nb @BJ) (And.intro @RC (And.intro @GY (And.intro @Jw (And.intro @tL @DP)))))) (And.intro (And.intro (And.intro @Jx @Jy) (And.intro @G7 (And.intro @G8 @VC))) (And.intro (And.intro @DQ @DR) (And.intro @DS (And.intro @DU @Jz))))))) (And.intro (And.intro (And.intro (And.intro (And.intro (And.intro @VD @Nc) (And.intro @JA @RD)) (And.intro (And.intro @Nf @JB) (And.intro @Ng (And.intro @Nh @RE)))) (And.intro (And.intro (And.intro @Ni @RF) (And.intro @JC @G9)) (And.intro (And.intro @JD @VE) (And.intro @Nj (And.intro @JE @wP))))) (And.intro (And.intro (And.intro (And.intro @zH @wQ) (And.intro @BK @zJ)) (And.intro (And.intro @JF @zK) (And.intro @BM (And.intro @JG @BN)))) (And.intro (And.intro (And.intro @BO @zL) (And.intro @u0 (And.intro @tc @VF))) (And.intro (And.intro @DV @DW) (And.intro @VG (And.intro @Nk @DX)))))) (And.intro (And.intro (And.intro (And.intro (And.intro @Ha @DY) (And.intro @DZ @BP)) (And.intro (And.intro @RG @RH) (And.intro @kI (And.intro @D0 @Hb)))) (And.intro (And.intro (And.intro @Hc @JH) (And.intro @Hd (And.intro @MO @MP))) (And.intro (And.intro @MQ @MR) (And.intro @Vt (And.intro @Vu @Vv))))) (And.intro (And.intro (And.intro (And.intro @Vw @YF) (And.intro @Vx @Vy)) (And.intro (And.intro @MT @GN) (And.intro @Qp (And.intro @nT @mY)))) (And.intro (And.intro (And.intro @zA @Fb) (And.intro @uU (And.intro @Qq @Qr))) (And.intro (And.intro @I2 @I3) (And.intro @Fc (And.intro @Mk @I4)))))))) (And.intro (And.intro (And.intro (And.intro (And.intro (And.intro (And.intro @Ml @OM) (And.intro @Mm @Mn)) (And.intro (And.intro @Qs @Qt) (And.intro @Mo (And.intro @Qu @Qv)))) (And.intro (And.intro (And.intro @Vo @Mq) (And.intro @Qw @Mr)) (And.intro (And.intro @Qx @tJ) (And.intro @Qy (And.intro @Qz @Ms))))) (And.intro (And.intro (And.intro (And.intro @QA @QB) (And.intro @Vp @Mt)) (And.intro (And.intro @QC @Mv) (And.intro @QD (And.intro @Fe @QE)))) (And.intro (And.intro (And.intro @QF @Mw) (And.intro @QG (And.intro @QH @Vq))) (And.intro (And.intro @Mx @QI) (And.intro @My (And.intro @QJ @zB)))))) (And.intro (And.intro (And.intro (And.intro (And.intro @iO @I5) (And.intro @Ff @cW)) (And.intro (And.intro @uV @I6) (And.intro @rv (And.intro @I7 @jC)))) (And.intro (And.intro (And.intro @zC @Vr) (And.intro @Mz (And.intro @cZ @bL))) (And.intro (And.intro @Rm @ML) (And.intro @QK (And.intro @QL @QM))))) (And.intro (And.intro (And.intro (And.intro @QN @QO) (And.intro @QP @QQ)) (And.intro (And.intro @QR @QS) (And.intro @QT (And.intro @QU @QV)))) (And.intro (And.intro (And.intro @QW @QX) (And.intro @QY (And.intro @QZ @Q0))) (And.intro (And.intro @Q3 @YE) (And.intro @Q4 (And.intro @MA @Q5))))))) (And.intro (And.intro (And.intro (And.intro (And.intro (And.intro @Q6 @MB) (And.intro @Q7 @MC)) (And.intro (And.intro @Q8 @Q9) (And.intro @MD (And.intro @Ra @ME)))) (And.intro (And.intro (And.intro @Rb @Rc) (And.intro @Re @MF)) (And.intro (And.intro @Vs @Rf) (And.intro @MG (And.intro @I8 @Rg))))) (And.intro (And.intro (And.intro (And.intro @I9 @Rh) (And.intro @Ri @Rj)) (And.intro (And.intro @Rk @GG) (And.intro @MH (And.intro @MJ @MK)))) (And.intro (And.intro (And.intro @GH @GI) (And.intro @GJ (And.intro @GK @GL))) (And.intro (And.intro @Bv @Bw) (And.intro @ga0 (And.intro @ga @sa0)))))) (And.intro (And.intro (And.intro (And.intro (And.intro @sa @YG) (And.intro @TK @g0)) (And.intro (And.intro @g1 @g2) (And.intro @s0 (And.intro @s1 @s2)))) (And.intro (And.intro (And.intro @d0 @d1) (And.intro @d2 (And.intro @YH @YI))) (And.intro (And.intro @YJ @YK) (And.intro @YL (And.intro @YM @YN))))) (And.intro (And.intro (And.intro (And.intro @RI @RJ) (And.intro @Fh @Nm)) (And.intro (And.intro @JI @Nl) (And.intro @He (And.intro @BQ @Nr)))) (And.intro (And.intro (And.intro @RP @RQ) (And.intro @RR (And.intro @Ns @VH))) (And.intro (And.intro @RS @Nt) (And.intro @RT (And.intro @YQ @YR)))))))))
end Go.aK
end
section
namespace Go.aK
open Go Go.RowKit
def fR (w : World) : Mem := fun b o => w.cell? ⟨b, o, none⟩
def D8 (w : World) : Perm := ⟨fun b => w.heap.size ≤ b, fun id => some (id + 1), (fun id n h => by cases h; omega), 0⟩
theorem zM (w : World) : (D8 w).entry false ([] : List aa).length := ⟨fun id h => absurd h (Nat.not_lt_zero _), fun id _ => rfl⟩
theorem St.start {w : World} {vs : Array Value} {xs : List AV} (h : aJ (fR w) [] vs.toList xs) (hf : ∀ x ∈ xs, ∀ own ys, x = .ap own ys → own = 0) :
 St (D8 w) (fR w) [] w [] (fun t => vs.getD t undef) (fun t => xs.getD t .any) (fun _ => none) where
 len := rfl
 nodup := by simp
 env := fun t => by
  have := h.getD t
  rw [List.getD_eq_getElem?_getD] at this
  rw [Array.getD_eq_getD_getElem?]
  simpa using this
 mem := fun b o v hv => hv
 obj := fun id o b ho => by simp at ho
 bB := fun id o ho => by simp at ho
 lt := fun b hb => by cases hb
 gH := fun t => by
  refine bb.free fun own ys e => ?_
  rw [List.getD_eq_getElem?_getD] at e
  cases hx : xs[t]? with
  | none => rw [hx] at e; cases e
  | some x => rw [hx] at e; exact hf x (List.mem_of_getElem? hx) own ys e
 gE := fun id j => by simp [bp, bb]
 bY := fun p q b hp => by cases hp
 cc := fun p b hp => by cases hp
 eT := fun p b hp => by cases hp
 La := fun b hb => by cases hb
 Oa := fun p b hp => by cases hp
 fresh := fun b hb => hb
theorem Ext.below {M M' : Mem} {w w' : World} (h : Ext (D8 w) M w M' w') : Below w.heap.size w w' :=
 ⟨h.os, h.tape, h.output, h.size, fun k hk => (h.jX k hk (by show ¬ w.heap.size ≤ k; omega)).1⟩
theorem Pure.lift {P : Program} {f : FuncId} {xs : List AV} {b : Bool} (hp : Pure P f xs (.bool b)) (he : ∀ (as : Array Value) (w : World), (callFunc f as).run P w = .ok (.enter f as) w)
 {w : World} {vs : Array Value} (hr : aJ (fR w) [] vs.toList xs) (hf : ∀ x ∈ xs, ∀ own ys, x = .ap own ys → own = 0) :
 Calls P f vs w fun e w' => e = .returned (.bool b) ∧ Below w.heap.size w w' := by
 have hs : vs.size = xs.length := by have := hr.length; simpa using this
 refine ((hp []).body he (zM w) hs (St.start hr hf)).mono ?_
 rintro e w' ⟨v, r, H', M', L', O', rfl, ⟨rfl, rfl⟩, bP, cr, _⟩
 have := bP.env 0
 simp only [HY] at this
 cases this
 exact ⟨rfl, cr.below⟩
theorem BU {a : Addr} {n : Nat} (h : a.spot = none) : a.add n = ⟨a.block, a.off + n, none⟩ := by
 obtain ⟨b, o, s⟩ := a
 simp only at h
 subst h
 unfold Addr.add
 split
 ·rename_i e; subst e; rfl
 ·rfl
theorem Hh {w : World} {a : Addr} {v : Value} (h : w.cell? a = some v) : a.spot = none := by
 unfold World.cell? at h
 split at h
 ·split at h
  ·cases h
  ·rename_i hs; cases KY : a.spot <;> simp_all
 ·cases h
theorem xK {M : Mem} {L : List Nat} : ∀ {n : Nat} {cs : Nat → List Value} {f : Nat → AV}, (∀ i, i < n → aJ M L (cs i) (f i).cells) → aJ M L ((List.range n).flatMap cs) (flat ((List.range n).map f))
 | 0, _, _, _ => by simp [flat]; exact .nil
 | n + 1, cs, f, h => by
   have ih := xK (n := n) (fun i hi => h i (by omega))
   simp only [List.range_succ, List.flatMap_append, List.map_append, flat] at ih ⊢
   refine ih.append ?_
   simpa using h n (by omega)
theorem BV {n e : Nat} {cs : Nat → List Value} : (∀ i, i < n → (cs i).length = e) → ∀ (j : Nat) (v : Value), ((List.range n).flatMap cs)[j]? = some v → ∃ i k, i < n ∧ k < e ∧ j = i * e + k ∧ (cs i)[k]? = some v := by
 induction n with
 | zero => intro _ j v h; simp at h
 | succ n ih =>
   intro hl j v h
   simp only [List.range_succ, List.flatMap_append] at h
   have hlen : ((List.range n).flatMap cs).length = n * e := by
    clear h ih
    induction n with
    | zero => simp
    | succ n ih2 =>
      simp only [List.range_succ, List.flatMap_append, List.length_append]
      rw [ih2 (fun i hi => hl i (by omega))]
      simp [hl n (by omega), Nat.succ_mul]
   rcases Nat.lt_or_ge j (n * e) with hj | hj
   ·rw [List.getElem?_append_left (by omega)] at h
    obtain ⟨i, k, h1, h2, h3, h4⟩ := ih (fun i hi => hl i (by omega)) j v h
    exact ⟨i, k, by omega, h2, h3, h4⟩
   ·rw [List.getElem?_append_right (by omega), hlen] at h
    simp only [List.flatMap_cons, List.flatMap_nil, List.append_nil] at h
    have hk := (List.getElem?_eq_some_iff.1 h).1
    rw [hl n (by omega)] at hk
    exact ⟨n, j - n * e, by omega, hk, by omega, h⟩
theorem xL {w : World} {base e len cap : Nat} {a : Addr} (he : 0 < e) (hl : len ≤ cap) (hc : cap ≤ maxLen) (cs : Nat → List Value) (f : Nat → AV)
 (h : ∀ i, i < len → w.cells? base (a.add (i * e)) e = some (cs i) ∧ aJ (fR w) [] (cs i) (f i).cells) : aR (fR w) [] (.slice (some a) len cap) (.ap 0 ((List.range len).map f)) := by
 have cF : cap < 9223372036854775808 := by have : maxLen = 9223372036854775807 := rfl; omega
 rcases Nat.eq_zero_or_pos len with h0 | h0
 ·subst h0
  exact .gb _ _ _ cF
 have hlen : ∀ i, i < len → (cs i).length = e := fun i hi => (World.cells?_some (h i hi).1).2.1
 have hcell : ∀ i, i < len → ∀ k, k < e → w.cell? ((a.add (i * e)).add k) = (cs i)[k]? := fun i hi => (World.cells?_some (h i hi).1).2.2
 have hspot : a.spot = none := by
  have h1 := hcell 0 h0 0 he
  rw [List.getElem?_eq_getElem (by rw [hlen 0 h0]; exact he)] at h1
  have h2 := Hh h1
  simpa [Addr.add] using h2
 have key : aR (fR w) [] (.slice (some ⟨a.block, a.off, none⟩) ((List.range len).map f).length cap) (.ap 0 ((List.range len).map f)) := by
  refine .ap a.block a.off cap 0 e ((List.range len).flatMap cs) _ he ?_ (by simpa using h0) (by simpa using hl) cF (xK fun i hi => (h i hi).2) ?_
  ·intro x hx
   obtain ⟨i, hi, rfl⟩ := List.mem_map.1 hx
   have hi := List.mem_range.1 hi
   rw [← (h i hi).2.length, hlen i hi]
  ·intro j v hv
   obtain ⟨i, k, h1, h2, rfl, h4⟩ := BV hlen j v hv
   have := hcell i h1 k h2
   rw [BU hspot, BU (by rfl)] at this
   show w.cell? ⟨a.block, a.off + (i * e + k), none⟩ = some v
   rw [← Nat.add_assoc, this, h4]
 have ea : (some a : Option Addr) = some ⟨a.block, a.off, none⟩ := by obtain ⟨b, o, s⟩ := a; simp only at hspot; rw [hspot]
 rw [ea]
 simpa using key
section
variable {H : Type} {enc : TypeId × Value → H} {P : Program}
theorem oG (hl : laidOutB P = true) {W W' : World} (hb : Below W.heap.size W W') : ∀ {ts : List TypeId} {vs : List Value} {ds : List (DataW H)} {ps : List MemPlace}, (∀ t ∈ ts, P.readableRec t = true ∧ t < P.types.size) →
 DataW.TrodAll enc P W 0 (fun _ => true) true ts vs ds ps → (∀ x ∈ ps, x.block < W.heap.size) → DataW.TrodAll enc P W' 0 (fun b => decide (b < W.heap.size)) true ts vs ds ps
 | [], [], [], _, _, h, _ => h
 | t :: ts, v :: vs, d :: ds, _, ht, ⟨p, q, h1, h2, e⟩, hp => by
   subst e
   exact ⟨p, q, Below.trod hl (ht t (by simp)).1 (ht t (by simp)).2 h1 hb (fun x hx => hp x (by simp [hx])), oG hl hb (fun t ht' => ht t (by simp [ht'])) h2 (fun x hx => hp x (by simp [hx])), rfl⟩
theorem JN {fn : Func} {s : ChangeSpec} {apart : Bool} {W W' : World} {args : Array Value} {ds gs : List (DataW H)} {before : List MemPlace} {t : TypeId} (hl : laidOutB P = true) (hb : Below W.heap.size W W')
 (hW : DataW.Whole enc P fn.params.toList s.vars apart W args.toList ds gs before) (hv : s.vars = []) (td : fn.resultTypes = #[t]) (ht : P.underlying t = some .bool) (hs : s.fn H ds = { results := [.lit (.bool true)], args := ds })
 (hp : fn.params.toList.all (fun t => P.readableRec t && decide (t < P.types.size)) = true) : s.post enc P fn apart true false false W args (.bool true) W' := by
 have aX : ∀ x ∈ before, x.block < W.heap.size := fun x hx => by simpa using hW.lt x hx
 have hW0 := hW
 obtain ⟨p, q, h1, h2, h3, h4, h5⟩ := hW
 rw [hv] at h2
 obtain ⟨rfl, rfl⟩ := ChangeShapes.trodVars_none h2
 simp only [List.append_nil] at h3
 subst h3
 refine ⟨ds, [], before, [], before, [], hW0, ?_, ?_, ?_, hb.frame _, fun h => by cases h⟩
 ·simp only [List.append_nil, hs, td]
  exact ChangeShapes.trodAll_mk1 (shut_bool ht true)
 ·simp only [List.append_nil, hs]
  exact oG hl hb (fun t ht => by simpa using List.all_eq_true.1 hp t ht) h1 aX
 ·simp only [hv, List.append_nil, hs]
  rfl
end
end Go.aK
end
section
namespace Go.aK
open Go
structure YT {σ : Type} (S : σ → List aa) (p : Nat) (obj : σ → aa) (n : Nat) : Prop where
 get : ∀ s, (S s)[p]? = some (obj s)
 set : ∀ s s', (S s).set p (obj s') = S s'
 len : ∀ s, (S s).length = n
namespace YT
variable {σ : Type} {S : σ → List aa} {p : Nat} {obj : σ → aa} {n : Nat} (F : YT S p obj n)
include F
theorem lt (s : σ) : p < n := by
 have := F.get s
 rw [← F.len s]
 exact (List.getElem?_eq_some_iff.1 this).1
theorem take (s : σ) (e : List aa) : (S s ++ e).take n = S s := by
 rw [← F.len s]; simp
end YT
theorem O5 {Hs G : List aa} {n0 : Nat} {v w x y : AV} {R : AV → List aa → Prop} (hH : Hs.take n0 = G) (hb : x.a7 n0 = true) (dV : y.a7 n0 = true) (hx : v.ab = x) (hy : w.ab = y) (hR : R (.tuple [x, y]) G) :
 sO n0 [v, w] Hs R := by
 subst hx hy hH
 exact ⟨n0, Nat.le_refl _, [v.ab, w.ab], b9 _, by simp only [aj, hb, dV, Bool.and_self], hR⟩
theorem O6 {Hs G : List aa} {n0 : Nat} {v x : AV} {R : AV → List aa → Prop} (hH : Hs.take n0 = G) (hb : x.a7 n0 = true) (hx : v = x) (hR : R x G) : xJ n0 v Hs R := by
 subst hx hH
 exact ⟨n0, Nat.le_refl _, v, le_refl _, hb, hR⟩
theorem Nv {Hs G : List aa} {n0 s : Nat} {v x : AV} {R : AV → List aa → Prop} (hH : Hs.take n0 = G) (hb : x.a7 n0 = true) (hx : v = x) (hR : R x G) : bT n0 [.t s] [(s, v)] Hs R := by
 subst hx hH
 exact aQ _ (Nat.le_refl _) (by rw [ax, if_pos rfl]; exact hb) (by rw [ax, if_pos rfl]; exact hR)
end Go.aK
end
section
namespace Go.aK
open Go
def ve (C : List aa → Nat → List aa → Prop) (n0 : Nat) (v : AV) (H : List aa) (R : AV → List aa → Prop) : Prop :=
 ∃ m H', n0 ≤ m ∧ C H m H' ∧ ∃ r, v.le r ∧ r.a7 m = true ∧ R r H'
@[congr] theorem Nw {C : List aa → Nat → List aa → Prop} {n0 : Nat} {x x' : AV} {H H' : List aa} {R : AV → List aa → Prop} (h : fY x = x') (h2 : H = H') : ve C n0 x H R = ve C n0 x' H' R := by subst h; subst h2; rfl
theorem Nx {C : List aa → Nat → List aa → Prop} {n0 s : Nat} {sz : Option Nat} {env : Env} {H : List aa} {R : AV → List aa → Prop} : kG C n0 [.c s sz] env H R = aS sz (get env s) H fun v => ve C n0 v H R := _root_.id rfl
theorem Ny {C : List aa → Nat → List aa → Prop} {n0 s : Nat} {env : Env} {H : List aa} {R : AV → List aa → Prop} : kG C n0 [.t s] env H R = ve C n0 (get env s) H R := _root_.id rfl
theorem Hi {n0 : Nat} {H G : List aa} (h : G.take n0 = H) (hl : H.length = n0) : mc n0 G n0 H := by
 subst h
 refine ⟨by simp, fun id o ho => ?_⟩
 rw [List.getElem?_take] at ho
 split at ho
 ·exact .inr ⟨ho, fun h => by omega⟩
 ·cases ho
def only (n0 id : Nat) (G : List aa) : List aa := G.mapIdx fun j o => if j < n0 ∨ j = id then o else .dead
theorem nX (n0 : Nat) (env : Env) (H : List aa) : Gf n0 env H env H := ⟨fun t => le_refl _, .inl rfl⟩
theorem zO {n0 : Nat} {env aD : Env} {H H' : List aa} (he : env = aD) (hH : H = H') : Gf n0 env H aD H' := by
 subst he; subst hH; exact nX _ _ _
def rB := And.intro @Nx (And.intro @Ny JJ)
end Go.aK
end
