/- Part 10 of 18 of the proof. -/
import Derived.Test.YtljchnfgjdjobaaGreatRah
import Derived.ProofKit
import Derived.Deep.Slices
import Derived.Deep.Strs
set_option linter.unusedVariables false
set_option linter.unusedSimpArgs false
set_option linter.defProp false
set_option linter.unusedSectionVars false
section
namespace Go.aK
open Go
theorem QG : AV.any.ab = .any := _root_.id rfl
theorem n7 (b : Bool) : (AV.bool b).ab = .bool b := _root_.id rfl
theorem nr (k : IntKind) (n : Int) : (AV.int k n).ab = .int k n := _root_.id rfl
theorem zD (s : ByteArray) : (AV.str s).ab = .str s := _root_.id rfl
theorem Fq : AV.ah.ab = .ah := _root_.id rfl
theorem uY (o : Nat) (xs : List AV) : (AV.ap o xs).ab = .ap 0 xs := _root_.id rfl
theorem QH (a b c d : Nat) : (AV.bf a b c d).ab = .bf a b c d := _root_.id rfl
theorem QI (xs : List AV) : (AV.agg xs).ab = .agg xs := _root_.id rfl
theorem Jd (xs : List AV) : (AV.tuple xs).ab = .tuple xs := _root_.id rfl
theorem Je (a b : Nat) : (AV.ptr a b).ab = .ptr a b := _root_.id rfl
theorem Ft (x : AV) : (AV.ai x).ab = .ai x := _root_.id rfl
theorem MC : AV.qU.ab = .qU := _root_.id rfl
theorem Jf (a : Nat) : (AV.map a).ab = .map a := _root_.id rfl
theorem MD : AV.iJ.ab = .iJ := _root_.id rfl
theorem O6 (f : Fn) (a b : List AV) : (AV.fn f a b).ab = .fn f a b := _root_.id rfl
theorem ME : AV.fy.ab = .fy := _root_.id rfl
theorem MF (b : Bool) : (AV.bool b).cells = [.bool b] := _root_.id rfl
theorem QJ (k : IntKind) (n : Int) : (AV.int k n).cells = [.int k n] := _root_.id rfl
theorem QK (s : ByteArray) : (AV.str s).cells = [.str s] := _root_.id rfl
theorem MG : AV.ah.cells = [.ah] := _root_.id rfl
theorem QL (o : Nat) (xs : List AV) : (AV.ap o xs).cells = [.ap o xs] := _root_.id rfl
theorem QM (xs : List AV) : (AV.agg xs).cells = xs := _root_.id rfl
theorem VG (f : Fn) (a b : List AV) : (AV.fn f a b).cells = [.fn f a b] := _root_.id rfl
theorem MH : AV.fy.cells = [.fy] := _root_.id rfl
theorem QN (a b : Nat) : (AV.ptr a b).cells = [.ptr a b] := _root_.id rfl
theorem MJ (x : AV) : (AV.ai x).cells = [.ai x] := _root_.id rfl
theorem QO (a : Nat) : (AV.map a).cells = [.map a] := _root_.id rfl
theorem tM (b : Bool) : (AV.bool b).drop = .bool b := _root_.id rfl
theorem QP (k : IntKind) (n : Int) : (AV.int k n).drop = .int k n := _root_.id rfl
theorem QQ (s : ByteArray) : (AV.str s).drop = .str s := _root_.id rfl
theorem MK : AV.ah.drop = .ap 0 [] := _root_.id rfl
theorem QR (o : Nat) (xs : List AV) : (AV.ap o xs).drop = .ap 0 xs := _root_.id rfl
theorem QS (xs : List AV) : (AV.agg xs).drop = .agg xs := _root_.id rfl
theorem VH (f : Fn) (a b : List AV) : (AV.fn f a b).drop = .fn f a b := _root_.id rfl
theorem ML : AV.fy.drop = .fy := _root_.id rfl
theorem QT (a b : Nat) : (AV.ptr a b).drop = .ptr a b := _root_.id rfl
theorem MM (x : AV) : (AV.ai x).drop = .ai x := _root_.id rfl
theorem QU (a : Nat) : (AV.map a).drop = .map a := _root_.id rfl
theorem Fu (b : Bool) : (AV.bool b).val = true := _root_.id rfl
theorem QV (k : IntKind) (n : Int) : (AV.int k n).val = true := _root_.id rfl
theorem QW (s : ByteArray) : (AV.str s).val = true := _root_.id rfl
theorem MN : AV.ah.val = true := _root_.id rfl
theorem QX (o : Nat) (xs : List AV) : (AV.ap o xs).val = true := _root_.id rfl
theorem QY (xs : List AV) : (AV.agg xs).val = true := _root_.id rfl
theorem VI (f : Fn) (a b : List AV) : (AV.fn f a b).val = true := _root_.id rfl
theorem MO : AV.fy.val = true := _root_.id rfl
theorem QZ (a b : Nat) : (AV.ptr a b).val = true := _root_.id rfl
theorem MP (x : AV) : (AV.ai x).val = true := _root_.id rfl
theorem Q0 (a : Nat) : (AV.map a).val = true := _root_.id rfl
theorem zE (n : Nat) (b : Bool) : (AV.bool b).a7 n = true := _root_.id rfl
theorem iU (n : Nat) (k : IntKind) (m : Int) : (AV.int k m).a7 n = true := _root_.id rfl
theorem Jg (n : Nat) (s : ByteArray) : (AV.str s).a7 n = true := _root_.id rfl
theorem Fv (n : Nat) : AV.ah.a7 n = true := _root_.id rfl
theorem cZ (n o : Nat) (xs : List AV) : (AV.ap o xs).a7 n = aj n xs := by rw [AV.a7]
theorem uZ (n : Nat) (xs : List AV) : (AV.agg xs).a7 n = aj n xs := by rw [AV.a7]
theorem Jh (n : Nat) (xs : List AV) : (AV.tuple xs).a7 n = aj n xs := by rw [AV.a7]
theorem rE (n a b : Nat) : (AV.ptr a b).a7 n = decide (a < n) := by rw [AV.a7]
theorem Ji (n a : Nat) : (AV.map a).a7 n = decide (a < n) := by rw [AV.a7]
theorem jH (n a b c d : Nat) : (AV.bf a b c d).a7 n = decide (a < n) := by rw [AV.a7]
theorem zF (n : Nat) (x : AV) : (AV.ai x).a7 n = x.a7 n := by rw [AV.a7]
theorem VJ (n : Nat) (f : Fn) (a b : List AV) : (AV.fn f a b).a7 n = (aj n a && aj n b) := by rw [AV.a7]
theorem MQ (n : Nat) : AV.fy.a7 n = true := _root_.id rfl
theorem c8 (n : Nat) : aj n [] = true := _root_.id rfl
theorem bM (n : Nat) (x : AV) (xs : List AV) : aj n (x :: xs) = (x.a7 n && aj n xs) := by rw [aj]
section
variable (k : IntKind) (a b : Int) (φ : AV → Prop)
theorem Q3 : cW .add (.int k a) (.int k b) φ = φ (.int k (k.wrap (a + b))) := by simp [cW]
theorem Q4 : cW .sub (.int k a) (.int k b) φ = φ (.int k (k.wrap (a - b))) := by simp [cW]
theorem Q5 : cW .mul (.int k a) (.int k b) φ = φ (.int k (k.wrap (a * b))) := by simp [cW]
theorem Q6 : cW .rem (.int k a) (.int k b) φ = (b ≠ 0 ∧ φ (.int k (a.tmod b))) := by simp [cW]
theorem Q7 : cW .quo (.int k a) (.int k b) φ = (b ≠ 0 ∧ φ (.int k (k.wrap (a.tdiv b)))) := by simp [cW]
theorem Q8 : cW .eql (.int k a) (.int k b) φ = φ (.bool (decide (a = b))) := by simp [cW]
theorem Q9 : cW .neq (.int k a) (.int k b) φ = φ (.bool (decide (a ≠ b))) := by simp [cW]
theorem Ra : cW .lss (.int k a) (.int k b) φ = φ (.bool (decide (a < b))) := by simp [cW]
theorem Rb : cW .leq (.int k a) (.int k b) φ = φ (.bool (decide (a ≤ b))) := by simp [cW]
theorem Rc : cW .gtr (.int k a) (.int k b) φ = φ (.bool (decide (b < a))) := by simp [cW]
theorem Re : cW .geq (.int k a) (.int k b) φ = φ (.bool (decide (b ≤ a))) := by simp [cW]
theorem Rf (s t : ByteArray) : cW .eql (.str s) (.str t) φ = φ (.bool (decide (s = t))) := by simp [cW]
theorem Rg (s t : ByteArray) : cW .neq (.str s) (.str t) φ = φ (.bool (decide (s ≠ t))) := by simp [cW]
theorem Rh (s t : ByteArray) : cW .add (.str s) (.str t) φ = (s.size + t.size < 9223372036854775808 ∧ φ (.str (s ++ t))) := by simp [cW]
theorem Ri (q : Bool) : yH .not (.bool q) φ = φ (.bool (!q)) := _root_.id rfl
theorem Rj : yH .neg (.int k a) φ = φ (.int k (k.wrap (0 - a))) := _root_.id rfl
theorem Rk (p q : Bool) : cP true (.bool p) (.bool q) φ = φ (.bool (decide (p ≠ q))) := _root_.id rfl
theorem Rl (p q : Bool) : cP false (.bool p) (.bool q) φ = φ (.bool (decide (p = q))) := _root_.id rfl
theorem YY (q : Bool) (ψ : Bool → Prop) : eL (.bool q) ψ = ψ q := _root_.id rfl
theorem Rm (s : ByteArray) (H : List aa) : eY (.str s) H φ = φ (.int .i64 s.size) := _root_.id rfl
theorem MR (H : List aa) : eY .ah H φ = φ (.int .i64 0) := _root_.id rfl
theorem Rn (o : Nat) (xs : List AV) (H : List aa) : eY (.ap o xs) H φ = (xs.length < 9223372036854775808 → φ (.int .i64 xs.length)) := _root_.id rfl
theorem Ro (x y l c : Nat) (H : List aa) : eY (.bf x y l c) H φ = φ (.int .i64 l) := _root_.id rfl
theorem MS (H : List aa) : eY .iJ H φ = φ (.int .i64 0) := _root_.id rfl
theorem Rp (s : ByteArray) : aL 0 (.str s) = True := _root_.id rfl
theorem MT : aL 1 .ah = True := _root_.id rfl
theorem Rq (o : Nat) (xs : List AV) : aL 1 (.ap o xs) = True := _root_.id rfl
theorem Rr (x y l c : Nat) : aL 1 (.bf x y l c) = True := _root_.id rfl
theorem MU : aL 2 .iJ = True := _root_.id rfl
theorem Ru (x : Nat) : aL 2 (.map x) = True := _root_.id rfl
theorem MV (q : Bool) (H : List aa) : aS none (.ai (.bool q)) H φ = φ (.bool q) := by simp [aS, AV.one, n7]
theorem Rv (H : List aa) : aS none (.ai (.int k a)) H φ = φ (.int k a) := by simp [aS, AV.one, nr]
theorem Rw (s : ByteArray) (H : List aa) : aS none (.ai (.str s)) H φ = φ (.str s) := by simp [aS, AV.one, zD]
theorem Rx (o : Nat) (xs : List AV) (H : List aa) : aS none (.ai (.ap o xs)) H φ = φ (.ap 0 xs) := by simp [aS, AV.one, uY]
theorem MW (H : List aa) : aS none (.ai .ah) H φ = φ .ah := by simp [aS, AV.one, Fq]
theorem VK (f : Fn) (x y : List AV) (H : List aa) : aS none (.ai (.fn f x y)) H φ = φ (.fn f x y) := by simp [aS, AV.one, O6]
theorem Ry (x y : Nat) : bS (.ptr x y) φ = φ (.ptr x y) := _root_.id rfl
theorem MX (x : AV) : bS (.ai x) φ = φ (.ai x) := _root_.id rfl
theorem Jj (xs : List AV) (i : Nat) : bC (.tuple xs) i φ = (i < xs.length ∧ φ (xs.getD i .any).ab) := _root_.id rfl
theorem Rz (id o off : Nat) (sz : Option Nat) : ak off sz (.ptr id o) φ = φ (.ptr id (o + off)) := by simp [ak]
end
section
variable {P : Px} {n0 : Nat} {env : Env} {H : List aa} {Q : Exit → Env → List aa → Prop}
theorem Jk (pass : Option Nat) (j : Nat) : aG env pass j [] = [] := _root_.id rfl
theorem RA (pass : Option Nat) (j : Nat) (v : AV) (xs : List IX) : aG env pass j (.c v :: xs) = v.ab :: aG env pass (j + 1) xs := _root_.id rfl
theorem RB (j s : Nat) (xs : List IX) : aG env none j (.t s :: xs) = (get env s).ab :: aG env none (j + 1) xs := by simp [aG]
theorem RC (j s : Nat) (xs : List IX) : aG env (some 1999) j (.t s :: xs) = (if 1999 = j then get env s else (get env s).ab) :: aG env (some 1999) (j + 1) xs := by simp [aG]
theorem RD (p j s : Nat) (xs : List IX) : aG env (some p) j (.t s :: xs) = (if p = j then get env s else (get env s).ab) :: aG env (some p) (j + 1) xs := by simp [aG]
theorem GS (args : List IX) : bc args none = none := _root_.id rfl
theorem MY (x : Nat) (xs : List IX) : bc (.t x :: xs) (some 0) = some x := by simp [bc]
theorem MZ (x : Nat) (y : IX) (xs : List IX) : bc (y :: .t x :: xs) (some 1) = some x := by simp [bc]
theorem M4 (x : Nat) (y z : IX) (xs : List IX) : bc (y :: z :: .t x :: xs) (some 2) = some x := by simp [bc]
theorem GU : bc [] (some 1999) = none := _root_.id rfl
theorem GV (x : IX) : bc [x] (some 1999) = none := _root_.id rfl
theorem GW (x y : IX) : bc [x, y] (some 1999) = none := _root_.id rfl
theorem GX (x y z : IX) : bc [x, y, z] (some 1999) = none := _root_.id rfl
theorem GY (x y z u : IX) : bc [x, y, z, u] (some 1999) = none := _root_.id rfl
theorem By : cF env none = env := _root_.id rfl
theorem Bz (d : Nat) : cF env (some d) = (d, (get env d).ab) :: env := _root_.id rfl
theorem Jl (z : AV) : put none z env = env := _root_.id rfl
theorem Jm (d : Nat) (z : AV) : put (some d) z env = (d, z) :: env := _root_.id rfl
theorem ax (k : Nat) (v : AV) (t : Nat) : get ((k, v) :: env) t = if t = k then v else get env t := _root_.id rfl
theorem RE (t : Nat) : get [] t = .any := _root_.id rfl
theorem aV {s : Nat} {R : AV → List aa → Prop} (m : Nat) (h0 : n0 ≤ m) (hb : (get env s).a7 m = true) (h : R (get env s) (H.take m)) : bV n0 [.t s] env H R :=
 ⟨m, h0, _, le_refl _, hb, h⟩
end
def Pure (P : Program) (g : FuncId) (xs : List AV) (v : AV) : Prop := ∀ H, aq P g xs H fun r H' => r = v ∧ H' = H
theorem Pure.mk {P : Program} {g : FuncId} {xs : List AV} {v : AV} (hb : aj 0 xs = true) (h : aq P g xs [] fun r H' => r = v ∧ H' = []) : Pure P g xs v :=
 aq.frame (fun x hx => (a9 0 xs).1 hb x hx) h
def pf (n : Nat) (env : Env) : Bool := env.all fun p => p.2.a7 n
theorem DM {n : Nat} {env : Env} (h : pf n env = true) (t : Nat) : (get env t).a7 n = true := by
 rcases get_mem (env := env) (t := t) rfl with h' | h'
 ·rw [h']; rfl
 ·exact List.all_eq_true.1 h _ h'
theorem RF (n : Nat) : pf n [] = true := _root_.id rfl
theorem M5 (n k : Nat) (v : AV) (env : Env) : pf n ((k, v) :: env) = (v.a7 n && pf n env) := _root_.id rfl
theorem BA {n0 : Nat} {env aC : Env} {H H' : List aa} (he : env = aC) (h0 : n0 ≤ H'.length) (hb : pf H'.length aC = true) (e : List aa) (hH : H = H' ++ e) : sle n0 env H aC H' := by
 subst he; subst hH
 exact ⟨fun t => le_refl _, .inr ⟨H'.length, h0, by simp, DM hb⟩⟩
theorem aF {n0 : Nat} {env aC : Env} {H H' : List aa} (he : env = aC) (hH : H = H') : sle n0 env H aC H' := by
 subst he; subst hH; exact aA _ _ _
theorem au (i : Nat) (h : i + 1 < 9223372036854775808) : IntKind.i64.wrap ((i : Int) + 1) = ((i + 1 : Nat) : Int) := by
 show IntKind.wrap .i64 ((i : Int) + 1) = _
 unfold IntKind.wrap
 simp [IntKind.signed, IntKind.bits]
 omega
end Go.aK
end
section
namespace Go.aK
open Go
def gf {α : Type} (x : α) : α := x
theorem RG {α : Type} (x : α) : gf x = x := _root_.id rfl
section
variable {φ : AV → Prop}
theorem Jn {op : BinOp} {x y : AV} (h : cW op x y φ) : ∃ z, cW op x y (fun w => w = z) ∧ φ z := by
 unfold cW at *
 split at h <;> (try exact h.elim)
 ·obtain ⟨h0, h⟩ := h
  split at h <;> first | exact ⟨_, ⟨h0, rfl⟩, h⟩ | exact ⟨_, ⟨h0, h.1, rfl⟩, h.2⟩ | exact h.elim
 ·split at h <;> first | exact ⟨_, rfl, h⟩ | exact ⟨_, ⟨h.1, rfl⟩, h.2⟩ | exact h.elim
theorem DN {op : BinOp} {x y : AV} (h : dM op x y φ) : ∃ z, dM op x y (fun w => w = z) ∧ φ z := by
 unfold dM at *
 split at h <;> (try exact h.elim)
 obtain ⟨h0, h⟩ := h
 split at h <;> first | exact ⟨_, ⟨h0, rfl⟩, h⟩ | exact h.elim
theorem BB {neq : Bool} {x y : AV} (h : cP neq x y φ) : ∃ z, cP neq x y (fun w => w = z) ∧ φ z := by
 unfold cP at *
 split at h <;> first | exact ⟨_, rfl, h⟩ | exact h.elim
theorem M6 {op : UnOp} {x : AV} (h : yH op x φ) : ∃ z, yH op x (fun w => w = z) ∧ φ z := by
 unfold yH at *
 split at h <;> first | exact ⟨_, rfl, h⟩ | exact h.elim
theorem GZ {sz : Option Nat} {x : AV} {H : List aa} (h : aS sz x H φ) : ∃ z, aS sz x H (fun w => w = z) ∧ φ z := by
 unfold aS at *
 split at h <;> (try exact h.elim) <;> (split at h <;> (try exact h.elim)) <;> first | exact ⟨_, ⟨h.1, rfl⟩, h.2⟩ | (split at h <;> exact ⟨_, ⟨h.1, rfl⟩, h.2⟩)
theorem xJ {off : Nat} {sz : Option Nat} {xs : List AV} {g : AV → AV} (h : apart off sz xs fun z => φ (g z)) : ∃ z, (apart off sz xs fun w => g w = z) ∧ φ z := by
 unfold apart at *
 split at h <;> first | exact ⟨_, ⟨h.1, rfl⟩, h.2⟩ | exact ⟨_, ⟨h.1, h.2.1, rfl⟩, h.2.2⟩
theorem DO {off : Nat} {sz : Option Nat} {x : AV} (h : eM off sz x φ) : ∃ z, eM off sz x (fun w => w = z) ∧ φ z := by
 unfold eM at *
 split at h <;> (try exact h.elim)
 exact xJ h
theorem u0 {off : Nat} {sz : Option Nat} {x : AV} (h : ak off sz x φ) : ∃ z, ak off sz x (fun w => w = z) ∧ φ z := by
 unfold ak at *
 split at h <;> (try exact h.elim)
 ·exact ⟨_, rfl, h⟩
 ·exact xJ h
theorem ve {esz : Nat} {x i : AV} (h : ay esz x i φ) : ∃ z, ay esz x i (fun w => w = z) ∧ φ z := by
 unfold ay at *
 split at h <;> first | exact ⟨_, ⟨h.1, h.2.1, rfl⟩, h.2.2⟩ | exact h.elim
theorem wR {x i : AV} (h : bH x i φ) : ∃ z, bH x i (fun w => w = z) ∧ φ z := by
 unfold bH at *
 split at h <;> first | exact ⟨_, ⟨h.1, h.2.1, rfl⟩, h.2.2⟩ | exact h.elim
theorem wS {n : Nat} {x i : AV} (h : bR n x i φ) : ∃ z, bR n x i (fun w => w = z) ∧ φ z := by
 unfold bR at *
 split at h <;> first | exact ⟨_, ⟨h.1, h.2.1, h.2.2.1, rfl⟩, h.2.2.2⟩ | exact h.elim
theorem zG {x : AV} {i : Nat} (h : bC x i φ) : ∃ z, bC x i (fun w => w = z) ∧ φ z := by
 unfold bC at *
 split at h <;> first | exact ⟨_, ⟨h.1, rfl⟩, h.2⟩ | exact h.elim
theorem wT {x : AV} (h : bS x φ) : ∃ z, bS x (fun w => w = z) ∧ φ z := by
 unfold bS at *
 split at h <;> first | exact ⟨_, rfl, h⟩ | exact h.elim
theorem zH {k : IntKind} {x : AV} (h : cr k x φ) : ∃ z, cr k x (fun w => w = z) ∧ φ z := by
 unfold cr at *
 split at h <;> first | exact ⟨_, rfl, h⟩ | exact h.elim
theorem M7 {big : Bool} {x y : AV} (h : wz big x y φ) : ∃ z, wz big x y (fun w => w = z) ∧ φ z := by
 unfold wz at *
 split at h <;> first | exact ⟨_, rfl, h⟩ | exact h.elim
theorem n8 {x : Option AV} {d : Nat} {c1 c2 : Nat → Prop} {g : Nat → AV} (h : dO x d fun k => c1 k ∧ c2 k ∧ φ (g k)) : ∃ z, (dO x d fun k => c1 k ∧ c2 k ∧ g k = z) ∧ φ z := by
 unfold dO at *
 split at h
 ·exact ⟨_, ⟨h.1, h.2.1, rfl⟩, h.2.2⟩
 ·exact ⟨_, ⟨h.1, h.2.1, h.2.2.1, rfl⟩, h.2.2.2⟩
 ·exact h.elim
theorem iB {x : Option AV} {d : Nat} {ψ : (AV → Prop) → Nat → Prop} (h : dO x d (ψ φ)) (hd : ∀ k, ψ φ k → ∃ z, ψ (fun w => w = z) k ∧ φ z) : ∃ z, dO x d (ψ fun w => w = z) ∧ φ z := by
 unfold dO at *
 split at h
 ·exact hd _ h
 ·obtain ⟨z, h2, h3⟩ := hd _ h.2; exact ⟨z, ⟨h.1, h2⟩, h3⟩
 ·exact h.elim
theorem DP {esz : Nat} {x : AV} {lo hi mx : Option AV} (h : ft esz x lo hi mx φ) : ∃ z, ft esz x lo hi mx (fun w => w = z) ∧ φ z := by
 unfold ft at *
 split at h <;> (try exact h.elim)
 rename_i xs fx
 cases mx with
 | none => exact iB (ψ := fun φ h => dO lo 0 fun l => l ≤ h ∧ h ≤ xs.length ∧ φ (.ap 0 ((xs.take h).drop l))) h fun k h => n8 (c1 := fun l => l ≤ k) (c2 := fun _ => k ≤ xs.length) (g := fun l => .ap 0 ((xs.take k).drop l)) h
 | some m =>
   refine iB (ψ := fun φ h => dO lo 0 fun l => l ≤ h ∧ h ≤ xs.length ∧ hi.isSome = true ∧ dO (some m) 0 fun m => m = h ∧ (∀ y ∈ xs, y.cells.length = esz) ∧ φ (.ap esz ((xs.take h).drop l))) h fun k h => ?_
   refine iB (ψ := fun φ l => l ≤ k ∧ k ≤ xs.length ∧ hi.isSome = true ∧ dO (some m) 0 fun m => m = k ∧ (∀ y ∈ xs, y.cells.length = esz) ∧ φ (.ap esz ((xs.take k).drop l))) h fun l h => ?_
   obtain ⟨h1, h2, h3, h4⟩ := h
   obtain ⟨z, k1, k2⟩ := n8 (g := fun _ => .ap esz ((xs.take k).drop l)) h4
   exact ⟨z, ⟨h1, h2, h3, k1⟩, k2⟩
theorem BC {esz : Nat} {x : AV} {lo hi mx : Option AV} (h : bA esz x lo hi mx φ) : ∃ z, bA esz x lo hi mx (fun w => w = z) ∧ φ z := by
 unfold bA gr nO at *
 split at h
 ·rename_i id off len cap
  split at h
  rotate_left
  ·rename_i m
   obtain ⟨h1, h2⟩ := h
   have := iB (ψ := fun φ m => dO hi len fun h => dO lo 0 fun l => l ≤ h ∧ h ≤ m ∧ m ≤ cap ∧ φ (.bf id (if m = l then off else off + l * esz) (h - l) (m - l))) h2 fun m h =>
    iB (ψ := fun φ h => dO lo 0 fun l => l ≤ h ∧ h ≤ m ∧ m ≤ cap ∧ φ (.bf id (if m = l then off else off + l * esz) (h - l) (m - l))) h fun k h =>
     iB (ψ := fun φ l => l ≤ k ∧ k ≤ m ∧ m ≤ cap ∧ φ (.bf id (if m = l then off else off + l * esz) (k - l) (m - l))) h fun l h => ⟨_, ⟨h.1, h.2.1, h.2.2.1, rfl⟩, h.2.2.2⟩
   obtain ⟨z, k1, k2⟩ := this
   exact ⟨z, ⟨h1, k1⟩, k2⟩
  have h2 := h
  have := iB (ψ := fun φ h => dO lo 0 fun l => l ≤ h ∧ h ≤ cap ∧ φ (.bf id (if cap = l then off else off + l * esz) (h - l) (cap - l))) h2 fun k h => n8 (c1 := fun l => l ≤ k) (c2 := fun _ => k ≤ cap) (g := fun l => .bf id (if cap = l then off else off + l * esz) (k - l) (cap - l)) h
  obtain ⟨z, k1, k2⟩ := this
  exact ⟨z, k1, k2⟩
 ·obtain ⟨z, k1, k2⟩ := DP h.2
  exact ⟨z, ⟨h.1, k1⟩, k2⟩
theorem wU {x : AV} {lo hi : Option AV} (h : b7 x lo hi φ) : ∃ z, b7 x lo hi (fun w => w = z) ∧ φ z := by
 unfold b7 at *
 split at h <;> (try exact h.elim)
 rename_i s
 exact iB (ψ := fun φ h => dO lo 0 fun l => l ≤ h ∧ h ≤ s.size ∧ φ (.str (s.extract l h))) h fun k h => n8 (c1 := fun l => l ≤ k) (c2 := fun _ => k ≤ s.size) (g := fun l => .str (s.extract l k)) h
theorem BD {kd : Nat} {z m k : AV} {ok : Bool} {H : List aa} (h : ch kd z m k ok H φ) : ∃ y, ch kd z m k ok H (fun w => w = y) ∧ φ y := by
 unfold ch at *
 split at h <;> (try exact h.elim) <;> first | exact ⟨_, rfl, h⟩ | exact ⟨_, ⟨h.1, rfl⟩, h.2⟩ | (split at h <;> (try exact h.elim) <;> first | exact ⟨_, rfl, h⟩ | exact ⟨_, ⟨h.1, rfl⟩, h.2⟩ | (split at h <;> (try exact h.elim) <;> first | exact ⟨_, rfl, h⟩ | exact ⟨_, ⟨h.1, rfl⟩, h.2⟩))
theorem sQ {esz : Nat} {own : Nat} : ∀ {ps : List (Nat × AV)} {zs : List AV}, bh zs esz ps (fun v => φ (.ap own v)) → ∃ z, bh zs esz ps (fun v => .ap own v = z) ∧ φ z
 | [], zs, h => ⟨_, rfl, h⟩
 | (i, x) :: r, zs, h => by
   obtain ⟨z, k1, k2⟩ := sQ h.2.2.2
   exact ⟨z, ⟨h.1, h.2.1, h.2.2.1, k1⟩, k2⟩
theorem xK : ∀ {ps : List (Nat × Nat × AV)} {zs : List AV}, gO zs ps (fun v => φ (.agg v)) → ∃ z, gO zs ps (fun v => .agg v = z) ∧ φ z
 | [], zs, h => ⟨_, rfl, h⟩
 | (off, sz, x) :: r, zs, h => by
   obtain ⟨z, k1, k2⟩ := xK h.2.2.2
   exact ⟨z, ⟨h.1, h.2.1, h.2.2.1, k1⟩, k2⟩
end
def fE (v : AV) (A B : Prop) : Prop := eL v fun q => (q = true → A) ∧ (q = false → B)
@[congr] theorem O7 {v v' : AV} {A B : Prop} (h : gf v = v') : fE v A B = fE v' A B := by subst h; rfl
theorem M8 (A B : Prop) : fE (.bool true) A B = A := by simp [fE, eL]
theorem M9 (A B : Prop) : fE (.bool false) A B = B := by simp [fE, eL]
theorem Na (b : Bool) (A B : Prop) : fE (.bool (!b)) A B = fE (.bool b) B A := by cases b <;> simp [fE, eL]
theorem Nb (p : Prop) [Decidable p] (A B : Prop) : fE (.bool (decide p)) A B = ((p → A) ∧ (¬ p → B)) := by simp [fE, eL]
theorem tN {b : Bool} {A B : Prop} (h1 : b = true → A) (h2 : b = false → B) : fE (.bool b) A B := ⟨h1, h2⟩
def dG (v : AV) (g : Nat) (want : Bool) (env : Env) (yes no : Env → Prop) : Prop :=
 match v with
 | .bool b => (b = want → yes ((g, .bool want) :: env)) ∧ (b = (!want) → no ((g, .bool (!want)) :: env))
 | .tuple [] => no env
 | _ => False
@[congr] theorem Nc {v v' : AV} {g : Nat} {want : Bool} {env : Env} {yes no : Env → Prop} (h : gf v = v') : dG v g want env yes no = dG v' g want env yes no := by subst h; rfl
section
variable (g : Nat) (env : Env) (yes no : Env → Prop)
theorem VL : dG (.bool true) g true env yes no = yes ((g, .bool true) :: env) := by simp [dG]
theorem VM : dG (.bool true) g false env yes no = no ((g, .bool true) :: env) := by simp [dG]
theorem VN : dG (.bool false) g true env yes no = no ((g, .bool false) :: env) := by simp [dG]
theorem VO : dG (.bool false) g false env yes no = yes ((g, .bool false) :: env) := by simp [dG]
theorem YZ (want : Bool) : dG (.tuple []) g want env yes no = no env := _root_.id rfl
theorem VP (p : Prop) [Decidable p] : dG (.bool (decide p)) g true env yes no = ((p → yes ((g, .bool true) :: env)) ∧ (¬ p → no ((g, .bool false) :: env))) := by simp [dG]
theorem VQ (p : Prop) [Decidable p] : dG (.bool (decide p)) g false env yes no = ((¬ p → yes ((g, .bool false) :: env)) ∧ (p → no ((g, .bool true) :: env))) := by simp [dG]
end
def BE (P : Px) (g : FuncId) (xs : List AV) (H : List aa) (K : AV → List aa → Prop) : Prop := ∃ bP, xq xs bP ∧ dZ P g bP H K
@[congr] theorem O8 {P : Px} {g : FuncId} {xs xs' : List AV} {H H' : List aa} {K : AV → List aa → Prop} (h : gf xs = xs') (h2 : H = H') : BE P g xs H K = BE P g xs' H' K := by subst h; subst h2; rfl
theorem af {P : Program} {lo : Option Nat} {g : FuncId} {xs : List AV} {H : List aa} {R K : AV → List aa → Prop} (hc : aq P g xs H R) (hk : ∀ r H', R r H' → K r H') : BE ⟨P, lo⟩ g xs H K := ⟨xs, b9 _, dZ.of (hc.mono hk)⟩
theorem ae {P : Program} {lo : Option Nat} {g : FuncId} {xs : List AV} {v : AV} {H : List aa} {K : AV → List aa → Prop} (hc : Pure P g xs v) (hk : K v H) : BE ⟨P, lo⟩ g xs H K :=
 ⟨xs, b9 _, dZ.of ((hc H).mono fun r H' ⟨h1, h2⟩ => by rw [h1, h2]; exact hk)⟩
theorem Nf {P : Px} {env : Env} {H : List aa} (g : FuncId) (first cap : List AV) (args : List IX) (pass : Option Nat) (K : AV → Env → List aa → Prop) : oF P (.fn (.func g) first cap) args pass env H K =
 BE P g (first.map AV.ab ++ aG env pass 0 args ++ cap.map AV.ab) H (fun r H' => K r (cF env (bc args pass)) H') := _root_.id rfl
@[congr] theorem O9 {P : Px} {f f' : AV} {args : List IX} {pass : Option Nat} {env : Env} {H : List aa} {K : AV → Env → List aa → Prop} (h : gf f = f') : oF P f args pass env H K = oF P f' args pass env H K := by subst h; rfl
def BF (P : Px) (st : Bool) (g : FuncId) (xs : List AV) (H : List aa) (K : AV → Prop) : Prop :=
 ∃ x, (match st with
  | true => ∃ bP, xq xs bP ∧ aq P.prog g bP H (fun r H' => r = x ∧ H' = H)
  | false => ∀ H, ∃ bP, xq xs bP ∧ aq P.prog g bP H (fun r H' => r = x ∧ H' = H)) ∧ K x
@[congr] theorem Pa {P : Px} {st : Bool} {g : FuncId} {xs xs' : List AV} {H : List aa} {K : AV → Prop} (h : gf xs = xs') : BF P st g xs H K = BF P st g xs' H K := by subst h; rfl
theorem aH {P : Program} {lo : Option Nat} {st : Bool} {g : FuncId} {xs : List AV} {v : AV} {H : List aa} {K : AV → Prop} (hc : Pure P g xs v) (hk : K v) : BF ⟨P, lo⟩ st g xs H K :=
 ⟨v, (by cases st <;> first | exact ⟨xs, b9 _, hc H⟩ | exact fun H => ⟨xs, b9 _, hc H⟩), hk⟩
def pg (P : Px) (st : Bool) (f : AV) (xs : List AV) (H : List aa) (K : AV → Prop) : Prop :=
 match f with
 | .fn (.func g) first cap => BF P st g (first.map AV.ab ++ xs ++ cap.map AV.ab) H K
 | _ => False
@[congr] theorem Ng {P : Px} {st : Bool} {f f' : AV} {xs xs' : List AV} {H : List aa} {K : AV → Prop} (h : gf f = f') (h2 : xs = xs') : pg P st f xs H K = pg P st f' xs' H K := by subst h; subst h2; rfl
theorem G7 {P : Px} {st : Bool} (g : FuncId) (first cap xs : List AV) (H : List aa) (K : AV → Prop) : pg P st (.fn (.func g) first cap) xs H K = BF P st g (first.map AV.ab ++ xs ++ cap.map AV.ab) H K := _root_.id rfl
def gR (x : AV) (H : List aa) (φ : AV → Prop) : Prop := match x with | .ap _ xs => φ (.int .i64 xs.length) | x => eY x H φ
@[congr] theorem Pb {x x' : AV} {H : List aa} {φ : AV → Prop} (h : gf x = x') : gR x H φ = gR x' H φ := by subst h; rfl
theorem G8 {x : AV} {H : List aa} {φ : AV → Prop} (h : gR x H φ) : ∃ z, eY x H (fun w => w = z) ∧ φ z := by
 cases x with
 | ap o xs => exact ⟨_, fun _ => rfl, h⟩
 | map id =>
   simp only [gR, eY] at h ⊢
   split at h
   ·exact ⟨_, rfl, h⟩
   ·exact h.elim
 | _ => first | exact ⟨_, rfl, h⟩ | exact False.elim h
def n9 (kd : Nat) (neq : Bool) (x : AV) (φ : AV → Prop) : Prop := match isNil kd x with | some b => φ (.bool (if neq then !b else b)) | none => False
@[congr] theorem Lp {kd : Nat} {neq : Bool} {x x' : AV} {φ : AV → Prop} (h : gf x = x') : n9 kd neq x φ = n9 kd neq x' φ := by subst h; rfl
def vf (o : bX) (ρ : IX → AV) (H : List aa) (K : AV → Prop) : Prop :=
 match o with
 | .set i false => K (ρ i).ab
 | .pick c a b => fE (ρ c) (K (ρ a).ab) (K (ρ b).ab)
 | .bin op i j => cW op (ρ i) (ρ j) K
 | .shift op i j => dM op (ρ i) (ρ j) K
 | .gU neq i j => cP neq (ρ i) (ρ j) K
 | .iZ kd neq i => n9 kd neq (ρ i) K
 | .un op i => yH op (ρ i) K
 | .lq i => (ρ i).val = true ∧ K (.ai (ρ i))
 | .build z ps => cE z.cells (ps.map fun q => (q.1, q.2.1, ρ q.2.2)) K
 | .buildSlice own esz z len ps => bh (List.replicate len (aQ z)) esz (ps.map fun q => (q.1, ρ q.2)) fun xs => K (.ap own xs)
 | .load sz i => aS sz (ρ i) H K
 | .nilCheck i => bS (ρ i) K
 | .fieldAddr off sz i => ak off sz (ρ i) K
 | .field off sz i => eM off sz (ρ i) K
 | .indexAddr esz i j => (∀ own xs, ρ i = .ap own xs → ∀ z ∈ xs, z.cells.length = esz) ∧ ay esz (ρ i) (ρ j) K
 | .da i j => bH (ρ i) (ρ j) K
 | .dK n i j => bR n (ρ i) (ρ j) K
 | .slice esz i lo hi mx => bA esz (ρ i) (lo.map ρ) (hi.map ρ) (mx.map ρ) K
 | .dL i lo hi => b7 (ρ i) (lo.map ρ) (hi.map ρ) K
 | .len kd i => aL kd (ρ i) ∧ gR (ρ i) H K
 | .lookup kd z m k ok => ch kd z (ρ m) (ρ k) ok H K
 | .fn f first cap => K (.fn f (first.map fun x => (ρ x).ab) (cap.map fun x => (ρ x).ab))
 | .extract i k => bC (ρ i) k K
 | .eG k i => cr k (ρ i) K
 | .mx big i j => wz big (ρ i) (ρ j) K
 | _ => False
theorem BG {P : Px} {o : bX} {ρ : IX → AV} {H : List aa} {K : AV → Prop} (h : vf o ρ H K) : ∃ x, cU P o ρ H x ∧ K x := by
 unfold vf at h
 split at h
 ·exact ⟨_, rfl, h⟩
 ·unfold fE eL at h
  simp only [cU, eL]
  split at h
  ·rename_i b hb
   cases b with
   | true => exact ⟨_, ⟨fun _ => rfl, fun e => by cases e⟩, h.1 rfl⟩
   | false => exact ⟨_, ⟨fun e => (by cases e), fun _ => rfl⟩, h.2 rfl⟩
  ·exact h.elim
 ·exact Jn h
 ·exact DN h
 ·exact BB h
 ·unfold n9 at h
  split at h
  ·rename_i b hb
   refine ⟨_, ?_, h⟩
   simp only [cU, de, hb]
  ·exact h.elim
 ·exact M6 h
 ·exact ⟨_, ⟨h.1, rfl⟩, h.2⟩
 ·exact xK h
 ·exact sQ h
 ·exact GZ h
 ·exact wT h
 ·exact u0 h
 ·exact DO h
 ·obtain ⟨z, k1, k2⟩ := ve h.2
  exact ⟨z, ⟨h.1, k1⟩, k2⟩
 ·exact wR h
 ·exact wS h
 ·exact BC h
 ·exact wU h
 ·obtain ⟨z, k1, k2⟩ := G8 h.2
  exact ⟨z, ⟨h.1, k1⟩, k2⟩
 ·exact BD h
 ·exact ⟨_, rfl, h⟩
 ·exact zG h
 ·exact zH h
 ·exact M7 h
 ·exact h.elim
theorem G9 {P : Px} {o : bX} {ρ : IX → AV} {K : AV → Prop} (h : vf o ρ [] K) : ∃ x, (∀ H, cU P o ρ H x) ∧ K x := by
 obtain ⟨x, h1, h2⟩ := BG (P := P) h
 have hs : o.stays = true := by
  cases o <;> first | rfl | exact h.elim
 exact ⟨x, fun H => by have := xy (e := H) hs h1; simpa using this, h2⟩
def lh (P : Px) (st : Bool) (o : bX) (ρ : IX → AV) (H : List aa) (K : AV → Prop) : Prop :=
 match o with
 | .call f args none => pg P st (ρ f) (args.map fun x => (ρ x).ab) H K
 | o => vf o ρ (match st with | true => H | false => []) K
theorem Jo {P : Px} {st : Bool} {o : bX} {ρ : IX → AV} {H : List aa} {K : AV → Prop} (h : lh P st o ρ H K) : ∃ x, dv P st o ρ H x ∧ K x := by
 unfold lh at h
 split at h
 ·rename_i f args
  unfold pg at h
  split at h
  ·rename_i g first cap e
   obtain ⟨x, h1, h2⟩ := h
   cases st with
   | true => exact ⟨x, by simp only [dv, cU, e]; exact h1, h2⟩
   | false => exact ⟨x, by simp only [dv, cU, e]; exact h1, h2⟩
  ·exact h.elim
 ·cases st with
  | true => exact BG h
  | false => exact G9 h
def Fx (P : Px) (st : Bool) (o : bt) (env : Env) (H : List aa) (K : Env → Prop) : Prop :=
 match o.g with
 | none => lh P st o.op (al env) H fun x => K (put o.dst x env)
 | some (g, want) => dG (get env g) g want env (fun _ => lh P st o.op (al env) H fun x => K (put o.dst x env)) (fun _ => K (put o.dst (.tuple []) env))
theorem BH {P : Px} {st : Bool} {o : bt} {env : Env} {H : List aa} {K1 K2 : Env → Prop} (h : Fx P st o env H K1) (hK : ∀ e, K1 e → K2 e) : sD P st o env H K2 := by
 unfold Fx at h
 unfold sD
 split at h
 ·rename_i e
  rw [e]
  obtain ⟨x, h1, h2⟩ := Jo h
  exact ⟨x, h1, hK _ h2⟩
 ·rename_i g want e
  rw [e]
  unfold dG at h
  unfold gX
  dsimp only
  split at h
  ·rename_i b hb
   rw [hb]
   refine ⟨fun eb => ?_, fun eb => hK _ (h.2 eb)⟩
   obtain ⟨x, h1, h2⟩ := Jo (h.1 eb)
   exact ⟨x, h1, hK _ h2⟩
  ·rename_i hb
   rw [hb]
   exact hK _ h
  ·exact h.elim
theorem BI {P : Px} {o : bX} {dst : Option Nat} {env : Env} {H : List aa} {K1 K2 : Env → List aa → Prop} (h : bp P o dst env H K1) (hK : ∀ e H', K1 e H' → K2 e H') : bp P o dst env H K2 :=
 nT (fun _ _ => rfl) h fun mods H' _ _ _ hk => hK _ _ hk
theorem rF {P : Px} {o : bt} {env : Env} {H : List aa} {K1 K2 : Env → List aa → Prop} (h : rh P o env H K1) (hK : ∀ e H', K1 e H' → K2 e H') : rh P o env H K2 := by
 unfold rh at *
 split at h
 ·exact BI h hK
 ·rename_i g want e
  unfold gX at *
  split at h
  ·exact ⟨fun eb => BI (h.1 eb) hK, fun eb => hK _ _ (h.2 eb)⟩
  ·exact hK _ _ h
  ·exact h.elim
theorem rG {P : Px} : ∀ {ops : List bt} {env : Env} {H : List aa} {K1 K2 : Env → List aa → Prop}, je P ops env H K1 → (∀ e H', K1 e H' → K2 e H') → je P ops env H K2
 | [], _, _, _, _, h, hK => hK _ _ h
 | o :: r, _, _, _, _, h, hK => rF h fun _ _ h => rG h hK
def iV (P : Px) : DT → Env → List aa → (Env → List aa → Prop) → Prop
 | .done, env, H, K => K env H
 | .take st o r, env, H, K => Fx P st o env H fun env => iV P r env H K
 | .br o t rest, env, H, K => rh P o env H (fun env H => iV P t env H K) ∧ iV P rest env H K
 | .nil, _, _, _ => True
theorem qp {P : Px} : ∀ {t : DT} {env : Env} {H : List aa} {K1 K2 : Env → List aa → Prop}, iV P t env H K1 → (∀ e H', K1 e H' → K2 e H') → tD P t env H K2
 | .done, _, _, _, _, h, hK => hK _ _ h
 | .take st o r, _, _, _, _, h, hK => BH h fun _ h => qp h hK
 | .br o t rest, _, _, _, _, h, hK => ⟨rF h.1 fun _ _ h => qp h hK, qp h.2 hK⟩
 | .nil, _, _, _, _, h, hK => trivial
def vg (P : Px) (f : AV) (lc : iz) (env : Env) (H : List aa) (K : Option Code → List aa → Prop) : Prop :=
 match f with
 | .fn (.func g) first cap => (∀ (as : Array Value) (w : World), (callFunc g as).run P.prog w = .ok (.enter g as) w) ∧
    ∃ bP, xq (first.map AV.ab ++ [.mM H.length] ++ cap.map AV.ab) bP ∧ dZ P g bP (H ++ [.loop .ready lc (kw lc.n env)]) fun _ H' => behind H.length H' K
 | _ => False
theorem xL {j : Option Code} {Q1 Q2 : Exit → Env → List aa → Prop} {env : Env} {H : List aa} (h : oY j Q1 env H) (hQ : ∀ x e H', Q1 x e H' → Q2 x e H') : oY j Q2 env H := by
 unfold oY at *
 split at h <;> first | exact hQ _ _ _ h | exact h.elim
theorem sR {id : Nat} {H : List aa} {K1 K2 : Option Code → List aa → Prop} (h : behind id H K1) (hK : ∀ j H', K1 j H' → K2 j H') : behind id H K2 := by
 unfold behind at *
 split at h <;> first | exact hK _ _ h | exact h.elim
def lj (P : Px) (n0 : Nat) : IR → Env → List aa → (Exit → Env → List aa → Prop) → Prop
 | .skip, env, H, Q => Q .normal env H
 | .region ops live, env, H, Q => je P ops env H fun aC H' => Q .normal (ey live aC) H'
 | .draw t live, env, H, Q => iV P t env H fun aC H' => Q .normal (ey live aC) H'
 | .seq a b, env, H, Q => lj P n0 a env H fun e aC H' => match e with
   | .normal => lj P n0 b aC H' Q
   | e => Q e aC H'
 | .cond x a b, env, H, Q => fE (al env x) (lj P n0 a env H Q) (lj P n0 b env H Q)
 | .block id a, env, H, Q => lj P n0 a env H fun e aC H' => match e with
   | .exit id' => if id' = id then Q .normal aC H' else Q (.exit id') aC H'
   | e => Q e aC H'
 | .loop a, env, H, Q => ∃ (ι : Type) (I : ι → Prop) (se : ι → Env) (sh : ι → List aa) (μ : ι → Nat), (∃ i, I i ∧ Gv P.lo n0 env H (se i) (sh i)) ∧
    ∀ i, I i → lj P n0 a (se i) (sh i) fun e aC H' => match e with
     | .normal => ∃ j, I j ∧ μ j < μ i ∧ Gv P.lo n0 aC H' (se j) (sh j)
     | e => Q e aC H'
 | .exit id, env, H, Q => Q (.exit id) env H
 | .ret, env, H, Q => Q .ret env H
 | .never, env, H, Q => False
 | .iQ f lc, env, H, Q => vg P (al env f) lc env H fun j H'' => oY j Q env H''
theorem tO {P : Px} {n0 : Nat} : ∀ {ir : IR} {env : Env} {H : List aa} {Q1 Q2 : Exit → Env → List aa → Prop}, lj P n0 ir env H Q1 → (∀ x e H', Q1 x e H' → Q2 x e H') → ms P n0 ir env H Q2 := by
 intro ir
 induction ir with
 | skip => exact fun h hQ => hQ _ _ _ h
 | region ops live => exact fun h hQ => rG h fun _ _ h => hQ _ _ _ h
 | draw t live => exact fun h hQ => qp h fun _ _ h => hQ _ _ _ h
 | seq a b DQ RH =>
   exact fun h hQ => DQ h fun x e H' h => by
    cases x with
    | normal => exact RH h hQ
    | _ => exact hQ _ _ _ h
 | cond x a b DQ RH =>
   intro env H Q1 Q2 h hQ
   unfold lj fE eL at h
   unfold ms eL
   split at h
   ·exact ⟨fun e => DQ (h.1 e) hQ, fun e => RH (h.2 e) hQ⟩
   ·exact h.elim
 | block id a DQ =>
   exact fun h hQ => DQ h fun x e H' h => by
    cases x with
    | exit id' =>
      dsimp only at h ⊢
      split
      ·rename_i bm; rw [if_pos bm] at h; exact hQ _ _ _ h
      ·rename_i bm; rw [if_neg bm] at h; exact hQ _ _ _ h
    | _ => exact hQ _ _ _ h
 | loop a DQ =>
   intro env H Q1 Q2 h hQ
   obtain ⟨ι, I, se, sh, μ, h0, hs⟩ := h
   exact ⟨ι, I, se, sh, μ, h0, fun i hi => DQ (hs i hi) fun x e H' h => by
    cases x with
    | normal => exact h
    | _ => exact hQ _ _ _ h⟩
 | exit id => exact fun h hQ => hQ _ _ _ h
 | ret => exact fun h hQ => hQ _ _ _ h
 | never => exact fun h _ => h.elim
 | iQ f lc =>
   intro env H Q1 Q2 h hQ
   unfold lj vg at h
   unfold ms
   split at h
   ·rename_i g first cap e
    obtain ⟨h1, bP, h2, h3⟩ := h
    rw [e]
    exact ⟨h1, bP, h2, h3.mono fun _ H' hb => sR hb fun j H'' hg => xL hg hQ⟩
   ·exact h.elim
theorem iA.calls {P : Program} {f : FuncId} {fi : qn} (h : iA P f fi) {args : List AV} {H : List aa} {R : AV → List aa → Prop} (hn : Nat.ble args.length fi.n = true)
 (hw : lj P H.length fi.ir (bW 0 args) H fun e env H' => (e = .normal ∨ e = .ret) ∧ bV H.length fi.rs env H' R) : aq P f args H R :=
 h.zw (Nat.le_of_ble_eq_true hn) (tO hw fun _ _ _ h => h)
theorem iA.DR {P : Program} {f : FuncId} {fi : qn} (h : iA P f fi) {args : List AV} {H : List aa} {R : AV → List aa → Prop} (hn : Nat.ble args.length fi.n = true)
 (hw : lj ⟨P, some H.length⟩ H.length fi.ir (bW 0 args) H fun e env H' => (e = .normal ∨ e = .ret) ∧ kQ (mv H.length) H.length fi.rs env H' R) : aq P f args H R :=
 h.Md (Nat.le_of_ble_eq_true hn) (tO hw fun _ _ _ h => h)
section
variable {P : Px} {n0 : Nat} {env : Env} {H : List aa} {Q : Exit → Env → List aa → Prop}
theorem Jp : lj P n0 .skip env H Q = Q .normal env H := _root_.id rfl
theorem DS (ops : List bt) (live : Option (List Nat)) : lj P n0 (.region ops live) env H Q = je P ops env H fun aC H' => Q .normal (ey live aC) H' := _root_.id rfl
theorem Jq (t : DT) (live : Option (List Nat)) : lj P n0 (.draw t live) env H Q = iV P t env H fun aC H' => Q .normal (ey live aC) H' := _root_.id rfl
theorem Nh (a b : IR) : lj P n0 (.seq a b) env H Q = lj P n0 a env H fun e aC H' => match e with
 | .normal => lj P n0 b aC H' Q
 | e => Q e aC H' := _root_.id rfl
theorem BJ (x : IX) (a b : IR) : lj P n0 (.cond x a b) env H Q = fE (al env x) (lj P n0 a env H Q) (lj P n0 b env H Q) := _root_.id rfl
theorem Ha (id : Nat) (a : IR) : lj P n0 (.block id a) env H Q = lj P n0 a env H fun e aC H' => match e with
 | .exit id' => if id' = id then Q .normal aC H' else Q (.exit id') aC H'
 | e => Q e aC H' := _root_.id rfl
theorem xM (f : IX) (lc : iz) : lj P n0 (.iQ f lc) env H Q = vg P (al env f) lc env H fun j H'' => oY j Q env H'' := _root_.id rfl
theorem Jr (id : Nat) : lj P n0 (.exit id) env H Q = Q (.exit id) env H := _root_.id rfl
theorem Ni : lj P n0 .ret env H Q = Q .ret env H := _root_.id rfl
@[congr] theorem TA {ir : IR} {aC : Env} {H' : List aa} (h : gf env = aC) (h2 : H = H') : lj P n0 ir env H Q = lj P n0 ir aC H' Q := by subst h; subst h2; rfl
@[congr] theorem RI {ops : List bt} {aC : Env} {H' : List aa} {K : Env → List aa → Prop} (h : gf env = aC) (h2 : H = H') : je P ops env H K = je P ops aC H' K := by subst h; subst h2; rfl
@[congr] theorem RJ {t : DT} {aC : Env} {H' : List aa} {K : Env → List aa → Prop} (h : gf env = aC) (h2 : H = H') : iV P t env H K = iV P t aC H' K := by subst h; subst h2; rfl
theorem Js (K : Env → List aa → Prop) : je P [] env H K = K env H := _root_.id rfl
theorem RK (d : Option Nat) (op : bX) (r : List bt) (K : Env → List aa → Prop) : je P (⟨none, d, op⟩ :: r) env H K = bp P op d env H fun env H => je P r env H K := _root_.id rfl
theorem RL (g : Nat) (w : Bool) (d : Option Nat) (op : bX) (r : List bt) (K : Env → List aa → Prop) : je P (⟨some (g, w), d, op⟩ :: r) env H K =
 dG (get env g) g w env (fun env => bp P op d env H fun env H => je P r env H K) (fun env => je P r (put d (.tuple []) env) H K) := _root_.id rfl
theorem VR (d : Option Nat) (op : bX) (K : Env → List aa → Prop) : rh P ⟨none, d, op⟩ env H K = bp P op d env H K := _root_.id rfl
theorem VS (g : Nat) (w : Bool) (d : Option Nat) (op : bX) (K : Env → List aa → Prop) : rh P ⟨some (g, w), d, op⟩ env H K =
 dG (get env g) g w env (fun env => bp P op d env H K) (fun env => K (put d (.tuple []) env) H) := _root_.id rfl
@[congr] theorem TB {o : bt} {K : Env → List aa → Prop} {H' : List aa} (h : gf H = H') : rh P o env H K = rh P o env H' K := by subst h; rfl
@[congr] theorem TC {o : bX} {d : Option Nat} {K : Env → List aa → Prop} {H' : List aa} (h : gf H = H') : bp P o d env H K = bp P o d env H' K := by subst h; rfl
theorem Hb (K : Env → List aa → Prop) : iV P .done env H K = K env H := _root_.id rfl
theorem Jt (K : Env → List aa → Prop) : iV P .nil env H K = True := _root_.id rfl
theorem RM (st : Bool) (d : Option Nat) (op : bX) (r : DT) (K : Env → List aa → Prop) : iV P (.take st ⟨none, d, op⟩ r) env H K = lh P st op (al env) H fun x => iV P r (put d x env) H K := _root_.id rfl
theorem RN (st : Bool) (g : Nat) (w : Bool) (d : Option Nat) (op : bX) (r : DT) (K : Env → List aa → Prop) : iV P (.take st ⟨some (g, w), d, op⟩ r) env H K =
 dG (get env g) g w env (fun _ => lh P st op (al env) H fun x => iV P r (put d x env) H K) (fun _ => iV P r (put d (.tuple []) env) H K) := _root_.id rfl
theorem Nj (o : bt) (t rest : DT) (K : Env → List aa → Prop) : iV P (.br o t rest) env H K = (rh P o env H (fun env H => iV P t env H K) ∧ iV P rest env H K) := _root_.id rfl
@[congr] theorem TD {st : Bool} {o : bX} {ρ : IX → AV} {K : AV → Prop} {H' : List aa} (h : gf H = H') : lh P st o ρ H K = lh P st o ρ H' K := by subst h; rfl
theorem Ju {P : Program} {a : IR} (ι : Type) (I : ι → Prop) (se : ι → Env) (sh : ι → List aa) (μ : ι → Nat) (i0 : ι) (h0 : I i0) (YM : sle n0 env H (se i0) (sh i0))
 (hs : ∀ i, I i → lj P n0 a (se i) (sh i) fun e aC H' => match e with
   | .normal => ∃ j, I j ∧ μ j < μ i ∧ sle n0 aC H' (se j) (sh j)
   | e => Q e aC H') : lj P n0 (.loop a) env H Q := ⟨ι, I, se, sh, μ, ⟨i0, h0, YM⟩, hs⟩
theorem aE {P : Program} {a : IR} (N : Nat) (I : Nat → Prop) (se : Nat → Env) (sh : Nat → List aa) (h0 : I 0 ∧ sle n0 env H (se 0) (sh 0))
 (hs : ∀ i, i ≤ N → I i → lj P n0 a (se i) (sh i) fun e aC H' => match e with
   | .normal => ∃ j, (j ≤ N ∧ I j) ∧ N - j < N - i ∧ sle n0 aC H' (se j) (sh j)
   | e => Q e aC H') : lj P n0 (.loop a) env H Q :=
 ⟨Nat, fun i => i ≤ N ∧ I i, se, sh, fun i => N - i, ⟨0, ⟨Nat.zero_le _, h0.1⟩, h0.2⟩, fun i hi => hs i hi.1 hi.2⟩
end
section
variable {φ : AV → Prop}
@[congr] theorem Pc {v v' : AV} {ψ : Bool → Prop} (h : gf v = v') : eL v ψ = eL v' ψ := by subst h; rfl
@[congr] theorem RP {op : BinOp} {x x' y y' : AV} (h : gf x = x') (h2 : y = y') : cW op x y φ = cW op x' y' φ := by subst h; subst h2; rfl
@[congr] theorem Nk {op : BinOp} {x x' y y' : AV} (h : gf x = x') (h2 : y = y') : dM op x y φ = dM op x' y' φ := by subst h; subst h2; rfl
@[congr] theorem Lq {n : Bool} {x x' y y' : AV} (h : gf x = x') (h2 : y = y') : cP n x y φ = cP n x' y' φ := by subst h; subst h2; rfl
@[congr] theorem Nl {k : Nat} {n : Bool} {x x' : AV} (h : gf x = x') : de k n x φ = de k n x' φ := by subst h; rfl
@[congr] theorem TE {op : UnOp} {x x' : AV} (h : gf x = x') : yH op x φ = yH op x' φ := by subst h; rfl
@[congr] theorem Pd {sz : Option Nat} {x x' : AV} {H H' : List aa} (h : gf x = x') (h2 : H = H') : aS sz x H φ = aS sz x' H' φ := by subst h; subst h2; rfl
@[congr] theorem Hc {off : Nat} {sz : Option Nat} {x x' : AV} (h : gf x = x') : ak off sz x φ = ak off sz x' φ := by subst h; rfl
@[congr] theorem Nm {off : Nat} {sz : Option Nat} {x x' : AV} (h : gf x = x') : eM off sz x φ = eM off sz x' φ := by subst h; rfl
@[congr] theorem Hd {e : Nat} {x x' y y' : AV} (h : gf x = x') (h2 : y = y') : ay e x y φ = ay e x' y' φ := by subst h; subst h2; rfl
@[congr] theorem H7 {n : Nat} {x x' y y' : AV} (h : gf x = x') (h2 : y = y') : bR n x y φ = bR n x' y' φ := by subst h; subst h2; rfl
@[congr] theorem H8 {x x' y y' : AV} (h : gf x = x') (h2 : y = y') : bH x y φ = bH x' y' φ := by subst h; subst h2; rfl
@[congr] theorem RQ {x x' : AV} {H H' : List aa} (h : gf x = x') (h2 : H = H') : eY x H φ = eY x' H' φ := by subst h; subst h2; rfl
@[congr] theorem Jv {x x' : AV} {i : Nat} (h : gf x = x') : bC x i φ = bC x' i φ := by subst h; rfl
@[congr] theorem H9 {x x' : AV} (h : gf x = x') : bS x φ = bS x' φ := by subst h; rfl
@[congr] theorem Jw {k : IntKind} {x x' : AV} (h : gf x = x') : cr k x φ = cr k x' φ := by subst h; rfl
@[congr] theorem TF {b : Bool} {x x' y y' : AV} (h : gf x = x') (h2 : y = y') : wz b x y φ = wz b x' y' φ := by subst h; subst h2; rfl
@[congr] theorem Lr {kd : Nat} {z m m' k k' : AV} {ok : Bool} {H H' : List aa} (h : gf m = m') (h2 : k = k') (h3 : H = H') : ch kd z m k ok H φ = ch kd z m' k' ok H' φ := by subst h; subst h2; subst h3; rfl
@[congr] theorem Ls {kd : Nat} {m m' k k' x x' : AV} {H H' : List aa} {K : List aa → Prop} (h : gf m = m') (h2 : k = k') (h3 : x = x') (h4 : H = H') : fc kd m k x H K = fc kd m' k' x' H' K := by subst h; subst h2; subst h3; subst h4; rfl
@[congr] theorem Nn {m : Nat} {p p' x x' : AV} {H H' : List aa} {K : List aa → Prop} (h : gf p = p') (h2 : x = x') (h3 : H = H') : gW m p x H K = gW m p' x' H' K := by subst h; subst h2; subst h3; rfl
@[congr] theorem Jx {p p' x x' : AV} {H H' : List aa} {K : List aa → Prop} (h : gf p = p') (h2 : x = x') (h3 : H = H') : dN p x H K = dN p' x' H' K := by subst h; subst h2; subst h3; rfl
@[congr] theorem Lt {e b : Nat} {s s' x x' : AV} {ψ : List AV → Prop} (h : gf s = s') (h2 : x = x') : bE e b s x ψ = bE e b s' x' ψ := by subst h; subst h2; rfl
@[congr] theorem No {e b : Nat} {z n n' : AV} {H H' : List aa} {K : AV → List aa → Prop} (h : gf n = n') (h2 : H = H') : fQ e b z n H K = fQ e b z n' H' K := by subst h; subst h2; rfl
@[congr] theorem Jy {e b : Nat} {z s s' x x' : AV} {H H' : List aa} {K : AV → List aa → Prop} (h : gf s = s') (h2 : x = x') (h3 : H = H') : cJ e b z s x H K = cJ e b z s' x' H' K := by subst h; subst h2; subst h3; rfl
@[congr] theorem Lu {e : Nat} {z x x' : AV} {H H' : List aa} {K : List aa → Prop} (h : gf x = x') (h2 : H = H') : ig e z x H K = ig e z x' H' K := by subst h; subst h2; rfl
@[congr] theorem Pe {xs xs' : List AV} {H H' : List aa} {K : AV → List aa → Prop} (h : gf xs = xs') (h2 : H = H') : sx xs H K = sx xs' H' K := by subst h; subst h2; rfl
@[congr] theorem Np {e b : Nat} {n n' : AV} (h : gf n = n') : iO e b n φ = iO e b n' φ := by subst h; rfl
@[congr] theorem Pf {e : Nat} {d d' s s' : AV} {H H' : List aa} {K : AV → List aa → Prop} (h : gf d = d') (h2 : s = s') (h3 : H = H') : jw e d s H K = jw e d' s' H' K := by subst h; subst h2; subst h3; rfl
@[congr] theorem Pg {e : Nat} {x x' : AV} {H H' : List aa} {K : AV → List aa → Prop} (h : gf x = x') (h2 : H = H') : fh e x H K = fh e x' H' K := by subst h; subst h2; rfl
@[congr] theorem Lv {e : Nat} {x x' : AV} {lo lo' hi mD m m' : Option AV} (h : gf x = x') (h1 : lo = lo') (h2 : hi = mD) (h3 : m = m') : bA e x lo hi m φ = bA e x' lo' mD m' φ := by subst h; subst h1; subst h2; subst h3; rfl
@[congr] theorem Ia {x x' : AV} {lo lo' hi mD : Option AV} (h : gf x = x') (h1 : lo = lo') (h2 : hi = mD) : b7 x lo hi φ = b7 x lo' mD φ := by subst h; subst h1; subst h2; rfl
@[congr] theorem RR {n0 : Nat} {rs : List RX} {env aC : Env} {H H' : List aa} {R : AV → List aa → Prop} (h : gf env = aC) (h2 : H = H') : bV n0 rs env H R = bV n0 rs aC H' R := by subst h; subst h2; rfl
end
end Go.aK
end
section
namespace Go.aK
open Go
section
variable {P : Px} {env : Env} {H : List aa} {dst : Option Nat} {K : Env → List aa → Prop}
theorem RS (op : BinOp) (x : IX) (y : IX) : bp P (.bin op x y) dst env H K = (cW op (al env x) (al env y) fun z => K (put dst z env) H) := _root_.id rfl
theorem Jz (op : BinOp) (x : IX) (y : IX) : bp P (.shift op x y) dst env H K = (dM op (al env x) (al env y) fun z => K (put dst z env) H) := _root_.id rfl
theorem He (neq : Bool) (x : IX) (y : IX) : bp P (.gU neq x y) dst env H K = (cP neq (al env x) (al env y) fun z => K (put dst z env) H) := _root_.id rfl
theorem JA (kd : Nat) (neq : Bool) (x : IX) : bp P (.iZ kd neq x) dst env H K = (de kd neq (al env x) fun z => K (put dst z env) H) := _root_.id rfl
theorem VT (op : UnOp) (x : IX) : bp P (.un op x) dst env H K = (yH op (al env x) fun z => K (put dst z env) H) := _root_.id rfl
theorem RT (x : IX) : bp P (.box x) dst env H K = ((al env x).val = true ∧ aj (H.length + 1) ((al env x).cells.map AV.ab) = true ∧ K (put dst (.ptr H.length 0) env) (H ++ [.cells ((al env x).cells.map AV.ab)])) := _root_.id rfl
theorem Nq (x : IX) : bp P (.lq x) dst env H K = ((al env x).val = true ∧ K (put dst (.ai (al env x)) env) H) := _root_.id rfl
theorem Nr (m : Nat) (x : IX) : bp P (.qW m x) dst env H K = ((al env x).val = true ∧ (al env x).cells.length = m ∧ (al env x).cells.all AV.one = true ∧ K (put dst (.ai (al env x)) env) H) := _root_.id rfl
theorem JB (z : AV) : bp P (.alloc z) dst env H K = (aj (H.length + 1) (z.cells.map AV.ab) = true ∧ K (put dst (.ptr H.length 0) env) (H ++ [.cells (z.cells.map AV.ab)])) := _root_.id rfl
theorem JC (z : AV) (ps : List (Nat × Nat × IX)) : bp P (.build z ps) dst env H K = (cE z.cells (ps.map fun q => (q.1, q.2.1, al env q.2.2)) fun v => K (put dst v env) H) := _root_.id rfl
theorem wV (own : Nat) (esz : Nat) (z : AV) (len : Nat) (ps : List (Nat × IX)) : bp P (.buildSlice own esz z len ps) dst env H K = (bh (List.replicate len (aQ z)) esz (ps.map fun q => (q.1, al env q.2)) fun xs => K (put dst (.ap own xs) env) H) := _root_.id rfl
theorem Ns (sz : Option Nat) (a : IX) : bp P (.load sz a) dst env H K = (aS sz (al env a) H fun z => K (put dst z env) H) := _root_.id rfl
theorem JD (sz : Option Nat) (esz : Nat) (a : IX) : bp P (.sk sz esz a) dst env H K = (aS sz (al env a) H fun z => fh esz z H fun y H' => K (put dst y env) H') := _root_.id rfl
theorem JE (m : Nat) (a : IX) (x : IX) : bp P (.store m a x) dst env H K = (gW m (al env a) (al env x) H fun H' => K env H') := _root_.id rfl
theorem Hf {P : Program} {l : Nat} (m : Nat) (a : IX) (x : IX) : bp ⟨P, some l⟩ (.mO m a x) dst env H K = (gn l m (al env a) (al env x) H fun H' => K env H') := _root_.id rfl
theorem DU (a : IX) (s : Nat) : bp P (.eX a s) dst env H K = (dN (al env a) (get env s) H fun H' => K ((s, (get env s).ab) :: env) H') := _root_.id rfl
theorem BK (x : IX) : bp P (.nilCheck x) dst env H K = (bS (al env x) fun z => K (put dst z env) H) := _root_.id rfl
theorem zJ (off : Nat) (sz : Option Nat) (x : IX) : bp P (.fieldAddr off sz x) dst env H K = (ak off sz (al env x) fun z => K (put dst z env) H) := _root_.id rfl
theorem JF (off : Nat) (sz : Option Nat) (x : IX) : bp P (.field off sz x) dst env H K = (eM off sz (al env x) fun z => K (put dst z env) H) := _root_.id rfl
theorem zK (esz : Nat) (x : IX) (i : IX) : bp P (.indexAddr esz x i) dst env H K = ((∀ own xs, al env x = .ap own xs → ∀ z ∈ xs, z.cells.length = esz) ∧ ay esz (al env x) (al env i) fun z => K (put dst z env) H) := _root_.id rfl
theorem BL (n : Nat) (x : IX) (i : IX) : bp P (.dK n x i) dst env H K = (bR n (al env x) (al env i) fun z => K (put dst z env) H) := _root_.id rfl
theorem Hg (esz : Nat) (x : IX) (lo : Option IX) (hi : Option IX) (mx : Option IX) : bp P (.oS esz x lo hi mx) dst env H K = ((∀ own xs, al env x = .ap own xs → ∀ z ∈ xs, z.cells.length = esz) ∧ ft esz (al env x) (gv env lo) (gv env hi) (gv env mx) fun z => z = .ap esz [] ∧ K (put dst .ou env) H) := _root_.id rfl
theorem BM (x : IX) (i : IX) : bp P (.da x i) dst env H K = (bH (al env x) (al env i) fun z => K (put dst z env) H) := _root_.id rfl
theorem JG (esz : Nat) (x : IX) (lo : Option IX) (hi : Option IX) (mx : Option IX) : bp P (.slice esz x lo hi mx) dst env H K = (bA esz (al env x) (gv env lo) (gv env hi) (gv env mx) fun z => K (put dst z env) H) := _root_.id rfl
theorem Nt (esz : Nat) (d : IX) (s : IX) : bp P (.copy esz d s) dst env H K = (jw esz (al env d) (al env s) H fun z H' => K (put dst z env) H') := _root_.id rfl
theorem BN (x : IX) (lo : Option IX) (hi : Option IX) : bp P (.dL x lo hi) dst env H K = (b7 (al env x) (gv env lo) (gv env hi) fun z => K (put dst z env) H) := _root_.id rfl
theorem RU (kd : Nat) (x : IX) : bp P (.len kd x) dst env H K = (aL kd (al env x) ∧ eY (al env x) H fun z => K (put dst z env) H) := _root_.id rfl
theorem Hh (esz : Nat) (bytes : Nat) (s : IX) (x : IX) : bp P (.append esz bytes s x) dst env H K = (bE esz bytes (al env s) (al env x) fun zs => K (put dst (.ap esz zs) (cF env s.slot)) H) := _root_.id rfl
theorem JH (esz : Nat) (bytes : Nat) (z : AV) (n : IX) : bp P (.sl esz bytes z n) dst env H K = (fQ esz bytes z (al env n) H fun v H' => K (put dst v env) H') := _root_.id rfl
theorem tP (esz : Nat) (z : AV) (len : Nat) (ps : List (Nat × IX)) : bp P (.AJ esz z len ps) dst env H K = (bh (List.replicate len (aQ z)) esz (ps.map fun q => (q.1, al env q.2)) fun xs => sx xs H fun v H' => K (put dst v env) H') := _root_.id rfl
theorem Hi (esz : Nat) (z : AV) (x : IX) : bp P (.mR esz z x) dst env H K = (ig esz z (al env x) H fun H' => K (put dst (.tuple []) env) H') := _root_.id rfl
theorem DV (esz bytes : Nat) (z : AV) (s x : IX) : bp P (.jb esz bytes z s x) dst env H K = (cJ esz bytes z (al env s) (al env x) H fun v H' => K (put dst v env) H') := _root_.id rfl
theorem JI (esz : Nat) (bytes : Nat) (n : IX) : bp P (.mP esz bytes n) dst env H K = (iO esz bytes (al env n) fun v => K (put dst v env) H) := _root_.id rfl
theorem JJ  : bp P (.mQ ) dst env H K = (K (put dst (.map H.length) env) (H ++ [.map []])) := _root_.id rfl
theorem Hj (kd : Nat) (z : AV) (m : IX) (k : IX) (ok : Bool) : bp P (.lookup kd z m k ok) dst env H K = (ch kd z (al env m) (al env k) ok H fun v => K (put dst v env) H) := _root_.id rfl
theorem Hk (kd : Nat) (m : IX) (k : IX) (x : IX) : bp P (.kj kd m k x) dst env H K = (fc kd (al env m) (al env k) (al env x) H fun H' => K env H') := _root_.id rfl
theorem VU (f : Fn) (first : List IX) (cap : List IX) : bp P (.fn f first cap) dst env H K = (K (put dst (.fn f (first.map fun x => (al env x).ab) (cap.map fun x => (al env x).ab)) env) H) := _root_.id rfl
theorem DW (x : IX) (i : Nat) : bp P (.extract x i) dst env H K = (bC (al env x) i fun z => K (put dst z env) H) := _root_.id rfl
theorem DX (k : IntKind) (x : IX) : bp P (.eG k x) dst env H K = (cr k (al env x) fun z => K (put dst z env) H) := _root_.id rfl
theorem DY (x : IX) : bp P (.gl x) dst env H K = (fA (al env x) fun z => K (put dst z env) H) := _root_.id rfl
theorem DZ (x : IX) : bp P (.bytesOf x) dst env H K = (eR 1 (al env x) fun z => K (put dst z env) H) := _root_.id rfl
theorem JK (x : IX) : bp P (.strOf x) dst env H K = (jv (al env x) fun z => K (put dst z env) H) := _root_.id rfl
theorem VV (big : Bool) (a : IX) (b : IX) : bp P (.mx big a b) dst env H K = (wz big (al env a) (al env b) fun z => K (put dst z env) H) := _root_.id rfl
theorem Nu (esz : Nat) (x : IX) : bp P (.yF esz x) dst env H K = (fh esz (al env x) H fun z H' => K (put dst z env) H') := _root_.id rfl
theorem JL (x : IX) (take : Bool) : bp P (.set x take) none env H K = K env H := _root_.id rfl
theorem RV (d : Nat) (x : IX) : bp P (.set x false) (some d) env H K = K ((d, (al env x).ab) :: env) H := by cases x <;> rfl
theorem Nv (d s : Nat) : bp P (.set (.t s) true) (some d) env H K = K ((d, get env s) :: (s, (get env s).ab) :: env) H := _root_.id rfl
theorem JM (d : Nat) (v : AV) : bp P (.set (.c v) true) (some d) env H K = K ((d, v.ab) :: env) H := _root_.id rfl
theorem Nw (c a b : IX) : bp P (.pick c a b) dst env H K = fE (al env c) (K (put dst (al env a).ab env) H) (K (put dst (al env b).ab env) H) := _root_.id rfl
theorem Nx (f : IX) (args : List IX) (pass : Option Nat) : bp P (.call f args pass) dst env H K = oF P (al env f) args pass env H (fun r aC H' => K (put dst r aC) H') := _root_.id rfl
end
section
variable {P : Px} {st : Bool} {ρ : IX → AV} {H : List aa} {K : AV → Prop}
theorem RW (i : IX) : lh P st (.set i false) ρ H K = K (ρ i).ab := by cases st <;> rfl
theorem Ny (c : IX) (a : IX) (b : IX) : lh P st (.pick c a b) ρ H K = (fE (ρ c) (K (ρ a).ab) (K (ρ b).ab)) := _root_.id rfl
theorem RY (op : BinOp) (i : IX) (j : IX) : lh P st (.bin op i j) ρ H K = (cW op (ρ i) (ρ j) K) := _root_.id rfl
theorem JN (op : BinOp) (i : IX) (j : IX) : lh P st (.shift op i j) ρ H K = (dM op (ρ i) (ρ j) K) := _root_.id rfl
theorem Hl (neq : Bool) (i : IX) (j : IX) : lh P st (.gU neq i j) ρ H K = (cP neq (ρ i) (ρ j) K) := _root_.id rfl
theorem JO (kd : Nat) (neq : Bool) (i : IX) : lh P st (.iZ kd neq i) ρ H K = (n9 kd neq (ρ i) K) := _root_.id rfl
theorem VW (op : UnOp) (i : IX) : lh P st (.un op i) ρ H K = (yH op (ρ i) K) := _root_.id rfl
theorem Nz (i : IX) : lh P st (.lq i) ρ H K = ((ρ i).val = true ∧ K (.ai (ρ i))) := _root_.id rfl
theorem JP (z : AV) (ps : List (Nat × Nat × IX)) : lh P st (.build z ps) ρ H K = (cE z.cells (ps.map fun q => (q.1, q.2.1, ρ q.2.2)) K) := _root_.id rfl
theorem wW (own : Nat) (esz : Nat) (z : AV) (len : Nat) (ps : List (Nat × IX)) : lh P st (.buildSlice own esz z len ps) ρ H K = (bh (List.replicate len (aQ z)) esz (ps.map fun q => (q.1, ρ q.2)) fun xs => K (.ap own xs)) := _root_.id rfl
theorem zL (sz : Option Nat) (i : IX) : lh P true (.load sz i) ρ H K = (aS sz (ρ i) H K) := _root_.id rfl
theorem wX (sz : Option Nat) (i : IX) : lh P false (.load sz i) ρ H K = (aS sz (ρ i) [] K) := _root_.id rfl
theorem BO (i : IX) : lh P st (.nilCheck i) ρ H K = (bS (ρ i) K) := _root_.id rfl
theorem zM (off : Nat) (sz : Option Nat) (i : IX) : lh P st (.fieldAddr off sz i) ρ H K = (ak off sz (ρ i) K) := _root_.id rfl
theorem JQ (off : Nat) (sz : Option Nat) (i : IX) : lh P st (.field off sz i) ρ H K = (eM off sz (ρ i) K) := _root_.id rfl
theorem zO (esz : Nat) (i : IX) (j : IX) : lh P st (.indexAddr esz i j) ρ H K = ((∀ own xs, ρ i = .ap own xs → ∀ z ∈ xs, z.cells.length = esz) ∧ ay esz (ρ i) (ρ j) K) := _root_.id rfl
theorem BP (n : Nat) (i : IX) (j : IX) : lh P st (.dK n i j) ρ H K = (bR n (ρ i) (ρ j) K) := _root_.id rfl
theorem BQ (i : IX) (j : IX) : lh P st (.da i j) ρ H K = (bH (ρ i) (ρ j) K) := _root_.id rfl
theorem JR (esz : Nat) (i : IX) (lo : Option IX) (hi : Option IX) (mx : Option IX) : lh P st (.slice esz i lo hi mx) ρ H K = (bA esz (ρ i) (lo.map ρ) (hi.map ρ) (mx.map ρ) K) := _root_.id rfl
theorem BR (i : IX) (lo : Option IX) (hi : Option IX) : lh P st (.dL i lo hi) ρ H K = (b7 (ρ i) (lo.map ρ) (hi.map ρ) K) := _root_.id rfl
theorem BS (kd : Nat) (i : IX) : lh P true (.len kd i) ρ H K = (aL kd (ρ i) ∧ gR (ρ i) H K) := _root_.id rfl
theorem zP (kd : Nat) (i : IX) : lh P false (.len kd i) ρ H K = (aL kd (ρ i) ∧ gR (ρ i) [] K) := _root_.id rfl
theorem vh (kd : Nat) (z : AV) (m : IX) (k : IX) (ok : Bool) : lh P true (.lookup kd z m k ok) ρ H K = (ch kd z (ρ m) (ρ k) ok H K) := _root_.id rfl
theorem tn (kd : Nat) (z : AV) (m : IX) (k : IX) (ok : Bool) : lh P false (.lookup kd z m k ok) ρ H K = (ch kd z (ρ m) (ρ k) ok [] K) := _root_.id rfl
theorem VX (f : Fn) (first : List IX) (cap : List IX) : lh P st (.fn f first cap) ρ H K = (K (.fn f (first.map fun x => (ρ x).ab) (cap.map fun x => (ρ x).ab))) := _root_.id rfl
theorem D0 (i : IX) (k : Nat) : lh P st (.extract i k) ρ H K = (bC (ρ i) k K) := _root_.id rfl
theorem D1 (k : IntKind) (i : IX) : lh P st (.eG k i) ρ H K = (cr k (ρ i) K) := _root_.id rfl
theorem VY (big : Bool) (i : IX) (j : IX) : lh P st (.mx big i j) ρ H K = (wz big (ρ i) (ρ j) K) := _root_.id rfl
theorem NA (f : IX) (args : List IX) : lh P st (.call f args none) ρ H K = pg P st (ρ f) (args.map fun x => (ρ x).ab) H K := _root_.id rfl
end
theorem D2 (env : Env) : ey none env = env := _root_.id rfl
theorem Hm (env : Env) : ey (some []) env = [] := _root_.id rfl
theorem D3 (env : Env) (t : Nat) (l : List Nat) : ey (some (t :: l)) env = (t, get env t) :: ey (some l) env := _root_.id rfl
theorem D4 (k : Nat) : bW k [] = [] := _root_.id rfl
theorem BT (k : Nat) (x : AV) (xs : List AV) : bW k (x :: xs) = (k, x) :: bW (k + 1) xs := _root_.id rfl
theorem RZ (env : Env) (s : Nat) : al env (.t s) = get env s := _root_.id rfl
theorem R0 (env : Env) (v : AV) : al env (.c v) = v := _root_.id rfl
theorem kS (o : Nat) (xs : List AV) (H : List aa) (φ : AV → Prop) : gR (.ap o xs) H φ = φ (.int .i64 xs.length) := _root_.id rfl
theorem D5 (H : List aa) (φ : AV → Prop) : gR .ah H φ = φ (.int .i64 0) := _root_.id rfl
theorem Hn (s : ByteArray) (H : List aa) (φ : AV → Prop) : gR (.str s) H φ = φ (.int .i64 s.size) := _root_.id rfl
theorem Ho (a b c d : Nat) (H : List aa) (φ : AV → Prop) : gR (.bf a b c d) H φ = φ (.int .i64 c) := _root_.id rfl
theorem JS {α β : Type} (f : α → β) : List.map f [] = [] := _root_.id rfl
theorem Hp {α β : Type} (f : α → β) (x : α) (xs : List α) : List.map f (x :: xs) = f x :: List.map f xs := _root_.id rfl
end Go.aK
end
section
namespace Go.aK
open Go
theorem ga0 (H e : List aa) : (H ++ e)[H.length]? = e[0]? := by
 rw [List.getElem?_append_right (Nat.le_refl _), Nat.sub_self]
theorem ga (H e : List aa) (i : Nat) : (H ++ e)[H.length + i]? = e[i]? := by
 rw [List.getElem?_append_right (Nat.le_add_right _ _), Nat.add_sub_cancel_left]
theorem sa0 (H e : List aa) (x : aa) : (H ++ e).set H.length x = H ++ e.set 0 x := by
 rw [List.set_append_right _ _ (Nat.le_refl _), Nat.sub_self]
theorem sa (H e : List aa) (i : Nat) (x : aa) : (H ++ e).set (H.length + i) x = H ++ e.set i x := by
 rw [List.set_append_right _ _ (Nat.le_add_right _ _), Nat.add_sub_cancel_left]
theorem Y0 (H e f : List aa) : (H ++ e) ++ f = H ++ (e ++ f) := List.append_assoc _ _ _
theorem T2 (H e : List aa) : (H ++ e).length = H.length + e.length := List.length_append
theorem g0 {α : Type} (x : α) (r : List α) : (x :: r)[0]? = some x := by simp
theorem g1 {α : Type} (x y : α) (r : List α) : (x :: y :: r)[1]? = some y := by simp
theorem g2 {α : Type} (x y z : α) (r : List α) : (x :: y :: z :: r)[2]? = some z := by simp
theorem s0 {α : Type} (x u : α) (r : List α) : (x :: r).set 0 u = u :: r := by simp
theorem s1 {α : Type} (x y u : α) (r : List α) : (x :: y :: r).set 1 u = x :: u :: r := by simp
theorem s2 {α : Type} (x y z u : α) (r : List α) : (x :: y :: z :: r).set 2 u = x :: y :: u :: r := by simp
theorem d0 {α : Type} (x d : α) (r : List α) : (x :: r).getD 0 d = x := by simp
theorem d1 {α : Type} (x y d : α) (r : List α) : (x :: y :: r).getD 1 d = y := by simp
theorem d2 {α : Type} (x y z d : α) (r : List α) : (x :: y :: z :: r).getD 2 d = z := by simp
theorem Y1 (x y : AV) : ag [x] 0 [y] = [y] := by simp [ag]
theorem D6 {x : AV} {H : List aa} {φ ψ : AV → Prop} (hm : ∀ z, φ z → ψ z) (h : gR x H φ) : gR x H ψ := by
 unfold gR at *
 split at h
 ·exact hm _ h
 ·exact rn hm h
theorem D7 {o : bX} {ρ : IX → AV} {H : List aa} {K K' : AV → Prop} (h : vf o ρ H K) (hK : ∀ x, K x → K' x) : vf o ρ H K' := by
 unfold vf at *
 split at h
 ·exact hK _ h
 ·unfold fE eL at *
  split at h
  ·exact ⟨fun e => hK _ (h.1 e), fun e => hK _ (h.2 e)⟩
  ·exact h.elim
 ·exact rk hK h
 ·exact mZ hK h
 ·exact lG hK h
 ·unfold n9 at *
  split at h
  ·exact hK _ h
  ·exact h.elim
 ·exact uC hK h
 ·exact ⟨h.1, hK _ h.2⟩
 ·exact lJ (fun _ h => hK _ h) h
 ·exact gD (fun _ h => hK _ h) h
 ·exact jB hK h
 ·exact jE hK h
 ·exact iS hK h
 ·exact m8 hK h
 ·exact ⟨h.1, iT hK h.2⟩
 ·exact jC hK h
 ·exact jD hK h
 ·exact lI hK h
 ·exact jF hK h
 ·exact ⟨h.1, D6 hK h.2⟩
 ·exact lH hK h
 ·exact hK _ h
 ·exact kx hK h
 ·exact ky hK h
 ·exact uD hK h
 ·exact h.elim
theorem dz {P : Px} : ∀ {t : DT} {env : Env} {H : List aa} {K1 K2 : Env → List aa → Prop}, iV P t env H K1 → (∀ e H', K1 e H' → K2 e H') → iV P t env H K2
 | .done, _, _, _, _, h, hK => hK _ _ h
 | .take st o r, _, _, _, _, h, hK => by
   unfold iV Fx at *
   have key : ∀ {env : Env} {H : List aa} {K : AV → Prop} {K' : AV → Prop}, lh P st o.op (al env) H K → (∀ x, K x → K' x) → lh P st o.op (al env) H K' := by
    intro env H K K' h hK
    unfold lh at *
    split at h
    ·unfold pg at *
     split at h
     ·obtain ⟨x, h1, h2⟩ := h; exact ⟨x, h1, hK _ h2⟩
     ·exact h.elim
    ·exact D7 h hK
   split at h
   ·exact key h fun _ h => dz h hK
   ·unfold dG at *
    split at h
    ·exact ⟨fun e => key (h.1 e) fun _ h => dz h hK, fun e => dz (h.2 e) hK⟩
    ·exact dz h hK
    ·exact h.elim
 | .br o t rest, _, _, _, _, h, hK => ⟨rF h.1 fun _ _ h => dz h hK, dz h.2 hK⟩
 | .nil, _, _, _, _, h, hK => trivial
theorem kT {P : Px} {n0 : Nat} : ∀ {ir : IR} {env : Env} {H : List aa} {Q1 Q2 : Exit → Env → List aa → Prop}, lj P n0 ir env H Q1 → (∀ x e H', Q1 x e H' → Q2 x e H') → lj P n0 ir env H Q2 := by
 intro ir
 induction ir with
 | skip => exact fun h hQ => hQ _ _ _ h
 | region ops live => exact fun h hQ => rG h fun _ _ h => hQ _ _ _ h
 | draw t live => exact fun h hQ => dz h fun _ _ h => hQ _ _ _ h
 | seq a b DQ RH =>
   exact fun h hQ => DQ h fun x e H' h => by
    cases x with
    | normal => exact RH h hQ
    | _ => exact hQ _ _ _ h
 | cond x a b DQ RH =>
   intro env H Q1 Q2 h hQ
   rw [BJ] at *
   unfold fE eL at *
   split at h
   ·exact ⟨fun e => DQ (h.1 e) hQ, fun e => RH (h.2 e) hQ⟩
   ·exact h.elim
 | block id a DQ =>
   exact fun h hQ => DQ h fun x e H' h => by
    cases x with
    | exit id' =>
      dsimp only at h ⊢
      split
      ·rename_i bm; rw [if_pos bm] at h; exact hQ _ _ _ h
      ·rename_i bm; rw [if_neg bm] at h; exact hQ _ _ _ h
    | _ => exact hQ _ _ _ h
 | loop a DQ =>
   intro env H Q1 Q2 h hQ
   obtain ⟨ι, I, se, sh, μ, h0, hs⟩ := h
   exact ⟨ι, I, se, sh, μ, h0, fun i hi => DQ (hs i hi) fun x e H' h => by
    cases x with
    | normal => exact h
    | _ => exact hQ _ _ _ h⟩
 | exit id => exact fun h hQ => hQ _ _ _ h
 | ret => exact fun h hQ => hQ _ _ _ h
 | never => exact fun h _ => h.elim
 | iQ f lc =>
   intro env H Q1 Q2 h hQ
   rw [xM] at *
   unfold vg at *
   split at h
   ·obtain ⟨h1, bP, h2, h3⟩ := h
    exact ⟨h1, bP, h2, h3.mono fun _ H' hb => sR hb fun j H'' hg => xL hg hQ⟩
   ·exact h.elim
theorem Y2 (a b y : AV) : ag [a, b] 0 [y] = [y, b] := by simp [ag]
theorem Y3 (a b y : AV) : ag [a, b] 1 [y] = [a, y] := by simp [ag]
theorem Y4 (a b c y : AV) : ag [a, b, c] 0 [y] = [y, b, c] := by simp [ag]
theorem Y5 (a b c y : AV) : ag [a, b, c] 1 [y] = [a, y, c] := by simp [ag]
theorem Y6 (a b c y : AV) : ag [a, b, c] 2 [y] = [a, b, y] := by simp [ag]
theorem Y7 (a b c x y z : AV) : ag [a, b, c] 0 [x, y, z] = [x, y, z] := by simp [ag]
theorem R1 (k k' : IntKind) (a b : Int) (φ : AV → Prop) : wz true (.int k a) (.int k' b) φ = φ (.int k (max a b)) := by
 have : (if a < b then b else a) = max a b := by rw [Int.max_def]; split <;> split <;> omega
 simp [wz, this]
theorem R2 (k k' : IntKind) (a b : Int) (φ : AV → Prop) : wz false (.int k a) (.int k' b) φ = φ (.int k (min a b)) := by
 have : (if b < a then b else a) = min a b := by rw [Int.min_def]; split <;> split <;> omega
 simp [wz, this]
def dd (o : Option aa) (sz : Option Nat) (off : Nat) (φ : AV → Prop) : Prop :=
 match o with
 | some (.cells es) => match sz with
   | some m => off + m ≤ es.length ∧ φ (.agg (((es.drop off).take m).map AV.drop))
   | none => off < es.length ∧ φ (es.getD off .any).ab
 | _ => False
@[congr] theorem Ph {o o' : Option aa} {sz : Option Nat} {off : Nat} {φ : AV → Prop} (h : gf o = o') : dd o sz off φ = dd o' sz off φ := by subst h; rfl
theorem JT (sz : Option Nat) (id off : Nat) (H : List aa) (φ : AV → Prop) : aS sz (.ptr id off) H φ = dd H[id]? sz off φ := by
 unfold aS dd; rfl
theorem NB (es : List AV) (off : Nat) (φ : AV → Prop) : dd (some (.cells es)) none off φ = (off < es.length ∧ φ (es.getD off .any).ab) := _root_.id rfl
theorem Fy (a b c : AV) (φ : AV → Prop) : dd (some (.cells [a, b, c])) (some 3) 0 φ = φ (.agg [a.drop, b.drop, c.drop]) := by simp [dd]
theorem NC (a b : AV) (φ : AV → Prop) : dd (some (.cells [a, b])) (some 2) 0 φ = φ (.agg [a.drop, b.drop]) := by simp [dd]
def g9 (o : Option aa) (m id off : Nat) (x : AV) (H : List aa) (K : List aa → Prop) : Prop :=
 match o with
 | some (.cells es) => x.val = true ∧ x.cells.length = m ∧ off + m ≤ es.length ∧ x.cells.all AV.one = true ∧ aj (id + 1) (x.cells.map AV.ab) = true ∧
    K (H.set id (.cells (ag es off (x.cells.map AV.ab))))
 | _ => False
@[congr] theorem ND {o o' : Option aa} {m id off : Nat} {x : AV} {H : List aa} {K : List aa → Prop} (h : gf o = o') {x' : AV} (h2 : x = x') : g9 o m id off x H K = g9 o' m id off x' H K := by subst h; subst h2; rfl
theorem Hq (m id off : Nat) (x : AV) (H : List aa) (K : List aa → Prop) : gW m (.ptr id off) x H K = g9 H[id]? m id off x H K := by
 unfold gW g9; rfl
theorem BU (es : List AV) (m id off : Nat) (x : AV) (H : List aa) (K : List aa → Prop) : g9 (some (.cells es)) m id off x H K = (x.val = true ∧ x.cells.length = m ∧ off + m ≤ es.length ∧ x.cells.all AV.one = true ∧ aj (id + 1) (x.cells.map AV.ab) = true ∧
 K (H.set id (.cells (ag es off (x.cells.map AV.ab))))) := _root_.id rfl
def qq (o : Option aa) (l m id off : Nat) (x : AV) (H : List aa) (K : List aa → Prop) : Prop :=
 match o with
 | some (.cells es) => l ≤ id ∧ x.val = true ∧ x.cells.length = m ∧ off + m ≤ es.length ∧ x.cells.all AV.one = true ∧ aj H.length (x.cells.map AV.ab) = true ∧
    K (H.set id (.cells (ag es off (x.cells.map AV.ab))))
 | _ => False
@[congr] theorem Lw {o o' : Option aa} {l m id off : Nat} {x : AV} {H : List aa} {K : List aa → Prop} (h : gf o = o') {x' : AV} (h2 : x = x') : qq o l m id off x H K = qq o' l m id off x' H K := by subst h; subst h2; rfl
theorem D8 (l m id off : Nat) (x : AV) (H : List aa) (K : List aa → Prop) : gn l m (.ptr id off) x H K = qq H[id]? l m id off x H K := by
 unfold gn qq; rfl
theorem Hr (es : List AV) (l m id off : Nat) (x : AV) (H : List aa) (K : List aa → Prop) : qq (some (.cells es)) l m id off x H K = (l ≤ id ∧ x.val = true ∧ x.cells.length = m ∧ off + m ≤ es.length ∧ x.cells.all AV.one = true ∧ aj H.length (x.cells.map AV.ab) = true ∧
 K (H.set id (.cells (ag es off (x.cells.map AV.ab))))) := _root_.id rfl
@[congr] theorem Ly {l m : Nat} {p p' x : AV} {H H' : List aa} {K : List aa → Prop} (h : gf p = p') (h2 : H = H') : gn l m p x H K = gn l m p' x H' K := by subst h; subst h2; rfl
theorem Ht (e : Nat) (xs : List AV) (H : List aa) (K : AV → List aa → Prop) : fh e (.agg xs) H K = jy e xs H fun ys H' => K (.agg ys) H' := _root_.id rfl
theorem D9 (e : Nat) (H : List aa) (K : List AV → List aa → Prop) : jy e [] H K = K [] H := _root_.id rfl
theorem BV (e : Nat) (x : AV) (r : List AV) (H : List aa) (K : List AV → List aa → Prop) : jy e (x :: r) H K = dF e x H fun y H' => jy e r H' fun ys H'' => K (y :: ys) H'' := _root_.id rfl
theorem Ea (e : Nat) (k : IntKind) (n : Int) (H : List aa) (K : AV → List aa → Prop) : dF e (.int k n) H K = K (.int k n) H := _root_.id rfl
def JU := And.intro @Hf (And.intro @D8 (And.intro @Hr (And.intro @JD (And.intro @Ht (And.intro @D9 (And.intro @BV @Ea))))))
def ij (o : Option aa) (kd : Nat) (zero k : AV) (ok : Bool) (φ : AV → Prop) : Prop :=
 match o with
 | some (.map es) => match dP kd k es 0 with
   | some (some (_, v)) => φ (if ok then .tuple [v.drop, .bool true] else v.drop)
   | some none => cR kd k k = some true ∧ φ (if ok then .tuple [aQ zero, .bool false] else aQ zero)
   | none => False
 | _ => False
@[congr] theorem Lz {o o' : Option aa} {kd : Nat} {z k k' : AV} {ok : Bool} {φ : AV → Prop} (h : gf o = o') (h2 : k = k') : ij o kd z k ok φ = ij o' kd z k' ok φ := by subst h; subst h2; rfl
theorem Eb (kd id : Nat) (z k : AV) (ok : Bool) (H : List aa) (φ : AV → Prop) : ch kd z (.map id) k ok H φ = ij H[id]? kd z k ok φ := by
 unfold ch ij; rfl
def iq (o : Option aa) (kd id : Nat) (k x : AV) (H : List aa) (K : List aa → Prop) : Prop :=
 match o with
 | some (.map es) => k.a7 (id + 1) = true ∧ x.a7 (id + 1) = true ∧ x.val = true ∧ match dP kd k es 0 with
    | some (some (i, _)) => K (H.set id (.map (es.set i (k, aQ x))))
    | some none => cR kd k k = some true ∧ K (H.set id (.map (es ++ [(k, aQ x)])))
    | none => False
 | _ => False
@[congr] theorem LA {o o' : Option aa} {kd id : Nat} {k k' x x' : AV} {H : List aa} {K : List aa → Prop} (h : gf o = o') (h2 : k = k') (h3 : x = x') : iq o kd id k x H K = iq o' kd id k' x' H K := by subst h; subst h2; subst h3; rfl
theorem Ec (kd id : Nat) (k x : AV) (H : List aa) (K : List aa → Prop) : fc kd (.map id) k x H K = iq H[id]? kd id k x H K := by
 unfold fc iq; rfl
def xN (o : Option aa) (d id off : Nat) (env : Env) (H : List aa) (K : Env → List aa → Prop) : Prop :=
 match o with
 | some (.cells es) => off < es.length ∧ K ((d, es.getD off .any) :: env) (H.set id (.cells (es.set off (es.getD off .any).ab)))
 | _ => False
@[congr] theorem Pj {o o' : Option aa} {d id off : Nat} {env : Env} {H : List aa} {K : Env → List aa → Prop} (h : gf o = o') : xN o d id off env H K = xN o' d id off env H K := by subst h; rfl
theorem NE (es : List AV) (d id off : Nat) (env : Env) (H : List aa) (K : Env → List aa → Prop) : xN (some (.cells es)) d id off env H K = (off < es.length ∧ K ((d, es.getD off .any) :: env) (H.set id (.cells (es.set off (es.getD off .any).ab)))) := _root_.id rfl
def BW (v : AV) (d : Nat) (env : Env) (H : List aa) (K : Env → List aa → Prop) : Prop :=
 match v with
 | .ptr id off => xN H[id]? d id off env H K
 | _ => False
@[congr] theorem Pk {v v' : AV} {d : Nat} {env : Env} {H : List aa} {K : Env → List aa → Prop} (h : gf v = v') : BW v d env H K = BW v' d env H K := by subst h; rfl
theorem NF (id off d : Nat) (env : Env) (H : List aa) (K : Env → List aa → Prop) : BW (.ptr id off) d env H K = xN H[id]? d id off env H K := _root_.id rfl
theorem JV {P : Px} (a : IX) (d : Nat) (env : Env) (H : List aa) (K : Env → List aa → Prop) : bp P (.eu a) (some d) env H K = BW (al env a) d env H K := by
 simp only [bp, BW, xN]
 cases al env a <;> rfl
def JW (o : Option aa) (id off : Nat) (x : AV) (H : List aa) (K : List aa → Prop) : Prop :=
 match o with
 | some (.cells es) => off < es.length ∧ x.one = true ∧ x.a7 (id + 1) = true ∧ K (H.set id (.cells (es.set off x)))
 | _ => False
@[congr] theorem R3 {o o' : Option aa} {id off : Nat} {x x' : AV} {H : List aa} {K : List aa → Prop} (h : gf o = o') (h2 : x = x') : JW o id off x H K = JW o' id off x' H K := by subst h; subst h2; rfl
theorem NG (id off : Nat) (x : AV) (H : List aa) (K : List aa → Prop) : dN (.ptr id off) x H K = JW H[id]? id off x H K := by
 unfold dN JW; rfl
theorem R4 (es : List AV) (id off : Nat) (x : AV) (H : List aa) (K : List aa → Prop) : JW (some (.cells es)) id off x H K = (off < es.length ∧ x.one = true ∧ x.a7 (id + 1) = true ∧ K (H.set id (.cells (es.set off x)))) := _root_.id rfl
theorem bd2 (x y : AV) (φ : AV → Prop) : cE [.int .i64 0, .int .i64 0, .ah] [(0, 1, x), (1, 1, y)] φ = (x.val = true ∧ x.cells.length = 1 ∧ y.val = true ∧ y.cells.length = 1 ∧ φ (.agg (ag (ag [.int .i64 0, .int .i64 0, .ah] 0 (x.cells.map AV.ab)) 1 (y.cells.map AV.ab)))) := by
 simp only [cE, gO, eq_iff_iff]
 constructor
 ·rintro ⟨h1, h2, h3, h4, h5, h6, h7⟩; exact ⟨h1, h2, h4, h5, h7⟩
 ·rintro ⟨h1, h2, h4, h5, h7⟩
  have e1 : (x.cells.map AV.ab).length = 1 := by simpa using h2
  refine ⟨h1, h2, by simp, h4, h5, ?_, h7⟩
  simp [ag, h2]
theorem bd0 (cs : List AV) (φ : AV → Prop) : cE cs [] φ = φ (.agg cs) := _root_.id rfl
theorem oa (e b : Nat) (ys : List AV) (o : Nat) (ψ : List AV → Prop) : bE e b .ah (.ap o ys) ψ = (ys.length * b ≤ 140737488355328 ∧ ta e ys ∧ ψ ys) := by
 simp [bE, mr, dI]
theorem ns (e b : Nat) (xs ys : List AV) (o : Nat) (ψ : List AV → Prop) : bE e b (.ap e xs) (.ap o ys) ψ = ((xs.length + ys.length) * b ≤ 140737488355328 ∧ ta e ys ∧ ψ (xs ++ ys)) := by
 simp [bE, mr, dI]
theorem Y8 (n : Nat) : (IX.t n).slot = some n := _root_.id rfl
theorem Y9 (v : AV) : (IX.c v).slot = none := _root_.id rfl
theorem R5 (id : Nat) (H : List aa) (φ : AV → Prop) : aS none (.ai (.map id)) H φ = φ (.map id) := by simp [aS, AV.one, Jf]
theorem R6 (id off : Nat) (H : List aa) (φ : AV → Prop) : aS none (.ai (.ptr id off)) H φ = φ (.ptr id off) := by simp [aS, AV.one, Je]
theorem NH (b : Bool) : (AV.bool b).one = true := _root_.id rfl
theorem R7 (k : IntKind) (n : Int) : (AV.int k n).one = true := _root_.id rfl
theorem R8 (s : ByteArray) : (AV.str s).one = true := _root_.id rfl
theorem R9 (o : Nat) (xs : List AV) : (AV.ap o xs).one = true := _root_.id rfl
theorem NI : AV.ah.one = true := _root_.id rfl
theorem VZ (f : Fn) (a b : List AV) : (AV.fn f a b).one = true := _root_.id rfl
theorem Sa (a b : Nat) : (AV.ptr a b).one = true := _root_.id rfl
theorem NJ (x : AV) : (AV.ai x).one = true := _root_.id rfl
theorem Sb (a : Nat) : (AV.map a).one = true := _root_.id rfl
theorem Za {α : Type} (p : α → Bool) (x : α) (r : List α) : (x :: r).all p = (p x && r.all p) := _root_.id rfl
theorem Zb {α : Type} (p : α → Bool) : ([] : List α).all p = true := _root_.id rfl
theorem ee (n : Int) (h : -9223372036854775808 ≤ n ∧ n ≤ 9223372036854775807) : IntKind.i64.wrap n = n := by
 rw [show IntKind.i64.wrap n = (n + 9223372036854775808) % 18446744073709551616 - 9223372036854775808 from IntKind.wrap_i64 n]; omega
theorem aM {P : Program} {n0 : Nat} {env : Env} {H : List aa} {Q : Exit → Env → List aa → Prop} {a : IR} {ι : Type} (N : Nat) (I : Nat → ι → Prop) (se : Nat → ι → Env) (sh : Nat → ι → List aa) (s0 : ι) (h0 : I 0 s0 ∧ sle n0 env H (se 0 s0) (sh 0 s0))
 (hs : ∀ i s, i ≤ N → I i s → lj P n0 a (se i s) (sh i s) fun e aC H' => match e with
   | .normal => ∃ j t, (j ≤ N ∧ I j t) ∧ N - j < N - i ∧ sle n0 aC H' (se j t) (sh j t)
   | e => Q e aC H') : lj P n0 (.loop a) env H Q :=
 ⟨Nat × ι, fun p => p.1 ≤ N ∧ I p.1 p.2, fun p => se p.1 p.2, fun p => sh p.1 p.2, fun p => N - p.1, ⟨(0, s0), ⟨Nat.zero_le _, h0.1⟩, h0.2⟩, fun p hp => kT (hs p.1 p.2 hp.1 hp.2) fun x e H' h => by
   cases x with
   | normal => obtain ⟨j, t, h1, h2, h3⟩ := h; exact ⟨(j, t), h1, h2, h3⟩
   | _ => exact h⟩
theorem lS {P : Program} {l : Nat} {n0 : Nat} {env : Env} {H : List aa} {Q : Exit → Env → List aa → Prop} {a : IR} {ι : Type} (N : Nat) (I : Nat → ι → Prop) (se : Nat → ι → Env) (sh : Nat → ι → List aa) (s0 : ι) (h0 : I 0 s0 ∧ Gu n0 env H (se 0 s0) (sh 0 s0))
 (hs : ∀ i s, i ≤ N → I i s → lj ⟨P, some l⟩ n0 a (se i s) (sh i s) fun e aC H' => match e with
   | .normal => ∃ j t, (j ≤ N ∧ I j t) ∧ N - j < N - i ∧ Gu n0 aC H' (se j t) (sh j t)
   | e => Q e aC H') : lj ⟨P, some l⟩ n0 (.loop a) env H Q :=
 ⟨Nat × ι, fun p => p.1 ≤ N ∧ I p.1 p.2, fun p => se p.1 p.2, fun p => sh p.1 p.2, fun p => N - p.1, ⟨(0, s0), ⟨Nat.zero_le _, h0.1⟩, h0.2⟩, fun p hp => kT (hs p.1 p.2 hp.1 hp.2) fun x e H' h => by
   cases x with
   | normal => obtain ⟨j, t, h1, h2, h3⟩ := h; exact ⟨(j, t), h1, h2, h3⟩
   | _ => exact h⟩
theorem aY {H : List aa} {s : Nat} {v v' : AV} (hb : v.a7 H.length = true) (hv : v = v') : bV H.length [.t s] [(s, v)] H fun r H' => r = v' ∧ H' = H :=
 aV _ (Nat.le_refl _) (by rw [ax, if_pos rfl]; exact hb) ⟨by rw [ax, if_pos rfl]; exact hv, by simp⟩
theorem JX {H e : List aa} {s : Nat} {v v' : AV} (hb : v.a7 H.length = true) (hv : v = v') : bV H.length [.t s] [(s, v)] (H ++ e) fun r H' => r = v' ∧ H' = H :=
 aV _ (Nat.le_refl _) (by rw [ax, if_pos rfl]; exact hb) ⟨by rw [ax, if_pos rfl]; exact hv, by simp⟩
theorem Sc {H H' : List aa} {n0 s : Nat} {v v' : AV} (hn : n0 = H.length) (hb : v.a7 n0 = true) (hv : v = v') (hl : H = H') : bV n0 [.t s] [(s, v)] H fun r H'' => r = v' ∧ H'' = H' := by
 subst hn hl; exact aY hb hv
theorem qt {H H' : List aa} {n0 : Nat} {env : Env} (hn : n0 = H.length) (hl : H = H') : bV n0 [] env H fun r H'' => r = .tuple [] ∧ H'' = H' := by
 subst hn hl
 exact ⟨H.length, Nat.le_refl _, [], trivial, rfl, rfl, by simp⟩
theorem xO {H e : List aa} {s s' : Nat} {v v' x y : AV} (hs : s' ≠ s) (hb : x.a7 H.length = true) (dW : y.a7 H.length = true) (hx : v.ab = x) (hy : v'.ab = y) :
 bV H.length [.t s, .t s'] [(s, v), (s', v')] (H ++ e) fun r H' => r = .tuple [x, y] ∧ H' = H := by
 subst hx hy
 refine ⟨H.length, Nat.le_refl _, [v.ab, v'.ab], ?_, ?_, rfl, by simp⟩
 ·simp only [ax, if_neg hs, if_true, List.map]
  exact b9 _
 ·simp only [aj, hb, dW, Bool.and_self]
theorem BX {H : List aa} {s s' : Nat} {v v' x y : AV} (hs : s' ≠ s) (hb : x.a7 H.length = true) (dW : y.a7 H.length = true) (hx : v.ab = x) (hy : v'.ab = y) :
 bV H.length [.t s, .t s'] [(s, v), (s', v')] H fun r H' => r = .tuple [x, y] ∧ H' = H := by
 have := xO (e := []) hs hb dW hx hy
 rw [List.append_nil] at this
 exact this
def xP (n0 : Nat) (x : AV) (H : List aa) (R : AV → List aa → Prop) : Prop := ∃ m, n0 ≤ m ∧ ∃ r, x.le r ∧ r.a7 m = true ∧ R r (H.take m)
@[congr] theorem Pl {n0 : Nat} {x x' : AV} {H H' : List aa} {R : AV → List aa → Prop} (h : gf x = x') (h2 : H = H') : xP n0 x H R = xP n0 x' H' R := by subst h; subst h2; rfl
def sS (n0 : Nat) (xs : List AV) (H : List aa) (R : AV → List aa → Prop) : Prop := ∃ m, n0 ≤ m ∧ ∃ ys, xq (xs.map AV.ab) ys ∧ aj m ys = true ∧ R (.tuple ys) (H.take m)
@[congr] theorem Pm {n0 : Nat} {x x' : List AV} {H H' : List aa} {R : AV → List aa → Prop} (h : gf x = x') (h2 : H = H') : sS n0 x H R = sS n0 x' H' R := by subst h; subst h2; rfl
theorem Sd (n0 s : Nat) (sz : Option Nat) (env : Env) (H : List aa) (R : AV → List aa → Prop) : bV n0 [.c s sz] env H R = aS sz (get env s) H fun x => xP n0 x H R := _root_.id rfl
theorem NK (n0 s s' : Nat) (sz : Option Nat) (env : Env) (H : List aa) (R : AV → List aa → Prop) : bV n0 [.c s sz, .t s'] env H R = aS sz (get env s) H fun x => sS n0 [x, get env s'] H R := _root_.id rfl
theorem Fz {H e : List aa} {v v' : AV} (hb : v.a7 H.length = true) (hv : v = v') : xP H.length v (H ++ e) fun r H' => r = v' ∧ H' = H := by
 subst hv; exact ⟨H.length, Nat.le_refl _, v, le_refl _, hb, rfl, by simp⟩
theorem bT {i n : Nat} (h : (i : Int) < (n : Int)) : i < n := by omega
theorem df {i n : Nat} (h : (n : Int) ≤ (i : Int)) : n ≤ i := by omega
def lT := (And.intro @BL (And.intro @BP (And.intro @xM @Hg)))
def Se := (And.intro (And.intro (And.intro (And.intro (And.intro (And.intro (And.intro (And.intro @RG @Jp) (And.intro @DS @Jq)) (And.intro (And.intro @Nh @BJ) (And.intro @Ha (And.intro @Jr @Ni)))) (And.intro (And.intro (And.intro @Js @RK) (And.intro @RL @VR)) (And.intro (And.intro @VS @Hb) (And.intro @Jt (And.intro @RM @RN))))) (And.intro (And.intro (And.intro (And.intro @Nj @Jl) (And.intro @Jm @ax)) (And.intro (And.intro @RE @RS) (And.intro @Jz (And.intro @He @JA)))) (And.intro (And.intro (And.intro @VT @RT) (And.intro @Nq (And.intro @Nr @JB))) (And.intro (And.intro @JC @wV) (And.intro @Ns (And.intro @JV @NF)))))) (And.intro (And.intro (And.intro (And.intro (And.intro @NE @NG) (And.intro @R4 @Eb)) (And.intro (And.intro @Ec @oa) (And.intro @ns (And.intro @R5 @R6)))) (And.intro (And.intro (And.intro @Y8 @Y9) (And.intro @Sd (And.intro @NK @bd0))) (And.intro (And.intro @bd2 @JE) (And.intro @DU (And.intro @BK @zJ))))) (And.intro (And.intro (And.intro (And.intro @JF @zK) (And.intro @BM @JG)) (And.intro (And.intro @Nt @BN) (And.intro @RU (And.intro @Hh (And.intro @JH (And.intro @tP @DV)))))) (And.intro (And.intro (And.intro @JI @JJ) (And.intro @Hj (And.intro @Hk @VU))) (And.intro (And.intro @DW @DX) (And.intro @DY (And.intro @DZ @JK))))))) (And.intro (And.intro (And.intro (And.intro (And.intro (And.intro @VV @Nu) (And.intro @JL @RV)) (And.intro (And.intro @Nv @JM) (And.intro @Nw (And.intro @Nx @RW)))) (And.intro (And.intro (And.intro @Ny @RY) (And.intro @JN @Hl)) (And.intro (And.intro @JO @VW) (And.intro @Nz (And.intro @JP @wW))))) (And.intro (And.intro (And.intro (And.intro @zL @wX) (And.intro @BO @zM)) (And.intro (And.intro @JQ @zO) (And.intro @BQ (And.intro @JR @BR)))) (And.intro (And.intro (And.intro @BS @zP) (And.intro @vh (And.intro @tn @VX))) (And.intro (And.intro @D0 @D1) (And.intro @VY (And.intro @NA @D2)))))) (And.intro (And.intro (And.intro (And.intro (And.intro @Hm @D3) (And.intro @D4 @BT)) (And.intro (And.intro @RZ @R0) (And.intro @kS (And.intro @D5 @Hn)))) (And.intro (And.intro (And.intro @Ho @JS) (And.intro @Hp (And.intro @M8 @M9))) (And.intro (And.intro @Na @Nb) (And.intro @VL (And.intro @VM @VN))))) (And.intro (And.intro (And.intro (And.intro @VO @YZ) (And.intro @VP @VQ)) (And.intro (And.intro @Nf @G7) (And.intro @QG (And.intro @n7 @nr)))) (And.intro (And.intro (And.intro @zD @Fq) (And.intro @uY (And.intro @QH @QI))) (And.intro (And.intro @Jd @Je) (And.intro @Ft (And.intro @MC @Jf)))))))) (And.intro (And.intro (And.intro (And.intro (And.intro (And.intro (And.intro @MD @O6) (And.intro @ME @MF)) (And.intro (And.intro @QJ @QK) (And.intro @MG (And.intro @QL @QM)))) (And.intro (And.intro (And.intro @VG @MH) (And.intro @QN @MJ)) (And.intro (And.intro @QO @tM) (And.intro @QP (And.intro @QQ @MK))))) (And.intro (And.intro (And.intro (And.intro @QR @QS) (And.intro @VH @ML)) (And.intro (And.intro @QT @MM) (And.intro @QU (And.intro @Fu @QV)))) (And.intro (And.intro (And.intro @QW @MN) (And.intro @QX (And.intro @QY @VI))) (And.intro (And.intro @MO @QZ) (And.intro @MP (And.intro @Q0 @zE)))))) (And.intro (And.intro (And.intro (And.intro (And.intro @iU @Jg) (And.intro @Fv @cZ)) (And.intro (And.intro @uZ @Jh) (And.intro @rE (And.intro @Ji @jH)))) (And.intro (And.intro (And.intro @zF @VJ) (And.intro @MQ (And.intro @c8 @bM))) (And.intro (And.intro @RF @M5) (And.intro @Q3 (And.intro @Q4 @Q5))))) (And.intro (And.intro (And.intro (And.intro @Q6 @Q7) (And.intro @Q8 @Q9)) (And.intro (And.intro @Ra @Rb) (And.intro @Rc (And.intro @Re @Rf)))) (And.intro (And.intro (And.intro @Rg @Rh) (And.intro @Ri (And.intro @Rj @Rk))) (And.intro (And.intro @Rl @YY) (And.intro @Rm (And.intro @MR @Rn))))))) (And.intro (And.intro (And.intro (And.intro (And.intro (And.intro @Ro @MS) (And.intro @Rp @MT)) (And.intro (And.intro @Rq @Rr) (And.intro @MU (And.intro @Ru @MV)))) (And.intro (And.intro (And.intro @Rv @Rw) (And.intro @Rx @MW)) (And.intro (And.intro @VK @Ry) (And.intro @MX (And.intro @Jj @Rz))))) (And.intro (And.intro (And.intro (And.intro @Jk @RA) (And.intro @RB @RC)) (And.intro (And.intro @RD @GS) (And.intro @MY (And.intro @MZ @M4)))) (And.intro (And.intro (And.intro @GU @GV) (And.intro @GW (And.intro @GX @GY))) (And.intro (And.intro @By @Bz) (And.intro @ga0 (And.intro @ga @sa0)))))) (And.intro (And.intro (And.intro (And.intro (And.intro @sa @Y0) (And.intro @T2 @g0)) (And.intro (And.intro @g1 @g2) (And.intro @s0 (And.intro @s1 @s2)))) (And.intro (And.intro (And.intro @d0 @d1) (And.intro @d2 (And.intro @Y1 @Y2))) (And.intro (And.intro @Y3 @Y4) (And.intro @Y5 (And.intro @Y6 @Y7))))) (And.intro (And.intro (And.intro (And.intro @R1 @R2) (And.intro @Fy @NC)) (And.intro (And.intro @JT @NB) (And.intro @Hq (And.intro @BU @NH)))) (And.intro (And.intro (And.intro @R7 @R8) (And.intro @R9 (And.intro @NI @VZ))) (And.intro (And.intro @Sa @NJ) (And.intro @Sb (And.intro @Za @Zb)))))))))
end Go.aK
end
section
namespace Go.aK
open Go Go.RowKit
def fF (w : World) : Mem := fun b o => w.cell? ⟨b, o, none⟩
def Ed (w : World) : Perm := ⟨fun b => w.heap.size ≤ b, fun id => some (id + 1), (fun id n h => by cases h; omega), 0⟩
theorem zQ (w : World) : (Ed w).entry false ([] : List aa).length := ⟨fun id h => absurd h (Nat.not_lt_zero _), fun id _ => rfl⟩
theorem St.start {w : World} {vs : Array Value} {xs : List AV} (h : aJ (fF w) [] vs.toList xs) (hf : ∀ x ∈ xs, ∀ own ys, x = .ap own ys → own = 0) :
 St (Ed w) (fF w) [] w [] (fun t => vs.getD t undef) (fun t => xs.getD t .any) (fun _ => none) where
 len := rfl
 nodup := by simp
 env := fun t => by
  have := h.getD t
  rw [List.getD_eq_getElem?_getD] at this
  rw [Array.getD_eq_getD_getElem?]
  simpa using this
 mem := fun b o v hv => hv
 obj := fun id o b ho => by simp at ho
 bB := fun id o ho => by simp at ho
 lt := fun b hb => by cases hb
 gN := fun t => by
  refine bb.free fun own ys e => ?_
  rw [List.getD_eq_getElem?_getD] at e
  cases hx : xs[t]? with
  | none => rw [hx] at e; cases e
  | some x => rw [hx] at e; exact hf x (List.mem_of_getElem? hx) own ys e
 gK := fun id j => by simp [bo, bb]
 bZ := fun p q b hp => by cases hp
 cj := fun p b hp => by cases hp
 eV := fun p b hp => by cases hp
 La := fun b hb => by cases hb
 Oa := fun p b hp => by cases hp
 fresh := fun b hb => hb
theorem Ext.below {M M' : Mem} {w w' : World} (h : Ext (Ed w) M w M' w') : Below w.heap.size w w' :=
 ⟨h.os, h.tape, h.output, h.size, fun k hk => (h.kh k hk (by show ¬ w.heap.size ≤ k; omega)).1⟩
theorem Pure.lift {P : Program} {f : FuncId} {xs : List AV} {b : Bool} (hp : Pure P f xs (.bool b)) (he : ∀ (as : Array Value) (w : World), (callFunc f as).run P w = .ok (.enter f as) w)
 {w : World} {vs : Array Value} (hr : aJ (fF w) [] vs.toList xs) (hf : ∀ x ∈ xs, ∀ own ys, x = .ap own ys → own = 0) :
 Calls P f vs w fun e w' => e = .returned (.bool b) ∧ Below w.heap.size w w' := by
 have hs : vs.size = xs.length := by have := hr.length; simpa using this
 refine ((hp []).body he (zQ w) hs (St.start hr hf)).mono ?_
 rintro e w' ⟨v, r, H', M', L', O', rfl, ⟨rfl, rfl⟩, bQ, cu, _⟩
 have := bQ.env 0
 simp only [Ih] at this
 cases this
 exact ⟨rfl, cu.below⟩
theorem BY {a : Addr} {n : Nat} (h : a.spot = none) : a.add n = ⟨a.block, a.off + n, none⟩ := by
 obtain ⟨b, o, s⟩ := a
 simp only at h
 subst h
 unfold Addr.add
 split
 ·rename_i e; subst e; rfl
 ·rfl
theorem Hu {w : World} {a : Addr} {v : Value} (h : w.cell? a = some v) : a.spot = none := by
 unfold World.cell? at h
 split at h
 ·split at h
  ·cases h
  ·rename_i hs; cases Li : a.spot <;> simp_all
 ·cases h
theorem xQ {M : Mem} {L : List Nat} : ∀ {n : Nat} {cs : Nat → List Value} {f : Nat → AV}, (∀ i, i < n → aJ M L (cs i) (f i).cells) → aJ M L ((List.range n).flatMap cs) (flat ((List.range n).map f))
 | 0, _, _, _ => by simp [flat]; exact .nil
 | n + 1, cs, f, h => by
   have ih := xQ (n := n) (fun i hi => h i (by omega))
   simp only [List.range_succ, List.flatMap_append, List.map_append, flat] at ih ⊢
   refine ih.append ?_
   simpa using h n (by omega)
theorem BZ {n e : Nat} {cs : Nat → List Value} : (∀ i, i < n → (cs i).length = e) → ∀ (j : Nat) (v : Value), ((List.range n).flatMap cs)[j]? = some v → ∃ i k, i < n ∧ k < e ∧ j = i * e + k ∧ (cs i)[k]? = some v := by
 induction n with
 | zero => intro _ j v h; simp at h
 | succ n ih =>
   intro hl j v h
   simp only [List.range_succ, List.flatMap_append] at h
   have hlen : ((List.range n).flatMap cs).length = n * e := by
    clear h ih
    induction n with
    | zero => simp
    | succ n ih2 =>
      simp only [List.range_succ, List.flatMap_append, List.length_append]
      rw [ih2 (fun i hi => hl i (by omega))]
      simp [hl n (by omega), Nat.succ_mul]
   rcases Nat.lt_or_ge j (n * e) with hj | hj
   ·rw [List.getElem?_append_left (by omega)] at h
    obtain ⟨i, k, h1, h2, h3, h4⟩ := ih (fun i hi => hl i (by omega)) j v h
    exact ⟨i, k, by omega, h2, h3, h4⟩
   ·rw [List.getElem?_append_right (by omega), hlen] at h
    simp only [List.flatMap_cons, List.flatMap_nil, List.append_nil] at h
    have hk := (List.getElem?_eq_some_iff.1 h).1
    rw [hl n (by omega)] at hk
    exact ⟨n, j - n * e, by omega, hk, by omega, h⟩
theorem xR {w : World} {base e len cap : Nat} {a : Addr} (he : 0 < e) (hl : len ≤ cap) (hc : cap ≤ maxLen) (cs : Nat → List Value) (f : Nat → AV)
 (h : ∀ i, i < len → w.cells? base (a.add (i * e)) e = some (cs i) ∧ aJ (fF w) [] (cs i) (f i).cells) : aR (fF w) [] (.slice (some a) len cap) (.ap 0 ((List.range len).map f)) := by
 have cI : cap < 9223372036854775808 := by have : maxLen = 9223372036854775807 := rfl; omega
 rcases Nat.eq_zero_or_pos len with h0 | h0
 ·subst h0
  exact .gh _ _ _ cI
 have hlen : ∀ i, i < len → (cs i).length = e := fun i hi => (World.cells?_some (h i hi).1).2.1
 have hcell : ∀ i, i < len → ∀ k, k < e → w.cell? ((a.add (i * e)).add k) = (cs i)[k]? := fun i hi => (World.cells?_some (h i hi).1).2.2
 have hspot : a.spot = none := by
  have h1 := hcell 0 h0 0 he
  rw [List.getElem?_eq_getElem (by rw [hlen 0 h0]; exact he)] at h1
  have h2 := Hu h1
  simpa [Addr.add] using h2
 have key : aR (fF w) [] (.slice (some ⟨a.block, a.off, none⟩) ((List.range len).map f).length cap) (.ap 0 ((List.range len).map f)) := by
  refine .ap a.block a.off cap 0 e ((List.range len).flatMap cs) _ he ?_ (by simpa using h0) (by simpa using hl) cI (xQ fun i hi => (h i hi).2) ?_
  ·intro x hx
   obtain ⟨i, hi, rfl⟩ := List.mem_map.1 hx
   have hi := List.mem_range.1 hi
   rw [← (h i hi).2.length, hlen i hi]
  ·intro j v hv
   obtain ⟨i, k, h1, h2, rfl, h4⟩ := BZ hlen j v hv
   have := hcell i h1 k h2
   rw [BY hspot, BY (by rfl)] at this
   show w.cell? ⟨a.block, a.off + (i * e + k), none⟩ = some v
   rw [← Nat.add_assoc, this, h4]
 have ea : (some a : Option Addr) = some ⟨a.block, a.off, none⟩ := by obtain ⟨b, o, s⟩ := a; simp only at hspot; rw [hspot]
 rw [ea]
 simpa using key
section
variable {H : Type} {enc : TypeId × Value → H} {P : Program}
theorem oM (hl : laidOutB P = true) {W W' : World} (hb : Below W.heap.size W W') : ∀ {ts : List TypeId} {vs : List Value} {ds : List (DataW H)} {ps : List MemPlace}, (∀ t ∈ ts, P.readableRec t = true ∧ t < P.types.size) →
 DataW.TrodAll enc P W 0 (fun _ => true) true ts vs ds ps → (∀ x ∈ ps, x.block < W.heap.size) → DataW.TrodAll enc P W' 0 (fun b => decide (b < W.heap.size)) true ts vs ds ps
 | [], [], [], _, _, h, _ => h
 | t :: ts, v :: vs, d :: ds, _, ht, ⟨p, q, h1, h2, e⟩, hp => by
   subst e
   exact ⟨p, q, Below.trod hl (ht t (by simp)).1 (ht t (by simp)).2 h1 hb (fun x hx => hp x (by simp [hx])), oM hl hb (fun t ht' => ht t (by simp [ht'])) h2 (fun x hx => hp x (by simp [hx])), rfl⟩
theorem JY {fn : Func} {s : ChangeSpec} {apart : Bool} {W W' : World} {args : Array Value} {ds gs : List (DataW H)} {before : List MemPlace} {t : TypeId} (hl : laidOutB P = true) (hb : Below W.heap.size W W')
 (hW : DataW.Whole enc P fn.params.toList s.vars apart W args.toList ds gs before) (hv : s.vars = []) (tq : fn.resultTypes = #[t]) (ht : P.underlying t = some .bool) (hs : s.fn H ds = { results := [.lit (.bool true)], args := ds })
 (hp : fn.params.toList.all (fun t => P.readableRec t && decide (t < P.types.size)) = true) : s.post enc P fn apart true false false W args (.bool true) W' := by
 have aW : ∀ x ∈ before, x.block < W.heap.size := fun x hx => by simpa using hW.lt x hx
 have hW0 := hW
 obtain ⟨p, q, h1, h2, h3, h4, h5⟩ := hW
 rw [hv] at h2
 obtain ⟨rfl, rfl⟩ := ChangeShapes.trodVars_none h2
 simp only [List.append_nil] at h3
 subst h3
 refine ⟨ds, [], before, [], before, [], hW0, ?_, ?_, ?_, hb.frame _, fun h => by cases h⟩
 ·simp only [List.append_nil, hs, tq]
  exact ChangeShapes.trodAll_mk1 (shut_bool ht true)
 ·simp only [List.append_nil, hs]
  exact oM hl hb (fun t ht => by simpa using List.all_eq_true.1 hp t ht) h1 aW
 ·simp only [hv, List.append_nil, hs]
  rfl
end
end Go.aK
end
section
namespace Go.aK
open Go
structure Zc {σ : Type} (S : σ → List aa) (p : Nat) (obj : σ → aa) (n : Nat) : Prop where
 get : ∀ s, (S s)[p]? = some (obj s)
 set : ∀ s s', (S s).set p (obj s') = S s'
 len : ∀ s, (S s).length = n
namespace Zc
variable {σ : Type} {S : σ → List aa} {p : Nat} {obj : σ → aa} {n : Nat} (F : Zc S p obj n)
include F
theorem lt (s : σ) : p < n := by
 have := F.get s
 rw [← F.len s]
 exact (List.getElem?_eq_some_iff.1 this).1
theorem take (s : σ) (e : List aa) : (S s ++ e).take n = S s := by
 rw [← F.len s]; simp
end Zc
theorem Pn {Hs G : List aa} {n0 : Nat} {v w x y : AV} {R : AV → List aa → Prop} (hH : Hs.take n0 = G) (hb : x.a7 n0 = true) (dW : y.a7 n0 = true) (hx : v.ab = x) (hy : w.ab = y) (hR : R (.tuple [x, y]) G) :
 sS n0 [v, w] Hs R := by
 subst hx hy hH
 exact ⟨n0, Nat.le_refl _, [v.ab, w.ab], b9 _, by simp only [aj, hb, dW, Bool.and_self], hR⟩
theorem Po {Hs G : List aa} {n0 : Nat} {v x : AV} {R : AV → List aa → Prop} (hH : Hs.take n0 = G) (hb : x.a7 n0 = true) (hx : v = x) (hR : R x G) : xP n0 v Hs R := by
 subst hx hH
 exact ⟨n0, Nat.le_refl _, v, le_refl _, hb, hR⟩
theorem NL {Hs G : List aa} {n0 s : Nat} {v x : AV} {R : AV → List aa → Prop} (hH : Hs.take n0 = G) (hb : x.a7 n0 = true) (hx : v = x) (hR : R x G) : bV n0 [.t s] [(s, v)] Hs R := by
 subst hx hH
 exact aV _ (Nat.le_refl _) (by rw [ax, if_pos rfl]; exact hb) (by rw [ax, if_pos rfl]; exact hR)
end Go.aK
end
section
namespace Go.aK
open Go
def vi (C : List aa → Nat → List aa → Prop) (n0 : Nat) (v : AV) (H : List aa) (R : AV → List aa → Prop) : Prop :=
 ∃ m H', n0 ≤ m ∧ C H m H' ∧ ∃ r, v.le r ∧ r.a7 m = true ∧ R r H'
@[congr] theorem NM {C : List aa → Nat → List aa → Prop} {n0 : Nat} {x x' : AV} {H H' : List aa} {R : AV → List aa → Prop} (h : gf x = x') (h2 : H = H') : vi C n0 x H R = vi C n0 x' H' R := by subst h; subst h2; rfl
theorem NN {C : List aa → Nat → List aa → Prop} {n0 s : Nat} {sz : Option Nat} {env : Env} {H : List aa} {R : AV → List aa → Prop} : kQ C n0 [.c s sz] env H R = aS sz (get env s) H fun v => vi C n0 v H R := _root_.id rfl
theorem NO {C : List aa → Nat → List aa → Prop} {n0 s : Nat} {env : Env} {H : List aa} {R : AV → List aa → Prop} : kQ C n0 [.t s] env H R = vi C n0 (get env s) H R := _root_.id rfl
theorem Hv {n0 : Nat} {H G : List aa} (h : G.take n0 = H) (hl : H.length = n0) : mv n0 G n0 H := by
 subst h
 refine ⟨by simp, fun id o ho => ?_⟩
 rw [List.getElem?_take] at ho
 split at ho
 ·exact .inr ⟨ho, fun h => by omega⟩
 ·cases ho
def only (n0 id : Nat) (G : List aa) : List aa := G.mapIdx fun j o => if j < n0 ∨ j = id then o else .dead
theorem oc (n0 : Nat) (env : Env) (H : List aa) : Gu n0 env H env H := ⟨fun t => le_refl _, .inl rfl⟩
theorem zR {n0 : Nat} {env aC : Env} {H H' : List aa} (he : env = aC) (hH : H = H') : Gu n0 env H aC H' := by
 subst he; subst hH; exact oc _ _ _
def rH := And.intro @NN (And.intro @NO JU)
end Go.aK
end
