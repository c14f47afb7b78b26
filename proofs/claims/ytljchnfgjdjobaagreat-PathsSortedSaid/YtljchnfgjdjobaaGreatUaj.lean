/- Part 10 of 18 of the proof. -/
import Derived.Test.YtljchnfgjdjobaaGreatUah
import Derived.ProofKit
import Derived.Deep.Slices
import Derived.Deep.Strs
set_option linter.unusedVariables false
set_option linter.unusedSimpArgs false
set_option linter.defProp false
set_option linter.unusedSectionVars false
section
namespace Go.aK
open Go
theorem Qs : AV.any.ab = .any := _root_.id rfl
theorem nU (b : Bool) : (AV.bool b).ab = .bool b := _root_.id rfl
theorem mY (k : IntKind) (n : Int) : (AV.int k n).ab = .int k n := _root_.id rfl
theorem zD (s : ByteArray) : (AV.str s).ab = .str s := _root_.id rfl
theorem Fc : AV.ah.ab = .ah := _root_.id rfl
theorem uZ (o : Nat) (xs : List AV) : (AV.ap o xs).ab = .ap 0 xs := _root_.id rfl
theorem Qt (a b c d : Nat) : (AV.bf a b c d).ab = .bf a b c d := _root_.id rfl
theorem Qu (xs : List AV) : (AV.agg xs).ab = .agg xs := _root_.id rfl
theorem I5 (xs : List AV) : (AV.tuple xs).ab = .tuple xs := _root_.id rfl
theorem I6 (a b : Nat) : (AV.ptr a b).ab = .ptr a b := _root_.id rfl
theorem Fe (x : AV) : (AV.ai x).ab = .ai x := _root_.id rfl
theorem Mr : AV.qR.ab = .qR := _root_.id rfl
theorem I7 (a : Nat) : (AV.map a).ab = .map a := _root_.id rfl
theorem Ms : AV.iD.ab = .iD := _root_.id rfl
theorem OQ (f : Fn) (a b : List AV) : (AV.fn f a b).ab = .fn f a b := _root_.id rfl
theorem Mt : AV.ft.ab = .ft := _root_.id rfl
theorem Mv (b : Bool) : (AV.bool b).cells = [.bool b] := _root_.id rfl
theorem Qv (k : IntKind) (n : Int) : (AV.int k n).cells = [.int k n] := _root_.id rfl
theorem Qw (s : ByteArray) : (AV.str s).cells = [.str s] := _root_.id rfl
theorem Mw : AV.ah.cells = [.ah] := _root_.id rfl
theorem Qx (o : Nat) (xs : List AV) : (AV.ap o xs).cells = [.ap o xs] := _root_.id rfl
theorem Qy (xs : List AV) : (AV.agg xs).cells = xs := _root_.id rfl
theorem Vr (f : Fn) (a b : List AV) : (AV.fn f a b).cells = [.fn f a b] := _root_.id rfl
theorem Mx : AV.ft.cells = [.ft] := _root_.id rfl
theorem Qz (a b : Nat) : (AV.ptr a b).cells = [.ptr a b] := _root_.id rfl
theorem My (x : AV) : (AV.ai x).cells = [.ai x] := _root_.id rfl
theorem QA (a : Nat) : (AV.map a).cells = [.map a] := _root_.id rfl
theorem tO (b : Bool) : (AV.bool b).drop = .bool b := _root_.id rfl
theorem QB (k : IntKind) (n : Int) : (AV.int k n).drop = .int k n := _root_.id rfl
theorem QC (s : ByteArray) : (AV.str s).drop = .str s := _root_.id rfl
theorem Mz : AV.ah.drop = .ap 0 [] := _root_.id rfl
theorem QD (o : Nat) (xs : List AV) : (AV.ap o xs).drop = .ap 0 xs := _root_.id rfl
theorem QE (xs : List AV) : (AV.agg xs).drop = .agg xs := _root_.id rfl
theorem Vs (f : Fn) (a b : List AV) : (AV.fn f a b).drop = .fn f a b := _root_.id rfl
theorem MA : AV.ft.drop = .ft := _root_.id rfl
theorem QF (a b : Nat) : (AV.ptr a b).drop = .ptr a b := _root_.id rfl
theorem MB (x : AV) : (AV.ai x).drop = .ai x := _root_.id rfl
theorem QG (a : Nat) : (AV.map a).drop = .map a := _root_.id rfl
theorem Ff (b : Bool) : (AV.bool b).val = true := _root_.id rfl
theorem QH (k : IntKind) (n : Int) : (AV.int k n).val = true := _root_.id rfl
theorem QI (s : ByteArray) : (AV.str s).val = true := _root_.id rfl
theorem MC : AV.ah.val = true := _root_.id rfl
theorem QJ (o : Nat) (xs : List AV) : (AV.ap o xs).val = true := _root_.id rfl
theorem QK (xs : List AV) : (AV.agg xs).val = true := _root_.id rfl
theorem Vt (f : Fn) (a b : List AV) : (AV.fn f a b).val = true := _root_.id rfl
theorem MD : AV.ft.val = true := _root_.id rfl
theorem QL (a b : Nat) : (AV.ptr a b).val = true := _root_.id rfl
theorem ME (x : AV) : (AV.ai x).val = true := _root_.id rfl
theorem QM (a : Nat) : (AV.map a).val = true := _root_.id rfl
theorem zE (n : Nat) (b : Bool) : (AV.bool b).a7 n = true := _root_.id rfl
theorem iO (n : Nat) (k : IntKind) (m : Int) : (AV.int k m).a7 n = true := _root_.id rfl
theorem I8 (n : Nat) (s : ByteArray) : (AV.str s).a7 n = true := _root_.id rfl
theorem Fg (n : Nat) : AV.ah.a7 n = true := _root_.id rfl
theorem cW (n o : Nat) (xs : List AV) : (AV.ap o xs).a7 n = aj n xs := by rw [AV.a7]
theorem u0 (n : Nat) (xs : List AV) : (AV.agg xs).a7 n = aj n xs := by rw [AV.a7]
theorem I9 (n : Nat) (xs : List AV) : (AV.tuple xs).a7 n = aj n xs := by rw [AV.a7]
theorem rB (n a b : Nat) : (AV.ptr a b).a7 n = decide (a < n) := by rw [AV.a7]
theorem Ja (n a : Nat) : (AV.map a).a7 n = decide (a < n) := by rw [AV.a7]
theorem jB (n a b c d : Nat) : (AV.bf a b c d).a7 n = decide (a < n) := by rw [AV.a7]
theorem zF (n : Nat) (x : AV) : (AV.ai x).a7 n = x.a7 n := by rw [AV.a7]
theorem Vu (n : Nat) (f : Fn) (a b : List AV) : (AV.fn f a b).a7 n = (aj n a && aj n b) := by rw [AV.a7]
theorem MF (n : Nat) : AV.ft.a7 n = true := _root_.id rfl
theorem cZ (n : Nat) : aj n [] = true := _root_.id rfl
theorem bL (n : Nat) (x : AV) (xs : List AV) : aj n (x :: xs) = (x.a7 n && aj n xs) := by rw [aj]
section
variable (k : IntKind) (a b : Int) (φ : AV → Prop)
theorem QN : cV .add (.int k a) (.int k b) φ = φ (.int k (k.wrap (a + b))) := by simp [cV]
theorem QO : cV .sub (.int k a) (.int k b) φ = φ (.int k (k.wrap (a - b))) := by simp [cV]
theorem QP : cV .mul (.int k a) (.int k b) φ = φ (.int k (k.wrap (a * b))) := by simp [cV]
theorem QQ : cV .rem (.int k a) (.int k b) φ = (b ≠ 0 ∧ φ (.int k (a.tmod b))) := by simp [cV]
theorem QR : cV .quo (.int k a) (.int k b) φ = (b ≠ 0 ∧ φ (.int k (k.wrap (a.tdiv b)))) := by simp [cV]
theorem QS : cV .eql (.int k a) (.int k b) φ = φ (.bool (decide (a = b))) := by simp [cV]
theorem QT : cV .neq (.int k a) (.int k b) φ = φ (.bool (decide (a ≠ b))) := by simp [cV]
theorem QU : cV .lss (.int k a) (.int k b) φ = φ (.bool (decide (a < b))) := by simp [cV]
theorem QV : cV .leq (.int k a) (.int k b) φ = φ (.bool (decide (a ≤ b))) := by simp [cV]
theorem QW : cV .gtr (.int k a) (.int k b) φ = φ (.bool (decide (b < a))) := by simp [cV]
theorem QX : cV .geq (.int k a) (.int k b) φ = φ (.bool (decide (b ≤ a))) := by simp [cV]
theorem QY (s t : ByteArray) : cV .eql (.str s) (.str t) φ = φ (.bool (decide (s = t))) := by simp [cV]
theorem QZ (s t : ByteArray) : cV .neq (.str s) (.str t) φ = φ (.bool (decide (s ≠ t))) := by simp [cV]
theorem Q0 (s t : ByteArray) : cV .add (.str s) (.str t) φ = (s.size + t.size < 9223372036854775808 ∧ φ (.str (s ++ t))) := by simp [cV]
theorem Q3 (q : Bool) : yH .not (.bool q) φ = φ (.bool (!q)) := _root_.id rfl
theorem Q4 : yH .neg (.int k a) φ = φ (.int k (k.wrap (0 - a))) := _root_.id rfl
theorem Q5 (p q : Bool) : cM true (.bool p) (.bool q) φ = φ (.bool (decide (p ≠ q))) := _root_.id rfl
theorem Q6 (p q : Bool) : cM false (.bool p) (.bool q) φ = φ (.bool (decide (p = q))) := _root_.id rfl
theorem YI (q : Bool) (ψ : Bool → Prop) : eH (.bool q) ψ = ψ q := _root_.id rfl
theorem Q7 (s : ByteArray) (H : List aa) : eW (.str s) H φ = φ (.int .i64 s.size) := _root_.id rfl
theorem MG (H : List aa) : eW .ah H φ = φ (.int .i64 0) := _root_.id rfl
theorem Q8 (o : Nat) (xs : List AV) (H : List aa) : eW (.ap o xs) H φ = (xs.length < 9223372036854775808 → φ (.int .i64 xs.length)) := _root_.id rfl
theorem Q9 (x y l c : Nat) (H : List aa) : eW (.bf x y l c) H φ = φ (.int .i64 l) := _root_.id rfl
theorem MH (H : List aa) : eW .iD H φ = φ (.int .i64 0) := _root_.id rfl
theorem Ra (s : ByteArray) : aL 0 (.str s) = True := _root_.id rfl
theorem MJ : aL 1 .ah = True := _root_.id rfl
theorem Rb (o : Nat) (xs : List AV) : aL 1 (.ap o xs) = True := _root_.id rfl
theorem Rc (x y l c : Nat) : aL 1 (.bf x y l c) = True := _root_.id rfl
theorem MK : aL 2 .iD = True := _root_.id rfl
theorem Re (x : Nat) : aL 2 (.map x) = True := _root_.id rfl
theorem ML (q : Bool) (H : List aa) : aS none (.ai (.bool q)) H φ = φ (.bool q) := by simp [aS, AV.one, nU]
theorem Rf (H : List aa) : aS none (.ai (.int k a)) H φ = φ (.int k a) := by simp [aS, AV.one, mY]
theorem Rg (s : ByteArray) (H : List aa) : aS none (.ai (.str s)) H φ = φ (.str s) := by simp [aS, AV.one, zD]
theorem Rh (o : Nat) (xs : List AV) (H : List aa) : aS none (.ai (.ap o xs)) H φ = φ (.ap 0 xs) := by simp [aS, AV.one, uZ]
theorem MM (H : List aa) : aS none (.ai .ah) H φ = φ .ah := by simp [aS, AV.one, Fc]
theorem Vv (f : Fn) (x y : List AV) (H : List aa) : aS none (.ai (.fn f x y)) H φ = φ (.fn f x y) := by simp [aS, AV.one, OQ]
theorem Ri (x y : Nat) : bR (.ptr x y) φ = φ (.ptr x y) := _root_.id rfl
theorem MN (x : AV) : bR (.ai x) φ = φ (.ai x) := _root_.id rfl
theorem Jb (xs : List AV) (i : Nat) : bC (.tuple xs) i φ = (i < xs.length ∧ φ (xs.getD i .any).ab) := _root_.id rfl
theorem Rj (id o off : Nat) (sz : Option Nat) : ak off sz (.ptr id o) φ = φ (.ptr id (o + off)) := by simp [ak]
end
section
variable {P : Px} {n0 : Nat} {env : Env} {H : List aa} {Q : Exit → Env → List aa → Prop}
theorem Jc (pass : Option Nat) (j : Nat) : aF env pass j [] = [] := _root_.id rfl
theorem Rk (pass : Option Nat) (j : Nat) (v : AV) (xs : List IX) : aF env pass j (.c v :: xs) = v.ab :: aF env pass (j + 1) xs := _root_.id rfl
theorem Rl (j s : Nat) (xs : List IX) : aF env none j (.t s :: xs) = (get env s).ab :: aF env none (j + 1) xs := by simp [aF]
theorem Rm (j s : Nat) (xs : List IX) : aF env (some 1999) j (.t s :: xs) = (if 1999 = j then get env s else (get env s).ab) :: aF env (some 1999) (j + 1) xs := by simp [aF]
theorem Rn (p j s : Nat) (xs : List IX) : aF env (some p) j (.t s :: xs) = (if p = j then get env s else (get env s).ab) :: aF env (some p) (j + 1) xs := by simp [aF]
theorem GI (args : List IX) : bc args none = none := _root_.id rfl
theorem MO (x : Nat) (xs : List IX) : bc (.t x :: xs) (some 0) = some x := by simp [bc]
theorem MP (x : Nat) (y : IX) (xs : List IX) : bc (y :: .t x :: xs) (some 1) = some x := by simp [bc]
theorem MQ (x : Nat) (y z : IX) (xs : List IX) : bc (y :: z :: .t x :: xs) (some 2) = some x := by simp [bc]
theorem GJ : bc [] (some 1999) = none := _root_.id rfl
theorem GK (x : IX) : bc [x] (some 1999) = none := _root_.id rfl
theorem GL (x y : IX) : bc [x, y] (some 1999) = none := _root_.id rfl
theorem GM (x y z : IX) : bc [x, y, z] (some 1999) = none := _root_.id rfl
theorem GN (x y z u : IX) : bc [x, y, z, u] (some 1999) = none := _root_.id rfl
theorem Bx : cD env none = env := _root_.id rfl
theorem By (d : Nat) : cD env (some d) = (d, (get env d).ab) :: env := _root_.id rfl
theorem Jd (z : AV) : put none z env = env := _root_.id rfl
theorem Je (d : Nat) (z : AV) : put (some d) z env = (d, z) :: env := _root_.id rfl
theorem ax (k : Nat) (v : AV) (t : Nat) : get ((k, v) :: env) t = if t = k then v else get env t := _root_.id rfl
theorem Ro (t : Nat) : get [] t = .any := _root_.id rfl
theorem aQ {s : Nat} {R : AV → List aa → Prop} (m : Nat) (h0 : n0 ≤ m) (hb : (get env s).a7 m = true) (h : R (get env s) (H.take m)) : bT n0 [.t s] env H R :=
 ⟨m, h0, _, le_refl _, hb, h⟩
end
def Pure (P : Program) (g : FuncId) (xs : List AV) (v : AV) : Prop := ∀ H, aq P g xs H fun r H' => r = v ∧ H' = H
theorem Pure.mk {P : Program} {g : FuncId} {xs : List AV} {v : AV} (hb : aj 0 xs = true) (h : aq P g xs [] fun r H' => r = v ∧ H' = []) : Pure P g xs v :=
 aq.frame (fun x hx => (a9 0 xs).1 hb x hx) h
def mZ (n : Nat) (env : Env) : Bool := env.all fun p => p.2.a7 n
theorem DG {n : Nat} {env : Env} (h : mZ n env = true) (t : Nat) : (get env t).a7 n = true := by
 rcases get_mem (env := env) (t := t) rfl with h' | h'
 ·rw [h']; rfl
 ·exact List.all_eq_true.1 h _ h'
theorem Rp (n : Nat) : mZ n [] = true := _root_.id rfl
theorem MR (n k : Nat) (v : AV) (env : Env) : mZ n ((k, v) :: env) = (v.a7 n && mZ n env) := _root_.id rfl
theorem qg {n0 : Nat} {env aD : Env} {H H' : List aa} (he : env = aD) (h0 : n0 ≤ H'.length) (hb : mZ H'.length aD = true) (e : List aa) (hH : H = H' ++ e) : sle n0 env H aD H' := by
 subst he; subst hH
 exact ⟨fun t => le_refl _, .inr ⟨H'.length, h0, by simp, DG hb⟩⟩
theorem aG {n0 : Nat} {env aD : Env} {H H' : List aa} (he : env = aD) (hH : H = H') : sle n0 env H aD H' := by
 subst he; subst hH; exact aA _ _ _
theorem au (i : Nat) (h : i + 1 < 9223372036854775808) : IntKind.i64.wrap ((i : Int) + 1) = ((i + 1 : Nat) : Int) := by
 show IntKind.wrap .i64 ((i : Int) + 1) = _
 unfold IntKind.wrap
 simp [IntKind.signed, IntKind.bits]
 omega
end Go.aK
end
section
namespace Go.aK
open Go
def fY {α : Type} (x : α) : α := x
theorem Rq {α : Type} (x : α) : fY x = x := _root_.id rfl
section
variable {φ : AV → Prop}
theorem Jf {op : BinOp} {x y : AV} (h : cV op x y φ) : ∃ z, cV op x y (fun w => w = z) ∧ φ z := by
 unfold cV at *
 split at h <;> (try exact h.elim)
 ·obtain ⟨h0, h⟩ := h
  split at h <;> first | exact ⟨_, ⟨h0, rfl⟩, h⟩ | exact ⟨_, ⟨h0, h.1, rfl⟩, h.2⟩ | exact h.elim
 ·split at h <;> first | exact ⟨_, rfl, h⟩ | exact ⟨_, ⟨h.1, rfl⟩, h.2⟩ | exact h.elim
theorem DH {op : BinOp} {x y : AV} (h : dL op x y φ) : ∃ z, dL op x y (fun w => w = z) ∧ φ z := by
 unfold dL at *
 split at h <;> (try exact h.elim)
 obtain ⟨h0, h⟩ := h
 split at h <;> first | exact ⟨_, ⟨h0, rfl⟩, h⟩ | exact h.elim
theorem Bz {neq : Bool} {x y : AV} (h : cM neq x y φ) : ∃ z, cM neq x y (fun w => w = z) ∧ φ z := by
 unfold cM at *
 split at h <;> first | exact ⟨_, rfl, h⟩ | exact h.elim
theorem MS {op : UnOp} {x : AV} (h : yH op x φ) : ∃ z, yH op x (fun w => w = z) ∧ φ z := by
 unfold yH at *
 split at h <;> first | exact ⟨_, rfl, h⟩ | exact h.elim
theorem GO {sz : Option Nat} {x : AV} {H : List aa} (h : aS sz x H φ) : ∃ z, aS sz x H (fun w => w = z) ∧ φ z := by
 unfold aS at *
 split at h <;> (try exact h.elim) <;> (split at h <;> (try exact h.elim)) <;> first | exact ⟨_, ⟨h.1, rfl⟩, h.2⟩ | (split at h <;> exact ⟨_, ⟨h.1, rfl⟩, h.2⟩)
theorem xI {off : Nat} {sz : Option Nat} {xs : List AV} {g : AV → AV} (h : apart off sz xs fun z => φ (g z)) : ∃ z, (apart off sz xs fun w => g w = z) ∧ φ z := by
 unfold apart at *
 split at h <;> first | exact ⟨_, ⟨h.1, rfl⟩, h.2⟩ | exact ⟨_, ⟨h.1, h.2.1, rfl⟩, h.2.2⟩
theorem DI {off : Nat} {sz : Option Nat} {x : AV} (h : eI off sz x φ) : ∃ z, eI off sz x (fun w => w = z) ∧ φ z := by
 unfold eI at *
 split at h <;> (try exact h.elim)
 exact xI h
theorem ve {off : Nat} {sz : Option Nat} {x : AV} (h : ak off sz x φ) : ∃ z, ak off sz x (fun w => w = z) ∧ φ z := by
 unfold ak at *
 split at h <;> (try exact h.elim)
 ·exact ⟨_, rfl, h⟩
 ·exact xI h
theorem vf {esz : Nat} {x i : AV} (h : ay esz x i φ) : ∃ z, ay esz x i (fun w => w = z) ∧ φ z := by
 unfold ay at *
 split at h <;> first | exact ⟨_, ⟨h.1, h.2.1, rfl⟩, h.2.2⟩ | exact h.elim
theorem wQ {x i : AV} (h : bH x i φ) : ∃ z, bH x i (fun w => w = z) ∧ φ z := by
 unfold bH at *
 split at h <;> first | exact ⟨_, ⟨h.1, h.2.1, rfl⟩, h.2.2⟩ | exact h.elim
theorem wR {n : Nat} {x i : AV} (h : bQ n x i φ) : ∃ z, bQ n x i (fun w => w = z) ∧ φ z := by
 unfold bQ at *
 split at h <;> first | exact ⟨_, ⟨h.1, h.2.1, h.2.2.1, rfl⟩, h.2.2.2⟩ | exact h.elim
theorem zG {x : AV} {i : Nat} (h : bC x i φ) : ∃ z, bC x i (fun w => w = z) ∧ φ z := by
 unfold bC at *
 split at h <;> first | exact ⟨_, ⟨h.1, rfl⟩, h.2⟩ | exact h.elim
theorem wS {x : AV} (h : bR x φ) : ∃ z, bR x (fun w => w = z) ∧ φ z := by
 unfold bR at *
 split at h <;> first | exact ⟨_, rfl, h⟩ | exact h.elim
theorem zH {k : IntKind} {x : AV} (h : cp k x φ) : ∃ z, cp k x (fun w => w = z) ∧ φ z := by
 unfold cp at *
 split at h <;> first | exact ⟨_, rfl, h⟩ | exact h.elim
theorem MT {big : Bool} {x y : AV} (h : wy big x y φ) : ∃ z, wy big x y (fun w => w = z) ∧ φ z := by
 unfold wy at *
 split at h <;> first | exact ⟨_, rfl, h⟩ | exact h.elim
theorem nV {x : Option AV} {d : Nat} {c1 c2 : Nat → Prop} {g : Nat → AV} (h : dG x d fun k => c1 k ∧ c2 k ∧ φ (g k)) : ∃ z, (dG x d fun k => c1 k ∧ c2 k ∧ g k = z) ∧ φ z := by
 unfold dG at *
 split at h
 ·exact ⟨_, ⟨h.1, h.2.1, rfl⟩, h.2.2⟩
 ·exact ⟨_, ⟨h.1, h.2.1, h.2.2.1, rfl⟩, h.2.2.2⟩
 ·exact h.elim
theorem iq {x : Option AV} {d : Nat} {ψ : (AV → Prop) → Nat → Prop} (h : dG x d (ψ φ)) (hd : ∀ k, ψ φ k → ∃ z, ψ (fun w => w = z) k ∧ φ z) : ∃ z, dG x d (ψ fun w => w = z) ∧ φ z := by
 unfold dG at *
 split at h
 ·exact hd _ h
 ·obtain ⟨z, h2, h3⟩ := hd _ h.2; exact ⟨z, ⟨h.1, h2⟩, h3⟩
 ·exact h.elim
theorem DJ {esz : Nat} {x : AV} {lo hi mx : Option AV} (h : eL esz x lo hi mx φ) : ∃ z, eL esz x lo hi mx (fun w => w = z) ∧ φ z := by
 unfold eL at *
 split at h <;> (try exact h.elim)
 rename_i xs fp
 cases mx with
 | none => exact iq (ψ := fun φ h => dG lo 0 fun l => l ≤ h ∧ h ≤ xs.length ∧ φ (.ap 0 ((xs.take h).drop l))) h fun k h => nV (c1 := fun l => l ≤ k) (c2 := fun _ => k ≤ xs.length) (g := fun l => .ap 0 ((xs.take k).drop l)) h
 | some m =>
   refine iq (ψ := fun φ h => dG lo 0 fun l => l ≤ h ∧ h ≤ xs.length ∧ hi.isSome = true ∧ dG (some m) 0 fun m => m = h ∧ (∀ y ∈ xs, y.cells.length = esz) ∧ φ (.ap esz ((xs.take h).drop l))) h fun k h => ?_
   refine iq (ψ := fun φ l => l ≤ k ∧ k ≤ xs.length ∧ hi.isSome = true ∧ dG (some m) 0 fun m => m = k ∧ (∀ y ∈ xs, y.cells.length = esz) ∧ φ (.ap esz ((xs.take k).drop l))) h fun l h => ?_
   obtain ⟨h1, h2, h3, h4⟩ := h
   obtain ⟨z, k1, k2⟩ := nV (g := fun _ => .ap esz ((xs.take k).drop l)) h4
   exact ⟨z, ⟨h1, h2, h3, k1⟩, k2⟩
theorem BA {esz : Nat} {x : AV} {lo hi mx : Option AV} (h : bn esz x lo hi mx φ) : ∃ z, bn esz x lo hi mx (fun w => w = z) ∧ φ z := by
 unfold bn gk nI at *
 split at h
 ·rename_i id off len cap
  split at h
  rotate_left
  ·rename_i m
   obtain ⟨h1, h2⟩ := h
   have := iq (ψ := fun φ m => dG hi len fun h => dG lo 0 fun l => l ≤ h ∧ h ≤ m ∧ m ≤ cap ∧ φ (.bf id (if m = l then off else off + l * esz) (h - l) (m - l))) h2 fun m h =>
    iq (ψ := fun φ h => dG lo 0 fun l => l ≤ h ∧ h ≤ m ∧ m ≤ cap ∧ φ (.bf id (if m = l then off else off + l * esz) (h - l) (m - l))) h fun k h =>
     iq (ψ := fun φ l => l ≤ k ∧ k ≤ m ∧ m ≤ cap ∧ φ (.bf id (if m = l then off else off + l * esz) (k - l) (m - l))) h fun l h => ⟨_, ⟨h.1, h.2.1, h.2.2.1, rfl⟩, h.2.2.2⟩
   obtain ⟨z, k1, k2⟩ := this
   exact ⟨z, ⟨h1, k1⟩, k2⟩
  have h2 := h
  have := iq (ψ := fun φ h => dG lo 0 fun l => l ≤ h ∧ h ≤ cap ∧ φ (.bf id (if cap = l then off else off + l * esz) (h - l) (cap - l))) h2 fun k h => nV (c1 := fun l => l ≤ k) (c2 := fun _ => k ≤ cap) (g := fun l => .bf id (if cap = l then off else off + l * esz) (k - l) (cap - l)) h
  obtain ⟨z, k1, k2⟩ := this
  exact ⟨z, k1, k2⟩
 ·obtain ⟨z, k1, k2⟩ := DJ h.2
  exact ⟨z, ⟨h.1, k1⟩, k2⟩
theorem wT {x : AV} {lo hi : Option AV} (h : b7 x lo hi φ) : ∃ z, b7 x lo hi (fun w => w = z) ∧ φ z := by
 unfold b7 at *
 split at h <;> (try exact h.elim)
 rename_i s
 exact iq (ψ := fun φ h => dG lo 0 fun l => l ≤ h ∧ h ≤ s.size ∧ φ (.str (s.extract l h))) h fun k h => nV (c1 := fun l => l ≤ k) (c2 := fun _ => k ≤ s.size) (g := fun l => .str (s.extract l k)) h
theorem BB {kd : Nat} {z m k : AV} {ok : Bool} {H : List aa} (h : cb kd z m k ok H φ) : ∃ y, cb kd z m k ok H (fun w => w = y) ∧ φ y := by
 unfold cb at *
 split at h <;> (try exact h.elim) <;> first | exact ⟨_, rfl, h⟩ | exact ⟨_, ⟨h.1, rfl⟩, h.2⟩ | (split at h <;> (try exact h.elim) <;> first | exact ⟨_, rfl, h⟩ | exact ⟨_, ⟨h.1, rfl⟩, h.2⟩ | (split at h <;> (try exact h.elim) <;> first | exact ⟨_, rfl, h⟩ | exact ⟨_, ⟨h.1, rfl⟩, h.2⟩))
theorem sR {esz : Nat} {own : Nat} : ∀ {ps : List (Nat × AV)} {zs : List AV}, bh zs esz ps (fun v => φ (.ap own v)) → ∃ z, bh zs esz ps (fun v => .ap own v = z) ∧ φ z
 | [], zs, h => ⟨_, rfl, h⟩
 | (i, x) :: r, zs, h => by
   obtain ⟨z, k1, k2⟩ := sR h.2.2.2
   exact ⟨z, ⟨h.1, h.2.1, h.2.2.1, k1⟩, k2⟩
theorem xJ : ∀ {ps : List (Nat × Nat × AV)} {zs : List AV}, gI zs ps (fun v => φ (.agg v)) → ∃ z, gI zs ps (fun v => .agg v = z) ∧ φ z
 | [], zs, h => ⟨_, rfl, h⟩
 | (off, sz, x) :: r, zs, h => by
   obtain ⟨z, k1, k2⟩ := xJ h.2.2.2
   exact ⟨z, ⟨h.1, h.2.1, h.2.2.1, k1⟩, k2⟩
end
def fB (v : AV) (A B : Prop) : Prop := eH v fun q => (q = true → A) ∧ (q = false → B)
@[congr] theorem OR {v v' : AV} {A B : Prop} (h : fY v = v') : fB v A B = fB v' A B := by subst h; rfl
theorem MU (A B : Prop) : fB (.bool true) A B = A := by simp [fB, eH]
theorem MV (A B : Prop) : fB (.bool false) A B = B := by simp [fB, eH]
theorem MW (b : Bool) (A B : Prop) : fB (.bool (!b)) A B = fB (.bool b) B A := by cases b <;> simp [fB, eH]
theorem MX (p : Prop) [Decidable p] (A B : Prop) : fB (.bool (decide p)) A B = ((p → A) ∧ (¬ p → B)) := by simp [fB, eH]
theorem qh {b : Bool} {A B : Prop} (h1 : b = true → A) (h2 : b = false → B) : fB (.bool b) A B := ⟨h1, h2⟩
def dE (v : AV) (g : Nat) (want : Bool) (env : Env) (yes no : Env → Prop) : Prop :=
 match v with
 | .bool b => (b = want → yes ((g, .bool want) :: env)) ∧ (b = (!want) → no ((g, .bool (!want)) :: env))
 | .tuple [] => no env
 | _ => False
@[congr] theorem MY {v v' : AV} {g : Nat} {want : Bool} {env : Env} {yes no : Env → Prop} (h : fY v = v') : dE v g want env yes no = dE v' g want env yes no := by subst h; rfl
section
variable (g : Nat) (env : Env) (yes no : Env → Prop)
theorem Vw : dE (.bool true) g true env yes no = yes ((g, .bool true) :: env) := by simp [dE]
theorem Vx : dE (.bool true) g false env yes no = no ((g, .bool true) :: env) := by simp [dE]
theorem Vy : dE (.bool false) g true env yes no = no ((g, .bool false) :: env) := by simp [dE]
theorem Vz : dE (.bool false) g false env yes no = yes ((g, .bool false) :: env) := by simp [dE]
theorem YJ (want : Bool) : dE (.tuple []) g want env yes no = no env := _root_.id rfl
theorem VA (p : Prop) [Decidable p] : dE (.bool (decide p)) g true env yes no = ((p → yes ((g, .bool true) :: env)) ∧ (¬ p → no ((g, .bool false) :: env))) := by simp [dE]
theorem VB (p : Prop) [Decidable p] : dE (.bool (decide p)) g false env yes no = ((¬ p → yes ((g, .bool false) :: env)) ∧ (p → no ((g, .bool true) :: env))) := by simp [dE]
end
def BC (P : Px) (g : FuncId) (xs : List AV) (H : List aa) (K : AV → List aa → Prop) : Prop := ∃ bO, xp xs bO ∧ dX P g bO H K
@[congr] theorem OS {P : Px} {g : FuncId} {xs xs' : List AV} {H H' : List aa} {K : AV → List aa → Prop} (h : fY xs = xs') (h2 : H = H') : BC P g xs H K = BC P g xs' H' K := by subst h; subst h2; rfl
theorem af {P : Program} {lo : Option Nat} {g : FuncId} {xs : List AV} {H : List aa} {R K : AV → List aa → Prop} (hc : aq P g xs H R) (hk : ∀ r H', R r H' → K r H') : BC ⟨P, lo⟩ g xs H K := ⟨xs, b9 _, dX.of (hc.mono hk)⟩
theorem ae {P : Program} {lo : Option Nat} {g : FuncId} {xs : List AV} {v : AV} {H : List aa} {K : AV → List aa → Prop} (hc : Pure P g xs v) (hk : K v H) : BC ⟨P, lo⟩ g xs H K :=
 ⟨xs, b9 _, dX.of ((hc H).mono fun r H' ⟨h1, h2⟩ => by rw [h1, h2]; exact hk)⟩
theorem MZ {P : Px} {env : Env} {H : List aa} (g : FuncId) (first cap : List AV) (args : List IX) (pass : Option Nat) (K : AV → Env → List aa → Prop) : oA P (.fn (.func g) first cap) args pass env H K =
 BC P g (first.map AV.ab ++ aF env pass 0 args ++ cap.map AV.ab) H (fun r H' => K r (cD env (bc args pass)) H') := _root_.id rfl
@[congr] theorem OT {P : Px} {f f' : AV} {args : List IX} {pass : Option Nat} {env : Env} {H : List aa} {K : AV → Env → List aa → Prop} (h : fY f = f') : oA P f args pass env H K = oA P f' args pass env H K := by subst h; rfl
def BD (P : Px) (st : Bool) (g : FuncId) (xs : List AV) (H : List aa) (K : AV → Prop) : Prop :=
 ∃ x, (match st with
  | true => ∃ bO, xp xs bO ∧ aq P.prog g bO H (fun r H' => r = x ∧ H' = H)
  | false => ∀ H, ∃ bO, xp xs bO ∧ aq P.prog g bO H (fun r H' => r = x ∧ H' = H)) ∧ K x
@[congr] theorem OU {P : Px} {st : Bool} {g : FuncId} {xs xs' : List AV} {H : List aa} {K : AV → Prop} (h : fY xs = xs') : BD P st g xs H K = BD P st g xs' H K := by subst h; rfl
theorem aH {P : Program} {lo : Option Nat} {st : Bool} {g : FuncId} {xs : List AV} {v : AV} {H : List aa} {K : AV → Prop} (hc : Pure P g xs v) (hk : K v) : BD ⟨P, lo⟩ st g xs H K :=
 ⟨v, (by cases st <;> first | exact ⟨xs, b9 _, hc H⟩ | exact fun H => ⟨xs, b9 _, hc H⟩), hk⟩
def o8 (P : Px) (st : Bool) (f : AV) (xs : List AV) (H : List aa) (K : AV → Prop) : Prop :=
 match f with
 | .fn (.func g) first cap => BD P st g (first.map AV.ab ++ xs ++ cap.map AV.ab) H K
 | _ => False
@[congr] theorem M4 {P : Px} {st : Bool} {f f' : AV} {xs xs' : List AV} {H : List aa} {K : AV → Prop} (h : fY f = f') (h2 : xs = xs') : o8 P st f xs H K = o8 P st f' xs' H K := by subst h; subst h2; rfl
theorem GP {P : Px} {st : Bool} (g : FuncId) (first cap xs : List AV) (H : List aa) (K : AV → Prop) : o8 P st (.fn (.func g) first cap) xs H K = BD P st g (first.map AV.ab ++ xs ++ cap.map AV.ab) H K := _root_.id rfl
def gL (x : AV) (H : List aa) (φ : AV → Prop) : Prop := match x with | .ap _ xs => φ (.int .i64 xs.length) | x => eW x H φ
@[congr] theorem OV {x x' : AV} {H : List aa} {φ : AV → Prop} (h : fY x = x') : gL x H φ = gL x' H φ := by subst h; rfl
theorem GQ {x : AV} {H : List aa} {φ : AV → Prop} (h : gL x H φ) : ∃ z, eW x H (fun w => w = z) ∧ φ z := by
 cases x with
 | ap o xs => exact ⟨_, fun _ => rfl, h⟩
 | map id =>
   simp only [gL, eW] at h ⊢
   split at h
   ·exact ⟨_, rfl, h⟩
   ·exact h.elim
 | _ => first | exact ⟨_, rfl, h⟩ | exact False.elim h
def nW (kd : Nat) (neq : Bool) (x : AV) (φ : AV → Prop) : Prop := match isNil kd x with | some b => φ (.bool (if neq then !b else b)) | none => False
@[congr] theorem Lf {kd : Nat} {neq : Bool} {x x' : AV} {φ : AV → Prop} (h : fY x = x') : nW kd neq x φ = nW kd neq x' φ := by subst h; rfl
def vg (o : bW) (ρ : IX → AV) (H : List aa) (K : AV → Prop) : Prop :=
 match o with
 | .set i false => K (ρ i).ab
 | .pick c a b => fB (ρ c) (K (ρ a).ab) (K (ρ b).ab)
 | .bin op i j => cV op (ρ i) (ρ j) K
 | .shift op i j => dL op (ρ i) (ρ j) K
 | .gO neq i j => cM neq (ρ i) (ρ j) K
 | .iT kd neq i => nW kd neq (ρ i) K
 | .un op i => yH op (ρ i) K
 | .k9 i => (ρ i).val = true ∧ K (.ai (ρ i))
 | .build z ps => cC z.cells (ps.map fun q => (q.1, q.2.1, ρ q.2.2)) K
 | .buildSlice own esz z len ps => bh (List.replicate len (aT z)) esz (ps.map fun q => (q.1, ρ q.2)) fun xs => K (.ap own xs)
 | .load sz i => aS sz (ρ i) H K
 | .nilCheck i => bR (ρ i) K
 | .fieldAddr off sz i => ak off sz (ρ i) K
 | .field off sz i => eI off sz (ρ i) K
 | .indexAddr esz i j => (∀ own xs, ρ i = .ap own xs → ∀ z ∈ xs, z.cells.length = esz) ∧ ay esz (ρ i) (ρ j) K
 | .c8 i j => bH (ρ i) (ρ j) K
 | .dJ n i j => bQ n (ρ i) (ρ j) K
 | .slice esz i lo hi mx => bn esz (ρ i) (lo.map ρ) (hi.map ρ) (mx.map ρ) K
 | .dK i lo hi => b7 (ρ i) (lo.map ρ) (hi.map ρ) K
 | .len kd i => aL kd (ρ i) ∧ gL (ρ i) H K
 | .lookup kd z m k ok => cb kd z (ρ m) (ρ k) ok H K
 | .fn f first cap => K (.fn f (first.map fun x => (ρ x).ab) (cap.map fun x => (ρ x).ab))
 | .extract i k => bC (ρ i) k K
 | .eC k i => cp k (ρ i) K
 | .mx big i j => wy big (ρ i) (ρ j) K
 | _ => False
theorem BE {P : Px} {o : bW} {ρ : IX → AV} {H : List aa} {K : AV → Prop} (h : vg o ρ H K) : ∃ x, cS P o ρ H x ∧ K x := by
 unfold vg at h
 split at h
 ·exact ⟨_, rfl, h⟩
 ·unfold fB eH at h
  simp only [cS, eH]
  split at h
  ·rename_i b hb
   cases b with
   | true => exact ⟨_, ⟨fun _ => rfl, fun e => by cases e⟩, h.1 rfl⟩
   | false => exact ⟨_, ⟨fun e => (by cases e), fun _ => rfl⟩, h.2 rfl⟩
  ·exact h.elim
 ·exact Jf h
 ·exact DH h
 ·exact Bz h
 ·unfold nW at h
  split at h
  ·rename_i b hb
   refine ⟨_, ?_, h⟩
   simp only [cS, dc, hb]
  ·exact h.elim
 ·exact MS h
 ·exact ⟨_, ⟨h.1, rfl⟩, h.2⟩
 ·exact xJ h
 ·exact sR h
 ·exact GO h
 ·exact wS h
 ·exact ve h
 ·exact DI h
 ·obtain ⟨z, k1, k2⟩ := vf h.2
  exact ⟨z, ⟨h.1, k1⟩, k2⟩
 ·exact wQ h
 ·exact wR h
 ·exact BA h
 ·exact wT h
 ·obtain ⟨z, k1, k2⟩ := GQ h.2
  exact ⟨z, ⟨h.1, k1⟩, k2⟩
 ·exact BB h
 ·exact ⟨_, rfl, h⟩
 ·exact zG h
 ·exact zH h
 ·exact MT h
 ·exact h.elim
theorem GR {P : Px} {o : bW} {ρ : IX → AV} {K : AV → Prop} (h : vg o ρ [] K) : ∃ x, (∀ H, cS P o ρ H x) ∧ K x := by
 obtain ⟨x, h1, h2⟩ := BE (P := P) h
 have hs : o.stays = true := by
  cases o <;> first | rfl | exact h.elim
 exact ⟨x, fun H => by have := xx (e := H) hs h1; simpa using this, h2⟩
def kY (P : Px) (st : Bool) (o : bW) (ρ : IX → AV) (H : List aa) (K : AV → Prop) : Prop :=
 match o with
 | .call f args none => o8 P st (ρ f) (args.map fun x => (ρ x).ab) H K
 | o => vg o ρ (match st with | true => H | false => []) K
theorem Jg {P : Px} {st : Bool} {o : bW} {ρ : IX → AV} {H : List aa} {K : AV → Prop} (h : kY P st o ρ H K) : ∃ x, dv P st o ρ H x ∧ K x := by
 unfold kY at h
 split at h
 ·rename_i f args
  unfold o8 at h
  split at h
  ·rename_i g first cap e
   obtain ⟨x, h1, h2⟩ := h
   cases st with
   | true => exact ⟨x, by simp only [dv, cS, e]; exact h1, h2⟩
   | false => exact ⟨x, by simp only [dv, cS, e]; exact h1, h2⟩
  ·exact h.elim
 ·cases st with
  | true => exact BE h
  | false => exact GR h
def Fh (P : Px) (st : Bool) (o : bu) (env : Env) (H : List aa) (K : Env → Prop) : Prop :=
 match o.g with
 | none => kY P st o.op (al env) H fun x => K (put o.dst x env)
 | some (g, want) => dE (get env g) g want env (fun _ => kY P st o.op (al env) H fun x => K (put o.dst x env)) (fun _ => K (put o.dst (.tuple []) env))
theorem BF {P : Px} {st : Bool} {o : bu} {env : Env} {H : List aa} {K1 K2 : Env → Prop} (h : Fh P st o env H K1) (hK : ∀ e, K1 e → K2 e) : sD P st o env H K2 := by
 unfold Fh at h
 unfold sD
 split at h
 ·rename_i e
  rw [e]
  obtain ⟨x, h1, h2⟩ := Jg h
  exact ⟨x, h1, hK _ h2⟩
 ·rename_i g want e
  rw [e]
  unfold dE at h
  unfold gR
  dsimp only
  split at h
  ·rename_i b hb
   rw [hb]
   refine ⟨fun eb => ?_, fun eb => hK _ (h.2 eb)⟩
   obtain ⟨x, h1, h2⟩ := Jg (h.1 eb)
   exact ⟨x, h1, hK _ h2⟩
  ·rename_i hb
   rw [hb]
   exact hK _ h
  ·exact h.elim
theorem BG {P : Px} {o : bW} {dst : Option Nat} {env : Env} {H : List aa} {K1 K2 : Env → List aa → Prop} (h : bt P o dst env H K1) (hK : ∀ e H', K1 e H' → K2 e H') : bt P o dst env H K2 :=
 nN (fun _ _ => rfl) h fun mods H' _ _ _ hk => hK _ _ hk
theorem rC {P : Px} {o : bu} {env : Env} {H : List aa} {K1 K2 : Env → List aa → Prop} (h : rb P o env H K1) (hK : ∀ e H', K1 e H' → K2 e H') : rb P o env H K2 := by
 unfold rb at *
 split at h
 ·exact BG h hK
 ·rename_i g want e
  unfold gR at *
  split at h
  ·exact ⟨fun eb => BG (h.1 eb) hK, fun eb => hK _ _ (h.2 eb)⟩
  ·exact hK _ _ h
  ·exact h.elim
theorem rD {P : Px} : ∀ {ops : List bu} {env : Env} {H : List aa} {K1 K2 : Env → List aa → Prop}, iZ P ops env H K1 → (∀ e H', K1 e H' → K2 e H') → iZ P ops env H K2
 | [], _, _, _, _, h, hK => hK _ _ h
 | o :: r, _, _, _, _, h, hK => rC h fun _ _ h => rD h hK
def iP (P : Px) : DT → Env → List aa → (Env → List aa → Prop) → Prop
 | .done, env, H, K => K env H
 | .take st o r, env, H, K => Fh P st o env H fun env => iP P r env H K
 | .br o t rest, env, H, K => rb P o env H (fun env H => iP P t env H K) ∧ iP P rest env H K
 | .nil, _, _, _ => True
theorem qi {P : Px} : ∀ {t : DT} {env : Env} {H : List aa} {K1 K2 : Env → List aa → Prop}, iP P t env H K1 → (∀ e H', K1 e H' → K2 e H') → tF P t env H K2
 | .done, _, _, _, _, h, hK => hK _ _ h
 | .take st o r, _, _, _, _, h, hK => BF h fun _ h => qi h hK
 | .br o t rest, _, _, _, _, h, hK => ⟨rC h.1 fun _ _ h => qi h hK, qi h.2 hK⟩
 | .nil, _, _, _, _, h, hK => trivial
def vh (P : Px) (f : AV) (lc : ig) (env : Env) (H : List aa) (K : Option Code → List aa → Prop) : Prop :=
 match f with
 | .fn (.func g) first cap => (∀ (as : Array Value) (w : World), (callFunc g as).run P.prog w = .ok (.enter g as) w) ∧
    ∃ bO, xp (first.map AV.ab ++ [.mC H.length] ++ cap.map AV.ab) bO ∧ dX P g bO (H ++ [.loop .ready lc (kg lc.n env)]) fun _ H' => behind H.length H' K
 | _ => False
theorem xK {j : Option Code} {Q1 Q2 : Exit → Env → List aa → Prop} {env : Env} {H : List aa} (h : oS j Q1 env H) (hQ : ∀ x e H', Q1 x e H' → Q2 x e H') : oS j Q2 env H := by
 unfold oS at *
 split at h <;> first | exact hQ _ _ _ h | exact h.elim
theorem sS {id : Nat} {H : List aa} {K1 K2 : Option Code → List aa → Prop} (h : behind id H K1) (hK : ∀ j H', K1 j H' → K2 j H') : behind id H K2 := by
 unfold behind at *
 split at h <;> first | exact hK _ _ h | exact h.elim
def kZ (P : Px) (n0 : Nat) : IR → Env → List aa → (Exit → Env → List aa → Prop) → Prop
 | .skip, env, H, Q => Q .normal env H
 | .region ops live, env, H, Q => iZ P ops env H fun aD H' => Q .normal (eo live aD) H'
 | .draw t live, env, H, Q => iP P t env H fun aD H' => Q .normal (eo live aD) H'
 | .seq a b, env, H, Q => kZ P n0 a env H fun e aD H' => match e with
   | .normal => kZ P n0 b aD H' Q
   | e => Q e aD H'
 | .cond x a b, env, H, Q => fB (al env x) (kZ P n0 a env H Q) (kZ P n0 b env H Q)
 | .block id a, env, H, Q => kZ P n0 a env H fun e aD H' => match e with
   | .exit id' => if id' = id then Q .normal aD H' else Q (.exit id') aD H'
   | e => Q e aD H'
 | .loop a, env, H, Q => ∃ (ι : Type) (I : ι → Prop) (se : ι → Env) (sh : ι → List aa) (μ : ι → Nat), (∃ i, I i ∧ Gi P.lo n0 env H (se i) (sh i)) ∧
    ∀ i, I i → kZ P n0 a (se i) (sh i) fun e aD H' => match e with
     | .normal => ∃ j, I j ∧ μ j < μ i ∧ Gi P.lo n0 aD H' (se j) (sh j)
     | e => Q e aD H'
 | .exit id, env, H, Q => Q (.exit id) env H
 | .ret, env, H, Q => Q .ret env H
 | .never, env, H, Q => False
 | .iK f lc, env, H, Q => vh P (al env f) lc env H fun j H'' => oS j Q env H''
theorem tP {P : Px} {n0 : Nat} : ∀ {ir : IR} {env : Env} {H : List aa} {Q1 Q2 : Exit → Env → List aa → Prop}, kZ P n0 ir env H Q1 → (∀ x e H', Q1 x e H' → Q2 x e H') → mb P n0 ir env H Q2 := by
 intro ir
 induction ir with
 | skip => exact fun h hQ => hQ _ _ _ h
 | region ops live => exact fun h hQ => rD h fun _ _ h => hQ _ _ _ h
 | draw t live => exact fun h hQ => qi h fun _ _ h => hQ _ _ _ h
 | seq a b DK Rr =>
   exact fun h hQ => DK h fun x e H' h => by
    cases x with
    | normal => exact Rr h hQ
    | _ => exact hQ _ _ _ h
 | cond x a b DK Rr =>
   intro env H Q1 Q2 h hQ
   unfold kZ fB eH at h
   unfold mb eH
   split at h
   ·exact ⟨fun e => DK (h.1 e) hQ, fun e => Rr (h.2 e) hQ⟩
   ·exact h.elim
 | block id a DK =>
   exact fun h hQ => DK h fun x e H' h => by
    cases x with
    | exit id' =>
      dsimp only at h ⊢
      split
      ·rename_i bm; rw [if_pos bm] at h; exact hQ _ _ _ h
      ·rename_i bm; rw [if_neg bm] at h; exact hQ _ _ _ h
    | _ => exact hQ _ _ _ h
 | loop a DK =>
   intro env H Q1 Q2 h hQ
   obtain ⟨ι, I, se, sh, μ, h0, hs⟩ := h
   exact ⟨ι, I, se, sh, μ, h0, fun i hi => DK (hs i hi) fun x e H' h => by
    cases x with
    | normal => exact h
    | _ => exact hQ _ _ _ h⟩
 | exit id => exact fun h hQ => hQ _ _ _ h
 | ret => exact fun h hQ => hQ _ _ _ h
 | never => exact fun h _ => h.elim
 | iK f lc =>
   intro env H Q1 Q2 h hQ
   unfold kZ vh at h
   unfold mb
   split at h
   ·rename_i g first cap e
    obtain ⟨h1, bO, h2, h3⟩ := h
    rw [e]
    exact ⟨h1, bO, h2, h3.mono fun _ H' hb => sS hb fun j H'' hg => xK hg hQ⟩
   ·exact h.elim
theorem ij.calls {P : Program} {f : FuncId} {fi : qe} (h : ij P f fi) {args : List AV} {H : List aa} {R : AV → List aa → Prop} (hn : Nat.ble args.length fi.n = true)
 (hw : kZ P H.length fi.ir (bV 0 args) H fun e env H' => (e = .normal ∨ e = .ret) ∧ bT H.length fi.rs env H' R) : aq P f args H R :=
 h.zw (Nat.le_of_ble_eq_true hn) (tP hw fun _ _ _ h => h)
theorem ij.DL {P : Program} {f : FuncId} {fi : qe} (h : ij P f fi) {args : List AV} {H : List aa} {R : AV → List aa → Prop} (hn : Nat.ble args.length fi.n = true)
 (hw : kZ ⟨P, some H.length⟩ H.length fi.ir (bV 0 args) H fun e env H' => (e = .normal ∨ e = .ret) ∧ kF (mc H.length) H.length fi.rs env H' R) : aq P f args H R :=
 h.L3 (Nat.le_of_ble_eq_true hn) (tP hw fun _ _ _ h => h)
section
variable {P : Px} {n0 : Nat} {env : Env} {H : List aa} {Q : Exit → Env → List aa → Prop}
theorem Jh : kZ P n0 .skip env H Q = Q .normal env H := _root_.id rfl
theorem DM (ops : List bu) (live : Option (List Nat)) : kZ P n0 (.region ops live) env H Q = iZ P ops env H fun aD H' => Q .normal (eo live aD) H' := _root_.id rfl
theorem Ji (t : DT) (live : Option (List Nat)) : kZ P n0 (.draw t live) env H Q = iP P t env H fun aD H' => Q .normal (eo live aD) H' := _root_.id rfl
theorem M5 (a b : IR) : kZ P n0 (.seq a b) env H Q = kZ P n0 a env H fun e aD H' => match e with
 | .normal => kZ P n0 b aD H' Q
 | e => Q e aD H' := _root_.id rfl
theorem BH (x : IX) (a b : IR) : kZ P n0 (.cond x a b) env H Q = fB (al env x) (kZ P n0 a env H Q) (kZ P n0 b env H Q) := _root_.id rfl
theorem GS (id : Nat) (a : IR) : kZ P n0 (.block id a) env H Q = kZ P n0 a env H fun e aD H' => match e with
 | .exit id' => if id' = id then Q .normal aD H' else Q (.exit id') aD H'
 | e => Q e aD H' := _root_.id rfl
theorem xL (f : IX) (lc : ig) : kZ P n0 (.iK f lc) env H Q = vh P (al env f) lc env H fun j H'' => oS j Q env H'' := _root_.id rfl
theorem Jj (id : Nat) : kZ P n0 (.exit id) env H Q = Q (.exit id) env H := _root_.id rfl
theorem M6 : kZ P n0 .ret env H Q = Q .ret env H := _root_.id rfl
@[congr] theorem Tj {ir : IR} {aD : Env} {H' : List aa} (h : fY env = aD) (h2 : H = H') : kZ P n0 ir env H Q = kZ P n0 ir aD H' Q := by subst h; subst h2; rfl
@[congr] theorem Ru {ops : List bu} {aD : Env} {H' : List aa} {K : Env → List aa → Prop} (h : fY env = aD) (h2 : H = H') : iZ P ops env H K = iZ P ops aD H' K := by subst h; subst h2; rfl
@[congr] theorem Rv {t : DT} {aD : Env} {H' : List aa} {K : Env → List aa → Prop} (h : fY env = aD) (h2 : H = H') : iP P t env H K = iP P t aD H' K := by subst h; subst h2; rfl
theorem Jk (K : Env → List aa → Prop) : iZ P [] env H K = K env H := _root_.id rfl
theorem Rw (d : Option Nat) (op : bW) (r : List bu) (K : Env → List aa → Prop) : iZ P (⟨none, d, op⟩ :: r) env H K = bt P op d env H fun env H => iZ P r env H K := _root_.id rfl
theorem Rx (g : Nat) (w : Bool) (d : Option Nat) (op : bW) (r : List bu) (K : Env → List aa → Prop) : iZ P (⟨some (g, w), d, op⟩ :: r) env H K =
 dE (get env g) g w env (fun env => bt P op d env H fun env H => iZ P r env H K) (fun env => iZ P r (put d (.tuple []) env) H K) := _root_.id rfl
theorem VC (d : Option Nat) (op : bW) (K : Env → List aa → Prop) : rb P ⟨none, d, op⟩ env H K = bt P op d env H K := _root_.id rfl
theorem VD (g : Nat) (w : Bool) (d : Option Nat) (op : bW) (K : Env → List aa → Prop) : rb P ⟨some (g, w), d, op⟩ env H K =
 dE (get env g) g w env (fun env => bt P op d env H K) (fun env => K (put d (.tuple []) env) H) := _root_.id rfl
@[congr] theorem Tk {o : bu} {K : Env → List aa → Prop} {H' : List aa} (h : fY H = H') : rb P o env H K = rb P o env H' K := by subst h; rfl
@[congr] theorem Tl {o : bW} {d : Option Nat} {K : Env → List aa → Prop} {H' : List aa} (h : fY H = H') : bt P o d env H K = bt P o d env H' K := by subst h; rfl
theorem GU (K : Env → List aa → Prop) : iP P .done env H K = K env H := _root_.id rfl
theorem Jl (K : Env → List aa → Prop) : iP P .nil env H K = True := _root_.id rfl
theorem Ry (st : Bool) (d : Option Nat) (op : bW) (r : DT) (K : Env → List aa → Prop) : iP P (.take st ⟨none, d, op⟩ r) env H K = kY P st op (al env) H fun x => iP P r (put d x env) H K := _root_.id rfl
theorem Rz (st : Bool) (g : Nat) (w : Bool) (d : Option Nat) (op : bW) (r : DT) (K : Env → List aa → Prop) : iP P (.take st ⟨some (g, w), d, op⟩ r) env H K =
 dE (get env g) g w env (fun _ => kY P st op (al env) H fun x => iP P r (put d x env) H K) (fun _ => iP P r (put d (.tuple []) env) H K) := _root_.id rfl
theorem M7 (o : bu) (t rest : DT) (K : Env → List aa → Prop) : iP P (.br o t rest) env H K = (rb P o env H (fun env H => iP P t env H K) ∧ iP P rest env H K) := _root_.id rfl
@[congr] theorem Tm {st : Bool} {o : bW} {ρ : IX → AV} {K : AV → Prop} {H' : List aa} (h : fY H = H') : kY P st o ρ H K = kY P st o ρ H' K := by subst h; rfl
theorem Jm {P : Program} {a : IR} (ι : Type) (I : ι → Prop) (se : ι → Env) (sh : ι → List aa) (μ : ι → Nat) (i0 : ι) (h0 : I i0) (Yx : sle n0 env H (se i0) (sh i0))
 (hs : ∀ i, I i → kZ P n0 a (se i) (sh i) fun e aD H' => match e with
   | .normal => ∃ j, I j ∧ μ j < μ i ∧ sle n0 aD H' (se j) (sh j)
   | e => Q e aD H') : kZ P n0 (.loop a) env H Q := ⟨ι, I, se, sh, μ, ⟨i0, h0, Yx⟩, hs⟩
theorem aB {P : Program} {a : IR} (N : Nat) (I : Nat → Prop) (se : Nat → Env) (sh : Nat → List aa) (h0 : I 0 ∧ sle n0 env H (se 0) (sh 0))
 (hs : ∀ i, i ≤ N → I i → kZ P n0 a (se i) (sh i) fun e aD H' => match e with
   | .normal => ∃ j, (j ≤ N ∧ I j) ∧ N - j < N - i ∧ sle n0 aD H' (se j) (sh j)
   | e => Q e aD H') : kZ P n0 (.loop a) env H Q :=
 ⟨Nat, fun i => i ≤ N ∧ I i, se, sh, fun i => N - i, ⟨0, ⟨Nat.zero_le _, h0.1⟩, h0.2⟩, fun i hi => hs i hi.1 hi.2⟩
end
section
variable {φ : AV → Prop}
@[congr] theorem OW {v v' : AV} {ψ : Bool → Prop} (h : fY v = v') : eH v ψ = eH v' ψ := by subst h; rfl
@[congr] theorem RA {op : BinOp} {x x' y y' : AV} (h : fY x = x') (h2 : y = y') : cV op x y φ = cV op x' y' φ := by subst h; subst h2; rfl
@[congr] theorem M8 {op : BinOp} {x x' y y' : AV} (h : fY x = x') (h2 : y = y') : dL op x y φ = dL op x' y' φ := by subst h; subst h2; rfl
@[congr] theorem Lg {n : Bool} {x x' y y' : AV} (h : fY x = x') (h2 : y = y') : cM n x y φ = cM n x' y' φ := by subst h; subst h2; rfl
@[congr] theorem M9 {k : Nat} {n : Bool} {x x' : AV} (h : fY x = x') : dc k n x φ = dc k n x' φ := by subst h; rfl
@[congr] theorem Tn {op : UnOp} {x x' : AV} (h : fY x = x') : yH op x φ = yH op x' φ := by subst h; rfl
@[congr] theorem OX {sz : Option Nat} {x x' : AV} {H H' : List aa} (h : fY x = x') (h2 : H = H') : aS sz x H φ = aS sz x' H' φ := by subst h; subst h2; rfl
@[congr] theorem GV {off : Nat} {sz : Option Nat} {x x' : AV} (h : fY x = x') : ak off sz x φ = ak off sz x' φ := by subst h; rfl
@[congr] theorem Na {off : Nat} {sz : Option Nat} {x x' : AV} (h : fY x = x') : eI off sz x φ = eI off sz x' φ := by subst h; rfl
@[congr] theorem GW {e : Nat} {x x' y y' : AV} (h : fY x = x') (h2 : y = y') : ay e x y φ = ay e x' y' φ := by subst h; subst h2; rfl
@[congr] theorem HU {n : Nat} {x x' y y' : AV} (h : fY x = x') (h2 : y = y') : bQ n x y φ = bQ n x' y' φ := by subst h; subst h2; rfl
@[congr] theorem HV {x x' y y' : AV} (h : fY x = x') (h2 : y = y') : bH x y φ = bH x' y' φ := by subst h; subst h2; rfl
@[congr] theorem RB {x x' : AV} {H H' : List aa} (h : fY x = x') (h2 : H = H') : eW x H φ = eW x' H' φ := by subst h; subst h2; rfl
@[congr] theorem Jn {x x' : AV} {i : Nat} (h : fY x = x') : bC x i φ = bC x' i φ := by subst h; rfl
@[congr] theorem HW {x x' : AV} (h : fY x = x') : bR x φ = bR x' φ := by subst h; rfl
@[congr] theorem Jo {k : IntKind} {x x' : AV} (h : fY x = x') : cp k x φ = cp k x' φ := by subst h; rfl
@[congr] theorem To {b : Bool} {x x' y y' : AV} (h : fY x = x') (h2 : y = y') : wy b x y φ = wy b x' y' φ := by subst h; subst h2; rfl
@[congr] theorem Lh {kd : Nat} {z m m' k k' : AV} {ok : Bool} {H H' : List aa} (h : fY m = m') (h2 : k = k') (h3 : H = H') : cb kd z m k ok H φ = cb kd z m' k' ok H' φ := by subst h; subst h2; subst h3; rfl
@[congr] theorem Li {kd : Nat} {m m' k k' x x' : AV} {H H' : List aa} {K : List aa → Prop} (h : fY m = m') (h2 : k = k') (h3 : x = x') (h4 : H = H') : eZ kd m k x H K = eZ kd m' k' x' H' K := by subst h; subst h2; subst h3; subst h4; rfl
@[congr] theorem Nb {m : Nat} {p p' x x' : AV} {H H' : List aa} {K : List aa → Prop} (h : fY p = p') (h2 : x = x') (h3 : H = H') : gQ m p x H K = gQ m p' x' H' K := by subst h; subst h2; subst h3; rfl
@[congr] theorem Jp {p p' x x' : AV} {H H' : List aa} {K : List aa → Prop} (h : fY p = p') (h2 : x = x') (h3 : H = H') : dM p x H K = dM p' x' H' K := by subst h; subst h2; subst h3; rfl
@[congr] theorem Lj {e b : Nat} {s s' x x' : AV} {ψ : List AV → Prop} (h : fY s = s') (h2 : x = x') : bE e b s x ψ = bE e b s' x' ψ := by subst h; subst h2; rfl
@[congr] theorem Nc {e b : Nat} {z n n' : AV} {H H' : List aa} {K : AV → List aa → Prop} (h : fY n = n') (h2 : H = H') : fK e b z n H K = fK e b z n' H' K := by subst h; subst h2; rfl
@[congr] theorem Jq {e b : Nat} {z s s' x x' : AV} {H H' : List aa} {K : AV → List aa → Prop} (h : fY s = s') (h2 : x = x') (h3 : H = H') : cG e b z s x H K = cG e b z s' x' H' K := by subst h; subst h2; subst h3; rfl
@[congr] theorem Lk {e : Nat} {z x x' : AV} {H H' : List aa} {K : List aa → Prop} (h : fY x = x') (h2 : H = H') : gY e z x H K = gY e z x' H' K := by subst h; subst h2; rfl
@[congr] theorem OY {xs xs' : List AV} {H H' : List aa} {K : AV → List aa → Prop} (h : fY xs = xs') (h2 : H = H') : sx xs H K = sx xs' H' K := by subst h; subst h2; rfl
@[congr] theorem Nf {e b : Nat} {n n' : AV} (h : fY n = n') : iI e b n φ = iI e b n' φ := by subst h; rfl
@[congr] theorem OZ {e : Nat} {d d' s s' : AV} {H H' : List aa} {K : AV → List aa → Prop} (h : fY d = d') (h2 : s = s') (h3 : H = H') : jo e d s H K = jo e d' s' H' K := by subst h; subst h2; subst h3; rfl
@[congr] theorem O0 {e : Nat} {x x' : AV} {H H' : List aa} {K : AV → List aa → Prop} (h : fY x = x') (h2 : H = H') : ff e x H K = ff e x' H' K := by subst h; subst h2; rfl
@[congr] theorem Ll {e : Nat} {x x' : AV} {lo lo' hi mj m m' : Option AV} (h : fY x = x') (h1 : lo = lo') (h2 : hi = mj) (h3 : m = m') : bn e x lo hi m φ = bn e x' lo' mj m' φ := by subst h; subst h1; subst h2; subst h3; rfl
@[congr] theorem HX {x x' : AV} {lo lo' hi mj : Option AV} (h : fY x = x') (h1 : lo = lo') (h2 : hi = mj) : b7 x lo hi φ = b7 x lo' mj φ := by subst h; subst h1; subst h2; rfl
@[congr] theorem RC {n0 : Nat} {rs : List RX} {env aD : Env} {H H' : List aa} {R : AV → List aa → Prop} (h : fY env = aD) (h2 : H = H') : bT n0 rs env H R = bT n0 rs aD H' R := by subst h; subst h2; rfl
end
end Go.aK
end
section
namespace Go.aK
open Go
section
variable {P : Px} {env : Env} {H : List aa} {dst : Option Nat} {K : Env → List aa → Prop}
theorem RD (op : BinOp) (x : IX) (y : IX) : bt P (.bin op x y) dst env H K = (cV op (al env x) (al env y) fun z => K (put dst z env) H) := _root_.id rfl
theorem Jr (op : BinOp) (x : IX) (y : IX) : bt P (.shift op x y) dst env H K = (dL op (al env x) (al env y) fun z => K (put dst z env) H) := _root_.id rfl
theorem GX (neq : Bool) (x : IX) (y : IX) : bt P (.gO neq x y) dst env H K = (cM neq (al env x) (al env y) fun z => K (put dst z env) H) := _root_.id rfl
theorem Js (kd : Nat) (neq : Bool) (x : IX) : bt P (.iT kd neq x) dst env H K = (dc kd neq (al env x) fun z => K (put dst z env) H) := _root_.id rfl
theorem VE (op : UnOp) (x : IX) : bt P (.un op x) dst env H K = (yH op (al env x) fun z => K (put dst z env) H) := _root_.id rfl
theorem RE (x : IX) : bt P (.box x) dst env H K = ((al env x).val = true ∧ aj (H.length + 1) ((al env x).cells.map AV.ab) = true ∧ K (put dst (.ptr H.length 0) env) (H ++ [.cells ((al env x).cells.map AV.ab)])) := _root_.id rfl
theorem Ng (x : IX) : bt P (.k9 x) dst env H K = ((al env x).val = true ∧ K (put dst (.ai (al env x)) env) H) := _root_.id rfl
theorem Nh (m : Nat) (x : IX) : bt P (.qT m x) dst env H K = ((al env x).val = true ∧ (al env x).cells.length = m ∧ (al env x).cells.all AV.one = true ∧ K (put dst (.ai (al env x)) env) H) := _root_.id rfl
theorem Jt (z : AV) : bt P (.alloc z) dst env H K = (aj (H.length + 1) (z.cells.map AV.ab) = true ∧ K (put dst (.ptr H.length 0) env) (H ++ [.cells (z.cells.map AV.ab)])) := _root_.id rfl
theorem Ju (z : AV) (ps : List (Nat × Nat × IX)) : bt P (.build z ps) dst env H K = (cC z.cells (ps.map fun q => (q.1, q.2.1, al env q.2.2)) fun v => K (put dst v env) H) := _root_.id rfl
theorem wU (own : Nat) (esz : Nat) (z : AV) (len : Nat) (ps : List (Nat × IX)) : bt P (.buildSlice own esz z len ps) dst env H K = (bh (List.replicate len (aT z)) esz (ps.map fun q => (q.1, al env q.2)) fun xs => K (put dst (.ap own xs) env) H) := _root_.id rfl
theorem Ni (sz : Option Nat) (a : IX) : bt P (.load sz a) dst env H K = (aS sz (al env a) H fun z => K (put dst z env) H) := _root_.id rfl
theorem Jv (sz : Option Nat) (esz : Nat) (a : IX) : bt P (.sj sz esz a) dst env H K = (aS sz (al env a) H fun z => ff esz z H fun y H' => K (put dst y env) H') := _root_.id rfl
theorem Jw (m : Nat) (a : IX) (x : IX) : bt P (.store m a x) dst env H K = (gQ m (al env a) (al env x) H fun H' => K env H') := _root_.id rfl
theorem GY {P : Program} {l : Nat} (m : Nat) (a : IX) (x : IX) : bt ⟨P, some l⟩ (.mE m a x) dst env H K = (gh l m (al env a) (al env x) H fun H' => K env H') := _root_.id rfl
theorem DN (a : IX) (s : Nat) : bt P (.eV a s) dst env H K = (dM (al env a) (get env s) H fun H' => K ((s, (get env s).ab) :: env) H') := _root_.id rfl
theorem BI (x : IX) : bt P (.nilCheck x) dst env H K = (bR (al env x) fun z => K (put dst z env) H) := _root_.id rfl
theorem zJ (off : Nat) (sz : Option Nat) (x : IX) : bt P (.fieldAddr off sz x) dst env H K = (ak off sz (al env x) fun z => K (put dst z env) H) := _root_.id rfl
theorem Jx (off : Nat) (sz : Option Nat) (x : IX) : bt P (.field off sz x) dst env H K = (eI off sz (al env x) fun z => K (put dst z env) H) := _root_.id rfl
theorem zK (esz : Nat) (x : IX) (i : IX) : bt P (.indexAddr esz x i) dst env H K = ((∀ own xs, al env x = .ap own xs → ∀ z ∈ xs, z.cells.length = esz) ∧ ay esz (al env x) (al env i) fun z => K (put dst z env) H) := _root_.id rfl
theorem BJ (n : Nat) (x : IX) (i : IX) : bt P (.dJ n x i) dst env H K = (bQ n (al env x) (al env i) fun z => K (put dst z env) H) := _root_.id rfl
theorem GZ (esz : Nat) (x : IX) (lo : Option IX) (hi : Option IX) (mx : Option IX) : bt P (.oN esz x lo hi mx) dst env H K = ((∀ own xs, al env x = .ap own xs → ∀ z ∈ xs, z.cells.length = esz) ∧ eL esz (al env x) (fX env lo) (fX env hi) (fX env mx) fun z => z = .ap esz [] ∧ K (put dst .oh env) H) := _root_.id rfl
theorem BK (x : IX) (i : IX) : bt P (.c8 x i) dst env H K = (bH (al env x) (al env i) fun z => K (put dst z env) H) := _root_.id rfl
theorem Jy (esz : Nat) (x : IX) (lo : Option IX) (hi : Option IX) (mx : Option IX) : bt P (.slice esz x lo hi mx) dst env H K = (bn esz (al env x) (fX env lo) (fX env hi) (fX env mx) fun z => K (put dst z env) H) := _root_.id rfl
theorem Nj (esz : Nat) (d : IX) (s : IX) : bt P (.copy esz d s) dst env H K = (jo esz (al env d) (al env s) H fun z H' => K (put dst z env) H') := _root_.id rfl
theorem BL (x : IX) (lo : Option IX) (hi : Option IX) : bt P (.dK x lo hi) dst env H K = (b7 (al env x) (fX env lo) (fX env hi) fun z => K (put dst z env) H) := _root_.id rfl
theorem RF (kd : Nat) (x : IX) : bt P (.len kd x) dst env H K = (aL kd (al env x) ∧ eW (al env x) H fun z => K (put dst z env) H) := _root_.id rfl
theorem G7 (esz : Nat) (bytes : Nat) (s : IX) (x : IX) : bt P (.append esz bytes s x) dst env H K = (bE esz bytes (al env s) (al env x) fun zs => K (put dst (.ap esz zs) (cD env s.slot)) H) := _root_.id rfl
theorem Jz (esz : Nat) (bytes : Nat) (z : AV) (n : IX) : bt P (.sk esz bytes z n) dst env H K = (fK esz bytes z (al env n) H fun v H' => K (put dst v env) H') := _root_.id rfl
theorem tQ (esz : Nat) (z : AV) (len : Nat) (ps : List (Nat × IX)) : bt P (.AI esz z len ps) dst env H K = (bh (List.replicate len (aT z)) esz (ps.map fun q => (q.1, al env q.2)) fun xs => sx xs H fun v H' => K (put dst v env) H') := _root_.id rfl
theorem G8 (esz : Nat) (z : AV) (x : IX) : bt P (.mH esz z x) dst env H K = (gY esz z (al env x) H fun H' => K (put dst (.tuple []) env) H') := _root_.id rfl
theorem DO (esz bytes : Nat) (z : AV) (s x : IX) : bt P (.iV esz bytes z s x) dst env H K = (cG esz bytes z (al env s) (al env x) H fun v H' => K (put dst v env) H') := _root_.id rfl
theorem JA (esz : Nat) (bytes : Nat) (n : IX) : bt P (.mF esz bytes n) dst env H K = (iI esz bytes (al env n) fun v => K (put dst v env) H) := _root_.id rfl
theorem JB  : bt P (.mG ) dst env H K = (K (put dst (.map H.length) env) (H ++ [.map []])) := _root_.id rfl
theorem G9 (kd : Nat) (z : AV) (m : IX) (k : IX) (ok : Bool) : bt P (.lookup kd z m k ok) dst env H K = (cb kd z (al env m) (al env k) ok H fun v => K (put dst v env) H) := _root_.id rfl
theorem Ha (kd : Nat) (m : IX) (k : IX) (x : IX) : bt P (.jY kd m k x) dst env H K = (eZ kd (al env m) (al env k) (al env x) H fun H' => K env H') := _root_.id rfl
theorem VF (f : Fn) (first : List IX) (cap : List IX) : bt P (.fn f first cap) dst env H K = (K (put dst (.fn f (first.map fun x => (al env x).ab) (cap.map fun x => (al env x).ab)) env) H) := _root_.id rfl
theorem DP (x : IX) (i : Nat) : bt P (.extract x i) dst env H K = (bC (al env x) i fun z => K (put dst z env) H) := _root_.id rfl
theorem DQ (k : IntKind) (x : IX) : bt P (.eC k x) dst env H K = (cp k (al env x) fun z => K (put dst z env) H) := _root_.id rfl
theorem DR (x : IX) : bt P (.gg x) dst env H K = (fx (al env x) fun z => K (put dst z env) H) := _root_.id rfl
theorem DS (x : IX) : bt P (.bytesOf x) dst env H K = (eM 1 (al env x) fun z => K (put dst z env) H) := _root_.id rfl
theorem JC (x : IX) : bt P (.strOf x) dst env H K = (jn (al env x) fun z => K (put dst z env) H) := _root_.id rfl
theorem VG (big : Bool) (a : IX) (b : IX) : bt P (.mx big a b) dst env H K = (wy big (al env a) (al env b) fun z => K (put dst z env) H) := _root_.id rfl
theorem Nk (esz : Nat) (x : IX) : bt P (.yF esz x) dst env H K = (ff esz (al env x) H fun z H' => K (put dst z env) H') := _root_.id rfl
theorem JD (x : IX) (take : Bool) : bt P (.set x take) none env H K = K env H := _root_.id rfl
theorem RG (d : Nat) (x : IX) : bt P (.set x false) (some d) env H K = K ((d, (al env x).ab) :: env) H := by cases x <;> rfl
theorem Nl (d s : Nat) : bt P (.set (.t s) true) (some d) env H K = K ((d, get env s) :: (s, (get env s).ab) :: env) H := _root_.id rfl
theorem JE (d : Nat) (v : AV) : bt P (.set (.c v) true) (some d) env H K = K ((d, v.ab) :: env) H := _root_.id rfl
theorem Nm (c a b : IX) : bt P (.pick c a b) dst env H K = fB (al env c) (K (put dst (al env a).ab env) H) (K (put dst (al env b).ab env) H) := _root_.id rfl
theorem Nn (f : IX) (args : List IX) (pass : Option Nat) : bt P (.call f args pass) dst env H K = oA P (al env f) args pass env H (fun r aD H' => K (put dst r aD) H') := _root_.id rfl
end
section
variable {P : Px} {st : Bool} {ρ : IX → AV} {H : List aa} {K : AV → Prop}
theorem RH (i : IX) : kY P st (.set i false) ρ H K = K (ρ i).ab := by cases st <;> rfl
theorem No (c : IX) (a : IX) (b : IX) : kY P st (.pick c a b) ρ H K = (fB (ρ c) (K (ρ a).ab) (K (ρ b).ab)) := _root_.id rfl
theorem RI (op : BinOp) (i : IX) (j : IX) : kY P st (.bin op i j) ρ H K = (cV op (ρ i) (ρ j) K) := _root_.id rfl
theorem JF (op : BinOp) (i : IX) (j : IX) : kY P st (.shift op i j) ρ H K = (dL op (ρ i) (ρ j) K) := _root_.id rfl
theorem Hb (neq : Bool) (i : IX) (j : IX) : kY P st (.gO neq i j) ρ H K = (cM neq (ρ i) (ρ j) K) := _root_.id rfl
theorem JG (kd : Nat) (neq : Bool) (i : IX) : kY P st (.iT kd neq i) ρ H K = (nW kd neq (ρ i) K) := _root_.id rfl
theorem VH (op : UnOp) (i : IX) : kY P st (.un op i) ρ H K = (yH op (ρ i) K) := _root_.id rfl
theorem Np (i : IX) : kY P st (.k9 i) ρ H K = ((ρ i).val = true ∧ K (.ai (ρ i))) := _root_.id rfl
theorem JH (z : AV) (ps : List (Nat × Nat × IX)) : kY P st (.build z ps) ρ H K = (cC z.cells (ps.map fun q => (q.1, q.2.1, ρ q.2.2)) K) := _root_.id rfl
theorem wV (own : Nat) (esz : Nat) (z : AV) (len : Nat) (ps : List (Nat × IX)) : kY P st (.buildSlice own esz z len ps) ρ H K = (bh (List.replicate len (aT z)) esz (ps.map fun q => (q.1, ρ q.2)) fun xs => K (.ap own xs)) := _root_.id rfl
theorem zL (sz : Option Nat) (i : IX) : kY P true (.load sz i) ρ H K = (aS sz (ρ i) H K) := _root_.id rfl
theorem wW (sz : Option Nat) (i : IX) : kY P false (.load sz i) ρ H K = (aS sz (ρ i) [] K) := _root_.id rfl
theorem BM (i : IX) : kY P st (.nilCheck i) ρ H K = (bR (ρ i) K) := _root_.id rfl
theorem zM (off : Nat) (sz : Option Nat) (i : IX) : kY P st (.fieldAddr off sz i) ρ H K = (ak off sz (ρ i) K) := _root_.id rfl
theorem JI (off : Nat) (sz : Option Nat) (i : IX) : kY P st (.field off sz i) ρ H K = (eI off sz (ρ i) K) := _root_.id rfl
theorem zO (esz : Nat) (i : IX) (j : IX) : kY P st (.indexAddr esz i j) ρ H K = ((∀ own xs, ρ i = .ap own xs → ∀ z ∈ xs, z.cells.length = esz) ∧ ay esz (ρ i) (ρ j) K) := _root_.id rfl
theorem BN (n : Nat) (i : IX) (j : IX) : kY P st (.dJ n i j) ρ H K = (bQ n (ρ i) (ρ j) K) := _root_.id rfl
theorem BO (i : IX) (j : IX) : kY P st (.c8 i j) ρ H K = (bH (ρ i) (ρ j) K) := _root_.id rfl
theorem JJ (esz : Nat) (i : IX) (lo : Option IX) (hi : Option IX) (mx : Option IX) : kY P st (.slice esz i lo hi mx) ρ H K = (bn esz (ρ i) (lo.map ρ) (hi.map ρ) (mx.map ρ) K) := _root_.id rfl
theorem BP (i : IX) (lo : Option IX) (hi : Option IX) : kY P st (.dK i lo hi) ρ H K = (b7 (ρ i) (lo.map ρ) (hi.map ρ) K) := _root_.id rfl
theorem BQ (kd : Nat) (i : IX) : kY P true (.len kd i) ρ H K = (aL kd (ρ i) ∧ gL (ρ i) H K) := _root_.id rfl
theorem zP (kd : Nat) (i : IX) : kY P false (.len kd i) ρ H K = (aL kd (ρ i) ∧ gL (ρ i) [] K) := _root_.id rfl
theorem vi (kd : Nat) (z : AV) (m : IX) (k : IX) (ok : Bool) : kY P true (.lookup kd z m k ok) ρ H K = (cb kd z (ρ m) (ρ k) ok H K) := _root_.id rfl
theorem tn (kd : Nat) (z : AV) (m : IX) (k : IX) (ok : Bool) : kY P false (.lookup kd z m k ok) ρ H K = (cb kd z (ρ m) (ρ k) ok [] K) := _root_.id rfl
theorem VI (f : Fn) (first : List IX) (cap : List IX) : kY P st (.fn f first cap) ρ H K = (K (.fn f (first.map fun x => (ρ x).ab) (cap.map fun x => (ρ x).ab))) := _root_.id rfl
theorem DU (i : IX) (k : Nat) : kY P st (.extract i k) ρ H K = (bC (ρ i) k K) := _root_.id rfl
theorem DV (k : IntKind) (i : IX) : kY P st (.eC k i) ρ H K = (cp k (ρ i) K) := _root_.id rfl
theorem VJ (big : Bool) (i : IX) (j : IX) : kY P st (.mx big i j) ρ H K = (wy big (ρ i) (ρ j) K) := _root_.id rfl
theorem Nq (f : IX) (args : List IX) : kY P st (.call f args none) ρ H K = o8 P st (ρ f) (args.map fun x => (ρ x).ab) H K := _root_.id rfl
end
theorem DW (env : Env) : eo none env = env := _root_.id rfl
theorem Hc (env : Env) : eo (some []) env = [] := _root_.id rfl
theorem DX (env : Env) (t : Nat) (l : List Nat) : eo (some (t :: l)) env = (t, get env t) :: eo (some l) env := _root_.id rfl
theorem DY (k : Nat) : bV k [] = [] := _root_.id rfl
theorem BR (k : Nat) (x : AV) (xs : List AV) : bV k (x :: xs) = (k, x) :: bV (k + 1) xs := _root_.id rfl
theorem RJ (env : Env) (s : Nat) : al env (.t s) = get env s := _root_.id rfl
theorem RK (env : Env) (v : AV) : al env (.c v) = v := _root_.id rfl
theorem kH (o : Nat) (xs : List AV) (H : List aa) (φ : AV → Prop) : gL (.ap o xs) H φ = φ (.int .i64 xs.length) := _root_.id rfl
theorem DZ (H : List aa) (φ : AV → Prop) : gL .ah H φ = φ (.int .i64 0) := _root_.id rfl
theorem Hd (s : ByteArray) (H : List aa) (φ : AV → Prop) : gL (.str s) H φ = φ (.int .i64 s.size) := _root_.id rfl
theorem He (a b c d : Nat) (H : List aa) (φ : AV → Prop) : gL (.bf a b c d) H φ = φ (.int .i64 c) := _root_.id rfl
theorem JK {α β : Type} (f : α → β) : List.map f [] = [] := _root_.id rfl
theorem Hf {α β : Type} (f : α → β) (x : α) (xs : List α) : List.map f (x :: xs) = f x :: List.map f xs := _root_.id rfl
end Go.aK
end
section
namespace Go.aK
open Go
theorem ga0 (H e : List aa) : (H ++ e)[H.length]? = e[0]? := by
 rw [List.getElem?_append_right (Nat.le_refl _), Nat.sub_self]
theorem ga (H e : List aa) (i : Nat) : (H ++ e)[H.length + i]? = e[i]? := by
 rw [List.getElem?_append_right (Nat.le_add_right _ _), Nat.add_sub_cancel_left]
theorem sa0 (H e : List aa) (x : aa) : (H ++ e).set H.length x = H ++ e.set 0 x := by
 rw [List.set_append_right _ _ (Nat.le_refl _), Nat.sub_self]
theorem sa (H e : List aa) (i : Nat) (x : aa) : (H ++ e).set (H.length + i) x = H ++ e.set i x := by
 rw [List.set_append_right _ _ (Nat.le_add_right _ _), Nat.add_sub_cancel_left]
theorem YK (H e f : List aa) : (H ++ e) ++ f = H ++ (e ++ f) := List.append_assoc _ _ _
theorem TM (H e : List aa) : (H ++ e).length = H.length + e.length := List.length_append
theorem g0 {α : Type} (x : α) (r : List α) : (x :: r)[0]? = some x := by simp
theorem g1 {α : Type} (x y : α) (r : List α) : (x :: y :: r)[1]? = some y := by simp
theorem g2 {α : Type} (x y z : α) (r : List α) : (x :: y :: z :: r)[2]? = some z := by simp
theorem s0 {α : Type} (x u : α) (r : List α) : (x :: r).set 0 u = u :: r := by simp
theorem s1 {α : Type} (x y u : α) (r : List α) : (x :: y :: r).set 1 u = x :: u :: r := by simp
theorem s2 {α : Type} (x y z u : α) (r : List α) : (x :: y :: z :: r).set 2 u = x :: y :: u :: r := by simp
theorem d0 {α : Type} (x d : α) (r : List α) : (x :: r).getD 0 d = x := by simp
theorem d1 {α : Type} (x y d : α) (r : List α) : (x :: y :: r).getD 1 d = y := by simp
theorem d2 {α : Type} (x y z d : α) (r : List α) : (x :: y :: z :: r).getD 2 d = z := by simp
theorem YL (x y : AV) : ag [x] 0 [y] = [y] := by simp [ag]
theorem D0 {x : AV} {H : List aa} {φ ψ : AV → Prop} (hm : ∀ z, φ z → ψ z) (h : gL x H φ) : gL x H ψ := by
 unfold gL at *
 split at h
 ·exact hm _ h
 ·exact ri hm h
theorem D1 {o : bW} {ρ : IX → AV} {H : List aa} {K K' : AV → Prop} (h : vg o ρ H K) (hK : ∀ x, K x → K' x) : vg o ρ H K' := by
 unfold vg at *
 split at h
 ·exact hK _ h
 ·unfold fB eH at *
  split at h
  ·exact ⟨fun e => hK _ (h.1 e), fun e => hK _ (h.2 e)⟩
  ·exact h.elim
 ·exact rh hK h
 ·exact mP hK h
 ·exact lA hK h
 ·unfold nW at *
  split at h
  ·exact hK _ h
  ·exact h.elim
 ·exact uD hK h
 ·exact ⟨h.1, hK _ h.2⟩
 ·exact lD (fun _ h => hK _ h) h
 ·exact gn (fun _ h => hK _ h) h
 ·exact ju hK h
 ·exact jy hK h
 ·exact iM hK h
 ·exact mQ hK h
 ·exact ⟨h.1, iN hK h.2⟩
 ·exact jv hK h
 ·exact jw hK h
 ·exact lC hK h
 ·exact jz hK h
 ·exact ⟨h.1, D0 hK h.2⟩
 ·exact lB hK h
 ·exact hK _ h
 ·exact kh hK h
 ·exact kj hK h
 ·exact uE hK h
 ·exact h.elim
theorem dx {P : Px} : ∀ {t : DT} {env : Env} {H : List aa} {K1 K2 : Env → List aa → Prop}, iP P t env H K1 → (∀ e H', K1 e H' → K2 e H') → iP P t env H K2
 | .done, _, _, _, _, h, hK => hK _ _ h
 | .take st o r, _, _, _, _, h, hK => by
   unfold iP Fh at *
   have key : ∀ {env : Env} {H : List aa} {K : AV → Prop} {K' : AV → Prop}, kY P st o.op (al env) H K → (∀ x, K x → K' x) → kY P st o.op (al env) H K' := by
    intro env H K K' h hK
    unfold kY at *
    split at h
    ·unfold o8 at *
     split at h
     ·obtain ⟨x, h1, h2⟩ := h; exact ⟨x, h1, hK _ h2⟩
     ·exact h.elim
    ·exact D1 h hK
   split at h
   ·exact key h fun _ h => dx h hK
   ·unfold dE at *
    split at h
    ·exact ⟨fun e => key (h.1 e) fun _ h => dx h hK, fun e => dx (h.2 e) hK⟩
    ·exact dx h hK
    ·exact h.elim
 | .br o t rest, _, _, _, _, h, hK => ⟨rC h.1 fun _ _ h => dx h hK, dx h.2 hK⟩
 | .nil, _, _, _, _, h, hK => trivial
theorem kI {P : Px} {n0 : Nat} : ∀ {ir : IR} {env : Env} {H : List aa} {Q1 Q2 : Exit → Env → List aa → Prop}, kZ P n0 ir env H Q1 → (∀ x e H', Q1 x e H' → Q2 x e H') → kZ P n0 ir env H Q2 := by
 intro ir
 induction ir with
 | skip => exact fun h hQ => hQ _ _ _ h
 | region ops live => exact fun h hQ => rD h fun _ _ h => hQ _ _ _ h
 | draw t live => exact fun h hQ => dx h fun _ _ h => hQ _ _ _ h
 | seq a b DK Rr =>
   exact fun h hQ => DK h fun x e H' h => by
    cases x with
    | normal => exact Rr h hQ
    | _ => exact hQ _ _ _ h
 | cond x a b DK Rr =>
   intro env H Q1 Q2 h hQ
   rw [BH] at *
   unfold fB eH at *
   split at h
   ·exact ⟨fun e => DK (h.1 e) hQ, fun e => Rr (h.2 e) hQ⟩
   ·exact h.elim
 | block id a DK =>
   exact fun h hQ => DK h fun x e H' h => by
    cases x with
    | exit id' =>
      dsimp only at h ⊢
      split
      ·rename_i bm; rw [if_pos bm] at h; exact hQ _ _ _ h
      ·rename_i bm; rw [if_neg bm] at h; exact hQ _ _ _ h
    | _ => exact hQ _ _ _ h
 | loop a DK =>
   intro env H Q1 Q2 h hQ
   obtain ⟨ι, I, se, sh, μ, h0, hs⟩ := h
   exact ⟨ι, I, se, sh, μ, h0, fun i hi => DK (hs i hi) fun x e H' h => by
    cases x with
    | normal => exact h
    | _ => exact hQ _ _ _ h⟩
 | exit id => exact fun h hQ => hQ _ _ _ h
 | ret => exact fun h hQ => hQ _ _ _ h
 | never => exact fun h _ => h.elim
 | iK f lc =>
   intro env H Q1 Q2 h hQ
   rw [xL] at *
   unfold vh at *
   split at h
   ·obtain ⟨h1, bO, h2, h3⟩ := h
    exact ⟨h1, bO, h2, h3.mono fun _ H' hb => sS hb fun j H'' hg => xK hg hQ⟩
   ·exact h.elim
theorem YM (a b y : AV) : ag [a, b] 0 [y] = [y, b] := by simp [ag]
theorem YN (a b y : AV) : ag [a, b] 1 [y] = [a, y] := by simp [ag]
theorem YO (a b c y : AV) : ag [a, b, c] 0 [y] = [y, b, c] := by simp [ag]
theorem YP (a b c y : AV) : ag [a, b, c] 1 [y] = [a, y, c] := by simp [ag]
theorem YQ (a b c y : AV) : ag [a, b, c] 2 [y] = [a, b, y] := by simp [ag]
theorem YR (a b c x y z : AV) : ag [a, b, c] 0 [x, y, z] = [x, y, z] := by simp [ag]
theorem RL (k k' : IntKind) (a b : Int) (φ : AV → Prop) : wy true (.int k a) (.int k' b) φ = φ (.int k (max a b)) := by
 have : (if a < b then b else a) = max a b := by rw [Int.max_def]; split <;> split <;> omega
 simp [wy, this]
theorem RM (k k' : IntKind) (a b : Int) (φ : AV → Prop) : wy false (.int k a) (.int k' b) φ = φ (.int k (min a b)) := by
 have : (if b < a then b else a) = min a b := by rw [Int.min_def]; split <;> split <;> omega
 simp [wy, this]
def db (o : Option aa) (sz : Option Nat) (off : Nat) (φ : AV → Prop) : Prop :=
 match o with
 | some (.cells es) => match sz with
   | some m => off + m ≤ es.length ∧ φ (.agg (((es.drop off).take m).map AV.drop))
   | none => off < es.length ∧ φ (es.getD off .any).ab
 | _ => False
@[congr] theorem O4 {o o' : Option aa} {sz : Option Nat} {off : Nat} {φ : AV → Prop} (h : fY o = o') : db o sz off φ = db o' sz off φ := by subst h; rfl
theorem JL (sz : Option Nat) (id off : Nat) (H : List aa) (φ : AV → Prop) : aS sz (.ptr id off) H φ = db H[id]? sz off φ := by
 unfold aS db; rfl
theorem Nr (es : List AV) (off : Nat) (φ : AV → Prop) : db (some (.cells es)) none off φ = (off < es.length ∧ φ (es.getD off .any).ab) := _root_.id rfl
theorem Fi (a b c : AV) (φ : AV → Prop) : db (some (.cells [a, b, c])) (some 3) 0 φ = φ (.agg [a.drop, b.drop, c.drop]) := by simp [db]
theorem Ns (a b : AV) (φ : AV → Prop) : db (some (.cells [a, b])) (some 2) 0 φ = φ (.agg [a.drop, b.drop]) := by simp [db]
def gU (o : Option aa) (m id off : Nat) (x : AV) (H : List aa) (K : List aa → Prop) : Prop :=
 match o with
 | some (.cells es) => x.val = true ∧ x.cells.length = m ∧ off + m ≤ es.length ∧ x.cells.all AV.one = true ∧ aj (id + 1) (x.cells.map AV.ab) = true ∧
    K (H.set id (.cells (ag es off (x.cells.map AV.ab))))
 | _ => False
@[congr] theorem Nt {o o' : Option aa} {m id off : Nat} {x : AV} {H : List aa} {K : List aa → Prop} (h : fY o = o') {x' : AV} (h2 : x = x') : gU o m id off x H K = gU o' m id off x' H K := by subst h; subst h2; rfl
theorem Hg (m id off : Nat) (x : AV) (H : List aa) (K : List aa → Prop) : gQ m (.ptr id off) x H K = gU H[id]? m id off x H K := by
 unfold gQ gU; rfl
theorem BS (es : List AV) (m id off : Nat) (x : AV) (H : List aa) (K : List aa → Prop) : gU (some (.cells es)) m id off x H K = (x.val = true ∧ x.cells.length = m ∧ off + m ≤ es.length ∧ x.cells.all AV.one = true ∧ aj (id + 1) (x.cells.map AV.ab) = true ∧
 K (H.set id (.cells (ag es off (x.cells.map AV.ab))))) := _root_.id rfl
def qj (o : Option aa) (l m id off : Nat) (x : AV) (H : List aa) (K : List aa → Prop) : Prop :=
 match o with
 | some (.cells es) => l ≤ id ∧ x.val = true ∧ x.cells.length = m ∧ off + m ≤ es.length ∧ x.cells.all AV.one = true ∧ aj H.length (x.cells.map AV.ab) = true ∧
    K (H.set id (.cells (ag es off (x.cells.map AV.ab))))
 | _ => False
@[congr] theorem Lm {o o' : Option aa} {l m id off : Nat} {x : AV} {H : List aa} {K : List aa → Prop} (h : fY o = o') {x' : AV} (h2 : x = x') : qj o l m id off x H K = qj o' l m id off x' H K := by subst h; subst h2; rfl
theorem D2 (l m id off : Nat) (x : AV) (H : List aa) (K : List aa → Prop) : gh l m (.ptr id off) x H K = qj H[id]? l m id off x H K := by
 unfold gh qj; rfl
theorem Hh (es : List AV) (l m id off : Nat) (x : AV) (H : List aa) (K : List aa → Prop) : qj (some (.cells es)) l m id off x H K = (l ≤ id ∧ x.val = true ∧ x.cells.length = m ∧ off + m ≤ es.length ∧ x.cells.all AV.one = true ∧ aj H.length (x.cells.map AV.ab) = true ∧
 K (H.set id (.cells (ag es off (x.cells.map AV.ab))))) := _root_.id rfl
@[congr] theorem Ln {l m : Nat} {p p' x : AV} {H H' : List aa} {K : List aa → Prop} (h : fY p = p') (h2 : H = H') : gh l m p x H K = gh l m p' x H' K := by subst h; subst h2; rfl
theorem Hi (e : Nat) (xs : List AV) (H : List aa) (K : AV → List aa → Prop) : ff e (.agg xs) H K = jq e xs H fun ys H' => K (.agg ys) H' := _root_.id rfl
theorem D3 (e : Nat) (H : List aa) (K : List AV → List aa → Prop) : jq e [] H K = K [] H := _root_.id rfl
theorem BT (e : Nat) (x : AV) (r : List AV) (H : List aa) (K : List AV → List aa → Prop) : jq e (x :: r) H K = dD e x H fun y H' => jq e r H' fun ys H'' => K (y :: ys) H'' := _root_.id rfl
theorem D4 (e : Nat) (k : IntKind) (n : Int) (H : List aa) (K : AV → List aa → Prop) : dD e (.int k n) H K = K (.int k n) H := _root_.id rfl
def JM := And.intro @GY (And.intro @D2 (And.intro @Hh (And.intro @Jv (And.intro @Hi (And.intro @D3 (And.intro @BT @D4))))))
def gZ (o : Option aa) (kd : Nat) (zero k : AV) (ok : Bool) (φ : AV → Prop) : Prop :=
 match o with
 | some (.map es) => match dN kd k es 0 with
   | some (some (_, v)) => φ (if ok then .tuple [v.drop, .bool true] else v.drop)
   | some none => cP kd k k = some true ∧ φ (if ok then .tuple [aT zero, .bool false] else aT zero)
   | none => False
 | _ => False
@[congr] theorem Lo {o o' : Option aa} {kd : Nat} {z k k' : AV} {ok : Bool} {φ : AV → Prop} (h : fY o = o') (h2 : k = k') : gZ o kd z k ok φ = gZ o' kd z k' ok φ := by subst h; subst h2; rfl
theorem D5 (kd id : Nat) (z k : AV) (ok : Bool) (H : List aa) (φ : AV → Prop) : cb kd z (.map id) k ok H φ = gZ H[id]? kd z k ok φ := by
 unfold cb gZ; rfl
def g9 (o : Option aa) (kd id : Nat) (k x : AV) (H : List aa) (K : List aa → Prop) : Prop :=
 match o with
 | some (.map es) => k.a7 (id + 1) = true ∧ x.a7 (id + 1) = true ∧ x.val = true ∧ match dN kd k es 0 with
    | some (some (i, _)) => K (H.set id (.map (es.set i (k, aT x))))
    | some none => cP kd k k = some true ∧ K (H.set id (.map (es ++ [(k, aT x)])))
    | none => False
 | _ => False
@[congr] theorem Lp {o o' : Option aa} {kd id : Nat} {k k' x x' : AV} {H : List aa} {K : List aa → Prop} (h : fY o = o') (h2 : k = k') (h3 : x = x') : g9 o kd id k x H K = g9 o' kd id k' x' H K := by subst h; subst h2; subst h3; rfl
theorem D6 (kd id : Nat) (k x : AV) (H : List aa) (K : List aa → Prop) : eZ kd (.map id) k x H K = g9 H[id]? kd id k x H K := by
 unfold eZ g9; rfl
def xM (o : Option aa) (d id off : Nat) (env : Env) (H : List aa) (K : Env → List aa → Prop) : Prop :=
 match o with
 | some (.cells es) => off < es.length ∧ K ((d, es.getD off .any) :: env) (H.set id (.cells (es.set off (es.getD off .any).ab)))
 | _ => False
@[congr] theorem O5 {o o' : Option aa} {d id off : Nat} {env : Env} {H : List aa} {K : Env → List aa → Prop} (h : fY o = o') : xM o d id off env H K = xM o' d id off env H K := by subst h; rfl
theorem Nu (es : List AV) (d id off : Nat) (env : Env) (H : List aa) (K : Env → List aa → Prop) : xM (some (.cells es)) d id off env H K = (off < es.length ∧ K ((d, es.getD off .any) :: env) (H.set id (.cells (es.set off (es.getD off .any).ab)))) := _root_.id rfl
def BU (v : AV) (d : Nat) (env : Env) (H : List aa) (K : Env → List aa → Prop) : Prop :=
 match v with
 | .ptr id off => xM H[id]? d id off env H K
 | _ => False
@[congr] theorem O6 {v v' : AV} {d : Nat} {env : Env} {H : List aa} {K : Env → List aa → Prop} (h : fY v = v') : BU v d env H K = BU v' d env H K := by subst h; rfl
theorem Nv (id off d : Nat) (env : Env) (H : List aa) (K : Env → List aa → Prop) : BU (.ptr id off) d env H K = xM H[id]? d id off env H K := _root_.id rfl
theorem JN {P : Px} (a : IX) (d : Nat) (env : Env) (H : List aa) (K : Env → List aa → Prop) : bt P (.eh a) (some d) env H K = BU (al env a) d env H K := by
 simp only [bt, BU, xM]
 cases al env a <;> rfl
def JO (o : Option aa) (id off : Nat) (x : AV) (H : List aa) (K : List aa → Prop) : Prop :=
 match o with
 | some (.cells es) => off < es.length ∧ x.one = true ∧ x.a7 (id + 1) = true ∧ K (H.set id (.cells (es.set off x)))
 | _ => False
@[congr] theorem RN {o o' : Option aa} {id off : Nat} {x x' : AV} {H : List aa} {K : List aa → Prop} (h : fY o = o') (h2 : x = x') : JO o id off x H K = JO o' id off x' H K := by subst h; subst h2; rfl
theorem Nw (id off : Nat) (x : AV) (H : List aa) (K : List aa → Prop) : dM (.ptr id off) x H K = JO H[id]? id off x H K := by
 unfold dM JO; rfl
theorem RP (es : List AV) (id off : Nat) (x : AV) (H : List aa) (K : List aa → Prop) : JO (some (.cells es)) id off x H K = (off < es.length ∧ x.one = true ∧ x.a7 (id + 1) = true ∧ K (H.set id (.cells (es.set off x)))) := _root_.id rfl
theorem bd2 (x y : AV) (φ : AV → Prop) : cC [.int .i64 0, .int .i64 0, .ah] [(0, 1, x), (1, 1, y)] φ = (x.val = true ∧ x.cells.length = 1 ∧ y.val = true ∧ y.cells.length = 1 ∧ φ (.agg (ag (ag [.int .i64 0, .int .i64 0, .ah] 0 (x.cells.map AV.ab)) 1 (y.cells.map AV.ab)))) := by
 simp only [cC, gI, eq_iff_iff]
 constructor
 ·rintro ⟨h1, h2, h3, h4, h5, h6, h7⟩; exact ⟨h1, h2, h4, h5, h7⟩
 ·rintro ⟨h1, h2, h4, h5, h7⟩
  have e1 : (x.cells.map AV.ab).length = 1 := by simpa using h2
  refine ⟨h1, h2, by simp, h4, h5, ?_, h7⟩
  simp [ag, h2]
theorem bd0 (cs : List AV) (φ : AV → Prop) : cC cs [] φ = φ (.agg cs) := _root_.id rfl
theorem nX (e b : Nat) (ys : List AV) (o : Nat) (ψ : List AV → Prop) : bE e b .ah (.ap o ys) ψ = (ys.length * b ≤ 140737488355328 ∧ ta e ys ∧ ψ ys) := by
 simp [bE, ma, dz]
theorem m8 (e b : Nat) (xs ys : List AV) (o : Nat) (ψ : List AV → Prop) : bE e b (.ap e xs) (.ap o ys) ψ = ((xs.length + ys.length) * b ≤ 140737488355328 ∧ ta e ys ∧ ψ (xs ++ ys)) := by
 simp [bE, ma, dz]
theorem YT (n : Nat) : (IX.t n).slot = some n := _root_.id rfl
theorem YU (v : AV) : (IX.c v).slot = none := _root_.id rfl
theorem RQ (id : Nat) (H : List aa) (φ : AV → Prop) : aS none (.ai (.map id)) H φ = φ (.map id) := by simp [aS, AV.one, I7]
theorem RR (id off : Nat) (H : List aa) (φ : AV → Prop) : aS none (.ai (.ptr id off)) H φ = φ (.ptr id off) := by simp [aS, AV.one, I6]
theorem Nx (b : Bool) : (AV.bool b).one = true := _root_.id rfl
theorem RS (k : IntKind) (n : Int) : (AV.int k n).one = true := _root_.id rfl
theorem RT (s : ByteArray) : (AV.str s).one = true := _root_.id rfl
theorem RU (o : Nat) (xs : List AV) : (AV.ap o xs).one = true := _root_.id rfl
theorem Ny : AV.ah.one = true := _root_.id rfl
theorem VK (f : Fn) (a b : List AV) : (AV.fn f a b).one = true := _root_.id rfl
theorem RV (a b : Nat) : (AV.ptr a b).one = true := _root_.id rfl
theorem Nz (x : AV) : (AV.ai x).one = true := _root_.id rfl
theorem RW (a : Nat) : (AV.map a).one = true := _root_.id rfl
theorem YV {α : Type} (p : α → Bool) (x : α) (r : List α) : (x :: r).all p = (p x && r.all p) := _root_.id rfl
theorem YW {α : Type} (p : α → Bool) : ([] : List α).all p = true := _root_.id rfl
theorem dY (n : Int) (h : -9223372036854775808 ≤ n ∧ n ≤ 9223372036854775807) : IntKind.i64.wrap n = n := by
 rw [show IntKind.i64.wrap n = (n + 9223372036854775808) % 18446744073709551616 - 9223372036854775808 from IntKind.wrap_i64 n]; omega
theorem aN {P : Program} {n0 : Nat} {env : Env} {H : List aa} {Q : Exit → Env → List aa → Prop} {a : IR} {ι : Type} (N : Nat) (I : Nat → ι → Prop) (se : Nat → ι → Env) (sh : Nat → ι → List aa) (s0 : ι) (h0 : I 0 s0 ∧ sle n0 env H (se 0 s0) (sh 0 s0))
 (hs : ∀ i s, i ≤ N → I i s → kZ P n0 a (se i s) (sh i s) fun e aD H' => match e with
   | .normal => ∃ j t, (j ≤ N ∧ I j t) ∧ N - j < N - i ∧ sle n0 aD H' (se j t) (sh j t)
   | e => Q e aD H') : kZ P n0 (.loop a) env H Q :=
 ⟨Nat × ι, fun p => p.1 ≤ N ∧ I p.1 p.2, fun p => se p.1 p.2, fun p => sh p.1 p.2, fun p => N - p.1, ⟨(0, s0), ⟨Nat.zero_le _, h0.1⟩, h0.2⟩, fun p hp => kI (hs p.1 p.2 hp.1 hp.2) fun x e H' h => by
   cases x with
   | normal => obtain ⟨j, t, h1, h2, h3⟩ := h; exact ⟨(j, t), h1, h2, h3⟩
   | _ => exact h⟩
theorem lM {P : Program} {l : Nat} {n0 : Nat} {env : Env} {H : List aa} {Q : Exit → Env → List aa → Prop} {a : IR} {ι : Type} (N : Nat) (I : Nat → ι → Prop) (se : Nat → ι → Env) (sh : Nat → ι → List aa) (s0 : ι) (h0 : I 0 s0 ∧ Gh n0 env H (se 0 s0) (sh 0 s0))
 (hs : ∀ i s, i ≤ N → I i s → kZ ⟨P, some l⟩ n0 a (se i s) (sh i s) fun e aD H' => match e with
   | .normal => ∃ j t, (j ≤ N ∧ I j t) ∧ N - j < N - i ∧ Gh n0 aD H' (se j t) (sh j t)
   | e => Q e aD H') : kZ ⟨P, some l⟩ n0 (.loop a) env H Q :=
 ⟨Nat × ι, fun p => p.1 ≤ N ∧ I p.1 p.2, fun p => se p.1 p.2, fun p => sh p.1 p.2, fun p => N - p.1, ⟨(0, s0), ⟨Nat.zero_le _, h0.1⟩, h0.2⟩, fun p hp => kI (hs p.1 p.2 hp.1 hp.2) fun x e H' h => by
   cases x with
   | normal => obtain ⟨j, t, h1, h2, h3⟩ := h; exact ⟨(j, t), h1, h2, h3⟩
   | _ => exact h⟩
theorem aW {H : List aa} {s : Nat} {v v' : AV} (hb : v.a7 H.length = true) (hv : v = v') : bT H.length [.t s] [(s, v)] H fun r H' => r = v' ∧ H' = H :=
 aQ _ (Nat.le_refl _) (by rw [ax, if_pos rfl]; exact hb) ⟨by rw [ax, if_pos rfl]; exact hv, by simp⟩
theorem JP {H e : List aa} {s : Nat} {v v' : AV} (hb : v.a7 H.length = true) (hv : v = v') : bT H.length [.t s] [(s, v)] (H ++ e) fun r H' => r = v' ∧ H' = H :=
 aQ _ (Nat.le_refl _) (by rw [ax, if_pos rfl]; exact hb) ⟨by rw [ax, if_pos rfl]; exact hv, by simp⟩
theorem RY {H H' : List aa} {n0 s : Nat} {v v' : AV} (hn : n0 = H.length) (hb : v.a7 n0 = true) (hv : v = v') (hl : H = H') : bT n0 [.t s] [(s, v)] H fun r H'' => r = v' ∧ H'' = H' := by
 subst hn hl; exact aW hb hv
theorem qk {H H' : List aa} {n0 : Nat} {env : Env} (hn : n0 = H.length) (hl : H = H') : bT n0 [] env H fun r H'' => r = .tuple [] ∧ H'' = H' := by
 subst hn hl
 exact ⟨H.length, Nat.le_refl _, [], trivial, rfl, rfl, by simp⟩
theorem xN {H e : List aa} {s s' : Nat} {v v' x y : AV} (hs : s' ≠ s) (hb : x.a7 H.length = true) (dU : y.a7 H.length = true) (hx : v.ab = x) (hy : v'.ab = y) :
 bT H.length [.t s, .t s'] [(s, v), (s', v')] (H ++ e) fun r H' => r = .tuple [x, y] ∧ H' = H := by
 subst hx hy
 refine ⟨H.length, Nat.le_refl _, [v.ab, v'.ab], ?_, ?_, rfl, by simp⟩
 ·simp only [ax, if_neg hs, if_true, List.map]
  exact b9 _
 ·simp only [aj, hb, dU, Bool.and_self]
theorem BV {H : List aa} {s s' : Nat} {v v' x y : AV} (hs : s' ≠ s) (hb : x.a7 H.length = true) (dU : y.a7 H.length = true) (hx : v.ab = x) (hy : v'.ab = y) :
 bT H.length [.t s, .t s'] [(s, v), (s', v')] H fun r H' => r = .tuple [x, y] ∧ H' = H := by
 have := xN (e := []) hs hb dU hx hy
 rw [List.append_nil] at this
 exact this
def xO (n0 : Nat) (x : AV) (H : List aa) (R : AV → List aa → Prop) : Prop := ∃ m, n0 ≤ m ∧ ∃ r, x.le r ∧ r.a7 m = true ∧ R r (H.take m)
@[congr] theorem O7 {n0 : Nat} {x x' : AV} {H H' : List aa} {R : AV → List aa → Prop} (h : fY x = x') (h2 : H = H') : xO n0 x H R = xO n0 x' H' R := by subst h; subst h2; rfl
def sT (n0 : Nat) (xs : List AV) (H : List aa) (R : AV → List aa → Prop) : Prop := ∃ m, n0 ≤ m ∧ ∃ ys, xp (xs.map AV.ab) ys ∧ aj m ys = true ∧ R (.tuple ys) (H.take m)
@[congr] theorem O8 {n0 : Nat} {x x' : List AV} {H H' : List aa} {R : AV → List aa → Prop} (h : fY x = x') (h2 : H = H') : sT n0 x H R = sT n0 x' H' R := by subst h; subst h2; rfl
theorem RZ (n0 s : Nat) (sz : Option Nat) (env : Env) (H : List aa) (R : AV → List aa → Prop) : bT n0 [.c s sz] env H R = aS sz (get env s) H fun x => xO n0 x H R := _root_.id rfl
theorem NA (n0 s s' : Nat) (sz : Option Nat) (env : Env) (H : List aa) (R : AV → List aa → Prop) : bT n0 [.c s sz, .t s'] env H R = aS sz (get env s) H fun x => sT n0 [x, get env s'] H R := _root_.id rfl
theorem Fj {H e : List aa} {v v' : AV} (hb : v.a7 H.length = true) (hv : v = v') : xO H.length v (H ++ e) fun r H' => r = v' ∧ H' = H := by
 subst hv; exact ⟨H.length, Nat.le_refl _, v, le_refl _, hb, rfl, by simp⟩
theorem bZ {i n : Nat} (h : (i : Int) < (n : Int)) : i < n := by omega
theorem dl {i n : Nat} (h : (n : Int) ≤ (i : Int)) : n ≤ i := by omega
def lN := (And.intro @BJ (And.intro @BN (And.intro @xL @GZ)))
def R0 := (And.intro (And.intro (And.intro (And.intro (And.intro (And.intro (And.intro (And.intro @Rq @Jh) (And.intro @DM @Ji)) (And.intro (And.intro @M5 @BH) (And.intro @GS (And.intro @Jj @M6)))) (And.intro (And.intro (And.intro @Jk @Rw) (And.intro @Rx @VC)) (And.intro (And.intro @VD @GU) (And.intro @Jl (And.intro @Ry @Rz))))) (And.intro (And.intro (And.intro (And.intro @M7 @Jd) (And.intro @Je @ax)) (And.intro (And.intro @Ro @RD) (And.intro @Jr (And.intro @GX @Js)))) (And.intro (And.intro (And.intro @VE @RE) (And.intro @Ng (And.intro @Nh @Jt))) (And.intro (And.intro @Ju @wU) (And.intro @Ni (And.intro @JN @Nv)))))) (And.intro (And.intro (And.intro (And.intro (And.intro @Nu @Nw) (And.intro @RP @D5)) (And.intro (And.intro @D6 @nX) (And.intro @m8 (And.intro @RQ @RR)))) (And.intro (And.intro (And.intro @YT @YU) (And.intro @RZ (And.intro @NA @bd0))) (And.intro (And.intro @bd2 @Jw) (And.intro @DN (And.intro @BI @zJ))))) (And.intro (And.intro (And.intro (And.intro @Jx @zK) (And.intro @BK @Jy)) (And.intro (And.intro @Nj @BL) (And.intro @RF (And.intro @G7 (And.intro @Jz (And.intro @tQ @DO)))))) (And.intro (And.intro (And.intro @JA @JB) (And.intro @G9 (And.intro @Ha @VF))) (And.intro (And.intro @DP @DQ) (And.intro @DR (And.intro @DS @JC))))))) (And.intro (And.intro (And.intro (And.intro (And.intro (And.intro @VG @Nk) (And.intro @JD @RG)) (And.intro (And.intro @Nl @JE) (And.intro @Nm (And.intro @Nn @RH)))) (And.intro (And.intro (And.intro @No @RI) (And.intro @JF @Hb)) (And.intro (And.intro @JG @VH) (And.intro @Np (And.intro @JH @wV))))) (And.intro (And.intro (And.intro (And.intro @zL @wW) (And.intro @BM @zM)) (And.intro (And.intro @JI @zO) (And.intro @BO (And.intro @JJ @BP)))) (And.intro (And.intro (And.intro @BQ @zP) (And.intro @vi (And.intro @tn @VI))) (And.intro (And.intro @DU @DV) (And.intro @VJ (And.intro @Nq @DW)))))) (And.intro (And.intro (And.intro (And.intro (And.intro @Hc @DX) (And.intro @DY @BR)) (And.intro (And.intro @RJ @RK) (And.intro @kH (And.intro @DZ @Hd)))) (And.intro (And.intro (And.intro @He @JK) (And.intro @Hf (And.intro @MU @MV))) (And.intro (And.intro @MW @MX) (And.intro @Vw (And.intro @Vx @Vy))))) (And.intro (And.intro (And.intro (And.intro @Vz @YJ) (And.intro @VA @VB)) (And.intro (And.intro @MZ @GP) (And.intro @Qs (And.intro @nU @mY)))) (And.intro (And.intro (And.intro @zD @Fc) (And.intro @uZ (And.intro @Qt @Qu))) (And.intro (And.intro @I5 @I6) (And.intro @Fe (And.intro @Mr @I7)))))))) (And.intro (And.intro (And.intro (And.intro (And.intro (And.intro (And.intro @Ms @OQ) (And.intro @Mt @Mv)) (And.intro (And.intro @Qv @Qw) (And.intro @Mw (And.intro @Qx @Qy)))) (And.intro (And.intro (And.intro @Vr @Mx) (And.intro @Qz @My)) (And.intro (And.intro @QA @tO) (And.intro @QB (And.intro @QC @Mz))))) (And.intro (And.intro (And.intro (And.intro @QD @QE) (And.intro @Vs @MA)) (And.intro (And.intro @QF @MB) (And.intro @QG (And.intro @Ff @QH)))) (And.intro (And.intro (And.intro @QI @MC) (And.intro @QJ (And.intro @QK @Vt))) (And.intro (And.intro @MD @QL) (And.intro @ME (And.intro @QM @zE)))))) (And.intro (And.intro (And.intro (And.intro (And.intro @iO @I8) (And.intro @Fg @cW)) (And.intro (And.intro @u0 @I9) (And.intro @rB (And.intro @Ja @jB)))) (And.intro (And.intro (And.intro @zF @Vu) (And.intro @MF (And.intro @cZ @bL))) (And.intro (And.intro @Rp @MR) (And.intro @QN (And.intro @QO @QP))))) (And.intro (And.intro (And.intro (And.intro @QQ @QR) (And.intro @QS @QT)) (And.intro (And.intro @QU @QV) (And.intro @QW (And.intro @QX @QY)))) (And.intro (And.intro (And.intro @QZ @Q0) (And.intro @Q3 (And.intro @Q4 @Q5))) (And.intro (And.intro @Q6 @YI) (And.intro @Q7 (And.intro @MG @Q8))))))) (And.intro (And.intro (And.intro (And.intro (And.intro (And.intro @Q9 @MH) (And.intro @Ra @MJ)) (And.intro (And.intro @Rb @Rc) (And.intro @MK (And.intro @Re @ML)))) (And.intro (And.intro (And.intro @Rf @Rg) (And.intro @Rh @MM)) (And.intro (And.intro @Vv @Ri) (And.intro @MN (And.intro @Jb @Rj))))) (And.intro (And.intro (And.intro (And.intro @Jc @Rk) (And.intro @Rl @Rm)) (And.intro (And.intro @Rn @GI) (And.intro @MO (And.intro @MP @MQ)))) (And.intro (And.intro (And.intro @GJ @GK) (And.intro @GL (And.intro @GM @GN))) (And.intro (And.intro @Bx @By) (And.intro @ga0 (And.intro @ga @sa0)))))) (And.intro (And.intro (And.intro (And.intro (And.intro @sa @YK) (And.intro @TM @g0)) (And.intro (And.intro @g1 @g2) (And.intro @s0 (And.intro @s1 @s2)))) (And.intro (And.intro (And.intro @d0 @d1) (And.intro @d2 (And.intro @YL @YM))) (And.intro (And.intro @YN @YO) (And.intro @YP (And.intro @YQ @YR))))) (And.intro (And.intro (And.intro (And.intro @RL @RM) (And.intro @Fi @Ns)) (And.intro (And.intro @JL @Nr) (And.intro @Hg (And.intro @BS @Nx)))) (And.intro (And.intro (And.intro @RS @RT) (And.intro @RU (And.intro @Ny @VK))) (And.intro (And.intro @RV @Nz) (And.intro @RW (And.intro @YV @YW)))))))))
end Go.aK
end
section
namespace Go.aK
open Go Go.RowKit
def fR (w : World) : Mem := fun b o => w.cell? ⟨b, o, none⟩
def D7 (w : World) : Perm := ⟨fun b => w.heap.size ≤ b, fun id => some (id + 1), (fun id n h => by cases h; omega), 0⟩
theorem zQ (w : World) : (D7 w).entry false ([] : List aa).length := ⟨fun id h => absurd h (Nat.not_lt_zero _), fun id _ => rfl⟩
theorem St.start {w : World} {vs : Array Value} {xs : List AV} (h : aJ (fR w) [] vs.toList xs) (hf : ∀ x ∈ xs, ∀ own ys, x = .ap own ys → own = 0) :
 St (D7 w) (fR w) [] w [] (fun t => vs.getD t undef) (fun t => xs.getD t .any) (fun _ => none) where
 len := rfl
 nodup := by simp
 env := fun t => by
  have := h.getD t
  rw [List.getD_eq_getElem?_getD] at this
  rw [Array.getD_eq_getD_getElem?]
  simpa using this
 mem := fun b o v hv => hv
 obj := fun id o b ho => by simp at ho
 bB := fun id o ho => by simp at ho
 lt := fun b hb => by cases hb
 gH := fun t => by
  refine bb.free fun own ys e => ?_
  rw [List.getD_eq_getElem?_getD] at e
  cases hx : xs[t]? with
  | none => rw [hx] at e; cases e
  | some x => rw [hx] at e; exact hf x (List.mem_of_getElem? hx) own ys e
 gE := fun id j => by simp [bp, bb]
 bY := fun p q b hp => by cases hp
 cc := fun p b hp => by cases hp
 eT := fun p b hp => by cases hp
 La := fun b hb => by cases hb
 Oa := fun p b hp => by cases hp
 fresh := fun b hb => hb
theorem Ext.below {M M' : Mem} {w w' : World} (h : Ext (D7 w) M w M' w') : Below w.heap.size w w' :=
 ⟨h.os, h.tape, h.output, h.size, fun k hk => (h.jX k hk (by show ¬ w.heap.size ≤ k; omega)).1⟩
theorem Pure.lift {P : Program} {f : FuncId} {xs : List AV} {b : Bool} (hp : Pure P f xs (.bool b)) (he : ∀ (as : Array Value) (w : World), (callFunc f as).run P w = .ok (.enter f as) w)
 {w : World} {vs : Array Value} (hr : aJ (fR w) [] vs.toList xs) (hf : ∀ x ∈ xs, ∀ own ys, x = .ap own ys → own = 0) :
 Calls P f vs w fun e w' => e = .returned (.bool b) ∧ Below w.heap.size w w' := by
 have hs : vs.size = xs.length := by have := hr.length; simpa using this
 refine ((hp []).body he (zQ w) hs (St.start hr hf)).mono ?_
 rintro e w' ⟨v, r, H', M', L', O', rfl, ⟨rfl, rfl⟩, bP, cq, _⟩
 have := bP.env 0
 simp only [H7] at this
 cases this
 exact ⟨rfl, cq.below⟩
theorem BW {a : Addr} {n : Nat} (h : a.spot = none) : a.add n = ⟨a.block, a.off + n, none⟩ := by
 obtain ⟨b, o, s⟩ := a
 simp only at h
 subst h
 unfold Addr.add
 split
 ·rename_i e; subst e; rfl
 ·rfl
theorem Hj {w : World} {a : Addr} {v : Value} (h : w.cell? a = some v) : a.spot = none := by
 unfold World.cell? at h
 split at h
 ·split at h
  ·cases h
  ·rename_i hs; cases K6 : a.spot <;> simp_all
 ·cases h
theorem xP {M : Mem} {L : List Nat} : ∀ {n : Nat} {cs : Nat → List Value} {f : Nat → AV}, (∀ i, i < n → aJ M L (cs i) (f i).cells) → aJ M L ((List.range n).flatMap cs) (flat ((List.range n).map f))
 | 0, _, _, _ => by simp [flat]; exact .nil
 | n + 1, cs, f, h => by
   have ih := xP (n := n) (fun i hi => h i (by omega))
   simp only [List.range_succ, List.flatMap_append, List.map_append, flat] at ih ⊢
   refine ih.append ?_
   simpa using h n (by omega)
theorem BX {n e : Nat} {cs : Nat → List Value} : (∀ i, i < n → (cs i).length = e) → ∀ (j : Nat) (v : Value), ((List.range n).flatMap cs)[j]? = some v → ∃ i k, i < n ∧ k < e ∧ j = i * e + k ∧ (cs i)[k]? = some v := by
 induction n with
 | zero => intro _ j v h; simp at h
 | succ n ih =>
   intro hl j v h
   simp only [List.range_succ, List.flatMap_append] at h
   have hlen : ((List.range n).flatMap cs).length = n * e := by
    clear h ih
    induction n with
    | zero => simp
    | succ n ih2 =>
      simp only [List.range_succ, List.flatMap_append, List.length_append]
      rw [ih2 (fun i hi => hl i (by omega))]
      simp [hl n (by omega), Nat.succ_mul]
   rcases Nat.lt_or_ge j (n * e) with hj | hj
   ·rw [List.getElem?_append_left (by omega)] at h
    obtain ⟨i, k, h1, h2, h3, h4⟩ := ih (fun i hi => hl i (by omega)) j v h
    exact ⟨i, k, by omega, h2, h3, h4⟩
   ·rw [List.getElem?_append_right (by omega), hlen] at h
    simp only [List.flatMap_cons, List.flatMap_nil, List.append_nil] at h
    have hk := (List.getElem?_eq_some_iff.1 h).1
    rw [hl n (by omega)] at hk
    exact ⟨n, j - n * e, by omega, hk, by omega, h⟩
theorem xQ {w : World} {base e len cap : Nat} {a : Addr} (he : 0 < e) (hl : len ≤ cap) (hc : cap ≤ maxLen) (cs : Nat → List Value) (f : Nat → AV)
 (h : ∀ i, i < len → w.cells? base (a.add (i * e)) e = some (cs i) ∧ aJ (fR w) [] (cs i) (f i).cells) : aR (fR w) [] (.slice (some a) len cap) (.ap 0 ((List.range len).map f)) := by
 have cF : cap < 9223372036854775808 := by have : maxLen = 9223372036854775807 := rfl; omega
 rcases Nat.eq_zero_or_pos len with h0 | h0
 ·subst h0
  exact .gb _ _ _ cF
 have hlen : ∀ i, i < len → (cs i).length = e := fun i hi => (World.cells?_some (h i hi).1).2.1
 have hcell : ∀ i, i < len → ∀ k, k < e → w.cell? ((a.add (i * e)).add k) = (cs i)[k]? := fun i hi => (World.cells?_some (h i hi).1).2.2
 have hspot : a.spot = none := by
  have h1 := hcell 0 h0 0 he
  rw [List.getElem?_eq_getElem (by rw [hlen 0 h0]; exact he)] at h1
  have h2 := Hj h1
  simpa [Addr.add] using h2
 have key : aR (fR w) [] (.slice (some ⟨a.block, a.off, none⟩) ((List.range len).map f).length cap) (.ap 0 ((List.range len).map f)) := by
  refine .ap a.block a.off cap 0 e ((List.range len).flatMap cs) _ he ?_ (by simpa using h0) (by simpa using hl) cF (xP fun i hi => (h i hi).2) ?_
  ·intro x hx
   obtain ⟨i, hi, rfl⟩ := List.mem_map.1 hx
   have hi := List.mem_range.1 hi
   rw [← (h i hi).2.length, hlen i hi]
  ·intro j v hv
   obtain ⟨i, k, h1, h2, rfl, h4⟩ := BX hlen j v hv
   have := hcell i h1 k h2
   rw [BW hspot, BW (by rfl)] at this
   show w.cell? ⟨a.block, a.off + (i * e + k), none⟩ = some v
   rw [← Nat.add_assoc, this, h4]
 have ea : (some a : Option Addr) = some ⟨a.block, a.off, none⟩ := by obtain ⟨b, o, s⟩ := a; simp only at hspot; rw [hspot]
 rw [ea]
 simpa using key
section
variable {H : Type} {enc : TypeId × Value → H} {P : Program}
theorem oH (hl : laidOutB P = true) {W W' : World} (hb : Below W.heap.size W W') : ∀ {ts : List TypeId} {vs : List Value} {ds : List (DataW H)} {ps : List MemPlace}, (∀ t ∈ ts, P.readableRec t = true ∧ t < P.types.size) →
 DataW.TrodAll enc P W 0 (fun _ => true) true ts vs ds ps → (∀ x ∈ ps, x.block < W.heap.size) → DataW.TrodAll enc P W' 0 (fun b => decide (b < W.heap.size)) true ts vs ds ps
 | [], [], [], _, _, h, _ => h
 | t :: ts, v :: vs, d :: ds, _, ht, ⟨p, q, h1, h2, e⟩, hp => by
   subst e
   exact ⟨p, q, Below.trod hl (ht t (by simp)).1 (ht t (by simp)).2 h1 hb (fun x hx => hp x (by simp [hx])), oH hl hb (fun t ht' => ht t (by simp [ht'])) h2 (fun x hx => hp x (by simp [hx])), rfl⟩
theorem JQ {fn : Func} {s : ChangeSpec} {apart : Bool} {W W' : World} {args : Array Value} {ds gs : List (DataW H)} {before : List MemPlace} {t : TypeId} (hl : laidOutB P = true) (hb : Below W.heap.size W W')
 (hW : DataW.Whole enc P fn.params.toList s.vars apart W args.toList ds gs before) (hv : s.vars = []) (tq : fn.resultTypes = #[t]) (ht : P.underlying t = some .bool) (hs : s.fn H ds = { results := [.lit (.bool true)], args := ds })
 (hp : fn.params.toList.all (fun t => P.readableRec t && decide (t < P.types.size)) = true) : s.post enc P fn apart true false false W args (.bool true) W' := by
 have aY : ∀ x ∈ before, x.block < W.heap.size := fun x hx => by simpa using hW.lt x hx
 have hW0 := hW
 obtain ⟨p, q, h1, h2, h3, h4, h5⟩ := hW
 rw [hv] at h2
 obtain ⟨rfl, rfl⟩ := ChangeShapes.trodVars_none h2
 simp only [List.append_nil] at h3
 subst h3
 refine ⟨ds, [], before, [], before, [], hW0, ?_, ?_, ?_, hb.frame _, fun h => by cases h⟩
 ·simp only [List.append_nil, hs, tq]
  exact ChangeShapes.trodAll_mk1 (shut_bool ht true)
 ·simp only [List.append_nil, hs]
  exact oH hl hb (fun t ht => by simpa using List.all_eq_true.1 hp t ht) h1 aY
 ·simp only [hv, List.append_nil, hs]
  rfl
end
end Go.aK
end
section
namespace Go.aK
open Go
structure YX {σ : Type} (S : σ → List aa) (p : Nat) (obj : σ → aa) (n : Nat) : Prop where
 get : ∀ s, (S s)[p]? = some (obj s)
 set : ∀ s s', (S s).set p (obj s') = S s'
 len : ∀ s, (S s).length = n
namespace YX
variable {σ : Type} {S : σ → List aa} {p : Nat} {obj : σ → aa} {n : Nat} (F : YX S p obj n)
include F
theorem lt (s : σ) : p < n := by
 have := F.get s
 rw [← F.len s]
 exact (List.getElem?_eq_some_iff.1 this).1
theorem take (s : σ) (e : List aa) : (S s ++ e).take n = S s := by
 rw [← F.len s]; simp
end YX
theorem O9 {Hs G : List aa} {n0 : Nat} {v w x y : AV} {R : AV → List aa → Prop} (hH : Hs.take n0 = G) (hb : x.a7 n0 = true) (dU : y.a7 n0 = true) (hx : v.ab = x) (hy : w.ab = y) (hR : R (.tuple [x, y]) G) :
 sT n0 [v, w] Hs R := by
 subst hx hy hH
 exact ⟨n0, Nat.le_refl _, [v.ab, w.ab], b9 _, by simp only [aj, hb, dU, Bool.and_self], hR⟩
theorem Pa {Hs G : List aa} {n0 : Nat} {v x : AV} {R : AV → List aa → Prop} (hH : Hs.take n0 = G) (hb : x.a7 n0 = true) (hx : v = x) (hR : R x G) : xO n0 v Hs R := by
 subst hx hH
 exact ⟨n0, Nat.le_refl _, v, le_refl _, hb, hR⟩
theorem NB {Hs G : List aa} {n0 s : Nat} {v x : AV} {R : AV → List aa → Prop} (hH : Hs.take n0 = G) (hb : x.a7 n0 = true) (hx : v = x) (hR : R x G) : bT n0 [.t s] [(s, v)] Hs R := by
 subst hx hH
 exact aQ _ (Nat.le_refl _) (by rw [ax, if_pos rfl]; exact hb) (by rw [ax, if_pos rfl]; exact hR)
end Go.aK
end
section
namespace Go.aK
open Go
def vj (C : List aa → Nat → List aa → Prop) (n0 : Nat) (v : AV) (H : List aa) (R : AV → List aa → Prop) : Prop :=
 ∃ m H', n0 ≤ m ∧ C H m H' ∧ ∃ r, v.le r ∧ r.a7 m = true ∧ R r H'
@[congr] theorem NC {C : List aa → Nat → List aa → Prop} {n0 : Nat} {x x' : AV} {H H' : List aa} {R : AV → List aa → Prop} (h : fY x = x') (h2 : H = H') : vj C n0 x H R = vj C n0 x' H' R := by subst h; subst h2; rfl
theorem ND {C : List aa → Nat → List aa → Prop} {n0 s : Nat} {sz : Option Nat} {env : Env} {H : List aa} {R : AV → List aa → Prop} : kF C n0 [.c s sz] env H R = aS sz (get env s) H fun v => vj C n0 v H R := _root_.id rfl
theorem NE {C : List aa → Nat → List aa → Prop} {n0 s : Nat} {env : Env} {H : List aa} {R : AV → List aa → Prop} : kF C n0 [.t s] env H R = vj C n0 (get env s) H R := _root_.id rfl
theorem Hk {n0 : Nat} {H G : List aa} (h : G.take n0 = H) (hl : H.length = n0) : mc n0 G n0 H := by
 subst h
 refine ⟨by simp, fun id o ho => ?_⟩
 rw [List.getElem?_take] at ho
 split at ho
 ·exact .inr ⟨ho, fun h => by omega⟩
 ·cases ho
def only (n0 id : Nat) (G : List aa) : List aa := G.mapIdx fun j o => if j < n0 ∨ j = id then o else .dead
theorem nY (n0 : Nat) (env : Env) (H : List aa) : Gh n0 env H env H := ⟨fun t => le_refl _, .inl rfl⟩
theorem zR {n0 : Nat} {env aD : Env} {H H' : List aa} (he : env = aD) (hH : H = H') : Gh n0 env H aD H' := by
 subst he; subst hH; exact nY _ _ _
def rE := And.intro @ND (And.intro @NE JM)
end Go.aK
end
