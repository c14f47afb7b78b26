/- Part 10 of 18 of the proof. -/
import Derived.Test.YtljchnfgjdjobaaGreatQah
import Derived.ProofKit
import Derived.Deep.Slices
import Derived.Deep.Strs
set_option linter.unusedVariables false
set_option linter.unusedSimpArgs false
set_option linter.defProp false
set_option linter.unusedSectionVars false
section
namespace Go.aK
open Go
theorem Qc : AV.any.ab = .any := _root_.id rfl
theorem nU (b : Bool) : (AV.bool b).ab = .bool b := _root_.id rfl
theorem m9 (k : IntKind) (n : Int) : (AV.int k n).ab = .int k n := _root_.id rfl
theorem zq (s : ByteArray) : (AV.str s).ab = .str s := _root_.id rfl
theorem E1 : AV.ah.ab = .ah := _root_.id rfl
theorem uR (o : Nat) (xs : List AV) : (AV.ap o xs).ab = .ap 0 xs := _root_.id rfl
theorem Qd (a b c d : Nat) : (AV.bg a b c d).ab = .bg a b c d := _root_.id rfl
theorem Qe (xs : List AV) : (AV.agg xs).ab = .agg xs := _root_.id rfl
theorem IN (xs : List AV) : (AV.tuple xs).ab = .tuple xs := _root_.id rfl
theorem IP (a b : Nat) : (AV.ptr a b).ab = .ptr a b := _root_.id rfl
theorem E2 (x : AV) : (AV.ai x).ab = .ai x := _root_.id rfl
theorem L8 : AV.qO.ab = .qO := _root_.id rfl
theorem IQ (a : Nat) : (AV.map a).ab = .map a := _root_.id rfl
theorem L9 : AV.iA.ab = .iA := _root_.id rfl
theorem Oy (f : Fn) (a b : List AV) : (AV.fn f a b).ab = .fn f a b := _root_.id rfl
theorem Ma : AV.fq.ab = .fq := _root_.id rfl
theorem Mb (b : Bool) : (AV.bool b).cells = [.bool b] := _root_.id rfl
theorem Qf (k : IntKind) (n : Int) : (AV.int k n).cells = [.int k n] := _root_.id rfl
theorem Qg (s : ByteArray) : (AV.str s).cells = [.str s] := _root_.id rfl
theorem Mc : AV.ah.cells = [.ah] := _root_.id rfl
theorem Qh (o : Nat) (xs : List AV) : (AV.ap o xs).cells = [.ap o xs] := _root_.id rfl
theorem Qi (xs : List AV) : (AV.agg xs).cells = xs := _root_.id rfl
theorem Vc (f : Fn) (a b : List AV) : (AV.fn f a b).cells = [.fn f a b] := _root_.id rfl
theorem Md : AV.fq.cells = [.fq] := _root_.id rfl
theorem Qj (a b : Nat) : (AV.ptr a b).cells = [.ptr a b] := _root_.id rfl
theorem Me (x : AV) : (AV.ai x).cells = [.ai x] := _root_.id rfl
theorem Qk (a : Nat) : (AV.map a).cells = [.map a] := _root_.id rfl
theorem tF (b : Bool) : (AV.bool b).drop = .bool b := _root_.id rfl
theorem Ql (k : IntKind) (n : Int) : (AV.int k n).drop = .int k n := _root_.id rfl
theorem Qm (s : ByteArray) : (AV.str s).drop = .str s := _root_.id rfl
theorem Mf : AV.ah.drop = .ap 0 [] := _root_.id rfl
theorem Qn (o : Nat) (xs : List AV) : (AV.ap o xs).drop = .ap 0 xs := _root_.id rfl
theorem Qo (xs : List AV) : (AV.agg xs).drop = .agg xs := _root_.id rfl
theorem Vd (f : Fn) (a b : List AV) : (AV.fn f a b).drop = .fn f a b := _root_.id rfl
theorem Mg : AV.fq.drop = .fq := _root_.id rfl
theorem Qp (a b : Nat) : (AV.ptr a b).drop = .ptr a b := _root_.id rfl
theorem Mh (x : AV) : (AV.ai x).drop = .ai x := _root_.id rfl
theorem Qq (a : Nat) : (AV.map a).drop = .map a := _root_.id rfl
theorem E3 (b : Bool) : (AV.bool b).val = true := _root_.id rfl
theorem Qr (k : IntKind) (n : Int) : (AV.int k n).val = true := _root_.id rfl
theorem Qs (s : ByteArray) : (AV.str s).val = true := _root_.id rfl
theorem Mi : AV.ah.val = true := _root_.id rfl
theorem Qt (o : Nat) (xs : List AV) : (AV.ap o xs).val = true := _root_.id rfl
theorem Qu (xs : List AV) : (AV.agg xs).val = true := _root_.id rfl
theorem Ve (f : Fn) (a b : List AV) : (AV.fn f a b).val = true := _root_.id rfl
theorem Mj : AV.fq.val = true := _root_.id rfl
theorem Qv (a b : Nat) : (AV.ptr a b).val = true := _root_.id rfl
theorem Mk (x : AV) : (AV.ai x).val = true := _root_.id rfl
theorem Qw (a : Nat) : (AV.map a).val = true := _root_.id rfl
theorem zr (n : Nat) (b : Bool) : (AV.bool b).aY n = true := _root_.id rfl
theorem iL (n : Nat) (k : IntKind) (m : Int) : (AV.int k m).aY n = true := _root_.id rfl
theorem IS (n : Nat) (s : ByteArray) : (AV.str s).aY n = true := _root_.id rfl
theorem E4 (n : Nat) : AV.ah.aY n = true := _root_.id rfl
theorem cU (n o : Nat) (xs : List AV) : (AV.ap o xs).aY n = aj n xs := by rw [AV.aY]
theorem uS (n : Nat) (xs : List AV) : (AV.agg xs).aY n = aj n xs := by rw [AV.aY]
theorem IT (n : Nat) (xs : List AV) : (AV.tuple xs).aY n = aj n xs := by rw [AV.aY]
theorem rv (n a b : Nat) : (AV.ptr a b).aY n = decide (a < n) := by rw [AV.aY]
theorem IU (n a : Nat) : (AV.map a).aY n = decide (a < n) := by rw [AV.aY]
theorem jy (n a b c d : Nat) : (AV.bg a b c d).aY n = decide (a < n) := by rw [AV.aY]
theorem zt (n : Nat) (x : AV) : (AV.ai x).aY n = x.aY n := by rw [AV.aY]
theorem Vf (n : Nat) (f : Fn) (a b : List AV) : (AV.fn f a b).aY n = (aj n a && aj n b) := by rw [AV.aY]
theorem Ml (n : Nat) : AV.fq.aY n = true := _root_.id rfl
theorem cV (n : Nat) : aj n [] = true := _root_.id rfl
theorem bL (n : Nat) (x : AV) (xs : List AV) : aj n (x :: xs) = (x.aY n && aj n xs) := by rw [aj]
section
variable (k : IntKind) (a b : Int) (φ : AV → Prop)
theorem Qx : cT .add (.int k a) (.int k b) φ = φ (.int k (k.wrap (a + b))) := by simp [cT]
theorem Qy : cT .sub (.int k a) (.int k b) φ = φ (.int k (k.wrap (a - b))) := by simp [cT]
theorem Qz : cT .mul (.int k a) (.int k b) φ = φ (.int k (k.wrap (a * b))) := by simp [cT]
theorem QA : cT .rem (.int k a) (.int k b) φ = (b ≠ 0 ∧ φ (.int k (a.tmod b))) := by simp [cT]
theorem QB : cT .quo (.int k a) (.int k b) φ = (b ≠ 0 ∧ φ (.int k (k.wrap (a.tdiv b)))) := by simp [cT]
theorem QC : cT .eql (.int k a) (.int k b) φ = φ (.bool (decide (a = b))) := by simp [cT]
theorem QD : cT .neq (.int k a) (.int k b) φ = φ (.bool (decide (a ≠ b))) := by simp [cT]
theorem QE : cT .lss (.int k a) (.int k b) φ = φ (.bool (decide (a < b))) := by simp [cT]
theorem QF : cT .leq (.int k a) (.int k b) φ = φ (.bool (decide (a ≤ b))) := by simp [cT]
theorem QG : cT .gtr (.int k a) (.int k b) φ = φ (.bool (decide (b < a))) := by simp [cT]
theorem QH : cT .geq (.int k a) (.int k b) φ = φ (.bool (decide (b ≤ a))) := by simp [cT]
theorem QI (s t : ByteArray) : cT .eql (.str s) (.str t) φ = φ (.bool (decide (s = t))) := by simp [cT]
theorem QJ (s t : ByteArray) : cT .neq (.str s) (.str t) φ = φ (.bool (decide (s ≠ t))) := by simp [cT]
theorem QK (s t : ByteArray) : cT .add (.str s) (.str t) φ = (s.size + t.size < 9223372036854775808 ∧ φ (.str (s ++ t))) := by simp [cT]
theorem QL (q : Bool) : yx .not (.bool q) φ = φ (.bool (!q)) := _root_.id rfl
theorem QM : yx .neg (.int k a) φ = φ (.int k (k.wrap (0 - a))) := _root_.id rfl
theorem QN (p q : Bool) : cn true (.bool p) (.bool q) φ = φ (.bool (decide (p ≠ q))) := _root_.id rfl
theorem QO (p q : Bool) : cn false (.bool p) (.bool q) φ = φ (.bool (decide (p = q))) := _root_.id rfl
theorem Yt (q : Bool) (ψ : Bool → Prop) : eG (.bool q) ψ = ψ q := _root_.id rfl
theorem QP (s : ByteArray) (H : List aa) : eU (.str s) H φ = φ (.int .i64 s.size) := _root_.id rfl
theorem Mm (H : List aa) : eU .ah H φ = φ (.int .i64 0) := _root_.id rfl
theorem QQ (o : Nat) (xs : List AV) (H : List aa) : eU (.ap o xs) H φ = (xs.length < 9223372036854775808 → φ (.int .i64 xs.length)) := _root_.id rfl
theorem QR (x y l c : Nat) (H : List aa) : eU (.bg x y l c) H φ = φ (.int .i64 l) := _root_.id rfl
theorem Mn (H : List aa) : eU .iA H φ = φ (.int .i64 0) := _root_.id rfl
theorem QS (s : ByteArray) : aL 0 (.str s) = True := _root_.id rfl
theorem Mo : aL 1 .ah = True := _root_.id rfl
theorem QT (o : Nat) (xs : List AV) : aL 1 (.ap o xs) = True := _root_.id rfl
theorem QU (x y l c : Nat) : aL 1 (.bg x y l c) = True := _root_.id rfl
theorem Mq : aL 2 .iA = True := _root_.id rfl
theorem QV (x : Nat) : aL 2 (.map x) = True := _root_.id rfl
theorem Mr (q : Bool) (H : List aa) : aR none (.ai (.bool q)) H φ = φ (.bool q) := by simp [aR, AV.one, nU]
theorem QW (H : List aa) : aR none (.ai (.int k a)) H φ = φ (.int k a) := by simp [aR, AV.one, m9]
theorem QX (s : ByteArray) (H : List aa) : aR none (.ai (.str s)) H φ = φ (.str s) := by simp [aR, AV.one, zq]
theorem QY (o : Nat) (xs : List AV) (H : List aa) : aR none (.ai (.ap o xs)) H φ = φ (.ap 0 xs) := by simp [aR, AV.one, uR]
theorem Ms (H : List aa) : aR none (.ai .ah) H φ = φ .ah := by simp [aR, AV.one, E1]
theorem Vg (f : Fn) (x y : List AV) (H : List aa) : aR none (.ai (.fn f x y)) H φ = φ (.fn f x y) := by simp [aR, AV.one, Oy]
theorem QZ (x y : Nat) : bR (.ptr x y) φ = φ (.ptr x y) := _root_.id rfl
theorem Mt (x : AV) : bR (.ai x) φ = φ (.ai x) := _root_.id rfl
theorem IV (xs : List AV) (i : Nat) : bC (.tuple xs) i φ = (i < xs.length ∧ φ (xs.getD i .any).ab) := _root_.id rfl
theorem Q0 (id o off : Nat) (sz : Option Nat) : ak off sz (.ptr id o) φ = φ (.ptr id (o + off)) := by simp [ak]
end
section
variable {P : Px} {n0 : Nat} {env : Env} {H : List aa} {Q : Exit → Env → List aa → Prop}
theorem IW (pass : Option Nat) (j : Nat) : aE env pass j [] = [] := _root_.id rfl
theorem Q3 (pass : Option Nat) (j : Nat) (v : AV) (xs : List IX) : aE env pass j (.c v :: xs) = v.ab :: aE env pass (j + 1) xs := _root_.id rfl
theorem Q4 (j s : Nat) (xs : List IX) : aE env none j (.t s :: xs) = (get env s).ab :: aE env none (j + 1) xs := by simp [aE]
theorem Q5 (j s : Nat) (xs : List IX) : aE env (some 1999) j (.t s :: xs) = (if 1999 = j then get env s else (get env s).ab) :: aE env (some 1999) (j + 1) xs := by simp [aE]
theorem Q6 (p j s : Nat) (xs : List IX) : aE env (some p) j (.t s :: xs) = (if p = j then get env s else (get env s).ab) :: aE env (some p) (j + 1) xs := by simp [aE]
theorem Gs (args : List IX) : bc args none = none := _root_.id rfl
theorem Mv (x : Nat) (xs : List IX) : bc (.t x :: xs) (some 0) = some x := by simp [bc]
theorem Mw (x : Nat) (y : IX) (xs : List IX) : bc (y :: .t x :: xs) (some 1) = some x := by simp [bc]
theorem Mx (x : Nat) (y z : IX) (xs : List IX) : bc (y :: z :: .t x :: xs) (some 2) = some x := by simp [bc]
theorem Gu : bc [] (some 1999) = none := _root_.id rfl
theorem Gv (x : IX) : bc [x] (some 1999) = none := _root_.id rfl
theorem Gw (x y : IX) : bc [x, y] (some 1999) = none := _root_.id rfl
theorem Gx (x y z : IX) : bc [x, y, z] (some 1999) = none := _root_.id rfl
theorem Gy (x y z u : IX) : bc [x, y, z, u] (some 1999) = none := _root_.id rfl
theorem Bn : cC env none = env := _root_.id rfl
theorem Bo (d : Nat) : cC env (some d) = (d, (get env d).ab) :: env := _root_.id rfl
theorem IY (z : AV) : put none z env = env := _root_.id rfl
theorem IZ (d : Nat) (z : AV) : put (some d) z env = (d, z) :: env := _root_.id rfl
theorem ax (k : Nat) (v : AV) (t : Nat) : get ((k, v) :: env) t = if t = k then v else get env t := _root_.id rfl
theorem Q7 (t : Nat) : get [] t = .any := _root_.id rfl
theorem aV {s : Nat} {R : AV → List aa → Prop} (m : Nat) (h0 : n0 ≤ m) (hb : (get env s).aY m = true) (h : R (get env s) (H.take m)) : bT n0 [.t s] env H R :=
 ⟨m, h0, _, le_refl _, hb, h⟩
end
def Pure (P : Program) (g : FuncId) (xs : List AV) (v : AV) : Prop := ∀ H, aq P g xs H fun r H' => r = v ∧ H' = H
theorem Pure.mk {P : Program} {g : FuncId} {xs : List AV} {v : AV} (hb : aj 0 xs = true) (h : aq P g xs [] fun r H' => r = v ∧ H' = []) : Pure P g xs v :=
 aq.frame (fun x hx => (a9 0 xs).1 hb x hx) h
def o8 (n : Nat) (env : Env) : Bool := env.all fun p => p.2.aY n
theorem Dv {n : Nat} {env : Env} (h : o8 n env = true) (t : Nat) : (get env t).aY n = true := by
 rcases get_mem (env := env) (t := t) rfl with h' | h'
 ·rw [h']; rfl
 ·exact List.all_eq_true.1 h _ h'
theorem Q8 (n : Nat) : o8 n [] = true := _root_.id rfl
theorem My (n k : Nat) (v : AV) (env : Env) : o8 n ((k, v) :: env) = (v.aY n && o8 n env) := _root_.id rfl
theorem Bp {n0 : Nat} {env aC : Env} {H H' : List aa} (he : env = aC) (h0 : n0 ≤ H'.length) (hb : o8 H'.length aC = true) (e : List aa) (hH : H = H' ++ e) : sle n0 env H aC H' := by
 subst he; subst hH
 exact ⟨fun t => le_refl _, .inr ⟨H'.length, h0, by simp, Dv hb⟩⟩
theorem aH {n0 : Nat} {env aC : Env} {H H' : List aa} (he : env = aC) (hH : H = H') : sle n0 env H aC H' := by
 subst he; subst hH; exact aA _ _ _
theorem au (i : Nat) (h : i + 1 < 9223372036854775808) : IntKind.i64.wrap ((i : Int) + 1) = ((i + 1 : Nat) : Int) := by
 show IntKind.wrap .i64 ((i : Int) + 1) = _
 unfold IntKind.wrap
 simp [IntKind.signed, IntKind.bits]
 omega
end Go.aK
end
section
namespace Go.aK
open Go
def fV {α : Type} (x : α) : α := x
theorem Q9 {α : Type} (x : α) : fV x = x := _root_.id rfl
section
variable {φ : AV → Prop}
theorem I0 {op : BinOp} {x y : AV} (h : cT op x y φ) : ∃ z, cT op x y (fun w => w = z) ∧ φ z := by
 unfold cT at *
 split at h <;> (try exact h.elim)
 ·obtain ⟨h0, h⟩ := h
  split at h <;> first | exact ⟨_, ⟨h0, rfl⟩, h⟩ | exact ⟨_, ⟨h0, h.1, rfl⟩, h.2⟩ | exact h.elim
 ·split at h <;> first | exact ⟨_, rfl, h⟩ | exact ⟨_, ⟨h.1, rfl⟩, h.2⟩ | exact h.elim
theorem Dw {op : BinOp} {x y : AV} (h : dI op x y φ) : ∃ z, dI op x y (fun w => w = z) ∧ φ z := by
 unfold dI at *
 split at h <;> (try exact h.elim)
 obtain ⟨h0, h⟩ := h
 split at h <;> first | exact ⟨_, ⟨h0, rfl⟩, h⟩ | exact h.elim
theorem Bq {neq : Bool} {x y : AV} (h : cn neq x y φ) : ∃ z, cn neq x y (fun w => w = z) ∧ φ z := by
 unfold cn at *
 split at h <;> first | exact ⟨_, rfl, h⟩ | exact h.elim
theorem Mz {op : UnOp} {x : AV} (h : yx op x φ) : ∃ z, yx op x (fun w => w = z) ∧ φ z := by
 unfold yx at *
 split at h <;> first | exact ⟨_, rfl, h⟩ | exact h.elim
theorem Gz {sz : Option Nat} {x : AV} {H : List aa} (h : aR sz x H φ) : ∃ z, aR sz x H (fun w => w = z) ∧ φ z := by
 unfold aR at *
 split at h <;> (try exact h.elim) <;> (split at h <;> (try exact h.elim)) <;> first | exact ⟨_, ⟨h.1, rfl⟩, h.2⟩ | (split at h <;> exact ⟨_, ⟨h.1, rfl⟩, h.2⟩)
theorem xA {off : Nat} {sz : Option Nat} {xs : List AV} {g : AV → AV} (h : apart off sz xs fun z => φ (g z)) : ∃ z, (apart off sz xs fun w => g w = z) ∧ φ z := by
 unfold apart at *
 split at h <;> first | exact ⟨_, ⟨h.1, rfl⟩, h.2⟩ | exact ⟨_, ⟨h.1, h.2.1, rfl⟩, h.2.2⟩
theorem Dx {off : Nat} {sz : Option Nat} {x : AV} (h : eH off sz x φ) : ∃ z, eH off sz x (fun w => w = z) ∧ φ z := by
 unfold eH at *
 split at h <;> (try exact h.elim)
 exact xA h
theorem uT {off : Nat} {sz : Option Nat} {x : AV} (h : ak off sz x φ) : ∃ z, ak off sz x (fun w => w = z) ∧ φ z := by
 unfold ak at *
 split at h <;> (try exact h.elim)
 ·exact ⟨_, rfl, h⟩
 ·exact xA h
theorem uU {esz : Nat} {x i : AV} (h : ay esz x i φ) : ∃ z, ay esz x i (fun w => w = z) ∧ φ z := by
 unfold ay at *
 split at h <;> first | exact ⟨_, ⟨h.1, h.2.1, rfl⟩, h.2.2⟩ | exact h.elim
theorem wG {x i : AV} (h : bH x i φ) : ∃ z, bH x i (fun w => w = z) ∧ φ z := by
 unfold bH at *
 split at h <;> first | exact ⟨_, ⟨h.1, h.2.1, rfl⟩, h.2.2⟩ | exact h.elim
theorem wH {n : Nat} {x i : AV} (h : bQ n x i φ) : ∃ z, bQ n x i (fun w => w = z) ∧ φ z := by
 unfold bQ at *
 split at h <;> first | exact ⟨_, ⟨h.1, h.2.1, h.2.2.1, rfl⟩, h.2.2.2⟩ | exact h.elim
theorem zw {x : AV} {i : Nat} (h : bC x i φ) : ∃ z, bC x i (fun w => w = z) ∧ φ z := by
 unfold bC at *
 split at h <;> first | exact ⟨_, ⟨h.1, rfl⟩, h.2⟩ | exact h.elim
theorem wI {x : AV} (h : bR x φ) : ∃ z, bR x (fun w => w = z) ∧ φ z := by
 unfold bR at *
 split at h <;> first | exact ⟨_, rfl, h⟩ | exact h.elim
theorem zx {k : IntKind} {x : AV} (h : cp k x φ) : ∃ z, cp k x (fun w => w = z) ∧ φ z := by
 unfold cp at *
 split at h <;> first | exact ⟨_, rfl, h⟩ | exact h.elim
theorem MA {big : Bool} {x y : AV} (h : we big x y φ) : ∃ z, we big x y (fun w => w = z) ∧ φ z := by
 unfold we at *
 split at h <;> first | exact ⟨_, rfl, h⟩ | exact h.elim
theorem nV {x : Option AV} {d : Nat} {c1 c2 : Nat → Prop} {g : Nat → AV} (h : dK x d fun k => c1 k ∧ c2 k ∧ φ (g k)) : ∃ z, (dK x d fun k => c1 k ∧ c2 k ∧ g k = z) ∧ φ z := by
 unfold dK at *
 split at h
 ·exact ⟨_, ⟨h.1, h.2.1, rfl⟩, h.2.2⟩
 ·exact ⟨_, ⟨h.1, h.2.1, h.2.2.1, rfl⟩, h.2.2.2⟩
 ·exact h.elim
theorem ic {x : Option AV} {d : Nat} {ψ : (AV → Prop) → Nat → Prop} (h : dK x d (ψ φ)) (hd : ∀ k, ψ φ k → ∃ z, ψ (fun w => w = z) k ∧ φ z) : ∃ z, dK x d (ψ fun w => w = z) ∧ φ z := by
 unfold dK at *
 split at h
 ·exact hd _ h
 ·obtain ⟨z, h2, h3⟩ := hd _ h.2; exact ⟨z, ⟨h.1, h2⟩, h3⟩
 ·exact h.elim
theorem Dy {esz : Nat} {x : AV} {lo hi mx : Option AV} (h : fm esz x lo hi mx φ) : ∃ z, fm esz x lo hi mx (fun w => w = z) ∧ φ z := by
 unfold fm at *
 split at h <;> (try exact h.elim)
 rename_i xs fp
 cases mx with
 | none => exact ic (ψ := fun φ h => dK lo 0 fun l => l ≤ h ∧ h ≤ xs.length ∧ φ (.ap 0 ((xs.take h).drop l))) h fun k h => nV (c1 := fun l => l ≤ k) (c2 := fun _ => k ≤ xs.length) (g := fun l => .ap 0 ((xs.take k).drop l)) h
 | some m =>
   refine ic (ψ := fun φ h => dK lo 0 fun l => l ≤ h ∧ h ≤ xs.length ∧ hi.isSome = true ∧ dK (some m) 0 fun m => m = h ∧ (∀ y ∈ xs, y.cells.length = esz) ∧ φ (.ap esz ((xs.take h).drop l))) h fun k h => ?_
   refine ic (ψ := fun φ l => l ≤ k ∧ k ≤ xs.length ∧ hi.isSome = true ∧ dK (some m) 0 fun m => m = k ∧ (∀ y ∈ xs, y.cells.length = esz) ∧ φ (.ap esz ((xs.take k).drop l))) h fun l h => ?_
   obtain ⟨h1, h2, h3, h4⟩ := h
   obtain ⟨z, k1, k2⟩ := nV (g := fun _ => .ap esz ((xs.take k).drop l)) h4
   exact ⟨z, ⟨h1, h2, h3, k1⟩, k2⟩
theorem Br {esz : Nat} {x : AV} {lo hi mx : Option AV} (h : bA esz x lo hi mx φ) : ∃ z, bA esz x lo hi mx (fun w => w = z) ∧ φ z := by
 unfold bA gf nI at *
 split at h
 ·rename_i id off len cap
  split at h
  rotate_left
  ·rename_i m
   obtain ⟨h1, h2⟩ := h
   have := ic (ψ := fun φ m => dK hi len fun h => dK lo 0 fun l => l ≤ h ∧ h ≤ m ∧ m ≤ cap ∧ φ (.bg id (if m = l then off else off + l * esz) (h - l) (m - l))) h2 fun m h =>
    ic (ψ := fun φ h => dK lo 0 fun l => l ≤ h ∧ h ≤ m ∧ m ≤ cap ∧ φ (.bg id (if m = l then off else off + l * esz) (h - l) (m - l))) h fun k h =>
     ic (ψ := fun φ l => l ≤ k ∧ k ≤ m ∧ m ≤ cap ∧ φ (.bg id (if m = l then off else off + l * esz) (k - l) (m - l))) h fun l h => ⟨_, ⟨h.1, h.2.1, h.2.2.1, rfl⟩, h.2.2.2⟩
   obtain ⟨z, k1, k2⟩ := this
   exact ⟨z, ⟨h1, k1⟩, k2⟩
  have h2 := h
  have := ic (ψ := fun φ h => dK lo 0 fun l => l ≤ h ∧ h ≤ cap ∧ φ (.bg id (if cap = l then off else off + l * esz) (h - l) (cap - l))) h2 fun k h => nV (c1 := fun l => l ≤ k) (c2 := fun _ => k ≤ cap) (g := fun l => .bg id (if cap = l then off else off + l * esz) (k - l) (cap - l)) h
  obtain ⟨z, k1, k2⟩ := this
  exact ⟨z, k1, k2⟩
 ·obtain ⟨z, k1, k2⟩ := Dy h.2
  exact ⟨z, ⟨h.1, k1⟩, k2⟩
theorem wJ {x : AV} {lo hi : Option AV} (h : bZ x lo hi φ) : ∃ z, bZ x lo hi (fun w => w = z) ∧ φ z := by
 unfold bZ at *
 split at h <;> (try exact h.elim)
 rename_i s
 exact ic (ψ := fun φ h => dK lo 0 fun l => l ≤ h ∧ h ≤ s.size ∧ φ (.str (s.extract l h))) h fun k h => nV (c1 := fun l => l ≤ k) (c2 := fun _ => k ≤ s.size) (g := fun l => .str (s.extract l k)) h
theorem Bs {kd : Nat} {z m k : AV} {ok : Bool} {H : List aa} (h : ca kd z m k ok H φ) : ∃ y, ca kd z m k ok H (fun w => w = y) ∧ φ y := by
 unfold ca at *
 split at h <;> (try exact h.elim) <;> first | exact ⟨_, rfl, h⟩ | exact ⟨_, ⟨h.1, rfl⟩, h.2⟩ | (split at h <;> (try exact h.elim) <;> first | exact ⟨_, rfl, h⟩ | exact ⟨_, ⟨h.1, rfl⟩, h.2⟩ | (split at h <;> (try exact h.elim) <;> first | exact ⟨_, rfl, h⟩ | exact ⟨_, ⟨h.1, rfl⟩, h.2⟩))
theorem sJ {esz : Nat} {own : Nat} : ∀ {ps : List (Nat × AV)} {zs : List AV}, bi zs esz ps (fun v => φ (.ap own v)) → ∃ z, bi zs esz ps (fun v => .ap own v = z) ∧ φ z
 | [], zs, h => ⟨_, rfl, h⟩
 | (i, x) :: r, zs, h => by
   obtain ⟨z, k1, k2⟩ := sJ h.2.2.2
   exact ⟨z, ⟨h.1, h.2.1, h.2.2.1, k1⟩, k2⟩
theorem xB : ∀ {ps : List (Nat × Nat × AV)} {zs : List AV}, gG zs ps (fun v => φ (.agg v)) → ∃ z, gG zs ps (fun v => .agg v = z) ∧ φ z
 | [], zs, h => ⟨_, rfl, h⟩
 | (off, sz, x) :: r, zs, h => by
   obtain ⟨z, k1, k2⟩ := xB h.2.2.2
   exact ⟨z, ⟨h.1, h.2.1, h.2.2.1, k1⟩, k2⟩
end
def fA (v : AV) (A B : Prop) : Prop := eG v fun q => (q = true → A) ∧ (q = false → B)
@[congr] theorem Oz {v v' : AV} {A B : Prop} (h : fV v = v') : fA v A B = fA v' A B := by subst h; rfl
theorem MB (A B : Prop) : fA (.bool true) A B = A := by simp [fA, eG]
theorem MC (A B : Prop) : fA (.bool false) A B = B := by simp [fA, eG]
theorem MD (b : Bool) (A B : Prop) : fA (.bool (!b)) A B = fA (.bool b) B A := by cases b <;> simp [fA, eG]
theorem ME (p : Prop) [Decidable p] (A B : Prop) : fA (.bool (decide p)) A B = ((p → A) ∧ (¬ p → B)) := by simp [fA, eG]
theorem tG {b : Bool} {A B : Prop} (h1 : b = true → A) (h2 : b = false → B) : fA (.bool b) A B := ⟨h1, h2⟩
def dC (v : AV) (g : Nat) (want : Bool) (env : Env) (yes no : Env → Prop) : Prop :=
 match v with
 | .bool b => (b = want → yes ((g, .bool want) :: env)) ∧ (b = (!want) → no ((g, .bool (!want)) :: env))
 | .tuple [] => no env
 | _ => False
@[congr] theorem MF {v v' : AV} {g : Nat} {want : Bool} {env : Env} {yes no : Env → Prop} (h : fV v = v') : dC v g want env yes no = dC v' g want env yes no := by subst h; rfl
section
variable (g : Nat) (env : Env) (yes no : Env → Prop)
theorem Vh : dC (.bool true) g true env yes no = yes ((g, .bool true) :: env) := by simp [dC]
theorem Vi : dC (.bool true) g false env yes no = no ((g, .bool true) :: env) := by simp [dC]
theorem Vj : dC (.bool false) g true env yes no = no ((g, .bool false) :: env) := by simp [dC]
theorem Vk : dC (.bool false) g false env yes no = yes ((g, .bool false) :: env) := by simp [dC]
theorem Yu (want : Bool) : dC (.tuple []) g want env yes no = no env := _root_.id rfl
theorem Vl (p : Prop) [Decidable p] : dC (.bool (decide p)) g true env yes no = ((p → yes ((g, .bool true) :: env)) ∧ (¬ p → no ((g, .bool false) :: env))) := by simp [dC]
theorem Vm (p : Prop) [Decidable p] : dC (.bool (decide p)) g false env yes no = ((¬ p → yes ((g, .bool false) :: env)) ∧ (p → no ((g, .bool true) :: env))) := by simp [dC]
end
def Bt (P : Px) (g : FuncId) (xs : List AV) (H : List aa) (K : AV → List aa → Prop) : Prop := ∃ bO, xh xs bO ∧ dU P g bO H K
@[congr] theorem OA {P : Px} {g : FuncId} {xs xs' : List AV} {H H' : List aa} {K : AV → List aa → Prop} (h : fV xs = xs') (h2 : H = H') : Bt P g xs H K = Bt P g xs' H' K := by subst h; subst h2; rfl
theorem af {P : Program} {lo : Option Nat} {g : FuncId} {xs : List AV} {H : List aa} {R K : AV → List aa → Prop} (hc : aq P g xs H R) (hk : ∀ r H', R r H' → K r H') : Bt ⟨P, lo⟩ g xs H K := ⟨xs, b8 _, dU.of (hc.mono hk)⟩
theorem ae {P : Program} {lo : Option Nat} {g : FuncId} {xs : List AV} {v : AV} {H : List aa} {K : AV → List aa → Prop} (hc : Pure P g xs v) (hk : K v H) : Bt ⟨P, lo⟩ g xs H K :=
 ⟨xs, b8 _, dU.of ((hc H).mono fun r H' ⟨h1, h2⟩ => by rw [h1, h2]; exact hk)⟩
theorem MG {P : Px} {env : Env} {H : List aa} (g : FuncId) (first cap : List AV) (args : List IX) (pass : Option Nat) (K : AV → Env → List aa → Prop) : oA P (.fn (.func g) first cap) args pass env H K =
 Bt P g (first.map AV.ab ++ aE env pass 0 args ++ cap.map AV.ab) H (fun r H' => K r (cC env (bc args pass)) H') := _root_.id rfl
@[congr] theorem OB {P : Px} {f f' : AV} {args : List IX} {pass : Option Nat} {env : Env} {H : List aa} {K : AV → Env → List aa → Prop} (h : fV f = f') : oA P f args pass env H K = oA P f' args pass env H K := by subst h; rfl
def Bu (P : Px) (st : Bool) (g : FuncId) (xs : List AV) (H : List aa) (K : AV → Prop) : Prop :=
 ∃ x, (match st with
  | true => ∃ bO, xh xs bO ∧ aq P.prog g bO H (fun r H' => r = x ∧ H' = H)
  | false => ∀ H, ∃ bO, xh xs bO ∧ aq P.prog g bO H (fun r H' => r = x ∧ H' = H)) ∧ K x
@[congr] theorem OC {P : Px} {st : Bool} {g : FuncId} {xs xs' : List AV} {H : List aa} {K : AV → Prop} (h : fV xs = xs') : Bu P st g xs H K = Bu P st g xs' H K := by subst h; rfl
theorem aF {P : Program} {lo : Option Nat} {st : Bool} {g : FuncId} {xs : List AV} {v : AV} {H : List aa} {K : AV → Prop} (hc : Pure P g xs v) (hk : K v) : Bu ⟨P, lo⟩ st g xs H K :=
 ⟨v, (by cases st <;> first | exact ⟨xs, b8 _, hc H⟩ | exact fun H => ⟨xs, b8 _, hc H⟩), hk⟩
def o9 (P : Px) (st : Bool) (f : AV) (xs : List AV) (H : List aa) (K : AV → Prop) : Prop :=
 match f with
 | .fn (.func g) first cap => Bu P st g (first.map AV.ab ++ xs ++ cap.map AV.ab) H K
 | _ => False
@[congr] theorem MH {P : Px} {st : Bool} {f f' : AV} {xs xs' : List AV} {H : List aa} {K : AV → Prop} (h : fV f = f') (h2 : xs = xs') : o9 P st f xs H K = o9 P st f' xs' H K := by subst h; subst h2; rfl
theorem GA {P : Px} {st : Bool} (g : FuncId) (first cap xs : List AV) (H : List aa) (K : AV → Prop) : o9 P st (.fn (.func g) first cap) xs H K = Bu P st g (first.map AV.ab ++ xs ++ cap.map AV.ab) H K := _root_.id rfl
def gJ (x : AV) (H : List aa) (φ : AV → Prop) : Prop := match x with | .ap _ xs => φ (.int .i64 xs.length) | x => eU x H φ
@[congr] theorem OD {x x' : AV} {H : List aa} {φ : AV → Prop} (h : fV x = x') : gJ x H φ = gJ x' H φ := by subst h; rfl
theorem GB {x : AV} {H : List aa} {φ : AV → Prop} (h : gJ x H φ) : ∃ z, eU x H (fun w => w = z) ∧ φ z := by
 cases x with
 | ap o xs => exact ⟨_, fun _ => rfl, h⟩
 | map id =>
   simp only [gJ, eU] at h ⊢
   split at h
   ·exact ⟨_, rfl, h⟩
   ·exact h.elim
 | _ => first | exact ⟨_, rfl, h⟩ | exact False.elim h
def nW (kd : Nat) (neq : Bool) (x : AV) (φ : AV → Prop) : Prop := match isNil kd x with | some b => φ (.bool (if neq then !b else b)) | none => False
@[congr] theorem KT {kd : Nat} {neq : Bool} {x x' : AV} {φ : AV → Prop} (h : fV x = x') : nW kd neq x φ = nW kd neq x' φ := by subst h; rfl
def uV (o : bV) (ρ : IX → AV) (H : List aa) (K : AV → Prop) : Prop :=
 match o with
 | .set i false => K (ρ i).ab
 | .pick c a b => fA (ρ c) (K (ρ a).ab) (K (ρ b).ab)
 | .bin op i j => cT op (ρ i) (ρ j) K
 | .shift op i j => dI op (ρ i) (ρ j) K
 | .gM neq i j => cn neq (ρ i) (ρ j) K
 | .iQ kd neq i => nW kd neq (ρ i) K
 | .un op i => yx op (ρ i) K
 | .k9 i => (ρ i).val = true ∧ K (.ai (ρ i))
 | .build z ps => cB z.cells (ps.map fun q => (q.1, q.2.1, ρ q.2.2)) K
 | .buildSlice own esz z len ps => bi (List.replicate len (aS z)) esz (ps.map fun q => (q.1, ρ q.2)) fun xs => K (.ap own xs)
 | .load sz i => aR sz (ρ i) H K
 | .nilCheck i => bR (ρ i) K
 | .fieldAddr off sz i => ak off sz (ρ i) K
 | .field off sz i => eH off sz (ρ i) K
 | .indexAddr esz i j => (∀ own xs, ρ i = .ap own xs → ∀ z ∈ xs, z.cells.length = esz) ∧ ay esz (ρ i) (ρ j) K
 | .cZ i j => bH (ρ i) (ρ j) K
 | .dG n i j => bQ n (ρ i) (ρ j) K
 | .slice esz i lo hi mx => bA esz (ρ i) (lo.map ρ) (hi.map ρ) (mx.map ρ) K
 | .dH i lo hi => bZ (ρ i) (lo.map ρ) (hi.map ρ) K
 | .len kd i => aL kd (ρ i) ∧ gJ (ρ i) H K
 | .lookup kd z m k ok => ca kd z (ρ m) (ρ k) ok H K
 | .fn f first cap => K (.fn f (first.map fun x => (ρ x).ab) (cap.map fun x => (ρ x).ab))
 | .extract i k => bC (ρ i) k K
 | .eB k i => cp k (ρ i) K
 | .mx big i j => we big (ρ i) (ρ j) K
 | _ => False
theorem Bv {P : Px} {o : bV} {ρ : IX → AV} {H : List aa} {K : AV → Prop} (h : uV o ρ H K) : ∃ x, cR P o ρ H x ∧ K x := by
 unfold uV at h
 split at h
 ·exact ⟨_, rfl, h⟩
 ·unfold fA eG at h
  simp only [cR, eG]
  split at h
  ·rename_i b hb
   cases b with
   | true => exact ⟨_, ⟨fun _ => rfl, fun e => by cases e⟩, h.1 rfl⟩
   | false => exact ⟨_, ⟨fun e => (by cases e), fun _ => rfl⟩, h.2 rfl⟩
  ·exact h.elim
 ·exact I0 h
 ·exact Dw h
 ·exact Bq h
 ·unfold nW at h
  split at h
  ·rename_i b hb
   refine ⟨_, ?_, h⟩
   simp only [cR, dc, hb]
  ·exact h.elim
 ·exact Mz h
 ·exact ⟨_, ⟨h.1, rfl⟩, h.2⟩
 ·exact xB h
 ·exact sJ h
 ·exact Gz h
 ·exact wI h
 ·exact uT h
 ·exact Dx h
 ·obtain ⟨z, k1, k2⟩ := uU h.2
  exact ⟨z, ⟨h.1, k1⟩, k2⟩
 ·exact wG h
 ·exact wH h
 ·exact Br h
 ·exact wJ h
 ·obtain ⟨z, k1, k2⟩ := GB h.2
  exact ⟨z, ⟨h.1, k1⟩, k2⟩
 ·exact Bs h
 ·exact ⟨_, rfl, h⟩
 ·exact zw h
 ·exact zx h
 ·exact MA h
 ·exact h.elim
theorem GC {P : Px} {o : bV} {ρ : IX → AV} {K : AV → Prop} (h : uV o ρ [] K) : ∃ x, (∀ H, cR P o ρ H x) ∧ K x := by
 obtain ⟨x, h1, h2⟩ := Bv (P := P) h
 have hs : o.stays = true := by
  cases o <;> first | rfl | exact h.elim
 exact ⟨x, fun H => by have := xo (e := H) hs h1; simpa using this, h2⟩
def kX (P : Px) (st : Bool) (o : bV) (ρ : IX → AV) (H : List aa) (K : AV → Prop) : Prop :=
 match o with
 | .call f args none => o9 P st (ρ f) (args.map fun x => (ρ x).ab) H K
 | o => uV o ρ (match st with | true => H | false => []) K
theorem I1 {P : Px} {st : Bool} {o : bV} {ρ : IX → AV} {H : List aa} {K : AV → Prop} (h : kX P st o ρ H K) : ∃ x, dv P st o ρ H x ∧ K x := by
 unfold kX at h
 split at h
 ·rename_i f args
  unfold o9 at h
  split at h
  ·rename_i g first cap e
   obtain ⟨x, h1, h2⟩ := h
   cases st with
   | true => exact ⟨x, by simp only [dv, cR, e]; exact h1, h2⟩
   | false => exact ⟨x, by simp only [dv, cR, e]; exact h1, h2⟩
  ·exact h.elim
 ·cases st with
  | true => exact Bv h
  | false => exact GC h
def E5 (P : Px) (st : Bool) (o : bt) (env : Env) (H : List aa) (K : Env → Prop) : Prop :=
 match o.g with
 | none => kX P st o.op (al env) H fun x => K (put o.dst x env)
 | some (g, want) => dC (get env g) g want env (fun _ => kX P st o.op (al env) H fun x => K (put o.dst x env)) (fun _ => K (put o.dst (.tuple []) env))
theorem Bw {P : Px} {st : Bool} {o : bt} {env : Env} {H : List aa} {K1 K2 : Env → Prop} (h : E5 P st o env H K1) (hK : ∀ e, K1 e → K2 e) : sr P st o env H K2 := by
 unfold E5 at h
 unfold sr
 split at h
 ·rename_i e
  rw [e]
  obtain ⟨x, h1, h2⟩ := I1 h
  exact ⟨x, h1, hK _ h2⟩
 ·rename_i g want e
  rw [e]
  unfold dC at h
  unfold gP
  dsimp only
  split at h
  ·rename_i b hb
   rw [hb]
   refine ⟨fun eb => ?_, fun eb => hK _ (h.2 eb)⟩
   obtain ⟨x, h1, h2⟩ := I1 (h.1 eb)
   exact ⟨x, h1, hK _ h2⟩
  ·rename_i hb
   rw [hb]
   exact hK _ h
  ·exact h.elim
theorem Bx {P : Px} {o : bV} {dst : Option Nat} {env : Env} {H : List aa} {K1 K2 : Env → List aa → Prop} (h : bp P o dst env H K1) (hK : ∀ e H', K1 e H' → K2 e H') : bp P o dst env H K2 :=
 nN (fun _ _ => rfl) h fun mods H' _ _ _ hk => hK _ _ hk
theorem ry {P : Px} {o : bt} {env : Env} {H : List aa} {K1 K2 : Env → List aa → Prop} (h : qY P o env H K1) (hK : ∀ e H', K1 e H' → K2 e H') : qY P o env H K2 := by
 unfold qY at *
 split at h
 ·exact Bx h hK
 ·rename_i g want e
  unfold gP at *
  split at h
  ·exact ⟨fun eb => Bx (h.1 eb) hK, fun eb => hK _ _ (h.2 eb)⟩
  ·exact hK _ _ h
  ·exact h.elim
theorem rA {P : Px} : ∀ {ops : List bt} {env : Env} {H : List aa} {K1 K2 : Env → List aa → Prop}, iV P ops env H K1 → (∀ e H', K1 e H' → K2 e H') → iV P ops env H K2
 | [], _, _, _, _, h, hK => hK _ _ h
 | o :: r, _, _, _, _, h, hK => ry h fun _ _ h => rA h hK
def iM (P : Px) : DT → Env → List aa → (Env → List aa → Prop) → Prop
 | .done, env, H, K => K env H
 | .take st o r, env, H, K => E5 P st o env H fun env => iM P r env H K
 | .br o t rest, env, H, K => qY P o env H (fun env H => iM P t env H K) ∧ iM P rest env H K
 | .nil, _, _, _ => True
theorem qi {P : Px} : ∀ {t : DT} {env : Env} {H : List aa} {K1 K2 : Env → List aa → Prop}, iM P t env H K1 → (∀ e H', K1 e H' → K2 e H') → tu P t env H K2
 | .done, _, _, _, _, h, hK => hK _ _ h
 | .take st o r, _, _, _, _, h, hK => Bw h fun _ h => qi h hK
 | .br o t rest, _, _, _, _, h, hK => ⟨ry h.1 fun _ _ h => qi h hK, qi h.2 hK⟩
 | .nil, _, _, _, _, h, hK => trivial
def uW (P : Px) (f : AV) (lc : hJ) (env : Env) (H : List aa) (K : Option Code → List aa → Prop) : Prop :=
 match f with
 | .fn (.func g) first cap => (∀ (as : Array Value) (w : World), (callFunc g as).run P.prog w = .ok (.enter g as) w) ∧
    ∃ bO, xh (first.map AV.ab ++ [.mF H.length] ++ cap.map AV.ab) bO ∧ dU P g bO (H ++ [.loop .ready lc (ke lc.n env)]) fun _ H' => behind H.length H' K
 | _ => False
theorem xC {j : Option Code} {Q1 Q2 : Exit → Env → List aa → Prop} {env : Env} {H : List aa} (h : oS j Q1 env H) (hQ : ∀ x e H', Q1 x e H' → Q2 x e H') : oS j Q2 env H := by
 unfold oS at *
 split at h <;> first | exact hQ _ _ _ h | exact h.elim
theorem sK {id : Nat} {H : List aa} {K1 K2 : Option Code → List aa → Prop} (h : behind id H K1) (hK : ∀ j H', K1 j H' → K2 j H') : behind id H K2 := by
 unfold behind at *
 split at h <;> first | exact hK _ _ h | exact h.elim
def kY (P : Px) (n0 : Nat) : IR → Env → List aa → (Exit → Env → List aa → Prop) → Prop
 | .skip, env, H, Q => Q .normal env H
 | .region ops live, env, H, Q => iV P ops env H fun aC H' => Q .normal (eh live aC) H'
 | .draw t live, env, H, Q => iM P t env H fun aC H' => Q .normal (eh live aC) H'
 | .seq a b, env, H, Q => kY P n0 a env H fun e aC H' => match e with
   | .normal => kY P n0 b aC H' Q
   | e => Q e aC H'
 | .cond x a b, env, H, Q => fA (al env x) (kY P n0 a env H Q) (kY P n0 b env H Q)
 | .block id a, env, H, Q => kY P n0 a env H fun e aC H' => match e with
   | .exit id' => if id' = id then Q .normal aC H' else Q (.exit id') aC H'
   | e => Q e aC H'
 | .loop a, env, H, Q => ∃ (ι : Type) (I : ι → Prop) (se : ι → Env) (sh : ι → List aa) (μ : ι → Nat), (∃ i, I i ∧ F3 P.lo n0 env H (se i) (sh i)) ∧
    ∀ i, I i → kY P n0 a (se i) (sh i) fun e aC H' => match e with
     | .normal => ∃ j, I j ∧ μ j < μ i ∧ F3 P.lo n0 aC H' (se j) (sh j)
     | e => Q e aC H'
 | .exit id, env, H, Q => Q (.exit id) env H
 | .ret, env, H, Q => Q .ret env H
 | .never, env, H, Q => False
 | .iH f lc, env, H, Q => uW P (al env f) lc env H fun j H'' => oS j Q env H''
theorem tH {P : Px} {n0 : Nat} : ∀ {ir : IR} {env : Env} {H : List aa} {Q1 Q2 : Exit → Env → List aa → Prop}, kY P n0 ir env H Q1 → (∀ x e H', Q1 x e H' → Q2 x e H') → mf P n0 ir env H Q2 := by
 intro ir
 induction ir with
 | skip => exact fun h hQ => hQ _ _ _ h
 | region ops live => exact fun h hQ => rA h fun _ _ h => hQ _ _ _ h
 | draw t live => exact fun h hQ => qi h fun _ _ h => hQ _ _ _ h
 | seq a b Dz Ra =>
   exact fun h hQ => Dz h fun x e H' h => by
    cases x with
    | normal => exact Ra h hQ
    | _ => exact hQ _ _ _ h
 | cond x a b Dz Ra =>
   intro env H Q1 Q2 h hQ
   unfold kY fA eG at h
   unfold mf eG
   split at h
   ·exact ⟨fun e => Dz (h.1 e) hQ, fun e => Ra (h.2 e) hQ⟩
   ·exact h.elim
 | block id a Dz =>
   exact fun h hQ => Dz h fun x e H' h => by
    cases x with
    | exit id' =>
      dsimp only at h ⊢
      split
      ·rename_i bm; rw [if_pos bm] at h; exact hQ _ _ _ h
      ·rename_i bm; rw [if_neg bm] at h; exact hQ _ _ _ h
    | _ => exact hQ _ _ _ h
 | loop a Dz =>
   intro env H Q1 Q2 h hQ
   obtain ⟨ι, I, se, sh, μ, h0, hs⟩ := h
   exact ⟨ι, I, se, sh, μ, h0, fun i hi => Dz (hs i hi) fun x e H' h => by
    cases x with
    | normal => exact h
    | _ => exact hQ _ _ _ h⟩
 | exit id => exact fun h hQ => hQ _ _ _ h
 | ret => exact fun h hQ => hQ _ _ _ h
 | never => exact fun h _ => h.elim
 | iH f lc =>
   intro env H Q1 Q2 h hQ
   unfold kY uW at h
   unfold mf
   split at h
   ·rename_i g first cap e
    obtain ⟨h1, bO, h2, h3⟩ := h
    rw [e]
    exact ⟨h1, bO, h2, h3.mono fun _ H' hb => sK hb fun j H'' hg => xC hg hQ⟩
   ·exact h.elim
theorem hZ.calls {P : Program} {f : FuncId} {fi : qg} (h : hZ P f fi) {args : List AV} {H : List aa} {R : AV → List aa → Prop} (hn : Nat.ble args.length fi.n = true)
 (hw : kY P H.length fi.ir (bU 0 args) H fun e env H' => (e = .normal ∨ e = .ret) ∧ bT H.length fi.rs env H' R) : aq P f args H R :=
 h.zh (Nat.le_of_ble_eq_true hn) (tH hw fun _ _ _ h => h)
theorem hZ.DA {P : Program} {f : FuncId} {fi : qg} (h : hZ P f fi) {args : List AV} {H : List aa} {R : AV → List aa → Prop} (hn : Nat.ble args.length fi.n = true)
 (hw : kY ⟨P, some H.length⟩ H.length fi.ir (bU 0 args) H fun e env H' => (e = .normal ∨ e = .ret) ∧ kE (mg H.length) H.length fi.rs env H' R) : aq P f args H R :=
 h.LH (Nat.le_of_ble_eq_true hn) (tH hw fun _ _ _ h => h)
section
variable {P : Px} {n0 : Nat} {env : Env} {H : List aa} {Q : Exit → Env → List aa → Prop}
theorem I2 : kY P n0 .skip env H Q = Q .normal env H := _root_.id rfl
theorem DB (ops : List bt) (live : Option (List Nat)) : kY P n0 (.region ops live) env H Q = iV P ops env H fun aC H' => Q .normal (eh live aC) H' := _root_.id rfl
theorem I3 (t : DT) (live : Option (List Nat)) : kY P n0 (.draw t live) env H Q = iM P t env H fun aC H' => Q .normal (eh live aC) H' := _root_.id rfl
theorem MJ (a b : IR) : kY P n0 (.seq a b) env H Q = kY P n0 a env H fun e aC H' => match e with
 | .normal => kY P n0 b aC H' Q
 | e => Q e aC H' := _root_.id rfl
theorem By (x : IX) (a b : IR) : kY P n0 (.cond x a b) env H Q = fA (al env x) (kY P n0 a env H Q) (kY P n0 b env H Q) := _root_.id rfl
theorem GD (id : Nat) (a : IR) : kY P n0 (.block id a) env H Q = kY P n0 a env H fun e aC H' => match e with
 | .exit id' => if id' = id then Q .normal aC H' else Q (.exit id') aC H'
 | e => Q e aC H' := _root_.id rfl
theorem xD (f : IX) (lc : hJ) : kY P n0 (.iH f lc) env H Q = uW P (al env f) lc env H fun j H'' => oS j Q env H'' := _root_.id rfl
theorem I4 (id : Nat) : kY P n0 (.exit id) env H Q = Q (.exit id) env H := _root_.id rfl
theorem MK : kY P n0 .ret env H Q = Q .ret env H := _root_.id rfl
@[congr] theorem S5 {ir : IR} {aC : Env} {H' : List aa} (h : fV env = aC) (h2 : H = H') : kY P n0 ir env H Q = kY P n0 ir aC H' Q := by subst h; subst h2; rfl
@[congr] theorem Rb {ops : List bt} {aC : Env} {H' : List aa} {K : Env → List aa → Prop} (h : fV env = aC) (h2 : H = H') : iV P ops env H K = iV P ops aC H' K := by subst h; subst h2; rfl
@[congr] theorem Rc {t : DT} {aC : Env} {H' : List aa} {K : Env → List aa → Prop} (h : fV env = aC) (h2 : H = H') : iM P t env H K = iM P t aC H' K := by subst h; subst h2; rfl
theorem I5 (K : Env → List aa → Prop) : iV P [] env H K = K env H := _root_.id rfl
theorem Re (d : Option Nat) (op : bV) (r : List bt) (K : Env → List aa → Prop) : iV P (⟨none, d, op⟩ :: r) env H K = bp P op d env H fun env H => iV P r env H K := _root_.id rfl
theorem Rf (g : Nat) (w : Bool) (d : Option Nat) (op : bV) (r : List bt) (K : Env → List aa → Prop) : iV P (⟨some (g, w), d, op⟩ :: r) env H K =
 dC (get env g) g w env (fun env => bp P op d env H fun env H => iV P r env H K) (fun env => iV P r (put d (.tuple []) env) H K) := _root_.id rfl
theorem Vn (d : Option Nat) (op : bV) (K : Env → List aa → Prop) : qY P ⟨none, d, op⟩ env H K = bp P op d env H K := _root_.id rfl
theorem Vo (g : Nat) (w : Bool) (d : Option Nat) (op : bV) (K : Env → List aa → Prop) : qY P ⟨some (g, w), d, op⟩ env H K =
 dC (get env g) g w env (fun env => bp P op d env H K) (fun env => K (put d (.tuple []) env) H) := _root_.id rfl
@[congr] theorem S6 {o : bt} {K : Env → List aa → Prop} {H' : List aa} (h : fV H = H') : qY P o env H K = qY P o env H' K := by subst h; rfl
@[congr] theorem S7 {o : bV} {d : Option Nat} {K : Env → List aa → Prop} {H' : List aa} (h : fV H = H') : bp P o d env H K = bp P o d env H' K := by subst h; rfl
theorem GF (K : Env → List aa → Prop) : iM P .done env H K = K env H := _root_.id rfl
theorem I6 (K : Env → List aa → Prop) : iM P .nil env H K = True := _root_.id rfl
theorem Rg (st : Bool) (d : Option Nat) (op : bV) (r : DT) (K : Env → List aa → Prop) : iM P (.take st ⟨none, d, op⟩ r) env H K = kX P st op (al env) H fun x => iM P r (put d x env) H K := _root_.id rfl
theorem Rh (st : Bool) (g : Nat) (w : Bool) (d : Option Nat) (op : bV) (r : DT) (K : Env → List aa → Prop) : iM P (.take st ⟨some (g, w), d, op⟩ r) env H K =
 dC (get env g) g w env (fun _ => kX P st op (al env) H fun x => iM P r (put d x env) H K) (fun _ => iM P r (put d (.tuple []) env) H K) := _root_.id rfl
theorem ML (o : bt) (t rest : DT) (K : Env → List aa → Prop) : iM P (.br o t rest) env H K = (qY P o env H (fun env H => iM P t env H K) ∧ iM P rest env H K) := _root_.id rfl
@[congr] theorem S8 {st : Bool} {o : bV} {ρ : IX → AV} {K : AV → Prop} {H' : List aa} (h : fV H = H') : kX P st o ρ H K = kX P st o ρ H' K := by subst h; rfl
theorem I7 {P : Program} {a : IR} (ι : Type) (I : ι → Prop) (se : ι → Env) (sh : ι → List aa) (μ : ι → Nat) (i0 : ι) (h0 : I i0) (Yi : sle n0 env H (se i0) (sh i0))
 (hs : ∀ i, I i → kY P n0 a (se i) (sh i) fun e aC H' => match e with
   | .normal => ∃ j, I j ∧ μ j < μ i ∧ sle n0 aC H' (se j) (sh j)
   | e => Q e aC H') : kY P n0 (.loop a) env H Q := ⟨ι, I, se, sh, μ, ⟨i0, h0, Yi⟩, hs⟩
theorem aG {P : Program} {a : IR} (N : Nat) (I : Nat → Prop) (se : Nat → Env) (sh : Nat → List aa) (h0 : I 0 ∧ sle n0 env H (se 0) (sh 0))
 (hs : ∀ i, i ≤ N → I i → kY P n0 a (se i) (sh i) fun e aC H' => match e with
   | .normal => ∃ j, (j ≤ N ∧ I j) ∧ N - j < N - i ∧ sle n0 aC H' (se j) (sh j)
   | e => Q e aC H') : kY P n0 (.loop a) env H Q :=
 ⟨Nat, fun i => i ≤ N ∧ I i, se, sh, fun i => N - i, ⟨0, ⟨Nat.zero_le _, h0.1⟩, h0.2⟩, fun i hi => hs i hi.1 hi.2⟩
end
section
variable {φ : AV → Prop}
@[congr] theorem OE {v v' : AV} {ψ : Bool → Prop} (h : fV v = v') : eG v ψ = eG v' ψ := by subst h; rfl
@[congr] theorem Ri {op : BinOp} {x x' y y' : AV} (h : fV x = x') (h2 : y = y') : cT op x y φ = cT op x' y' φ := by subst h; subst h2; rfl
@[congr] theorem MM {op : BinOp} {x x' y y' : AV} (h : fV x = x') (h2 : y = y') : dI op x y φ = dI op x' y' φ := by subst h; subst h2; rfl
@[congr] theorem KU {n : Bool} {x x' y y' : AV} (h : fV x = x') (h2 : y = y') : cn n x y φ = cn n x' y' φ := by subst h; subst h2; rfl
@[congr] theorem MN {k : Nat} {n : Bool} {x x' : AV} (h : fV x = x') : dc k n x φ = dc k n x' φ := by subst h; rfl
@[congr] theorem S9 {op : UnOp} {x x' : AV} (h : fV x = x') : yx op x φ = yx op x' φ := by subst h; rfl
@[congr] theorem OF {sz : Option Nat} {x x' : AV} {H H' : List aa} (h : fV x = x') (h2 : H = H') : aR sz x H φ = aR sz x' H' φ := by subst h; subst h2; rfl
@[congr] theorem GG {off : Nat} {sz : Option Nat} {x x' : AV} (h : fV x = x') : ak off sz x φ = ak off sz x' φ := by subst h; rfl
@[congr] theorem MO {off : Nat} {sz : Option Nat} {x x' : AV} (h : fV x = x') : eH off sz x φ = eH off sz x' φ := by subst h; rfl
@[congr] theorem GH {e : Nat} {x x' y y' : AV} (h : fV x = x') (h2 : y = y') : ay e x y φ = ay e x' y' φ := by subst h; subst h2; rfl
@[congr] theorem HF {n : Nat} {x x' y y' : AV} (h : fV x = x') (h2 : y = y') : bQ n x y φ = bQ n x' y' φ := by subst h; subst h2; rfl
@[congr] theorem HG {x x' y y' : AV} (h : fV x = x') (h2 : y = y') : bH x y φ = bH x' y' φ := by subst h; subst h2; rfl
@[congr] theorem Rj {x x' : AV} {H H' : List aa} (h : fV x = x') (h2 : H = H') : eU x H φ = eU x' H' φ := by subst h; subst h2; rfl
@[congr] theorem I8 {x x' : AV} {i : Nat} (h : fV x = x') : bC x i φ = bC x' i φ := by subst h; rfl
@[congr] theorem HH {x x' : AV} (h : fV x = x') : bR x φ = bR x' φ := by subst h; rfl
@[congr] theorem I9 {k : IntKind} {x x' : AV} (h : fV x = x') : cp k x φ = cp k x' φ := by subst h; rfl
@[congr] theorem Ta {b : Bool} {x x' y y' : AV} (h : fV x = x') (h2 : y = y') : we b x y φ = we b x' y' φ := by subst h; subst h2; rfl
@[congr] theorem KV {kd : Nat} {z m m' k k' : AV} {ok : Bool} {H H' : List aa} (h : fV m = m') (h2 : k = k') (h3 : H = H') : ca kd z m k ok H φ = ca kd z m' k' ok H' φ := by subst h; subst h2; subst h3; rfl
@[congr] theorem KW {kd : Nat} {m m' k k' x x' : AV} {H H' : List aa} {K : List aa → Prop} (h : fV m = m') (h2 : k = k') (h3 : x = x') (h4 : H = H') : eX kd m k x H K = eX kd m' k' x' H' K := by subst h; subst h2; subst h3; subst h4; rfl
@[congr] theorem MP {m : Nat} {p p' x x' : AV} {H H' : List aa} {K : List aa → Prop} (h : fV p = p') (h2 : x = x') (h3 : H = H') : gO m p x H K = gO m p' x' H' K := by subst h; subst h2; subst h3; rfl
@[congr] theorem Ja {p p' x x' : AV} {H H' : List aa} {K : List aa → Prop} (h : fV p = p') (h2 : x = x') (h3 : H = H') : dJ p x H K = dJ p' x' H' K := by subst h; subst h2; subst h3; rfl
@[congr] theorem KX {e b : Nat} {s s' x x' : AV} {ψ : List AV → Prop} (h : fV s = s') (h2 : x = x') : bE e b s x ψ = bE e b s' x' ψ := by subst h; subst h2; rfl
@[congr] theorem MQ {e b : Nat} {z n n' : AV} {H H' : List aa} {K : AV → List aa → Prop} (h : fV n = n') (h2 : H = H') : fL e b z n H K = fL e b z n' H' K := by subst h; subst h2; rfl
@[congr] theorem Jb {e b : Nat} {z s s' x x' : AV} {H H' : List aa} {K : AV → List aa → Prop} (h : fV s = s') (h2 : x = x') (h3 : H = H') : cF e b z s x H K = cF e b z s' x' H' K := by subst h; subst h2; subst h3; rfl
@[congr] theorem KY {e : Nat} {z x x' : AV} {H H' : List aa} {K : List aa → Prop} (h : fV x = x') (h2 : H = H') : gW e z x H K = gW e z x' H' K := by subst h; subst h2; rfl
@[congr] theorem OG {xs xs' : List AV} {H H' : List aa} {K : AV → List aa → Prop} (h : fV xs = xs') (h2 : H = H') : sl xs H K = sl xs' H' K := by subst h; subst h2; rfl
@[congr] theorem MR {e b : Nat} {n n' : AV} (h : fV n = n') : iF e b n φ = iF e b n' φ := by subst h; rfl
@[congr] theorem OH {e : Nat} {d d' s s' : AV} {H H' : List aa} {K : AV → List aa → Prop} (h : fV d = d') (h2 : s = s') (h3 : H = H') : jl e d s H K = jl e d' s' H' K := by subst h; subst h2; subst h3; rfl
@[congr] theorem OI {e : Nat} {x x' : AV} {H H' : List aa} {K : AV → List aa → Prop} (h : fV x = x') (h2 : H = H') : fc e x H K = fc e x' H' K := by subst h; subst h2; rfl
@[congr] theorem KZ {e : Nat} {x x' : AV} {lo lo' hi mr m m' : Option AV} (h : fV x = x') (h1 : lo = lo') (h2 : hi = mr) (h3 : m = m') : bA e x lo hi m φ = bA e x' lo' mr m' φ := by subst h; subst h1; subst h2; subst h3; rfl
@[congr] theorem HI {x x' : AV} {lo lo' hi mr : Option AV} (h : fV x = x') (h1 : lo = lo') (h2 : hi = mr) : bZ x lo hi φ = bZ x lo' mr φ := by subst h; subst h1; subst h2; rfl
@[congr] theorem Rk {n0 : Nat} {rs : List RX} {env aC : Env} {H H' : List aa} {R : AV → List aa → Prop} (h : fV env = aC) (h2 : H = H') : bT n0 rs env H R = bT n0 rs aC H' R := by subst h; subst h2; rfl
end
end Go.aK
end
section
namespace Go.aK
open Go
section
variable {P : Px} {env : Env} {H : List aa} {dst : Option Nat} {K : Env → List aa → Prop}
theorem Rl (op : BinOp) (x : IX) (y : IX) : bp P (.bin op x y) dst env H K = (cT op (al env x) (al env y) fun z => K (put dst z env) H) := _root_.id rfl
theorem Jc (op : BinOp) (x : IX) (y : IX) : bp P (.shift op x y) dst env H K = (dI op (al env x) (al env y) fun z => K (put dst z env) H) := _root_.id rfl
theorem GI (neq : Bool) (x : IX) (y : IX) : bp P (.gM neq x y) dst env H K = (cn neq (al env x) (al env y) fun z => K (put dst z env) H) := _root_.id rfl
theorem Jd (kd : Nat) (neq : Bool) (x : IX) : bp P (.iQ kd neq x) dst env H K = (dc kd neq (al env x) fun z => K (put dst z env) H) := _root_.id rfl
theorem Vp (op : UnOp) (x : IX) : bp P (.un op x) dst env H K = (yx op (al env x) fun z => K (put dst z env) H) := _root_.id rfl
theorem Rm (x : IX) : bp P (.box x) dst env H K = ((al env x).val = true ∧ aj (H.length + 1) ((al env x).cells.map AV.ab) = true ∧ K (put dst (.ptr H.length 0) env) (H ++ [.cells ((al env x).cells.map AV.ab)])) := _root_.id rfl
theorem MS (x : IX) : bp P (.k9 x) dst env H K = ((al env x).val = true ∧ K (put dst (.ai (al env x)) env) H) := _root_.id rfl
theorem MT (m : Nat) (x : IX) : bp P (.qQ m x) dst env H K = ((al env x).val = true ∧ (al env x).cells.length = m ∧ (al env x).cells.all AV.one = true ∧ K (put dst (.ai (al env x)) env) H) := _root_.id rfl
theorem Je (z : AV) : bp P (.alloc z) dst env H K = (aj (H.length + 1) (z.cells.map AV.ab) = true ∧ K (put dst (.ptr H.length 0) env) (H ++ [.cells (z.cells.map AV.ab)])) := _root_.id rfl
theorem Jf (z : AV) (ps : List (Nat × Nat × IX)) : bp P (.build z ps) dst env H K = (cB z.cells (ps.map fun q => (q.1, q.2.1, al env q.2.2)) fun v => K (put dst v env) H) := _root_.id rfl
theorem wK (own : Nat) (esz : Nat) (z : AV) (len : Nat) (ps : List (Nat × IX)) : bp P (.buildSlice own esz z len ps) dst env H K = (bi (List.replicate len (aS z)) esz (ps.map fun q => (q.1, al env q.2)) fun xs => K (put dst (.ap own xs) env) H) := _root_.id rfl
theorem MU (sz : Option Nat) (a : IX) : bp P (.load sz a) dst env H K = (aR sz (al env a) H fun z => K (put dst z env) H) := _root_.id rfl
theorem Jg (sz : Option Nat) (esz : Nat) (a : IX) : bp P (.rY sz esz a) dst env H K = (aR sz (al env a) H fun z => fc esz z H fun y H' => K (put dst y env) H') := _root_.id rfl
theorem Jh (m : Nat) (a : IX) (x : IX) : bp P (.store m a x) dst env H K = (gO m (al env a) (al env x) H fun H' => K env H') := _root_.id rfl
theorem GJ {P : Program} {l : Nat} (m : Nat) (a : IX) (x : IX) : bp ⟨P, some l⟩ (.mH m a x) dst env H K = (gb l m (al env a) (al env x) H fun H' => K env H') := _root_.id rfl
theorem DC (a : IX) (s : Nat) : bp P (.eT a s) dst env H K = (dJ (al env a) (get env s) H fun H' => K ((s, (get env s).ab) :: env) H') := _root_.id rfl
theorem Bz (x : IX) : bp P (.nilCheck x) dst env H K = (bR (al env x) fun z => K (put dst z env) H) := _root_.id rfl
theorem zy (off : Nat) (sz : Option Nat) (x : IX) : bp P (.fieldAddr off sz x) dst env H K = (ak off sz (al env x) fun z => K (put dst z env) H) := _root_.id rfl
theorem Ji (off : Nat) (sz : Option Nat) (x : IX) : bp P (.field off sz x) dst env H K = (eH off sz (al env x) fun z => K (put dst z env) H) := _root_.id rfl
theorem zz (esz : Nat) (x : IX) (i : IX) : bp P (.indexAddr esz x i) dst env H K = ((∀ own xs, al env x = .ap own xs → ∀ z ∈ xs, z.cells.length = esz) ∧ ay esz (al env x) (al env i) fun z => K (put dst z env) H) := _root_.id rfl
theorem BA (n : Nat) (x : IX) (i : IX) : bp P (.dG n x i) dst env H K = (bQ n (al env x) (al env i) fun z => K (put dst z env) H) := _root_.id rfl
theorem GK (esz : Nat) (x : IX) (lo : Option IX) (hi : Option IX) (mx : Option IX) : bp P (.oN esz x lo hi mx) dst env H K = ((∀ own xs, al env x = .ap own xs → ∀ z ∈ xs, z.cells.length = esz) ∧ fm esz (al env x) (gg env lo) (gg env hi) (gg env mx) fun z => z = .ap esz [] ∧ K (put dst .ol env) H) := _root_.id rfl
theorem BB (x : IX) (i : IX) : bp P (.cZ x i) dst env H K = (bH (al env x) (al env i) fun z => K (put dst z env) H) := _root_.id rfl
theorem Jj (esz : Nat) (x : IX) (lo : Option IX) (hi : Option IX) (mx : Option IX) : bp P (.slice esz x lo hi mx) dst env H K = (bA esz (al env x) (gg env lo) (gg env hi) (gg env mx) fun z => K (put dst z env) H) := _root_.id rfl
theorem MV (esz : Nat) (d : IX) (s : IX) : bp P (.copy esz d s) dst env H K = (jl esz (al env d) (al env s) H fun z H' => K (put dst z env) H') := _root_.id rfl
theorem BC (x : IX) (lo : Option IX) (hi : Option IX) : bp P (.dH x lo hi) dst env H K = (bZ (al env x) (gg env lo) (gg env hi) fun z => K (put dst z env) H) := _root_.id rfl
theorem Rn (kd : Nat) (x : IX) : bp P (.len kd x) dst env H K = (aL kd (al env x) ∧ eU (al env x) H fun z => K (put dst z env) H) := _root_.id rfl
theorem GL (esz : Nat) (bytes : Nat) (s : IX) (x : IX) : bp P (.append esz bytes s x) dst env H K = (bE esz bytes (al env s) (al env x) fun zs => K (put dst (.ap esz zs) (cC env s.slot)) H) := _root_.id rfl
theorem Jk (esz : Nat) (bytes : Nat) (z : AV) (n : IX) : bp P (.rZ esz bytes z n) dst env H K = (fL esz bytes z (al env n) H fun v H' => K (put dst v env) H') := _root_.id rfl
theorem tI (esz : Nat) (z : AV) (len : Nat) (ps : List (Nat × IX)) : bp P (.Ax esz z len ps) dst env H K = (bi (List.replicate len (aS z)) esz (ps.map fun q => (q.1, al env q.2)) fun xs => sl xs H fun v H' => K (put dst v env) H') := _root_.id rfl
theorem GM (esz : Nat) (z : AV) (x : IX) : bp P (.mK esz z x) dst env H K = (gW esz z (al env x) H fun H' => K (put dst (.tuple []) env) H') := _root_.id rfl
theorem DD (esz bytes : Nat) (z : AV) (s x : IX) : bp P (.iS esz bytes z s x) dst env H K = (cF esz bytes z (al env s) (al env x) H fun v H' => K (put dst v env) H') := _root_.id rfl
theorem Jl (esz : Nat) (bytes : Nat) (n : IX) : bp P (.mI esz bytes n) dst env H K = (iF esz bytes (al env n) fun v => K (put dst v env) H) := _root_.id rfl
theorem Jm  : bp P (.mJ ) dst env H K = (K (put dst (.map H.length) env) (H ++ [.map []])) := _root_.id rfl
theorem GN (kd : Nat) (z : AV) (m : IX) (k : IX) (ok : Bool) : bp P (.lookup kd z m k ok) dst env H K = (ca kd z (al env m) (al env k) ok H fun v => K (put dst v env) H) := _root_.id rfl
theorem GO (kd : Nat) (m : IX) (k : IX) (x : IX) : bp P (.jW kd m k x) dst env H K = (eX kd (al env m) (al env k) (al env x) H fun H' => K env H') := _root_.id rfl
theorem Vq (f : Fn) (first : List IX) (cap : List IX) : bp P (.fn f first cap) dst env H K = (K (put dst (.fn f (first.map fun x => (al env x).ab) (cap.map fun x => (al env x).ab)) env) H) := _root_.id rfl
theorem DE (x : IX) (i : Nat) : bp P (.extract x i) dst env H K = (bC (al env x) i fun z => K (put dst z env) H) := _root_.id rfl
theorem DF (k : IntKind) (x : IX) : bp P (.eB k x) dst env H K = (cp k (al env x) fun z => K (put dst z env) H) := _root_.id rfl
theorem DG (x : IX) : bp P (.fZ x) dst env H K = (fw (al env x) fun z => K (put dst z env) H) := _root_.id rfl
theorem DH (x : IX) : bp P (.bytesOf x) dst env H K = (eK 1 (al env x) fun z => K (put dst z env) H) := _root_.id rfl
theorem Jn (x : IX) : bp P (.strOf x) dst env H K = (jk (al env x) fun z => K (put dst z env) H) := _root_.id rfl
theorem Vr (big : Bool) (a : IX) (b : IX) : bp P (.mx big a b) dst env H K = (we big (al env a) (al env b) fun z => K (put dst z env) H) := _root_.id rfl
theorem MW (esz : Nat) (x : IX) : bp P (.yv esz x) dst env H K = (fc esz (al env x) H fun z H' => K (put dst z env) H') := _root_.id rfl
theorem Jo (x : IX) (take : Bool) : bp P (.set x take) none env H K = K env H := _root_.id rfl
theorem Ro (d : Nat) (x : IX) : bp P (.set x false) (some d) env H K = K ((d, (al env x).ab) :: env) H := by cases x <;> rfl
theorem MX (d s : Nat) : bp P (.set (.t s) true) (some d) env H K = K ((d, get env s) :: (s, (get env s).ab) :: env) H := _root_.id rfl
theorem Jp (d : Nat) (v : AV) : bp P (.set (.c v) true) (some d) env H K = K ((d, v.ab) :: env) H := _root_.id rfl
theorem MY (c a b : IX) : bp P (.pick c a b) dst env H K = fA (al env c) (K (put dst (al env a).ab env) H) (K (put dst (al env b).ab env) H) := _root_.id rfl
theorem MZ (f : IX) (args : List IX) (pass : Option Nat) : bp P (.call f args pass) dst env H K = oA P (al env f) args pass env H (fun r aC H' => K (put dst r aC) H') := _root_.id rfl
end
section
variable {P : Px} {st : Bool} {ρ : IX → AV} {H : List aa} {K : AV → Prop}
theorem Rp (i : IX) : kX P st (.set i false) ρ H K = K (ρ i).ab := by cases st <;> rfl
theorem M4 (c : IX) (a : IX) (b : IX) : kX P st (.pick c a b) ρ H K = (fA (ρ c) (K (ρ a).ab) (K (ρ b).ab)) := _root_.id rfl
theorem Rq (op : BinOp) (i : IX) (j : IX) : kX P st (.bin op i j) ρ H K = (cT op (ρ i) (ρ j) K) := _root_.id rfl
theorem Jq (op : BinOp) (i : IX) (j : IX) : kX P st (.shift op i j) ρ H K = (dI op (ρ i) (ρ j) K) := _root_.id rfl
theorem GP (neq : Bool) (i : IX) (j : IX) : kX P st (.gM neq i j) ρ H K = (cn neq (ρ i) (ρ j) K) := _root_.id rfl
theorem Jr (kd : Nat) (neq : Bool) (i : IX) : kX P st (.iQ kd neq i) ρ H K = (nW kd neq (ρ i) K) := _root_.id rfl
theorem Vs (op : UnOp) (i : IX) : kX P st (.un op i) ρ H K = (yx op (ρ i) K) := _root_.id rfl
theorem M5 (i : IX) : kX P st (.k9 i) ρ H K = ((ρ i).val = true ∧ K (.ai (ρ i))) := _root_.id rfl
theorem Js (z : AV) (ps : List (Nat × Nat × IX)) : kX P st (.build z ps) ρ H K = (cB z.cells (ps.map fun q => (q.1, q.2.1, ρ q.2.2)) K) := _root_.id rfl
theorem wL (own : Nat) (esz : Nat) (z : AV) (len : Nat) (ps : List (Nat × IX)) : kX P st (.buildSlice own esz z len ps) ρ H K = (bi (List.replicate len (aS z)) esz (ps.map fun q => (q.1, ρ q.2)) fun xs => K (.ap own xs)) := _root_.id rfl
theorem zA (sz : Option Nat) (i : IX) : kX P true (.load sz i) ρ H K = (aR sz (ρ i) H K) := _root_.id rfl
theorem wM (sz : Option Nat) (i : IX) : kX P false (.load sz i) ρ H K = (aR sz (ρ i) [] K) := _root_.id rfl
theorem BD (i : IX) : kX P st (.nilCheck i) ρ H K = (bR (ρ i) K) := _root_.id rfl
theorem zB (off : Nat) (sz : Option Nat) (i : IX) : kX P st (.fieldAddr off sz i) ρ H K = (ak off sz (ρ i) K) := _root_.id rfl
theorem Jt (off : Nat) (sz : Option Nat) (i : IX) : kX P st (.field off sz i) ρ H K = (eH off sz (ρ i) K) := _root_.id rfl
theorem zC (esz : Nat) (i : IX) (j : IX) : kX P st (.indexAddr esz i j) ρ H K = ((∀ own xs, ρ i = .ap own xs → ∀ z ∈ xs, z.cells.length = esz) ∧ ay esz (ρ i) (ρ j) K) := _root_.id rfl
theorem BE (n : Nat) (i : IX) (j : IX) : kX P st (.dG n i j) ρ H K = (bQ n (ρ i) (ρ j) K) := _root_.id rfl
theorem BF (i : IX) (j : IX) : kX P st (.cZ i j) ρ H K = (bH (ρ i) (ρ j) K) := _root_.id rfl
theorem Ju (esz : Nat) (i : IX) (lo : Option IX) (hi : Option IX) (mx : Option IX) : kX P st (.slice esz i lo hi mx) ρ H K = (bA esz (ρ i) (lo.map ρ) (hi.map ρ) (mx.map ρ) K) := _root_.id rfl
theorem BG (i : IX) (lo : Option IX) (hi : Option IX) : kX P st (.dH i lo hi) ρ H K = (bZ (ρ i) (lo.map ρ) (hi.map ρ) K) := _root_.id rfl
theorem BH (kd : Nat) (i : IX) : kX P true (.len kd i) ρ H K = (aL kd (ρ i) ∧ gJ (ρ i) H K) := _root_.id rfl
theorem zD (kd : Nat) (i : IX) : kX P false (.len kd i) ρ H K = (aL kd (ρ i) ∧ gJ (ρ i) [] K) := _root_.id rfl
theorem uX (kd : Nat) (z : AV) (m : IX) (k : IX) (ok : Bool) : kX P true (.lookup kd z m k ok) ρ H K = (ca kd z (ρ m) (ρ k) ok H K) := _root_.id rfl
theorem ta (kd : Nat) (z : AV) (m : IX) (k : IX) (ok : Bool) : kX P false (.lookup kd z m k ok) ρ H K = (ca kd z (ρ m) (ρ k) ok [] K) := _root_.id rfl
theorem Vt (f : Fn) (first : List IX) (cap : List IX) : kX P st (.fn f first cap) ρ H K = (K (.fn f (first.map fun x => (ρ x).ab) (cap.map fun x => (ρ x).ab))) := _root_.id rfl
theorem DI (i : IX) (k : Nat) : kX P st (.extract i k) ρ H K = (bC (ρ i) k K) := _root_.id rfl
theorem DJ (k : IntKind) (i : IX) : kX P st (.eB k i) ρ H K = (cp k (ρ i) K) := _root_.id rfl
theorem Vu (big : Bool) (i : IX) (j : IX) : kX P st (.mx big i j) ρ H K = (we big (ρ i) (ρ j) K) := _root_.id rfl
theorem M6 (f : IX) (args : List IX) : kX P st (.call f args none) ρ H K = o9 P st (ρ f) (args.map fun x => (ρ x).ab) H K := _root_.id rfl
end
theorem DK (env : Env) : eh none env = env := _root_.id rfl
theorem GQ (env : Env) : eh (some []) env = [] := _root_.id rfl
theorem DL (env : Env) (t : Nat) (l : List Nat) : eh (some (t :: l)) env = (t, get env t) :: eh (some l) env := _root_.id rfl
theorem DM (k : Nat) : bU k [] = [] := _root_.id rfl
theorem BI (k : Nat) (x : AV) (xs : List AV) : bU k (x :: xs) = (k, x) :: bU (k + 1) xs := _root_.id rfl
theorem Rr (env : Env) (s : Nat) : al env (.t s) = get env s := _root_.id rfl
theorem Ru (env : Env) (v : AV) : al env (.c v) = v := _root_.id rfl
theorem kG (o : Nat) (xs : List AV) (H : List aa) (φ : AV → Prop) : gJ (.ap o xs) H φ = φ (.int .i64 xs.length) := _root_.id rfl
theorem DN (H : List aa) (φ : AV → Prop) : gJ .ah H φ = φ (.int .i64 0) := _root_.id rfl
theorem GR (s : ByteArray) (H : List aa) (φ : AV → Prop) : gJ (.str s) H φ = φ (.int .i64 s.size) := _root_.id rfl
theorem GS (a b c d : Nat) (H : List aa) (φ : AV → Prop) : gJ (.bg a b c d) H φ = φ (.int .i64 c) := _root_.id rfl
theorem Jv {α β : Type} (f : α → β) : List.map f [] = [] := _root_.id rfl
theorem GU {α β : Type} (f : α → β) (x : α) (xs : List α) : List.map f (x :: xs) = f x :: List.map f xs := _root_.id rfl
end Go.aK
end
section
namespace Go.aK
open Go
theorem ga0 (H e : List aa) : (H ++ e)[H.length]? = e[0]? := by
 rw [List.getElem?_append_right (Nat.le_refl _), Nat.sub_self]
theorem ga (H e : List aa) (i : Nat) : (H ++ e)[H.length + i]? = e[i]? := by
 rw [List.getElem?_append_right (Nat.le_add_right _ _), Nat.add_sub_cancel_left]
theorem sa0 (H e : List aa) (x : aa) : (H ++ e).set H.length x = H ++ e.set 0 x := by
 rw [List.set_append_right _ _ (Nat.le_refl _), Nat.sub_self]
theorem sa (H e : List aa) (i : Nat) (x : aa) : (H ++ e).set (H.length + i) x = H ++ e.set i x := by
 rw [List.set_append_right _ _ (Nat.le_add_right _ _), Nat.add_sub_cancel_left]
theorem Yv (H e f : List aa) : (H ++ e) ++ f = H ++ (e ++ f) := List.append_assoc _ _ _
theorem Tx (H e : List aa) : (H ++ e).length = H.length + e.length := List.length_append
theorem g0 {α : Type} (x : α) (r : List α) : (x :: r)[0]? = some x := by simp
theorem g1 {α : Type} (x y : α) (r : List α) : (x :: y :: r)[1]? = some y := by simp
theorem g2 {α : Type} (x y z : α) (r : List α) : (x :: y :: z :: r)[2]? = some z := by simp
theorem s0 {α : Type} (x u : α) (r : List α) : (x :: r).set 0 u = u :: r := by simp
theorem s1 {α : Type} (x y u : α) (r : List α) : (x :: y :: r).set 1 u = x :: u :: r := by simp
theorem s2 {α : Type} (x y z u : α) (r : List α) : (x :: y :: z :: r).set 2 u = x :: y :: u :: r := by simp
theorem d0 {α : Type} (x d : α) (r : List α) : (x :: r).getD 0 d = x := by simp
theorem d1 {α : Type} (x y d : α) (r : List α) : (x :: y :: r).getD 1 d = y := by simp
theorem d2 {α : Type} (x y z d : α) (r : List α) : (x :: y :: z :: r).getD 2 d = z := by simp
theorem Yw (x y : AV) : ag [x] 0 [y] = [y] := by simp [ag]
theorem DO {x : AV} {H : List aa} {φ ψ : AV → Prop} (hm : ∀ z, φ z → ψ z) (h : gJ x H φ) : gJ x H ψ := by
 unfold gJ at *
 split at h
 ·exact hm _ h
 ·exact rc hm h
theorem DP {o : bV} {ρ : IX → AV} {H : List aa} {K K' : AV → Prop} (h : uV o ρ H K) (hK : ∀ x, K x → K' x) : uV o ρ H K' := by
 unfold uV at *
 split at h
 ·exact hK _ h
 ·unfold fA eG at *
  split at h
  ·exact ⟨fun e => hK _ (h.1 e), fun e => hK _ (h.2 e)⟩
  ·exact h.elim
 ·exact rb hK h
 ·exact mS hK h
 ·exact lz hK h
 ·unfold nW at *
  split at h
  ·exact hK _ h
  ·exact h.elim
 ·exact uv hK h
 ·exact ⟨h.1, hK _ h.2⟩
 ·exact lC (fun _ h => hK _ h) h
 ·exact gk (fun _ h => hK _ h) h
 ·exact jq hK h
 ·exact ju hK h
 ·exact iJ hK h
 ·exact mT hK h
 ·exact ⟨h.1, iK hK h.2⟩
 ·exact jr hK h
 ·exact jt hK h
 ·exact lB hK h
 ·exact jv hK h
 ·exact ⟨h.1, DO hK h.2⟩
 ·exact lA hK h
 ·exact hK _ h
 ·exact kg hK h
 ·exact kh hK h
 ·exact uw hK h
 ·exact h.elim
theorem dw {P : Px} : ∀ {t : DT} {env : Env} {H : List aa} {K1 K2 : Env → List aa → Prop}, iM P t env H K1 → (∀ e H', K1 e H' → K2 e H') → iM P t env H K2
 | .done, _, _, _, _, h, hK => hK _ _ h
 | .take st o r, _, _, _, _, h, hK => by
   unfold iM E5 at *
   have key : ∀ {env : Env} {H : List aa} {K : AV → Prop} {K' : AV → Prop}, kX P st o.op (al env) H K → (∀ x, K x → K' x) → kX P st o.op (al env) H K' := by
    intro env H K K' h hK
    unfold kX at *
    split at h
    ·unfold o9 at *
     split at h
     ·obtain ⟨x, h1, h2⟩ := h; exact ⟨x, h1, hK _ h2⟩
     ·exact h.elim
    ·exact DP h hK
   split at h
   ·exact key h fun _ h => dw h hK
   ·unfold dC at *
    split at h
    ·exact ⟨fun e => key (h.1 e) fun _ h => dw h hK, fun e => dw (h.2 e) hK⟩
    ·exact dw h hK
    ·exact h.elim
 | .br o t rest, _, _, _, _, h, hK => ⟨ry h.1 fun _ _ h => dw h hK, dw h.2 hK⟩
 | .nil, _, _, _, _, h, hK => trivial
theorem kH {P : Px} {n0 : Nat} : ∀ {ir : IR} {env : Env} {H : List aa} {Q1 Q2 : Exit → Env → List aa → Prop}, kY P n0 ir env H Q1 → (∀ x e H', Q1 x e H' → Q2 x e H') → kY P n0 ir env H Q2 := by
 intro ir
 induction ir with
 | skip => exact fun h hQ => hQ _ _ _ h
 | region ops live => exact fun h hQ => rA h fun _ _ h => hQ _ _ _ h
 | draw t live => exact fun h hQ => dw h fun _ _ h => hQ _ _ _ h
 | seq a b Dz Ra =>
   exact fun h hQ => Dz h fun x e H' h => by
    cases x with
    | normal => exact Ra h hQ
    | _ => exact hQ _ _ _ h
 | cond x a b Dz Ra =>
   intro env H Q1 Q2 h hQ
   rw [By] at *
   unfold fA eG at *
   split at h
   ·exact ⟨fun e => Dz (h.1 e) hQ, fun e => Ra (h.2 e) hQ⟩
   ·exact h.elim
 | block id a Dz =>
   exact fun h hQ => Dz h fun x e H' h => by
    cases x with
    | exit id' =>
      dsimp only at h ⊢
      split
      ·rename_i bm; rw [if_pos bm] at h; exact hQ _ _ _ h
      ·rename_i bm; rw [if_neg bm] at h; exact hQ _ _ _ h
    | _ => exact hQ _ _ _ h
 | loop a Dz =>
   intro env H Q1 Q2 h hQ
   obtain ⟨ι, I, se, sh, μ, h0, hs⟩ := h
   exact ⟨ι, I, se, sh, μ, h0, fun i hi => Dz (hs i hi) fun x e H' h => by
    cases x with
    | normal => exact h
    | _ => exact hQ _ _ _ h⟩
 | exit id => exact fun h hQ => hQ _ _ _ h
 | ret => exact fun h hQ => hQ _ _ _ h
 | never => exact fun h _ => h.elim
 | iH f lc =>
   intro env H Q1 Q2 h hQ
   rw [xD] at *
   unfold uW at *
   split at h
   ·obtain ⟨h1, bO, h2, h3⟩ := h
    exact ⟨h1, bO, h2, h3.mono fun _ H' hb => sK hb fun j H'' hg => xC hg hQ⟩
   ·exact h.elim
theorem Yx (a b y : AV) : ag [a, b] 0 [y] = [y, b] := by simp [ag]
theorem Yy (a b y : AV) : ag [a, b] 1 [y] = [a, y] := by simp [ag]
theorem Yz (a b c y : AV) : ag [a, b, c] 0 [y] = [y, b, c] := by simp [ag]
theorem YA (a b c y : AV) : ag [a, b, c] 1 [y] = [a, y, c] := by simp [ag]
theorem YB (a b c y : AV) : ag [a, b, c] 2 [y] = [a, b, y] := by simp [ag]
theorem YC (a b c x y z : AV) : ag [a, b, c] 0 [x, y, z] = [x, y, z] := by simp [ag]
theorem Rv (k k' : IntKind) (a b : Int) (φ : AV → Prop) : we true (.int k a) (.int k' b) φ = φ (.int k (max a b)) := by
 have : (if a < b then b else a) = max a b := by rw [Int.max_def]; split <;> split <;> omega
 simp [we, this]
theorem Rw (k k' : IntKind) (a b : Int) (φ : AV → Prop) : we false (.int k a) (.int k' b) φ = φ (.int k (min a b)) := by
 have : (if b < a then b else a) = min a b := by rw [Int.min_def]; split <;> split <;> omega
 simp [we, this]
def db (o : Option aa) (sz : Option Nat) (off : Nat) (φ : AV → Prop) : Prop :=
 match o with
 | some (.cells es) => match sz with
   | some m => off + m ≤ es.length ∧ φ (.agg (((es.drop off).take m).map AV.drop))
   | none => off < es.length ∧ φ (es.getD off .any).ab
 | _ => False
@[congr] theorem OJ {o o' : Option aa} {sz : Option Nat} {off : Nat} {φ : AV → Prop} (h : fV o = o') : db o sz off φ = db o' sz off φ := by subst h; rfl
theorem Jw (sz : Option Nat) (id off : Nat) (H : List aa) (φ : AV → Prop) : aR sz (.ptr id off) H φ = db H[id]? sz off φ := by
 unfold aR db; rfl
theorem M7 (es : List AV) (off : Nat) (φ : AV → Prop) : db (some (.cells es)) none off φ = (off < es.length ∧ φ (es.getD off .any).ab) := _root_.id rfl
theorem E6 (a b c : AV) (φ : AV → Prop) : db (some (.cells [a, b, c])) (some 3) 0 φ = φ (.agg [a.drop, b.drop, c.drop]) := by simp [db]
theorem M8 (a b : AV) (φ : AV → Prop) : db (some (.cells [a, b])) (some 2) 0 φ = φ (.agg [a.drop, b.drop]) := by simp [db]
def gS (o : Option aa) (m id off : Nat) (x : AV) (H : List aa) (K : List aa → Prop) : Prop :=
 match o with
 | some (.cells es) => x.val = true ∧ x.cells.length = m ∧ off + m ≤ es.length ∧ x.cells.all AV.one = true ∧ aj (id + 1) (x.cells.map AV.ab) = true ∧
    K (H.set id (.cells (ag es off (x.cells.map AV.ab))))
 | _ => False
@[congr] theorem M9 {o o' : Option aa} {m id off : Nat} {x : AV} {H : List aa} {K : List aa → Prop} (h : fV o = o') {x' : AV} (h2 : x = x') : gS o m id off x H K = gS o' m id off x' H K := by subst h; subst h2; rfl
theorem GV (m id off : Nat) (x : AV) (H : List aa) (K : List aa → Prop) : gO m (.ptr id off) x H K = gS H[id]? m id off x H K := by
 unfold gO gS; rfl
theorem BJ (es : List AV) (m id off : Nat) (x : AV) (H : List aa) (K : List aa → Prop) : gS (some (.cells es)) m id off x H K = (x.val = true ∧ x.cells.length = m ∧ off + m ≤ es.length ∧ x.cells.all AV.one = true ∧ aj (id + 1) (x.cells.map AV.ab) = true ∧
 K (H.set id (.cells (ag es off (x.cells.map AV.ab))))) := _root_.id rfl
def qj (o : Option aa) (l m id off : Nat) (x : AV) (H : List aa) (K : List aa → Prop) : Prop :=
 match o with
 | some (.cells es) => l ≤ id ∧ x.val = true ∧ x.cells.length = m ∧ off + m ≤ es.length ∧ x.cells.all AV.one = true ∧ aj H.length (x.cells.map AV.ab) = true ∧
    K (H.set id (.cells (ag es off (x.cells.map AV.ab))))
 | _ => False
@[congr] theorem K0 {o o' : Option aa} {l m id off : Nat} {x : AV} {H : List aa} {K : List aa → Prop} (h : fV o = o') {x' : AV} (h2 : x = x') : qj o l m id off x H K = qj o' l m id off x' H K := by subst h; subst h2; rfl
theorem DQ (l m id off : Nat) (x : AV) (H : List aa) (K : List aa → Prop) : gb l m (.ptr id off) x H K = qj H[id]? l m id off x H K := by
 unfold gb qj; rfl
theorem GW (es : List AV) (l m id off : Nat) (x : AV) (H : List aa) (K : List aa → Prop) : qj (some (.cells es)) l m id off x H K = (l ≤ id ∧ x.val = true ∧ x.cells.length = m ∧ off + m ≤ es.length ∧ x.cells.all AV.one = true ∧ aj H.length (x.cells.map AV.ab) = true ∧
 K (H.set id (.cells (ag es off (x.cells.map AV.ab))))) := _root_.id rfl
@[congr] theorem K3 {l m : Nat} {p p' x : AV} {H H' : List aa} {K : List aa → Prop} (h : fV p = p') (h2 : H = H') : gb l m p x H K = gb l m p' x H' K := by subst h; subst h2; rfl
theorem GX (e : Nat) (xs : List AV) (H : List aa) (K : AV → List aa → Prop) : fc e (.agg xs) H K = jm e xs H fun ys H' => K (.agg ys) H' := _root_.id rfl
theorem DR (e : Nat) (H : List aa) (K : List AV → List aa → Prop) : jm e [] H K = K [] H := _root_.id rfl
theorem BK (e : Nat) (x : AV) (r : List AV) (H : List aa) (K : List AV → List aa → Prop) : jm e (x :: r) H K = dB e x H fun y H' => jm e r H' fun ys H'' => K (y :: ys) H'' := _root_.id rfl
theorem DS (e : Nat) (k : IntKind) (n : Int) (H : List aa) (K : AV → List aa → Prop) : dB e (.int k n) H K = K (.int k n) H := _root_.id rfl
def Jx := And.intro @GJ (And.intro @DQ (And.intro @GW (And.intro @Jg (And.intro @GX (And.intro @DR (And.intro @BK @DS))))))
def gX (o : Option aa) (kd : Nat) (zero k : AV) (ok : Bool) (φ : AV → Prop) : Prop :=
 match o with
 | some (.map es) => match dL kd k es 0 with
   | some (some (_, v)) => φ (if ok then .tuple [v.drop, .bool true] else v.drop)
   | some none => cN kd k k = some true ∧ φ (if ok then .tuple [aS zero, .bool false] else aS zero)
   | none => False
 | _ => False
@[congr] theorem K4 {o o' : Option aa} {kd : Nat} {z k k' : AV} {ok : Bool} {φ : AV → Prop} (h : fV o = o') (h2 : k = k') : gX o kd z k ok φ = gX o' kd z k' ok φ := by subst h; subst h2; rfl
theorem DU (kd id : Nat) (z k : AV) (ok : Bool) (H : List aa) (φ : AV → Prop) : ca kd z (.map id) k ok H φ = gX H[id]? kd z k ok φ := by
 unfold ca gX; rfl
def gY (o : Option aa) (kd id : Nat) (k x : AV) (H : List aa) (K : List aa → Prop) : Prop :=
 match o with
 | some (.map es) => k.aY (id + 1) = true ∧ x.aY (id + 1) = true ∧ x.val = true ∧ match dL kd k es 0 with
    | some (some (i, _)) => K (H.set id (.map (es.set i (k, aS x))))
    | some none => cN kd k k = some true ∧ K (H.set id (.map (es ++ [(k, aS x)])))
    | none => False
 | _ => False
@[congr] theorem K5 {o o' : Option aa} {kd id : Nat} {k k' x x' : AV} {H : List aa} {K : List aa → Prop} (h : fV o = o') (h2 : k = k') (h3 : x = x') : gY o kd id k x H K = gY o' kd id k' x' H K := by subst h; subst h2; subst h3; rfl
theorem DV (kd id : Nat) (k x : AV) (H : List aa) (K : List aa → Prop) : eX kd (.map id) k x H K = gY H[id]? kd id k x H K := by
 unfold eX gY; rfl
def xE (o : Option aa) (d id off : Nat) (env : Env) (H : List aa) (K : Env → List aa → Prop) : Prop :=
 match o with
 | some (.cells es) => off < es.length ∧ K ((d, es.getD off .any) :: env) (H.set id (.cells (es.set off (es.getD off .any).ab)))
 | _ => False
@[congr] theorem OK {o o' : Option aa} {d id off : Nat} {env : Env} {H : List aa} {K : Env → List aa → Prop} (h : fV o = o') : xE o d id off env H K = xE o' d id off env H K := by subst h; rfl
theorem Na (es : List AV) (d id off : Nat) (env : Env) (H : List aa) (K : Env → List aa → Prop) : xE (some (.cells es)) d id off env H K = (off < es.length ∧ K ((d, es.getD off .any) :: env) (H.set id (.cells (es.set off (es.getD off .any).ab)))) := _root_.id rfl
def BL (v : AV) (d : Nat) (env : Env) (H : List aa) (K : Env → List aa → Prop) : Prop :=
 match v with
 | .ptr id off => xE H[id]? d id off env H K
 | _ => False
@[congr] theorem OL {v v' : AV} {d : Nat} {env : Env} {H : List aa} {K : Env → List aa → Prop} (h : fV v = v') : BL v d env H K = BL v' d env H K := by subst h; rfl
theorem Nb (id off d : Nat) (env : Env) (H : List aa) (K : Env → List aa → Prop) : BL (.ptr id off) d env H K = xE H[id]? d id off env H K := _root_.id rfl
theorem Jy {P : Px} (a : IX) (d : Nat) (env : Env) (H : List aa) (K : Env → List aa → Prop) : bp P (.dZ a) (some d) env H K = BL (al env a) d env H K := by
 simp only [bp, BL, xE]
 cases al env a <;> rfl
def Jz (o : Option aa) (id off : Nat) (x : AV) (H : List aa) (K : List aa → Prop) : Prop :=
 match o with
 | some (.cells es) => off < es.length ∧ x.one = true ∧ x.aY (id + 1) = true ∧ K (H.set id (.cells (es.set off x)))
 | _ => False
@[congr] theorem Rx {o o' : Option aa} {id off : Nat} {x x' : AV} {H : List aa} {K : List aa → Prop} (h : fV o = o') (h2 : x = x') : Jz o id off x H K = Jz o' id off x' H K := by subst h; subst h2; rfl
theorem Nc (id off : Nat) (x : AV) (H : List aa) (K : List aa → Prop) : dJ (.ptr id off) x H K = Jz H[id]? id off x H K := by
 unfold dJ Jz; rfl
theorem Ry (es : List AV) (id off : Nat) (x : AV) (H : List aa) (K : List aa → Prop) : Jz (some (.cells es)) id off x H K = (off < es.length ∧ x.one = true ∧ x.aY (id + 1) = true ∧ K (H.set id (.cells (es.set off x)))) := _root_.id rfl
theorem bd2 (x y : AV) (φ : AV → Prop) : cB [.int .i64 0, .int .i64 0, .ah] [(0, 1, x), (1, 1, y)] φ = (x.val = true ∧ x.cells.length = 1 ∧ y.val = true ∧ y.cells.length = 1 ∧ φ (.agg (ag (ag [.int .i64 0, .int .i64 0, .ah] 0 (x.cells.map AV.ab)) 1 (y.cells.map AV.ab)))) := by
 simp only [cB, gG, eq_iff_iff]
 constructor
 ·rintro ⟨h1, h2, h3, h4, h5, h6, h7⟩; exact ⟨h1, h2, h4, h5, h7⟩
 ·rintro ⟨h1, h2, h4, h5, h7⟩
  have e1 : (x.cells.map AV.ab).length = 1 := by simpa using h2
  refine ⟨h1, h2, by simp, h4, h5, ?_, h7⟩
  simp [ag, h2]
theorem bd0 (cs : List AV) (φ : AV → Prop) : cB cs [] φ = φ (.agg cs) := _root_.id rfl
theorem nX (e b : Nat) (ys : List AV) (o : Nat) (ψ : List AV → Prop) : bE e b .ah (.ap o ys) ψ = (ys.length * b ≤ 140737488355328 ∧ sX e ys ∧ ψ ys) := by
 simp [bE, me, dE]
theorem nc (e b : Nat) (xs ys : List AV) (o : Nat) (ψ : List AV → Prop) : bE e b (.ap e xs) (.ap o ys) ψ = ((xs.length + ys.length) * b ≤ 140737488355328 ∧ sX e ys ∧ ψ (xs ++ ys)) := by
 simp [bE, me, dE]
theorem YD (n : Nat) : (IX.t n).slot = some n := _root_.id rfl
theorem YE (v : AV) : (IX.c v).slot = none := _root_.id rfl
theorem Rz (id : Nat) (H : List aa) (φ : AV → Prop) : aR none (.ai (.map id)) H φ = φ (.map id) := by simp [aR, AV.one, IQ]
theorem RA (id off : Nat) (H : List aa) (φ : AV → Prop) : aR none (.ai (.ptr id off)) H φ = φ (.ptr id off) := by simp [aR, AV.one, IP]
theorem Nf (b : Bool) : (AV.bool b).one = true := _root_.id rfl
theorem RB (k : IntKind) (n : Int) : (AV.int k n).one = true := _root_.id rfl
theorem RC (s : ByteArray) : (AV.str s).one = true := _root_.id rfl
theorem RD (o : Nat) (xs : List AV) : (AV.ap o xs).one = true := _root_.id rfl
theorem Ng : AV.ah.one = true := _root_.id rfl
theorem Vv (f : Fn) (a b : List AV) : (AV.fn f a b).one = true := _root_.id rfl
theorem RE (a b : Nat) : (AV.ptr a b).one = true := _root_.id rfl
theorem Nh (x : AV) : (AV.ai x).one = true := _root_.id rfl
theorem RF (a : Nat) : (AV.map a).one = true := _root_.id rfl
theorem YF {α : Type} (p : α → Bool) (x : α) (r : List α) : (x :: r).all p = (p x && r.all p) := _root_.id rfl
theorem YG {α : Type} (p : α → Bool) : ([] : List α).all p = true := _root_.id rfl
theorem dV (n : Int) (h : -9223372036854775808 ≤ n ∧ n ≤ 9223372036854775807) : IntKind.i64.wrap n = n := by
 rw [show IntKind.i64.wrap n = (n + 9223372036854775808) % 18446744073709551616 - 9223372036854775808 from IntKind.wrap_i64 n]; omega
theorem aN {P : Program} {n0 : Nat} {env : Env} {H : List aa} {Q : Exit → Env → List aa → Prop} {a : IR} {ι : Type} (N : Nat) (I : Nat → ι → Prop) (se : Nat → ι → Env) (sh : Nat → ι → List aa) (s0 : ι) (h0 : I 0 s0 ∧ sle n0 env H (se 0 s0) (sh 0 s0))
 (hs : ∀ i s, i ≤ N → I i s → kY P n0 a (se i s) (sh i s) fun e aC H' => match e with
   | .normal => ∃ j t, (j ≤ N ∧ I j t) ∧ N - j < N - i ∧ sle n0 aC H' (se j t) (sh j t)
   | e => Q e aC H') : kY P n0 (.loop a) env H Q :=
 ⟨Nat × ι, fun p => p.1 ≤ N ∧ I p.1 p.2, fun p => se p.1 p.2, fun p => sh p.1 p.2, fun p => N - p.1, ⟨(0, s0), ⟨Nat.zero_le _, h0.1⟩, h0.2⟩, fun p hp => kH (hs p.1 p.2 hp.1 hp.2) fun x e H' h => by
   cases x with
   | normal => obtain ⟨j, t, h1, h2, h3⟩ := h; exact ⟨(j, t), h1, h2, h3⟩
   | _ => exact h⟩
theorem lL {P : Program} {l : Nat} {n0 : Nat} {env : Env} {H : List aa} {Q : Exit → Env → List aa → Prop} {a : IR} {ι : Type} (N : Nat) (I : Nat → ι → Prop) (se : Nat → ι → Env) (sh : Nat → ι → List aa) (s0 : ι) (h0 : I 0 s0 ∧ F0 n0 env H (se 0 s0) (sh 0 s0))
 (hs : ∀ i s, i ≤ N → I i s → kY ⟨P, some l⟩ n0 a (se i s) (sh i s) fun e aC H' => match e with
   | .normal => ∃ j t, (j ≤ N ∧ I j t) ∧ N - j < N - i ∧ F0 n0 aC H' (se j t) (sh j t)
   | e => Q e aC H') : kY ⟨P, some l⟩ n0 (.loop a) env H Q :=
 ⟨Nat × ι, fun p => p.1 ≤ N ∧ I p.1 p.2, fun p => se p.1 p.2, fun p => sh p.1 p.2, fun p => N - p.1, ⟨(0, s0), ⟨Nat.zero_le _, h0.1⟩, h0.2⟩, fun p hp => kH (hs p.1 p.2 hp.1 hp.2) fun x e H' h => by
   cases x with
   | normal => obtain ⟨j, t, h1, h2, h3⟩ := h; exact ⟨(j, t), h1, h2, h3⟩
   | _ => exact h⟩
theorem aZ {H : List aa} {s : Nat} {v v' : AV} (hb : v.aY H.length = true) (hv : v = v') : bT H.length [.t s] [(s, v)] H fun r H' => r = v' ∧ H' = H :=
 aV _ (Nat.le_refl _) (by rw [ax, if_pos rfl]; exact hb) ⟨by rw [ax, if_pos rfl]; exact hv, by simp⟩
theorem JA {H e : List aa} {s : Nat} {v v' : AV} (hb : v.aY H.length = true) (hv : v = v') : bT H.length [.t s] [(s, v)] (H ++ e) fun r H' => r = v' ∧ H' = H :=
 aV _ (Nat.le_refl _) (by rw [ax, if_pos rfl]; exact hb) ⟨by rw [ax, if_pos rfl]; exact hv, by simp⟩
theorem RG {H H' : List aa} {n0 s : Nat} {v v' : AV} (hn : n0 = H.length) (hb : v.aY n0 = true) (hv : v = v') (hl : H = H') : bT n0 [.t s] [(s, v)] H fun r H'' => r = v' ∧ H'' = H' := by
 subst hn hl; exact aZ hb hv
theorem qk {H H' : List aa} {n0 : Nat} {env : Env} (hn : n0 = H.length) (hl : H = H') : bT n0 [] env H fun r H'' => r = .tuple [] ∧ H'' = H' := by
 subst hn hl
 exact ⟨H.length, Nat.le_refl _, [], trivial, rfl, rfl, by simp⟩
theorem xF {H e : List aa} {s s' : Nat} {v v' x y : AV} (hs : s' ≠ s) (hb : x.aY H.length = true) (dR : y.aY H.length = true) (hx : v.ab = x) (hy : v'.ab = y) :
 bT H.length [.t s, .t s'] [(s, v), (s', v')] (H ++ e) fun r H' => r = .tuple [x, y] ∧ H' = H := by
 subst hx hy
 refine ⟨H.length, Nat.le_refl _, [v.ab, v'.ab], ?_, ?_, rfl, by simp⟩
 ·simp only [ax, if_neg hs, if_true, List.map]
  exact b8 _
 ·simp only [aj, hb, dR, Bool.and_self]
theorem BM {H : List aa} {s s' : Nat} {v v' x y : AV} (hs : s' ≠ s) (hb : x.aY H.length = true) (dR : y.aY H.length = true) (hx : v.ab = x) (hy : v'.ab = y) :
 bT H.length [.t s, .t s'] [(s, v), (s', v')] H fun r H' => r = .tuple [x, y] ∧ H' = H := by
 have := xF (e := []) hs hb dR hx hy
 rw [List.append_nil] at this
 exact this
def xG (n0 : Nat) (x : AV) (H : List aa) (R : AV → List aa → Prop) : Prop := ∃ m, n0 ≤ m ∧ ∃ r, x.le r ∧ r.aY m = true ∧ R r (H.take m)
@[congr] theorem OM {n0 : Nat} {x x' : AV} {H H' : List aa} {R : AV → List aa → Prop} (h : fV x = x') (h2 : H = H') : xG n0 x H R = xG n0 x' H' R := by subst h; subst h2; rfl
def sL (n0 : Nat) (xs : List AV) (H : List aa) (R : AV → List aa → Prop) : Prop := ∃ m, n0 ≤ m ∧ ∃ ys, xh (xs.map AV.ab) ys ∧ aj m ys = true ∧ R (.tuple ys) (H.take m)
@[congr] theorem ON {n0 : Nat} {x x' : List AV} {H H' : List aa} {R : AV → List aa → Prop} (h : fV x = x') (h2 : H = H') : sL n0 x H R = sL n0 x' H' R := by subst h; subst h2; rfl
theorem RH (n0 s : Nat) (sz : Option Nat) (env : Env) (H : List aa) (R : AV → List aa → Prop) : bT n0 [.c s sz] env H R = aR sz (get env s) H fun x => xG n0 x H R := _root_.id rfl
theorem Ni (n0 s s' : Nat) (sz : Option Nat) (env : Env) (H : List aa) (R : AV → List aa → Prop) : bT n0 [.c s sz, .t s'] env H R = aR sz (get env s) H fun x => sL n0 [x, get env s'] H R := _root_.id rfl
theorem E7 {H e : List aa} {v v' : AV} (hb : v.aY H.length = true) (hv : v = v') : xG H.length v (H ++ e) fun r H' => r = v' ∧ H' = H := by
 subst hv; exact ⟨H.length, Nat.le_refl _, v, le_refl _, hb, rfl, by simp⟩
theorem bY {i n : Nat} (h : (i : Int) < (n : Int)) : i < n := by omega
theorem dl {i n : Nat} (h : (n : Int) ≤ (i : Int)) : n ≤ i := by omega
def lM := (And.intro @BA (And.intro @BE (And.intro @xD @GK)))
def RI := (And.intro (And.intro (And.intro (And.intro (And.intro (And.intro (And.intro (And.intro @Q9 @I2) (And.intro @DB @I3)) (And.intro (And.intro @MJ @By) (And.intro @GD (And.intro @I4 @MK)))) (And.intro (And.intro (And.intro @I5 @Re) (And.intro @Rf @Vn)) (And.intro (And.intro @Vo @GF) (And.intro @I6 (And.intro @Rg @Rh))))) (And.intro (And.intro (And.intro (And.intro @ML @IY) (And.intro @IZ @ax)) (And.intro (And.intro @Q7 @Rl) (And.intro @Jc (And.intro @GI @Jd)))) (And.intro (And.intro (And.intro @Vp @Rm) (And.intro @MS (And.intro @MT @Je))) (And.intro (And.intro @Jf @wK) (And.intro @MU (And.intro @Jy @Nb)))))) (And.intro (And.intro (And.intro (And.intro (And.intro @Na @Nc) (And.intro @Ry @DU)) (And.intro (And.intro @DV @nX) (And.intro @nc (And.intro @Rz @RA)))) (And.intro (And.intro (And.intro @YD @YE) (And.intro @RH (And.intro @Ni @bd0))) (And.intro (And.intro @bd2 @Jh) (And.intro @DC (And.intro @Bz @zy))))) (And.intro (And.intro (And.intro (And.intro @Ji @zz) (And.intro @BB @Jj)) (And.intro (And.intro @MV @BC) (And.intro @Rn (And.intro @GL (And.intro @Jk (And.intro @tI @DD)))))) (And.intro (And.intro (And.intro @Jl @Jm) (And.intro @GN (And.intro @GO @Vq))) (And.intro (And.intro @DE @DF) (And.intro @DG (And.intro @DH @Jn))))))) (And.intro (And.intro (And.intro (And.intro (And.intro (And.intro @Vr @MW) (And.intro @Jo @Ro)) (And.intro (And.intro @MX @Jp) (And.intro @MY (And.intro @MZ @Rp)))) (And.intro (And.intro (And.intro @M4 @Rq) (And.intro @Jq @GP)) (And.intro (And.intro @Jr @Vs) (And.intro @M5 (And.intro @Js @wL))))) (And.intro (And.intro (And.intro (And.intro @zA @wM) (And.intro @BD @zB)) (And.intro (And.intro @Jt @zC) (And.intro @BF (And.intro @Ju @BG)))) (And.intro (And.intro (And.intro @BH @zD) (And.intro @uX (And.intro @ta @Vt))) (And.intro (And.intro @DI @DJ) (And.intro @Vu (And.intro @M6 @DK)))))) (And.intro (And.intro (And.intro (And.intro (And.intro @GQ @DL) (And.intro @DM @BI)) (And.intro (And.intro @Rr @Ru) (And.intro @kG (And.intro @DN @GR)))) (And.intro (And.intro (And.intro @GS @Jv) (And.intro @GU (And.intro @MB @MC))) (And.intro (And.intro @MD @ME) (And.intro @Vh (And.intro @Vi @Vj))))) (And.intro (And.intro (And.intro (And.intro @Vk @Yu) (And.intro @Vl @Vm)) (And.intro (And.intro @MG @GA) (And.intro @Qc (And.intro @nU @m9)))) (And.intro (And.intro (And.intro @zq @E1) (And.intro @uR (And.intro @Qd @Qe))) (And.intro (And.intro @IN @IP) (And.intro @E2 (And.intro @L8 @IQ)))))))) (And.intro (And.intro (And.intro (And.intro (And.intro (And.intro (And.intro @L9 @Oy) (And.intro @Ma @Mb)) (And.intro (And.intro @Qf @Qg) (And.intro @Mc (And.intro @Qh @Qi)))) (And.intro (And.intro (And.intro @Vc @Md) (And.intro @Qj @Me)) (And.intro (And.intro @Qk @tF) (And.intro @Ql (And.intro @Qm @Mf))))) (And.intro (And.intro (And.intro (And.intro @Qn @Qo) (And.intro @Vd @Mg)) (And.intro (And.intro @Qp @Mh) (And.intro @Qq (And.intro @E3 @Qr)))) (And.intro (And.intro (And.intro @Qs @Mi) (And.intro @Qt (And.intro @Qu @Ve))) (And.intro (And.intro @Mj @Qv) (And.intro @Mk (And.intro @Qw @zr)))))) (And.intro (And.intro (And.intro (And.intro (And.intro @iL @IS) (And.intro @E4 @cU)) (And.intro (And.intro @uS @IT) (And.intro @rv (And.intro @IU @jy)))) (And.intro (And.intro (And.intro @zt @Vf) (And.intro @Ml (And.intro @cV @bL))) (And.intro (And.intro @Q8 @My) (And.intro @Qx (And.intro @Qy @Qz))))) (And.intro (And.intro (And.intro (And.intro @QA @QB) (And.intro @QC @QD)) (And.intro (And.intro @QE @QF) (And.intro @QG (And.intro @QH @QI)))) (And.intro (And.intro (And.intro @QJ @QK) (And.intro @QL (And.intro @QM @QN))) (And.intro (And.intro @QO @Yt) (And.intro @QP (And.intro @Mm @QQ))))))) (And.intro (And.intro (And.intro (And.intro (And.intro (And.intro @QR @Mn) (And.intro @QS @Mo)) (And.intro (And.intro @QT @QU) (And.intro @Mq (And.intro @QV @Mr)))) (And.intro (And.intro (And.intro @QW @QX) (And.intro @QY @Ms)) (And.intro (And.intro @Vg @QZ) (And.intro @Mt (And.intro @IV @Q0))))) (And.intro (And.intro (And.intro (And.intro @IW @Q3) (And.intro @Q4 @Q5)) (And.intro (And.intro @Q6 @Gs) (And.intro @Mv (And.intro @Mw @Mx)))) (And.intro (And.intro (And.intro @Gu @Gv) (And.intro @Gw (And.intro @Gx @Gy))) (And.intro (And.intro @Bn @Bo) (And.intro @ga0 (And.intro @ga @sa0)))))) (And.intro (And.intro (And.intro (And.intro (And.intro @sa @Yv) (And.intro @Tx @g0)) (And.intro (And.intro @g1 @g2) (And.intro @s0 (And.intro @s1 @s2)))) (And.intro (And.intro (And.intro @d0 @d1) (And.intro @d2 (And.intro @Yw @Yx))) (And.intro (And.intro @Yy @Yz) (And.intro @YA (And.intro @YB @YC))))) (And.intro (And.intro (And.intro (And.intro @Rv @Rw) (And.intro @E6 @M8)) (And.intro (And.intro @Jw @M7) (And.intro @GV (And.intro @BJ @Nf)))) (And.intro (And.intro (And.intro @RB @RC) (And.intro @RD (And.intro @Ng @Vv))) (And.intro (And.intro @RE @Nh) (And.intro @RF (And.intro @YF @YG)))))))))
end Go.aK
end
section
namespace Go.aK
open Go Go.RowKit
def fB (w : World) : Mem := fun b o => w.cell? ⟨b, o, none⟩
def DW (w : World) : Perm := ⟨fun b => w.heap.size ≤ b, fun id => some (id + 1), (fun id n h => by cases h; omega), 0⟩
theorem zE (w : World) : (DW w).entry false ([] : List aa).length := ⟨fun id h => absurd h (Nat.not_lt_zero _), fun id _ => rfl⟩
theorem St.start {w : World} {vs : Array Value} {xs : List AV} (h : aJ (fB w) [] vs.toList xs) (hf : ∀ x ∈ xs, ∀ own ys, x = .ap own ys → own = 0) :
 St (DW w) (fB w) [] w [] (fun t => vs.getD t undef) (fun t => xs.getD t .any) (fun _ => none) where
 len := rfl
 nodup := by simp
 env := fun t => by
  have := h.getD t
  rw [List.getD_eq_getElem?_getD] at this
  rw [Array.getD_eq_getD_getElem?]
  simpa using this
 mem := fun b o v hv => hv
 obj := fun id o b ho => by simp at ho
 bB := fun id o ho => by simp at ho
 lt := fun b hb => by cases hb
 gF := fun t => by
  refine bb.free fun own ys e => ?_
  rw [List.getD_eq_getElem?_getD] at e
  cases hx : xs[t]? with
  | none => rw [hx] at e; cases e
  | some x => rw [hx] at e; exact hf x (List.mem_of_getElem? hx) own ys e
 gC := fun id j => by simp [bo, bb]
 bX := fun p q b hp => by cases hp
 cb := fun p b hp => by cases hp
 eR := fun p b hp => by cases hp
 La := fun b hb => by cases hb
 Oa := fun p b hp => by cases hp
 fresh := fun b hb => hb
theorem Ext.below {M M' : Mem} {w w' : World} (h : Ext (DW w) M w M' w') : Below w.heap.size w w' :=
 ⟨h.os, h.tape, h.output, h.size, fun k hk => (h.jV k hk (by show ¬ w.heap.size ≤ k; omega)).1⟩
theorem Pure.lift {P : Program} {f : FuncId} {xs : List AV} {b : Bool} (hp : Pure P f xs (.bool b)) (he : ∀ (as : Array Value) (w : World), (callFunc f as).run P w = .ok (.enter f as) w)
 {w : World} {vs : Array Value} (hr : aJ (fB w) [] vs.toList xs) (hf : ∀ x ∈ xs, ∀ own ys, x = .ap own ys → own = 0) :
 Calls P f vs w fun e w' => e = .returned (.bool b) ∧ Below w.heap.size w w' := by
 have hs : vs.size = xs.length := by have := hr.length; simpa using this
 refine ((hp []).body he (zE w) hs (St.start hr hf)).mono ?_
 rintro e w' ⟨v, r, H', M', L', O', rfl, ⟨rfl, rfl⟩, bP, cq, _⟩
 have := bP.env 0
 simp only [HN] at this
 cases this
 exact ⟨rfl, cq.below⟩
theorem BN {a : Addr} {n : Nat} (h : a.spot = none) : a.add n = ⟨a.block, a.off + n, none⟩ := by
 obtain ⟨b, o, s⟩ := a
 simp only at h
 subst h
 unfold Addr.add
 split
 ·rename_i e; subst e; rfl
 ·rfl
theorem GY {w : World} {a : Addr} {v : Value} (h : w.cell? a = some v) : a.spot = none := by
 unfold World.cell? at h
 split at h
 ·split at h
  ·cases h
  ·rename_i hs; cases KM : a.spot <;> simp_all
 ·cases h
theorem xH {M : Mem} {L : List Nat} : ∀ {n : Nat} {cs : Nat → List Value} {f : Nat → AV}, (∀ i, i < n → aJ M L (cs i) (f i).cells) → aJ M L ((List.range n).flatMap cs) (flat ((List.range n).map f))
 | 0, _, _, _ => by simp [flat]; exact .nil
 | n + 1, cs, f, h => by
   have ih := xH (n := n) (fun i hi => h i (by omega))
   simp only [List.range_succ, List.flatMap_append, List.map_append, flat] at ih ⊢
   refine ih.append ?_
   simpa using h n (by omega)
theorem BO {n e : Nat} {cs : Nat → List Value} : (∀ i, i < n → (cs i).length = e) → ∀ (j : Nat) (v : Value), ((List.range n).flatMap cs)[j]? = some v → ∃ i k, i < n ∧ k < e ∧ j = i * e + k ∧ (cs i)[k]? = some v := by
 induction n with
 | zero => intro _ j v h; simp at h
 | succ n ih =>
   intro hl j v h
   simp only [List.range_succ, List.flatMap_append] at h
   have hlen : ((List.range n).flatMap cs).length = n * e := by
    clear h ih
    induction n with
    | zero => simp
    | succ n ih2 =>
      simp only [List.range_succ, List.flatMap_append, List.length_append]
      rw [ih2 (fun i hi => hl i (by omega))]
      simp [hl n (by omega), Nat.succ_mul]
   rcases Nat.lt_or_ge j (n * e) with hj | hj
   ·rw [List.getElem?_append_left (by omega)] at h
    obtain ⟨i, k, h1, h2, h3, h4⟩ := ih (fun i hi => hl i (by omega)) j v h
    exact ⟨i, k, by omega, h2, h3, h4⟩
   ·rw [List.getElem?_append_right (by omega), hlen] at h
    simp only [List.flatMap_cons, List.flatMap_nil, List.append_nil] at h
    have hk := (List.getElem?_eq_some_iff.1 h).1
    rw [hl n (by omega)] at hk
    exact ⟨n, j - n * e, by omega, hk, by omega, h⟩
theorem xI {w : World} {base e len cap : Nat} {a : Addr} (he : 0 < e) (hl : len ≤ cap) (hc : cap ≤ maxLen) (cs : Nat → List Value) (f : Nat → AV)
 (h : ∀ i, i < len → w.cells? base (a.add (i * e)) e = some (cs i) ∧ aJ (fB w) [] (cs i) (f i).cells) : aQ (fB w) [] (.slice (some a) len cap) (.ap 0 ((List.range len).map f)) := by
 have cE : cap < 9223372036854775808 := by have : maxLen = 9223372036854775807 := rfl; omega
 rcases Nat.eq_zero_or_pos len with h0 | h0
 ·subst h0
  exact .fX _ _ _ cE
 have hlen : ∀ i, i < len → (cs i).length = e := fun i hi => (World.cells?_some (h i hi).1).2.1
 have hcell : ∀ i, i < len → ∀ k, k < e → w.cell? ((a.add (i * e)).add k) = (cs i)[k]? := fun i hi => (World.cells?_some (h i hi).1).2.2
 have hspot : a.spot = none := by
  have h1 := hcell 0 h0 0 he
  rw [List.getElem?_eq_getElem (by rw [hlen 0 h0]; exact he)] at h1
  have h2 := GY h1
  simpa [Addr.add] using h2
 have key : aQ (fB w) [] (.slice (some ⟨a.block, a.off, none⟩) ((List.range len).map f).length cap) (.ap 0 ((List.range len).map f)) := by
  refine .ap a.block a.off cap 0 e ((List.range len).flatMap cs) _ he ?_ (by simpa using h0) (by simpa using hl) cE (xH fun i hi => (h i hi).2) ?_
  ·intro x hx
   obtain ⟨i, hi, rfl⟩ := List.mem_map.1 hx
   have hi := List.mem_range.1 hi
   rw [← (h i hi).2.length, hlen i hi]
  ·intro j v hv
   obtain ⟨i, k, h1, h2, rfl, h4⟩ := BO hlen j v hv
   have := hcell i h1 k h2
   rw [BN hspot, BN (by rfl)] at this
   show w.cell? ⟨a.block, a.off + (i * e + k), none⟩ = some v
   rw [← Nat.add_assoc, this, h4]
 have ea : (some a : Option Addr) = some ⟨a.block, a.off, none⟩ := by obtain ⟨b, o, s⟩ := a; simp only at hspot; rw [hspot]
 rw [ea]
 simpa using key
section
variable {H : Type} {enc : TypeId × Value → H} {P : Program}
theorem oH (hl : laidOutB P = true) {W W' : World} (hb : Below W.heap.size W W') : ∀ {ts : List TypeId} {vs : List Value} {ds : List (DataW H)} {ps : List MemPlace}, (∀ t ∈ ts, P.readableRec t = true ∧ t < P.types.size) →
 DataW.TrodAll enc P W 0 (fun _ => true) true ts vs ds ps → (∀ x ∈ ps, x.block < W.heap.size) → DataW.TrodAll enc P W' 0 (fun b => decide (b < W.heap.size)) true ts vs ds ps
 | [], [], [], _, _, h, _ => h
 | t :: ts, v :: vs, d :: ds, _, ht, ⟨p, q, h1, h2, e⟩, hp => by
   subst e
   exact ⟨p, q, Below.trod hl (ht t (by simp)).1 (ht t (by simp)).2 h1 hb (fun x hx => hp x (by simp [hx])), oH hl hb (fun t ht' => ht t (by simp [ht'])) h2 (fun x hx => hp x (by simp [hx])), rfl⟩
theorem JB {fn : Func} {s : ChangeSpec} {apart : Bool} {W W' : World} {args : Array Value} {ds gs : List (DataW H)} {before : List MemPlace} {t : TypeId} (hl : laidOutB P = true) (hb : Below W.heap.size W W')
 (hW : DataW.Whole enc P fn.params.toList s.vars apart W args.toList ds gs before) (hv : s.vars = []) (tb : fn.resultTypes = #[t]) (ht : P.underlying t = some .bool) (hs : s.fn H ds = { results := [.lit (.bool true)], args := ds })
 (hp : fn.params.toList.all (fun t => P.readableRec t && decide (t < P.types.size)) = true) : s.post enc P fn apart true false false W args (.bool true) W' := by
 have a8 : ∀ x ∈ before, x.block < W.heap.size := fun x hx => by simpa using hW.lt x hx
 have hW0 := hW
 obtain ⟨p, q, h1, h2, h3, h4, h5⟩ := hW
 rw [hv] at h2
 obtain ⟨rfl, rfl⟩ := ChangeShapes.trodVars_none h2
 simp only [List.append_nil] at h3
 subst h3
 refine ⟨ds, [], before, [], before, [], hW0, ?_, ?_, ?_, hb.frame _, fun h => by cases h⟩
 ·simp only [List.append_nil, hs, tb]
  exact ChangeShapes.trodAll_mk1 (shut_bool ht true)
 ·simp only [List.append_nil, hs]
  exact oH hl hb (fun t ht => by simpa using List.all_eq_true.1 hp t ht) h1 a8
 ·simp only [hv, List.append_nil, hs]
  rfl
end
end Go.aK
end
section
namespace Go.aK
open Go
structure YH {σ : Type} (S : σ → List aa) (p : Nat) (obj : σ → aa) (n : Nat) : Prop where
 get : ∀ s, (S s)[p]? = some (obj s)
 set : ∀ s s', (S s).set p (obj s') = S s'
 len : ∀ s, (S s).length = n
namespace YH
variable {σ : Type} {S : σ → List aa} {p : Nat} {obj : σ → aa} {n : Nat} (F : YH S p obj n)
include F
theorem lt (s : σ) : p < n := by
 have := F.get s
 rw [← F.len s]
 exact (List.getElem?_eq_some_iff.1 this).1
theorem take (s : σ) (e : List aa) : (S s ++ e).take n = S s := by
 rw [← F.len s]; simp
end YH
theorem OO {Hs G : List aa} {n0 : Nat} {v w x y : AV} {R : AV → List aa → Prop} (hH : Hs.take n0 = G) (hb : x.aY n0 = true) (dR : y.aY n0 = true) (hx : v.ab = x) (hy : w.ab = y) (hR : R (.tuple [x, y]) G) :
 sL n0 [v, w] Hs R := by
 subst hx hy hH
 exact ⟨n0, Nat.le_refl _, [v.ab, w.ab], b8 _, by simp only [aj, hb, dR, Bool.and_self], hR⟩
theorem OP {Hs G : List aa} {n0 : Nat} {v x : AV} {R : AV → List aa → Prop} (hH : Hs.take n0 = G) (hb : x.aY n0 = true) (hx : v = x) (hR : R x G) : xG n0 v Hs R := by
 subst hx hH
 exact ⟨n0, Nat.le_refl _, v, le_refl _, hb, hR⟩
theorem Nj {Hs G : List aa} {n0 s : Nat} {v x : AV} {R : AV → List aa → Prop} (hH : Hs.take n0 = G) (hb : x.aY n0 = true) (hx : v = x) (hR : R x G) : bT n0 [.t s] [(s, v)] Hs R := by
 subst hx hH
 exact aV _ (Nat.le_refl _) (by rw [ax, if_pos rfl]; exact hb) (by rw [ax, if_pos rfl]; exact hR)
end Go.aK
end
section
namespace Go.aK
open Go
def uY (C : List aa → Nat → List aa → Prop) (n0 : Nat) (v : AV) (H : List aa) (R : AV → List aa → Prop) : Prop :=
 ∃ m H', n0 ≤ m ∧ C H m H' ∧ ∃ r, v.le r ∧ r.aY m = true ∧ R r H'
@[congr] theorem Nk {C : List aa → Nat → List aa → Prop} {n0 : Nat} {x x' : AV} {H H' : List aa} {R : AV → List aa → Prop} (h : fV x = x') (h2 : H = H') : uY C n0 x H R = uY C n0 x' H' R := by subst h; subst h2; rfl
theorem Nl {C : List aa → Nat → List aa → Prop} {n0 s : Nat} {sz : Option Nat} {env : Env} {H : List aa} {R : AV → List aa → Prop} : kE C n0 [.c s sz] env H R = aR sz (get env s) H fun v => uY C n0 v H R := _root_.id rfl
theorem Nm {C : List aa → Nat → List aa → Prop} {n0 s : Nat} {env : Env} {H : List aa} {R : AV → List aa → Prop} : kE C n0 [.t s] env H R = uY C n0 (get env s) H R := _root_.id rfl
theorem GZ {n0 : Nat} {H G : List aa} (h : G.take n0 = H) (hl : H.length = n0) : mg n0 G n0 H := by
 subst h
 refine ⟨by simp, fun id o ho => ?_⟩
 rw [List.getElem?_take] at ho
 split at ho
 ·exact .inr ⟨ho, fun h => by omega⟩
 ·cases ho
def only (n0 id : Nat) (G : List aa) : List aa := G.mapIdx fun j o => if j < n0 ∨ j = id then o else .dead
theorem nY (n0 : Nat) (env : Env) (H : List aa) : F0 n0 env H env H := ⟨fun t => le_refl _, .inl rfl⟩
theorem zF {n0 : Nat} {env aC : Env} {H H' : List aa} (he : env = aC) (hH : H = H') : F0 n0 env H aC H' := by
 subst he; subst hH; exact nY _ _ _
def rB := And.intro @Nl (And.intro @Nm Jx)
end Go.aK
end
