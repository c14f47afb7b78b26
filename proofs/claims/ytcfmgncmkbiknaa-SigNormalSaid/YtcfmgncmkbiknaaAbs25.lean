/- A memory-free reading of the model's values (part 25): code, gone through in one's head. -/
import Derived.Test.YtcfmgncmkbiknaaAbs24
set_option linter.unusedVariables false
set_option linter.unusedSimpArgs false
namespace Go.Abs
open Go

/-- A mark for simp: what stands here is to be made plain, and nothing beside it. -/
def nrm {α : Type} (x : α) : α := x
theorem nrm_eq {α : Type} (x : α) : nrm x = x := _root_.id rfl
/-! ### An operation has one answer -/
section
variable {φ : AV → Prop}
theorem abin_det {op : BinOp} {x y : AV} (h : abin op x y φ) : ∃ z, abin op x y (fun w => w = z) ∧ φ z := by
  unfold abin at *
  split at h <;> (try exact h.elim)
  · obtain ⟨h0, h⟩ := h
    split at h <;> first | exact ⟨_, ⟨h0, rfl⟩, h⟩ | exact ⟨_, ⟨h0, h.1, rfl⟩, h.2⟩ | exact h.elim
  · split at h <;> first | exact ⟨_, rfl, h⟩ | exact ⟨_, ⟨h.1, rfl⟩, h.2⟩ | exact h.elim
theorem ashift_det {op : BinOp} {x y : AV} (h : ashift op x y φ) : ∃ z, ashift op x y (fun w => w = z) ∧ φ z := by
  unfold ashift at *
  split at h <;> (try exact h.elim)
  obtain ⟨h0, h⟩ := h
  split at h <;> first | exact ⟨_, ⟨h0, rfl⟩, h⟩ | exact h.elim
theorem aeqBool_det {neq : Bool} {x y : AV} (h : aeqBool neq x y φ) : ∃ z, aeqBool neq x y (fun w => w = z) ∧ φ z := by
  unfold aeqBool at *
  split at h <;> first | exact ⟨_, rfl, h⟩ | exact h.elim
theorem aun_det {op : UnOp} {x : AV} (h : aun op x φ) : ∃ z, aun op x (fun w => w = z) ∧ φ z := by
  unfold aun at *
  split at h <;> first | exact ⟨_, rfl, h⟩ | exact h.elim
theorem aload_det {sz : Option Nat} {x : AV} {H : List AObj} (h : aload sz x H φ) : ∃ z, aload sz x H (fun w => w = z) ∧ φ z := by
  unfold aload at *
  split at h <;> (try exact h.elim) <;> (split at h <;> (try exact h.elim)) <;> first | exact ⟨_, ⟨h.1, rfl⟩, h.2⟩ | (split at h <;> exact ⟨_, ⟨h.1, rfl⟩, h.2⟩)
theorem apart_det {off : Nat} {sz : Option Nat} {xs : List AV} {g : AV → AV} (h : apart off sz xs fun z => φ (g z)) : ∃ z, (apart off sz xs fun w => g w = z) ∧ φ z := by
  unfold apart at *
  split at h <;> first | exact ⟨_, ⟨h.1, rfl⟩, h.2⟩ | exact ⟨_, ⟨h.1, h.2.1, rfl⟩, h.2.2⟩
theorem afield_det {off : Nat} {sz : Option Nat} {x : AV} (h : afield off sz x φ) : ∃ z, afield off sz x (fun w => w = z) ∧ φ z := by
  unfold afield at *
  split at h <;> (try exact h.elim)
  exact apart_det h
theorem afieldAddr_det {off : Nat} {sz : Option Nat} {x : AV} (h : afieldAddr off sz x φ) : ∃ z, afieldAddr off sz x (fun w => w = z) ∧ φ z := by
  unfold afieldAddr at *
  split at h <;> (try exact h.elim)
  · exact ⟨_, rfl, h⟩
  · exact apart_det h
theorem aindexAddr_det {esz : Nat} {x i : AV} (h : aindexAddr esz x i φ) : ∃ z, aindexAddr esz x i (fun w => w = z) ∧ φ z := by
  unfold aindexAddr at *
  split at h <;> first | exact ⟨_, ⟨h.1, h.2.1, rfl⟩, h.2.2⟩ | exact h.elim
theorem aindexStr_det {x i : AV} (h : aindexStr x i φ) : ∃ z, aindexStr x i (fun w => w = z) ∧ φ z := by
  unfold aindexStr at *
  split at h <;> first | exact ⟨_, ⟨h.1, h.2.1, rfl⟩, h.2.2⟩ | exact h.elim
theorem aextract_det {x : AV} {i : Nat} (h : aextract x i φ) : ∃ z, aextract x i (fun w => w = z) ∧ φ z := by
  unfold aextract at *
  split at h <;> first | exact ⟨_, ⟨h.1, rfl⟩, h.2⟩ | exact h.elim
theorem anilCheck_det {x : AV} (h : anilCheck x φ) : ∃ z, anilCheck x (fun w => w = z) ∧ φ z := by
  unfold anilCheck at *
  split at h <;> first | exact ⟨_, rfl, h⟩ | exact h.elim
theorem aconvInt_det {k : IntKind} {x : AV} (h : aconvInt k x φ) : ∃ z, aconvInt k x (fun w => w = z) ∧ φ z := by
  unfold aconvInt at *
  split at h <;> first | exact ⟨_, rfl, h⟩ | exact h.elim
theorem amx_det {big : Bool} {x y : AV} (h : amx big x y φ) : ∃ z, amx big x y (fun w => w = z) ∧ φ z := by
  unfold amx at *
  split at h <;> first | exact ⟨_, rfl, h⟩ | exact h.elim
theorem aidx_det1 {x : Option AV} {d : Nat} {c1 c2 : Nat → Prop} {g : Nat → AV} (h : aidx x d fun k => c1 k ∧ c2 k ∧ φ (g k)) : ∃ z, (aidx x d fun k => c1 k ∧ c2 k ∧ g k = z) ∧ φ z := by
  unfold aidx at *
  split at h
  · exact ⟨_, ⟨h.1, h.2.1, rfl⟩, h.2.2⟩
  · exact ⟨_, ⟨h.1, h.2.1, h.2.2.1, rfl⟩, h.2.2.2⟩
  · exact h.elim
theorem aidx_det {x : Option AV} {d : Nat} {ψ : (AV → Prop) → Nat → Prop} (h : aidx x d (ψ φ)) (hd : ∀ k, ψ φ k → ∃ z, ψ (fun w => w = z) k ∧ φ z) : ∃ z, aidx x d (ψ fun w => w = z) ∧ φ z := by
  unfold aidx at *
  split at h
  · exact hd _ h
  · obtain ⟨z, h2, h3⟩ := hd _ h.2; exact ⟨z, ⟨h.1, h2⟩, h3⟩
  · exact h.elim
theorem aslice_det {esz : Nat} {x : AV} {lo hi mx : Option AV} (h : aslice esz x lo hi mx φ) : ∃ z, aslice esz x lo hi mx (fun w => w = z) ∧ φ z := by
  unfold aslice at *
  split at h <;> (try exact h.elim)
  rename_i xs hxs
  cases mx with
  | none => exact aidx_det (ψ := fun φ h => aidx lo 0 fun l => l ≤ h ∧ h ≤ xs.length ∧ φ (.lst 0 ((xs.take h).drop l))) h fun k h => aidx_det1 (c1 := fun l => l ≤ k) (c2 := fun _ => k ≤ xs.length) (g := fun l => .lst 0 ((xs.take k).drop l)) h
  | some m =>
    refine aidx_det (ψ := fun φ h => aidx lo 0 fun l => l ≤ h ∧ h ≤ xs.length ∧ hi.isSome = true ∧ aidx (some m) 0 fun m => m = h ∧ (∀ y ∈ xs, y.cells.length = esz) ∧ φ (.lst esz ((xs.take h).drop l))) h fun k h => ?_
    refine aidx_det (ψ := fun φ l => l ≤ k ∧ k ≤ xs.length ∧ hi.isSome = true ∧ aidx (some m) 0 fun m => m = k ∧ (∀ y ∈ xs, y.cells.length = esz) ∧ φ (.lst esz ((xs.take k).drop l))) h fun l h => ?_
    obtain ⟨h1, h2, h3, h4⟩ := h
    obtain ⟨z, k1, k2⟩ := aidx_det1 (g := fun _ => .lst esz ((xs.take k).drop l)) h4
    exact ⟨z, ⟨h1, h2, h3, k1⟩, k2⟩
theorem asliceX_det {esz : Nat} {x : AV} {lo hi mx : Option AV} (h : asliceX esz x lo hi mx φ) : ∃ z, asliceX esz x lo hi mx (fun w => w = z) ∧ φ z := by
  unfold asliceX aslicea at *
  split at h
  · rename_i id off len cap
    obtain ⟨h1, h2⟩ := h
    have := aidx_det (ψ := fun φ h => aidx lo 0 fun l => l ≤ h ∧ h ≤ cap ∧ φ (.arr id (if cap = l then off else off + l * esz) (h - l) (cap - l))) h2 fun k h => aidx_det1 (c1 := fun l => l ≤ k) (c2 := fun _ => k ≤ cap) (g := fun l => .arr id (if cap = l then off else off + l * esz) (k - l) (cap - l)) h
    obtain ⟨z, k1, k2⟩ := this
    exact ⟨z, ⟨h1, k1⟩, k2⟩
  · obtain ⟨z, k1, k2⟩ := aslice_det h.2
    exact ⟨z, ⟨h.1, k1⟩, k2⟩
theorem asliceStr_det {x : AV} {lo hi : Option AV} (h : asliceStr x lo hi φ) : ∃ z, asliceStr x lo hi (fun w => w = z) ∧ φ z := by
  unfold asliceStr at *
  split at h <;> (try exact h.elim)
  rename_i s
  exact aidx_det (ψ := fun φ h => aidx lo 0 fun l => l ≤ h ∧ h ≤ s.size ∧ φ (.str (s.extract l h))) h fun k h => aidx_det1 (c1 := fun l => l ≤ k) (c2 := fun _ => k ≤ s.size) (g := fun l => .str (s.extract l k)) h
theorem alookup_det {kd : Nat} {z m k : AV} {ok : Bool} {H : List AObj} (h : alookup kd z m k ok H φ) : ∃ y, alookup kd z m k ok H (fun w => w = y) ∧ φ y := by
  unfold alookup at *
  split at h <;> (try exact h.elim) <;> first | exact ⟨_, rfl, h⟩ | exact ⟨_, ⟨h.1, rfl⟩, h.2⟩ | (split at h <;> (try exact h.elim) <;> first | exact ⟨_, rfl, h⟩ | exact ⟨_, ⟨h.1, rfl⟩, h.2⟩ | (split at h <;> (try exact h.elim) <;> first | exact ⟨_, rfl, h⟩ | exact ⟨_, ⟨h.1, rfl⟩, h.2⟩))
theorem abslice_det {esz : Nat} {own : Nat} : ∀ {ps : List (Nat × AV)} {zs : List AV}, abslice zs esz ps (fun v => φ (.lst own v)) → ∃ z, abslice zs esz ps (fun v => .lst own v = z) ∧ φ z
  | [], zs, h => ⟨_, rfl, h⟩
  | (i, x) :: r, zs, h => by
    obtain ⟨z, k1, k2⟩ := abslice_det h.2.2.2
    exact ⟨z, ⟨h.1, h.2.1, h.2.2.1, k1⟩, k2⟩
theorem afill_det : ∀ {ps : List (Nat × Nat × AV)} {zs : List AV}, afill zs ps (fun v => φ (.agg v)) → ∃ z, afill zs ps (fun v => .agg v = z) ∧ φ z
  | [], zs, h => ⟨_, rfl, h⟩
  | (off, sz, x) :: r, zs, h => by
    obtain ⟨z, k1, k2⟩ := afill_det h.2.2.2
    exact ⟨z, ⟨h.1, h.2.1, h.2.2.1, k1⟩, k2⟩
end

/-! ### One way or the other -/
def scond (v : AV) (A B : Prop) : Prop := boolP v fun q => (q = true → A) ∧ (q = false → B)
@[congr] theorem scond_congr {v v' : AV} {A B : Prop} (h : nrm v = v') : scond v A B = scond v' A B := by subst h; rfl
theorem scond_t (A B : Prop) : scond (.bool true) A B = A := by simp [scond, boolP]
theorem scond_f (A B : Prop) : scond (.bool false) A B = B := by simp [scond, boolP]
theorem scond_n (b : Bool) (A B : Prop) : scond (.bool (!b)) A B = scond (.bool b) B A := by cases b <;> simp [scond, boolP]
theorem scond_d (p : Prop) [Decidable p] (A B : Prop) : scond (.bool (decide p)) A B = ((p → A) ∧ (¬ p → B)) := by simp [scond, boolP]
theorem scond_b {b : Bool} {A B : Prop} (h1 : b = true → A) (h2 : b = false → B) : scond (.bool b) A B := ⟨h1, h2⟩

def sguard (v : AV) (g : Nat) (want : Bool) (env : Env) (yes no : Env → Prop) : Prop :=
  match v with
  | .bool b => (b = want → yes ((g, .bool want) :: env)) ∧ (b = (!want) → no ((g, .bool (!want)) :: env))
  | .tuple [] => no env
  | _ => False
@[congr] theorem sguard_congr {v v' : AV} {g : Nat} {want : Bool} {env : Env} {yes no : Env → Prop} (h : nrm v = v') : sguard v g want env yes no = sguard v' g want env yes no := by subst h; rfl
section
variable (g : Nat) (env : Env) (yes no : Env → Prop)
theorem sg_tt : sguard (.bool true) g true env yes no = yes ((g, .bool true) :: env) := by simp [sguard]
theorem sg_tf : sguard (.bool true) g false env yes no = no ((g, .bool true) :: env) := by simp [sguard]
theorem sg_ft : sguard (.bool false) g true env yes no = no ((g, .bool false) :: env) := by simp [sguard]
theorem sg_ff : sguard (.bool false) g false env yes no = yes ((g, .bool false) :: env) := by simp [sguard]
theorem sg_u (want : Bool) : sguard (.tuple []) g want env yes no = no env := _root_.id rfl
theorem sg_dt (p : Prop) [Decidable p] : sguard (.bool (decide p)) g true env yes no = ((p → yes ((g, .bool true) :: env)) ∧ (¬ p → no ((g, .bool false) :: env))) := by simp [sguard]
theorem sg_df (p : Prop) [Decidable p] : sguard (.bool (decide p)) g false env yes no = ((¬ p → yes ((g, .bool false) :: env)) ∧ (p → no ((g, .bool true) :: env))) := by simp [sguard]
theorem sg_bt {b : Bool} {yes no : Env → Prop} (h1 : b = true → yes ((g, .bool true) :: env)) (h2 : b = false → no ((g, .bool false) :: env)) : sguard (.bool b) g true env yes no := ⟨h1, h2⟩
theorem sg_bf {b : Bool} {yes no : Env → Prop} (h1 : b = false → yes ((g, .bool false) :: env)) (h2 : b = true → no ((g, .bool true) :: env)) : sguard (.bool b) g false env yes no := ⟨h1, h2⟩
theorem sg_nt (b : Bool) : sguard (.bool (!b)) g true env yes no = sguard (.bool b) g false env (fun e => yes ((g, .bool true) :: env)) (fun e => no ((g, .bool false) :: env)) := by cases b <;> simp [sguard]
theorem sg_nf (b : Bool) : sguard (.bool (!b)) g false env yes no = sguard (.bool b) g true env (fun e => yes ((g, .bool false) :: env)) (fun e => no ((g, .bool true) :: env)) := by cases b <;> simp [sguard]
end

/-! ### A call -/
def scall (P : Program) (g : FuncId) (xs : List AV) (H : List AObj) (K : AV → List AObj → Prop) : Prop := ∃ args', LeL xs args' ∧ ACalls P g args' H K
@[congr] theorem scall_congr {P : Program} {g : FuncId} {xs xs' : List AV} {H H' : List AObj} {K : AV → List AObj → Prop} (h : nrm xs = xs') (h2 : H = H') : scall P g xs H K = scall P g xs' H' K := by subst h; subst h2; rfl
theorem scall_of {P : Program} {g : FuncId} {xs ys : List AV} {H : List AObj} {R K : AV → List AObj → Prop} (hc : ACalls P g ys H R) (hl : LeL xs ys) (hk : ∀ r H', R r H' → K r H') : scall P g xs H K := ⟨ys, hl, hc.mono hk⟩
theorem scall_to {P : Program} {g : FuncId} {xs : List AV} {H : List AObj} {R K : AV → List AObj → Prop} (hc : ACalls P g xs H R) (hk : ∀ r H', R r H' → K r H') : scall P g xs H K := ⟨xs, LeL_refl _, hc.mono hk⟩
theorem scall_pure {P : Program} {g : FuncId} {xs : List AV} {v : AV} {H : List AObj} {K : AV → List AObj → Prop} (hc : Pure P g xs v) (hk : K v H) : scall P g xs H K :=
  ⟨xs, LeL_refl _, (hc H).mono fun r H' ⟨h1, h2⟩ => by rw [h1, h2]; exact hk⟩
theorem scall_pure' {P : Program} {g : FuncId} {xs ys : List AV} {v : AV} {H : List AObj} {K : AV → List AObj → Prop} (hc : Pure P g ys v) (hl : LeL xs ys) (hk : K v H) : scall P g xs H K :=
  ⟨ys, hl, (hc H).mono fun r H' ⟨h1, h2⟩ => by rw [h1, h2]; exact hk⟩
theorem acall_s {P : Program} {env : Env} {H : List AObj} (g : FuncId) (first cap : List AV) (args : List IX) (pass : Option Nat) (K : AV → Env → List AObj → Prop) : acall P (.fn (.func g) first cap) args pass env H K =
  scall P g (first.map AV.unown ++ baseArgs env pass 0 args ++ cap.map AV.unown) H (fun r H' => K r (unslotE env (passSlot args pass)) H') := _root_.id rfl
@[congr] theorem acall_congr {P : Program} {f f' : AV} {args : List IX} {pass : Option Nat} {env : Env} {H : List AObj} {K : AV → Env → List AObj → Prop} (h : nrm f = f') : acall P f args pass env H K = acall P f' args pass env H K := by subst h; rfl
def dcall (P : Program) (st : Bool) (g : FuncId) (xs : List AV) (H : List AObj) (K : AV → Prop) : Prop :=
  ∃ x, (match st with
    | true => ∃ args', LeL xs args' ∧ ACalls P g args' H (fun r H' => r = x ∧ H' = H)
    | false => ∀ H, ∃ args', LeL xs args' ∧ ACalls P g args' H (fun r H' => r = x ∧ H' = H)) ∧ K x
@[congr] theorem dcall_congr {P : Program} {st : Bool} {g : FuncId} {xs xs' : List AV} {H : List AObj} {K : AV → Prop} (h : nrm xs = xs') : dcall P st g xs H K = dcall P st g xs' H K := by subst h; rfl
theorem dcall_pure {P : Program} {st : Bool} {g : FuncId} {xs : List AV} {v : AV} {H : List AObj} {K : AV → Prop} (hc : Pure P g xs v) (hk : K v) : dcall P st g xs H K :=
  ⟨v, (by cases st <;> first | exact ⟨xs, LeL_refl _, hc H⟩ | exact fun H => ⟨xs, LeL_refl _, hc H⟩), hk⟩
theorem dcall_pure' {P : Program} {st : Bool} {g : FuncId} {xs ys : List AV} {v : AV} {H : List AObj} {K : AV → Prop} (hc : Pure P g ys v) (hl : LeL xs ys) (hk : K v) : dcall P st g xs H K :=
  ⟨v, (by cases st <;> first | exact ⟨ys, hl, hc H⟩ | exact fun H => ⟨ys, hl, hc H⟩), hk⟩
def scallD (P : Program) (st : Bool) (f : AV) (xs : List AV) (H : List AObj) (K : AV → Prop) : Prop :=
  match f with
  | .fn (.func g) first cap => dcall P st g (first.map AV.unown ++ xs ++ cap.map AV.unown) H K
  | _ => False
@[congr] theorem scallD_congr {P : Program} {st : Bool} {f f' : AV} {xs xs' : List AV} {H : List AObj} {K : AV → Prop} (h : nrm f = f') (h2 : xs = xs') : scallD P st f xs H K = scallD P st f' xs' H K := by subst h; subst h2; rfl
theorem scallD_fn {P : Program} {st : Bool} (g : FuncId) (first cap xs : List AV) (H : List AObj) (K : AV → Prop) : scallD P st (.fn (.func g) first cap) xs H K = dcall P st g (first.map AV.unown ++ xs ++ cap.map AV.unown) H K := _root_.id rfl

/-! ### Statements whose order is open -/
def alenD (x : AV) (H : List AObj) (φ : AV → Prop) : Prop := match x with | .lst _ xs => φ (.int .i64 xs.length) | x => alen x H φ
@[congr] theorem alenD_congr {x x' : AV} {H : List AObj} {φ : AV → Prop} (h : nrm x = x') : alenD x H φ = alenD x' H φ := by subst h; rfl
theorem alenD_det {x : AV} {H : List AObj} {φ : AV → Prop} (h : alenD x H φ) : ∃ z, alen x H (fun w => w = z) ∧ φ z := by
  cases x with
  | lst o xs => exact ⟨_, fun _ => rfl, h⟩
  | map id =>
    simp only [alenD, alen] at h ⊢
    split at h
    · exact ⟨_, rfl, h⟩
    · exact h.elim
  | _ => first | exact ⟨_, rfl, h⟩ | exact False.elim h
def aeqNilD (kd : Nat) (neq : Bool) (x : AV) (φ : AV → Prop) : Prop := match isNil kd x with | some b => φ (.bool (if neq then !b else b)) | none => False
@[congr] theorem aeqNilD_congr {kd : Nat} {neq : Bool} {x x' : AV} {φ : AV → Prop} (h : nrm x = x') : aeqNilD kd neq x φ = aeqNilD kd neq x' φ := by subst h; rfl
/-- As dval, told forward. -/
def dvalC (o : IOp) (ρ : IX → AV) (H : List AObj) (K : AV → Prop) : Prop :=
  match o with
  | .set i false => K (ρ i).unown
  | .pick c a b => scond (ρ c) (K (ρ a).unown) (K (ρ b).unown)
  | .bin op i j => abin op (ρ i) (ρ j) K
  | .shift op i j => ashift op (ρ i) (ρ j) K
  | .eqBool neq i j => aeqBool neq (ρ i) (ρ j) K
  | .eqNil kd neq i => aeqNilD kd neq (ρ i) K
  | .un op i => aun op (ρ i) K
  | .boxi i => (ρ i).val = true ∧ K (.iptr (ρ i))
  | .build z ps => abuild z.cells (ps.map fun q => (q.1, q.2.1, ρ q.2.2)) K
  | .buildSlice own esz z len ps => abslice (List.replicate len (canon z)) esz (ps.map fun q => (q.1, ρ q.2)) fun xs => K (.lst own xs)
  | .load sz i => aload sz (ρ i) H K
  | .nilCheck i => anilCheck (ρ i) K
  | .fieldAddr off sz i => afieldAddr off sz (ρ i) K
  | .field off sz i => afield off sz (ρ i) K
  | .indexAddr esz i j => (∀ own xs, ρ i = .lst own xs → ∀ z ∈ xs, z.cells.length = esz) ∧ aindexAddr esz (ρ i) (ρ j) K
  | .indexStr i j => aindexStr (ρ i) (ρ j) K
  | .slice esz i lo hi mx => asliceX esz (ρ i) (lo.map ρ) (hi.map ρ) (mx.map ρ) K
  | .sliceStr i lo hi => asliceStr (ρ i) (lo.map ρ) (hi.map ρ) K
  | .len kd i => lenOk kd (ρ i) ∧ alenD (ρ i) H K
  | .lookup kd z m k ok => alookup kd z (ρ m) (ρ k) ok H K
  | .fn f first cap => K (.fn f (first.map fun x => (ρ x).unown) (cap.map fun x => (ρ x).unown))
  | .extract i k => aextract (ρ i) k K
  | .convInt k i => aconvInt k (ρ i) K
  | .mx big i j => amx big (ρ i) (ρ j) K
  | _ => False

theorem dvalC_ex {P : Program} {o : IOp} {ρ : IX → AV} {H : List AObj} {K : AV → Prop} (h : dvalC o ρ H K) : ∃ x, dval P o ρ H x ∧ K x := by
  unfold dvalC at h
  split at h
  · exact ⟨_, rfl, h⟩
  · unfold scond boolP at h
    simp only [dval, boolP]
    split at h
    · rename_i b hb
      cases b with
      | true => exact ⟨_, ⟨fun _ => rfl, fun e => by cases e⟩, h.1 rfl⟩
      | false => exact ⟨_, ⟨fun e => (by cases e), fun _ => rfl⟩, h.2 rfl⟩
    · exact h.elim
  · exact abin_det h
  · exact ashift_det h
  · exact aeqBool_det h
  · unfold aeqNilD at h
    split at h
    · rename_i b hb
      refine ⟨_, ?_, h⟩
      simp only [dval, aeqNil, hb]
    · exact h.elim
  · exact aun_det h
  · exact ⟨_, ⟨h.1, rfl⟩, h.2⟩
  · exact afill_det h
  · exact abslice_det h
  · exact aload_det h
  · exact anilCheck_det h
  · exact afieldAddr_det h
  · exact afield_det h
  · obtain ⟨z, k1, k2⟩ := aindexAddr_det h.2
    exact ⟨z, ⟨h.1, k1⟩, k2⟩
  · exact aindexStr_det h
  · exact asliceX_det h
  · exact asliceStr_det h
  · obtain ⟨z, k1, k2⟩ := alenD_det h.2
    exact ⟨z, ⟨h.1, k1⟩, k2⟩
  · exact alookup_det h
  · exact ⟨_, rfl, h⟩
  · exact aextract_det h
  · exact aconvInt_det h
  · exact amx_det h
  · exact h.elim

theorem dvalC_any {P : Program} {o : IOp} {ρ : IX → AV} {K : AV → Prop} (h : dvalC o ρ [] K) : ∃ x, (∀ H, dval P o ρ H x) ∧ K x := by
  obtain ⟨x, h1, h2⟩ := dvalC_ex (P := P) h
  have hs : o.stays = true := by
    cases o <;> first | rfl | exact h.elim
  exact ⟨x, fun H => by have := dval_grow (e := H) hs h1; simpa using this, h2⟩
def sdv (P : Program) (st : Bool) (o : IOp) (ρ : IX → AV) (H : List AObj) (K : AV → Prop) : Prop :=
  match o with
  | .call f args none => scallD P st (ρ f) (args.map fun x => (ρ x).unown) H K
  | o => dvalC o ρ (match st with | true => H | false => []) K
theorem sdv_ex {P : Program} {st : Bool} {o : IOp} {ρ : IX → AV} {H : List AObj} {K : AV → Prop} (h : sdv P st o ρ H K) : ∃ x, dv P st o ρ H x ∧ K x := by
  unfold sdv at h
  split at h
  · rename_i f args
    unfold scallD at h
    split at h
    · rename_i g first cap e
      obtain ⟨x, h1, h2⟩ := h
      cases st with
      | true => exact ⟨x, by simp only [dv, dval, e]; exact h1, h2⟩
      | false => exact ⟨x, by simp only [dv, dval, e]; exact h1, h2⟩
    · exact h.elim
  · cases st with
    | true => exact dvalC_ex h
    | false => exact dvalC_any h
def stake (P : Program) (st : Bool) (o : IOper) (env : Env) (H : List AObj) (K : Env → Prop) : Prop :=
  match o.g with
  | none => sdv P st o.op (aval env) H fun x => K (put o.dst x env)
  | some (g, want) => sguard (get env g) g want env (fun _ => sdv P st o.op (aval env) H fun x => K (put o.dst x env)) (fun _ => K (put o.dst (.tuple []) env))
theorem stake_atake {P : Program} {st : Bool} {o : IOper} {env : Env} {H : List AObj} {K1 K2 : Env → Prop} (h : stake P st o env H K1) (hK : ∀ e, K1 e → K2 e) : atake P st o env H K2 := by
  unfold stake at h
  unfold atake
  split at h
  · rename_i e
    rw [e]
    obtain ⟨x, h1, h2⟩ := sdv_ex h
    exact ⟨x, h1, hK _ h2⟩
  · rename_i g want e
    rw [e]
    unfold sguard at h
    unfold aguard
    dsimp only
    split at h
    · rename_i b hb
      rw [hb]
      refine ⟨fun eb => ?_, fun eb => hK _ (h.2 eb)⟩
      obtain ⟨x, h1, h2⟩ := sdv_ex (h.1 eb)
      exact ⟨x, h1, hK _ h2⟩
    · rename_i hb
      rw [hb]
      exact hK _ h
    · exact h.elim
theorem aop_mono {P : Program} {o : IOp} {dst : Option Nat} {env : Env} {H : List AObj} {K1 K2 : Env → List AObj → Prop} (h : aop P o dst env H K1) (hK : ∀ e H', K1 e H' → K2 e H') : aop P o dst env H K2 :=
  aop_frame (fun _ _ => rfl) h fun mods H' _ _ _ hk => hK _ _ hk
theorem agd_mono2 {P : Program} {o : IOper} {env : Env} {H : List AObj} {K1 K2 : Env → List AObj → Prop} (h : agd P o env H K1) (hK : ∀ e H', K1 e H' → K2 e H') : agd P o env H K2 := by
  unfold agd at *
  split at h
  · exact aop_mono h hK
  · rename_i g want e
    unfold aguard at *
    split at h
    · exact ⟨fun eb => aop_mono (h.1 eb) hK, fun eb => hK _ _ (h.2 eb)⟩
    · exact hK _ _ h
    · exact h.elim
theorem aops_mono {P : Program} : ∀ {ops : List IOper} {env : Env} {H : List AObj} {K1 K2 : Env → List AObj → Prop}, aops P ops env H K1 → (∀ e H', K1 e H' → K2 e H') → aops P ops env H K2
  | [], _, _, _, _, h, hK => hK _ _ h
  | o :: r, _, _, _, _, h, hK => agd_mono2 h fun _ _ h => aops_mono h hK
def adtS (P : Program) : DT → Env → List AObj → (Env → List AObj → Prop) → Prop
  | .done, env, H, K => K env H
  | .take st o r, env, H, K => stake P st o env H fun env => adtS P r env H K
  | .br o t rest, env, H, K => agd P o env H (fun env H => adtS P t env H K) ∧ adtS P rest env H K
  | .nil, _, _, _ => True
theorem adtS_adt {P : Program} : ∀ {t : DT} {env : Env} {H : List AObj} {K1 K2 : Env → List AObj → Prop}, adtS P t env H K1 → (∀ e H', K1 e H' → K2 e H') → adt P t env H K2
  | .done, _, _, _, _, h, hK => hK _ _ h
  | .take st o r, _, _, _, _, h, hK => stake_atake h fun _ h => adtS_adt h hK
  | .br o t rest, _, _, _, _, h, hK => ⟨agd_mono2 h.1 fun _ _ h => adtS_adt h hK, adtS_adt h.2 hK⟩
  | .nil, _, _, _, _, h, hK => trivial

/-! ### Code -/
def swp (P : Program) (n0 : Nat) : IR → Env → List AObj → (Exit → Env → List AObj → Prop) → Prop
  | .skip, env, H, Q => Q .normal env H
  | .region ops live, env, H, Q => aops P ops env H fun env' H' => Q .normal (prune live env') H'
  | .draw t live, env, H, Q => adtS P t env H fun env' H' => Q .normal (prune live env') H'
  | .seq a b, env, H, Q => swp P n0 a env H fun e env' H' => match e with
    | .normal => swp P n0 b env' H' Q
    | e => Q e env' H'
  | .cond x a b, env, H, Q => scond (aval env x) (swp P n0 a env H Q) (swp P n0 b env H Q)
  | .block id a, env, H, Q => swp P n0 a env H fun e env' H' => match e with
    | .exit id' => if id' = id then Q .normal env' H' else Q (.exit id') env' H'
    | e => Q e env' H'
  | .loop a, env, H, Q => ∃ (ι : Type) (I : ι → Prop) (se : ι → Env) (sh : ι → List AObj) (μ : ι → Nat), (∃ i, I i ∧ sle n0 env H (se i) (sh i)) ∧
      ∀ i, I i → swp P n0 a (se i) (sh i) fun e env' H' => match e with
        | .normal => ∃ j, I j ∧ μ j < μ i ∧ sle n0 env' H' (se j) (sh j)
        | e => Q e env' H'
  | .exit id, env, H, Q => Q (.exit id) env H
  | .ret, env, H, Q => Q .ret env H
  | .never, env, H, Q => False
theorem swp_awp {P : Program} {n0 : Nat} : ∀ {ir : IR} {env : Env} {H : List AObj} {Q1 Q2 : Exit → Env → List AObj → Prop}, swp P n0 ir env H Q1 → (∀ x e H', Q1 x e H' → Q2 x e H') → awp P n0 ir env H Q2 := by
  intro ir
  induction ir with
  | skip => exact fun h hQ => hQ _ _ _ h
  | region ops live => exact fun h hQ => aops_mono h fun _ _ h => hQ _ _ _ h
  | draw t live => exact fun h hQ => adtS_adt h fun _ _ h => hQ _ _ _ h
  | seq a b iha ihb =>
    exact fun h hQ => iha h fun x e H' h => by
      cases x with
      | normal => exact ihb h hQ
      | _ => exact hQ _ _ _ h
  | cond x a b iha ihb =>
    intro env H Q1 Q2 h hQ
    unfold swp scond boolP at h
    unfold awp boolP
    split at h
    · exact ⟨fun e => iha (h.1 e) hQ, fun e => ihb (h.2 e) hQ⟩
    · exact h.elim
  | block id a iha =>
    exact fun h hQ => iha h fun x e H' h => by
      cases x with
      | exit id' =>
        dsimp only at h ⊢
        split
        · rename_i hid; rw [if_pos hid] at h; exact hQ _ _ _ h
        · rename_i hid; rw [if_neg hid] at h; exact hQ _ _ _ h
      | _ => exact hQ _ _ _ h
  | loop a iha =>
    intro env H Q1 Q2 h hQ
    obtain ⟨ι, I, se, sh, μ, h0, hs⟩ := h
    exact ⟨ι, I, se, sh, μ, h0, fun i hi => iha (hs i hi) fun x e H' h => by
      cases x with
      | normal => exact h
      | _ => exact hQ _ _ _ h⟩
  | exit id => exact fun h hQ => hQ _ _ _ h
  | ret => exact fun h hQ => hQ _ _ _ h
  | never => exact fun h _ => h.elim
theorem FunOk.calls {P : Program} {f : FuncId} {fi : FunI} (h : FunOk P f fi) {args : List AV} {H : List AObj} {R : AV → List AObj → Prop} (hn : args.length ≤ fi.n)
    (hw : swp P H.length fi.ir (argEnv 0 args) H fun e env H' => (e = .normal ∨ e = .ret) ∧ aret H.length fi.rs env H' R) : ACalls P f args H R :=
  h.acalls hn (swp_awp hw fun _ _ _ h => h)

section
variable {P : Program} {n0 : Nat} {env : Env} {H : List AObj} {Q : Exit → Env → List AObj → Prop}
theorem swp_skip : swp P n0 .skip env H Q = Q .normal env H := _root_.id rfl
theorem swp_region (ops : List IOper) (live : Option (List Nat)) : swp P n0 (.region ops live) env H Q = aops P ops env H fun env' H' => Q .normal (prune live env') H' := _root_.id rfl
theorem swp_draw (t : DT) (live : Option (List Nat)) : swp P n0 (.draw t live) env H Q = adtS P t env H fun env' H' => Q .normal (prune live env') H' := _root_.id rfl
theorem swp_seq (a b : IR) : swp P n0 (.seq a b) env H Q = swp P n0 a env H fun e env' H' => match e with
    | .normal => swp P n0 b env' H' Q
    | e => Q e env' H' := _root_.id rfl
theorem swp_cond (x : IX) (a b : IR) : swp P n0 (.cond x a b) env H Q = scond (aval env x) (swp P n0 a env H Q) (swp P n0 b env H Q) := _root_.id rfl
theorem swp_block (id : Nat) (a : IR) : swp P n0 (.block id a) env H Q = swp P n0 a env H fun e env' H' => match e with
    | .exit id' => if id' = id then Q .normal env' H' else Q (.exit id') env' H'
    | e => Q e env' H' := _root_.id rfl
theorem swp_exit (id : Nat) : swp P n0 (.exit id) env H Q = Q (.exit id) env H := _root_.id rfl
theorem swp_ret : swp P n0 .ret env H Q = Q .ret env H := _root_.id rfl
@[congr] theorem swp_congr {ir : IR} {env' : Env} {H' : List AObj} (h : nrm env = env') (h2 : H = H') : swp P n0 ir env H Q = swp P n0 ir env' H' Q := by subst h; subst h2; rfl
@[congr] theorem aops_congr {ops : List IOper} {env' : Env} {H' : List AObj} {K : Env → List AObj → Prop} (h : nrm env = env') (h2 : H = H') : aops P ops env H K = aops P ops env' H' K := by subst h; subst h2; rfl
@[congr] theorem adtS_congr {t : DT} {env' : Env} {H' : List AObj} {K : Env → List AObj → Prop} (h : nrm env = env') (h2 : H = H') : adtS P t env H K = adtS P t env' H' K := by subst h; subst h2; rfl
theorem aops_nil (K : Env → List AObj → Prop) : aops P [] env H K = K env H := _root_.id rfl
theorem aops_n (d : Option Nat) (op : IOp) (r : List IOper) (K : Env → List AObj → Prop) : aops P (⟨none, d, op⟩ :: r) env H K = aop P op d env H fun env H => aops P r env H K := _root_.id rfl
theorem aops_g (g : Nat) (w : Bool) (d : Option Nat) (op : IOp) (r : List IOper) (K : Env → List AObj → Prop) : aops P (⟨some (g, w), d, op⟩ :: r) env H K =
  sguard (get env g) g w env (fun env => aop P op d env H fun env H => aops P r env H K) (fun env => aops P r (put d (.tuple []) env) H K) := _root_.id rfl
theorem agd_n (d : Option Nat) (op : IOp) (K : Env → List AObj → Prop) : agd P ⟨none, d, op⟩ env H K = aop P op d env H K := _root_.id rfl
theorem agd_g (g : Nat) (w : Bool) (d : Option Nat) (op : IOp) (K : Env → List AObj → Prop) : agd P ⟨some (g, w), d, op⟩ env H K =
  sguard (get env g) g w env (fun env => aop P op d env H K) (fun env => K (put d (.tuple []) env) H) := _root_.id rfl
@[congr] theorem agd_congr {o : IOper} {K : Env → List AObj → Prop} {H' : List AObj} (h : nrm H = H') : agd P o env H K = agd P o env H' K := by subst h; rfl
@[congr] theorem aop_congr {o : IOp} {d : Option Nat} {K : Env → List AObj → Prop} {H' : List AObj} (h : nrm H = H') : aop P o d env H K = aop P o d env H' K := by subst h; rfl
theorem aop_pick (c a b : IX) (d : Option Nat) (K : Env → List AObj → Prop) : aop P (.pick c a b) d env H K = scond (aval env c) (K (put d (aval env a).unown env) H) (K (put d (aval env b).unown env) H) := _root_.id rfl
theorem adtS_done (K : Env → List AObj → Prop) : adtS P .done env H K = K env H := _root_.id rfl
theorem adtS_nil (K : Env → List AObj → Prop) : adtS P .nil env H K = True := _root_.id rfl
theorem adtS_n (st : Bool) (d : Option Nat) (op : IOp) (r : DT) (K : Env → List AObj → Prop) : adtS P (.take st ⟨none, d, op⟩ r) env H K = sdv P st op (aval env) H fun x => adtS P r (put d x env) H K := _root_.id rfl
theorem adtS_g (st : Bool) (g : Nat) (w : Bool) (d : Option Nat) (op : IOp) (r : DT) (K : Env → List AObj → Prop) : adtS P (.take st ⟨some (g, w), d, op⟩ r) env H K =
  sguard (get env g) g w env (fun _ => sdv P st op (aval env) H fun x => adtS P r (put d x env) H K) (fun _ => adtS P r (put d (.tuple []) env) H K) := _root_.id rfl
theorem adtS_br (o : IOper) (t rest : DT) (K : Env → List AObj → Prop) : adtS P (.br o t rest) env H K = (agd P o env H (fun env H => adtS P t env H K) ∧ adtS P rest env H K) := _root_.id rfl
@[congr] theorem sdv_congr {st : Bool} {o : IOp} {ρ : IX → AV} {K : AV → Prop} {H' : List AObj} (h : nrm H = H') : sdv P st o ρ H K = sdv P st o ρ H' K := by subst h; rfl
/-- A loop over numbers up to N. -/
theorem swp_loop_nat {a : IR} (N : Nat) (I : Nat → Prop) (se : Nat → Env) (sh : Nat → List AObj) (h0 : I 0 ∧ sle n0 env H (se 0) (sh 0))
    (hs : ∀ i, i ≤ N → I i → swp P n0 a (se i) (sh i) fun e env' H' => match e with
      | .normal => ∃ j, (j ≤ N ∧ I j) ∧ N - j < N - i ∧ sle n0 env' H' (se j) (sh j)
      | e => Q e env' H') : swp P n0 (.loop a) env H Q :=
  ⟨Nat, fun i => i ≤ N ∧ I i, se, sh, fun i => N - i, ⟨0, ⟨Nat.zero_le _, h0.1⟩, h0.2⟩, fun i hi => hs i hi.1 hi.2⟩
end

/-! ### What simp need not look into -/
section
variable {φ : AV → Prop}
@[congr] theorem boolP_congr {v v' : AV} {ψ : Bool → Prop} (h : nrm v = v') : boolP v ψ = boolP v' ψ := by subst h; rfl
@[congr] theorem abin_congr {op : BinOp} {x x' y y' : AV} (h : nrm x = x') (h2 : y = y') : abin op x y φ = abin op x' y' φ := by subst h; subst h2; rfl
@[congr] theorem ashift_congr {op : BinOp} {x x' y y' : AV} (h : nrm x = x') (h2 : y = y') : ashift op x y φ = ashift op x' y' φ := by subst h; subst h2; rfl
@[congr] theorem aeqBool_congr {n : Bool} {x x' y y' : AV} (h : nrm x = x') (h2 : y = y') : aeqBool n x y φ = aeqBool n x' y' φ := by subst h; subst h2; rfl
@[congr] theorem aeqNil_congr {k : Nat} {n : Bool} {x x' : AV} (h : nrm x = x') : aeqNil k n x φ = aeqNil k n x' φ := by subst h; rfl
@[congr] theorem aun_congr {op : UnOp} {x x' : AV} (h : nrm x = x') : aun op x φ = aun op x' φ := by subst h; rfl
@[congr] theorem aload_congr {sz : Option Nat} {x x' : AV} {H H' : List AObj} (h : nrm x = x') (h2 : H = H') : aload sz x H φ = aload sz x' H' φ := by subst h; subst h2; rfl
@[congr] theorem afieldAddr_congr {off : Nat} {sz : Option Nat} {x x' : AV} (h : nrm x = x') : afieldAddr off sz x φ = afieldAddr off sz x' φ := by subst h; rfl
@[congr] theorem afield_congr {off : Nat} {sz : Option Nat} {x x' : AV} (h : nrm x = x') : afield off sz x φ = afield off sz x' φ := by subst h; rfl
@[congr] theorem aindexAddr_congr {e : Nat} {x x' y y' : AV} (h : nrm x = x') (h2 : y = y') : aindexAddr e x y φ = aindexAddr e x' y' φ := by subst h; subst h2; rfl
@[congr] theorem aindexStr_congr {x x' y y' : AV} (h : nrm x = x') (h2 : y = y') : aindexStr x y φ = aindexStr x' y' φ := by subst h; subst h2; rfl
@[congr] theorem alen_congr {x x' : AV} {H H' : List AObj} (h : nrm x = x') (h2 : H = H') : alen x H φ = alen x' H' φ := by subst h; subst h2; rfl
@[congr] theorem aextract_congr {x x' : AV} {i : Nat} (h : nrm x = x') : aextract x i φ = aextract x' i φ := by subst h; rfl
@[congr] theorem anilCheck_congr {x x' : AV} (h : nrm x = x') : anilCheck x φ = anilCheck x' φ := by subst h; rfl
@[congr] theorem aconvInt_congr {k : IntKind} {x x' : AV} (h : nrm x = x') : aconvInt k x φ = aconvInt k x' φ := by subst h; rfl
@[congr] theorem amx_congr {b : Bool} {x x' y y' : AV} (h : nrm x = x') (h2 : y = y') : amx b x y φ = amx b x' y' φ := by subst h; subst h2; rfl
@[congr] theorem alookup_congr {kd : Nat} {z m m' k k' : AV} {ok : Bool} {H H' : List AObj} (h : nrm m = m') (h2 : k = k') (h3 : H = H') : alookup kd z m k ok H φ = alookup kd z m' k' ok H' φ := by subst h; subst h2; subst h3; rfl
@[congr] theorem amapset_congr {kd : Nat} {m m' k k' x x' : AV} {H H' : List AObj} {K : List AObj → Prop} (h : nrm m = m') (h2 : k = k') (h3 : x = x') (h4 : H = H') : amapset kd m k x H K = amapset kd m' k' x' H' K := by subst h; subst h2; subst h3; subst h4; rfl
@[congr] theorem astore_congr {m : Nat} {p p' x x' : AV} {H H' : List AObj} {K : List AObj → Prop} (h : nrm p = p') (h2 : x = x') (h3 : H = H') : astore m p x H K = astore m p' x' H' K := by subst h; subst h2; subst h3; rfl
@[congr] theorem aputCell_congr {p p' x x' : AV} {H H' : List AObj} {K : List AObj → Prop} (h : nrm p = p') (h2 : x = x') (h3 : H = H') : aputCell p x H K = aputCell p' x' H' K := by subst h; subst h2; subst h3; rfl
@[congr] theorem aappend_congr {e b : Nat} {s s' x x' : AV} {ψ : List AV → Prop} (h : nrm s = s') (h2 : x = x') : aappend e b s x ψ = aappend e b s' x' ψ := by subst h; subst h2; rfl
@[congr] theorem amkarr_congr {e b : Nat} {z n n' : AV} {H H' : List AObj} {K : AV → List AObj → Prop} (h : nrm n = n') (h2 : H = H') : amkarr e b z n H K = amkarr e b z n' H' K := by subst h; subst h2; rfl
@[congr] theorem amkbuf_congr {e b : Nat} {n n' : AV} (h : nrm n = n') : amkbuf e b n φ = amkbuf e b n' φ := by subst h; rfl
@[congr] theorem acopy_congr {e : Nat} {d d' s s' : AV} {H H' : List AObj} {K : AV → List AObj → Prop} (h : nrm d = d') (h2 : s = s') (h3 : H = H') : acopy e d s H K = acopy e d' s' H' K := by subst h; subst h2; subst h3; rfl
@[congr] theorem asetf_congr {e : Nat} {x x' : AV} {H H' : List AObj} {K : AV → List AObj → Prop} (h : nrm x = x') (h2 : H = H') : asetf e x H K = asetf e x' H' K := by subst h; subst h2; rfl
@[congr] theorem asliceX_congr {e : Nat} {x x' : AV} {lo lo' hi hi' m m' : Option AV} (h : nrm x = x') (h1 : lo = lo') (h2 : hi = hi') (h3 : m = m') : asliceX e x lo hi m φ = asliceX e x' lo' hi' m' φ := by subst h; subst h1; subst h2; subst h3; rfl
@[congr] theorem asliceStr_congr {x x' : AV} {lo lo' hi hi' : Option AV} (h : nrm x = x') (h1 : lo = lo') (h2 : hi = hi') : asliceStr x lo hi φ = asliceStr x lo' hi' φ := by subst h; subst h1; subst h2; rfl
@[congr] theorem aret_congr {n0 : Nat} {rs : List RX} {env env' : Env} {H H' : List AObj} {R : AV → List AObj → Prop} (h : nrm env = env') (h2 : H = H') : aret n0 rs env H R = aret n0 rs env' H' R := by subst h; subst h2; rfl
end
end Go.Abs
