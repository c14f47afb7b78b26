/- A memory-free reading of the model's values (part 4): the operations that only compute or read. -/
import Derived.Test.YtcfmgncmkbiknaaAbs3
import Derived.Laws.Strings
import Derived.Laws.Entries
set_option linter.unusedVariables false
set_option linter.unusedSimpArgs false
namespace Go.Abs
open Go

def AV.val : AV → Bool
  | .any => false
  | .tuple _ => false
  | _ => true

def asplice {α : Type} (zs : List α) (off : Nat) (xs : List α) : List α := zs.take off ++ (xs ++ zs.drop (off + xs.length))

section
variable {M : Mem} {L : List Nat}
theorem Rep.vcells {v : Value} {x : AV} (h : Rep M L v x) (hv : x.val = true) : RepL M L v.cells.toList x.cells := by
  cases h with
  | agg cs xs hr => simpa [Value.cells, AV.cells] using hr
  | any v => simp [AV.val] at hv
  | tuple => simp [AV.val] at hv
  | lst b off c own e cs xs he hx hn hle hc hr hm => exact .one (.lst b off c own e cs xs he hx hn hle hc hr hm)
  | _ => (simp only [Value.cells, AV.cells]; exact .one (by constructor <;> assumption))
theorem RepL.splice {cs : List Value} {xs : List AV} (h : RepL M L cs xs) {zs : List Value} {ys : List AV} (off : Nat) (hz : RepL M L zs ys) : RepL M L (asplice zs off cs) (asplice ys off xs) := by
  unfold asplice
  rw [h.length]
  exact (hz.take off).append (h.append (hz.drop _))
theorem RepL.map_unown : ∀ {vs : List Value} {xs : List AV}, RepL M L vs xs → RepL M L vs (xs.map AV.unown)
  | _, _, .nil => .nil
  | _, _, .cons v x vs xs h t => .cons v _ _ _ h.unown t.map_unown
end
theorem asplice_length {α : Type} (zs : List α) (off : Nat) (xs : List α) (h : off + xs.length ≤ zs.length) : (asplice zs off xs).length = zs.length := by
  unfold asplice; simp; omega

/-! ### What the operations ask -/
def abin (op : BinOp) (x y : AV) (φ : AV → Prop) : Prop :=
  match x, y with
  | .int k a, .int k' b => k = k' ∧
    match op with
    | .add => φ (.int k (k.wrap (a + b)))
    | .sub => φ (.int k (k.wrap (a - b)))
    | .mul => φ (.int k (k.wrap (a * b)))
    | .quo => b ≠ 0 ∧ φ (.int k (k.wrap (a.tdiv b)))
    | .rem => b ≠ 0 ∧ φ (.int k (a.tmod b))
    | .and => φ (.int k (k.wrap (BitVec.ofInt k.bits a &&& BitVec.ofInt k.bits b).toNat))
    | .or => φ (.int k (k.wrap (BitVec.ofInt k.bits a ||| BitVec.ofInt k.bits b).toNat))
    | .xor => φ (.int k (k.wrap (BitVec.ofInt k.bits a ^^^ BitVec.ofInt k.bits b).toNat))
    | .andNot => φ (.int k (k.wrap (BitVec.ofInt k.bits a &&& ~~~ BitVec.ofInt k.bits b).toNat))
    | .eql => φ (.bool (decide (a = b)))
    | .neq => φ (.bool (decide (a ≠ b)))
    | .lss => φ (.bool (decide (a < b)))
    | .leq => φ (.bool (decide (a ≤ b)))
    | .gtr => φ (.bool (decide (b < a)))
    | .geq => φ (.bool (decide (b ≤ a)))
    | _ => False
  | .str a, .str b =>
    match op with
    | .add => a.size + b.size < 9223372036854775808 ∧ φ (.str (a ++ b))
    | .eql => φ (.bool (decide (a = b)))
    | .neq => φ (.bool (decide (a ≠ b)))
    | .lss => φ (.bool (Op.bytesLess a.data.toList b.data.toList))
    | .geq => φ (.bool (!Op.bytesLess a.data.toList b.data.toList))
    | .leq => φ (.bool (!Op.bytesLess b.data.toList a.data.toList))
    | .gtr => φ (.bool (Op.bytesLess b.data.toList a.data.toList))
    | _ => False
  | _, _ => False

/-- Shifts take a count of another kind. -/
def ashift (op : BinOp) (x y : AV) (φ : AV → Prop) : Prop :=
  match x, y with
  | .int k a, .int _ b => 0 ≤ b ∧
    match op with
    | .shl => φ (.int k (k.wrap (a * 2 ^ (min b.toNat k.bits))))
    | .shr => φ (.int k (a.fdiv (2 ^ (min b.toNat k.bits))))
    | _ => False
  | _, _ => False

def aeqBool (neq : Bool) (x y : AV) (φ : AV → Prop) : Prop :=
  match x, y with
  | .bool a, .bool b => φ (.bool (if neq then decide (a ≠ b) else decide (a = b)))
  | _, _ => False

/-- Is it nil? (0: a slice; 1: a pointer; 2: a map; 3: a function) -/
def isNil (kd : Nat) (x : AV) : Option Bool :=
  match kd, x with
  | 0, .nils => some true
  | 0, .lst _ (_ :: _) => some false
  | 0, .arr _ _ _ _ => some false
  | 1, .nilp => some true
  | 1, .ptr _ _ => some false
  | 1, .iptr _ => some false
  | 2, .nilm => some true
  | 2, .map _ => some false
  | 3, .nilf => some true
  | 3, .fn _ _ _ => some false
  | _, _ => none
def aeqNil (kd : Nat) (neq : Bool) (x : AV) (φ : AV → Prop) : Prop :=
  match isNil kd x with
  | some b => φ (.bool (if neq then !b else b))
  | none => match kd, x with
    | 0, .lst _ [] => φ (.bool true) ∧ φ (.bool false)
    | _, _ => False

def aun (op : UnOp) (x : AV) (φ : AV → Prop) : Prop :=
  match op, x with
  | .not, .bool b => φ (.bool (!b))
  | .neg, .int k n => φ (.int k (k.wrap (0 - n)))
  | _, _ => False

def afill (zs : List AV) : List (Nat × Nat × AV) → (List AV → Prop) → Prop
  | [], φ => φ zs
  | (off, sz, x) :: r, φ => x.val = true ∧ x.cells.length = sz ∧ off + sz ≤ zs.length ∧ afill (asplice zs off (x.cells.map AV.unown)) r φ

def aload (sz : Option Nat) (x : AV) (H : List AObj) (φ : AV → Prop) : Prop :=
  match x with
  | .ptr id off => match H[id]? with
    | some (.cells es) => match sz with
      | some m => off + m ≤ es.length ∧ φ (.agg (((es.drop off).take m).map AV.drop))
      | none => off < es.length ∧ φ (es.getD off .any).unown
    | _ => False
  | .iptr y => match sz with
    | some m => y.cells.length = m ∧ φ (.agg y.cells)
    | none => y.one = true ∧ φ y.unown
  | _ => False

/-- The part of an aggregate's cells. -/
def apart (off : Nat) (sz : Option Nat) (xs : List AV) (φ : AV → Prop) : Prop :=
  match sz with
  | some m => off + m ≤ xs.length ∧ φ (.agg ((xs.drop off).take m))
  | none => off < xs.length ∧ (xs.getD off .any).one = true ∧ φ (xs.getD off .any)

def afieldAddr (off : Nat) (sz : Option Nat) (x : AV) (φ : AV → Prop) : Prop :=
  match x with
  | .ptr id o => φ (.ptr id (o + off))
  | .iptr y => apart off sz y.cells fun z => φ (.iptr z)
  | _ => False

def afield (off : Nat) (sz : Option Nat) (x : AV) (φ : AV → Prop) : Prop :=
  match x with
  | .agg xs => apart off sz xs fun z => φ z.drop
  | _ => False

def aindexAddr (esz : Nat) (x i : AV) (φ : AV → Prop) : Prop :=
  match x, i with
  | .lst _ xs, .int _ i => 0 ≤ i ∧ i.toNat < xs.length ∧ φ (.iptr (xs.getD i.toNat .any))
  | .arr id off len _, .int _ i => 0 ≤ i ∧ i.toNat < len ∧ φ (.ptr id (off + i.toNat * esz))
  | _, _ => False

def aindexStr (x i : AV) (φ : AV → Prop) : Prop :=
  match x, i with
  | .str s, .int _ i => 0 ≤ i ∧ i.toNat < s.size ∧ φ (.int .u8 (s.data.toList.getD i.toNat 0).toNat)
  | _, _ => False

def alen (x : AV) (H : List AObj) (φ : AV → Prop) : Prop :=
  match x with
  | .str s => φ (.int .i64 s.size)
  | .nils => φ (.int .i64 0)
  | .lst _ xs => xs.length < 9223372036854775808 → φ (.int .i64 xs.length)
  | .arr _ _ len _ => φ (.int .i64 len)
  | .nilm => φ (.int .i64 0)
  | .map id => match H[id]? with
    | some (.map es) => φ (.int .i64 es.length)
    | _ => False
  | _ => False

def aextract (x : AV) (i : Nat) (φ : AV → Prop) : Prop :=
  match x with
  | .tuple xs => i < xs.length ∧ φ (xs.getD i .any).unown
  | _ => False

def anilCheck (x : AV) (φ : AV → Prop) : Prop :=
  match x with
  | .ptr .. | .iptr _ => φ x
  | .fn (.func _) _ _ => φ x
  | _ => False

def aconvInt (k : IntKind) (x : AV) (φ : AV → Prop) : Prop :=
  match x with
  | .int _ n => φ (.int k (k.wrap n))
  | _ => False

def amx (big : Bool) (x y : AV) (φ : AV → Prop) : Prop :=
  match x, y with
  | .int k a, .int _ b => φ (.int k (if big then (if b > a then b else a) else (if b < a then b else a)))
  | _, _ => False

/-! ### They are right -/
section
variable {P : Program} {w : World} {M : Mem} {L : List Nat} {H : List AObj}

theorem bytesLess_irrefl : ∀ l : List UInt8, Op.bytesLess l l = false
  | [] => rfl
  | a :: l => by simp [Op.bytesLess, bytesLess_irrefl l]
theorem bytesLess_or : ∀ x y : List UInt8, (Op.bytesLess x y || x == y) = !Op.bytesLess y x
  | [], [] => rfl
  | [], b :: y => by simp [Op.bytesLess]
  | a :: x, [] => by simp [Op.bytesLess]
  | a :: x, b :: y => by
    have ih := bytesLess_or x y
    simp only [Op.bytesLess, List.cons_beq_cons]
    rcases Nat.lt_trichotomy a.toNat b.toNat with h | h | h
    · have h1 : a < b := UInt8.lt_iff_toNat_lt.2 h
      have h2 : ¬ b < a := fun h' => by have := UInt8.lt_iff_toNat_lt.1 h'; omega
      have h3 : (b == a) = false := by
        rw [beq_eq_false_iff_ne]; rintro rfl; omega
      simp [h1, h2, h3]
    · have h0 : a = b := UInt8.toNat_inj.1 h
      subst h0
      simp [ih]
    · have h1 : b < a := UInt8.lt_iff_toNat_lt.2 h
      have h2 : ¬ a < b := fun h' => by have := UInt8.lt_iff_toNat_lt.1 h'; omega
      have h3 : (a == b) = false := by
        rw [beq_eq_false_iff_ne]; rintro rfl; omega
      simp [h1, h2, h3]

theorem bytes_eq (a b : ByteArray) : (a.toList == b.toList) = decide (a = b) := by
  rw [ByteArray.toList_eq, ByteArray.toList_eq]
  by_cases e : a = b
  · subst e; simp
  · have h0 : ¬ a.data.toList = b.data.toList := fun h => e (by cases a; cases b; simp_all [Array.toList_inj])
    rw [show (a.data.toList == b.data.toList) = false from beq_eq_false_iff_ne.2 h0]
    simp [e]
theorem dec_beq {α : Type} [DecidableEq α] (a b : α) : (a == b) = decide (a = b) := by
  by_cases h : a = b <;> simp [h]

theorem abin_run {op : BinOp} {t : TypeId} {u v : Value} {x y : AV} {φ : AV → Prop} (h : abin op x y φ) (hu : Rep M L u x) (hv : Rep M L v y) (X Y : Operand) :
    ∃ r z, (do eqGuard op t X Y u v; binOp op t u v : Sem Value).run P w = .ok r w ∧ Rep M L r z ∧ φ z ∧ ∀ own xs, z = .lst own xs → own = 0 := by
  have guard_int : ∀ (k k' : IntKind) (a b : Int), (eqGuard op t X Y (.int k a) (.int k' b)).run P w = .ok () w := by
    intro k k' a b; unfold eqGuard; cases op <;> rfl
  have guard_str : ∀ (a b : ByteArray), (eqGuard op t X Y (.string a) (.string b)).run P w = .ok () w := by
    intro a b; unfold eqGuard; cases op <;> rfl
  unfold abin at h
  split at h
  · rename_i k a k' b
    cases hu; cases hv
    obtain ⟨rfl, h⟩ := h
    simp only [Sem.run_bind, guard_int, Result.andThen_ok]
    cases op <;> simp only at h <;> first
      | exact h.elim
      | exact ⟨_, _, rfl, .int _ _, h, by intro _ _ e; cases e⟩
      | (obtain ⟨h0, h⟩ := h
         refine ⟨_, _, ?_, .int _ _, h, by intro _ _ e; cases e⟩
         simp [binOp, Op.intDiv, h0]; done)
      | skip
    all_goals first
      | (refine ⟨_, _, ?_, .int _ _, h, by intro _ _ e; cases e⟩
         simp [binOp, Op.intArith, Op.intBits]; done)
      | (refine ⟨_, _, ?_, .bool _, h, by intro _ _ e; cases e⟩
         simp [binOp, Op.intCmp]; done)
      | skip
    all_goals
      refine ⟨_, _, ?_, .bool _, h, by intro _ _ e; cases e⟩
      simp [binOp, Op.intCmp, bne, dec_beq]
  · rename_i a b
    cases hu; cases hv
    simp only [Sem.run_bind, guard_str, Result.andThen_ok]
    cases op <;> simp only at h <;> first
      | exact h.elim
      | skip
    · obtain ⟨h0, h⟩ := h
      refine ⟨_, _, ?_, .str _, h, by intro _ _ e; cases e⟩
      have : ¬ ((a.size + b.size : Nat) : Int) > IntKind.i64.max := by
        have : IntKind.i64.max = 9223372036854775807 := rfl
        rw [this]; omega
      simp only [binOp, Op.stringOp, this, if_false, Sem.run_pure]
    · exact ⟨_, _, rfl, .bool _, by rw [bytes_eq]; exact h, by intro _ _ e; cases e⟩
    · exact ⟨_, _, rfl, .bool _, by rw [bytes_eq]; simpa using h, by intro _ _ e; cases e⟩
    · exact ⟨_, _, rfl, .bool _, by rw [ByteArray.toList_eq, ByteArray.toList_eq]; exact h, by intro _ _ e; cases e⟩
    · exact ⟨_, _, rfl, .bool _, by rw [ByteArray.toList_eq, ByteArray.toList_eq, bytesLess_or]; exact h, by intro _ _ e; cases e⟩
    · exact ⟨_, _, rfl, .bool _, by rw [ByteArray.toList_eq, ByteArray.toList_eq, bytesLess_or, Bool.not_not]; exact h, by intro _ _ e; cases e⟩
    · exact ⟨_, _, rfl, .bool _, by rw [ByteArray.toList_eq, ByteArray.toList_eq]; exact h, by intro _ _ e; cases e⟩
  · exact h.elim

theorem ashift_run {op : BinOp} {t : TypeId} {u v : Value} {x y : AV} {φ : AV → Prop} (h : ashift op x y φ) (hu : Rep M L u x) (hv : Rep M L v y) (X Y : Operand) :
    ∃ r z, (do eqGuard op t X Y u v; binOp op t u v : Sem Value).run P w = .ok r w ∧ Rep M L r z ∧ φ z ∧ ∀ own xs, z = .lst own xs → own = 0 := by
  unfold ashift at h
  split at h
  · rename_i k a k' b
    cases hu; cases hv
    obtain ⟨h0, h⟩ := h
    have guard_int : (eqGuard op t X Y (.int k a) (.int k' b)).run P w = .ok () w := by
      unfold eqGuard; cases op <;> rfl
    simp only [Sem.run_bind, guard_int, Result.andThen_ok]
    have hn : ¬ b < 0 := by omega
    cases op <;> simp only at h <;> first
      | exact h.elim
      | (refine ⟨_, _, ?_, .int _ _, h, by intro _ _ e; cases e⟩
         simp [binOp, Op.shift, hn]; done)
  · exact h.elim

theorem run_equalIn_bool (d : Nat) {t : TypeId} (ht : P.underlying t = some .bool) (a b : Bool) : (Op.equalIn (d + 1) t (.bool a) (.bool b)).run P w = .ok (a == b) w := by
  simp only [Op.equalIn, Sem.run_bind, run_underlying ht, Result.andThen_ok, Sem.run_pure]
theorem run_equal_bool {t : TypeId} (ht : P.underlying t = some .bool) (a b : Bool) : (Op.equal t (.bool a) (.bool b)).run P w = .ok (a == b) w := run_equalIn_bool 9999 ht a b

theorem aeqBool_run {neq : Bool} {t : TypeId} (ht : P.underlying t = some .bool) {u v : Value} {x y : AV} {φ : AV → Prop} (h : aeqBool neq x y φ) (hu : Rep M L u x) (hv : Rep M L v y) (X Y : Operand) :
    ∃ r z, (do eqGuard (if neq then .neq else .eql) t X Y u v; binOp (if neq then .neq else .eql) t u v : Sem Value).run P w = .ok r w ∧ Rep M L r z ∧ φ z ∧ ∀ own xs, z = .lst own xs → own = 0 := by
  unfold aeqBool at h
  split at h
  · rename_i a b
    cases hu; cases hv
    cases neq
    · refine ⟨_, .bool (a == b), ?_, .bool (a == b), ?_, by intro _ _ e; cases e⟩
      · simp only [Bool.false_eq_true, if_false, Sem.run_bind, eqGuard, Sem.run_pure, Result.andThen_ok, binOp, run_equal_bool ht]; rfl
      · rw [dec_beq]; exact h
    · refine ⟨_, .bool (!(a == b)), ?_, .bool (!(a == b)), ?_, by intro _ _ e; cases e⟩
      · simp only [if_true, Sem.run_bind, eqGuard, Sem.run_pure, Result.andThen_ok, binOp, run_equal_bool ht]; rfl
      · rw [dec_beq]; simpa using h
  · exact h.elim

theorem aun_run {op : UnOp} {u : Value} {x : AV} {φ : AV → Prop} (h : aun op x φ) (hu : Rep M L u x) :
    ∃ r z, (Op.unary op u).run P w = .ok r w ∧ Rep M L r z ∧ φ z ∧ ∀ own xs, z = .lst own xs → own = 0 := by
  unfold aun at h
  split at h
  · cases hu; exact ⟨_, _, rfl, .bool _, h, by intro _ _ e; cases e⟩
  · cases hu; exact ⟨_, _, rfl, .int _ _, h, by intro _ _ e; cases e⟩
  · exact h.elim

theorem row_cells {cs : List Value} {b off : Nat} (hm : M.row b off cs) (hmem : ∀ b o v, M b o = some v → w.cell? ⟨b, o, none⟩ = some v) :
    ∀ j v, cs[j]? = some v → w.cell? ((⟨b, off, none⟩ : Addr).add j) = some v := by
  intro j v hv
  rw [Addr.add_lit]
  exact hmem _ _ _ (hm j v hv)

theorem run_isAgg_false {t : TypeId} {m : Nat} (h : tsz P t = some none) : (isAgg t).run P w = .ok false w ∧ (P.info? t).map (·.size) = some 1 := by
  unfold tsz at h
  split at h <;> try cases h
  rename_i i d h1 h2 hi hd
  split at h
  · rename_i h3
    refine ⟨?_, by simp [hi, h3]⟩
    simp only [isAgg, Sem.run_bind, run_underlying hd, Result.andThen_ok]
    cases d <;> first | rfl | (exact absurd rfl (h1 _)) | (exact absurd rfl (h2 _ _))
  · cases h
theorem run_isAgg_true {t : TypeId} {m : Nat} (h : tsz P t = some (some m)) : (isAgg t).run P w = .ok true w ∧ (sizeOf t).run P w = .ok m w := by
  unfold tsz at h
  split at h <;> try cases h
  · rename_i i f hi hd
    refine ⟨?_, ?_⟩
    · simp only [isAgg, Sem.run_bind, run_underlying hd, Result.andThen_ok]; rfl
    · simp [sizeOf, typeInfo, hi]
  · rename_i i l e hi hd
    refine ⟨?_, ?_⟩
    · simp only [isAgg, Sem.run_bind, run_underlying hd, Result.andThen_ok]; rfl
    · simp [sizeOf, typeInfo, hi]
  · split at h <;> cases h
end
end Go.Abs
