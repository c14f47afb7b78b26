/- Trees, and what the operations do with them. -/
import Derived.Test.YtcfmgncmkbiknaaAbse
set_option maxRecDepth 100000
set_option linter.unusedSimpArgs false
set_option linter.defProp false
namespace Go.Abs
open Go

inductive T where
  | mk (k n : Int) (l : List T)
  deriving Inhabited
mutual
def T.av : T → AV
  | .mk k n l => .agg [.int .i64 k, .int .i64 n, .lst 0 (avs l)]
def avs : List T → List AV
  | [] => []
  | x :: r => x.av :: avs r
end
def T.k : T → Int | .mk k _ _ => k
def T.n : T → Int | .mk _ n _ => n
def T.l : T → List T | .mk _ _ l => l
theorem T.av_eq (x : T) : x.av = .agg [.int .i64 x.k, .int .i64 x.n, .lst 0 (avs x.l)] := by cases x; rfl
theorem avs_map : ∀ l, avs l = l.map T.av
  | [] => rfl
  | x :: r => by simp [avs, avs_map r]
theorem avs_len (l : List T) : (avs l).length = l.length := by simp [avs_map]
theorem avs_getD (l : List T) (i : Nat) (h : i < l.length) : (avs l).getD i .any = (l.getD i default).av := by
  simp [avs_map, h]
mutual
theorem T.av_blw (n : Nat) : ∀ x : T, x.av.blw n = true
  | .mk k m l => by simp [T.av, AV.blw, belowL, avs_blw n l]
theorem avs_blw (n : Nat) : ∀ l : List T, belowL n (avs l) = true
  | [] => rfl
  | x :: r => by simp [avs, belowL, T.av_blw n x, avs_blw n r]
end
theorem T.av_cells (x : T) : x.av.cells = [.int .i64 x.k, .int .i64 x.n, .lst 0 (avs x.l)] := by cases x; rfl
theorem T.agg_cells (x : T) : AV.agg x.av.cells = x.av := by cases x; rfl
theorem T.av_val (x : T) : x.av.val = true := by cases x; rfl
theorem T.av_one (x : T) : x.av.cells.all AV.one = true := by cases x; rfl
theorem T.av_unown (x : T) : x.av.unown = x.av := by cases x; rfl
theorem T.av_drop (x : T) : x.av.drop = x.av := by cases x; rfl
theorem T.cells_unown (x : T) : x.av.cells.map AV.unown = x.av.cells := by cases x; rfl
theorem T.cells_drop (x : T) : x.av.cells.map AV.drop = x.av.cells := by cases x; rfl
theorem T.av_clen (x : T) : x.av.cells.length = 3 := by cases x; rfl

theorem lens_avs (o : Nat) (l : List T) : (∀ (own : Nat) (xs : List AV), AV.lst o (avs l) = AV.lst own xs → ∀ z ∈ xs, z.cells.length = 3) = True := by
  simp only [eq_iff_iff, iff_true]
  intro own xs e z hz
  cases e
  rw [avs_map] at hz
  obtain ⟨y, _, rfl⟩ := List.mem_map.1 hz
  exact y.av_clen
theorem idx_avs (e o : Nat) (l : List T) (k : IntKind) (i : Nat) (φ : AV → Prop) : aindexAddr e (.lst o (avs l)) (.int k (i : Int)) φ = (i < l.length ∧ φ (.iptr (l.getD i default).av)) := by
  simp only [aindexAddr, avs_len, Int.toNat_natCast, eq_iff_iff]
  constructor
  · rintro ⟨_, h, h2⟩; rw [avs_getD _ _ h] at h2; exact ⟨h, h2⟩
  · rintro ⟨h, h2⟩; rw [avs_getD _ _ h]; exact ⟨by omega, h, h2⟩
theorem load_iptr_T (x : T) (H : List AObj) (φ : AV → Prop) : aload (some 3) (.iptr x.av) H φ = φ x.av := by
  simp [aload, T.av_clen, T.agg_cells]
theorem load_ptr_T {H : List AObj} {id : Nat} {x : T} (h : H[id]? = some (.cells x.av.cells)) (φ : AV → Prop) : aload (some 3) (.ptr id 0) H φ = φ x.av := by
  simp only [aload, h]
  have e : List.map AV.drop (List.take 3 (List.drop 0 x.av.cells)) = x.av.cells := by cases x; rfl
  rw [e, T.agg_cells]
  simp [T.av_clen]
/-- A new variable of this type and its value. -/
theorem store_new_T (H : List AObj) (a : List AV) (ha : a.length = 3) (x : T) (K : List AObj → Prop) : astore 3 (.ptr H.length 0) x.av (H ++ [.cells a]) K = K (H ++ [.cells x.av.cells]) := by
  have e : asplice a 0 x.av.cells = x.av.cells := by
    simp [asplice, T.av_clen, ha]
  simp only [astore, List.getElem?_append_right (Nat.le_refl _), Nat.sub_self, List.getElem?_cons_zero, T.av_val, T.av_clen, T.av_one, T.cells_unown, ha, e]
  have : belowL (H.length + 1) x.av.cells = true := belowL_cells (x.av_blw _)
  simp [this, List.set_append_right _ _ (Nat.le_refl H.length)]
theorem store_zero_T (H : List AObj) (x : T) (K : List AObj → Prop) : astore 3 (.ptr H.length 0) x.av (H ++ [.cells [.int .i64 0, .int .i64 0, .nils]]) K = K (H ++ [.cells x.av.cells]) := store_new_T H _ rfl x K
theorem load_new_T (H : List AObj) (x : T) (φ : AV → Prop) : aload (some 3) (.ptr H.length 0) (H ++ [.cells x.av.cells]) φ = φ x.av := load_ptr_T (gt_new H _) φ
theorem sp_T (a b c : AV) (x : T) : asplice [a, b, c] 0 x.av.cells = x.av.cells := by simp [asplice, T.av_clen]
theorem bl_T (n : Nat) (x : T) : belowL n x.av.cells = true := belowL_cells (x.av_blw _)
theorem loadC_T (x : T) (φ : AV → Prop) : loadC (some (.cells x.av.cells)) (some 3) 0 φ = φ x.av := by
  have e : List.map AV.drop (List.take 3 (List.drop 0 x.av.cells)) = x.av.cells := by cases x; rfl
  simp only [loadC, e, T.agg_cells]
  simp [T.av_clen]
theorem fk (x : T) (φ : AV → Prop) : afieldAddr 0 none (.iptr x.av) φ = φ (.iptr (.int .i64 x.k)) := by
  cases x; simp [afieldAddr, apart, T.av, AV.cells, T.k, AV.one]
theorem fn_ (x : T) (φ : AV → Prop) : afieldAddr 1 none (.iptr x.av) φ = φ (.iptr (.int .i64 x.n)) := by
  cases x; simp [afieldAddr, apart, T.av, AV.cells, T.n, AV.one]
theorem fl (x : T) (φ : AV → Prop) : afieldAddr 2 none (.iptr x.av) φ = φ (.iptr (.lst 0 (avs x.l))) := by
  cases x; simp [afieldAddr, apart, T.av, AV.cells, T.l, AV.one]


/-! ### Lists of numbers -/
def ints (l : List Int) : List AV := l.map (AV.int .i64)
theorem ints_len (l : List Int) : (ints l).length = l.length := by simp [ints]
theorem ints_blw (n : Nat) (l : List Int) : belowL n (ints l) = true := by
  rw [belowL_iff]; intro x hx; obtain ⟨y, _, rfl⟩ := List.mem_map.1 hx; rfl
theorem lens_ints (o : Nat) (l : List Int) : (∀ (own : Nat) (xs : List AV), AV.lst o (ints l) = AV.lst own xs → ∀ z ∈ xs, z.cells.length = 1) = True := by
  simp only [eq_iff_iff, iff_true]
  intro own xs e z hz
  cases e
  obtain ⟨y, _, rfl⟩ := List.mem_map.1 hz
  rfl
theorem idx_ints (e o : Nat) (l : List Int) (k : IntKind) (i : Nat) (φ : AV → Prop) : aindexAddr e (.lst o (ints l)) (.int k (i : Int)) φ = (i < l.length ∧ φ (.iptr (.int .i64 (l.getD i 0)))) := by
  simp only [aindexAddr, ints_len, Int.toNat_natCast, eq_iff_iff]
  constructor
  · rintro ⟨_, h, h2⟩; refine ⟨h, ?_⟩; simpa [ints, h] using h2
  · rintro ⟨h, h2⟩; refine ⟨by omega, h, ?_⟩; simpa [ints, h] using h2
theorem ints_snoc (l : List Int) (n : Int) : ints l ++ [.int .i64 n] = ints (l ++ [n]) := by simp [ints]
theorem ok_int (k : IntKind) (n : Int) : okE 1 [.int k n] = True := by simp [okE, AV.cells, AV.one]
theorem ok_ints (l : List Int) : okE 1 (ints l) = True := by
  simp only [okE, eq_iff_iff, iff_true]
  intro y hy
  obtain ⟨z, _, rfl⟩ := List.mem_map.1 hy
  exact ⟨rfl, rfl⟩
theorem ok_T (x : T) : okE 3 [x.av] = True := by
  simp only [okE, eq_iff_iff, iff_true]
  intro y hy
  rw [List.mem_singleton] at hy
  subst hy
  exact ⟨x.av_clen, x.av_one⟩
theorem cn_int (k : IntKind) (n : Int) : canon (.int k n) = .int k n := _root_.id rfl
theorem cn_T (x : T) : canon x.av = x.av := by cases x; rfl
theorem bs0 (z : AV) (esz : Nat) (φ : List AV → Prop) : abslice (List.replicate 0 z) esz [] φ = φ [] := _root_.id rfl
theorem bs1 (z x : AV) (esz : Nat) (φ : List AV → Prop) : abslice (List.replicate 1 (canon z)) esz [(0, x)] φ = (x.val = true ∧ x.cells.length = esz ∧ φ [canon x]) := by
  simp [abslice]
theorem bs2 (z x y : AV) (esz : Nat) (φ : List AV → Prop) : abslice (List.replicate 2 (canon z)) esz [(0, x), (1, y)] φ = (x.val = true ∧ x.cells.length = esz ∧ y.val = true ∧ y.cells.length = esz ∧ φ [canon x, canon y]) := by
  simp [abslice, List.replicate]
theorem bs3 (z x y u : AV) (esz : Nat) (φ : List AV → Prop) : abslice (List.replicate 3 (canon z)) esz [(0, x), (1, y), (2, u)] φ = (x.val = true ∧ x.cells.length = esz ∧ y.val = true ∧ y.cells.length = esz ∧ u.val = true ∧ u.cells.length = esz ∧ φ [canon x, canon y, canon u]) := by
  simp [abslice, List.replicate]
@[congr] theorem abslice_congr {xs : List AV} {esz : Nat} {ps ps' : List (Nat × AV)} {φ : List AV → Prop} (h : nrm ps = ps') : abslice xs esz ps φ = abslice xs esz ps' φ := by subst h; rfl

/-- Plain laws, for simp. -/
def stepsN := (And.intro (And.intro (And.intro (And.intro @or_true @true_or) (And.intro @true_and @and_true)) (And.intro (And.intro @true_implies @Bool.true_and) (And.intro @Bool.and_true (And.intro @Bool.not_true @Bool.not_false)))) (And.intro (And.intro (And.intro @decide_true @decide_false) (And.intro @Classical.not_not @not_true_eq_false)) (And.intro (And.intro @not_false_eq_true @false_implies) (And.intro @Int.not_le (And.intro @Int.not_lt @Nat.le_refl)))))
/-- What the operations do with trees and lists of numbers, for simp. -/
def stepsT := (And.intro (And.intro (And.intro (And.intro (And.intro @avs_len @T.av_blw) (And.intro @avs_blw @T.av_val)) (And.intro (And.intro @T.av_one @T.av_unown) (And.intro @T.av_drop @T.cells_unown))) (And.intro (And.intro (And.intro @T.cells_drop @T.av_clen) (And.intro @T.agg_cells @lens_avs)) (And.intro (And.intro @idx_avs @load_iptr_T) (And.intro @sp_T (And.intro @bl_T @loadC_T))))) (And.intro (And.intro (And.intro (And.intro @fk @fn_) (And.intro @fl @ints_len)) (And.intro (And.intro @ints_blw @lens_ints) (And.intro @idx_ints @ints_snoc))) (And.intro (And.intro (And.intro @ok_int @ok_T) (And.intro @ok_ints @cn_int)) (And.intro (And.intro @cn_T @bs0) (And.intro @bs1 (And.intro @bs2 @bs3))))))
end Go.Abs
