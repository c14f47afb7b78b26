/- Part 8 of 11 of the proof. -/
import Derived.Test.YtcfmgncmkbiknaaGreatPag
import Derived.Test.YtcfmgncmkbiknaaGreatPae
import Derived.KernelRfl
import Derived.SizedLaws
section
open Go Go.Proofs Go.Abs
namespace Go.Abs
theorem clone88 (o : Nat) (xs : List AV) (H : List AObj) (h1 : okE 1 xs) (hb : xs.length * 8 ≤ 140737488355328) (hbl : belowL H.length xs = true) :
    ACalls Tryz.prog 88 [.lst o xs] H fun r H' => r = .lst 1 xs ∧ H' = H := by
  refine ok88.acalls (by simp [fi88]) ?_
  simp only [fi88, ir88, awp, aops, agd, aop, put, get, aval, prune, setE, argEnv, AV.unown, List.map, Nat.reduceEqDiff, reduceIte, aret, ares]
  have hfin : ∀ (x : AV) , x.le (.lst 1 xs) → ∃ m, H.length ≤ m ∧ ∃ r, x.le r ∧ r.blw m = true ∧ r = AV.lst 1 xs ∧ List.take m H = H :=
    fun x hx => ⟨H.length, Nat.le_refl _, _, hx, by simpa [AV.blw] using hbl, rfl, by simp⟩
  cases xs with
  | nil =>
    simp only [aeqNil, isNil, boolP, abslice, aappend, alist, rlist, List.replicate]
    exact ⟨⟨fun _ => ⟨.inr trivial, hfin _ (.inr (.inr (.inr (.inl ⟨rfl, 1, rfl⟩))))⟩, by simp⟩, by simp, fun _ => ⟨by simp, by simp [okE], .inr trivial, hfin _ (.inl rfl)⟩⟩
  | cons x xs =>
    simp only [aeqNil, isNil, boolP, abslice, aappend, alist, rlist, List.replicate]
    exact ⟨by simp, fun _ => ⟨by simpa using hb, h1, .inr trivial, hfin _ (.inl rfl)⟩⟩
theorem clone88n (H : List AObj) : ACalls Tryz.prog 88 [.nils] H fun r H' => r = .lst 1 [] ∧ H' = H := by
  refine ok88.acalls (by simp [fi88]) ?_
  simp only [fi88, ir88, awp, aops, agd, aop, put, get, aval, prune, setE, argEnv, AV.unown, List.map, Nat.reduceEqDiff, reduceIte, aret, ares]
  simp only [aeqNil, isNil, boolP]
  exact ⟨fun _ => ⟨.inr trivial, H.length, Nat.le_refl _, _, .inr (.inr (.inr (.inl ⟨rfl, 1, rfl⟩))), rfl, rfl, by simp⟩, by simp⟩
def clone1P : List AV → Option AV
  | [.lst _ xs] => if (xs.all fun y => y.cells.length == 1 && y.cells.all AV.one) = true ∧ xs.length * 8 ≤ 140737488355328 ∧ belowL 0 xs = true then some (.lst 1 xs) else none
  | [.nils] => some (.lst 1 [])
  | _ => none
theorem belowL_mono0 {xs : List AV} (h : belowL 0 xs = true) (k : Nat) : belowL k xs = true := belowL_mono (Nat.zero_le _) xs h
theorem clone88_ok : EntOk Tryz.prog 88 (.prim clone1P) := by
  intro args r H h
  unfold clone1P at h
  split at h <;> try cases h
  rotate_left
  · exact clone88n H
  split at h <;> cases h
  rename_i hc
  refine clone88 _ _ _ ?_ hc.2.1 (belowL_mono0 hc.2.2 _)
  intro y hy
  have := List.all_eq_true.1 hc.1 y hy
  simpa using this
end Go.Abs
end
section
/- Trees, and what the operations do with them. -/
set_option maxRecDepth 100000
set_option linter.unusedSimpArgs false
set_option linter.defProp false
namespace Go.Abs
open Go

inductive T where
  | mk (k n : Int) (l : List T)
  deriving Inhabited
mutual
def T.av : T → AV
  | .mk k n l => .agg [.int .i64 k, .int .i64 n, .lst 0 (avs l)]
def avs : List T → List AV
  | [] => []
  | x :: r => x.av :: avs r
end
def T.k : T → Int | .mk k _ _ => k
def T.n : T → Int | .mk _ n _ => n
def T.l : T → List T | .mk _ _ l => l
theorem T.av_eq (x : T) : x.av = .agg [.int .i64 x.k, .int .i64 x.n, .lst 0 (avs x.l)] := by cases x; rfl
theorem avs_map : ∀ l, avs l = l.map T.av
  | [] => rfl
  | x :: r => by simp [avs, avs_map r]
theorem avs_len (l : List T) : (avs l).length = l.length := by simp [avs_map]
theorem avs_getD (l : List T) (i : Nat) (h : i < l.length) : (avs l).getD i .any = (l.getD i default).av := by
  simp [avs_map, h]
mutual
theorem T.av_blw (n : Nat) : ∀ x : T, x.av.blw n = true
  | .mk k m l => by simp [T.av, AV.blw, belowL, avs_blw n l]
theorem avs_blw (n : Nat) : ∀ l : List T, belowL n (avs l) = true
  | [] => rfl
  | x :: r => by simp [avs, belowL, T.av_blw n x, avs_blw n r]
end
theorem T.agg_cells (x : T) : AV.agg x.av.cells = x.av := by cases x; rfl
theorem T.av_val (x : T) : x.av.val = true := by cases x; rfl
theorem T.av_one (x : T) : x.av.cells.all AV.one = true := by cases x; rfl
theorem T.av_unown (x : T) : x.av.unown = x.av := by cases x; rfl
theorem T.av_drop (x : T) : x.av.drop = x.av := by cases x; rfl
theorem T.cells_unown (x : T) : x.av.cells.map AV.unown = x.av.cells := by cases x; rfl
theorem T.cells_drop (x : T) : x.av.cells.map AV.drop = x.av.cells := by cases x; rfl
theorem T.av_clen (x : T) : x.av.cells.length = 3 := by cases x; rfl

theorem lens_avs (o : Nat) (l : List T) : (∀ (own : Nat) (xs : List AV), AV.lst o (avs l) = AV.lst own xs → ∀ z ∈ xs, z.cells.length = 3) = True := by
  simp only [eq_iff_iff, iff_true]
  intro own xs e z hz
  cases e
  rw [avs_map] at hz
  obtain ⟨y, _, rfl⟩ := List.mem_map.1 hz
  exact y.av_clen
theorem idx_avs (e o : Nat) (l : List T) (k : IntKind) (i : Nat) (φ : AV → Prop) : aindexAddr e (.lst o (avs l)) (.int k (i : Int)) φ = (i < l.length ∧ φ (.iptr (l.getD i default).av)) := by
  simp only [aindexAddr, avs_len, Int.toNat_natCast, eq_iff_iff]
  constructor
  · rintro ⟨_, h, h2⟩; rw [avs_getD _ _ h] at h2; exact ⟨h, h2⟩
  · rintro ⟨h, h2⟩; rw [avs_getD _ _ h]; exact ⟨by omega, h, h2⟩
theorem load_iptr_T (x : T) (H : List AObj) (φ : AV → Prop) : aload (some 3) (.iptr x.av) H φ = φ x.av := by
  simp [aload, T.av_clen, T.agg_cells]
theorem sp_T (a b c : AV) (x : T) : asplice [a, b, c] 0 x.av.cells = x.av.cells := by simp [asplice, T.av_clen]
theorem bl_T (n : Nat) (x : T) : belowL n x.av.cells = true := belowL_cells (x.av_blw _)
theorem loadC_T (x : T) (φ : AV → Prop) : loadC (some (.cells x.av.cells)) (some 3) 0 φ = φ x.av := by
  have e : List.map AV.drop (List.take 3 (List.drop 0 x.av.cells)) = x.av.cells := by cases x; rfl
  simp only [loadC, e, T.agg_cells]
  simp [T.av_clen]
theorem fk (x : T) (φ : AV → Prop) : afieldAddr 0 none (.iptr x.av) φ = φ (.iptr (.int .i64 x.k)) := by
  cases x; simp [afieldAddr, apart, T.av, AV.cells, T.k, AV.one]
theorem fn_ (x : T) (φ : AV → Prop) : afieldAddr 1 none (.iptr x.av) φ = φ (.iptr (.int .i64 x.n)) := by
  cases x; simp [afieldAddr, apart, T.av, AV.cells, T.n, AV.one]
theorem fl (x : T) (φ : AV → Prop) : afieldAddr 2 none (.iptr x.av) φ = φ (.iptr (.lst 0 (avs x.l))) := by
  cases x; simp [afieldAddr, apart, T.av, AV.cells, T.l, AV.one]


/-! ### Lists of numbers -/
def ints (l : List Int) : List AV := l.map (AV.int .i64)
theorem ints_len (l : List Int) : (ints l).length = l.length := by simp [ints]
theorem ints_blw (n : Nat) (l : List Int) : belowL n (ints l) = true := by
  rw [belowL_iff]; intro x hx; obtain ⟨y, _, rfl⟩ := List.mem_map.1 hx; rfl
theorem lens_ints (o : Nat) (l : List Int) : (∀ (own : Nat) (xs : List AV), AV.lst o (ints l) = AV.lst own xs → ∀ z ∈ xs, z.cells.length = 1) = True := by
  simp only [eq_iff_iff, iff_true]
  intro own xs e z hz
  cases e
  obtain ⟨y, _, rfl⟩ := List.mem_map.1 hz
  rfl
theorem idx_ints (e o : Nat) (l : List Int) (k : IntKind) (i : Nat) (φ : AV → Prop) : aindexAddr e (.lst o (ints l)) (.int k (i : Int)) φ = (i < l.length ∧ φ (.iptr (.int .i64 (l.getD i 0)))) := by
  simp only [aindexAddr, ints_len, Int.toNat_natCast, eq_iff_iff]
  constructor
  · rintro ⟨_, h, h2⟩; refine ⟨h, ?_⟩; simpa [ints, h] using h2
  · rintro ⟨h, h2⟩; refine ⟨by omega, h, ?_⟩; simpa [ints, h] using h2
theorem ints_snoc (l : List Int) (n : Int) : ints l ++ [.int .i64 n] = ints (l ++ [n]) := by simp [ints]
theorem ok_int (k : IntKind) (n : Int) : okE 1 [.int k n] = True := by simp [okE, AV.cells, AV.one]
theorem ok_ints (l : List Int) : okE 1 (ints l) = True := by
  simp only [okE, eq_iff_iff, iff_true]
  intro y hy
  obtain ⟨z, _, rfl⟩ := List.mem_map.1 hy
  exact ⟨rfl, rfl⟩
theorem ok_T (x : T) : okE 3 [x.av] = True := by
  simp only [okE, eq_iff_iff, iff_true]
  intro y hy
  rw [List.mem_singleton] at hy
  subst hy
  exact ⟨x.av_clen, x.av_one⟩
theorem cn_int (k : IntKind) (n : Int) : canon (.int k n) = .int k n := _root_.id rfl
theorem cn_T (x : T) : canon x.av = x.av := by cases x; rfl
theorem bs0 (z : AV) (esz : Nat) (φ : List AV → Prop) : abslice (List.replicate 0 z) esz [] φ = φ [] := _root_.id rfl
theorem bs1 (z x : AV) (esz : Nat) (φ : List AV → Prop) : abslice (List.replicate 1 (canon z)) esz [(0, x)] φ = (x.val = true ∧ x.cells.length = esz ∧ φ [canon x]) := by
  simp [abslice]
theorem bs2 (z x y : AV) (esz : Nat) (φ : List AV → Prop) : abslice (List.replicate 2 (canon z)) esz [(0, x), (1, y)] φ = (x.val = true ∧ x.cells.length = esz ∧ y.val = true ∧ y.cells.length = esz ∧ φ [canon x, canon y]) := by
  simp [abslice, List.replicate]
theorem bs3 (z x y u : AV) (esz : Nat) (φ : List AV → Prop) : abslice (List.replicate 3 (canon z)) esz [(0, x), (1, y), (2, u)] φ = (x.val = true ∧ x.cells.length = esz ∧ y.val = true ∧ y.cells.length = esz ∧ u.val = true ∧ u.cells.length = esz ∧ φ [canon x, canon y, canon u]) := by
  simp [abslice, List.replicate]
@[congr] theorem abslice_congr {xs : List AV} {esz : Nat} {ps ps' : List (Nat × AV)} {φ : List AV → Prop} (h : nrm ps = ps') : abslice xs esz ps φ = abslice xs esz ps' φ := by subst h; rfl

/-- Plain laws, for simp. -/
def stepsN := (And.intro (And.intro (And.intro (And.intro @or_true @true_or) (And.intro @true_and @and_true)) (And.intro (And.intro @true_implies @Bool.true_and) (And.intro @Bool.and_true (And.intro @Bool.not_true @Bool.not_false)))) (And.intro (And.intro (And.intro @decide_true @decide_false) (And.intro @Classical.not_not @not_true_eq_false)) (And.intro (And.intro @not_false_eq_true @false_implies) (And.intro @Int.not_le (And.intro @Int.not_lt @Nat.le_refl)))))
/-- What the operations do with trees and lists of numbers, for simp. -/
def stepsT := (And.intro (And.intro (And.intro (And.intro (And.intro @avs_len @T.av_blw) (And.intro @avs_blw @T.av_val)) (And.intro (And.intro @T.av_one @T.av_unown) (And.intro @T.av_drop @T.cells_unown))) (And.intro (And.intro (And.intro @T.cells_drop @T.av_clen) (And.intro @T.agg_cells @lens_avs)) (And.intro (And.intro @idx_avs @load_iptr_T) (And.intro @sp_T (And.intro @bl_T @loadC_T))))) (And.intro (And.intro (And.intro (And.intro @fk @fn_) (And.intro @fl @ints_len)) (And.intro (And.intro @ints_blw @lens_ints) (And.intro @idx_ints @ints_snoc))) (And.intro (And.intro (And.intro @ok_int @ok_T) (And.intro @ok_ints @cn_int)) (And.intro (And.intro @cn_T @bs0) (And.intro @bs1 (And.intro @bs2 @bs3))))))
end Go.Abs
end
section
set_option maxRecDepth 100000
set_option linter.unusedSimpArgs false
namespace Go.Abs
open Go Go.Proofs
mutual
def T.same : T → T → Bool
  | .mk k n l, .mk k' n' l' => k == k' && n == n' && sames l l'
def sames : List T → List T → Bool
  | [], [] => true
  | x :: r, y :: s => x.same y && sames r s
  | _, _ => false
end
theorem sames_len : ∀ {l m : List T}, sames l m = true → l.length = m.length
  | [], [], _ => rfl
  | x :: r, y :: s, h => by simp only [sames, Bool.and_eq_true] at h; simp [sames_len h.2]
  | [], _ :: _, h => by simp [sames] at h
  | _ :: _, [], h => by simp [sames] at h

theorem sames_drop {xs ys : List T} {i : Nat} (h1 : i < xs.length) (h2 : i < ys.length) : sames (xs.drop i) (ys.drop i) = ((xs.getD i default).same (ys.getD i default) && sames (xs.drop (i + 1)) (ys.drop (i + 1))) := by
  rw [List.drop_eq_getElem_cons h1, List.drop_eq_getElem_cons h2]
  simp [sames, h1, h2]

theorem mem_getD {l : List T} {i : Nat} (h : i < l.length) : l.getD i default ∈ l := by simp [h]
theorem T.lt {x y : T} (h : x ∈ y.l) : SizeOf.sizeOf x < SizeOf.sizeOf y := by
  cases y with
  | mk k n l =>
    have := List.sizeOf_lt_of_mem h
    simp only [T.l] at this
    simp only [T.mk.sizeOf_spec]
    omega
/-! ### Compare -/
end Go.Abs
end
section
set_option maxRecDepth 100000
set_option linter.unusedSimpArgs false
namespace Go.Abs
open Go Go.Proofs
mutual
def lookT : T → Int → Int → Bool × Int
  | .mk _ _ l, deep, left => if left - 1 < 0 ∨ 1000 < deep then (false, left - 1) else looks l (deep + 1) (left - 1)
def looks : List T → Int → Int → Bool × Int
  | [], _, left => (true, left)
  | x :: r, deep, left => if (lookT x deep left).1 = true then looks r deep (lookT x deep left).2 else (false, (lookT x deep left).2)
end
def fewL (l : List T) : Bool := (looks l 1 6000).1
mutual
theorem lookT_le : ∀ (x : T) (deep left : Int), (lookT x deep left).2 ≤ left ∧ (0 ≤ left → -1 ≤ (lookT x deep left).2 ∧ ((lookT x deep left).1 = true → 0 ≤ (lookT x deep left).2))
  | .mk k n l, deep, left => by
    simp only [lookT]
    split
    · simp; omega
    · rename_i hn
      have := looks_le l (deep + 1) (left - 1)
      exact ⟨by omega, fun _ => this.2 (by omega)⟩
theorem looks_le : ∀ (l : List T) (deep left : Int), (looks l deep left).2 ≤ left ∧ (0 ≤ left → -1 ≤ (looks l deep left).2 ∧ ((looks l deep left).1 = true → 0 ≤ (looks l deep left).2))
  | [], deep, left => by simp [looks]; omega
  | x :: r, deep, left => by
    have h1 := lookT_le x deep left
    simp only [looks]
    split
    · rename_i hb
      have h2 := looks_le r deep (lookT x deep left).2
      exact ⟨by omega, fun h0 => h2.2 ((h1.2 h0).2 hb)⟩
    · exact ⟨h1.1, fun h0 => ⟨(h1.2 h0).1, fun e => by cases e⟩⟩
end
theorem looks_drop {l : List T} {i : Nat} {d left : Int} (h : i < l.length) : looks (l.drop i) d left = if (lookT (l.getD i default) d left).1 = true then looks (l.drop (i + 1)) d (lookT (l.getD i default) d left).2 else (false, (lookT (l.getD i default) d left).2) := by
  rw [List.drop_eq_getElem_cons h]
  simp [looks, h]

def fewObjs (n : Nat) (left : Int) : List AObj := [.cells [.int .i64 left], .cells [.fn (.func 42) [] [.ptr n 0, .ptr (n + 1) 0]]]
theorem c42 (H : List AObj) (x : T) (deep left : Int) (h0 : 0 ≤ left) (h1 : left ≤ 6000) (h2 : 0 ≤ deep) (h3 : deep ≤ 1001) :
    ACalls Tryz.prog 42 [x.av, .int .i64 deep, .ptr H.length 0, .ptr (H.length + 1) 0] (H ++ fewObjs H.length left) fun r H' => r = .bool (lookT x deep left).1 ∧ H' = H ++ fewObjs H.length (lookT x deep left).2 := by
  have ih : ∀ y ∈ x.l, ∀ (deep left : Int), 0 ≤ left → left ≤ 6000 → 0 ≤ deep → deep ≤ 1001 →
    ACalls Tryz.prog 42 [y.av, .int .i64 deep, .ptr H.length 0, .ptr (H.length + 1) 0] (H ++ fewObjs H.length left) fun r H' => r = .bool (lookT y deep left).1 ∧ H' = H ++ fewObjs H.length (lookT y deep left).2 :=
      fun y hy deep left h0 h1 h2 h3 => c42 H y deep left h0 h1 h2 h3
  have e : lookT x deep left = if left - 1 < 0 ∨ 1000 < deep then (false, left - 1) else looks x.l (deep + 1) (left - 1) := by cases x; simp only [lookT, T.l]
  refine ok42.calls (by simp [fi42]) ?_
  simp only [fi42, ir42]
  simp only [fewObjs, stepsS, stepsT, stepsN, if_true, forall_const, ne_eq, implies_true, List.nil_append, List.append_nil, List.cons_append, List.length_cons, List.length_nil, Nat.reduceEqDiff, Nat.reduceAdd, Nat.reduceLT, Nat.reduceLeDiff, ↓reduceIte, reduceCtorEq, Int.reduceEq, Int.reduceLT]
  rw [wrap_in (left - 1) (by omega)]
  refine ⟨fun h4 => ⟨fun h5 => ?_, fun h5 hl => ?_⟩, fun h4 => ?_⟩
  · rw [e, if_pos (.inr h5)]
    exact ret2 (by simp [fewObjs]) rfl rfl rfl
  · have e2 : lookT x deep left = looks x.l (deep + 1) (left - 1) := by rw [e, if_neg (by omega)]
    refine swp_loop_st x.l.length (fun i (s : Int) => 0 ≤ s ∧ s ≤ 6000 ∧ looks (x.l.drop i) (deep + 1) s = lookT x deep left)
      (fun i s => [(1, .int .i64 deep), (3, .ptr (H.length + 1) 0), (18, .lst 0 (avs x.l)), (19, .int .i64 x.l.length), (20, .int .i64 i)]) (fun i s => H ++ fewObjs H.length s) (left - 1) ⟨⟨by omega, by omega, by rw [e2]; rfl⟩, sle_refl _ _ _⟩ fun i s hi hI => ?_
    obtain ⟨k0, k1, hI⟩ := hI
    simp only [fewObjs, stepsS, stepsT, stepsN, if_true, forall_const, ne_eq, implies_true, List.nil_append, List.append_nil, List.cons_append, List.length_cons, List.length_nil, Nat.reduceEqDiff, Nat.reduceAdd, Nat.reduceLT, Nat.reduceLeDiff, ↓reduceIte, reduceCtorEq, Int.reduceEq, Int.reduceLT]
    refine ⟨fun hlt => ⟨len_lt hlt, ?_⟩, fun hge => ?_⟩
    · have hlt := len_lt hlt
      rw [wrap_in (deep + 1) (by omega)]
      rw [looks_drop hlt] at hI
      have hle := lookT_le (x.l.getD i default) (deep + 1) s
      refine scall_to (ih _ (mem_getD hlt) (deep + 1) s k0 k1 (by omega) (by omega)) ?_
      rintro r H' ⟨rfl, rfl⟩
      simp only [fewObjs, stepsS, stepsT, stepsN, if_true, forall_const, ne_eq, implies_true, List.nil_append, List.append_nil, List.cons_append, List.length_cons, List.length_nil, Nat.reduceEqDiff, Nat.reduceAdd, Nat.reduceLT, Nat.reduceLeDiff, ↓reduceIte, reduceCtorEq, Int.reduceEq, Int.reduceLT]
      refine scond_b (fun hb => ?_) (fun hb => ?_) <;> simp only [stepsS, stepsT, stepsN, if_true, forall_const, ne_eq, implies_true, List.nil_append, List.append_nil, List.cons_append, List.length_cons, List.length_nil, Nat.reduceEqDiff, Nat.reduceAdd, Nat.reduceLT, Nat.reduceLeDiff, ↓reduceIte, reduceCtorEq, Int.reduceEq, Int.reduceLT]
      · rw [if_pos hb] at hI
        exact ⟨i + 1, (lookT (x.l.getD i default) (deep + 1) s).2, ⟨hlt, (hle.2 k0).2 hb, by omega, hI⟩, by omega, sle_eq (by rw [wrap_nat i (by omega)]) rfl⟩
      · rw [if_neg (by rw [hb]; simp)] at hI
        rw [← hI]
        exact ret2 (by simp [fewObjs]) rfl rfl rfl
    · rw [List.drop_of_length_le (len_nlt hge)] at hI
      rw [← hI]
      exact ret2 (by simp [fewObjs]) rfl rfl rfl
  · rw [e, if_pos (.inl h4)]
    exact ret2 (by simp [fewObjs]) rfl rfl rfl
termination_by SizeOf.sizeOf x
decreasing_by exact T.lt hy
theorem c7 (l : List T) : Pure Tryz.prog 7 [.lst 0 (avs l)] (.bool (fewL l)) := by
  refine fun H => ok7.calls (by simp [fi7]) ?_
  simp only [fi7, ir7]
  simp only [stepsS, stepsT, stepsN, if_true, forall_const, ne_eq, implies_true, List.nil_append, List.append_nil, List.cons_append, List.length_cons, List.length_nil, Nat.reduceEqDiff, Nat.reduceAdd, Nat.reduceLT, Nat.reduceLeDiff, ↓reduceIte, reduceCtorEq, Int.reduceEq, Int.reduceLT]
  refine ⟨by simp; omega, fun hl => ?_⟩
  refine swp_loop_st l.length (fun i (s : Int) => 0 ≤ s ∧ s ≤ 6000 ∧ (looks (l.drop i) 1 s).1 = fewL l)
      (fun i s => [(4, .ptr (H.length + 1) 0), (8, .lst 0 (avs l)), (9, .int .i64 l.length), (10, .int .i64 i)]) (fun i s => H ++ fewObjs H.length s) 6000 ⟨⟨by omega, by omega, rfl⟩, sle_refl _ _ _⟩ fun i s hi hI => ?_
  obtain ⟨k0, k1, hI⟩ := hI
  simp only [fewObjs, stepsS, stepsT, stepsN, if_true, forall_const, ne_eq, implies_true, List.nil_append, List.append_nil, List.cons_append, List.length_cons, List.length_nil, Nat.reduceEqDiff, Nat.reduceAdd, Nat.reduceLT, Nat.reduceLeDiff, ↓reduceIte, reduceCtorEq, Int.reduceEq, Int.reduceLT]
  refine ⟨fun hlt => ⟨len_lt hlt, ?_⟩, fun hge => ?_⟩
  · have hlt := len_lt hlt
    rw [looks_drop hlt] at hI
    have hle := lookT_le (l.getD i default) 1 s
    refine scall_to (c42 H (l.getD i default) 1 s k0 k1 (by omega) (by omega)) ?_
    rintro r H' ⟨rfl, rfl⟩
    simp only [fewObjs, stepsS, stepsT, stepsN, if_true, forall_const, ne_eq, implies_true, List.nil_append, List.append_nil, List.cons_append, List.length_cons, List.length_nil, Nat.reduceEqDiff, Nat.reduceAdd, Nat.reduceLT, Nat.reduceLeDiff, ↓reduceIte, reduceCtorEq, Int.reduceEq, Int.reduceLT]
    refine scond_b (fun hb => ?_) (fun hb => ?_) <;> simp only [stepsS, stepsT, stepsN, if_true, forall_const, ne_eq, implies_true, List.nil_append, List.append_nil, List.cons_append, List.length_cons, List.length_nil, Nat.reduceEqDiff, Nat.reduceAdd, Nat.reduceLT, Nat.reduceLeDiff, ↓reduceIte, reduceCtorEq, Int.reduceEq, Int.reduceLT]
    · rw [if_pos hb] at hI
      exact ⟨i + 1, (lookT (l.getD i default) 1 s).2, ⟨hlt, (hle.2 k0).2 hb, by omega, hI⟩, by omega, sle_eq (by rw [wrap_nat i (by omega)]) rfl⟩
    · rw [if_neg (by rw [hb]; simp)] at hI
      rw [← hI]
      exact ret1 rfl rfl
  · rw [List.drop_of_length_le (len_nlt hge)] at hI
    rw [← hI]
    exact ret1 rfl rfl
end Go.Abs
end
section
/- What a tree is: the program's way and the document's. -/
set_option maxRecDepth 100000
set_option linter.unusedSimpArgs false
namespace Go.Abs
open Go Go.Proofs

/-! ### measure -/
mutual
def cntT : T → Int → Int × Int → Int × Int
  | .mk _ _ l, d, s => cnts l (d + 1) (s.1 + 1, max s.2 d)
def cnts : List T → Int → Int × Int → Int × Int
  | [], _, s => s
  | x :: r, d, s => if 2000 < s.1 ∨ 200 < s.2 then s else cnts r d (cntT x d s)
end
def cntOk (d : Int) (s : Int × Int) : Prop := 0 ≤ s.1 ∧ s.1 ≤ 2000 ∧ 0 ≤ s.2 ∧ s.2 ≤ 200 ∧ 0 ≤ d ∧ d ≤ 201
def cntOut (s : Int × Int) : Prop := 0 ≤ s.1 ∧ s.1 ≤ 2001 ∧ 0 ≤ s.2 ∧ s.2 ≤ 201
mutual
theorem cntT_out : ∀ (x : T) (d : Int) (s : Int × Int), cntOk d s → cntOut (cntT x d s) ∧ (cntT x d s).2 ≥ d
  | .mk k n l, d, s, h => by
    simp only [cntT]
    obtain ⟨h1, h2, h3, h4, h5, h6⟩ := h
    have := cnts_out l (d + 1) (s.1 + 1, max s.2 d) (by unfold cntOut; simp only; omega) (by omega) (by simp only; omega)
    refine ⟨this.1, ?_⟩
    have h := this.2
    simp only at h
    omega
theorem cnts_out : ∀ (l : List T) (d : Int) (s : Int × Int), cntOut s → 0 ≤ d → d ≤ s.2 + 1 → cntOut (cnts l d s) ∧ s.2 ≤ (cnts l d s).2
  | [], d, s, h, _, _ => by simp [cnts, h]
  | x :: r, d, s, h, hd, hd2 => by
    simp only [cnts]
    split
    · exact ⟨h, Int.le_refl _⟩
    · rename_i hn
      obtain ⟨h1, h2, h3, h4⟩ := h
      have hx := cntT_out x d s ⟨h1, by omega, h3, by omega, hd, by omega⟩
      have hr := cnts_out r d (cntT x d s) hx.1 hd (by omega)
      have := cntT_mono x d s
      exact ⟨hr.1, by omega⟩
theorem cntT_mono : ∀ (x : T) (d : Int) (s : Int × Int), s.2 ≤ (cntT x d s).2
  | .mk k n l, d, s => by
    simp only [cntT]
    have := cnts_mono l (d + 1) (s.1 + 1, max s.2 d)
    simp only at this
    omega
theorem cnts_mono : ∀ (l : List T) (d : Int) (s : Int × Int), s.2 ≤ (cnts l d s).2
  | [], d, s => by simp [cnts]
  | x :: r, d, s => by
    simp only [cnts]
    split
    · omega
    · have h1 := cntT_mono x d s
      have h2 := cnts_mono r d (cntT x d s)
      omega
end
theorem cnts_drop {l : List T} {i : Nat} {d : Int} {s : Int × Int} (h : i < l.length) : cnts (l.drop i) d s = if 2000 < s.1 ∨ 200 < s.2 then s else cnts (l.drop (i + 1)) d (cntT (l.getD i default) d s) := by
  rw [List.drop_eq_getElem_cons h]
  simp [cnts, h]
def cntObj (s : Int × Int) : List AObj := [.cells [.int .i64 s.1, .int .i64 s.2]]
theorem c93 (H : List AObj) (x : T) (d : Int) (s : Int × Int) (hs : cntOk d s) :
    ACalls Tryz.prog 93 [.ptr H.length 0, x.av, .int .i64 d] (H ++ cntObj s) fun r H' => r = .tuple [] ∧ H' = H ++ cntObj (cntT x d s) := by
  have ih : ∀ y ∈ x.l, ∀ (d : Int) (s : Int × Int), cntOk d s → ACalls Tryz.prog 93 [.ptr H.length 0, y.av, .int .i64 d] (H ++ cntObj s) fun r H' => r = .tuple [] ∧ H' = H ++ cntObj (cntT y d s) :=
    fun y hy d s hs => c93 H y d s hs
  have e : cntT x d s = cnts x.l (d + 1) (s.1 + 1, max s.2 d) := by cases x; simp only [cntT, T.l]
  obtain ⟨h1, h2, h3, h4, h5, h6⟩ := hs
  have w1 : IntKind.i64.wrap (s.1 + 1) = s.1 + 1 := wrap_in _ (by omega)
  have w2 : IntKind.i64.wrap (d + 1) = d + 1 := wrap_in _ (by omega)
  refine ok93.calls (by simp [fi93]) ?_
  simp only [fi93, ir93]
  simp only [w1, cntObj, stepsS, stepsT, stepsN, if_true, forall_const, ne_eq, implies_true, List.nil_append, List.append_nil, List.cons_append, List.length_cons, List.length_nil, Nat.reduceEqDiff, Nat.reduceAdd, Nat.reduceLT, Nat.reduceLeDiff, ↓reduceIte, reduceCtorEq, Int.reduceEq, Int.reduceLT]
  intro hl
  have hout : cntOut (s.1 + 1, max s.2 d) := by unfold cntOut; simp only; omega
  have hmd : d ≤ max s.2 d := by omega
  generalize max s.2 d = m at *
  refine swp_loop_st x.l.length (fun i (t : Int × Int) => cntOut t ∧ d ≤ t.2 ∧ cnts (x.l.drop i) (d + 1) t = cntT x d s)
      (fun i t => [(0, .ptr H.length 0), (2, .int .i64 d), (25, .lst 0 (avs x.l)), (26, .int .i64 x.l.length), (27, .int .i64 i)]) (fun i t => H ++ cntObj t) (s.1 + 1, m) ⟨⟨hout, hmd, by rw [e]; rfl⟩, sle_refl _ _ _⟩ fun i t hi hI => ?_
  obtain ⟨⟨k1, k2, k3, k4⟩, k5, hI⟩ := hI
  simp only [w2, cntObj, stepsS, stepsT, stepsN, if_true, forall_const, ne_eq, implies_true, List.nil_append, List.append_nil, List.cons_append, List.length_cons, List.length_nil, Nat.reduceEqDiff, Nat.reduceAdd, Nat.reduceLT, Nat.reduceLeDiff, ↓reduceIte, reduceCtorEq, Int.reduceEq, Int.reduceLT]
  refine ⟨fun hlt => ⟨len_lt hlt, ?_⟩, fun hge => ?_⟩
  · have hlt := len_lt hlt
    rw [cnts_drop hlt] at hI
    refine ⟨fun hn1 => ⟨fun hn2 => ?_, fun hn2 => ?_⟩, fun hn1 => ?_⟩
    · rw [if_pos (.inr hn2)] at hI; rw [← hI]; exact ret_none (by simp [cntObj]) rfl
    · rw [if_neg (by omega)] at hI
      have ho : cntOk (d + 1) t := ⟨k1, by omega, k3, by omega, by omega, by omega⟩
      have hx := cntT_out (x.l.getD i default) (d + 1) t ho
      refine scall_to (ih _ (mem_getD hlt) (d + 1) t ho) ?_
      rintro r H' ⟨rfl, rfl⟩
      simp only [cntObj, stepsS, stepsT, stepsN, if_true, forall_const, ne_eq, implies_true, List.nil_append, List.append_nil, List.cons_append, List.length_cons, List.length_nil, Nat.reduceEqDiff, Nat.reduceAdd, Nat.reduceLT, Nat.reduceLeDiff, ↓reduceIte, reduceCtorEq, Int.reduceEq, Int.reduceLT]
      exact ⟨i + 1, cntT (x.l.getD i default) (d + 1) t, ⟨hlt, hx.1, by omega, hI⟩, by omega, sle_eq (by rw [wrap_nat i (by omega)]) rfl⟩
    · rw [if_pos (.inl hn1)] at hI; rw [← hI]; exact ret_none (by simp [cntObj]) rfl
  · rw [List.drop_of_length_le (len_nlt hge)] at hI
    rw [← hI]
    exact ret_none (by simp [cntObj]) rfl
termination_by SizeOf.sizeOf x
decreasing_by exact T.lt hy

def overB (s : Int × Int) : Bool := decide (2000 < s.1) || decide (200 < s.2)
theorem c94 (H : List AObj) (s : Int × Int) : ACalls Tryz.prog 94 [.ptr H.length 0] (H ++ cntObj s) fun r H' => r = .bool (overB s) ∧ H' = H ++ cntObj s := by
  refine ok94.calls (by simp [fi94]) ?_
  simp only [fi94, ir94]
  simp only [cntObj, stepsS, stepsT, stepsN, if_true, forall_const, ne_eq, implies_true, List.nil_append, List.append_nil, List.cons_append, List.length_cons, List.length_nil, Nat.reduceEqDiff, Nat.reduceAdd, Nat.reduceLT, Nat.reduceLeDiff, ↓reduceIte, reduceCtorEq, Int.reduceEq, Int.reduceLT]
  refine ⟨fun h => ?_, fun h => ?_⟩
  · exact ret2 (by simp [cntObj]) rfl (by simp [overB, Int.not_lt.2 h]) rfl
  · exact ret2 (by simp [cntObj]) rfl (by simp [overB, h]) rfl

/-! ### ContainsFunc -/
def idxT (p : T → Bool) : List T → Int → Int
  | [], _ => -1
  | x :: r, k => if p x = true then k else idxT p r (k + 1)
theorem idxT_any (p : T → Bool) : ∀ (l : List T) (k : Int), 0 ≤ k → (decide (0 ≤ idxT p l k) = l.any p)
  | [], k, _ => by simp [idxT]
  | x :: r, k, h => by
    simp only [idxT, List.any_cons]
    split
    · rename_i hp; simp [hp, h]
    · rename_i hp; simp [hp, idxT_any p r (k + 1) (by omega)]
theorem idxT_drop {p : T → Bool} {l : List T} {i : Nat} {k : Int} (h : i < l.length) : idxT p (l.drop i) k = if p (l.getD i default) = true then k else idxT p (l.drop (i + 1)) (k + 1) := by
  rw [List.drop_eq_getElem_cons h]
  simp [idxT, h]
theorem c123 (g : Nat) (p : T → Bool) (l : List T) (hf : ∀ x ∈ l, Pure Tryz.prog g [x.av] (.bool (p x))) :
    Pure Tryz.prog 123 [.lst 0 (avs l), .fn (.func g) [] []] (.int .i64 (idxT p l 0)) := by
  refine fun H => ok123.calls (by simp [fi123]) ?_
  simp only [fi123, ir123]
  simp only [stepsS, stepsT, stepsN, if_true, forall_const, ne_eq, implies_true, List.nil_append, List.append_nil, List.cons_append, List.length_cons, List.length_nil, Nat.reduceEqDiff, Nat.reduceAdd, Nat.reduceLT, Nat.reduceLeDiff, ↓reduceIte, reduceCtorEq, Int.reduceEq, Int.reduceLT]
  intro hl
  refine swp_loop_nat l.length (fun i => idxT p (l.drop i) i = idxT p l 0) (fun i => [(0, .lst 0 (avs l)), (1, .fn (.func g) [] []), (7, .int .i64 l.length), (8, .int .i64 i)]) (fun _ => H) ⟨rfl, sle_refl _ _ _⟩ fun i hi hI => ?_
  simp only [stepsS, stepsT, stepsN, if_true, forall_const, ne_eq, implies_true, List.nil_append, List.append_nil, List.cons_append, List.length_cons, List.length_nil, Nat.reduceEqDiff, Nat.reduceAdd, Nat.reduceLT, Nat.reduceLeDiff, ↓reduceIte, reduceCtorEq, Int.reduceEq, Int.reduceLT]
  refine ⟨fun hlt => ?_, fun hge => ?_⟩
  · have hlt := len_lt hlt
    rw [idxT_drop hlt] at hI
    refine ⟨hlt, scall_pure (hf _ (mem_getD hlt)) ?_⟩
    simp only [stepsS, stepsT, stepsN, if_true, forall_const, ne_eq, implies_true, List.nil_append, List.append_nil, List.cons_append, List.length_cons, List.length_nil, Nat.reduceEqDiff, Nat.reduceAdd, Nat.reduceLT, Nat.reduceLeDiff, ↓reduceIte, reduceCtorEq, Int.reduceEq, Int.reduceLT]
    refine scond_b (fun hb => ?_) (fun hb => ?_) <;> simp only [stepsS, stepsT, stepsN, if_true, forall_const, ne_eq, implies_true, List.nil_append, List.append_nil, List.cons_append, List.length_cons, List.length_nil, Nat.reduceEqDiff, Nat.reduceAdd, Nat.reduceLT, Nat.reduceLeDiff, ↓reduceIte, reduceCtorEq, Int.reduceEq, Int.reduceLT]
    · rw [if_pos hb] at hI
      exact ret0 rfl (by rw [← hI])
    · rw [if_neg (by rw [hb]; simp)] at hI
      exact ⟨i + 1, ⟨hlt, hI⟩, by omega, sle_eq (by rw [wrap_nat i (by omega)]) rfl⟩
  · rw [List.drop_of_length_le (len_nlt hge)] at hI
    exact ret0 rfl (by rw [← hI]; rfl)
theorem c96 (g : Nat) (p : T → Bool) (l : List T) (hf : ∀ x ∈ l, Pure Tryz.prog g [x.av] (.bool (p x))) :
    Pure Tryz.prog 96 [.lst 0 (avs l), .fn (.func g) [] []] (.bool (l.any p)) := by
  refine fun H => ok96.calls (by simp [fi96]) ?_
  simp only [fi96, ir96]
  simp only [stepsS, stepsT, stepsN, if_true, forall_const, ne_eq, implies_true, List.nil_append, List.append_nil, List.cons_append, List.length_cons, List.length_nil, Nat.reduceEqDiff, Nat.reduceAdd, Nat.reduceLT, Nat.reduceLeDiff, ↓reduceIte, reduceCtorEq, Int.reduceEq, Int.reduceLT]
  refine scall_pure (c123 g p l hf) ?_
  simp only [stepsS, stepsT, stepsN, if_true, forall_const, ne_eq, implies_true, List.nil_append, List.append_nil, List.cons_append, List.length_cons, List.length_nil, Nat.reduceEqDiff, Nat.reduceAdd, Nat.reduceLT, Nat.reduceLeDiff, ↓reduceIte, reduceCtorEq, Int.reduceEq, Int.reduceLT]
  exact ret0 rfl (by rw [idxT_any p l 0 (by omega)])

/-! ### shaped -/
mutual
def T.shaped : T → Bool
  | .mk k n l => !(decide (n < 0) || (decide (k = 1) && decide (0 < l.length)) || (decide (k ≠ 1) && decide (k ≠ 2)) || decide (8 < l.length)) && shapeds l
def shapeds : List T → Bool
  | [] => true
  | x :: r => x.shaped && shapeds r
end
theorem shapeds_all : ∀ l, shapeds l = l.all T.shaped
  | [] => rfl
  | x :: r => by simp only [shapeds, List.all_cons, shapeds_all r]
theorem shapeds_any (l : List T) : (!(l.any fun x => !x.shaped)) = shapeds l := by
  rw [shapeds_all]
  induction l with
  | nil => rfl
  | cons x r ih => simp only [List.any_cons, List.all_cons, Bool.not_or, Bool.not_not, ih]
theorem T.shaped_eq (x : T) : x.shaped = (!(decide (x.n < 0) || (decide (x.k = 1) && decide (0 < x.l.length)) || (decide (x.k ≠ 1) && decide (x.k ≠ 2)) || decide (8 < x.l.length)) && shapeds x.l) := by
  cases x; simp only [T.shaped, T.k, T.n, T.l]; rfl
theorem shapeds_drop {l : List T} {i : Nat} (h : i < l.length) : shapeds (l.drop i) = ((l.getD i default).shaped && shapeds (l.drop (i + 1))) := by
  rw [List.drop_eq_getElem_cons h]
  simp [shapeds, h]
theorem T.shaped_go {x : T} (hh : ¬ (x.n < 0 ∨ (x.k = 1 ∧ 0 < x.l.length) ∨ (x.k ≠ 1 ∧ x.k ≠ 2) ∨ 8 < x.l.length)) : x.shaped = shapeds x.l := by
  rw [x.shaped_eq]
  have h1 : decide (x.n < 0) = false := Bool.eq_false_iff.2 (by simp only [ne_eq, Bool.and_eq_true, decide_eq_true_eq]; omega)
  have h2 : (decide (x.k = 1) && decide (0 < x.l.length)) = false := Bool.eq_false_iff.2 (by simp only [ne_eq, Bool.and_eq_true, decide_eq_true_eq]; omega)
  have h3 : (decide (x.k ≠ 1) && decide (x.k ≠ 2)) = false := Bool.eq_false_iff.2 (by simp only [ne_eq, Bool.and_eq_true, decide_eq_true_eq]; omega)
  have h4 : decide (8 < x.l.length) = false := Bool.eq_false_iff.2 (by simp only [ne_eq, Bool.and_eq_true, decide_eq_true_eq]; omega)
  rw [h1, h2, h3, h4]; rfl
theorem c122 (x : T) (h : Pure Tryz.prog 95 [x.av] (.bool x.shaped)) : Pure Tryz.prog 122 [x.av] (.bool (!x.shaped)) := by
  refine fun H => ok122.calls (by simp [fi122]) ?_
  simp only [fi122, ir122]
  simp only [stepsS, stepsT, stepsN, if_true, forall_const, ne_eq, implies_true, List.nil_append, List.append_nil, List.cons_append, List.length_cons, List.length_nil, Nat.reduceEqDiff, Nat.reduceAdd, Nat.reduceLT, Nat.reduceLeDiff, ↓reduceIte, reduceCtorEq, Int.reduceEq, Int.reduceLT]
  refine scall_pure h ?_
  simp only [stepsS, stepsT, stepsN, if_true, forall_const, ne_eq, implies_true, List.nil_append, List.append_nil, List.cons_append, List.length_cons, List.length_nil, Nat.reduceEqDiff, Nat.reduceAdd, Nat.reduceLT, Nat.reduceLeDiff, ↓reduceIte, reduceCtorEq, Int.reduceEq, Int.reduceLT]
  exact ret0 rfl rfl
theorem c95 (x : T) : Pure Tryz.prog 95 [x.av] (.bool x.shaped) := by
  have ih : ∀ y ∈ x.l, Pure Tryz.prog 122 [y.av] (.bool (!y.shaped)) := fun y hy => c122 y (c95 y)
  refine fun H => ok95.calls (by simp [fi95]) ?_
  simp only [fi95, ir95]
  simp (contextual := true) (maxSteps := 1000000) only [stepsS, stepsT, stepsN, if_true, forall_const, ne_eq, implies_true, List.nil_append, List.append_nil, List.cons_append, List.length_cons, List.length_nil, Nat.reduceEqDiff, Nat.reduceAdd, Nat.reduceLT, Nat.reduceLeDiff, ↓reduceIte, reduceCtorEq, Int.reduceEq, Int.reduceLT]
  have fin : ∀ (H' : List AObj), H' = H → (x.n < 0 ∨ (x.k = 1 ∧ 0 < x.l.length) ∨ (x.k ≠ 1 ∧ x.k ≠ 2) ∨ 8 < x.l.length) → aret H.length [RX.t 2] [(2, AV.bool false)] H' fun r H' => r = AV.bool x.shaped ∧ H' = H := by
    rintro H' rfl hh
    refine ret0 rfl ?_
    rw [x.shaped_eq]
    rcases hh with h | h | h | h <;> simp [h]
  have go : ¬ (x.n < 0 ∨ (x.k = 1 ∧ 0 < x.l.length) ∨ (x.k ≠ 1 ∧ x.k ≠ 2) ∨ 8 < x.l.length) → x.shaped = shapeds x.l := by
    intro hh
    rw [x.shaped_eq]
    have h1 : decide (x.n < 0) = false := Bool.eq_false_iff.2 (by simp only [ne_eq, Bool.and_eq_true, decide_eq_true_eq]; omega)
    have h2 : (decide (x.k = 1) && decide (0 < x.l.length)) = false := Bool.eq_false_iff.2 (by simp only [ne_eq, Bool.and_eq_true, decide_eq_true_eq]; omega)
    have h3 : (decide (x.k ≠ 1) && decide (x.k ≠ 2)) = false := Bool.eq_false_iff.2 (by simp only [ne_eq, Bool.and_eq_true, decide_eq_true_eq]; omega)
    have h4 : decide (8 < x.l.length) = false := Bool.eq_false_iff.2 (by simp only [ne_eq, Bool.and_eq_true, decide_eq_true_eq]; omega)
    rw [h1, h2, h3, h4]; rfl
  refine ⟨fun h => fin _ rfl (.inl h), fun h => ⟨fun h1 hl => ⟨fun h2 => fin _ rfl (by omega), fun h2 => ⟨fun h3 => fin _ rfl (by omega), fun h3 => scall_pure (c96 122 _ _ ih) ?_⟩⟩,
    fun h1 => ⟨fun h2 => fin _ rfl (by omega), fun h2 hl => ⟨fun h3 => fin _ rfl (by omega), fun h3 => scall_pure (c96 122 _ _ ih) ?_⟩⟩⟩⟩ <;>
  · simp only [stepsS, stepsT, stepsN, if_true, forall_const, ne_eq, implies_true, List.nil_append, List.append_nil, List.cons_append, List.length_cons, List.length_nil, Nat.reduceEqDiff, Nat.reduceAdd, Nat.reduceLT, Nat.reduceLeDiff, ↓reduceIte, reduceCtorEq, Int.reduceEq, Int.reduceLT]
    exact ret0 rfl (by rw [go (by omega), shapeds_any])
termination_by SizeOf.sizeOf x
decreasing_by exact T.lt hy

/-! ### isTree -/
def T.tree (x : T) : Bool := !overB (cntT x 1 (0, 0)) && x.shaped
theorem c43 (x : T) : Pure Tryz.prog 43 [x.av] (.bool x.tree) := by
  refine fun H => ok43.calls (by simp [fi43]) ?_
  simp only [fi43, ir43]
  simp only [stepsS, stepsT, stepsN, if_true, forall_const, ne_eq, implies_true, List.nil_append, List.append_nil, List.cons_append, List.length_cons, List.length_nil, Nat.reduceEqDiff, Nat.reduceAdd, Nat.reduceLT, Nat.reduceLeDiff, ↓reduceIte, reduceCtorEq, Int.reduceEq, Int.reduceLT]
  refine scall_to (c93 H x 1 (0, 0) (by unfold cntOk; simp)) ?_
  rintro r H' ⟨rfl, rfl⟩
  simp only [stepsS, stepsT, stepsN, if_true, forall_const, ne_eq, implies_true, List.nil_append, List.append_nil, List.cons_append, List.length_cons, List.length_nil, Nat.reduceEqDiff, Nat.reduceAdd, Nat.reduceLT, Nat.reduceLeDiff, ↓reduceIte, reduceCtorEq, Int.reduceEq, Int.reduceLT]
  refine scall_to (c94 H (cntT x 1 (0, 0))) ?_
  rintro r H' ⟨rfl, rfl⟩
  cases hb : overB (cntT x 1 (0, 0)) <;> simp (contextual := true) (maxSteps := 1000000) only [stepsS, stepsT, stepsN, if_true, forall_const, ne_eq, implies_true, List.nil_append, List.append_nil, List.cons_append, List.length_cons, List.length_nil, Nat.reduceEqDiff, Nat.reduceAdd, Nat.reduceLT, Nat.reduceLeDiff, ↓reduceIte, reduceCtorEq, Int.reduceEq, Int.reduceLT]
  · refine scall_pure (c95 x) ?_
    simp only [stepsS, stepsT, stepsN, if_true, forall_const, ne_eq, implies_true, List.nil_append, List.append_nil, List.cons_append, List.length_cons, List.length_nil, Nat.reduceEqDiff, Nat.reduceAdd, Nat.reduceLT, Nat.reduceLeDiff, ↓reduceIte, reduceCtorEq, Int.reduceEq, Int.reduceLT]
    exact ret1 rfl (by simp [T.tree, hb])
  · exact ret1 rfl (by simp [T.tree, hb])
theorem c97 (x : T) : Pure Tryz.prog 97 [x.av] (.bool (!x.tree)) := by
  refine fun H => ok97.calls (by simp [fi97]) ?_
  simp only [fi97, ir97]
  simp only [stepsS, stepsT, stepsN, if_true, forall_const, ne_eq, implies_true, List.nil_append, List.append_nil, List.cons_append, List.length_cons, List.length_nil, Nat.reduceEqDiff, Nat.reduceAdd, Nat.reduceLT, Nat.reduceLeDiff, ↓reduceIte, reduceCtorEq, Int.reduceEq, Int.reduceLT]
  refine scall_pure (c43 x) ?_
  simp only [stepsS, stepsT, stepsN, if_true, forall_const, ne_eq, implies_true, List.nil_append, List.append_nil, List.cons_append, List.length_cons, List.length_nil, Nat.reduceEqDiff, Nat.reduceAdd, Nat.reduceLT, Nat.reduceLeDiff, ↓reduceIte, reduceCtorEq, Int.reduceEq, Int.reduceLT]
  exact ret0 rfl rfl
def treesB (l : List T) : Bool := l.all T.tree
theorem c44 (l : List T) : Pure Tryz.prog 44 [.lst 0 (avs l)] (.int .i64 (if treesB l = true then 0 else 4)) := by
  refine fun H => ok44.calls (by simp [fi44]) ?_
  simp only [fi44, ir44]
  simp only [stepsS, stepsT, stepsN, if_true, forall_const, ne_eq, implies_true, List.nil_append, List.append_nil, List.cons_append, List.length_cons, List.length_nil, Nat.reduceEqDiff, Nat.reduceAdd, Nat.reduceLT, Nat.reduceLeDiff, ↓reduceIte, reduceCtorEq, Int.reduceEq, Int.reduceLT]
  refine scall_pure (c96 97 _ l fun x _ => c97 x) ?_
  have e : (l.any fun x => !x.tree) = !treesB l := by
    unfold treesB
    induction l with
    | nil => rfl
    | cons x r ih => simp only [List.any_cons, List.all_cons, ih, Bool.not_and]
  rw [e]
  cases treesB l <;> simp (contextual := true) (maxSteps := 1000000) only [stepsS, stepsT, stepsN, if_true, forall_const, ne_eq, implies_true, List.nil_append, List.append_nil, List.cons_append, List.length_cons, List.length_nil, Nat.reduceEqDiff, Nat.reduceAdd, Nat.reduceLT, Nat.reduceLeDiff, ↓reduceIte, reduceCtorEq, Int.reduceEq, Int.reduceLT]
  · exact ret0 rfl rfl
  · exact ret0 rfl rfl

/-! ### The document's way -/
mutual
def ctdT : T → Int → Int → Int × Bool
  | .mk _ _ l, left, deep => if left - 1 < 0 ∨ 200 < deep then (left - 1, false) else ctds l (left - 1) (deep + 1)
def ctds : List T → Int → Int → Int × Bool
  | [], left, _ => (left, true)
  | x :: r, left, deep => if (ctdT x left deep).2 = true then ctds r (ctdT x left deep).1 deep else ((ctdT x left deep).1, false)
end
mutual
theorem ctdT_le : ∀ (x : T) (left deep : Int), (ctdT x left deep).1 ≤ left ∧ (0 ≤ left → -1 ≤ (ctdT x left deep).1 ∧ ((ctdT x left deep).2 = true → 0 ≤ (ctdT x left deep).1))
  | .mk k n l, left, deep => by
    simp only [ctdT]
    split
    · simp; omega
    · rename_i hn
      have := ctds_le l (left - 1) (deep + 1)
      exact ⟨by omega, fun _ => this.2 (by omega)⟩
theorem ctds_le : ∀ (l : List T) (left deep : Int), (ctds l left deep).1 ≤ left ∧ (0 ≤ left → -1 ≤ (ctds l left deep).1 ∧ ((ctds l left deep).2 = true → 0 ≤ (ctds l left deep).1))
  | [], left, deep => by simp [ctds]; omega
  | x :: r, left, deep => by
    have h1 := ctdT_le x left deep
    simp only [ctds]
    split
    · rename_i hb
      have h2 := ctds_le r (ctdT x left deep).1 deep
      exact ⟨by omega, fun h0 => h2.2 ((h1.2 h0).2 hb)⟩
    · exact ⟨h1.1, fun h0 => ⟨(h1.2 h0).1, fun e => by cases e⟩⟩
end
theorem ctds_drop {l : List T} {i : Nat} {left d : Int} (h : i < l.length) : ctds (l.drop i) left d = if (ctdT (l.getD i default) left d).2 = true then ctds (l.drop (i + 1)) (ctdT (l.getD i default) left d).1 d else ((ctdT (l.getD i default) left d).1, false) := by
  rw [List.drop_eq_getElem_cons h]
  simp [ctds, h]
theorem c98 (x : T) (left deep : Int) (h0 : 0 ≤ left) (h1 : left ≤ 100000) (h2 : 0 ≤ deep) (h3 : deep ≤ 201) :
    Pure Tryz.prog 98 [x.av, .int .i64 left, .int .i64 deep] (.tuple [.int .i64 (ctdT x left deep).1, .bool (ctdT x left deep).2]) := by
  have ih : ∀ y ∈ x.l, ∀ (left deep : Int), 0 ≤ left → left ≤ 100000 → 0 ≤ deep → deep ≤ 201 →
    Pure Tryz.prog 98 [y.av, .int .i64 left, .int .i64 deep] (.tuple [.int .i64 (ctdT y left deep).1, .bool (ctdT y left deep).2]) := fun y hy left deep h0 h1 h2 h3 => c98 y left deep h0 h1 h2 h3
  have e : ctdT x left deep = if left - 1 < 0 ∨ 200 < deep then (left - 1, false) else ctds x.l (left - 1) (deep + 1) := by cases x; simp only [ctdT, T.l]
  have w1 : IntKind.i64.wrap (left - 1) = left - 1 := wrap_in _ (by omega)
  have w2 : IntKind.i64.wrap (deep + 1) = deep + 1 := wrap_in _ (by omega)
  refine fun H => ok98.calls (by simp [fi98]) ?_
  simp only [fi98, ir98]
  simp (contextual := true) (maxSteps := 1000000) only [w1, stepsS, stepsT, stepsN, if_true, forall_const, ne_eq, implies_true, List.nil_append, List.append_nil, List.cons_append, List.length_cons, List.length_nil, Nat.reduceEqDiff, Nat.reduceAdd, Nat.reduceLT, Nat.reduceLeDiff, ↓reduceIte, reduceCtorEq, Int.reduceEq, Int.reduceLT]
  refine ⟨fun h4 => ⟨fun h5 => ret20 (by decide) rfl rfl (by rw [e, if_pos (.inr h5)]; rfl) (by rw [e, if_pos (.inr h5)]; rfl), fun h5 => ?_⟩, fun h4 => ret20 (by decide) rfl rfl (by rw [e, if_pos (.inl h4)]; rfl) (by rw [e, if_pos (.inl h4)]; rfl)⟩
  have e2 : ctdT x left deep = ctds x.l (left - 1) (deep + 1) := by rw [e, if_neg (by omega)]
  refine swp_loop_st x.l.length (fun i (s : Int) => 0 ≤ s ∧ s ≤ 100000 ∧ ctds (x.l.drop i) s (deep + 1) = ctdT x left deep)
      (fun i s => [(1, .int .i64 s), (2, .int .i64 deep), (3, x.av.iptr), (8, .int .i64 i)]) (fun i s => H) (left - 1) ⟨⟨by omega, by omega, by rw [e2]; rfl⟩, sle_refl _ _ _⟩ fun i s hi hI => ?_
  obtain ⟨k0, k1, hI⟩ := hI
  simp (contextual := true) (maxSteps := 1000000) only [w2, stepsS, stepsT, stepsN, if_true, forall_const, ne_eq, implies_true, List.nil_append, List.append_nil, List.cons_append, List.length_cons, List.length_nil, Nat.reduceEqDiff, Nat.reduceAdd, Nat.reduceLT, Nat.reduceLeDiff, ↓reduceIte, reduceCtorEq, Int.reduceEq, Int.reduceLT]
  intro hl
  refine ⟨fun hlt => ⟨len_lt hlt, ?_⟩, fun hge => ?_⟩
  · have hlt := len_lt hlt
    rw [ctds_drop hlt] at hI
    have hle := ctdT_le (x.l.getD i default) s (deep + 1)
    refine scall_pure (ih _ (mem_getD hlt) s (deep + 1) k0 k1 (by omega) (by omega)) ?_
    simp (contextual := true) (maxSteps := 1000000) only [stepsS, stepsT, stepsN, if_true, forall_const, ne_eq, implies_true, List.nil_append, List.append_nil, List.cons_append, List.length_cons, List.length_nil, Nat.reduceEqDiff, Nat.reduceAdd, Nat.reduceLT, Nat.reduceLeDiff, ↓reduceIte, reduceCtorEq, Int.reduceEq, Int.reduceLT]
    refine scond_b (fun hb => ?_) (fun hb => ?_) <;> simp (contextual := true) (maxSteps := 1000000) only [stepsS, stepsT, stepsN, if_true, forall_const, ne_eq, implies_true, List.nil_append, List.append_nil, List.cons_append, List.length_cons, List.length_nil, Nat.reduceEqDiff, Nat.reduceAdd, Nat.reduceLT, Nat.reduceLeDiff, ↓reduceIte, reduceCtorEq, Int.reduceEq, Int.reduceLT]
    · rw [if_pos hb] at hI
      exact ⟨i + 1, _, ⟨hlt, (hle.2 k0).2 hb, by omega, hI⟩, by omega, sle_eq (by rw [wrap_nat i (by omega)]) rfl⟩
    · rw [if_neg (by rw [hb]; simp)] at hI
      exact ret20 (by decide) rfl rfl (by rw [← hI]; rfl) (by rw [← hI]; rfl)
  · rw [List.drop_of_length_le (len_nlt hge)] at hI
    exact ret20 (by decide) rfl rfl (by rw [← hI]; rfl) (by rw [← hI]; rfl)
termination_by SizeOf.sizeOf x
decreasing_by exact T.lt hy
theorem c99 (x : T) : Pure Tryz.prog 99 [x.av] (.bool x.shaped) := by
  have ih : ∀ y ∈ x.l, Pure Tryz.prog 99 [y.av] (.bool y.shaped) := fun y hy => c99 y
  refine fun H => ok99.calls (by simp [fi99]) ?_
  simp only [fi99, ir99]
  simp (contextual := true) (maxSteps := 1000000) only [stepsS, stepsT, stepsN, if_true, forall_const, ne_eq, implies_true, List.nil_append, List.append_nil, List.cons_append, List.length_cons, List.length_nil, Nat.reduceEqDiff, Nat.reduceAdd, Nat.reduceLT, Nat.reduceLeDiff, ↓reduceIte, reduceCtorEq, Int.reduceEq, Int.reduceLT]
  have fin : ∀ (H' : List AObj), H' = H → (x.n < 0 ∨ (x.k = 1 ∧ 0 < x.l.length) ∨ (x.k ≠ 1 ∧ x.k ≠ 2) ∨ 8 < x.l.length) → aret H.length [RX.t 2] [(2, AV.bool false)] H' fun r H' => r = AV.bool x.shaped ∧ H' = H := by
    rintro H' rfl hh
    refine ret0 rfl ?_
    rw [x.shaped_eq]
    rcases hh with h | h | h | h <;> simp [h]
  refine ⟨fun h => ⟨fun h1 => ⟨fun h2 hl => ⟨fun h3 => fin _ rfl (by omega), fun h3 => ?_⟩, fun h2 => fin _ rfl (by omega)⟩, fun h1 hl => ⟨fun h2 => ⟨fun h3 => fin _ rfl (by omega), fun h3 => ?_⟩, fun h2 => fin _ rfl (by omega)⟩⟩, fun h => fin _ rfl (by omega)⟩
  all_goals
    have go : x.shaped = shapeds x.l := T.shaped_go (by omega)
    refine swp_loop_nat x.l.length (fun i => shapeds (x.l.drop i) = x.shaped) (fun i => [(1, x.av.iptr), (3, .int .i64 i)]) (fun i => H) ⟨by rw [go]; rfl, sle_refl _ _ _⟩ fun i hi hI => ?_
    simp (contextual := true) (maxSteps := 1000000) only [stepsS, stepsT, stepsN, if_true, forall_const, ne_eq, implies_true, List.nil_append, List.append_nil, List.cons_append, List.length_cons, List.length_nil, Nat.reduceEqDiff, Nat.reduceAdd, Nat.reduceLT, Nat.reduceLeDiff, ↓reduceIte, reduceCtorEq, Int.reduceEq, Int.reduceLT]
    intro _
    refine ⟨fun hlt => ⟨len_lt hlt, ?_⟩, fun hge => ?_⟩
    · have hlt := len_lt hlt
      rw [shapeds_drop hlt] at hI
      refine scall_pure (ih _ (mem_getD hlt)) ?_
      simp (contextual := true) (maxSteps := 1000000) only [stepsS, stepsT, stepsN, if_true, forall_const, ne_eq, implies_true, List.nil_append, List.append_nil, List.cons_append, List.length_cons, List.length_nil, Nat.reduceEqDiff, Nat.reduceAdd, Nat.reduceLT, Nat.reduceLeDiff, ↓reduceIte, reduceCtorEq, Int.reduceEq, Int.reduceLT]
      refine scond_b (fun hb => ?_) (fun hb => ?_) <;> simp (contextual := true) (maxSteps := 1000000) only [stepsS, stepsT, stepsN, if_true, forall_const, ne_eq, implies_true, List.nil_append, List.append_nil, List.cons_append, List.length_cons, List.length_nil, Nat.reduceEqDiff, Nat.reduceAdd, Nat.reduceLT, Nat.reduceLeDiff, ↓reduceIte, reduceCtorEq, Int.reduceEq, Int.reduceLT]
      · exact ⟨i + 1, ⟨hlt, by rw [hb] at hI; simpa using hI⟩, by omega, sle_eq (by rw [wrap_nat i (by omega)]) rfl⟩
      · exact ret0 rfl (by rw [← hI, hb]; rfl)
    · rw [List.drop_of_length_le (len_nlt hge)] at hI
      exact ret0 rfl (by rw [← hI]; rfl)
termination_by SizeOf.sizeOf x
decreasing_by exact T.lt hy
theorem c49 (x : T) : Pure Tryz.prog 49 [x.av] (.bool ((ctdT x 2000 1).2 && x.shaped)) := by
  refine fun H => ok49.calls (by simp [fi49]) ?_
  simp only [fi49, ir49]
  simp (contextual := true) (maxSteps := 1000000) only [stepsS, stepsT, stepsN, if_true, forall_const, ne_eq, implies_true, List.nil_append, List.append_nil, List.cons_append, List.length_cons, List.length_nil, Nat.reduceEqDiff, Nat.reduceAdd, Nat.reduceLT, Nat.reduceLeDiff, ↓reduceIte, reduceCtorEq, Int.reduceEq, Int.reduceLT]
  refine scall_pure (c98 x 2000 1 (by omega) (by omega) (by omega) (by omega)) ?_
  cases hb : (ctdT x 2000 1).2 <;> simp (contextual := true) (maxSteps := 1000000) only [stepsS, stepsT, stepsN, if_true, forall_const, ne_eq, implies_true, List.nil_append, List.append_nil, List.cons_append, List.length_cons, List.length_nil, Nat.reduceEqDiff, Nat.reduceAdd, Nat.reduceLT, Nat.reduceLeDiff, ↓reduceIte, reduceCtorEq, Int.reduceEq, Int.reduceLT]
  · exact ret0 rfl rfl
  · refine scall_pure (c99 x) ?_
    simp (contextual := true) (maxSteps := 1000000) only [stepsS, stepsT, stepsN, if_true, forall_const, ne_eq, implies_true, List.nil_append, List.append_nil, List.cons_append, List.length_cons, List.length_nil, Nat.reduceEqDiff, Nat.reduceAdd, Nat.reduceLT, Nat.reduceLeDiff, ↓reduceIte, reduceCtorEq, Int.reduceEq, Int.reduceLT]
    exact ret0 rfl rfl
end Go.Abs
end
section
/- Sizes; the variables of trees. -/
set_option maxRecDepth 100000
set_option linter.unusedSimpArgs false
namespace Go.Abs
open Go Go.Proofs

mutual
def T.sz : T → Int
  | .mk _ _ l => 1 + szs l
def szs : List T → Int
  | [] => 0
  | x :: r => x.sz + szs r
end
mutual
def T.dp : T → Int
  | .mk _ _ l => 1 + dps l
def dps : List T → Int
  | [] => 0
  | x :: r => max x.dp (dps r)
end
mutual
theorem T.sz_pos : ∀ x : T, 1 ≤ x.sz
  | .mk k n l => by simp only [T.sz]; have := szs_pos l; omega
theorem szs_pos : ∀ l : List T, 0 ≤ szs l
  | [] => by simp [szs]
  | x :: r => by simp only [szs]; have := T.sz_pos x; have := szs_pos r; omega
end
mutual
theorem T.dp_pos : ∀ x : T, 1 ≤ x.dp
  | .mk k n l => by simp only [T.dp]; have := dps_pos l; omega
theorem dps_pos : ∀ l : List T, 0 ≤ dps l
  | [] => by simp [dps]
  | x :: r => by simp only [dps]; have := T.dp_pos x; have := dps_pos r; omega
end
def over (s : Int × Int) : Prop := 2000 < s.1 ∨ 200 < s.2
mutual
theorem cntT_spec : ∀ (x : T) (d : Int) (s : Int × Int), cntOk d s → (¬ over (cntT x d s) ↔ s.1 + x.sz ≤ 2000 ∧ d + x.dp - 1 ≤ 200) ∧ (¬ over (cntT x d s) → (cntT x d s).1 = s.1 + x.sz ∧ (cntT x d s).2 = max s.2 (d + x.dp - 1))
  | .mk k n l, d, s, h => by
    obtain ⟨h1, h2, h3, h4, h5, h6⟩ := h
    simp only [cntT, T.sz, T.dp]
    have hp := dps_pos l
    have ih := cnts_spec l (d + 1) (s.1 + 1, max s.2 d) (by unfold cntOut; simp only; omega) (by omega) (by simp only; omega)
    simp only at ih
    refine ⟨ih.1.trans ⟨fun k => ⟨by omega, by omega⟩, fun k => ⟨by omega, by omega, by omega⟩⟩, fun k => ?_⟩
    have k1 := ih.2 k
    have k2 := ih.1.1 k
    exact ⟨by omega, by omega⟩
theorem cnts_spec : ∀ (l : List T) (d : Int) (s : Int × Int), cntOut s → 0 ≤ d → d ≤ s.2 + 1 → (¬ over (cnts l d s) ↔ s.1 + szs l ≤ 2000 ∧ s.2 ≤ 200 ∧ d + dps l - 1 ≤ 200) ∧ (¬ over (cnts l d s) → (cnts l d s).1 = s.1 + szs l ∧ (cnts l d s).2 = max s.2 (d + dps l - 1))
  | [], d, s, h, h5, h6 => by
    simp only [cnts, szs, dps, over]
    exact ⟨⟨fun k => ⟨by omega, by omega, by omega⟩, fun k => by omega⟩, fun k => ⟨by omega, by omega⟩⟩
  | x :: r, d, s, h, h5, h6 => by
    obtain ⟨h1, h2, h3, h4⟩ := h
    simp only [cnts]
    have hx0 := x.sz_pos
    have hd0 := x.dp_pos
    have hr0 := szs_pos r
    have he0 := dps_pos r
    simp only [szs, dps]
    by_cases ho : 2000 < s.1 ∨ 200 < s.2
    · rw [if_pos ho]
      refine ⟨⟨fun k => absurd ho k, fun k => ?_⟩, fun k => absurd ho k⟩
      omega
    · rw [if_neg ho]
      have hok : cntOk d s := ⟨h1, by omega, h3, by omega, h5, by omega⟩
      have hx := cntT_spec x d s hok
      have ho2 := cntT_out x d s hok
      have hmn := cntT_mono x d s
      have ih := cnts_spec r d (cntT x d s) ho2.1 h5 (by omega)
      generalize cntT x d s = t at *
      by_cases hot : over t
      · have hn : over (cnts r d t) := by
          refine Classical.byContradiction fun hc => ?_
          have := ih.1.1 hc
          unfold over at hot
          omega
        refine ⟨⟨fun k => absurd hn k, fun k => ?_⟩, fun k => absurd hn k⟩
        have := hx.1.2 (by omega)
        exact absurd hot this
      · have k1 := hx.2 hot
        have k2 := hx.1.1 hot
        refine ⟨ih.1.trans ⟨fun k => ⟨by omega, by omega, by omega⟩, fun k => ⟨by omega, by omega, by omega⟩⟩, fun k => ?_⟩
        have k3 := ih.2 k
        exact ⟨by omega, by omega⟩
end
theorem overB_iff (s : Int × Int) : overB s = true ↔ over s := by simp [overB, over]
mutual
theorem ctdT_spec : ∀ (x : T) (left d : Int), 0 ≤ left → d ≤ 201 → ((ctdT x left d).2 = true ↔ x.sz ≤ left ∧ d + x.dp - 1 ≤ 200) ∧ ((ctdT x left d).2 = true → (ctdT x left d).1 = left - x.sz)
  | .mk k n l, left, d, h0, hd => by
    simp only [ctdT, T.sz, T.dp]
    have hp := dps_pos l
    have hs := szs_pos l
    by_cases ho : left - 1 < 0 ∨ 200 < d
    · rw [if_pos ho]
      refine ⟨⟨fun k => (by cases k), fun k => ?_⟩, fun k => (by cases k)⟩
      omega
    · rw [if_neg ho]
      have ih := ctds_spec l (left - 1) (d + 1) (by omega) (by omega)
      exact ⟨ih.1.trans ⟨fun k => ⟨by omega, by omega⟩, fun k => ⟨by omega, by omega⟩⟩, fun k => by have := ih.2 k; omega⟩
theorem ctds_spec : ∀ (l : List T) (left d : Int), 0 ≤ left → d ≤ 201 → ((ctds l left d).2 = true ↔ szs l ≤ left ∧ d + dps l - 1 ≤ 200) ∧ ((ctds l left d).2 = true → (ctds l left d).1 = left - szs l)
  | [], left, d, h0, hd => by simp only [ctds, szs, dps]; exact ⟨⟨fun _ => ⟨by omega, by omega⟩, fun _ => trivial⟩, fun _ => by omega⟩
  | x :: r, left, d, h0, hd => by
    simp only [ctds, szs, dps]
    have hx0 := x.sz_pos
    have hd0 := x.dp_pos
    have hr0 := szs_pos r
    have he0 := dps_pos r
    have hx := ctdT_spec x left d h0 hd
    have hle := ctdT_le x left d
    cases hb : (ctdT x left d).2 with
    | false =>
      rw [if_neg (by simp)]
      refine ⟨⟨fun k => (by cases k), fun k => ?_⟩, fun k => (by cases k)⟩
      have := hx.1.2 (by omega)
      rw [hb] at this; cases this
    | true =>
      rw [if_pos rfl]
      have k1 := hx.2 hb
      have k2 := hx.1.1 hb
      have ih := ctds_spec r (ctdT x left d).1 d ((hle.2 h0).2 hb) hd
      exact ⟨ih.1.trans ⟨fun k => ⟨by omega, by omega⟩, fun k => ⟨by omega, by omega⟩⟩, fun k => by have := ih.2 k; omega⟩
end
theorem T.tree_iff (x : T) : x.tree = true ↔ x.sz ≤ 2000 ∧ x.dp ≤ 200 ∧ x.shaped = true := by
  have h := (cntT_spec x 1 (0, 0) (by unfold cntOk; simp)).1
  unfold T.tree
  rw [Bool.and_eq_true, Bool.not_eq_true', ← Bool.not_eq_true, overB_iff]
  constructor
  · rintro ⟨h1, h2⟩
    have := h.1 h1
    simp only at this
    exact ⟨by omega, by omega, h2⟩
  · rintro ⟨h1, h2, h3⟩
    exact ⟨h.2 (by simp only; omega), h3⟩
theorem ref_is (x : T) : ((ctdT x 2000 1).2 && x.shaped) = x.tree := by
  have h := (ctdT_spec x 2000 1 (by omega) (by omega)).1
  rw [Bool.eq_iff_iff, Bool.and_eq_true, h, T.tree_iff]
  constructor
  · rintro ⟨⟨h1, h2⟩, h3⟩; exact ⟨h1, by omega, h3⟩
  · rintro ⟨h1, h2, h3⟩; exact ⟨⟨h1, by omega⟩, h3⟩
theorem c49' (x : T) : Pure Tryz.prog 49 [x.av] (.bool x.tree) := by rw [← ref_is]; exact c49 x
theorem all_drop {p : T → Bool} {l : List T} {i : Nat} (h : i < l.length) : (l.drop i).all p = (p (l.getD i default) && (l.drop (i + 1)).all p) := by
  rw [List.drop_eq_getElem_cons h, List.all_cons]
  simp [h]
theorem c50 (l : List T) : Pure Tryz.prog 50 [.lst 0 (avs l)] (.bool (treesB l)) := by
  refine fun H => ok50.calls (by simp [fi50]) ?_
  simp only [fi50, ir50]
  simp (contextual := true) (maxSteps := 1000000) only [stepsS, stepsT, stepsN, if_true, forall_const, ne_eq, implies_true, List.nil_append, List.append_nil, List.cons_append, List.length_cons, List.length_nil, Nat.reduceEqDiff, Nat.reduceAdd, Nat.reduceLT, Nat.reduceLeDiff, ↓reduceIte, reduceCtorEq, Int.reduceEq, Int.reduceLT]
  refine swp_loop_nat l.length (fun i => (l.drop i).all T.tree = treesB l) (fun i => [(0, .lst 0 (avs l)), (3, .int .i64 i)]) (fun i => H) ⟨rfl, sle_refl _ _ _⟩ fun i hi hI => ?_
  simp (contextual := true) (maxSteps := 1000000) only [stepsS, stepsT, stepsN, if_true, forall_const, ne_eq, implies_true, List.nil_append, List.append_nil, List.cons_append, List.length_cons, List.length_nil, Nat.reduceEqDiff, Nat.reduceAdd, Nat.reduceLT, Nat.reduceLeDiff, ↓reduceIte, reduceCtorEq, Int.reduceEq, Int.reduceLT]
  intro _
  refine ⟨fun hlt => ⟨len_lt hlt, ?_⟩, fun hge => ?_⟩
  · have hlt := len_lt hlt
    rw [all_drop hlt] at hI
    refine scall_pure (c49' _) ?_
    simp (contextual := true) (maxSteps := 1000000) only [stepsS, stepsT, stepsN, if_true, forall_const, ne_eq, implies_true, List.nil_append, List.append_nil, List.cons_append, List.length_cons, List.length_nil, Nat.reduceEqDiff, Nat.reduceAdd, Nat.reduceLT, Nat.reduceLeDiff, ↓reduceIte, reduceCtorEq, Int.reduceEq, Int.reduceLT]
    refine scond_b (fun hb => ?_) (fun hb => ?_) <;> simp (contextual := true) (maxSteps := 1000000) only [stepsS, stepsT, stepsN, if_true, forall_const, ne_eq, implies_true, List.nil_append, List.append_nil, List.cons_append, List.length_cons, List.length_nil, Nat.reduceEqDiff, Nat.reduceAdd, Nat.reduceLT, Nat.reduceLeDiff, ↓reduceIte, reduceCtorEq, Int.reduceEq, Int.reduceLT]
    · exact ⟨i + 1, ⟨hlt, by rw [hb] at hI; simpa using hI⟩, by omega, sle_eq (by rw [wrap_nat i (by omega)]) rfl⟩
    · exact ret0 rfl (by rw [← hI, hb]; rfl)
  · rw [List.drop_of_length_le (len_nlt hge)] at hI
    exact ret0 rfl (by rw [← hI]; rfl)

/-! ### vars -/
def ents (vs : List Int) : List (AV × AV) := vs.map fun v => (.int .i64 v, .bool true)
theorem afind_ents (n : Int) : ∀ (vs : List Int) (i : Nat), (n ∈ vs → ∃ j, afind 0 (.int .i64 n) (ents vs) i = some (some (j, .bool true))) ∧ (n ∉ vs → afind 0 (.int .i64 n) (ents vs) i = some none)
  | [], i => ⟨fun h => (by cases h), fun _ => rfl⟩
  | v :: r, i => by
    have ih := afind_ents n r (i + 1)
    simp only [ents, List.map_cons, afind, keyEq, if_true]
    by_cases hv : n = v
    · subst hv
      simp
    · simp only [decide_eq_false hv, List.mem_cons, hv, false_or]
      exact ih
theorem lk_ents (n : Int) (vs : List Int) (φ : AV → Prop) : lookupC (some (.map (ents vs))) 0 (.bool false) (.int .i64 n) false φ = φ (.bool (decide (n ∈ vs))) := by
  have h := afind_ents n vs 0
  unfold lookupC
  by_cases hn : n ∈ vs
  · obtain ⟨j, hj⟩ := h.1 hn
    simp [hj, hn, dr_bool]
  · simp [h.2 hn, hn, keyEq, canon, abslice.canon, dr_bool]
theorem ms_ents {n : Int} {vs : List Int} (hn : n ∉ vs) (id : Nat) (H : List AObj) (K : List AObj → Prop) : mapsetC (some (.map (ents vs))) 0 id (.int .i64 n) (.bool true) H K = K (H.set id (.map (ents (vs ++ [n])))) := by
  have h := (afind_ents n vs 0).2 hn
  unfold mapsetC
  simp only [h]
  simp [keyEq, bw_int, bw_bool, va_bool, ents, canon, abslice.canon, dr_bool]
def outC : List Int → AV
  | [] => .nils
  | v :: r => .lst 1 (ints (v :: r))
theorem outC_snoc (vs : List Int) (n : Int) : AV.lst 1 (ints (vs ++ [n])) = outC (vs ++ [n]) := by
  cases vs <;> rfl
theorem outC_one (vs : List Int) : (outC vs).one = true := by cases vs <;> rfl
theorem outC_blw (k : Nat) (vs : List Int) : (outC vs).blw k = true := by
  cases vs with
  | nil => rfl
  | cons v r => simp only [outC, bw_lst, ints_blw]
theorem ap_out (vs : List Int) (n : Int) (o : Nat) (ψ : List AV → Prop) : aappend 1 8 (outC vs) (.lst o [.int .i64 n]) ψ = ((vs.length + 1) * 8 ≤ 140737488355328 ∧ ψ (ints (vs ++ [n]))) := by
  cases vs with
  | nil => simp [outC, ap_nils, ok_int, ints]
  | cons v r =>
    show aappend 1 8 (.lst 1 (ints (v :: r))) _ ψ = _
    rw [ap_lst, ok_int, ints_len, ints_snoc]
    simp
def varObjs (vs : List Int) : List AObj := [.cells [outC vs], .map (ents vs)]
def addV (vs : List Int) (x : T) : List Int := if x.k = 1 ∧ x.n ∉ vs then vs ++ [x.n] else vs
theorem c118 (H : List AObj) (x : T) (vs : List Int) (hl : vs.length ≤ 1000000) :
    ACalls Tryz.prog 118 [x.av, .iptr (.map (H.length + 1)), .ptr H.length 0] (H ++ varObjs vs) fun r H' => r = .tuple [] ∧ H' = H ++ varObjs (addV vs x) := by
  refine ok118.calls (by simp [fi118]) ?_
  simp only [fi118, ir118]
  simp (contextual := true) (maxSteps := 1000000) only [varObjs, lk_ents, stepsS, stepsT, stepsN, if_true, forall_const, ne_eq, implies_true, List.nil_append, List.append_nil, List.cons_append, List.length_cons, List.length_nil, Nat.reduceEqDiff, Nat.reduceAdd, Nat.reduceLT, Nat.reduceLeDiff, ↓reduceIte, reduceCtorEq, Int.reduceEq, Int.reduceLT]
  refine ⟨fun hk => ⟨fun hn => ?_, fun hn => ?_⟩, fun hk => ?_⟩
  · exact ret_none (by simp [varObjs]) (by simp [addV, hk, hn, varObjs])
  · rw [ms_ents hn]
    simp (contextual := true) (maxSteps := 1000000) only [ap_out, outC_snoc, outC_one, outC_blw, stepsS, stepsT, stepsN, if_true, forall_const, ne_eq, implies_true, List.nil_append, List.append_nil, List.cons_append, List.length_cons, List.length_nil, Nat.reduceEqDiff, Nat.reduceAdd, Nat.reduceLT, Nat.reduceLeDiff, ↓reduceIte, reduceCtorEq, Int.reduceEq, Int.reduceLT]
    refine ⟨by omega, ?_⟩
    exact ret_none (by simp [varObjs]) (by simp [addV, hk, hn, varObjs])
  · exact ret_none (by simp [varObjs]) (by simp [addV, hk, varObjs])
mutual
def walkV : T → List Int → List Int
  | .mk k n l, vs => walkVs l (if k = 1 ∧ n ∉ vs then vs ++ [n] else vs)
def walkVs : List T → List Int → List Int
  | [], vs => vs
  | x :: r, vs => walkVs r (walkV x vs)
end
mutual
theorem walkV_len : ∀ (x : T) (vs : List Int), ((walkV x vs).length : Int) ≤ vs.length + x.sz
  | .mk k n l, vs => by
    simp only [walkV, T.sz]
    have := walkVs_len l (if k = 1 ∧ n ∉ vs then vs ++ [n] else vs)
    split at this
    · rename_i h; rw [if_pos h]; simp only [List.length_append, List.length_cons, List.length_nil] at this; omega
    · rename_i h; rw [if_neg h]; omega
theorem walkVs_len : ∀ (l : List T) (vs : List Int), ((walkVs l vs).length : Int) ≤ vs.length + szs l
  | [], vs => by simp [walkVs, szs]
  | x :: r, vs => by
    simp only [walkVs, szs]
    have h1 := walkV_len x vs
    have h2 := walkVs_len r (walkV x vs)
    omega
end
theorem walkVs_drop {l : List T} {i : Nat} {vs : List Int} (h : i < l.length) : walkVs (l.drop i) vs = walkVs (l.drop (i + 1)) (walkV (l.getD i default) vs) := by
  rw [List.drop_eq_getElem_cons h]
  simp [walkVs, h]
theorem szs_drop {l : List T} {i : Nat} (h : i < l.length) : szs (l.drop i) = (l.getD i default).sz + szs (l.drop (i + 1)) := by
  rw [List.drop_eq_getElem_cons h]
  simp [szs, h]
theorem c117 (H : List AObj) (x : T) (vs : List Int) (hl : vs.length + x.sz ≤ 1000000) :
    ACalls Tryz.prog 117 [x.av, .fn (.func 118) [] [.iptr (.map (H.length + 1)), .ptr H.length 0]] (H ++ varObjs vs) fun r H' => r = .tuple [] ∧ H' = H ++ varObjs (walkV x vs) := by
  have ih : ∀ y ∈ x.l, ∀ (vs : List Int), vs.length + y.sz ≤ 1000000 → ACalls Tryz.prog 117 [y.av, .fn (.func 118) [] [.iptr (.map (H.length + 1)), .ptr H.length 0]] (H ++ varObjs vs) fun r H' => r = .tuple [] ∧ H' = H ++ varObjs (walkV y vs) :=
    fun y hy vs h => c117 H y vs h
  have e : walkV x vs = walkVs x.l (addV vs x) := by cases x; simp only [walkV, addV, T.k, T.n, T.l]; rfl
  have es : x.sz = 1 + szs x.l := by cases x; simp only [T.sz, T.l]
  have hs0 := szs_pos x.l
  have ha : ((addV vs x).length : Int) ≤ vs.length + 1 := by
    unfold addV; split
    · simp only [List.length_append, List.length_cons, List.length_nil]; omega
    · omega
  refine ok117.calls (by simp [fi117]) ?_
  simp only [fi117, ir117]
  simp (contextual := true) (maxSteps := 1000000) only [varObjs, stepsS, stepsT, stepsN, if_true, forall_const, ne_eq, implies_true, List.nil_append, List.append_nil, List.cons_append, List.length_cons, List.length_nil, Nat.reduceEqDiff, Nat.reduceAdd, Nat.reduceLT, Nat.reduceLeDiff, ↓reduceIte, reduceCtorEq, Int.reduceEq, Int.reduceLT]
  refine scall_to (c118 H x vs (by omega)) ?_
  rintro r H' ⟨rfl, rfl⟩
  simp (contextual := true) (maxSteps := 1000000) only [varObjs, stepsS, stepsT, stepsN, if_true, forall_const, ne_eq, implies_true, List.nil_append, List.append_nil, List.cons_append, List.length_cons, List.length_nil, Nat.reduceEqDiff, Nat.reduceAdd, Nat.reduceLT, Nat.reduceLeDiff, ↓reduceIte, reduceCtorEq, Int.reduceEq, Int.reduceLT]
  intro hxl
  refine swp_loop_st x.l.length (fun i (s : List Int) => (s.length : Int) + szs (x.l.drop i) ≤ 1000000 ∧ walkVs (x.l.drop i) s = walkV x vs)
      (fun i s => [(1, .fn (.func 118) [] [.iptr (.map (H.length + 1)), .ptr H.length 0]), (10, .lst 0 (avs x.l)), (11, .int .i64 x.l.length), (12, .int .i64 i)]) (fun i s => H ++ varObjs s) (addV vs x) ⟨⟨by rw [List.drop_zero]; omega, by rw [e]; rfl⟩, sle_refl _ _ _⟩ fun i s hi hI => ?_
  obtain ⟨k1, hI⟩ := hI
  simp (contextual := true) (maxSteps := 1000000) only [varObjs, stepsS, stepsT, stepsN, if_true, forall_const, ne_eq, implies_true, List.nil_append, List.append_nil, List.cons_append, List.length_cons, List.length_nil, Nat.reduceEqDiff, Nat.reduceAdd, Nat.reduceLT, Nat.reduceLeDiff, ↓reduceIte, reduceCtorEq, Int.reduceEq, Int.reduceLT]
  refine ⟨fun hlt => ⟨len_lt hlt, ?_⟩, fun hge => ?_⟩
  · have hlt := len_lt hlt
    rw [walkVs_drop hlt] at hI
    rw [szs_drop hlt] at k1
    have hp := szs_pos (x.l.drop (i + 1))
    refine scall_to (ih _ (mem_getD hlt) s (by omega)) ?_
    rintro r H' ⟨rfl, rfl⟩
    simp (contextual := true) (maxSteps := 1000000) only [varObjs, stepsS, stepsT, stepsN, if_true, forall_const, ne_eq, implies_true, List.nil_append, List.append_nil, List.cons_append, List.length_cons, List.length_nil, Nat.reduceEqDiff, Nat.reduceAdd, Nat.reduceLT, Nat.reduceLeDiff, ↓reduceIte, reduceCtorEq, Int.reduceEq, Int.reduceLT]
    have := walkV_len (x.l.getD i default) s
    exact ⟨i + 1, _, ⟨hlt, by omega, hI⟩, by omega, sle_eq (by rw [wrap_nat i (by omega)]) rfl⟩
  · rw [List.drop_of_length_le (len_nlt hge)] at hI
    rw [← hI]
    exact ret_none (by simp [varObjs]) rfl
termination_by SizeOf.sizeOf x
decreasing_by exact T.lt hy
theorem outC_un_le (vs : List Int) : (outC vs).unown.le (.lst 0 (ints vs)) := by
  cases vs with
  | nil => exact .inr (.inr (.inr (.inl ⟨rfl, 0, rfl⟩)))
  | cons v r => exact le_refl _
theorem c81 (l : List T) (hl : szs l ≤ 1000000) : Pure Tryz.prog 81 [.lst 0 (avs l)] (.lst 0 (ints (walkVs l []))) := by
  refine fun H => ok81.calls (by simp [fi81]) ?_
  simp only [fi81, ir81]
  simp (contextual := true) (maxSteps := 1000000) only [stepsS, stepsT, stepsN, if_true, forall_const, ne_eq, implies_true, List.nil_append, List.append_nil, List.cons_append, List.length_cons, List.length_nil, Nat.reduceEqDiff, Nat.reduceAdd, Nat.reduceLT, Nat.reduceLeDiff, ↓reduceIte, reduceCtorEq, Int.reduceEq, Int.reduceLT]
  intro hxl
  refine swp_loop_st l.length (fun i (s : List Int) => (s.length : Int) + szs (l.drop i) ≤ 1000000 ∧ walkVs (l.drop i) s = walkVs l [])
      (fun i s => [(3, .ptr H.length 0), (4, .iptr (.map (H.length + 1))), (8, .lst 0 (avs l)), (9, .int .i64 l.length), (10, .int .i64 i)]) (fun i s => H ++ varObjs s) [] ⟨⟨by rw [List.drop_zero, List.length_nil]; omega, rfl⟩, sle_refl _ _ _⟩ fun i s hi hI => ?_
  obtain ⟨k1, hI⟩ := hI
  simp (contextual := true) (maxSteps := 1000000) only [varObjs, stepsS, stepsT, stepsN, if_true, forall_const, ne_eq, implies_true, List.nil_append, List.append_nil, List.cons_append, List.length_cons, List.length_nil, Nat.reduceEqDiff, Nat.reduceAdd, Nat.reduceLT, Nat.reduceLeDiff, ↓reduceIte, reduceCtorEq, Int.reduceEq, Int.reduceLT]
  refine ⟨fun hlt => ⟨len_lt hlt, ?_⟩, fun hge => ?_⟩
  · have hlt := len_lt hlt
    rw [walkVs_drop hlt] at hI
    rw [szs_drop hlt] at k1
    have hp := szs_pos (l.drop (i + 1))
    refine scall_to (c117 H (l.getD i default) s (by omega)) ?_
    rintro r H' ⟨rfl, rfl⟩
    simp (contextual := true) (maxSteps := 1000000) only [varObjs, stepsS, stepsT, stepsN, if_true, forall_const, ne_eq, implies_true, List.nil_append, List.append_nil, List.cons_append, List.length_cons, List.length_nil, Nat.reduceEqDiff, Nat.reduceAdd, Nat.reduceLT, Nat.reduceLeDiff, ↓reduceIte, reduceCtorEq, Int.reduceEq, Int.reduceLT]
    have := walkV_len (l.getD i default) s
    exact ⟨i + 1, _, ⟨hlt, by omega, hI⟩, by omega, sle_eq (by rw [wrap_nat i (by omega)]) rfl⟩
  · rw [List.drop_of_length_le (len_nlt hge)] at hI
    have : s = walkVs l [] := hI
    subst this
    refine ret1l ?_ (by simp only [bw_lst, ints_blw])
    have e : (outC (walkVs l [])).unown.unown = (outC (walkVs l [])).unown := by cases (walkVs l []) <;> rfl
    rw [e]
    exact outC_un_le _

/-! ### The document's way -/
theorem c124 (l : List Int) (n : Int) (o : Nat) : Pure Tryz.prog 124 [.lst o (ints l), .int .i64 n] (.bool (decide (n ∈ l))) := by
  refine fun H => ok124.calls (by simp [fi124]) ?_
  simp only [fi124, ir124]
  simp (contextual := true) (maxSteps := 1000000) only [stepsS, stepsT, stepsN, if_true, forall_const, ne_eq, implies_true, List.nil_append, List.append_nil, List.cons_append, List.length_cons, List.length_nil, Nat.reduceEqDiff, Nat.reduceAdd, Nat.reduceLT, Nat.reduceLeDiff, ↓reduceIte, reduceCtorEq, Int.reduceEq, Int.reduceLT]
  refine swp_loop_nat l.length (fun i => decide (n ∈ l.drop i) = decide (n ∈ l)) (fun i => [(0, .lst o (ints l)), (1, .int .i64 n), (5, .int .i64 i)]) (fun i => H) ⟨rfl, sle_refl _ _ _⟩ fun i hi hI => ?_
  simp (contextual := true) (maxSteps := 1000000) only [stepsS, stepsT, stepsN, if_true, forall_const, ne_eq, implies_true, List.nil_append, List.append_nil, List.cons_append, List.length_cons, List.length_nil, Nat.reduceEqDiff, Nat.reduceAdd, Nat.reduceLT, Nat.reduceLeDiff, ↓reduceIte, reduceCtorEq, Int.reduceEq, Int.reduceLT]
  intro _
  refine ⟨fun hlt => ⟨len_lt hlt, ?_⟩, fun hge => ?_⟩
  · have hlt := len_lt hlt
    rw [List.drop_eq_getElem_cons hlt] at hI
    have eg : l.getD i 0 = l[i] := by simp [hlt]
    rw [eg]
    refine ⟨fun he => ret0 rfl (by rw [← hI, ← he, decide_eq_true (List.mem_cons_self)]), fun he => ⟨i + 1, ⟨hlt, ?_⟩, by omega, sle_eq (by rw [wrap_nat i (by omega)]) rfl⟩⟩
    rw [← hI]
    have : ¬ n = l[i] := fun h => he h.symm
    exact decide_eq_decide.2 (by rw [List.mem_cons]; exact ⟨.inr, fun h => h.resolve_left this⟩)
  · rw [List.drop_of_length_le (len_nlt hge)] at hI
    exact ret0 rfl (by rw [← hI]; simp)
mutual
def rvT : T → List Int → List Int
  | .mk k n l, vs => if k = 1 then (if n ∈ vs then vs else vs ++ [n]) else rvs l vs
def rvs : List T → List Int → List Int
  | [], vs => vs
  | x :: r, vs => rvs r (rvT x vs)
end
mutual
theorem rvT_len : ∀ (x : T) (vs : List Int), ((rvT x vs).length : Int) ≤ vs.length + x.sz
  | .mk k n l, vs => by
    simp only [rvT, T.sz]
    have := rvs_len l vs
    have := szs_pos l
    split
    · split
      · omega
      · simp only [List.length_append, List.length_cons, List.length_nil]; omega
    · omega
theorem rvs_len : ∀ (l : List T) (vs : List Int), ((rvs l vs).length : Int) ≤ vs.length + szs l
  | [], vs => by simp [rvs, szs]
  | x :: r, vs => by
    simp only [rvs, szs]
    have h1 := rvT_len x vs
    have h2 := rvs_len r (rvT x vs)
    omega
end
mutual
theorem walk_rv : ∀ (x : T) (vs : List Int), x.shaped = true → walkV x vs = rvT x vs
  | .mk k n l, vs, h => by
    have h' := h
    rw [T.shaped_eq] at h
    simp only [T.k, T.n, T.l, Bool.and_eq_true, Bool.not_eq_true', Bool.or_eq_false_iff, decide_eq_false_iff_not, Bool.and_eq_false_iff] at h
    obtain ⟨⟨⟨⟨h1, h2⟩, h3⟩, h4⟩, h5⟩ := h
    simp only [walkV, rvT]
    by_cases hk : k = 1
    · have hl : l = [] := by
        rcases h2 with h2 | h2
        · simp [hk] at h2
        · cases l with
          | nil => rfl
          | cons x r => simp at h2
      subst hl
      simp only [walkVs, hk, true_and, if_true]
      by_cases hn : n ∈ vs <;> simp [hn]
    · simp only [hk, false_and, if_false]
      exact walks_rv l vs h5
theorem walks_rv : ∀ (l : List T) (vs : List Int), shapeds l = true → walkVs l vs = rvs l vs
  | [], vs, _ => rfl
  | x :: r, vs, h => by
    simp only [shapeds, Bool.and_eq_true] at h
    simp only [walkVs, rvs, walk_rv x vs h.1]
    exact walks_rv r _ h.2
end
theorem rvs_drop {l : List T} {i : Nat} {vs : List Int} (h : i < l.length) : rvs (l.drop i) vs = rvs (l.drop (i + 1)) (rvT (l.getD i default) vs) := by
  rw [List.drop_eq_getElem_cons h]
  simp [rvs, h]
theorem c100 (H : List AObj) (x : T) (vs : List Int) (hl : vs.length + x.sz ≤ 1000000) :
    ACalls Tryz.prog 100 [x.av, .lst 1 (ints vs)] H fun r H' => r = .lst 1 (ints (rvT x vs)) ∧ H' = H := by
  have ih : ∀ y ∈ x.l, ∀ (vs : List Int), vs.length + y.sz ≤ 1000000 → ACalls Tryz.prog 100 [y.av, .lst 1 (ints vs)] H fun r H' => r = .lst 1 (ints (rvT y vs)) ∧ H' = H :=
    fun y hy vs h => c100 H y vs h
  have e : rvT x vs = if x.k = 1 then (if x.n ∈ vs then vs else vs ++ [x.n]) else rvs x.l vs := by cases x; simp only [rvT, T.k, T.n, T.l]; rfl
  have es : x.sz = 1 + szs x.l := by cases x; simp only [T.sz, T.l]
  have hs0 := szs_pos x.l
  refine ok100.calls (by simp [fi100]) ?_
  simp only [fi100, ir100]
  simp (contextual := true) (maxSteps := 1000000) only [stepsS, stepsT, stepsN, if_true, forall_const, ne_eq, implies_true, List.nil_append, List.append_nil, List.cons_append, List.length_cons, List.length_nil, Nat.reduceEqDiff, Nat.reduceAdd, Nat.reduceLT, Nat.reduceLeDiff, ↓reduceIte, reduceCtorEq, Int.reduceEq, Int.reduceLT]
  refine ⟨fun hk => ?_, fun hk => ?_⟩
  · refine scall_pure (c124 vs x.n 0) ?_
    by_cases hn : x.n ∈ vs
    · rw [decide_eq_true hn]
      simp (contextual := true) (maxSteps := 1000000) only [stepsS, stepsT, stepsN, if_true, forall_const, ne_eq, implies_true, List.nil_append, List.append_nil, List.cons_append, List.length_cons, List.length_nil, Nat.reduceEqDiff, Nat.reduceAdd, Nat.reduceLT, Nat.reduceLeDiff, ↓reduceIte, reduceCtorEq, Int.reduceEq, Int.reduceLT]
      exact ret0 (by simp only [bw_lst, ints_blw]) (by rw [e, if_pos hk, if_pos hn])
    · rw [decide_eq_false hn]
      simp (contextual := true) (maxSteps := 1000000) only [stepsS, stepsT, stepsN, if_true, forall_const, ne_eq, implies_true, List.nil_append, List.append_nil, List.cons_append, List.length_cons, List.length_nil, Nat.reduceEqDiff, Nat.reduceAdd, Nat.reduceLT, Nat.reduceLeDiff, ↓reduceIte, reduceCtorEq, Int.reduceEq, Int.reduceLT]
      refine ⟨by omega, ?_⟩
      exact ret0 (by simp only [bw_lst, ints_blw]) (by rw [e, if_pos hk, if_neg hn])
  · refine swp_loop_st x.l.length (fun i (s : List Int) => (s.length : Int) + szs (x.l.drop i) ≤ 1000000 ∧ rvs (x.l.drop i) s = rvT x vs)
      (fun i s => [(1, .lst 1 (ints s)), (2, x.av.iptr), (5, .int .i64 i)]) (fun i s => H) vs ⟨⟨by rw [List.drop_zero]; omega, by rw [e, if_neg hk]; rfl⟩, sle_refl _ _ _⟩ fun i s hi hI => ?_
    obtain ⟨k1, hI⟩ := hI
    simp (contextual := true) (maxSteps := 1000000) only [stepsS, stepsT, stepsN, if_true, forall_const, ne_eq, implies_true, List.nil_append, List.append_nil, List.cons_append, List.length_cons, List.length_nil, Nat.reduceEqDiff, Nat.reduceAdd, Nat.reduceLT, Nat.reduceLeDiff, ↓reduceIte, reduceCtorEq, Int.reduceEq, Int.reduceLT]
    intro _
    refine ⟨fun hlt => ⟨len_lt hlt, ?_⟩, fun hge => ?_⟩
    · have hlt := len_lt hlt
      rw [rvs_drop hlt] at hI
      rw [szs_drop hlt] at k1
      have hp := szs_pos (x.l.drop (i + 1))
      refine scall_to (ih _ (mem_getD hlt) s (by omega)) ?_
      rintro r H' ⟨rfl, rfl⟩
      simp (contextual := true) (maxSteps := 1000000) only [stepsS, stepsT, stepsN, if_true, forall_const, ne_eq, implies_true, List.nil_append, List.append_nil, List.cons_append, List.length_cons, List.length_nil, Nat.reduceEqDiff, Nat.reduceAdd, Nat.reduceLT, Nat.reduceLeDiff, ↓reduceIte, reduceCtorEq, Int.reduceEq, Int.reduceLT]
      have := rvT_len (x.l.getD i default) s
      exact ⟨i + 1, _, ⟨hlt, by omega, hI⟩, by omega, sle_eq (by rw [wrap_nat i (by omega)]) rfl⟩
    · rw [List.drop_of_length_le (len_nlt hge)] at hI
      exact ret0 (by simp only [bw_lst, ints_blw]) (by rw [← hI]; rfl)
termination_by SizeOf.sizeOf x
decreasing_by exact T.lt hy
/-- The variables of trees that are all right. -/
def varsL (l : List T) : List Int := if treesB l = true then rvs l [] else []
theorem c52 (l : List T) (hl : szs l ≤ 1000000) : Pure Tryz.prog 52 [.lst 0 (avs l)] (.lst 0 (ints (varsL l))) := by
  refine fun H => ok52.calls (by simp [fi52]) ?_
  simp only [fi52, ir52]
  simp (contextual := true) (maxSteps := 1000000) only [stepsS, stepsT, stepsN, if_true, forall_const, ne_eq, implies_true, List.nil_append, List.append_nil, List.cons_append, List.length_cons, List.length_nil, Nat.reduceEqDiff, Nat.reduceAdd, Nat.reduceLT, Nat.reduceLeDiff, ↓reduceIte, reduceCtorEq, Int.reduceEq, Int.reduceLT]
  refine scall_pure (c50 l) ?_
  cases hb : treesB l with
  | false =>
    simp (contextual := true) (maxSteps := 1000000) only [stepsS, stepsT, stepsN, if_true, forall_const, ne_eq, implies_true, List.nil_append, List.append_nil, List.cons_append, List.length_cons, List.length_nil, Nat.reduceEqDiff, Nat.reduceAdd, Nat.reduceLT, Nat.reduceLeDiff, ↓reduceIte, reduceCtorEq, Int.reduceEq, Int.reduceLT]
    exact ret0 rfl (by simp [varsL, hb, ints])
  | true =>
    simp (contextual := true) (maxSteps := 1000000) only [stepsS, stepsT, stepsN, if_true, forall_const, ne_eq, implies_true, List.nil_append, List.append_nil, List.cons_append, List.length_cons, List.length_nil, Nat.reduceEqDiff, Nat.reduceAdd, Nat.reduceLT, Nat.reduceLeDiff, ↓reduceIte, reduceCtorEq, Int.reduceEq, Int.reduceLT]
    refine swp_loop_st l.length (fun i (s : List Int) => (s.length : Int) + szs (l.drop i) ≤ 1000000 ∧ rvs (l.drop i) s = varsL l)
      (fun i s => [(0, .lst 0 (avs l)), (3, .lst 1 (ints s)), (4, .int .i64 i)]) (fun i s => H) [] ⟨⟨by rw [List.drop_zero, List.length_nil]; omega, by rw [varsL, if_pos hb]; rfl⟩, sle_refl _ _ _⟩ fun i s hi hI => ?_
    obtain ⟨k1, hI⟩ := hI
    simp (contextual := true) (maxSteps := 1000000) only [stepsS, stepsT, stepsN, if_true, forall_const, ne_eq, implies_true, List.nil_append, List.append_nil, List.cons_append, List.length_cons, List.length_nil, Nat.reduceEqDiff, Nat.reduceAdd, Nat.reduceLT, Nat.reduceLeDiff, ↓reduceIte, reduceCtorEq, Int.reduceEq, Int.reduceLT]
    intro _
    refine ⟨fun hlt => ⟨len_lt hlt, ?_⟩, fun hge => ?_⟩
    · have hlt := len_lt hlt
      rw [rvs_drop hlt] at hI
      rw [szs_drop hlt] at k1
      have hp := szs_pos (l.drop (i + 1))
      refine scall_to (c100 H (l.getD i default) s (by omega)) ?_
      rintro r H' ⟨rfl, rfl⟩
      simp (contextual := true) (maxSteps := 1000000) only [stepsS, stepsT, stepsN, if_true, forall_const, ne_eq, implies_true, List.nil_append, List.append_nil, List.cons_append, List.length_cons, List.length_nil, Nat.reduceEqDiff, Nat.reduceAdd, Nat.reduceLT, Nat.reduceLeDiff, ↓reduceIte, reduceCtorEq, Int.reduceEq, Int.reduceLT]
      have := rvT_len (l.getD i default) s
      exact ⟨i + 1, _, ⟨hlt, by omega, hI⟩, by omega, sle_eq (by rw [wrap_nat i (by omega)]) rfl⟩
    · rw [List.drop_of_length_le (len_nlt hge)] at hI
      exact ret0 (by simp only [bw_lst, ints_blw]) (by rw [← hI]; rfl)
/-! ### Same -/
theorem c14 (a b : T) : Pure Tryz.prog 14 [a.av, b.av] (.bool (a.same b)) := by
  have ih : ∀ x ∈ a.l, ∀ y, Pure Tryz.prog 14 [x.av, y.av] (.bool (x.same y)) := fun x hx y => c14 x y
  have e : a.same b = (decide (a.k = b.k) && decide (a.n = b.n) && sames a.l b.l) := by
    cases a; cases b; simp only [T.same, T.k, T.n, T.l]; rfl
  refine fun H => ok14.calls (by simp [fi14]) ?_
  simp only [fi14, ir14]
  simp (contextual := true) (maxSteps := 1000000) only [stepsS, stepsT, stepsN, if_true, forall_const, ne_eq, implies_true, List.nil_append, List.append_nil, List.cons_append, List.length_cons, List.length_nil, Nat.reduceEqDiff, Nat.reduceAdd, Nat.reduceLT, Nat.reduceLeDiff, ↓reduceIte, reduceCtorEq, Int.reduceEq, Int.reduceLT]
  have fin : ∀ (H' : List AObj), H' = H → (a.k = b.k → a.n = b.n → a.l.length = b.l.length → False) → aret H.length [RX.t 4] [(4, AV.bool false)] H' fun r H' => r = AV.bool (a.same b) ∧ H' = H := by
    rintro H' rfl hh
    refine ret0 rfl ?_
    cases hs : a.same b with
    | false => rfl
    | true =>
      rw [e] at hs
      simp only [Bool.and_eq_true, decide_eq_true_eq] at hs
      exact (hh hs.1.1 hs.1.2 (sames_len hs.2)).elim
  refine ⟨fun hk => ⟨fun hn _ _ => ⟨fun hl => fin _ rfl (by omega), fun hl => ?_⟩, fun hn => fin _ rfl (by omega)⟩, fun hk => fin _ rfl (by omega)⟩
  have hl : a.l.length = b.l.length := by omega
  refine swp_loop_nat a.l.length (fun i => sames (a.l.drop i) (b.l.drop i) = a.same b) (fun i => [(2, .iptr a.av), (3, .iptr b.av), (5, .int .i64 i)]) (fun i => H) ⟨by rw [e, decide_eq_true hk, decide_eq_true hn]; rfl, sle_refl _ _ _⟩ fun i hi hI => ?_
  simp (contextual := true) (maxSteps := 1000000) only [stepsS, stepsT, stepsN, if_true, forall_const, ne_eq, implies_true, List.nil_append, List.append_nil, List.cons_append, List.length_cons, List.length_nil, Nat.reduceEqDiff, Nat.reduceAdd, Nat.reduceLT, Nat.reduceLeDiff, ↓reduceIte, reduceCtorEq, Int.reduceEq, Int.reduceLT]
  intro _
  refine ⟨fun hlt => ⟨len_lt hlt, ?_⟩, fun hge => ?_⟩
  · have hlt := len_lt hlt
    have hlt2 : i < b.l.length := by omega
    rw [sames_drop hlt hlt2] at hI
    refine ⟨hlt2, dcall_pure (ih _ (mem_getD hlt) _) ?_⟩
    simp (contextual := true) (maxSteps := 1000000) only [stepsS, stepsT, stepsN, if_true, forall_const, ne_eq, implies_true, List.nil_append, List.append_nil, List.cons_append, List.length_cons, List.length_nil, Nat.reduceEqDiff, Nat.reduceAdd, Nat.reduceLT, Nat.reduceLeDiff, ↓reduceIte, reduceCtorEq, Int.reduceEq, Int.reduceLT]
    refine scond_b (fun hb => ?_) (fun hb => ?_) <;> simp (contextual := true) (maxSteps := 1000000) only [stepsS, stepsT, stepsN, if_true, forall_const, ne_eq, implies_true, List.nil_append, List.append_nil, List.cons_append, List.length_cons, List.length_nil, Nat.reduceEqDiff, Nat.reduceAdd, Nat.reduceLT, Nat.reduceLeDiff, ↓reduceIte, reduceCtorEq, Int.reduceEq, Int.reduceLT]
    · exact ⟨i + 1, ⟨hlt, by rw [hb] at hI; simpa using hI⟩, by omega, sle_eq (by rw [wrap_nat i (by omega)]) rfl⟩
    · exact ret0 rfl (by rw [← hI, hb]; rfl)
  · have hge := len_nlt hge
    rw [List.drop_of_length_le hge, List.drop_of_length_le (by omega)] at hI
    exact ret0 rfl (by rw [← hI]; rfl)
termination_by SizeOf.sizeOf a
decreasing_by exact T.lt hx
end Go.Abs
end
section
/- mapped, Shift. -/
set_option maxRecDepth 100000
set_option linter.unusedSimpArgs false
namespace Go.Abs
open Go Go.Proofs
mutual
def mapT (f : Int → T) : T → T
  | .mk k n l => if k = 1 then f n else .mk k n (mapTs f l)
def mapTs (f : Int → T) : List T → List T
  | [] => []
  | x :: r => mapT f x :: mapTs f r
end
theorem mapTs_map (f : Int → T) : ∀ l, mapTs f l = l.map (mapT f)
  | [] => rfl
  | x :: r => by simp [mapTs, mapTs_map f r]
theorem mapT_eq (f : Int → T) (x : T) : mapT f x = if x.k = 1 then f x.n else .mk x.k x.n (mapTs f x.l) := by cases x; simp only [mapT, T.k, T.n, T.l]; rfl
def outT : List T → AV
  | [] => .nils
  | v :: r => .lst 3 (avs (v :: r))
theorem avs_snoc (l : List T) (x : T) : avs l ++ [x.av] = avs (l ++ [x]) := by simp [avs_map]
theorem outT_snoc (vs : List T) (n : T) : AV.lst 3 (avs (vs ++ [n])) = outT (vs ++ [n]) := by
  cases vs <;> rfl
theorem outT_one (vs : List T) : (outT vs).one = true := by cases vs <;> rfl
theorem outT_blw (k : Nat) (vs : List T) : (outT vs).blw k = true := by
  cases vs with
  | nil => rfl
  | cons v r => simp only [outT, bw_lst, avs_blw]
theorem ap_outT (b : Nat) (vs : List T) (n : T) (o : Nat) (ψ : List AV → Prop) : aappend 3 b (outT vs) (.lst o [n.av]) ψ = ((vs.length + 1) * b ≤ 140737488355328 ∧ ψ (avs (vs ++ [n]))) := by
  cases vs with
  | nil => simp [outT, ap_nils, ok_T, avs]
  | cons v r =>
    show aappend 3 b (.lst 3 (avs (v :: r))) _ ψ = _
    rw [ap_lst, ok_T, avs_len, avs_snoc]
    simp
theorem outT_drop (vs : List T) : (outT vs).drop = .lst 0 (avs vs) := by cases vs <;> rfl
theorem shaped_kids {x : T} (h : x.shaped = true) : x.l.length ≤ 8 ∧ ∀ y ∈ x.l, y.shaped = true := by
  rw [x.shaped_eq, Bool.and_eq_true, Bool.not_eq_true', Bool.or_eq_false_iff] at h
  have h1 := h.1.2
  have h2 := h.2
  rw [shapeds_all] at h2
  exact ⟨by simpa using h1, fun y hy => List.all_eq_true.1 h2 y hy⟩
theorem mapTs_take (f : Int → T) {l : List T} {i : Nat} (h : i < l.length) : mapTs f (l.take (i + 1)) = mapTs f (l.take i) ++ [mapT f (l.getD i default)] := by
  rw [mapTs_map, mapTs_map, List.take_add_one, List.map_append]
  simp [h]
theorem c82 (g : Nat) (cap : List AV) (f : Int → T) (x : T) (hcap : cap.map AV.unown = cap) (hb : belowL 0 cap = true) (hf : ∀ n, Pure Tryz.prog g ([.int .i64 n] ++ cap) (f n).av) (hs : x.shaped = true) :
    Pure Tryz.prog 82 [x.av, .fn (.func g) [] cap] (mapT f x).av := by
  have ih : ∀ y ∈ x.l, Pure Tryz.prog 82 [y.av, .fn (.func g) [] cap] (mapT f y).av := fun y hy => c82 g cap f y hcap hb hf ((shaped_kids hs).2 y hy)
  refine fun H => ok82.calls (by simp [fi82]) ?_
  simp only [fi82, ir82]
  have hl8 := (shaped_kids hs).1
  simp (contextual := true) (maxSteps := 1000000) only [hcap, stepsS, stepsT, stepsN, if_true, forall_const, ne_eq, implies_true, List.nil_append, List.append_nil, List.cons_append, List.length_cons, List.length_nil, Nat.reduceEqDiff, Nat.reduceAdd, Nat.reduceLT, Nat.reduceLeDiff, ↓reduceIte, reduceCtorEq, Int.reduceEq, Int.reduceLT]
  refine ⟨fun hk => scall_pure (hf x.n) ?_, fun hk _ => ?_⟩
  · simp (contextual := true) (maxSteps := 1000000) only [stepsS, stepsT, stepsN, if_true, forall_const, ne_eq, implies_true, List.nil_append, List.append_nil, List.cons_append, List.length_cons, List.length_nil, Nat.reduceEqDiff, Nat.reduceAdd, Nat.reduceLT, Nat.reduceLeDiff, ↓reduceIte, reduceCtorEq, Int.reduceEq, Int.reduceLT]
    exact ret1v (T.av_blw _ _) (by rw [mapT_eq, if_pos hk])
  · refine swp_loop_nat x.l.length (fun _ => True) (fun i => [(1, .fn (.func g) [] cap), (4, .ptr H.length 0), (5, .ptr (H.length + 1) 0), (21, .lst 0 (avs x.l)), (22, .int .i64 x.l.length), (23, .int .i64 i)])
      (fun i => H ++ [.cells [.int .i64 0, .int .i64 0, .nils], .cells [.int .i64 x.k, .int .i64 x.n, outT (mapTs f (x.l.take i))]]) ⟨trivial, sle_refl _ _ _⟩ fun i hi hI => ?_
    simp (contextual := true) (maxSteps := 1000000) only [outT_one, outT_blw, outT_drop, stepsS, stepsT, stepsN, if_true, forall_const, ne_eq, implies_true, List.nil_append, List.append_nil, List.cons_append, List.length_cons, List.length_nil, Nat.reduceEqDiff, Nat.reduceAdd, Nat.reduceLT, Nat.reduceLeDiff, ↓reduceIte, reduceCtorEq, Int.reduceEq, Int.reduceLT]
    refine ⟨fun hlt => ⟨len_lt hlt, ?_, ?_⟩, fun hge => ?_⟩
    · have hlt := len_lt hlt
      refine scall_pure (ih _ (mem_getD hlt)) ?_
      simp (contextual := true) (maxSteps := 1000000) only [ap_outT, outT_snoc, outT_one, outT_blw, stepsS, stepsT, stepsN, if_true, forall_const, ne_eq, implies_true, List.nil_append, List.append_nil, List.cons_append, List.length_cons, List.length_nil, Nat.reduceEqDiff, Nat.reduceAdd, Nat.reduceLT, Nat.reduceLeDiff, ↓reduceIte, reduceCtorEq, Int.reduceEq, Int.reduceLT]
      refine ⟨by rw [mapTs_map]; simp; omega, i + 1, hlt, by omega, sle_eq (by rw [wrap_nat i (by omega)]) ?_⟩
      rw [mapTs_take f hlt]
    · have hlt := len_lt hlt
      refine scall_pure (ih _ (mem_getD hlt)) ?_
      simp (contextual := true) (maxSteps := 1000000) only [ap_outT, outT_snoc, outT_one, outT_blw, stepsS, stepsT, stepsN, if_true, forall_const, ne_eq, implies_true, List.nil_append, List.append_nil, List.cons_append, List.length_cons, List.length_nil, Nat.reduceEqDiff, Nat.reduceAdd, Nat.reduceLT, Nat.reduceLeDiff, ↓reduceIte, reduceCtorEq, Int.reduceEq, Int.reduceLT]
      refine ⟨by rw [mapTs_map]; simp; omega, i + 1, hlt, by omega, sle_eq (by rw [wrap_nat i (by omega)]) ?_⟩
      rw [mapTs_take f hlt]
    · rw [List.take_of_length_le (len_nlt hge)]
      refine ret1v (by simp only [bw_agg, bl_cons, bw_int, bw_lst, avs_blw, bl_nil, Bool.and_self]) ?_
      rw [mapT_eq, if_neg hk]; rfl
termination_by SizeOf.sizeOf x
decreasing_by exact T.lt hy

/-! ### Shift -/
def shN (from_ by_ n : Int) : Int := if from_ ≤ n then IntKind.i64.wrap (n + by_) else n
theorem c83 (from_ by_ n : Int) : Pure Tryz.prog 83 [.int .i64 n, .iptr (.int .i64 from_), .iptr (.int .i64 by_)] (T.mk 1 (shN from_ by_ n) []).av := by
  refine fun H => ok83.calls (by simp [fi83]) ?_
  simp only [fi83, ir83]
  simp (contextual := true) (maxSteps := 1000000) only [stepsS, stepsT, stepsN, if_true, forall_const, ne_eq, implies_true, List.nil_append, List.append_nil, List.cons_append, List.length_cons, List.length_nil, Nat.reduceEqDiff, Nat.reduceAdd, Nat.reduceLT, Nat.reduceLeDiff, ↓reduceIte, reduceCtorEq, Int.reduceEq, Int.reduceLT]
  refine ⟨fun h => ret1v ?_ ?_, fun h => ret1v ?_ ?_⟩
  · simp only [bw_agg, bl_cons, bw_int, bw_lst, bl_nil, Bool.and_self]
  · rw [shN, if_pos h]; rfl
  · simp only [bw_agg, bl_cons, bw_int, bw_lst, bl_nil, Bool.and_self]
  · rw [shN, if_neg (by omega)]; rfl
def badV (from_ by_ v : Int) : Bool := decide (from_ ≤ v ∧ ((1000000 < v ∧ 0 ≤ by_) ∨ (1000000 - min v 1000000 < by_ ∧ 0 < by_) ∨ (by_ < 0 ∧ (by_ < from_ - v ∨ 1000000 < v + by_))))
def T0 : T := .mk 0 0 []
def shT (from_ by_ : Int) (t : T) : T := mapT (fun n => .mk 1 (shN from_ by_ n) []) t
def shiftS (t : T) (from_ by_ : Int) : T × Int :=
  if t.tree = true then
    if from_ < 0 then (T0, 1)
    else if (walkVs [t] []).any (badV from_ by_) = true then (T0, 1)
    else (shT from_ by_ t, 0)
  else (T0, 4)
theorem any_drop {p : Int → Bool} {l : List Int} {i : Nat} (h : i < l.length) : (l.drop i).any p = (p (l.getD i 0) || (l.drop (i + 1)).any p) := by
  rw [List.drop_eq_getElem_cons h, List.any_cons]
  simp [h]
theorem c32n (t : T) (from_ by_ : Int) (ht : t.tree = false) : Pure Tryz.prog 32 [t.av, .int .i64 from_, .int .i64 by_] (.tuple [(shiftS t from_ by_).1.av, .int .i64 (shiftS t from_ by_).2]) := by
  refine fun H => ok32.calls (by simp [fi32]) ?_
  simp only [fi32, ir32]
  simp (contextual := true) (maxSteps := 1000000) only [stepsS, stepsT, stepsN, if_true, forall_const, ne_eq, implies_true, List.nil_append, List.append_nil, List.cons_append, List.length_cons, List.length_nil, Nat.reduceEqDiff, Nat.reduceAdd, Nat.reduceLT, Nat.reduceLeDiff, ↓reduceIte, reduceCtorEq, Int.reduceEq, Int.reduceLT]
  refine scall_pure (c43 t) ?_
  rw [ht]
  simp (contextual := true) (maxSteps := 1000000) only [stepsS, stepsT, stepsN, if_true, forall_const, ne_eq, implies_true, List.nil_append, List.append_nil, List.cons_append, List.length_cons, List.length_nil, Nat.reduceEqDiff, Nat.reduceAdd, Nat.reduceLT, Nat.reduceLeDiff, ↓reduceIte, reduceCtorEq, Int.reduceEq, Int.reduceLT]
  exact ret2v (T.av_blw _ _) rfl (by rw [shiftS, if_neg (by rw [ht]; simp)]; rfl) (by rw [shiftS, if_neg (by rw [ht]; simp)]; rfl)
theorem c32 (t : T) (from_ by_ : Int) (hf1 : from_ ≤ 9223372036854775807) (hb0 : -9223372036854775808 ≤ by_) (hb1 : by_ ≤ 9223372036854775807)
    (hv : ∀ v ∈ walkVs [t] [], 0 ≤ v ∧ v ≤ 9223372036854775807) : Pure Tryz.prog 32 [t.av, .int .i64 from_, .int .i64 by_] (.tuple [(shiftS t from_ by_).1.av, .int .i64 (shiftS t from_ by_).2]) := by
  refine fun H => ok32.calls (by simp [fi32]) ?_
  simp only [fi32, ir32]
  simp (contextual := true) (maxSteps := 1000000) only [stepsS, stepsT, stepsN, if_true, forall_const, ne_eq, implies_true, List.nil_append, List.append_nil, List.cons_append, List.length_cons, List.length_nil, Nat.reduceEqDiff, Nat.reduceAdd, Nat.reduceLT, Nat.reduceLeDiff, ↓reduceIte, reduceCtorEq, Int.reduceEq, Int.reduceLT]
  refine scall_pure (c43 t) ?_
  cases ht : t.tree with
  | false =>
    simp (contextual := true) (maxSteps := 1000000) only [stepsS, stepsT, stepsN, if_true, forall_const, ne_eq, implies_true, List.nil_append, List.append_nil, List.cons_append, List.length_cons, List.length_nil, Nat.reduceEqDiff, Nat.reduceAdd, Nat.reduceLT, Nat.reduceLeDiff, ↓reduceIte, reduceCtorEq, Int.reduceEq, Int.reduceLT]
    exact ret2v (T.av_blw _ _) rfl (by rw [shiftS, if_neg (by rw [ht]; simp)]; rfl) (by rw [shiftS, if_neg (by rw [ht]; simp)]; rfl)
  | true =>
    simp (contextual := true) (maxSteps := 1000000) only [stepsS, stepsT, stepsN, if_true, forall_const, ne_eq, implies_true, List.nil_append, List.append_nil, List.cons_append, List.length_cons, List.length_nil, Nat.reduceEqDiff, Nat.reduceAdd, Nat.reduceLT, Nat.reduceLeDiff, ↓reduceIte, reduceCtorEq, Int.reduceEq, Int.reduceLT]
    refine ⟨fun h => ret2v (T.av_blw _ _) rfl (by rw [shiftS, if_pos ht, if_pos h]; rfl) (by rw [shiftS, if_pos ht, if_pos h]; rfl), fun h => ?_⟩
    have hst := (T.tree_iff t).1 ht
    refine scall_pure (c81 [t] (by simp only [szs]; omega)) ?_
    have e : shiftS t from_ by_ = if (walkVs [t] []).any (badV from_ by_) = true then (T0, 1) else (shT from_ by_ t, 0) := by rw [shiftS, if_pos ht, if_neg (by omega)]
    generalize hL : walkVs [t] [] = L at *
    generalize shiftS t from_ by_ = S at *
    simp (contextual := true) (maxSteps := 1000000) only [stepsS, stepsT, stepsN, if_true, forall_const, ne_eq, implies_true, List.nil_append, List.append_nil, List.cons_append, List.length_cons, List.length_nil, Nat.reduceEqDiff, Nat.reduceAdd, Nat.reduceLT, Nat.reduceLeDiff, ↓reduceIte, reduceCtorEq, Int.reduceEq, Int.reduceLT]
    intro _
    refine swp_loop_nat L.length (fun i => (L.drop i).any (badV from_ by_) = L.any (badV from_ by_)) (fun i => [(3, .iptr t.av), (4, .iptr (.int .i64 from_)), (5, .iptr (.int .i64 by_)), (6, .ptr H.length 0), (19, .lst 0 (ints L)), (20, .int .i64 L.length), (21, .int .i64 i)])
      (fun i => H ++ [.cells [.int .i64 0, .int .i64 0, .nils]]) ⟨rfl, sle_refl _ _ _⟩ fun i hi hI => ?_
    by_cases hlt : i < L.length
    · rw [any_drop hlt] at hI
      have hmem : L.getD i 0 ∈ L := by simp [hlt]
      have hvr := hv _ hmem
      have hE : badV from_ by_ (L.getD i 0) = true → S = (T0, 1) := fun h => by rw [e, if_pos (by rw [← hI, h]; rfl)]
      have hC : badV from_ by_ (L.getD i 0) = false → (L.drop (i + 1)).any (badV from_ by_) = L.any (badV from_ by_) := fun h => by rw [← hI, h]; rfl
      have w1 : IntKind.i64.wrap (1000000 - min (L.getD i 0) 1000000) = 1000000 - min (L.getD i 0) 1000000 := wrap_in _ (by omega)
      have w2 : IntKind.i64.wrap (from_ - L.getD i 0) = from_ - L.getD i 0 := wrap_in _ (by omega)
      have w3 : by_ < 0 → IntKind.i64.wrap (L.getD i 0 + by_) = L.getD i 0 + by_ := fun h => wrap_in _ (by omega)
      have leafE : badV from_ by_ (L.getD i 0) = true → aret2 H.length [.agg [.int .i64 0, .int .i64 0, .lst 0 []], .int .i64 1] (H ++ [.cells [.int .i64 0, .int .i64 0, .nils]])
        (fun r H' => r = .tuple [S.1.av, .int .i64 S.2] ∧ H' = H) := fun h => by rw [hE h]; exact ret2v (T.av_blw H.length T0) rfl rfl rfl
      simp (contextual := true) (maxSteps := 1000000) only [w1, w2, stepsS, stepsT, stepsN, if_true, forall_const, ne_eq, implies_true, List.nil_append, List.append_nil, List.cons_append, List.length_cons, List.length_nil, Nat.reduceEqDiff, Nat.reduceAdd, Nat.reduceLT, Nat.reduceLeDiff, ↓reduceIte, reduceCtorEq, Int.reduceEq, Int.reduceLT]
      refine ⟨fun _ => ⟨hlt, ?_⟩, fun hge => absurd hge (by omega)⟩
      generalize L.getD i 0 = v at *
      have leafC : badV from_ by_ v = false → ∃ j, (j ≤ L.length ∧ (L.drop j).any (badV from_ by_) = L.any (badV from_ by_)) ∧ L.length - j < L.length - i ∧
          sle H.length [(3, t.av.iptr), (4, (AV.int IntKind.i64 from_).iptr), (5, (AV.int IntKind.i64 by_).iptr), (6, AV.ptr H.length 0), (19, AV.lst 0 (ints L)), (20, AV.int IntKind.i64 L.length), (21, AV.int IntKind.i64 (IntKind.i64.wrap (i + 1)))]
            (H ++ [AObj.cells [AV.int IntKind.i64 0, AV.int IntKind.i64 0, AV.nils]])
            [(3, t.av.iptr), (4, (AV.int IntKind.i64 from_).iptr), (5, (AV.int IntKind.i64 by_).iptr), (6, AV.ptr H.length 0), (19, AV.lst 0 (ints L)), (20, AV.int IntKind.i64 L.length), (21, AV.int IntKind.i64 j)]
            (H ++ [AObj.cells [AV.int IntKind.i64 0, AV.int IntKind.i64 0, AV.nils]]) :=
        fun h => ⟨i + 1, ⟨hlt, hC h⟩, by omega, sle_eq (by rw [wrap_nat i (by omega)]) rfl⟩
      clear hI hE hC e hL hv ht hst w1 w2
      repeat' (first | apply And.intro | intro)
      all_goals first
        | exact leafE (by rw [badV, decide_eq_true_eq]; omega)
        | exact leafC (by rw [badV, decide_eq_false_iff_not]; omega)
        | (exfalso; omega)
    · rw [List.drop_of_length_le (by omega)] at hI
      simp (contextual := true) (maxSteps := 1000000) only [stepsS, stepsT, stepsN, if_true, forall_const, ne_eq, implies_true, List.nil_append, List.append_nil, List.cons_append, List.length_cons, List.length_nil, Nat.reduceEqDiff, Nat.reduceAdd, Nat.reduceLT, Nat.reduceLeDiff, ↓reduceIte, reduceCtorEq, Int.reduceEq, Int.reduceLT]
      refine ⟨fun h => absurd h (by omega), fun _ => ?_⟩
      refine scall_pure (c82 83 [.iptr (.int .i64 from_), .iptr (.int .i64 by_)] (fun n => .mk 1 (shN from_ by_ n) []) t rfl rfl (fun n => c83 from_ by_ n) hst.2.2) ?_
      have eS : S = (shT from_ by_ t, 0) := by rw [e, if_neg (by rw [← hI]; simp)]
      rw [eS]
      simp (contextual := true) (maxSteps := 1000000) only [stepsS, stepsT, stepsN, if_true, forall_const, ne_eq, implies_true, List.nil_append, List.append_nil, List.cons_append, List.length_cons, List.length_nil, Nat.reduceEqDiff, Nat.reduceAdd, Nat.reduceLT, Nat.reduceLeDiff, ↓reduceIte, reduceCtorEq, Int.reduceEq, Int.reduceLT]
      exact ret2v (T.av_blw H.length (shT from_ by_ t)) rfl (T.av_unown _) rfl
end Go.Abs
end
section
/- The functions that a run may call. -/
set_option maxRecDepth 100000
namespace Go.Abs
open Go Go.Proofs
theorem e132 : EntOk Tryz.prog 132 (.prim indexByteP) := indexByte_ok Tryz.func132 (by kernel_rfl) (by kernel_rfl) (by kernel_rfl) (by kernel_rfl)
theorem e129 : EntOk Tryz.prog 129 (.prim countP) := count_ok Tryz.func129 (by kernel_rfl) (by kernel_rfl) (by kernel_rfl) (by kernel_rfl)
def tab : Tab := [(6, .ir fi6), (7, .ir fi7), (8, .ir fi8), (9, .ir fi9), (10, .ir fi10), (11, .ir fi11), (12, .ir fi12), (13, .ir fi13), (14, .ir fi14), (15, .ir fi15), (16, .ir fi16), (17, .ir fi17), (18, .ir fi18), (19, .ir fi19), (20, .ir fi20), (21, .ir fi21), (22, .ir fi22), (23, .ir fi23), (24, .ir fi24), (25, .ir fi25), (26, .ir fi26), (27, .ir fi27), (28, .ir fi28), (29, .ir fi29), (30, .ir fi30), (31, .ir fi31), (32, .ir fi32), (33, .ir fi33), (34, .ir fi34), (35, .ir fi35), (36, .ir fi36), (37, .ir fi37), (38, .ir fi38), (39, .ir fi39), (40, .ir fi40), (41, .ir fi41), (42, .ir fi42), (43, .ir fi43), (44, .ir fi44), (45, .ir fi45), (46, .ir fi46), (47, .ir fi47), (48, .ir fi48), (49, .ir fi49), (50, .ir fi50), (51, .ir fi51), (52, .ir fi52), (53, .ir fi53), (54, .ir fi54), (55, .ir fi55), (56, .ir fi56), (57, .ir fi57), (58, .ir fi58), (59, .ir fi59), (60, .ir fi60), (61, .ir fi61), (62, .ir fi62), (63, .ir fi63), (64, .ir fi64), (65, .ir fi65), (66, .ir fi66), (67, .ir fi67), (68, .ir fi68), (69, .ir fi69), (70, .ir fi70), (71, .ir fi71), (72, .ir fi72), (73, .ir fi73), (74, .ir fi74), (75, .ir fi75), (76, .ir fi76), (77, .ir fi77), (78, .ir fi78), (79, .ir fi79), (80, .ir fi80), (81, .ir fi81), (82, .ir fi82), (83, .ir fi83), (84, .ir fi84), (85, .ir fi85), (86, .ir fi86), (87, .ir fi87), (88, .prim clone1P), (89, .ir fi89), (90, .ir fi90), (91, .ir fi91), (92, .ir fi92), (93, .ir fi93), (94, .ir fi94), (95, .ir fi95), (96, .ir fi96), (97, .ir fi97), (98, .ir fi98), (99, .ir fi99), (100, .ir fi100), (101, .ir fi101), (102, .ir fi102), (103, .ir fi103), (104, .ir fi104), (105, .ir fi105), (106, .ir fi106), (107, .ir fi107), (108, .ir fi108), (109, .ir fi109), (110, .ir fi110), (111, .ir fi111), (112, .ir fi112), (113, .ir fi113), (114, .ir fi114), (115, .ir fi115), (116, .ir fi116), (117, .ir fi117), (118, .ir fi118), (119, .ir fi119), (120, .ir fi120), (121, .ir fi121), (122, .ir fi122), (123, .ir fi123), (124, .ir fi124), (125, .ir fi125), (126, .ir fi126), (127, .ir fi127), (128, .ir fi128), (129, .prim countP), (130, .ir fi130), (131, .ir fi131), (132, .prim indexByteP), (134, .ir fi134), (135, .ir fi135), (136, .ir fi136)]
theorem tab_ok : TabOk Tryz.prog tab := ⟨ok6, ok7, ok8, ok9, ok10, ok11, ok12, ok13, ok14, ok15, ok16, ok17, ok18, ok19, ok20, ok21, ok22, ok23, ok24, ok25, ok26, ok27, ok28, ok29, ok30, ok31, ok32, ok33, ok34, ok35, ok36, ok37, ok38, ok39, ok40, ok41, ok42, ok43, ok44, ok45, ok46, ok47, ok48, ok49, ok50, ok51, ok52, ok53, ok54, ok55, ok56, ok57, ok58, ok59, ok60, ok61, ok62, ok63, ok64, ok65, ok66, ok67, ok68, ok69, ok70, ok71, ok72, ok73, ok74, ok75, ok76, ok77, ok78, ok79, ok80, ok81, ok82, ok83, ok84, ok85, ok86, ok87, clone88_ok, ok89, ok90, ok91, ok92, ok93, ok94, ok95, ok96, ok97, ok98, ok99, ok100, ok101, ok102, ok103, ok104, ok105, ok106, ok107, ok108, ok109, ok110, ok111, ok112, ok113, ok114, ok115, ok116, ok117, ok118, ok119, ok120, ok121, ok122, ok123, ok124, ok125, ok126, ok127, ok128, e129, ok130, ok131, e132, ok134, ok135, ok136, trivial⟩
end Go.Abs
end
section
/- The examples, run. -/
set_option maxRecDepth 1000000
namespace Go.Abs
open Go Go.Proofs
theorem sane_run : callE tab (execE tab 100000) 6 [] [] = some (.bool true, []) := by kernel_rfl
end Go.Abs
end
section
/- SigOrder. -/
set_option maxRecDepth 100000
set_option linter.unusedSimpArgs false
namespace Go.Abs
open Go Go.Proofs

mutual
theorem T.same_iff : ∀ a b : T, a.same b = true ↔ a = b
  | .mk k n l, .mk k' n' l' => by
    simp only [T.same, Bool.and_eq_true, beq_iff_eq, T.mk.injEq, sames_iff l l', and_assoc]
theorem sames_iff : ∀ l m : List T, sames l m = true ↔ l = m
  | [], [] => by simp [sames]
  | [], _ :: _ => by simp [sames]
  | _ :: _, [] => by simp [sames]
  | x :: r, y :: s => by simp only [sames, Bool.and_eq_true, T.same_iff x y, sames_iff r s, List.cons.injEq]
end
theorem c6 : Pure Tryz.prog 6 [] (.bool true) := Pure.mk rfl (callE_s tab_ok (execE_s tab_ok 100000) _ _ _ _ _ sane_run)
end Go.Abs
end
section
/- The readings of trees. -/
set_option maxRecDepth 100000
set_option linter.unusedSimpArgs false
namespace Go.Abs
open Go Go.RowKit

mutual
/-- Its numbers are those of a machine, its lists are not too long. -/
def T.wf : T → Prop
  | .mk k n l => (-9223372036854775808 ≤ k ∧ k ≤ 9223372036854775807) ∧ (-9223372036854775808 ≤ n ∧ n ≤ 9223372036854775807) ∧ l.length ≤ 9223372036854775807 ∧ wfs l
def wfs : List T → Prop
  | [] => True
  | x :: r => x.wf ∧ wfs r
end
theorem wfs_iff : ∀ l : List T, wfs l ↔ ∀ x ∈ l, x.wf
  | [] => by simp [wfs]
  | x :: r => by simp [wfs, wfs_iff r]

section
variable {H : Type} {enc : TypeId × Value → H} {P : Program} {w : World} {base : Nat} {sp : Nat → Bool} {held : Bool}

/-- The types of a tree: of a number, of a tree, of a list of trees. -/
structure TreeTy (P : Program) (ti tt tl : TypeId) : Prop where
  int : P.underlying ti = some (.int .i64)
  tree : ∃ f0 f1 f2 : Field, P.underlying tt = some (.struct #[f0, f1, f2]) ∧ f0.type = ti ∧ f0.offset = 0 ∧ f1.type = ti ∧ f1.offset = 1 ∧ f2.type = tl ∧ f2.offset = 2
  list : P.underlying tl = some (.slice tt)
  c1 : P.cellsOf ti = 1
  c903 : P.cellsOf tt = 3
  cl : P.cellsOf tl = 1

theorem i64_wf {n : Int} (h : (Lit.int .i64 n).wf = true) : -9223372036854775808 ≤ n ∧ n ≤ 9223372036854775807 := by
  simp only [Lit.wf, Bool.and_eq_true, decide_eq_true_eq] at h
  revert h
  simp [IntKind.has, IntKind.min, IntKind.max, IntKind.signed, IntKind.bits]

theorem range_list {n : Nat} {p : Nat → T → Prop} (h : ∀ i, i < n → ∃ t, p i t) : ∃ f : Nat → T, ∀ i, i < n → p i (f i) := by
  refine ⟨fun i => if hi : i < n then Classical.choose (h i hi) else default, fun i hi => ?_⟩
  simp only [dif_pos hi]
  exact Classical.choose_spec (h i hi)

def isT (w : World) (cs : List Value) (t : T) : Prop := RepL (memOf w) [] cs t.av.cells ∧ t.wf
def isTs (w : World) (cs : List Value) (l : List T) : Prop := (∃ v, cs = [v] ∧ (∃ y, Rep (memOf w) [] v y ∧ (y = .lst 0 (avs l) ∨ (y = .nils ∧ l = [])))) ∧ l.length ≤ 9223372036854775807 ∧ wfs l
theorem isTs.rep {cs : List Value} {l : List T} (h : isTs w cs l) : ∃ v, cs = [v] ∧ Rep (memOf w) [] v (.lst 0 (avs l)) := by
  obtain ⟨⟨v, rfl, y, hr, hy⟩, _⟩ := h
  refine ⟨v, rfl, ?_⟩
  rcases hy with rfl | ⟨rfl, rfl⟩
  · exact hr
  · exact hr.drop
/-- The datum of a list, and how many. -/
def tsLen (d : DataW H) (l : List T) : Prop := match d with | .slice es _ => l.length = es.length | _ => l = []
theorem trod_tree {ti tt tl : TypeId} (hT : TreeTy P ti tt tl) : ∀ (fuel : Nat),
    (∀ (cs : List Value) (x : DataW H × List MemPlace), DataW.trod enc P w base sp held fuel tt cs = some x → ∃ t : T, isT w cs t) ∧
    (∀ (cs : List Value) (x : DataW H × List MemPlace), DataW.trod enc P w base sp held fuel tl cs = some x → ∃ l : List T, isTs w cs l ∧ tsLen x.1 l) := by
  intro fuel
  induction fuel with
  | zero => exact ⟨fun cs x h => by simp [DataW.trod] at h, fun cs x h => by simp [DataW.trod] at h⟩
  | succ n ih =>
    refine ⟨fun cs x h => ?_, fun cs x h => ?_⟩
    · obtain ⟨f0, f1, f2, hu, h0, o0, h1, o1, h2, o2⟩ := hT.tree
      obtain ⟨xs, m, hm, rfl, hlen, hxs, hf⟩ := DataW.trod_struct hu h
      cases hm
      have g0 := hf 0 f0 rfl
      have g1 := hf 1 f1 rfl
      have g2 := hf 2 f2 rfl
      rw [h0, o0, hT.c1] at g0
      rw [h1, o1, hT.c1] at g1
      rw [h2, o2, hT.cl] at g2
      simp at hxs
      rw [hT.c903] at hlen
      match cs, hlen with
      | [a, b, c], _ =>
        have e0 : xs[0]? = some xs[0] := by simp [hxs]
        have e1 : xs[1]? = some xs[1] := by simp [hxs]
        have e2 : xs[2]? = some xs[2] := by simp [hxs]
        rw [e0] at g0; rw [e1] at g1; rw [e2] at g2
        obtain ⟨k, ek, _, wk⟩ := DataW.trod_int hT.int g0
        obtain ⟨q, eq, _, wq⟩ := DataW.trod_int hT.int g1
        obtain ⟨l, hl, _⟩ := ih.2 _ _ g2
        obtain ⟨v, ev, hv⟩ := hl.rep
        simp at ek eq ev
        subst ek eq ev
        exact ⟨.mk k q l, .cons _ _ _ _ (.int _ _) (.cons _ _ _ _ (.int _ _) (.cons _ _ _ _ hv .nil)), i64_wf wk, i64_wf wq, hl.2.1, hl.2.2⟩
    · rcases DataW.trod_slice hT.list h with ⟨rfl, rfl⟩ | ⟨a, len, cap, elems, rest, m, hm, rfl, rfl, hb, hle, hcap, hel, hget, _, _⟩
      · exact ⟨[], ⟨⟨_, rfl, .nils, .nils, .inr ⟨rfl, rfl⟩⟩, by simp, trivial⟩, rfl⟩
      cases hm
      rw [hT.c903] at hget
      have hex : ∀ i, i < len → ∃ t : T, ∃ cs', w.cells? base (a.add (i * 3)) 3 = some cs' ∧ isT w cs' t := by
        intro i hi
        have := hget i hi
        rw [List.getElem?_eq_getElem (by omega)] at this
        obtain ⟨cs', k1, k2⟩ := Option.bind_eq_some_iff.1 this
        obtain ⟨t, ht⟩ := ih.1 _ _ k2
        exact ⟨t, cs', k1, ht⟩
      obtain ⟨f, hf⟩ := range_list hex
      have hmx : maxLen = 9223372036854775807 := rfl
      refine ⟨(List.range len).map f, ⟨⟨_, rfl, _, ?_, .inl rfl⟩, by simp; omega, ?_⟩, by simp [tsLen, hel]⟩
      · rw [avs_map, List.map_map]
        refine rep_slice (e := 3) (base := base) (by decide) hle hcap (fun i => if hi : i < len then Classical.choose (hf i hi) else []) _ fun i hi => ?_
        simp only [dif_pos hi]
        obtain ⟨k1, k2⟩ := Classical.choose_spec (hf i hi)
        exact ⟨k1, k2.1⟩
      · rw [wfs_iff]
        intro x hx
        obtain ⟨i, hi, rfl⟩ := List.mem_map.1 hx
        obtain ⟨cs', _, k2⟩ := hf i (List.mem_range.1 hi)
        exact k2.2
theorem open_T {ti tt tl : TypeId} (hT : TreeTy P ti tt tl) {r : Reach} {b0 : Nat} {v : Value} {d : DataW H} {ps : List MemPlace} (hval : Value.okWide P w r b0 tt v) (hd : DataW.Trod enc P w base sp held tt v d ps) :
    ∃ t : T, Rep (memOf w) [] v t.av ∧ t.wf := by
  obtain ⟨f0, f1, f2, hu, _⟩ := hT.tree
  obtain ⟨cs, rfl, _⟩ := WideShapes.okWide_struct hu hval
  obtain ⟨fuel, hf⟩ := hd
  obtain ⟨t, h1, h2⟩ := (trod_tree hT fuel).1 _ _ hf
  refine ⟨t, ?_, h2⟩
  have : Rep (memOf w) [] (.agg cs.toList.toArray) (.agg t.av.cells) := .agg _ _ h1
  rw [t.agg_cells] at this
  simpa using this
end
end Go.Abs
end
section
/- SigShifts: what Shift does, and the law. -/
set_option maxRecDepth 100000
set_option linter.unusedSimpArgs false
set_option linter.unusedVariables false
namespace Go.Abs
open Go Go.Proofs
mutual
/-- The numbers of its variables. -/
def T.fv : T → List Int
  | .mk k n l => if k = 1 then n :: fvs l else fvs l
def fvs : List T → List Int
  | [] => []
  | x :: r => x.fv ++ fvs r
end
mutual
theorem mem_walkV : ∀ (x : T) (vs : List Int) (v : Int), v ∈ walkV x vs ↔ v ∈ vs ∨ v ∈ x.fv
  | .mk k n l, vs, v => by
    simp only [walkV, T.fv]
    rw [mem_walkVs l _ v]
    by_cases hk : k = 1
    · by_cases hn : n ∈ vs
      · simp only [hk, hn, not_true_eq_false, and_false, if_false, if_true, List.mem_cons]
        constructor
        · rintro (h | h)
          · exact .inl h
          · exact .inr (.inr h)
        · rintro (h | h | h)
          · exact .inl h
          · subst h; exact .inl hn
          · exact .inr h
      · simp only [hk, hn, not_false_eq_true, and_self, if_true, List.mem_append, List.mem_cons, List.not_mem_nil, or_false, or_assoc]
    · simp only [hk, false_and, if_false]
theorem mem_walkVs : ∀ (l : List T) (vs : List Int) (v : Int), v ∈ walkVs l vs ↔ v ∈ vs ∨ v ∈ fvs l
  | [], vs, v => by simp [walkVs, fvs]
  | x :: r, vs, v => by
    simp only [walkVs, fvs, List.mem_append]
    rw [mem_walkVs r _ v, mem_walkV x vs v, or_assoc]
end
theorem mem_vars (t : T) (v : Int) : v ∈ walkVs [t] [] ↔ v ∈ t.fv := by
  rw [mem_walkVs]; simp [fvs]
mutual
theorem fv_shaped : ∀ (x : T), x.shaped = true → ∀ v ∈ x.fv, 0 ≤ v
  | .mk k n l, h, v, hv => by
    rw [T.shaped_eq] at h
    simp only [T.k, T.n, T.l, Bool.and_eq_true, Bool.not_eq_true', Bool.or_eq_false_iff, decide_eq_false_iff_not] at h
    simp only [T.fv] at hv
    split at hv
    · rcases List.mem_cons.1 hv with rfl | hv
      · have h9 := h.1.1.1.1
        exact Int.not_lt.1 (of_decide_eq_false h9)
      · exact fvs_shaped l h.2 v hv
    · exact fvs_shaped l h.2 v hv
theorem fvs_shaped : ∀ (l : List T), shapeds l = true → ∀ v ∈ fvs l, 0 ≤ v
  | [], _, v, hv => by cases hv
  | x :: r, h, v, hv => by
    simp only [shapeds, Bool.and_eq_true] at h
    simp only [fvs, List.mem_append] at hv
    rcases hv with hv | hv
    · exact fv_shaped x h.1 v hv
    · exact fvs_shaped r h.2 v hv
end
mutual
theorem fv_wf : ∀ (x : T), x.wf → ∀ v ∈ x.fv, v ≤ 9223372036854775807
  | .mk k n l, h, v, hv => by
    simp only [T.wf] at h
    simp only [T.fv] at hv
    split at hv
    · rcases List.mem_cons.1 hv with rfl | hv
      · omega
      · exact fvs_wf l h.2.2.2 v hv
    · exact fvs_wf l h.2.2.2 v hv
theorem fvs_wf : ∀ (l : List T), wfs l → ∀ v ∈ fvs l, v ≤ 9223372036854775807
  | [], _, v, hv => by cases hv
  | x :: r, h, v, hv => by
    simp only [wfs] at h
    simp only [fvs, List.mem_append] at hv
    rcases hv with hv | hv
    · exact fv_wf x h.1 v hv
    · exact fvs_wf r h.2 v hv
end
/-- A variable has nothing below it. -/
theorem shaped_var {k n : Int} {l : List T} (h : (T.mk k n l).shaped = true) (hk : k = 1) : l = [] := by
  rw [T.shaped_eq] at h
  simp only [T.k, T.n, T.l, Bool.and_eq_true, Bool.not_eq_true', Bool.or_eq_false_iff, decide_eq_false_iff_not, Bool.and_eq_false_iff] at h
  cases l with
  | nil => rfl
  | cons x r =>
    rcases h.1.1.1.2 with h2 | h2
    · simp [hk] at h2
    · simp at h2
theorem shaped_sub {k n : Int} {l : List T} (h : (T.mk k n l).shaped = true) : shapeds l = true := by
  rw [T.shaped_eq, Bool.and_eq_true] at h
  exact h.2
def ren (g : Int → Int) (t : T) : T := mapT (fun n => .mk 1 (g n) []) t
mutual
theorem map_ext {f g : Int → T} : ∀ (x : T), (∀ v ∈ x.fv, f v = g v) → mapT f x = mapT g x
  | .mk k n l, h => by
    simp only [mapT]
    simp only [T.fv] at h
    by_cases hk : k = 1
    · rw [if_pos hk, if_pos hk]
      rw [if_pos hk] at h
      exact h n (by simp)
    · rw [if_neg hk, if_neg hk]
      rw [if_neg hk] at h
      rw [maps_ext l h]
theorem maps_ext {f g : Int → T} : ∀ (l : List T), (∀ v ∈ fvs l, f v = g v) → mapTs f l = mapTs g l
  | [], _ => rfl
  | x :: r, h => by
    simp only [fvs, List.mem_append] at h
    simp only [mapTs]
    rw [map_ext x (fun v hv => h v (.inl hv)), maps_ext r (fun v hv => h v (.inr hv))]
end
mutual
theorem ren_id : ∀ (x : T), x.shaped = true → ren (fun n => n) x = x
  | .mk k n l, h => by
    simp only [ren, mapT]
    by_cases hk : k = 1
    · rw [if_pos hk, shaped_var h hk, hk]
    · rw [if_neg hk, rens_id l (shaped_sub h)]
theorem rens_id : ∀ (l : List T), shapeds l = true → mapTs (fun n => .mk 1 n []) l = l
  | [], _ => rfl
  | x :: r, h => by
    simp only [shapeds, Bool.and_eq_true] at h
    simp only [mapTs]
    have h1 := ren_id x h.1
    unfold ren at h1
    rw [h1, rens_id r h.2]
end
/-! ### Shift, in one's head -/
theorem c32' (t : T) (f b : Int) (hf1 : f ≤ 9223372036854775807) (hb0 : -9223372036854775808 ≤ b) (hb1 : b ≤ 9223372036854775807)
    (hv : t.tree = true → ∀ v ∈ t.fv, v ≤ 9223372036854775807) : Pure Tryz.prog 32 [t.av, .int .i64 f, .int .i64 b] (.tuple [(shiftS t f b).1.av, .int .i64 (shiftS t f b).2]) := by
  by_cases ht : t.tree = true
  · exact c32 t f b hf1 hb0 hb1 fun v hv' => ⟨fv_shaped t ((T.tree_iff t).1 ht).2.2 v ((mem_vars t v).1 hv'), hv ht v ((mem_vars t v).1 hv')⟩
  · exact c32n t f b (by simpa using ht)
mutual
theorem lookT_sz : ∀ (x : T) (d left : Int), 0 ≤ left → (lookT x d left).1 = true → (lookT x d left).2 = left - x.sz
  | .mk k n l, d, left, h0, h => by
    simp only [lookT, T.sz] at h ⊢
    split at h
    · cases h
    · rename_i hn
      rw [if_neg hn]
      rw [looks_sz l (d + 1) (left - 1) (by omega) h]
      omega
theorem looks_sz : ∀ (l : List T) (d left : Int), 0 ≤ left → (looks l d left).1 = true → (looks l d left).2 = left - szs l
  | [], d, left, h0, h => by simp [looks, szs]
  | x :: r, d, left, h0, h => by
    simp only [looks, szs] at h ⊢
    split at h
    · rename_i hb
      rw [if_pos hb]
      have h1 := lookT_sz x d left h0 hb
      have h2 := lookT_le x d left
      rw [looks_sz r d _ ((h2.2 h0).2 hb) h, h1]
      omega
    · cases h
end
theorem few_sz {l : List T} (h : fewL l = true) : szs l ≤ 6000 := by
  have h1 := looks_sz l 1 6000 (by omega) h
  have h2 := (looks_le l 1 6000).2 (by omega)
  have := h2.2 h
  omega
end Go.Abs
end
section
/- Size, Compare, Vars, Ground: both ways. -/
set_option maxRecDepth 100000
set_option linter.unusedSimpArgs false
set_option linter.unusedVariables false
namespace Go.Abs
open Go Go.Proofs
/-! ### Compare -/
/-! ### SameInts, Vars, Ground -/
theorem c19 (a b : List Int) (o o' : Nat) : Pure Tryz.prog 19 [.lst o (ints a), .lst o' (ints b)] (.bool (decide (a = b))) := by
  refine fun H => ok19.calls (by simp [fi19]) ?_
  simp only [fi19, ir19]
  simp (contextual := true) (maxSteps := 1000000) only [stepsS, stepsT, stepsN, if_true, forall_const, ne_eq, implies_true, List.nil_append, List.append_nil, List.cons_append, List.length_cons, List.length_nil, Nat.reduceEqDiff, Nat.reduceAdd, Nat.reduceLT, Nat.reduceLeDiff, ↓reduceIte, reduceCtorEq, Int.reduceEq, Int.reduceLT]
  refine fun _ _ => ⟨fun hne => ret0 rfl ?_, fun hl => ?_⟩
  · rw [decide_eq_false]
    intro h; subst h; exact hne rfl
  have hl : a.length = b.length := by omega
  refine swp_loop_nat a.length (fun i => decide (a.drop i = b.drop i) = decide (a = b)) (fun i => [(0, .lst o (ints a)), (1, .lst o' (ints b)), (5, .int .i64 i)]) (fun i => H) ⟨rfl, sle_refl _ _ _⟩ fun i hi hI => ?_
  simp (contextual := true) (maxSteps := 1000000) only [stepsS, stepsT, stepsN, if_true, forall_const, ne_eq, implies_true, List.nil_append, List.append_nil, List.cons_append, List.length_cons, List.length_nil, Nat.reduceEqDiff, Nat.reduceAdd, Nat.reduceLT, Nat.reduceLeDiff, ↓reduceIte, reduceCtorEq, Int.reduceEq, Int.reduceLT]
  intro _
  refine ⟨fun hlt => ⟨len_lt hlt, ?_⟩, fun hge => ?_⟩
  · have hlt := len_lt hlt
    have hlt2 : i < b.length := by omega
    rw [List.drop_eq_getElem_cons hlt, List.drop_eq_getElem_cons hlt2] at hI
    have e1 : a.getD i 0 = a[i] := by simp [hlt]
    have e2 : b.getD i 0 = b[i] := by simp [hlt2]
    rw [e1, e2]
    refine ⟨hlt2, fun hne => ret0 rfl ?_, fun he => ⟨i + 1, ⟨hlt, ?_⟩, by omega, sle_eq (by rw [wrap_nat i (by omega)]) rfl⟩⟩
    · rw [← hI, decide_eq_false]
      intro h; exact hne (List.cons.inj h).1
    · rw [← hI, he]
      exact decide_eq_decide.2 (by rw [List.cons.injEq]; simp only [true_and])
  · have hge := len_nlt hge
    rw [List.drop_of_length_le hge, List.drop_of_length_le (by omega)] at hI
    exact ret0 rfl (by rw [← hI]; rfl)
theorem varsW (l : List T) : varsL l = if treesB l = true then walkVs l [] else [] := by
  unfold varsL
  split
  · rename_i h
    rw [walks_rv l []]
    rw [shapeds_all, List.all_eq_true]
    intro x hx
    exact ((T.tree_iff x).1 (List.all_eq_true.1 h x hx)).2.2
  · rfl
theorem ok_avs (l : List T) : okE 3 (avs l) = True := by
  simp only [okE, eq_iff_iff, iff_true]
  intro y hy
  rw [avs_map] at hy
  obtain ⟨z, _, rfl⟩ := List.mem_map.1 hy
  exact ⟨z.av_clen, z.av_one⟩
end Go.Abs
end
