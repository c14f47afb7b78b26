/- Signatures: their values, and what is checked of an operation. -/
import Derived.Test.YtcfmgncmkbiknaaY04sa
set_option maxRecDepth 100000
set_option linter.unusedSimpArgs false
set_option linter.unusedVariables false
set_option linter.defProp false
namespace Go.Abs
open Go Go.Proofs
structure Opn where
  name : ByteArray
  args : List Int
  res : Int
  deriving Inhabited
structure Sg where
  sorts : List ByteArray
  ops : List Opn
  deriving Inhabited
def Opn.av (o : Opn) : AV := .agg [.str o.name, .lst 0 (ints o.args), .int .i64 o.res]
def opas (l : List Opn) : List AV := l.map Opn.av
def strs (l : List ByteArray) : List AV := l.map AV.str
def Sg.av (s : Sg) : AV := .agg [.lst 0 (strs s.sorts), .lst 0 (opas s.ops)]
theorem opas_len (l : List Opn) : (opas l).length = l.length := by simp [opas]
theorem strs_len (l : List ByteArray) : (strs l).length = l.length := by simp [strs]
theorem opas_blw (n : Nat) (l : List Opn) : belowL n (opas l) = true := by
  rw [belowL_iff]; intro x hx; obtain ⟨y, _, rfl⟩ := List.mem_map.1 hx
  simp [Opn.av, AV.blw, belowL, ints_blw]
theorem strs_blw (n : Nat) (l : List ByteArray) : belowL n (strs l) = true := by
  rw [belowL_iff]; intro x hx; obtain ⟨y, _, rfl⟩ := List.mem_map.1 hx; rfl
theorem Opn.av_blw (n : Nat) (o : Opn) : o.av.blw n = true := by simp [Opn.av, AV.blw, belowL, ints_blw]
theorem Opn.av_val (o : Opn) : o.av.val = true := rfl
theorem Opn.av_one (o : Opn) : o.av.cells.all AV.one = true := rfl
theorem Opn.av_unown (o : Opn) : o.av.unown = o.av := rfl
theorem Opn.av_drop (o : Opn) : o.av.drop = o.av := rfl
theorem Opn.av_clen (o : Opn) : o.av.cells.length = 3 := rfl
theorem Sg.av_blw (n : Nat) (o : Sg) : o.av.blw n = true := by simp [Sg.av, AV.blw, belowL, strs_blw, opas_blw]
theorem Sg.av_val (o : Sg) : o.av.val = true := rfl
theorem Sg.av_one (o : Sg) : o.av.cells.all AV.one = true := rfl
theorem Sg.av_unown (o : Sg) : o.av.unown = o.av := rfl
theorem Sg.av_drop (o : Sg) : o.av.drop = o.av := rfl
theorem Sg.av_clen (o : Sg) : o.av.cells.length = 2 := rfl
theorem lens_opas (o : Nat) (l : List Opn) : (∀ (own : Nat) (xs : List AV), AV.lst o (opas l) = AV.lst own xs → ∀ z ∈ xs, z.cells.length = 3) = True := by
  simp only [eq_iff_iff, iff_true]
  intro own xs e z hz
  cases e
  obtain ⟨y, _, rfl⟩ := List.mem_map.1 hz
  rfl
theorem lens_strs (o : Nat) (l : List ByteArray) : (∀ (own : Nat) (xs : List AV), AV.lst o (strs l) = AV.lst own xs → ∀ z ∈ xs, z.cells.length = 1) = True := by
  simp only [eq_iff_iff, iff_true]
  intro own xs e z hz
  cases e
  obtain ⟨y, _, rfl⟩ := List.mem_map.1 hz
  rfl
theorem idx_opas (e o : Nat) (l : List Opn) (k : IntKind) (i : Nat) (φ : AV → Prop) : aindexAddr e (.lst o (opas l)) (.int k (i : Int)) φ = (i < l.length ∧ φ (.iptr (l.getD i default).av)) := by
  simp only [aindexAddr, opas_len, Int.toNat_natCast, eq_iff_iff]
  constructor
  · rintro ⟨_, h, h2⟩; refine ⟨h, ?_⟩; simpa [opas, h] using h2
  · rintro ⟨h, h2⟩; refine ⟨by omega, h, ?_⟩; simpa [opas, h] using h2
theorem idx_strs (e o : Nat) (l : List ByteArray) (k : IntKind) (i : Nat) (φ : AV → Prop) : aindexAddr e (.lst o (strs l)) (.int k (i : Int)) φ = (i < l.length ∧ φ (.iptr (.str (l.getD i default)))) := by
  simp only [aindexAddr, strs_len, Int.toNat_natCast, eq_iff_iff]
  constructor
  · rintro ⟨_, h, h2⟩; refine ⟨h, ?_⟩; simpa [strs, h] using h2
  · rintro ⟨h, h2⟩; refine ⟨by omega, h, ?_⟩; simpa [strs, h] using h2
theorem li_op (o : Opn) (H : List AObj) (φ : AV → Prop) : aload (some 3) (.iptr o.av) H φ = φ o.av := by simp [aload, Opn.av, AV.cells, AV.drop]
theorem li_sg (o : Sg) (H : List AObj) (φ : AV → Prop) : aload (some 2) (.iptr o.av) H φ = φ o.av := by simp [aload, Sg.av, AV.cells, AV.drop]
theorem fo0 (x : Opn) (φ : AV → Prop) : afieldAddr 0 none (.iptr x.av) φ = φ (.iptr (.str x.name)) := by simp [afieldAddr, apart, Opn.av, AV.cells, AV.one]
theorem fo1 (x : Opn) (φ : AV → Prop) : afieldAddr 1 none (.iptr x.av) φ = φ (.iptr (.lst 0 (ints x.args))) := by simp [afieldAddr, apart, Opn.av, AV.cells, AV.one]
theorem fo2 (x : Opn) (φ : AV → Prop) : afieldAddr 2 none (.iptr x.av) φ = φ (.iptr (.int .i64 x.res)) := by simp [afieldAddr, apart, Opn.av, AV.cells, AV.one]
theorem fs0 (x : Sg) (φ : AV → Prop) : afieldAddr 0 none (.iptr x.av) φ = φ (.iptr (.lst 0 (strs x.sorts))) := by simp [afieldAddr, apart, Sg.av, AV.cells, AV.one]
theorem fs1 (x : Sg) (φ : AV → Prop) : afieldAddr 1 none (.iptr x.av) φ = φ (.iptr (.lst 0 (opas x.ops))) := by simp [afieldAddr, apart, Sg.av, AV.cells, AV.one]
def stepsO := (And.intro (And.intro (And.intro (And.intro @opas_len @strs_len) (And.intro @opas_blw @strs_blw)) (And.intro (And.intro @Opn.av_blw @Opn.av_val) (And.intro (And.intro @Opn.av_one @Opn.av_unown) (And.intro @Opn.av_drop @Opn.av_clen)))) (And.intro (And.intro (And.intro (And.intro @Sg.av_blw @Sg.av_val) (And.intro (And.intro @Sg.av_one @Sg.av_unown) (And.intro @Sg.av_drop @Sg.av_clen))) (And.intro (And.intro @lens_opas @lens_strs) (And.intro @idx_opas @idx_strs))) (And.intro (And.intro @li_op @li_sg) (And.intro (And.intro @fo0 @fo1) (And.intro @fo2 (And.intro @fs0 @fs1))))))
/-! ### Lists of numbers, by a property -/
def idxI (p : Int → Bool) : List Int → Int → Int
  | [], _ => -1
  | x :: r, k => if p x = true then k else idxI p r (k + 1)
theorem idxI_any (p : Int → Bool) : ∀ (l : List Int) (k : Int), 0 ≤ k → (decide (0 ≤ idxI p l k) = l.any p)
  | [], k, _ => by simp [idxI]
  | x :: r, k, h => by
    simp only [idxI, List.any_cons]
    split
    · rename_i hp; simp [hp, h]
    · rename_i hp; simp [hp, idxI_any p r (k + 1) (by omega)]
theorem idxI_drop {p : Int → Bool} {l : List Int} {i : Nat} {k : Int} (h : i < l.length) : idxI p (l.drop i) k = if p (l.getD i 0) = true then k else idxI p (l.drop (i + 1)) (k + 1) := by
  rw [List.drop_eq_getElem_cons h]
  simp [idxI, h]
theorem c98 (g : Nat) (cap : List AV) (hcap : cap.map AV.unown = cap) (hb : belowL 0 cap = true) (p : Int → Bool) (l : List Int) (hf : ∀ x ∈ l, Pure Try.prog g ([.int .i64 x] ++ cap) (.bool (p x))) :
    Pure Try.prog 98 [.lst 0 (ints l), .fn (.func g) [] cap] (.int .i64 (idxI p l 0)) := by
  refine fun H => ok98.calls (by simp [fi98]) ?_
  simp only [fi98, ir98]
  simp (contextual := true) (maxSteps := 1000000) only [hcap, stepsS, stepsT, stepsN, if_true, forall_const, ne_eq, implies_true, List.nil_append, List.append_nil, List.cons_append, List.length_cons, List.length_nil, Nat.reduceEqDiff, Nat.reduceAdd, Nat.reduceLT, Nat.reduceLeDiff, ↓reduceIte, reduceCtorEq, Int.reduceEq, Int.reduceLT]
  intro hl
  refine swp_loop_nat l.length (fun i => idxI p (l.drop i) i = idxI p l 0) (fun i => [(0, .lst 0 (ints l)), (1, .fn (.func g) [] cap), (7, .int .i64 l.length), (8, .int .i64 i)]) (fun _ => H) ⟨rfl, sle_refl _ _ _⟩ fun i hi hI => ?_
  simp (contextual := true) (maxSteps := 1000000) only [hcap, stepsS, stepsT, stepsN, if_true, forall_const, ne_eq, implies_true, List.nil_append, List.append_nil, List.cons_append, List.length_cons, List.length_nil, Nat.reduceEqDiff, Nat.reduceAdd, Nat.reduceLT, Nat.reduceLeDiff, ↓reduceIte, reduceCtorEq, Int.reduceEq, Int.reduceLT]
  refine ⟨fun hlt => ?_, fun hge => ?_⟩
  · have hlt := len_lt hlt
    rw [idxI_drop hlt] at hI
    refine ⟨hlt, scall_pure (hf _ ?_) ?_⟩
    · simp [hlt]
    simp (contextual := true) (maxSteps := 1000000) only [hcap, stepsS, stepsT, stepsN, if_true, forall_const, ne_eq, implies_true, List.nil_append, List.append_nil, List.cons_append, List.length_cons, List.length_nil, Nat.reduceEqDiff, Nat.reduceAdd, Nat.reduceLT, Nat.reduceLeDiff, ↓reduceIte, reduceCtorEq, Int.reduceEq, Int.reduceLT]
    refine scond_b (fun hb => ?_) (fun hb => ?_) <;> simp (contextual := true) (maxSteps := 1000000) only [hcap, stepsS, stepsT, stepsN, if_true, forall_const, ne_eq, implies_true, List.nil_append, List.append_nil, List.cons_append, List.length_cons, List.length_nil, Nat.reduceEqDiff, Nat.reduceAdd, Nat.reduceLT, Nat.reduceLeDiff, ↓reduceIte, reduceCtorEq, Int.reduceEq, Int.reduceLT]
    · rw [if_pos hb] at hI
      exact ret0 rfl (by rw [← hI])
    · rw [if_neg (by rw [hb]; simp)] at hI
      exact ⟨i + 1, ⟨hlt, hI⟩, by omega, sle_eq (by rw [wrap_nat i (by omega)]) rfl⟩
  · rw [List.drop_of_length_le (len_nlt hge)] at hI
    exact ret0 rfl (by rw [← hI]; rfl)
theorem c66 (g : Nat) (cap : List AV) (hcap : cap.map AV.unown = cap) (hb : belowL 0 cap = true) (p : Int → Bool) (l : List Int) (hf : ∀ x ∈ l, Pure Try.prog g ([.int .i64 x] ++ cap) (.bool (p x))) :
    Pure Try.prog 66 [.lst 0 (ints l), .fn (.func g) [] cap] (.bool (l.any p)) := by
  refine fun H => ok66.calls (by simp [fi66]) ?_
  simp only [fi66, ir66]
  simp (contextual := true) (maxSteps := 1000000) only [hcap, stepsS, stepsT, stepsN, if_true, forall_const, ne_eq, implies_true, List.nil_append, List.append_nil, List.cons_append, List.length_cons, List.length_nil, Nat.reduceEqDiff, Nat.reduceAdd, Nat.reduceLT, Nat.reduceLeDiff, ↓reduceIte, reduceCtorEq, Int.reduceEq, Int.reduceLT]
  refine scall_pure (c98 g cap hcap hb p l hf) ?_
  simp (contextual := true) (maxSteps := 1000000) only [stepsS, stepsT, stepsN, if_true, forall_const, ne_eq, implies_true, List.nil_append, List.append_nil, List.cons_append, List.length_cons, List.length_nil, Nat.reduceEqDiff, Nat.reduceAdd, Nat.reduceLT, Nat.reduceLeDiff, ↓reduceIte, reduceCtorEq, Int.reduceEq, Int.reduceLT]
  exact ret0 rfl (by rw [idxI_any p l 0 (by omega)])
end Go.Abs
