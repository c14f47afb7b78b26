/- Part 8 of 10 of the proof. -/
import Derived.Test.YtcfmgncmkbiknaaPag
import Derived.Test.YtcfmgncmkbiknaaPae
import Derived.KernelRfl
import Derived.SizedLaws
import Derived.Test.YtcfmgncmkbiknaaProg
section
/- The readings of trees. -/
set_option maxRecDepth 100000
set_option linter.unusedSimpArgs false
namespace Go.Abs
open Go Go.RowKit

mutual
/-- Its numbers are those of a machine, its lists are not too long. -/
def T.wf : T → Prop
  | .mk k n l => (-9223372036854775808 ≤ k ∧ k ≤ 9223372036854775807) ∧ (-9223372036854775808 ≤ n ∧ n ≤ 9223372036854775807) ∧ l.length ≤ 9223372036854775807 ∧ wfs l
def wfs : List T → Prop
  | [] => True
  | x :: r => x.wf ∧ wfs r
end
theorem wfs_iff : ∀ l : List T, wfs l ↔ ∀ x ∈ l, x.wf
  | [] => by simp [wfs]
  | x :: r => by simp [wfs, wfs_iff r]

section
variable {H : Type} {enc : TypeId × Value → H} {P : Program} {w : World} {base : Nat} {sp : Nat → Bool} {held : Bool}

/-- The types of a tree: of a number, of a tree, of a list of trees. -/
structure TreeTy (P : Program) (ti tt tl : TypeId) : Prop where
  int : P.underlying ti = some (.int .i64)
  tree : ∃ f0 f1 f2 : Field, P.underlying tt = some (.struct #[f0, f1, f2]) ∧ f0.type = ti ∧ f0.offset = 0 ∧ f1.type = ti ∧ f1.offset = 1 ∧ f2.type = tl ∧ f2.offset = 2
  list : P.underlying tl = some (.slice tt)
  c1 : P.cellsOf ti = 1
  c3 : P.cellsOf tt = 3
  cl : P.cellsOf tl = 1

theorem i64_wf {n : Int} (h : (Lit.int .i64 n).wf = true) : -9223372036854775808 ≤ n ∧ n ≤ 9223372036854775807 := by
  simp only [Lit.wf, Bool.and_eq_true, decide_eq_true_eq] at h
  revert h
  simp [IntKind.has, IntKind.min, IntKind.max, IntKind.signed, IntKind.bits]

theorem range_list {n : Nat} {p : Nat → T → Prop} (h : ∀ i, i < n → ∃ t, p i t) : ∃ f : Nat → T, ∀ i, i < n → p i (f i) := by
  refine ⟨fun i => if hi : i < n then Classical.choose (h i hi) else default, fun i hi => ?_⟩
  simp only [dif_pos hi]
  exact Classical.choose_spec (h i hi)

def isT (w : World) (cs : List Value) (t : T) : Prop := RepL (memOf w) [] cs t.av.cells ∧ t.wf
def isTs (w : World) (cs : List Value) (l : List T) : Prop := (∃ v, cs = [v] ∧ (∃ y, Rep (memOf w) [] v y ∧ (y = .lst 0 (avs l) ∨ (y = .nils ∧ l = [])))) ∧ l.length ≤ 9223372036854775807 ∧ wfs l
theorem isTs.rep {cs : List Value} {l : List T} (h : isTs w cs l) : ∃ v, cs = [v] ∧ Rep (memOf w) [] v (.lst 0 (avs l)) := by
  obtain ⟨⟨v, rfl, y, hr, hy⟩, _⟩ := h
  refine ⟨v, rfl, ?_⟩
  rcases hy with rfl | ⟨rfl, rfl⟩
  · exact hr
  · exact hr.drop
/-- The datum of a list, and how many. -/
def tsLen (d : DataW H) (l : List T) : Prop := match d with | .slice es _ => l.length = es.length | _ => l = []
theorem trod_tree {ti tt tl : TypeId} (hT : TreeTy P ti tt tl) : ∀ (fuel : Nat),
    (∀ (cs : List Value) (x : DataW H × List MemPlace), DataW.trod enc P w base sp held fuel tt cs = some x → ∃ t : T, isT w cs t) ∧
    (∀ (cs : List Value) (x : DataW H × List MemPlace), DataW.trod enc P w base sp held fuel tl cs = some x → ∃ l : List T, isTs w cs l ∧ tsLen x.1 l) := by
  intro fuel
  induction fuel with
  | zero => exact ⟨fun cs x h => by simp [DataW.trod] at h, fun cs x h => by simp [DataW.trod] at h⟩
  | succ n ih =>
    refine ⟨fun cs x h => ?_, fun cs x h => ?_⟩
    · obtain ⟨f0, f1, f2, hu, h0, o0, h1, o1, h2, o2⟩ := hT.tree
      obtain ⟨xs, m, hm, rfl, hlen, hxs, hf⟩ := DataW.trod_struct hu h
      cases hm
      have g0 := hf 0 f0 rfl
      have g1 := hf 1 f1 rfl
      have g2 := hf 2 f2 rfl
      rw [h0, o0, hT.c1] at g0
      rw [h1, o1, hT.c1] at g1
      rw [h2, o2, hT.cl] at g2
      simp at hxs
      rw [hT.c3] at hlen
      match cs, hlen with
      | [a, b, c], _ =>
        have e0 : xs[0]? = some xs[0] := by simp [hxs]
        have e1 : xs[1]? = some xs[1] := by simp [hxs]
        have e2 : xs[2]? = some xs[2] := by simp [hxs]
        rw [e0] at g0; rw [e1] at g1; rw [e2] at g2
        obtain ⟨k, ek, _, wk⟩ := DataW.trod_int hT.int g0
        obtain ⟨q, eq, _, wq⟩ := DataW.trod_int hT.int g1
        obtain ⟨l, hl, _⟩ := ih.2 _ _ g2
        obtain ⟨v, ev, hv⟩ := hl.rep
        simp at ek eq ev
        subst ek eq ev
        exact ⟨.mk k q l, .cons _ _ _ _ (.int _ _) (.cons _ _ _ _ (.int _ _) (.cons _ _ _ _ hv .nil)), i64_wf wk, i64_wf wq, hl.2.1, hl.2.2⟩
    · rcases DataW.trod_slice hT.list h with ⟨rfl, rfl⟩ | ⟨a, len, cap, elems, rest, m, hm, rfl, rfl, hb, hle, hcap, hel, hget, _, _⟩
      · exact ⟨[], ⟨⟨_, rfl, .nils, .nils, .inr ⟨rfl, rfl⟩⟩, by simp, trivial⟩, rfl⟩
      cases hm
      rw [hT.c3] at hget
      have hex : ∀ i, i < len → ∃ t : T, ∃ cs', w.cells? base (a.add (i * 3)) 3 = some cs' ∧ isT w cs' t := by
        intro i hi
        have := hget i hi
        rw [List.getElem?_eq_getElem (by omega)] at this
        obtain ⟨cs', k1, k2⟩ := Option.bind_eq_some_iff.1 this
        obtain ⟨t, ht⟩ := ih.1 _ _ k2
        exact ⟨t, cs', k1, ht⟩
      obtain ⟨f, hf⟩ := range_list hex
      have hmx : maxLen = 9223372036854775807 := rfl
      refine ⟨(List.range len).map f, ⟨⟨_, rfl, _, ?_, .inl rfl⟩, by simp; omega, ?_⟩, by simp [tsLen, hel]⟩
      · rw [avs_map, List.map_map]
        refine rep_slice (e := 3) (base := base) (by decide) hle hcap (fun i => if hi : i < len then Classical.choose (hf i hi) else []) _ fun i hi => ?_
        simp only [dif_pos hi]
        obtain ⟨k1, k2⟩ := Classical.choose_spec (hf i hi)
        exact ⟨k1, k2.1⟩
      · rw [wfs_iff]
        intro x hx
        obtain ⟨i, hi, rfl⟩ := List.mem_map.1 hx
        obtain ⟨cs', _, k2⟩ := hf i (List.mem_range.1 hi)
        exact k2.2
theorem open_T {ti tt tl : TypeId} (hT : TreeTy P ti tt tl) {r : Reach} {b0 : Nat} {v : Value} {d : DataW H} {ps : List MemPlace} (hval : Value.okWide P w r b0 tt v) (hd : DataW.Trod enc P w base sp held tt v d ps) :
    ∃ t : T, Rep (memOf w) [] v t.av ∧ t.wf := by
  obtain ⟨f0, f1, f2, hu, _⟩ := hT.tree
  obtain ⟨cs, rfl, _⟩ := WideShapes.okWide_struct hu hval
  obtain ⟨fuel, hf⟩ := hd
  obtain ⟨t, h1, h2⟩ := (trod_tree hT fuel).1 _ _ hf
  refine ⟨t, ?_, h2⟩
  have : Rep (memOf w) [] (.agg cs.toList.toArray) (.agg t.av.cells) := .agg _ _ h1
  rw [t.agg_cells] at this
  simpa using this
end
end Go.Abs
end
section
/- SigShifts: what Shift does, and the law. -/
set_option maxRecDepth 100000
set_option linter.unusedSimpArgs false
set_option linter.unusedVariables false
namespace Go.Abs
open Go Go.Proofs
mutual
/-- The numbers of its variables. -/
def T.fv : T → List Int
  | .mk k n l => if k = 1 then n :: fvs l else fvs l
def fvs : List T → List Int
  | [] => []
  | x :: r => x.fv ++ fvs r
end
mutual
theorem fv_shaped : ∀ (x : T), x.shaped = true → ∀ v ∈ x.fv, 0 ≤ v
  | .mk k n l, h, v, hv => by
    rw [T.shaped_eq] at h
    simp only [T.k, T.n, T.l, Bool.and_eq_true, Bool.not_eq_true', Bool.or_eq_false_iff, decide_eq_false_iff_not] at h
    simp only [T.fv] at hv
    split at hv
    · rcases List.mem_cons.1 hv with rfl | hv
      · have h9 := h.1.1.1.1
        exact Int.not_lt.1 (of_decide_eq_false h9)
      · exact fvs_shaped l h.2 v hv
    · exact fvs_shaped l h.2 v hv
theorem fvs_shaped : ∀ (l : List T), shapeds l = true → ∀ v ∈ fvs l, 0 ≤ v
  | [], _, v, hv => by cases hv
  | x :: r, h, v, hv => by
    simp only [shapeds, Bool.and_eq_true] at h
    simp only [fvs, List.mem_append] at hv
    rcases hv with hv | hv
    · exact fv_shaped x h.1 v hv
    · exact fvs_shaped r h.2 v hv
end
/-- A variable has nothing below it. -/
theorem shaped_var {k n : Int} {l : List T} (h : (T.mk k n l).shaped = true) (hk : k = 1) : l = [] := by
  rw [T.shaped_eq] at h
  simp only [T.k, T.n, T.l, Bool.and_eq_true, Bool.not_eq_true', Bool.or_eq_false_iff, decide_eq_false_iff_not, Bool.and_eq_false_iff] at h
  cases l with
  | nil => rfl
  | cons x r =>
    rcases h.1.1.1.2 with h2 | h2
    · simp [hk] at h2
    · simp at h2
theorem shaped_sub {k n : Int} {l : List T} (h : (T.mk k n l).shaped = true) : shapeds l = true := by
  rw [T.shaped_eq, Bool.and_eq_true] at h
  exact h.2
def ren (g : Int → Int) (t : T) : T := mapT (fun n => .mk 1 (g n) []) t
mutual
theorem map_ext {f g : Int → T} : ∀ (x : T), (∀ v ∈ x.fv, f v = g v) → mapT f x = mapT g x
  | .mk k n l, h => by
    simp only [mapT]
    simp only [T.fv] at h
    by_cases hk : k = 1
    · rw [if_pos hk, if_pos hk]
      rw [if_pos hk] at h
      exact h n (by simp)
    · rw [if_neg hk, if_neg hk]
      rw [if_neg hk] at h
      rw [maps_ext l h]
theorem maps_ext {f g : Int → T} : ∀ (l : List T), (∀ v ∈ fvs l, f v = g v) → mapTs f l = mapTs g l
  | [], _ => rfl
  | x :: r, h => by
    simp only [fvs, List.mem_append] at h
    simp only [mapTs]
    rw [map_ext x (fun v hv => h v (.inl hv)), maps_ext r (fun v hv => h v (.inr hv))]
end
mutual
theorem ren_id : ∀ (x : T), x.shaped = true → ren (fun n => n) x = x
  | .mk k n l, h => by
    simp only [ren, mapT]
    by_cases hk : k = 1
    · rw [if_pos hk, shaped_var h hk, hk]
    · rw [if_neg hk, rens_id l (shaped_sub h)]
theorem rens_id : ∀ (l : List T), shapeds l = true → mapTs (fun n => .mk 1 n []) l = l
  | [], _ => rfl
  | x :: r, h => by
    simp only [shapeds, Bool.and_eq_true] at h
    simp only [mapTs]
    have h1 := ren_id x h.1
    unfold ren at h1
    rw [h1, rens_id r h.2]
end
/-! ### Shift, in one's head -/
end Go.Abs
end
section
/- Size, Compare, Vars, Ground: both ways. -/
set_option maxRecDepth 100000
set_option linter.unusedSimpArgs false
set_option linter.unusedVariables false
namespace Go.Abs
open Go Go.Proofs
def sizeS (t : T) : Int × Int := if t.sz ≤ 2000 ∧ t.dp ≤ 200 then (t.sz, t.dp) else (2001, 201)
theorem cnt0 (t : T) : (¬ over (cntT t 1 (0, 0)) ↔ t.sz ≤ 2000 ∧ t.dp ≤ 200) ∧ (¬ over (cntT t 1 (0, 0)) → cntT t 1 (0, 0) = (t.sz, t.dp)) := by
  have h := cntT_spec t 1 (0, 0) (by unfold cntOk; simp)
  have hd := t.dp_pos
  refine ⟨h.1.trans ⟨fun k => ⟨by omega, by omega⟩, fun k => ⟨by simp only; omega, by omega⟩⟩, fun k => ?_⟩
  have := h.2 k
  exact Prod.ext (by simpa using this.1) (by have := this.2; simp only at this ⊢; omega)
theorem c34 (t : T) : Pure Try.prog 34 [t.av] (.tuple [.int .i64 (sizeS t).1, .int .i64 (sizeS t).2]) := by
  refine fun H => ok34.calls (by simp [fi34]) ?_
  simp only [fi34, ir34]
  simp (contextual := true) (maxSteps := 1000000) only [stepsS, stepsT, stepsN, if_true, forall_const, ne_eq, implies_true, List.nil_append, List.append_nil, List.cons_append, List.length_cons, List.length_nil, Nat.reduceEqDiff, Nat.reduceAdd, Nat.reduceLT, Nat.reduceLeDiff, ↓reduceIte, reduceCtorEq, Int.reduceEq, Int.reduceLT]
  refine scall_to (c80 H t 1 (0, 0) (by unfold cntOk; simp)) ?_
  rintro r H' ⟨rfl, rfl⟩
  simp (contextual := true) (maxSteps := 1000000) only [stepsS, stepsT, stepsN, if_true, forall_const, ne_eq, implies_true, List.nil_append, List.append_nil, List.cons_append, List.length_cons, List.length_nil, Nat.reduceEqDiff, Nat.reduceAdd, Nat.reduceLT, Nat.reduceLeDiff, ↓reduceIte, reduceCtorEq, Int.reduceEq, Int.reduceLT]
  refine scall_to (c81 H (cntT t 1 (0, 0))) ?_
  rintro r H' ⟨rfl, rfl⟩
  have h0 := cnt0 t
  cases hb : overB (cntT t 1 (0, 0)) with
  | true =>
    have hn : ¬ (t.sz ≤ 2000 ∧ t.dp ≤ 200) := fun h => h0.1.2 h ((overB_iff _).1 hb)
    simp (contextual := true) (maxSteps := 1000000) only [cntObj, stepsS, stepsT, stepsN, if_true, forall_const, ne_eq, implies_true, List.nil_append, List.append_nil, List.cons_append, List.length_cons, List.length_nil, Nat.reduceEqDiff, Nat.reduceAdd, Nat.reduceLT, Nat.reduceLeDiff, ↓reduceIte, reduceCtorEq, Int.reduceEq, Int.reduceLT]
    exact ret22 (by decide) rfl rfl (by rw [sizeS, if_neg hn]; rfl) (by rw [sizeS, if_neg hn]; rfl)
  | false =>
    have hn : ¬ over (cntT t 1 (0, 0)) := fun h => by rw [(overB_iff _).2 h] at hb; cases hb
    have h1 := h0.1.1 hn
    rw [h0.2 hn]
    simp (contextual := true) (maxSteps := 1000000) only [cntObj, stepsS, stepsT, stepsN, if_true, forall_const, ne_eq, implies_true, List.nil_append, List.append_nil, List.cons_append, List.length_cons, List.length_nil, Nat.reduceEqDiff, Nat.reduceAdd, Nat.reduceLT, Nat.reduceLeDiff, ↓reduceIte, reduceCtorEq, Int.reduceEq, Int.reduceLT]
    exact ret22 (by decide) rfl rfl (by rw [sizeS, if_pos h1]; rfl) (by rw [sizeS, if_pos h1]; rfl)
/-! ### Compare -/
/-! ### SameInts, Vars, Ground -/
theorem c37 (a b : List Int) (o o' : Nat) : Pure Try.prog 37 [.lst o (ints a), .lst o' (ints b)] (.bool (decide (a = b))) := by
  refine fun H => ok37.calls (by simp [fi37]) ?_
  simp only [fi37, ir37]
  simp (contextual := true) (maxSteps := 1000000) only [stepsS, stepsT, stepsN, if_true, forall_const, ne_eq, implies_true, List.nil_append, List.append_nil, List.cons_append, List.length_cons, List.length_nil, Nat.reduceEqDiff, Nat.reduceAdd, Nat.reduceLT, Nat.reduceLeDiff, ↓reduceIte, reduceCtorEq, Int.reduceEq, Int.reduceLT]
  refine fun _ _ => ⟨fun hne => ret0 rfl ?_, fun hl => ?_⟩
  · rw [decide_eq_false]
    intro h; subst h; exact hne rfl
  have hl : a.length = b.length := by omega
  refine swp_loop_nat a.length (fun i => decide (a.drop i = b.drop i) = decide (a = b)) (fun i => [(0, .lst o (ints a)), (1, .lst o' (ints b)), (5, .int .i64 i)]) (fun i => H) ⟨rfl, sle_refl _ _ _⟩ fun i hi hI => ?_
  simp (contextual := true) (maxSteps := 1000000) only [stepsS, stepsT, stepsN, if_true, forall_const, ne_eq, implies_true, List.nil_append, List.append_nil, List.cons_append, List.length_cons, List.length_nil, Nat.reduceEqDiff, Nat.reduceAdd, Nat.reduceLT, Nat.reduceLeDiff, ↓reduceIte, reduceCtorEq, Int.reduceEq, Int.reduceLT]
  intro _
  refine ⟨fun hlt => ⟨len_lt hlt, ?_⟩, fun hge => ?_⟩
  · have hlt := len_lt hlt
    have hlt2 : i < b.length := by omega
    rw [List.drop_eq_getElem_cons hlt, List.drop_eq_getElem_cons hlt2] at hI
    have e1 : a.getD i 0 = a[i] := by simp [hlt]
    have e2 : b.getD i 0 = b[i] := by simp [hlt2]
    rw [e1, e2]
    refine ⟨hlt2, fun hne => ret0 rfl ?_, fun he => ⟨i + 1, ⟨hlt, ?_⟩, by omega, sle_eq (by rw [wrap_nat i (by omega)]) rfl⟩⟩
    · rw [← hI, decide_eq_false]
      intro h; exact hne (List.cons.inj h).1
    · rw [← hI, he]
      exact decide_eq_decide.2 (by rw [List.cons.injEq]; simp only [true_and])
  · have hge := len_nlt hge
    rw [List.drop_of_length_le hge, List.drop_of_length_le (by omega)] at hI
    exact ret0 rfl (by rw [← hI]; rfl)
theorem ok_avs (l : List T) : okE 3 (avs l) = True := by
  simp only [okE, eq_iff_iff, iff_true]
  intro y hy
  rw [avs_map] at hy
  obtain ⟨z, _, rfl⟩ := List.mem_map.1 hy
  exact ⟨z.av_clen, z.av_one⟩
end Go.Abs
end
section
/- Subst. -/
set_option maxRecDepth 100000
set_option linter.unusedSimpArgs false
set_option linter.unusedVariables false
namespace Go.Abs
open Go Go.Proofs
theorem c100 (n : Int) : Pure Try.prog 100 [.int .i64 n] (T.mk 1 n []).av := by
  refine fun H => ok100.calls (by simp [fi100]) ?_
  simp only [fi100, ir100]
  simp (contextual := true) (maxSteps := 1000000) only [stepsS, stepsT, stepsN, if_true, forall_const, ne_eq, implies_true, List.nil_append, List.append_nil, List.cons_append, List.length_cons, List.length_nil, Nat.reduceEqDiff, Nat.reduceAdd, Nat.reduceLT, Nat.reduceLeDiff, ↓reduceIte, reduceCtorEq, Int.reduceEq, Int.reduceLT]
  exact ret1v (T.av_blw _ (.mk 1 n [])) rfl
theorem c75 (t : T) (h : t.shaped = true) : Pure Try.prog 75 [t.av] t.av := by
  refine fun H => ok75.calls (by simp [fi75]) ?_
  simp only [fi75, ir75]
  simp (contextual := true) (maxSteps := 1000000) only [stepsS, stepsT, stepsN, if_true, forall_const, ne_eq, implies_true, List.nil_append, List.append_nil, List.cons_append, List.length_cons, List.length_nil, Nat.reduceEqDiff, Nat.reduceAdd, Nat.reduceLT, Nat.reduceLeDiff, ↓reduceIte, reduceCtorEq, Int.reduceEq, Int.reduceLT]
  refine scall_pure (c77 100 [] (fun n => .mk 1 n []) t rfl rfl (fun n => c100 n) h) ?_
  have e : mapT (fun n => .mk 1 n []) t = t := ren_id t h
  rw [e]
  simp (contextual := true) (maxSteps := 1000000) only [stepsS, stepsT, stepsN, if_true, forall_const, ne_eq, implies_true, List.nil_append, List.append_nil, List.cons_append, List.length_cons, List.length_nil, Nat.reduceEqDiff, Nat.reduceAdd, Nat.reduceLT, Nat.reduceLeDiff, ↓reduceIte, reduceCtorEq, Int.reduceEq, Int.reduceLT]
  exact ret1v (T.av_blw _ t) rfl
def boundS (t : T) : T × Int := if t.tree = true then (t, 0) else (T0, 2)
theorem c59 (t : T) : Pure Try.prog 59 [t.av] (.tuple [(boundS t).1.av, .int .i64 (boundS t).2]) := by
  refine fun H => ok59.calls (by simp [fi59]) ?_
  simp only [fi59, ir59]
  simp (contextual := true) (maxSteps := 1000000) only [stepsS, stepsT, stepsN, if_true, forall_const, ne_eq, implies_true, List.nil_append, List.append_nil, List.cons_append, List.length_cons, List.length_nil, Nat.reduceEqDiff, Nat.reduceAdd, Nat.reduceLT, Nat.reduceLeDiff, ↓reduceIte, reduceCtorEq, Int.reduceEq, Int.reduceLT]
  refine scall_pure (c57 t) ?_
  cases h : t.tree with
  | true =>
    simp (contextual := true) (maxSteps := 1000000) only [stepsS, stepsT, stepsN, if_true, forall_const, ne_eq, implies_true, List.nil_append, List.append_nil, List.cons_append, List.length_cons, List.length_nil, Nat.reduceEqDiff, Nat.reduceAdd, Nat.reduceLT, Nat.reduceLeDiff, ↓reduceIte, reduceCtorEq, Int.reduceEq, Int.reduceLT]
    exact ret2v (T.av_blw _ _) rfl (by rw [boundS, if_pos h]; exact t.av_unown) (by rw [boundS, if_pos h]; rfl)
  | false =>
    simp (contextual := true) (maxSteps := 1000000) only [stepsS, stepsT, stepsN, if_true, forall_const, ne_eq, implies_true, List.nil_append, List.append_nil, List.cons_append, List.length_cons, List.length_nil, Nat.reduceEqDiff, Nat.reduceAdd, Nat.reduceLT, Nat.reduceLeDiff, ↓reduceIte, reduceCtorEq, Int.reduceEq, Int.reduceLT]
    exact ret2v (T.av_blw _ _) rfl (by rw [boundS, if_neg (by rw [h]; simp)]; rfl) (by rw [boundS, if_neg (by rw [h]; simp)]; rfl)
def sub (l : List T) (t : T) : T := mapT (fun n => l.getD n.toNat default) t
end Go.Abs
end
section
/- Subst; what is behind what. -/
set_option maxRecDepth 100000
set_option linter.unusedSimpArgs false
set_option linter.unusedVariables false
namespace Go.Abs
open Go Go.Proofs
end Go.Abs
end
section
/- SigBehind's walk. -/
set_option maxRecDepth 100000
set_option linter.unusedSimpArgs false
set_option linter.unusedVariables false
namespace Go.Abs
open Go Go.Proofs
mutual
theorem map_map {f g : Int → T} : ∀ (x : T), mapT f (mapT g x) = mapT (fun n => mapT f (g n)) x
  | .mk k n l => by
    simp only [mapT]
    by_cases hk : k = 1
    · rw [if_pos hk, if_pos hk]
    · rw [if_neg hk, if_neg hk]; simp only [mapT, if_neg hk]
      rw [maps_maps l]
theorem maps_maps {f g : Int → T} : ∀ (l : List T), mapTs f (mapTs g l) = mapTs (fun n => mapT f (g n)) l
  | [] => rfl
  | x :: r => by simp only [mapTs]; rw [map_map x, maps_maps r]
end
theorem tree_fv {t : T} (h : t.tree = true) : ∀ v ∈ t.fv, 0 ≤ v := fv_shaped t ((T.tree_iff t).1 h).2.2
theorem sub_sub {t : T} {l m : List T} (ht : t.tree = true) (hv : ∀ v ∈ t.fv, v < (l.length : Int)) : sub m (sub l t) = sub (l.map (sub m)) t := by
  unfold sub
  rw [map_map]
  refine map_ext t fun v h => ?_
  have h0 := tree_fv ht v h
  have h1 := hv v h
  have h2 : v.toNat < l.length := by omega
  simp [h2]
theorem sp_TT (x y : T) : asplice x.av.cells 0 y.av.cells = y.av.cells := by
  cases x; cases y; simp [T.av, AV.cells, asplice]
end Go.Abs
end
section
/- Normal. -/
set_option maxRecDepth 100000
set_option linter.unusedSimpArgs false
set_option linter.unusedVariables false
namespace Go.Abs
open Go Go.Proofs
def pos : Int → List Int → Int → Int
  | _, [], _ => 0
  | k, v :: r, n => if n = v then k else pos (k + 1) r n
end Go.Abs
end
section
/- Normal, in one's head. -/
set_option maxRecDepth 100000
set_option linter.unusedSimpArgs false
set_option linter.unusedVariables false
set_option linter.unusedSectionVars false
namespace Go.Abs
open Go Go.Proofs
/-! ### Where a number stands -/
/-! ### Normal -/
section
variable {l : List T} (hb : treesB l = true)
include hb
end
end Go.Abs
end
section
/- Lists of trees that are written, and match. -/
set_option maxRecDepth 100000
set_option linter.unusedSimpArgs false
set_option linter.unusedVariables false
namespace Go.Abs
open Go Go.Proofs
/-- An object that holds trees, one behind the other. -/
def objL (l : List T) : AObj := .cells (flat (avs l))
theorem flat_cons (x : T) (l : List T) : flat (avs (x :: l)) = x.av.cells ++ flat (avs l) := rfl
theorem flat_len : ∀ l : List T, (flat (avs l)).length = l.length * 3
  | [] => rfl
  | x :: r => by rw [flat_cons, List.length_append, T.av_clen, flat_len r, List.length_cons]; omega
theorem flat_splice (x : T) : ∀ (l : List T) (i : Nat), i < l.length → asplice (flat (avs l)) (i * 3) x.av.cells = flat (avs (l.set i x))
  | [], i, h => by simp at h
  | y :: r, 0, _ => by
    unfold asplice
    simp only [List.set_cons_zero, flat_cons, Nat.zero_mul, List.take_zero, List.nil_append, Nat.zero_add]
    rw [show x.av.cells.length = y.av.cells.length by rw [T.av_clen, T.av_clen], List.drop_left]
  | y :: r, i + 1, h => by
    have ih := flat_splice x r i (by simpa using h)
    unfold asplice at ih ⊢
    rw [List.set_cons_succ, flat_cons, flat_cons, ← ih]
    rw [show (i + 1) * 3 = y.av.cells.length + i * 3 by rw [T.av_clen]; omega, List.take_append, List.drop_append]
    simp only [T.av_clen]
    rw [List.append_assoc]
    congr 1
    · rw [List.take_of_length_le (by rw [T.av_clen]; omega)]
    · rw [show 3 + i * 3 - 3 = i * 3 by omega, List.drop_of_length_le (by rw [T.av_clen]; omega), List.nil_append, show 3 + i * 3 + 3 - 3 = i * 3 + 3 by omega]
theorem storeL {l : List T} {i : Nat} (h : i < l.length) (x : T) (id : Nat) (H : List AObj) (K : List AObj → Prop) : storeC (some (objL l)) 3 id (i * 3) x.av H K = K (H.set id (objL (l.set i x))) := by
  simp only [objL, storeC, T.av_val, T.av_clen, flat_len, T.av_one, T.cells_unown, flat_splice x l i h, bl_T, true_and, eq_iff_iff]
  constructor
  · exact fun h => h.2
  · exact fun h2 => ⟨by omega, h2⟩
theorem idx_arr (id N c i : Nat) (k : IntKind) (φ : AV → Prop) : aindexAddr 3 (.arr id 0 N c) (.int k (i : Int)) φ = (i < N ∧ φ (.ptr id (i * 3))) := by
  simp only [aindexAddr, Int.toNat_natCast, Nat.zero_add, eq_iff_iff]
  constructor
  · rintro ⟨_, h⟩; exact h
  · exact fun h => ⟨by omega, h⟩
theorem un_arr' (id N c o : Nat) : (AV.arr id o N c).unown = .arr id o N c := rfl
theorem rep_flat (n : Nat) : flat (List.replicate n (zcanon (.agg [.int .i64 0, .int .i64 0, .nils]))) = flat (avs (List.replicate n T0)) := by
  induction n with
  | zero => rfl
  | succ n ih => rw [List.replicate_succ, List.replicate_succ, flat_cons, ← ih]; rfl
end Go.Abs
end
section
/- The functions' code, read another way: what is made stays an object. -/
set_option maxRecDepth 100000
namespace Go.Abs
open Go Go.Proofs
end Go.Abs
end
section
/- Match. -/
set_option maxRecDepth 100000
set_option linter.unusedSimpArgs false
set_option linter.unusedVariables false
namespace Go.Abs
open Go Go.Proofs
theorem tree_kids {t : T} (h : t.tree = true) : ∀ y ∈ t.l, y.tree = true := by
  intro y hy
  rw [T.tree_iff] at h ⊢
  cases t with
  | mk k n l =>
    simp only [T.l] at hy
    simp only [T.sz, T.dp] at h
    have h1 : ∀ (l : List T), y ∈ l → y.sz ≤ szs l ∧ y.dp ≤ dps l := by
      intro l
      induction l with
      | nil => intro h; cases h
      | cons x r ih =>
        intro hm
        simp only [szs, dps]
        have := szs_pos r
        have := x.sz_pos
        rcases List.mem_cons.1 hm with rfl | hm
        · omega
        · have := ih hm; omega
    have := h1 l hy
    exact ⟨by omega, by omega, (shaped_kids h.2.2).2 y hy⟩
theorem set_getD {α : Type} [Inhabited α] {l : List α} {i : Nat} (h : i < l.length) : l.set i (l.getD i default) = l := by
  apply List.ext_getElem
  · simp
  · intro j h1 h2
    rw [List.getElem_set]
    split
    · rename_i e; subst e; simp [h]
    · rfl
theorem gd_T2 (x : T) : x.av.cells.getD 2 .any = .lst 0 (avs x.l) := by cases x; rfl
end Go.Abs
end
section
/- ref.Subst. -/
set_option maxRecDepth 100000
set_option linter.unusedSimpArgs false
set_option linter.unusedVariables false
namespace Go.Abs
open Go Go.Proofs
end Go.Abs
end
section
/- Match, in one's head. -/
set_option maxRecDepth 100000
set_option linter.unusedSimpArgs false
set_option linter.unusedVariables false
namespace Go.Abs
open Go Go.Proofs
/-- What is there stays. -/
def keeps (l l' : List T) : Prop := ∀ i, (l.getD i default).k ≠ 0 → l'.getD i default = l.getD i default
theorem keeps.refl (l : List T) : keeps l l := fun i _ => rfl
theorem keeps.trans {a b c : List T} (h1 : keeps a b) (h2 : keeps b c) : keeps a c := fun i h => by
  rw [h2 i (by rw [h1 i h]; exact h), h1 i h]
end Go.Abs
end
section
/- SigInstances' walk. -/
set_option maxRecDepth 100000
set_option linter.unusedSimpArgs false
set_option linter.unusedVariables false
namespace Go.Abs
open Go Go.Proofs
theorem flatL_one : ∀ (l : List T), (flat (avs l)).all AV.one = true
  | [] => rfl
  | x :: r => by rw [flat_cons, List.all_append, T.av_one, flatL_one r]; rfl
def IR.hd : IR → IR | .seq a _ => a | x => x
def IR.tl : IR → IR | .seq _ b => b | x => x
end Go.Abs
end
section
/- At: what stands at a place. -/
set_option maxRecDepth 100000
set_option linter.unusedSimpArgs false
set_option linter.unusedVariables false
namespace Go.Abs
open Go Go.Proofs
/-- What stands at a place. -/
def atT : T → List Int → Option T
  | t, [] => some t
  | t, i :: r => if i < 0 ∨ (t.l.length : Int) ≤ i then none else atT (t.l.getD i.toNat default) r
theorem atT_drop {t : T} {p : List Int} {i : Nat} (h : i < p.length) : atT t (p.drop i) = if p.getD i 0 < 0 ∨ (t.l.length : Int) ≤ p.getD i 0 then none else atT (t.l.getD (p.getD i 0).toNat default) (p.drop (i + 1)) := by
  rw [List.drop_eq_getElem_cons h, atT]
  have e : p.getD i 0 = p[i] := by simp [h]
  rw [e]
theorem c86 (t : T) (p : List Int) : Pure Try.prog 86 [t.av, .lst 0 (ints p)] (.tuple [((atT t p).getD T0).av, .bool (atT t p).isSome]) := by
  refine fun H => ok86.calls (by simp [fi86]) ?_
  simp only [fi86, ir86]
  simp (contextual := true) (maxSteps := 1000000) only [stepsS, stepsT, stepsN, if_true, forall_const, ne_eq, implies_true, List.nil_append, List.append_nil, List.cons_append, List.length_cons, List.length_nil, Nat.reduceEqDiff, Nat.reduceAdd, Nat.reduceLT, Nat.reduceLeDiff, ↓reduceIte, reduceCtorEq, Int.reduceEq, Int.reduceLT]
  intro hp
  refine swp_loop_st p.length (fun i (s : T) => atT s (p.drop i) = atT t p)
    (fun i s => [(2, .ptr H.length 0), (4, .ptr (H.length + 1) 0), (8, .lst 0 (ints p)), (9, .int .i64 p.length), (10, .int .i64 i)]) (fun i s => H ++ [.cells s.av.cells, .cells [.int .i64 0, .int .i64 0, .nils]]) t ⟨rfl, sle_refl _ _ _⟩ fun i s hi hI => ?_
  simp (contextual := true) (maxSteps := 1000000) only [gd_T2, stepsS, stepsT, stepsN, if_true, forall_const, ne_eq, implies_true, List.nil_append, List.append_nil, List.cons_append, List.length_cons, List.length_nil, Nat.reduceEqDiff, Nat.reduceAdd, Nat.reduceLT, Nat.reduceLeDiff, ↓reduceIte, reduceCtorEq, Int.reduceEq, Int.reduceLT]
  refine ⟨fun hlt => ⟨len_lt hlt, fun hk0 _ => ⟨fun hk1 => ?_, fun hk1 => ?_⟩, fun hk0 => ?_⟩, fun hge => ?_⟩
  · have hlt := len_lt hlt
    rw [atT_drop hlt, if_pos (.inr hk1)] at hI
    rw [← hI]
    exact ret2w (G := H) (by simp) (T.av_blw _ T0) rfl rfl rfl ⟨rfl, rfl⟩
  · have hlt := len_lt hlt
    rw [atT_drop hlt, if_neg (by omega)] at hI
    generalize p.getD i 0 = k at *
    obtain ⟨m, rfl⟩ := Int.eq_ofNat_of_zero_le hk0
    have hm : m < s.l.length := by omega
    rw [Int.toNat_natCast] at hI
    simp (contextual := true) (maxSteps := 1000000) only [gd_T2, sp_TT, stepsS, stepsT, stepsN, if_true, forall_const, ne_eq, implies_true, List.nil_append, List.append_nil, List.cons_append, List.length_cons, List.length_nil, Nat.reduceEqDiff, Nat.reduceAdd, Nat.reduceLT, Nat.reduceLeDiff, ↓reduceIte, reduceCtorEq, Int.reduceEq, Int.reduceLT]
    refine ⟨hm, i + 1, s.l.getD m default, ⟨hlt, hI⟩, by omega, sle_eq (by rw [wrap_nat i (by omega)]) rfl⟩
  · have hlt := len_lt hlt
    rw [atT_drop hlt, if_pos (.inl (by omega))] at hI
    rw [← hI]
    exact ret2w (G := H) (by simp) (T.av_blw _ T0) rfl rfl rfl ⟨rfl, rfl⟩
  · rw [List.drop_of_length_le (len_nlt hge)] at hI
    simp only [atT] at hI
    rw [← hI]
    exact ret2w (G := H) (by simp) (T.av_blw _ s) rfl (T.av_unown _) rfl ⟨rfl, rfl⟩
def AtS (t : T) (p : List Int) : T × Int := if t.tree = true then (match atT t p with | some x => (x, 0) | none => (T0, 41)) else (T0, 4)
theorem atT_shaped : ∀ (p : List Int) {t x : T}, t.shaped = true → atT t p = some x → x.shaped = true
  | [], t, x, h, e => by simp only [atT] at e; cases e; exact h
  | i :: r, t, x, h, e => by
    simp only [atT] at e
    split at e
    · cases e
    · exact atT_shaped r ((shaped_kids h).2 _ (mem_getD (by omega))) e
theorem c42 (t : T) (p : List Int) : Pure Try.prog 42 [t.av, .lst 0 (ints p)] (.tuple [(AtS t p).1.av, .int .i64 (AtS t p).2]) := by
  refine fun H => ok42.calls (by simp [fi42]) ?_
  simp only [fi42, ir42]
  simp (contextual := true) (maxSteps := 1000000) only [stepsS, stepsT, stepsN, if_true, forall_const, ne_eq, implies_true, List.nil_append, List.append_nil, List.cons_append, List.length_cons, List.length_nil, Nat.reduceEqDiff, Nat.reduceAdd, Nat.reduceLT, Nat.reduceLeDiff, ↓reduceIte, reduceCtorEq, Int.reduceEq, Int.reduceLT]
  refine scall_pure (c57 t) ?_
  cases ht : t.tree with
  | false =>
    have e : AtS t p = (T0, 4) := by rw [AtS, if_neg (by rw [ht]; simp)]
    rw [e]
    simp (contextual := true) (maxSteps := 1000000) only [Bool.false_eq_true, stepsS, stepsT, stepsN, if_true, forall_const, ne_eq, implies_true, List.nil_append, List.append_nil, List.cons_append, List.length_cons, List.length_nil, Nat.reduceEqDiff, Nat.reduceAdd, Nat.reduceLT, Nat.reduceLeDiff, ↓reduceIte, reduceCtorEq, Int.reduceEq, Int.reduceLT]
    exact ret2w (G := H) (by simp) (T.av_blw _ T0) rfl rfl rfl ⟨rfl, rfl⟩
  | true =>
    have hs := ((T.tree_iff t).1 ht).2.2
    simp (contextual := true) (maxSteps := 1000000) only [stepsS, stepsT, stepsN, if_true, forall_const, ne_eq, implies_true, List.nil_append, List.append_nil, List.cons_append, List.length_cons, List.length_nil, Nat.reduceEqDiff, Nat.reduceAdd, Nat.reduceLT, Nat.reduceLeDiff, ↓reduceIte, reduceCtorEq, Int.reduceEq, Int.reduceLT]
    refine scall_pure (c86 t p) ?_
    have e : AtS t p = (match atT t p with | some x => (x, 0) | none => (T0, 41)) := by rw [AtS, if_pos ht]
    have hx := fun x => @atT_shaped p t x hs
    cases ha : atT t p with
    | none =>
      rw [ha] at e
      rw [e]
      simp (contextual := true) (maxSteps := 1000000) only [Bool.false_eq_true, Option.isSome, Option.getD, stepsS, stepsT, stepsN, if_true, forall_const, ne_eq, implies_true, List.nil_append, List.append_nil, List.cons_append, List.length_cons, List.length_nil, Nat.reduceEqDiff, Nat.reduceAdd, Nat.reduceLT, Nat.reduceLeDiff, ↓reduceIte, reduceCtorEq, Int.reduceEq, Int.reduceLT]
      exact ret2w (G := H) (by simp) (T.av_blw _ T0) rfl rfl rfl ⟨rfl, rfl⟩
    | some x =>
      rw [ha] at e
      rw [e]
      simp (contextual := true) (maxSteps := 1000000) only [Option.isSome, Option.getD, stepsS, stepsT, stepsN, if_true, forall_const, ne_eq, implies_true, List.nil_append, List.append_nil, List.cons_append, List.length_cons, List.length_nil, Nat.reduceEqDiff, Nat.reduceAdd, Nat.reduceLT, Nat.reduceLeDiff, ↓reduceIte, reduceCtorEq, Int.reduceEq, Int.reduceLT]
      refine scall_pure (c75 x (hx x ha)) ?_
      simp (contextual := true) (maxSteps := 1000000) only [sp_TT, stepsS, stepsT, stepsN, if_true, forall_const, ne_eq, implies_true, List.nil_append, List.append_nil, List.cons_append, List.length_cons, List.length_nil, Nat.reduceEqDiff, Nat.reduceAdd, Nat.reduceLT, Nat.reduceLeDiff, ↓reduceIte, reduceCtorEq, Int.reduceEq, Int.reduceLT]
      exact ret2w (G := H) (by simp) (T.av_blw _ x) rfl (T.av_unown _) rfl ⟨rfl, rfl⟩
end Go.Abs
end
section
/- Lists of trees that stay objects: appended to. -/
set_option maxRecDepth 100000
set_option linter.unusedSimpArgs false
set_option linter.unusedVariables false
namespace Go.Abs
open Go Go.Proofs
theorem flat_avs_app (a b : List T) : flat (avs (a ++ b)) = flat (avs a) ++ flat (avs b) := by
  induction a with
  | nil => rfl
  | cons x r ih => rw [List.cons_append, flat_cons, flat_cons, ih, List.append_assoc]
theorem flat_avs_unown : ∀ (l : List T), (flat (avs l)).map AV.unown = flat (avs l)
  | [] => rfl
  | x :: r => by rw [flat_cons, List.map_append, T.cells_unown, flat_avs_unown r]
theorem flat_avs_blw (n : Nat) : ∀ (l : List T), belowL n (flat (avs l)) = true
  | [] => rfl
  | x :: r => by rw [flat_cons, belowL_append, bl_T, flat_avs_blw n r]; exact ⟨rfl, rfl⟩
theorem flat_avs_take : ∀ (l : List T) (n : Nat), (flat (avs l)).take (n * 3) = flat (avs (l.take n))
  | [], n => by simp [flat, avs]
  | x :: r, 0 => by simp [flat, avs]
  | x :: r, n + 1 => by
    rw [List.take_succ_cons, flat_cons, flat_cons, ← flat_avs_take r n, show (n + 1) * 3 = x.av.cells.length + n * 3 by rw [T.av_clen]; omega, List.take_length_add_append]
theorem flat_avs_drop : ∀ (l : List T) (n : Nat), (flat (avs l)).drop (n * 3) = flat (avs (l.drop n))
  | [], n => by simp [flat, avs]
  | x :: r, 0 => by simp
  | x :: r, n + 1 => by
    rw [List.drop_succ_cons, flat_cons, ← flat_avs_drop r n, show (n + 1) * 3 = x.av.cells.length + n * 3 by rw [T.av_clen]; omega, List.drop_length_add_append]
/-- A value that stands for a list of trees that is an object (at base or behind it), or for none. -/
def RL (base : Nat) (v : AV) (l : List T) (G : List AObj) : Prop :=
  (l = [] ∧ v = .nils) ∨ ∃ id l', base ≤ id ∧ v = .arr id 0 l.length l'.length ∧ G[id]? = some (objL l') ∧ l.length ≤ l'.length ∧ l'.take l.length = l
theorem RL.one {base : Nat} {v : AV} {l : List T} {G : List AObj} (h : RL base v l G) : v.one = true ∧ v.val = true ∧ v.unown = v ∧ v.cells = [v] := by
  rcases h with ⟨_, rfl⟩ | ⟨id, l', _, rfl, _⟩ <;> exact ⟨rfl, rfl, rfl, rfl⟩
theorem RL.blw {base : Nat} {v : AV} {l : List T} {G : List AObj} (h : RL base v l G) {n : Nat} (hn : G.length ≤ n) : v.blw n = true := by
  rcases h with ⟨_, rfl⟩ | ⟨id, l', _, rfl, c, _⟩
  · rfl
  · have := (List.getElem?_eq_some_iff.1 c).1
    rw [bw_arr]; simp; omega
theorem apad_T (n : Nat) : apad (.agg [.int .i64 0, .int .i64 0, .nils]) n = flat (avs (List.replicate n T0)) := rep_flat n
/-- To append. -/
theorem appendRL {base : Nat} {v : AV} {l : List T} {G : List AObj} (h : RL base v l G) (o : Nat) (ys : List T) (hy : ys ≠ []) (hb : (l.length + ys.length) * 40 ≤ 140737488355328) (hG : base ≤ G.length) {K : AV → List AObj → Prop}
    (hK : ∀ v' G', RL base v' (l ++ ys) G' → (∀ j, j < base → G'[j]? = G[j]?) → G'.take base = G.take base → G.length ≤ G'.length → K v' G') : aappendA 3 40 (.agg [.int .i64 0, .int .i64 0, .nils]) v (.lst o (avs ys)) G K := by
  have hok : okE 3 (avs ys) := of_eq_true (ok_avs ys)
  have hlen : (avs ys).length = ys.length := avs_len ys
  unfold aappendA
  simp only [rlist]
  refine ⟨hok, ?_⟩
  rcases h with ⟨rfl, rfl⟩ | ⟨id, l', hid, rfl, hg, hle, htk⟩
  · simp only [hlen]
    refine ⟨by simpa using hb, fun e => ?_, fun _ cap hc _ => ⟨?_, hK _ _ (.inr ⟨G.length, ys ++ List.replicate (cap - ys.length) T0, hG, ?_, ?_, by simp, by simp⟩) ?_ ?_ (by simp)⟩⟩
    · exfalso
      apply hy
      cases ys with
      | nil => rfl
      | cons a b => simp [avs] at e
    · rw [flat_avs_unown, apad_T, belowL_append, flat_avs_blw, flat_avs_blw]; exact ⟨rfl, rfl⟩
    · simp; omega
    · rw [flat_avs_unown, apad_T, ← flat_avs_app]; simp [objL]
    · intro j hj
      rw [List.getElem?_append_left (by omega)]
    · rw [List.take_append_of_le_length hG]
  · simp only [hg, objL, hlen, flat_len, Nat.zero_add, List.drop_zero]
    have hgl := (List.getElem?_eq_some_iff.1 hg).1
    refine ⟨hb, hle, Nat.le_refl _, fun hroom => ⟨?_, ?_⟩, fun hno cap' hc _ => ⟨?_, ?_⟩⟩
    · rw [flat_avs_unown, flat_avs_blw]
    · have e1 : asplice (flat (avs l')) (l.length * 3) ((flat (avs ys)).map AV.unown) = flat (avs (l'.take l.length ++ ys ++ l'.drop (l.length + ys.length))) := by
        rw [flat_avs_unown, asplice, flat_avs_take, flat_len, show l.length * 3 + ys.length * 3 = (l.length + ys.length) * 3 by omega, flat_avs_drop, flat_avs_app, flat_avs_app, List.append_assoc]
      rw [e1]
      have el : (l'.take l.length ++ ys ++ l'.drop (l.length + ys.length)).length = l'.length := by simp; omega
      refine hK _ _ (.inr ⟨id, _, hid, ?_, by rw [List.getElem?_set_self hgl]; rfl, ?_, ?_⟩) ?_ ?_ (by simp)
      · rw [el]; simp
      · rw [el]; simp; omega
      · rw [htk, List.take_append_of_le_length (by simp)]; exact List.take_of_length_le (by simp)
      · intro j hj
        rw [List.getElem?_set_ne (by omega)]
      · rw [List.take_set_of_le (by omega)]
    · rw [flat_avs_unown, apad_T, flat_avs_take, htk, flat_avs_unown, belowL_append, belowL_append, flat_avs_blw, flat_avs_blw, flat_avs_blw]; exact ⟨⟨rfl, rfl⟩, rfl⟩
    · refine hK _ _ (.inr ⟨G.length, l ++ ys ++ List.replicate (cap' - (l.length + ys.length)) T0, hG, ?_, ?_, by simp, by rw [List.take_append_of_le_length (by simp)]; exact List.take_of_length_le (by simp)⟩) ?_ ?_ (by simp)
      · simp; omega
      · rw [flat_avs_unown, apad_T, flat_avs_take, htk, flat_avs_unown, ← flat_avs_app, ← flat_avs_app]; simp [objL]
      · intro j hj
        rw [List.getElem?_append_left (by omega)]
      · rw [List.take_append_of_le_length hG]
end Go.Abs
end
section
/- The functions' code, read another way. -/
set_option maxRecDepth 100000
namespace Go.Abs
open Go Go.Proofs
/-- madrigal/sig.copied -/
def ir75w : IR := (.seq (.region [⟨.none, (.some 1), (.boxi (.t 0))⟩, ⟨.none, (.some 2), (.alloc (.agg [(.int .i64 0), (.int .i64 0), .nils]))⟩] (.some [1, 2])) (.seq (.region [⟨.none, (.some 3), (.load (.some 3) (.t 1))⟩, ⟨.none, (.some 4), (.call (.c (.fn (.func 77) [] [])) [(.t 3), (.c (.fn (.func 100) [] []))] .none)⟩, ⟨.none, .none, (.storeW 3 (.t 2) (.t 4))⟩] (.some [2])) .ret))
def fi75w : FunI := ⟨5, ir75w, [(.c 2 (.some 3))]⟩
theorem ok75w : FunOk Try.prog 75 fi75w := ⟨Try.call75, Try.f75, _, [(0, 0, 1), (1, 2, 2)], [(0, [1, 2]), (1, [2])], [], Try.func75, rfl, Try.ntmps75, by kernel_rfl, by kernel_rfl⟩
/-- madrigal/sig.mapped -/
def ir77w : IR := (.seq (.region [⟨.none, (.some 2), (.boxi (.t 0))⟩, ⟨.none, (.some 4), (.alloc (.agg [(.int .i64 0), (.int .i64 0), .nils]))⟩] (.some [1, 2, 4])) (.seq (.seq (.region [⟨.none, (.some 8), (.fieldAddr 0 .none (.t 2))⟩, ⟨.none, (.some 9), (.load .none (.t 8))⟩, ⟨.none, (.some 10), (.bin .eql (.t 9) (.c (.int .i64 1)))⟩] (.some [1, 2, 4, 10])) (.cond (.t 10) (.seq (.region [⟨.none, (.some 11), (.set (.t 1) .false)⟩, ⟨.none, (.some 12), (.fieldAddr 1 .none (.t 2))⟩, ⟨.none, (.some 13), (.load .none (.t 12))⟩, ⟨.none, (.some 14), (.call (.t 11) [(.t 13)] (.some 1999))⟩, ⟨.none, .none, (.store 3 (.t 4) (.t 14))⟩] (.some [4])) .ret) .skip)) (.seq (.region [⟨.none, (.some 15), (.fieldAddr 0 .none (.t 2))⟩, ⟨.none, (.some 16), (.load .none (.t 15))⟩, ⟨.none, (.some 17), (.fieldAddr 1 .none (.t 2))⟩, ⟨.none, (.some 18), (.load .none (.t 17))⟩, ⟨.none, (.some 19), (.build (.agg [(.int .i64 0), (.int .i64 0), .nils]) [(0, (1, (.t 16))), (1, (1, (.t 18)))])⟩, ⟨.none, (.some 5), (.alloc (.agg [(.int .i64 0), (.int .i64 0), .nils]))⟩, ⟨.none, .none, (.store 3 (.t 5) (.t 19))⟩] (.some [1, 2, 4, 5])) (.seq (.seq (.region [⟨.none, (.some 20), (.fieldAddr 2 .none (.t 2))⟩, ⟨.none, (.some 21), (.load .none (.t 20))⟩, ⟨.none, (.some 22), (.len 1 (.t 21))⟩, ⟨.none, (.some 23), (.set (.c (.int .i64 0)) .false)⟩] (.some [1, 4, 5, 21, 22, 23])) (.block 0 (.loop (.seq (.region [⟨.none, (.some 24), (.bin .lss (.t 23) (.t 22))⟩] (.some [1, 4, 5, 21, 22, 23, 24])) (.seq (.cond (.t 24) .skip (.exit 0)) (.seq (.block 1 (.seq (.region [⟨.none, (.some 25), (.indexAddr 3 (.t 21) (.t 23))⟩, ⟨.none, (.some 26), (.load (.some 3) (.t 25))⟩, ⟨.none, (.some 7), (.boxs 3 (.t 26))⟩] (.some [1, 4, 5, 7, 21, 22, 23])) (.draw (.take .true ⟨.none, (.some 29), (.load (.some 3) (.t 7))⟩ (.take .true ⟨.none, (.some 30), (.set (.t 1) .false)⟩ (.take .false ⟨.none, (.some 27), (.fieldAddr 2 .none (.t 5))⟩ (.br ⟨.none, (.some 28), (.load .none (.t 27))⟩ (.br ⟨.none, (.some 31), (.call (.c (.fn (.func 77) [] [])) [(.t 29), (.t 30)] (.some 1999))⟩ (.take .true ⟨.none, (.some 32), (.buildSlice 0 3 (.agg [(.int .i64 0), (.int .i64 0), .nils]) 1 [(0, (.t 31))])⟩ (.br ⟨.none, (.some 33), (.appendA 3 40 (.agg [(.int .i64 0), (.int .i64 0), .nils]) (.t 28) (.t 32))⟩ (.take .true ⟨.none, (.some 34), (.fieldAddr 2 .none (.t 5))⟩ (.br ⟨.none, .none, (.storeW 1 (.t 34) (.t 33))⟩ .done .nil)) .nil)) .nil) (.br ⟨.none, (.some 31), (.call (.c (.fn (.func 77) [] [])) [(.t 29), (.t 30)] (.some 1999))⟩ (.take .true ⟨.none, (.some 28), (.load .none (.t 27))⟩ (.take .true ⟨.none, (.some 32), (.buildSlice 0 3 (.agg [(.int .i64 0), (.int .i64 0), .nils]) 1 [(0, (.t 31))])⟩ (.br ⟨.none, (.some 33), (.appendA 3 40 (.agg [(.int .i64 0), (.int .i64 0), .nils]) (.t 28) (.t 32))⟩ (.take .true ⟨.none, (.some 34), (.fieldAddr 2 .none (.t 5))⟩ (.br ⟨.none, .none, (.storeW 1 (.t 34) (.t 33))⟩ .done .nil)) .nil))) .nil))))) (.some [1, 4, 5, 21, 22, 23])))) (.region [⟨.none, (.some 35), (.bin .add (.t 23) (.c (.int .i64 1)))⟩, ⟨.none, (.some 23), (.set (.t 35) .false)⟩] (.some [1, 4, 5, 21, 22, 23])))))))) (.seq (.region [⟨.none, (.some 36), (.load (.some 3) (.t 5))⟩, ⟨.none, .none, (.storeW 3 (.t 4) (.t 36))⟩] (.some [4])) .ret)))))
def fi77w : FunI := ⟨37, ir77w, [(.c 4 (.some 3))]⟩
theorem ok77w : FunOk Try.prog 77 fi77w := ⟨Try.call77, Try.f77, _, [(0, 0, 1), (2, 3, 2000), (6, 2, 1000), (7, 4, 2000), (7, 6, 2), (7, 8, 2), (9, 1, 2)], [(0, [1, 2, 4]), (1, [1, 2, 4, 10]), (2, [4]), (3, [1, 2, 4, 5]), (4, [1, 4, 5, 21, 22, 23]), (5, [1, 4, 5, 21, 22, 23, 24]), (6, [1, 4, 5, 7, 21, 22, 23]), (7, [1, 4, 5, 21, 22, 23]), (8, [1, 4, 5, 21, 22, 23]), (9, [4])], [(7, (.take 2 true (.take 3 true (.take 0 false (.br 1 (.br 4 (.take 5 true (.br 6 (.take 7 true (.br 8 .done .nil)) .nil)) .nil) (.br 4 (.take 1 true (.take 5 true (.br 6 (.take 7 true (.br 8 .done .nil)) .nil))) .nil))))))], Try.func77, rfl, Try.ntmps77, by kernel_rfl, by kernel_rfl⟩
/-- madrigal/sig.put -/
def ir87w : IR := (.seq (.region [⟨.none, (.some 3), (.boxi (.t 0))⟩, ⟨.none, (.some 5), (.boxi (.t 2))⟩, ⟨.none, (.some 6), (.alloc (.agg [(.int .i64 0), (.int .i64 0), .nils]))⟩] (.some [1, 3, 5, 6])) (.seq (.seq (.region [⟨.none, (.some 8), (.set (.t 1) .false)⟩, ⟨.none, (.some 9), (.len 1 (.t 8))⟩, ⟨.none, (.some 10), (.bin .eql (.t 9) (.c (.int .i64 0)))⟩] (.some [1, 3, 5, 6, 10])) (.cond (.t 10) (.seq (.region [⟨.none, (.some 11), (.load (.some 3) (.t 5))⟩, ⟨.none, (.some 12), (.call (.c (.fn (.func 75) [] [])) [(.t 11)] .none)⟩, ⟨.none, .none, (.store 3 (.t 6) (.t 12))⟩] (.some [6])) .ret) .skip)) (.seq (.region [⟨.none, (.some 13), (.load (.some 3) (.t 3))⟩, ⟨.none, (.some 14), (.call (.c (.fn (.func 75) [] [])) [(.t 13)] .none)⟩, ⟨.none, (.some 7), (.boxs 3 (.t 14))⟩] (.some [1, 3, 5, 6, 7])) (.seq (.draw (.take .true ⟨.none, (.some 20), (.fieldAddr 2 .none (.t 3))⟩ (.take .true ⟨.none, (.some 21), (.load .none (.t 20))⟩ (.take .true ⟨.none, (.some 22), (.set (.t 1) .false)⟩ (.take .true ⟨.none, (.some 23), (.indexAddr 1 (.t 22) (.c (.int .i64 0)))⟩ (.take .true ⟨.none, (.some 24), (.load .none (.t 23))⟩ (.take .true ⟨.none, (.some 25), (.indexAddr 3 (.t 21) (.t 24))⟩ (.take .true ⟨.none, (.some 26), (.load (.some 3) (.t 25))⟩ (.take .true ⟨.none, (.some 27), (.set (.t 1) .false)⟩ (.take .true ⟨.none, (.some 28), (.slice 1 (.t 27) (.some (.c (.int .i64 1))) .none .none)⟩ (.take .true ⟨.none, (.some 29), (.load (.some 3) (.t 5))⟩ (.take .true ⟨.none, (.some 30), (.call (.c (.fn (.func 87) [] [])) [(.t 26), (.t 28), (.t 29)] .none)⟩ (.take .true ⟨.none, (.some 15), (.fieldAddr 2 .none (.t 7))⟩ (.take .true ⟨.none, (.some 16), (.load .none (.t 15))⟩ (.take .true ⟨.none, (.some 17), (.set (.t 1) .false)⟩ (.take .true ⟨.none, (.some 18), (.indexAddr 1 (.t 17) (.c (.int .i64 0)))⟩ (.take .true ⟨.none, (.some 19), (.load .none (.t 18))⟩ (.take .true ⟨.none, (.some 31), (.indexAddr 3 (.t 16) (.t 19))⟩ (.br ⟨.none, .none, (.store 3 (.t 31) (.t 30))⟩ .done .nil)))))))))))))))))) (.some [6, 7])) (.seq (.region [⟨.none, (.some 32), (.loadf (.some 3) 3 (.t 7))⟩, ⟨.none, .none, (.store 3 (.t 6) (.t 32))⟩] (.some [6])) .ret)))))
def fi87w : FunI := ⟨33, ir87w, [(.c 6 (.some 3))]⟩
theorem ok87w : FunOk Try.prog 87 fi87w := ⟨Try.call87, Try.f87, _, [(0, 0, 1), (0, 1, 1), (3, 2, 1000), (5, 0, 3003)], [(0, [1, 3, 5, 6]), (1, [1, 3, 5, 6, 10]), (2, [6]), (3, [1, 3, 5, 6, 7]), (4, [6, 7]), (5, [6])], [(4, (.take 5 true (.take 6 true (.take 7 true (.take 8 true (.take 9 true (.take 10 true (.take 11 true (.take 12 true (.take 13 true (.take 14 true (.take 15 true (.take 0 true (.take 1 true (.take 2 true (.take 3 true (.take 4 true (.take 16 true (.br 17 .done .nil)))))))))))))))))))], Try.func87, rfl, Try.ntmps87, by kernel_rfl, by kernel_rfl⟩
end Go.Abs
end
section
/- Put: a tree is written within another one. -/
set_option maxRecDepth 100000
set_option linter.unusedSimpArgs false
set_option linter.unusedVariables false
namespace Go.Abs
open Go Go.Proofs
/-- A list of trees as it is handed back: an object, or none. -/
def RD (base : Nat) (v : AV) (l : List T) (G : List AObj) : Prop :=
  (l = [] ∧ v = .lst 0 []) ∨ ∃ id l', base ≤ id ∧ v = .arr id 0 l.length l'.length ∧ G[id]? = some (objL l') ∧ l.length ≤ l'.length ∧ l'.take l.length = l
theorem RL.drop {base : Nat} {v : AV} {l : List T} {G : List AObj} (h : RL base v l G) : RD base v.drop l G := by
  rcases h with ⟨h, rfl⟩ | ⟨id, l', a, rfl, c⟩
  · exact .inl ⟨h, rfl⟩
  · exact .inr ⟨id, l', a, rfl, c⟩
theorem RD.one {base : Nat} {v : AV} {l : List T} {G : List AObj} (h : RD base v l G) : v.one = true ∧ v.unown = v ∧ v.drop = v ∧ v.val = true := by
  rcases h with ⟨_, rfl⟩ | ⟨id, l', _, rfl, _⟩ <;> exact ⟨rfl, rfl, rfl, rfl⟩
theorem RD.blw {base : Nat} {v : AV} {l : List T} {G : List AObj} (h : RD base v l G) {n : Nat} (hn : G.length ≤ n) : v.blw n = true := by
  rcases h with ⟨_, rfl⟩ | ⟨id, l', _, rfl, c, _⟩
  · rfl
  · have := (List.getElem?_eq_some_iff.1 c).1
    rw [bw_arr]; simp; omega
theorem RD.set {base : Nat} {v : AV} {l : List T} {G : List AObj} (h : RD base v l G) {j : Nat} (hj : j < base) (o : AObj) : RD base v l (G.set j o) := by
  rcases h with h | ⟨id, l', a, b, c, d⟩
  · exact .inl h
  · exact .inr ⟨id, l', a, b, by rw [List.getElem?_set_ne (by omega)]; exact c, d⟩
theorem RL.set {base : Nat} {v : AV} {l : List T} {G : List AObj} (h : RL base v l G) {j : Nat} (hj : j < base) (o : AObj) : RL base v l (G.set j o) := by
  rcases h with h | ⟨id, l', a, b, c, d⟩
  · exact .inl h
  · exact .inr ⟨id, l', a, b, by rw [List.getElem?_set_ne (by omega)]; exact c, d⟩
theorem RL.drop_one {base : Nat} {v : AV} {l : List T} {G : List AObj} (h : RL base v l G) : v.drop.one = true ∧ v.drop.unown = v.drop ∧ v.drop.drop = v.drop ∧ v.drop.val = true := h.drop.one
theorem objL_blw (l : List T) : (objL l).blw 0 = true := by simp [objL, AObj.blw, flat_avs_blw]
/-- What is handed back, its list written no more, or still to be written. -/
def madeR (H : List AObj) (k n : Int) (l : List T) (r : AV) (H' : List AObj) : Prop :=
  ∃ v, r = .agg [.int .i64 k, .int .i64 n, v] ∧ RD H.length v l H' ∧ H'.take H.length = H
/-- To hand it back from a loose frame. -/
theorem made_ret {H G : List AObj} {k n : Int} {l : List T} {v : AV} (h : RD H.length v l G) (hG : G.take H.length = H) : aretC1 (sealS H.length) H.length (.agg [.int .i64 k, .int .i64 n, v]) G (madeR H k n l) := by
  rcases h with ⟨rfl, rfl⟩ | ⟨id, l', a, rfl, c, d⟩
  · exact ⟨H.length, H, Nat.le_refl _, sealS_low hG rfl, _, le_refl _, by simp [bw_agg, bl_cons, bl_nil, bw_int, bw_lst], _, rfl, .inl ⟨rfl, rfl⟩, List.take_length⟩
  · have hl := (List.getElem?_eq_some_iff.1 c).1
    refine ⟨G.length, only H.length id G, by omega, sealS_only c (objL_blw l'), _, le_refl _, ?_, _, rfl, .inr ⟨id, l', a, rfl, by rw [only_self]; exact c, d⟩, by rw [only_take (Nat.le_refl _)]; exact hG⟩
    simp only [bw_agg, bl_cons, bl_nil, bw_int, bw_arr]
    simp [hl]
theorem c77w (g : Nat) (cap : List AV) (f : Int → T) (x : T) (hcap : cap.map AV.unown = cap) (hb : belowL 0 cap = true) (hf : ∀ n, Pure Try.prog g ([.int .i64 n] ++ cap) (f n).av) (hs : x.shaped = true) (hk : x.k ≠ 1) (H : List AObj) :
    ACalls Try.prog 77 [x.av, .fn (.func g) [] cap] H (madeR H x.k x.n (mapTs f x.l)) := by
  refine ok77w.callsS (by simp [fi77w]) ?_
  simp only [fi77w, ir77w]
  have hl8 := (shaped_kids hs).1
  simp (contextual := true) (maxSteps := 1000000) only [stepsX, hcap, hk, stepsS, stepsT, stepsN, if_true, forall_const, ne_eq, implies_true, List.nil_append, List.append_nil, List.cons_append, List.length_cons, List.length_nil, Nat.reduceEqDiff, Nat.reduceAdd, Nat.reduceLT, Nat.reduceLeDiff, ↓reduceIte, reduceCtorEq, Int.reduceEq, Int.reduceLT]
  intro _
  refine swp_loop_stL x.l.length (fun i (p : AV × List AObj) => RL (H.length + 2) p.1 (mapTs f (x.l.take i)) p.2 ∧ p.2[H.length]? = some (.cells [.int .i64 0, .int .i64 0, .nils]) ∧ p.2[H.length + 1]? = some (.cells [.int .i64 x.k, .int .i64 x.n, p.1]) ∧ p.2.take H.length = H)
      (fun i p => [(1, .fn (.func g) [] cap), (4, .ptr H.length 0), (5, .ptr (H.length + 1) 0), (21, .lst 0 (avs x.l)), (22, .int .i64 x.l.length), (23, .int .i64 i)])
      (fun i p => p.2) (.nils, H ++ [.cells [.int .i64 0, .int .i64 0, .nils], .cells [.int .i64 x.k, .int .i64 x.n, .nils]]) ⟨⟨.inl ⟨rfl, rfl⟩, by simp, by simp, by simp⟩, sleL_refl _ _ _⟩ fun i p hi hI => ?_
  obtain ⟨v, G⟩ := p
  obtain ⟨hR, g0, g1, hG⟩ := hI
  simp only at hR g0 g1 hG
  have hlG := (List.getElem?_eq_some_iff.1 g1).1
  have ho := hR.one
  have hd := hR.drop_one
  simp (contextual := true) (maxSteps := 1000000) only [stepsX, g0, g1, ho.1, ho.2.1, ho.2.2.1, ho.2.2.2, hd.1, hd.2.1, hd.2.2.1, hd.2.2.2, stepsS, stepsT, stepsN, if_true, forall_const, ne_eq, implies_true, List.nil_append, List.append_nil, List.cons_append, List.length_cons, List.length_nil, Nat.reduceEqDiff, Nat.reduceAdd, Nat.reduceLT, Nat.reduceLeDiff, ↓reduceIte, reduceCtorEq, Int.reduceEq, Int.reduceLT]
  have hlen : (mapTs f (x.l.take i)).length = i := by rw [mapTs_map]; simp; omega
  have step : ∀ (hlt : i < x.l.length) {K : AV → List AObj → Prop}, (∀ v' G', RL (H.length + 2) v' (mapTs f (x.l.take (i + 1))) G' → G'[H.length]? = some (.cells [.int .i64 0, .int .i64 0, .nils]) → G'[H.length + 1]? = some (.cells [.int .i64 x.k, .int .i64 x.n, v]) → G'.take H.length = H →
      v'.one = true → v'.val = true → v'.unown = v' → v'.cells = [v'] → v'.blw G'.length = true → K v' G') → aappendA 3 40 (.agg [.int .i64 0, .int .i64 0, .nils]) v (.lst 0 [(mapT f (x.l.getD i default)).av]) G K := by
    intro hlt K hK
    have ea : [(mapT f (x.l.getD i default)).av] = avs [mapT f (x.l.getD i default)] := rfl
    rw [ea]
    refine appendRL hR 0 [mapT f (x.l.getD i default)] (by simp) (by rw [hlen]; simp; omega) (by omega) fun v' G' hR' hj ht hl => ?_
    rw [← mapTs_take f hlt] at hR'
    have ho' := hR'.one
    refine hK v' G' hR' ((hj _ (by omega)).trans g0) ((hj _ (by omega)).trans g1) ?_ ho'.1 ho'.2.1 ho'.2.2.1 ho'.2.2.2 (hR'.blw (Nat.le_refl _))
    have e : G'.take H.length = (G'.take (H.length + 2)).take H.length := by rw [List.take_take]; congr 1; omega
    rw [e, ht, List.take_take, Nat.min_eq_left (by omega), hG]
  have fin : ∀ (hlt : i < x.l.length) {v' : AV} {G' : List AObj}, RL (H.length + 2) v' (mapTs f (x.l.take (i + 1))) G' → G'[H.length]? = some (.cells [.int .i64 0, .int .i64 0, .nils]) → G'[H.length + 1]? = some (.cells [.int .i64 x.k, .int .i64 x.n, v]) → G'.take H.length = H →
      RL (H.length + 2) v' (mapTs f (x.l.take (i + 1))) (G'.set (H.length + 1) (.cells [.int .i64 x.k, .int .i64 x.n, v'])) ∧ (G'.set (H.length + 1) (.cells [.int .i64 x.k, .int .i64 x.n, v']))[H.length]? = some (.cells [.int .i64 0, .int .i64 0, .nils]) ∧
      (G'.set (H.length + 1) (.cells [.int .i64 x.k, .int .i64 x.n, v']))[H.length + 1]? = some (.cells [.int .i64 x.k, .int .i64 x.n, v']) ∧ (G'.set (H.length + 1) (.cells [.int .i64 x.k, .int .i64 x.n, v'])).take H.length = H := by
    intro hlt v' G' hR' h0 h1 hG'
    have hl' := (List.getElem?_eq_some_iff.1 h1).1
    refine ⟨hR'.set (by omega) _, ?_, ?_, ?_⟩
    · rw [List.getElem?_set_ne (by omega)]; exact h0
    · rw [List.getElem?_set_self hl']
    · rw [List.take_set_of_le (by omega)]; exact hG'
  refine ⟨fun hlt => ⟨len_lt hlt, ?_, ?_⟩, fun hge => ?_⟩
  · have hlt := len_lt hlt
    refine scall_pure (c77 g cap f _ hcap hb hf ((shaped_kids hs).2 _ (mem_getD hlt))) ?_
    simp (contextual := true) (maxSteps := 1000000) only [stepsX, stepsS, stepsT, stepsN, if_true, forall_const, ne_eq, implies_true, List.nil_append, List.append_nil, List.cons_append, List.length_cons, List.length_nil, Nat.reduceEqDiff, Nat.reduceAdd, Nat.reduceLT, Nat.reduceLeDiff, ↓reduceIte, reduceCtorEq, Int.reduceEq, Int.reduceLT]
    refine step hlt fun v' G' hR' g0' g1' hG' o1 o2 o3 o4 hb' => ?_
    simp (contextual := true) (maxSteps := 1000000) only [stepsX, g0', g1', o1, o2, o3, o4, stepsS, stepsT, stepsN, if_true, forall_const, ne_eq, implies_true, List.nil_append, List.append_nil, List.cons_append, List.length_cons, List.length_nil, Nat.reduceEqDiff, Nat.reduceAdd, Nat.reduceLT, Nat.reduceLeDiff, ↓reduceIte, reduceCtorEq, Int.reduceEq, Int.reduceLT]
    exact ⟨by omega, hb', i + 1, (v', _), ⟨hlt, fin hlt hR' g0' g1' hG'⟩, by omega, sleL_eq (by rw [wrap_nat i (by omega)]) rfl⟩
  · have hlt := len_lt hlt
    refine scall_pure (c77 g cap f _ hcap hb hf ((shaped_kids hs).2 _ (mem_getD hlt))) ?_
    simp (contextual := true) (maxSteps := 1000000) only [stepsX, g0, g1, ho.1, ho.2.1, ho.2.2.1, ho.2.2.2, stepsS, stepsT, stepsN, if_true, forall_const, ne_eq, implies_true, List.nil_append, List.append_nil, List.cons_append, List.length_cons, List.length_nil, Nat.reduceEqDiff, Nat.reduceAdd, Nat.reduceLT, Nat.reduceLeDiff, ↓reduceIte, reduceCtorEq, Int.reduceEq, Int.reduceLT]
    refine step hlt fun v' G' hR' g0' g1' hG' o1 o2 o3 o4 hb' => ?_
    simp (contextual := true) (maxSteps := 1000000) only [stepsX, g0', g1', o1, o2, o3, o4, stepsS, stepsT, stepsN, if_true, forall_const, ne_eq, implies_true, List.nil_append, List.append_nil, List.cons_append, List.length_cons, List.length_nil, Nat.reduceEqDiff, Nat.reduceAdd, Nat.reduceLT, Nat.reduceLeDiff, ↓reduceIte, reduceCtorEq, Int.reduceEq, Int.reduceLT]
    exact ⟨by omega, hb', i + 1, (v', _), ⟨hlt, fin hlt hR' g0' g1' hG'⟩, by omega, sleL_eq (by rw [wrap_nat i (by omega)]) rfl⟩
  · have hi' : i = x.l.length := by have := len_nlt hge; omega
    rw [hi', List.take_length] at hR
    have hl0 := (List.getElem?_eq_some_iff.1 g0).1
    refine ⟨hR.drop.blw (Nat.le_refl _), ?_⟩
    rw [List.getElem?_set_self hl0]
    simp (contextual := true) (maxSteps := 1000000) only [stepsX, hd.2.2.1, stepsS, stepsT, stepsN, if_true, forall_const, ne_eq, implies_true, List.nil_append, List.append_nil, List.cons_append, List.length_cons, List.length_nil, Nat.reduceEqDiff, Nat.reduceAdd, Nat.reduceLT, Nat.reduceLeDiff, ↓reduceIte, reduceCtorEq, Int.reduceEq, Int.reduceLT]
    refine made_ret ?_ (by rw [List.take_set_of_le (Nat.le_refl _)]; exact hG)
    have h2 := hR.drop.set (j := H.length) (by omega) (.cells [.int .i64 x.k, .int .i64 x.n, v.drop])
    rcases h2 with h2 | ⟨id, l', a, h2⟩
    · exact .inl h2
    · exact .inr ⟨id, l', by omega, h2⟩
theorem c75w (x : T) (hs : x.shaped = true) (hk : x.k ≠ 1) (H : List AObj) : ACalls Try.prog 75 [x.av] H (madeR H x.k x.n x.l) := by
  refine ok75w.callsS (by simp [fi75w]) ?_
  simp only [fi75w, ir75w]
  have hc := c77w 100 [] (fun n => .mk 1 n []) x rfl rfl (fun n => c100 n) hs hk (H ++ [.cells [.int .i64 0, .int .i64 0, .nils]])
  have e : mapTs (fun n => .mk 1 n []) x.l = x.l := by
    have : mapT (fun n => .mk 1 n []) x = x := ren_id x hs
    rw [mapT_eq, if_neg hk] at this
    cases x with
    | mk k n l =>
      simp at this
      exact this.2.2
  rw [e] at hc
  simp (contextual := true) (maxSteps := 1000000) only [stepsX, stepsS, stepsT, stepsN, if_true, forall_const, ne_eq, implies_true, List.nil_append, List.append_nil, List.cons_append, List.length_cons, List.length_nil, Nat.reduceEqDiff, Nat.reduceAdd, Nat.reduceLT, Nat.reduceLeDiff, ↓reduceIte, reduceCtorEq, Int.reduceEq, Int.reduceLT]
  refine scall_to hc ?_
  rintro r G ⟨v, rfl, hR, hG⟩
  have ho := hR.one
  have hb := hR.blw (Nat.le_refl _)
  have hGl : (H ++ [AObj.cells [.int .i64 0, .int .i64 0, .nils]]).length = H.length + 1 := by simp
  rw [hGl] at hR hG
  have hl0 : H.length + 1 ≤ G.length := by
    have := congrArg List.length hG
    simp at this
    omega
  have g0 : G[H.length]? = some (.cells [.int .i64 0, .int .i64 0, .nils]) := by
    have : (G.take (H.length + 1))[H.length]? = G[H.length]? := by rw [List.getElem?_take, if_pos (by omega)]
    rw [← this, hG]; simp
  have hG' : G.take H.length = H := by
    have : G.take H.length = (G.take (H.length + 1)).take H.length := by rw [List.take_take]; congr 1; omega
    rw [this, hG]; simp
  simp (contextual := true) (maxSteps := 1000000) only [stepsX, g0, ho.1, ho.2.1, ho.2.2.1, ho.2.2.2, stepsS, stepsT, stepsN, if_true, forall_const, ne_eq, implies_true, List.nil_append, List.append_nil, List.cons_append, List.length_cons, List.length_nil, Nat.reduceEqDiff, Nat.reduceAdd, Nat.reduceLT, Nat.reduceLeDiff, ↓reduceIte, reduceCtorEq, Int.reduceEq, Int.reduceLT]
  refine ⟨hb, ?_⟩
  rw [List.getElem?_set_self (by omega)]
  simp (contextual := true) (maxSteps := 1000000) only [stepsX, ho.2.2.1, stepsS, stepsT, stepsN, if_true, forall_const, ne_eq, implies_true, List.nil_append, List.append_nil, List.cons_append, List.length_cons, List.length_nil, Nat.reduceEqDiff, Nat.reduceAdd, Nat.reduceLT, Nat.reduceLeDiff, ↓reduceIte, reduceCtorEq, Int.reduceEq, Int.reduceLT]
  refine made_ret ?_ (by rw [List.take_set_of_le (Nat.le_refl _)]; exact hG')
  rcases hR.set (j := H.length) (by omega) (.cells [.int .i64 x.k, .int .i64 x.n, v]) with h2 | ⟨id, l', a, h2⟩
  · exact .inl h2
  · exact .inr ⟨id, l', by omega, h2⟩
theorem shaped1' {t : T} (h : t.shaped = true) (hk : t.k = 1) : t.l = [] := by
  rw [T.shaped_eq] at h
  simp only [Bool.and_eq_true, Bool.not_eq_true', Bool.or_eq_false_iff, decide_eq_false_iff_not, Bool.and_eq_false_iff] at h
  have : ¬ 0 < t.l.length := by
    have := h.1.1.1.2
    rcases this with h | h
    · exact absurd hk h
    · exact h
  exact List.length_eq_zero_iff.1 (by omega)
theorem idxi0 (e o : Nat) (l : List Int) (k : IntKind) (φ : AV → Prop) : aindexAddr e (.lst o (ints l)) (.int k 0) φ = (0 < l.length ∧ φ (.iptr (.int .i64 (l.getD 0 0)))) := idx_ints e o l k 0 φ
theorem tail1 (x : Int) (r : List Int) (φ : AV → Prop) : asliceX 1 (.lst 0 (ints (x :: r))) (some (.int .i64 1)) none none φ = φ (.lst 0 (ints r)) := by
  have er : rlist (AV.lst 0 (ints (x :: r))) = some (ints (x :: r)) := rfl
  have e1 : (1 : Int).toNat = 1 := rfl
  have e2 : ((ints (x :: r)).take (ints (x :: r)).length).drop 1 = ints r := by rw [List.take_length]; rfl
  simp only [asliceX, aslice, er, aidx, e1, e2, eq_iff_iff]
  constructor
  · intro h; exact h.2.2.2.2
  · intro h
    refine ⟨fun own xs he z hz => ?_, by omega, by simp [ints_len], Nat.le_refl _, h⟩
    cases he
    obtain ⟨y, _, rfl⟩ := List.mem_map.1 hz
    rfl
theorem li_arr' (id N c o : Nat) (H : List AObj) (φ : AV → Prop) : aload none (.iptr (.arr id o N c)) H φ = φ (.arr id o N c) := by simp [aload, AV.one, AV.unown]
theorem on_arr' (id N c o : Nat) : (AV.arr id o N c).one = true := rfl
theorem dr_arr' (id N c o : Nat) : (AV.arr id o N c).drop = .arr id o N c := rfl
theorem fagg2 (k n : Int) (id c N o : Nat) (φ : AV → Prop) : afieldAddr 2 none (.iptr (.agg [.int .i64 k, .int .i64 n, .arr id o N c])) φ = φ (.iptr (.arr id o N c)) := by simp [afieldAddr, apart, AV.cells, AV.one]
theorem lagg3 (a b c : AV) (H : List AObj) (φ : AV → Prop) : aload (some 3) (.iptr (.agg [a, b, c])) H φ = φ (.agg [a, b, c]) := by simp [aload, AV.cells, AV.drop]
/-- A tree with another one written at a place. -/
def putT : T → List Int → T → T
  | _, [], u => u
  | t, i :: r, u => .mk t.k t.n (t.l.set i.toNat (putT (t.l.getD i.toNat default) r u))
theorem freezeRL {id : Nat} {l l' : List T} {H : List AObj} (h : H[id]? = some (objL l')) (hl : l.length ≤ l'.length) (hl2 : l'.take l.length = l) (K : AV → List AObj → Prop) : asetf1 3 (.arr id 0 l.length l'.length) H K = K (.lst 0 (avs l)) (H.set id .dead) := by
  have hc : ∀ (n : Nat) (l' : List T), n ≤ l'.length → chunks 3 n (flat (avs l')) = avs (l'.take n) := by
    intro n
    induction n with
    | zero => intro l' _; rfl
    | succ n ih =>
      intro l' h
      cases l' with
      | nil => simp at h
      | cons x r =>
        rw [flat_cons, chunks, if_neg (by decide), List.take_succ_cons, avs]
        rw [show List.take 3 (x.av.cells ++ flat (avs r)) = x.av.cells by rw [List.take_append_of_le_length (by rw [T.av_clen]; omega), List.take_of_length_le (by rw [T.av_clen]; omega)]]
        rw [show List.drop 3 (x.av.cells ++ flat (avs r)) = flat (avs r) by
          have := List.drop_left (l₁ := x.av.cells) (l₂ := flat (avs r)); rwa [T.av_clen] at this]
        rw [T.cells_unown, T.agg_cells, ih r (by simpa using h)]
  simp only [asetf1, h, objL, List.drop_zero, hc _ _ hl, hl2, flat_len, flatL_one, eq_iff_iff]
  constructor
  · exact fun k => k.2.2.2.2
  · exact fun k => ⟨by omega, hl, by omega, trivial, k⟩
theorem c87 : ∀ (p : List Int) (t u : T), t.shaped = true → u.shaped = true → (atT t p).isSome = true → Pure Try.prog 87 [t.av, .lst 0 (ints p), u.av] (putT t p u).av := by
  intro p
  induction p with
  | nil =>
    intro t u ht hu ha H
    refine ok87w.calls (by simp [fi87w]) ?_
    simp only [fi87w, ir87w]
    simp (contextual := true) (maxSteps := 1000000) only [stepsX, ints_len, stepsS, stepsT, stepsN, if_true, forall_const, ne_eq, implies_true, List.nil_append, List.append_nil, List.cons_append, List.length_cons, List.length_nil, Nat.reduceEqDiff, Nat.reduceAdd, Nat.reduceLT, Nat.reduceLeDiff, ↓reduceIte, reduceCtorEq, Int.reduceEq, Int.reduceLT]
    refine ⟨fun _ => scall_pure (c75 u hu) ?_, fun h => absurd rfl h⟩
    simp (contextual := true) (maxSteps := 1000000) only [stepsX, stepsS, stepsT, stepsN, if_true, forall_const, ne_eq, implies_true, List.nil_append, List.append_nil, List.cons_append, List.length_cons, List.length_nil, Nat.reduceEqDiff, Nat.reduceAdd, Nat.reduceLT, Nat.reduceLeDiff, ↓reduceIte, reduceCtorEq, Int.reduceEq, Int.reduceLT]
    exact ret1v (T.av_blw _ _) rfl
  | cons i r ih =>
    intro t u ht hu ha H
    refine ok87w.calls (by simp [fi87w]) ?_
    simp only [fi87w, ir87w]
    simp only [atT] at ha
    split at ha
    · cases ha
    · rename_i hi
      obtain ⟨m, rfl⟩ := Int.eq_ofNat_of_zero_le (show 0 ≤ i by omega)
      have hm : m < t.l.length := by omega
      have hk : t.k ≠ 1 := fun h => by rw [shaped1' ht h] at hm; simp at hm
      rw [Int.toNat_natCast] at ha
      have hsub := (shaped_kids ht).2 _ (mem_getD hm)
      simp (contextual := true) (maxSteps := 1000000) only [stepsX, ints_len, stepsS, stepsT, stepsN, if_true, forall_const, ne_eq, implies_true, List.nil_append, List.append_nil, List.cons_append, List.length_cons, List.length_nil, Nat.reduceEqDiff, Nat.reduceAdd, Nat.reduceLT, Nat.reduceLeDiff, ↓reduceIte, reduceCtorEq, Int.reduceEq, Int.reduceLT]
      refine fun _ => ⟨fun h => absurd h (by simp; omega), fun _ => ?_⟩
      refine scall_to (c75w t ht hk _) ?_
      rintro q G ⟨v, rfl, hR, hG⟩
      have hGl : (H ++ [AObj.cells [.int .i64 0, .int .i64 0, .nils]]).length = H.length + 1 := by simp
      rw [hGl] at hR hG
      rcases hR with ⟨h0, _⟩ | ⟨id, l', hid, rfl, hg, hle, htk⟩
      · rw [h0] at hm; simp at hm
      simp (contextual := true) (maxSteps := 1000000) only [stepsX, idxi0, tail1, li_arr', on_arr', dr_arr', Option.map_some, Option.map_none, stepsS, stepsT, stepsN, if_true, forall_const, ne_eq, implies_true, List.nil_append, List.append_nil, List.cons_append, List.length_cons, List.length_nil, Nat.reduceEqDiff, Nat.reduceAdd, Nat.reduceLT, Nat.reduceLeDiff, ↓reduceIte, reduceCtorEq, Int.reduceEq, Int.reduceLT]
      refine ⟨by omega, hm, ?_⟩
      refine dcall_pure (ih _ u hsub hu ha) ?_
      have hml : m < l'.length := by omega
      have fz : ∀ K, asetf1 3 (.arr id 0 t.l.length l'.length) (G.set id (objL (l'.set m (putT (t.l.getD m default) r u)))) K = K (.lst 0 (avs (t.l.set m (putT (t.l.getD m default) r u)))) ((G.set id (objL (l'.set m (putT (t.l.getD m default) r u)))).set id .dead) := by
        intro K
        have hgl := (List.getElem?_eq_some_iff.1 hg).1
        have := freezeRL (id := id) (l := t.l.set m (putT (t.l.getD m default) r u)) (l' := l'.set m (putT (t.l.getD m default) r u)) (H := G.set id (objL (l'.set m (putT (t.l.getD m default) r u)))) (by rw [List.getElem?_set_self hgl]) (by simpa using hle) (by
          rw [List.length_set, List.take_set, htk]) K
        rw [List.length_set, List.length_set] at this
        exact this
      have g0 : (((G.set id (objL (l'.set m (putT (t.l.getD m default) r u)))).set id .dead))[H.length]? = some (.cells [.int .i64 0, .int .i64 0, .nils]) := by
        rw [List.getElem?_set_ne (by omega), List.getElem?_set_ne (by omega)]
        have : (G.take (H.length + 1))[H.length]? = G[H.length]? := by rw [List.getElem?_take, if_pos (by omega)]
        rw [← this, hG]; simp
      simp (contextual := true) (maxSteps := 1000000) only [stepsX, idxi0, tail1, li_arr', on_arr', dr_arr', un_arr', fagg2, lagg3, idx_arr, hm, hg, storeL hml, fz, g0, stepsS, stepsT, stepsN, if_true, forall_const, ne_eq, implies_true, List.nil_append, List.append_nil, List.cons_append, List.length_cons, List.length_nil, Nat.reduceEqDiff, Nat.reduceAdd, Nat.reduceLT, Nat.reduceLeDiff, ↓reduceIte, reduceCtorEq, Int.reduceEq, Int.reduceLT]
      refine ⟨by omega, ?_⟩
      have hl0 := (List.getElem?_eq_some_iff.1 g0).1
      rw [List.getElem?_set_self hl0]
      simp (contextual := true) (maxSteps := 1000000) only [stepsX, stepsS, stepsT, stepsN, if_true, forall_const, ne_eq, implies_true, List.nil_append, List.append_nil, List.cons_append, List.length_cons, List.length_nil, Nat.reduceEqDiff, Nat.reduceAdd, Nat.reduceLT, Nat.reduceLeDiff, ↓reduceIte, reduceCtorEq, Int.reduceEq, Int.reduceLT]
      have ep : putT t (↑m :: r) u = .mk t.k t.n (t.l.set m (putT (t.l.getD m default) r u)) := by rw [putT, Int.toNat_natCast]
      have hG' : G.take H.length = H := by
        have : G.take H.length = (G.take (H.length + 1)).take H.length := by rw [List.take_take]; congr 1; omega
        rw [this, hG]; simp
      rw [ep]
      refine ⟨H.length, Nat.le_refl _, _, le_refl _, T.av_blw _ (.mk t.k t.n (t.l.set m (putT (t.l.getD m default) r u))), rfl, ?_⟩
      rw [List.take_set_of_le (Nat.le_refl _), List.take_set_of_le (by omega), List.take_set_of_le (by omega), hG']
end Go.Abs
end
section
/- Put, Paths: their contracts. -/
set_option maxRecDepth 100000
set_option linter.unusedSimpArgs false
set_option linter.unusedVariables false
namespace Go.Abs
open Go Go.Proofs
def PutS (t : T) (p : List Int) (u : T) : T × Int := if t.tree = true ∧ u.tree = true then (if (atT t p).isSome = true then boundS (putT t p u) else (T0, 41)) else (T0, 4)
theorem c43 (t : T) (p : List Int) (u : T) : Pure Try.prog 43 [t.av, .lst 0 (ints p), u.av] (.tuple [(PutS t p u).1.av, .int .i64 (PutS t p u).2]) := by
  refine fun H => ok43.calls (by simp [fi43]) ?_
  simp only [fi43, ir43]
  simp (contextual := true) (maxSteps := 1000000) only [stepsS, stepsT, stepsN, if_true, forall_const, ne_eq, implies_true, List.nil_append, List.append_nil, List.cons_append, List.length_cons, List.length_nil, Nat.reduceEqDiff, Nat.reduceAdd, Nat.reduceLT, Nat.reduceLeDiff, ↓reduceIte, reduceCtorEq, Int.reduceEq, Int.reduceLT]
  refine scall_pure (c53 [t, u]) ?_
  have etb : treesB [t, u] = (t.tree && u.tree) := by simp [treesB]
  rw [etb]
  by_cases htu : t.tree = true ∧ u.tree = true
  · have hts := ((T.tree_iff t).1 htu.1).2.2
    have hus := ((T.tree_iff u).1 htu.2).2.2
    have e : PutS t p u = if (atT t p).isSome = true then boundS (putT t p u) else (T0, 41) := by rw [PutS, if_pos htu]
    rw [htu.1, htu.2]
    simp (contextual := true) (maxSteps := 1000000) only [stepsS, stepsT, stepsN, if_true, forall_const, ne_eq, implies_true, List.nil_append, List.append_nil, List.cons_append, List.length_cons, List.length_nil, Nat.reduceEqDiff, Nat.reduceAdd, Nat.reduceLT, Nat.reduceLeDiff, ↓reduceIte, reduceCtorEq, Int.reduceEq, Int.reduceLT]
    refine scall_pure (c86 t p) ?_
    cases ha : (atT t p).isSome with
    | false =>
      have e : PutS t p u = (T0, 41) := by rw [e, if_neg (by rw [ha]; simp)]
      rw [e]
      simp (contextual := true) (maxSteps := 1000000) only [Bool.false_eq_true, stepsS, stepsT, stepsN, if_true, forall_const, ne_eq, implies_true, List.nil_append, List.append_nil, List.cons_append, List.length_cons, List.length_nil, Nat.reduceEqDiff, Nat.reduceAdd, Nat.reduceLT, Nat.reduceLeDiff, ↓reduceIte, reduceCtorEq, Int.reduceEq, Int.reduceLT]
      exact ret2w (G := H) (by simp) (T.av_blw _ T0) rfl rfl rfl ⟨rfl, rfl⟩
    | true =>
      have e : PutS t p u = boundS (putT t p u) := by rw [e, if_pos ha]
      rw [e]
      simp (contextual := true) (maxSteps := 1000000) only [stepsS, stepsT, stepsN, if_true, forall_const, ne_eq, implies_true, List.nil_append, List.append_nil, List.cons_append, List.length_cons, List.length_nil, Nat.reduceEqDiff, Nat.reduceAdd, Nat.reduceLT, Nat.reduceLeDiff, ↓reduceIte, reduceCtorEq, Int.reduceEq, Int.reduceLT]
      refine scall_pure (c87 p t u hts hus ha) ?_
      simp (contextual := true) (maxSteps := 1000000) only [stepsS, stepsT, stepsN, if_true, forall_const, ne_eq, implies_true, List.nil_append, List.append_nil, List.cons_append, List.length_cons, List.length_nil, Nat.reduceEqDiff, Nat.reduceAdd, Nat.reduceLT, Nat.reduceLeDiff, ↓reduceIte, reduceCtorEq, Int.reduceEq, Int.reduceLT]
      refine scall_pure (c59 _) ?_
      simp (contextual := true) (maxSteps := 1000000) only [sp_TT, stepsS, stepsT, stepsN, if_true, forall_const, ne_eq, implies_true, List.nil_append, List.append_nil, List.cons_append, List.length_cons, List.length_nil, Nat.reduceEqDiff, Nat.reduceAdd, Nat.reduceLT, Nat.reduceLeDiff, ↓reduceIte, reduceCtorEq, Int.reduceEq, Int.reduceLT]
      exact ret2w (G := H) (by simp) (T.av_blw _ _) rfl (T.av_unown _) rfl ⟨rfl, rfl⟩
  · have e : (t.tree && u.tree) = false := by
      cases h1 : t.tree <;> cases h2 : u.tree <;> simp_all
    have e2 : PutS t p u = (T0, 4) := by rw [PutS, if_neg htu]
    rw [e, e2]
    simp (contextual := true) (maxSteps := 1000000) only [Bool.false_eq_true, stepsS, stepsT, stepsN, if_true, forall_const, ne_eq, implies_true, List.nil_append, List.append_nil, List.cons_append, List.length_cons, List.length_nil, Nat.reduceEqDiff, Nat.reduceAdd, Nat.reduceLT, Nat.reduceLeDiff, ↓reduceIte, reduceCtorEq, Int.reduceEq, Int.reduceLT]
    exact ret2w (G := H) (by simp) (T.av_blw _ T0) rfl rfl rfl ⟨rfl, rfl⟩
/-! ### Paths -/
mutual
def pathsT : T → List Int → List (List Int)
  | .mk _ _ l, p => p :: pathsL l 0 p
def pathsL : List T → Nat → List Int → List (List Int)
  | [], _, _ => []
  | x :: r, i, p => pathsT x (p ++ [(i : Int)]) ++ pathsL r (i + 1) p
end
/-- Lists of numbers, in a list. -/
def pas (l : List (List Int)) : List AV := l.map fun p => .lst 0 (ints p)
def pasC : List (List Int) → AV
  | [] => .nils
  | p :: r => .lst 1 (pas (p :: r))
def againF (o a : Nat) : AV := .fn (.func 84) [] [.ptr o 0, .ptr a 0]
theorem pathsL_drop {l : List T} {i : Nat} (h : i < l.length) (p : List Int) : pathsL (l.drop i) i p = pathsT (l.getD i default) (p ++ [(i : Int)]) ++ pathsL (l.drop (i + 1)) (i + 1) p := by
  rw [List.drop_eq_getElem_cons h, pathsL]
  have e : l.getD i default = l[i] := by simp [h]
  rw [e]
theorem c85p (l : List Int) (hl : l.length * 8 ≤ 140737488355328) : Pure Try.prog 85 [.lst 0 (ints l)] (.lst 1 (ints l)) := fun H =>
  clone85 0 (ints l) H (of_eq_true (ok_ints l)) (by rw [ints_len]; exact hl) (ints_blw _ _)
theorem pasC_one (l : List (List Int)) : (pasC l).one = true := by cases l <;> rfl
theorem pas_blw (n : Nat) (l : List (List Int)) : belowL n (pas l) = true := by
  rw [belowL_iff]; intro x hx; obtain ⟨y, _, rfl⟩ := List.mem_map.1 hx; simp [AV.blw, ints_blw]
theorem pasC_blw (n : Nat) (l : List (List Int)) : (pasC l).blw n = true := by
  cases l with
  | nil => rfl
  | cons x r => show AV.blw n (.lst 1 (pas (x :: r))) = true; rw [bw_lst]; exact pas_blw n _
theorem ap_pasC (b : Nat) (l : List (List Int)) (p : List Int) (o : Nat) (ψ : List AV → Prop) : aappend 1 b (pasC l) (.lst o [.lst 0 (ints p)]) ψ = ((l.length + 1) * b ≤ 140737488355328 ∧ ψ (pas (l ++ [p]))) := by
  have hok : okE 1 [AV.lst 0 (ints p)] := by intro y hy; simp at hy; subst hy; exact ⟨rfl, rfl⟩
  cases l with
  | nil => simp [pasC, ap_nils, hok, pas]
  | cons v r =>
    show aappend 1 b (.lst 1 (pas (v :: r))) _ ψ = _
    rw [ap_lst]
    have e1 : (pas (v :: r)).length = (v :: r).length := by simp [pas]
    have e2 : pas (v :: r) ++ [AV.lst 0 (ints p)] = pas ((v :: r) ++ [p]) := by simp [pas]
    rw [e1, e2]
    simp [hok]
theorem pasC_snoc (l : List (List Int)) (p : List Int) : AV.lst 1 (pas (l ++ [p])) = pasC (l ++ [p]) := by cases l <;> rfl
mutual
theorem paths_len : ∀ (t : T) (p : List Int), ((pathsT t p).length : Int) = t.sz
  | .mk k n l, p => by simp only [pathsT, List.length_cons, T.sz]; have := pathsL_len l 0 p; omega
theorem pathsL_len : ∀ (l : List T) (i : Nat) (p : List Int), ((pathsL l i p).length : Int) = szs l
  | [], _, _ => by simp [pathsL, szs]
  | x :: r, i, p => by
    simp only [pathsL, List.length_append, szs]
    have h1 := paths_len x (p ++ [(i : Int)])
    have h2 := pathsL_len r (i + 1) p
    omega
end
theorem dps_mem : ∀ {l : List T} {y : T}, y ∈ l → y.dp ≤ dps l
  | x :: r, y, h => by
    simp only [dps]
    rcases List.mem_cons.1 h with rfl | h
    · omega
    · have := dps_mem h; omega
theorem T.dp_eq (t : T) : t.dp = 1 + dps t.l := by cases t; rfl
theorem pathsT_eq (t : T) (p : List Int) : pathsT t p = p :: pathsL t.l 0 p := by cases t; rfl
theorem slfull (p : List Int) (φ : AV → Prop) : asliceX 1 (.lst 0 (ints p)) none (some (.int .i64 p.length)) (some (.int .i64 p.length)) φ = φ (.lst 1 (ints p)) := by
  have er : rlist (AV.lst 0 (ints p)) = some (ints p) := rfl
  have e2 : ((ints p).take p.length).drop 0 = ints p := by rw [List.drop_zero]; exact List.take_of_length_le (by rw [ints_len]; exact Nat.le_refl _)
  have h1 : ∀ z ∈ ints p, z.cells.length = 1 := by
    intro z hz
    obtain ⟨y, _, rfl⟩ := List.mem_map.1 hz
    rfl
  simp only [asliceX, aslice, er, aidx, Int.toNat_natCast, e2, eq_iff_iff]
  constructor
  · intro h; exact h.2.2.2.2.2.2.2.2
  · intro h
    refine ⟨fun own xs he z hz => ?_, by omega, by omega, by rw [ints_len]; exact Nat.le_refl _, rfl, by omega, trivial, h1, h⟩
    cases he
    exact h1 z hz
theorem c84 {S : List (List Int) → List AObj} {o a n : Nat} (F : Fam S o (fun ps => .cells [pasC ps]) n) (hA : ∀ ps, (S ps)[a]? = some (.cells [againF o a])) : ∀ (t : T) (p : List Int) (ps : List (List Int)) (e : List AObj), (p.length : Int) + t.dp ≤ 1000 → (ps.length : Int) + t.sz ≤ 1000000 →
    ACalls Try.prog 84 [t.av, .lst 0 (ints p), .ptr o 0, .ptr a 0] (S ps ++ e) fun r H' => r = .tuple [] ∧ H' = S (ps ++ pathsT t p) ++ e := by
  intro t p ps e hp hps
  have ih : ∀ y ∈ t.l, ∀ (p : List Int) (ps : List (List Int)) (e : List AObj), (p.length : Int) + y.dp ≤ 1000 → (ps.length : Int) + y.sz ≤ 1000000 →
    ACalls Try.prog 84 [y.av, .lst 0 (ints p), .ptr o 0, .ptr a 0] (S ps ++ e) fun r H' => r = .tuple [] ∧ H' = S (ps ++ pathsT y p) ++ e := fun y hy p ps e h1 h2 => c84 F hA y p ps e h1 h2
  have fg : ∀ s e, (S s ++ e)[o]? = some (.cells [pasC s]) := F.get'
  have fs : ∀ s s' e, (S s ++ e).set o (.cells [pasC s']) = S s' ++ e := F.set'
  have fA : ∀ s e, (S s ++ e)[a]? = some (.cells [againF o a]) := fun s e => by rw [List.getElem?_append_left (List.getElem?_eq_some_iff.1 (hA s)).1]; exact hA s
  have hlen : ∀ s (e : List AObj), (S s ++ e).length = n + e.length := fun s e => by rw [List.length_append, F.len]
  refine ok84.calls (by simp [fi84]) ?_
  rw [hlen]
  simp only [fi84, ir84]
  simp (contextual := true) (maxSteps := 1000000) only [fg, fs, hlen, stepsS, stepsT, stepsN, if_true, forall_const, ne_eq, implies_true, List.nil_append, List.append_nil, List.cons_append, List.length_cons, List.length_nil, Nat.reduceEqDiff, Nat.reduceAdd, Nat.reduceLT, Nat.reduceLeDiff, ↓reduceIte, reduceCtorEq, Int.reduceEq, Int.reduceLT]
  have hdp0 := t.dp_pos
  refine dcall_pure (c85p p (by omega)) ?_
  have hz := t.sz_pos
  have hdp := t.dp_pos
  have fts : ∀ s e (x : AObj), ((S s ++ e).set o x)[o]? = some x := fun s e x => List.getElem?_set_self (List.getElem?_eq_some_iff.1 (fg s e)).1
  have fss : ∀ s s' e (x : AObj), ((S s ++ e).set o x).set o (.cells [pasC s']) = S s' ++ e := fun s s' e x => by rw [List.set_set]; exact fs s s' e
  have cno : ∀ xs, canon (.lst 1 xs) = .lst 0 xs := fun xs => rfl
  simp (contextual := true) (maxSteps := 1000000) only [fg, fs, hlen, fts, fss, cno, List.length_set, ap_pasC, pasC_one, pasC_blw, pasC_snoc, stepsS, stepsT, stepsN, if_true, forall_const, ne_eq, implies_true, List.nil_append, List.append_nil, List.cons_append, List.length_cons, List.length_nil, Nat.reduceEqDiff, Nat.reduceAdd, Nat.reduceLT, Nat.reduceLeDiff, ↓reduceIte, reduceCtorEq, Int.reduceEq, Int.reduceLT]
  have hg0 : ∀ s x, (S s ++ (e ++ [x]))[n + e.length]? = some x := fun s x => by rw [← List.append_assoc, ← hlen s e, List.getElem?_append_right (Nat.le_refl _)]; simp
  have hs0 : ∀ s x y, (S s ++ (e ++ [x])).set (n + e.length) y = S s ++ (e ++ [y]) := fun s x y => by rw [← List.append_assoc, ← hlen s e, List.set_append_right _ _ (Nat.le_refl _)]; simp
  have tk0 : ∀ s, (S s ++ e).take (n + e.length) = S s ++ e := fun s => List.take_of_length_le (by rw [hlen]; exact Nat.le_refl _)
  refine ⟨by omega, fun _ => ?_⟩
  refine swp_loop_st t.l.length (fun i (q : List (List Int)) => q ++ pathsL (t.l.drop i) i p = ps ++ pathsT t p)
    (fun i q => [(1, .lst 0 (ints p)), (3, .ptr a 0), (14, .lst 0 (avs t.l)), (15, .int .i64 t.l.length), (16, .int .i64 i)]) (fun i q => S q ++ e) (ps ++ [p]) ⟨by rw [pathsT_eq, List.drop_zero, List.append_assoc]; rfl, sle_refl _ _ _⟩ fun i q hi hI => ?_
  have fA' : ∀ s e, (S s ++ e)[a]? = some (.cells [.fn (.func 84) [] [.ptr o 0, .ptr a 0]]) := fA
  simp (contextual := true) (maxSteps := 1000000) only [fg, fs, hlen, hg0, hs0, fA', stepsS, stepsT, stepsN, if_true, forall_const, ne_eq, implies_true, List.nil_append, List.append_nil, List.cons_append, List.length_cons, List.length_nil, Nat.reduceEqDiff, Nat.reduceAdd, Nat.reduceLT, Nat.reduceLeDiff, ↓reduceIte, reduceCtorEq, Int.reduceEq, Int.reduceLT]
  refine ⟨fun hlt => ⟨len_lt hlt, ?_⟩, fun hge => ?_⟩
  · have hlt := len_lt hlt
    simp (contextual := true) (maxSteps := 1000000) only [fg, fs, hlen, hg0, hs0, fA', slfull, Option.map_some, Option.map_none, stepsS, stepsT, stepsN, if_true, forall_const, ne_eq, implies_true, List.nil_append, List.append_nil, List.cons_append, List.length_cons, List.length_nil, Nat.reduceEqDiff, Nat.reduceAdd, Nat.reduceLT, Nat.reduceLeDiff, ↓reduceIte, reduceCtorEq, Int.reduceEq, Int.reduceLT]
    rw [pathsL_drop hlt, ← List.append_assoc] at hI
    have hy := mem_getD hlt
    have h1 := dps_mem hy
    have h2 := t.dp_eq
    have h3 := congrArg List.length hI
    have h4 := paths_len (t.l.getD i default) (p ++ [(i : Int)])
    have h5 := paths_len t p
    have h6 := pathsL_len (t.l.drop (i + 1)) (i + 1) p
    have h7 := szs_pos (t.l.drop (i + 1))
    have ha := (List.getElem?_eq_some_iff.1 (hA q)).1
    rw [F.len] at ha
    simp only [List.length_append] at h3
    refine ⟨by omega, scall_to (ih _ hy (p ++ [(i : Int)]) q (e ++ [.cells (t.l.getD i default).av.cells]) (by rw [List.length_append]; simp only [List.length_cons, List.length_nil]; omega) (by omega)) ?_⟩
    rintro r H' ⟨rfl, rfl⟩
    simp (contextual := true) (maxSteps := 1000000) only [fg, fs, hlen, stepsS, stepsT, stepsN, if_true, forall_const, ne_eq, implies_true, List.nil_append, List.append_nil, List.cons_append, List.length_cons, List.length_nil, Nat.reduceEqDiff, Nat.reduceAdd, Nat.reduceLT, Nat.reduceLeDiff, ↓reduceIte, reduceCtorEq, Int.reduceEq, Int.reduceLT]
    exact ⟨i + 1, q ++ pathsT (t.l.getD i default) (p ++ [(i : Int)]), ⟨hlt, hI⟩, by omega, sle_drop (by rw [wrap_nat i (by omega)]) (by rw [hlen]; exact Nat.le_refl _) (by rw [hlen]; simp only [eb_cons, eb_nil, bw_lst, bw_int, ints_blw, avs_blw, bw_ptr]; simp; omega) [.cells (t.l.getD i default).av.cells] (by rw [List.append_assoc])⟩
  · rw [List.drop_of_length_le (len_nlt hge), pathsL, List.append_nil] at hI
    subst hI
    exact ⟨n + e.length, Nat.le_refl _, [], trivial, rfl, rfl, tk0 _⟩
termination_by t => SizeOf.sizeOf t
decreasing_by exact T.lt hy
def pathsV (t : T) : AV := if t.tree = true then .lst 0 (pas (pathsT t [])) else .nils
theorem c41 (t : T) : Pure Try.prog 41 [t.av] (.tuple [pathsV t, .int .i64 (if t.tree = true then 0 else 4)]) := by
  refine fun H => ok41.calls (by simp [fi41]) ?_
  simp only [fi41, ir41]
  unfold pathsV
  simp (contextual := true) (maxSteps := 1000000) only [stepsS, stepsT, stepsN, if_true, forall_const, ne_eq, implies_true, List.nil_append, List.append_nil, List.cons_append, List.length_cons, List.length_nil, Nat.reduceEqDiff, Nat.reduceAdd, Nat.reduceLT, Nat.reduceLeDiff, ↓reduceIte, reduceCtorEq, Int.reduceEq, Int.reduceLT]
  refine scall_pure (c57 t) ?_
  cases ht : t.tree with
  | false =>
    simp (contextual := true) (maxSteps := 1000000) only [Bool.false_eq_true, stepsS, stepsT, stepsN, if_true, forall_const, ne_eq, implies_true, List.nil_append, List.append_nil, List.cons_append, List.length_cons, List.length_nil, Nat.reduceEqDiff, Nat.reduceAdd, Nat.reduceLT, Nat.reduceLeDiff, ↓reduceIte, reduceCtorEq, Int.reduceEq, Int.reduceLT]
    exact ret20 (by decide) rfl rfl rfl rfl
  | true =>
    have hti := (T.tree_iff t).1 ht
    let S : List (List Int) → List AObj := fun ps => H ++ [.cells [pasC ps], .cells [againF H.length (H.length + 1)]]
    have F : Fam S H.length (fun ps => .cells [pasC ps]) (H.length + 2) := ⟨fun s => by simp [S], fun s s' => by simp [S], fun s => by simp [S]⟩
    have hA : ∀ ps, (S ps)[H.length + 1]? = some (.cells [againF H.length (H.length + 1)]) := fun ps => by simp [S]
    have hc := c84 F hA t [] [] [] (by simp; omega) (by simp; omega)
    rw [List.append_nil, List.append_nil, List.nil_append] at hc
    simp (contextual := true) (maxSteps := 1000000) only [stepsS, stepsT, stepsN, if_true, forall_const, ne_eq, implies_true, List.nil_append, List.append_nil, List.cons_append, List.length_cons, List.length_nil, Nat.reduceEqDiff, Nat.reduceAdd, Nat.reduceLT, Nat.reduceLeDiff, ↓reduceIte, reduceCtorEq, Int.reduceEq, Int.reduceLT]
    refine ⟨by simp; omega, scall_of hc ⟨le_refl _, .inr (.inr (.inr (.inl ⟨rfl, 0, rfl⟩))), le_refl _, le_refl _, trivial⟩ ?_⟩
    rintro r H' ⟨rfl, rfl⟩
    have e1 : pasC (pathsT t []) = .lst 1 (pas (pathsT t [])) := by rw [pathsT_eq]; rfl
    simp only [S, e1]
    simp (contextual := true) (maxSteps := 1000000) only [stepsS, stepsT, stepsN, if_true, forall_const, ne_eq, implies_true, List.nil_append, List.append_nil, List.cons_append, List.length_cons, List.length_nil, Nat.reduceEqDiff, Nat.reduceAdd, Nat.reduceLT, Nat.reduceLeDiff, ↓reduceIte, reduceCtorEq, Int.reduceEq, Int.reduceLT]
    exact ret22 (by decide) (by show AV.blw _ (.lst 0 (pas _)) = true; rw [bw_lst]; exact pas_blw _ _) rfl rfl rfl
theorem c44 (a b : List Int) : Pure Try.prog 44 [.lst 0 (ints a), .lst 0 (ints b)] (.bool (decide (a.length ≤ b.length ∧ a = b.take a.length))) := by
  refine fun H => ok44.calls (by simp [fi44]) ?_
  simp only [fi44, ir44]
  have hs : ∀ (n : Nat), n ≤ b.length → ∀ φ : AV → Prop, asliceX 1 (.lst 0 (ints b)) none (some (.int .i64 n)) none φ = φ (.lst 0 (ints (b.take n))) := by
    intro n hn φ
    have er : rlist (AV.lst 0 (ints b)) = some (ints b) := rfl
    have e2 : ((ints b).take n).drop 0 = ints (b.take n) := by rw [List.drop_zero]; simp [ints]
    simp only [asliceX, aslice, er, aidx, Int.toNat_natCast, e2, eq_iff_iff]
    constructor
    · intro h; exact h.2.2.2.2
    · intro h
      refine ⟨fun own xs he z hz => ?_, by omega, by omega, by rw [ints_len]; exact hn, h⟩
      cases he
      obtain ⟨y, _, rfl⟩ := List.mem_map.1 hz
      rfl
  simp (contextual := true) (maxSteps := 1000000) only [ints_len, optX, Option.map_some, Option.map_none, stepsS, stepsT, stepsN, if_true, forall_const, ne_eq, implies_true, List.nil_append, List.append_nil, List.cons_append, List.length_cons, List.length_nil, Nat.reduceEqDiff, Nat.reduceAdd, Nat.reduceLT, Nat.reduceLeDiff, ↓reduceIte, reduceCtorEq, Int.reduceEq, Int.reduceLT]
  intro _ _
  refine ⟨fun hle => ?_, fun hgt => ret0 rfl (by rw [decide_eq_false (by omega)])⟩
  have hle' : a.length ≤ b.length := by omega
  have h2 := hs _ hle'
  simp (contextual := true) (maxSteps := 1000000) only [ints_len, optX, Option.map_some, Option.map_none, h2, stepsS, stepsT, stepsN, if_true, forall_const, ne_eq, implies_true, List.nil_append, List.append_nil, List.cons_append, List.length_cons, List.length_nil, Nat.reduceEqDiff, Nat.reduceAdd, Nat.reduceLT, Nat.reduceLeDiff, ↓reduceIte, reduceCtorEq, Int.reduceEq, Int.reduceLT]
  refine scall_pure (c37 a (b.take a.length) 0 0) ?_
  simp (contextual := true) (maxSteps := 1000000) only [stepsS, stepsT, stepsN, if_true, forall_const, ne_eq, implies_true, List.nil_append, List.append_nil, List.cons_append, List.length_cons, List.length_nil, Nat.reduceEqDiff, Nat.reduceAdd, Nat.reduceLT, Nat.reduceLeDiff, ↓reduceIte, reduceCtorEq, Int.reduceEq, Int.reduceLT]
  refine ret0 rfl ?_
  congr 1
  rw [decide_eq_decide]
  exact ⟨fun h => ⟨hle', h⟩, fun h => h.2⟩
theorem T.l_mk (k n : Int) (l : List T) : (T.mk k n l).l = l := rfl
theorem T.k_mk (k n : Int) (l : List T) : (T.mk k n l).k = k := rfl
theorem T.n_mk (k n : Int) (l : List T) : (T.mk k n l).n = n := rfl
/-! ### What stands at places -/
theorem atT_put : ∀ (p : List Int) (t u : T), (atT t p).isSome = true → atT (putT t p u) p = some u
  | [], t, u, _ => rfl
  | i :: r, t, u, h => by
    rw [atT] at h
    split at h
    · cases h
    · rename_i hi
      have hm : i.toNat < t.l.length := by omega
      have ih := atT_put r (t.l.getD i.toNat default) u h
      rw [putT, atT]
      have e : (t.l.set i.toNat (putT (t.l.getD i.toNat default) r u)).getD i.toNat default = putT (t.l.getD i.toNat default) r u := by simp [hm]
      rw [if_neg (by rw [T.l_mk, List.length_set]; omega)]
      show atT ((t.l.set i.toNat _).getD i.toNat default) r = _
      rw [e]
      exact ih
theorem put_put : ∀ (p : List Int) (t u x : T), atT t p = some x → putT (putT t p u) p x = t
  | [], t, u, x, h => by simp only [atT] at h; cases h; rfl
  | i :: r, t, u, x, h => by
    rw [atT] at h
    split at h
    · cases h
    · rename_i hi
      have hm : i.toNat < t.l.length := by omega
      have ih := put_put r (t.l.getD i.toNat default) u x h
      rw [putT, putT]
      have e : (t.l.set i.toNat (putT (t.l.getD i.toNat default) r u)).getD i.toNat default = putT (t.l.getD i.toNat default) r u := by simp [hm]
      simp only [T.l_mk, T.k_mk, T.n_mk]
      rw [e, ih, List.set_set]
      have e2 : t.l.set i.toNat (t.l.getD i.toNat default) = t.l := set_getD hm
      rw [e2]
      cases t; rfl
theorem atT_apart : ∀ (p q : List Int) (t u : T), (atT t p).isSome = true → (atT t q).isSome = true → ¬ (p.length ≤ q.length ∧ p = q.take p.length) → ¬ (q.length ≤ p.length ∧ q = p.take q.length) → atT (putT t p u) q = atT t q
  | [], q, t, u, _, _, h1, _ => absurd ⟨Nat.zero_le _, rfl⟩ h1
  | i :: r, [], t, u, _, _, _, h2 => absurd ⟨Nat.zero_le _, rfl⟩ h2
  | i :: r, j :: s, t, u, hp, hq, h1, h2 => by
    rw [atT] at hp hq
    split at hp
    · cases hp
    split at hq
    · cases hq
    rename_i hi hj
    rw [putT, atT, atT]
    rw [if_neg (by rw [T.l_mk, List.length_set]; omega), if_neg hj]
    by_cases e : i = j
    · subst e
      have hm : i.toNat < t.l.length := by omega
      have e1 : (t.l.set i.toNat (putT (t.l.getD i.toNat default) r u)).getD i.toNat default = putT (t.l.getD i.toNat default) r u := by simp [hm]
      show atT ((t.l.set i.toNat _).getD i.toNat default) s = _
      rw [e1]
      exact atT_apart r s _ u hp hq (fun h => h1 ⟨by simpa using h.1, by simpa using h.2⟩) (fun h => h2 ⟨by simpa using h.1, by simpa using h.2⟩)
    · have hne : i.toNat ≠ j.toNat := by omega
      show atT ((t.l.set i.toNat _).getD j.toNat default) s = _
      have e1 : ∀ y, (t.l.set i.toNat y).getD j.toNat default = t.l.getD j.toNat default := fun y => by
        rw [List.getD_eq_getElem?_getD, List.getElem?_set_ne hne, ← List.getD_eq_getElem?_getD]
      rw [e1]
mutual
theorem paths_at : ∀ (t : T) (p q : List Int), q ∈ pathsT t p → ∃ s, q = p ++ s ∧ (atT t s).isSome = true
  | .mk k n l, p, q, h => by
    simp only [pathsT, List.mem_cons] at h
    rcases h with rfl | h
    · exact ⟨[], by simp, rfl⟩
    · obtain ⟨j, s, hj, rfl, h2⟩ := pathsL_at l 0 p q h
      refine ⟨(j : Int) :: s, by simp, ?_⟩
      rw [atT, if_neg (by rw [T.l_mk]; omega), Int.toNat_natCast]
      exact h2
theorem pathsL_at : ∀ (l : List T) (i : Nat) (p q : List Int), q ∈ pathsL l i p → ∃ (j : Nat) (s : List Int), j < l.length ∧ q = p ++ ((i + j : Nat) : Int) :: s ∧ (atT (l.getD j default) s).isSome = true
  | [], i, p, q, h => by simp [pathsL] at h
  | x :: r, i, p, q, h => by
    simp only [pathsL, List.mem_append] at h
    rcases h with h | h
    · obtain ⟨s, rfl, h2⟩ := paths_at x _ _ h
      exact ⟨0, s, by simp, by simp, h2⟩
    · obtain ⟨j, s, hj, rfl, h2⟩ := pathsL_at r (i + 1) p q h
      exact ⟨j + 1, s, by simpa using hj, by simp; omega, by simpa using h2⟩
end
end Go.Abs
end
section
/- A law's code, as the memory-free layer reads it. -/
set_option maxRecDepth 100000
namespace Go.Abs
open Go Go.Proofs
/-- madrigal/madrigallaw04.SigPuts -/
def ir12 : IR := (.seq (.region [⟨.none, (.some 3), (.boxi (.t 0))⟩, ⟨.none, (.some 4), (.boxi (.t 1))⟩, ⟨.none, (.some 6), (.set (.c (.bool .false)) .false)⟩] (.some [2, 3, 4])) (.seq (.seq (.region [⟨.none, (.some 24), (.call (.c (.fn (.func 13) [] [])) [] .none)⟩, ⟨.none, (.some 25), (.un .not (.t 24))⟩] (.some [2, 3, 4, 25])) (.cond (.t 25) (.seq (.region [⟨.none, (.some 6), (.set (.c (.bool .false)) .false)⟩] (.some [6])) .ret) .skip)) (.seq (.seq (.region [⟨.none, (.some 26), (.load (.some 3) (.t 3))⟩, ⟨.none, (.some 27), (.load (.some 3) (.t 4))⟩, ⟨.none, (.some 28), (.buildSlice 0 3 (.agg [(.int .i64 0), (.int .i64 0), .nils]) 2 [(0, (.t 26)), (1, (.t 27))])⟩, ⟨.none, (.some 29), (.call (.c (.fn (.func 14) [] [])) [(.t 28)] .none)⟩, ⟨.none, (.some 30), (.un .not (.t 29))⟩, ⟨.none, (.some 31), (.set (.t 30) .false)⟩, ⟨(.some (31, .false)), (.some 32), (.load (.some 3) (.t 3))⟩, ⟨(.some (31, .false)), (.some 33), (.call (.c (.fn (.func 15) [] [])) [(.t 32)] .none)⟩, ⟨(.some (31, .false)), (.some 34), (.un .not (.t 33))⟩, ⟨.none, (.some 35), (.pick (.t 31) (.c (.bool .true)) (.t 34))⟩, ⟨.none, (.some 36), (.set (.t 35) .false)⟩, ⟨(.some (36, .false)), (.some 37), (.load (.some 3) (.t 4))⟩, ⟨(.some (36, .false)), (.some 38), (.call (.c (.fn (.func 15) [] [])) [(.t 37)] .none)⟩, ⟨(.some (36, .false)), (.some 39), (.un .not (.t 38))⟩, ⟨.none, (.some 40), (.pick (.t 36) (.c (.bool .true)) (.t 39))⟩] (.some [2, 3, 4, 40])) (.cond (.t 40) (.seq (.region [⟨.none, (.some 6), (.set (.c (.bool .true)) .false)⟩] (.some [6])) .ret) .skip)) (.seq (.region [⟨.none, (.some 42), (.load (.some 3) (.t 3))⟩, ⟨.none, (.some 43), (.call (.c (.fn (.func 41) [] [])) [(.t 42)] .none)⟩, ⟨.none, (.some 41), (.set (.t 43) .false)⟩, ⟨.none, (.some 44), (.extract (.t 41) 0)⟩, ⟨.none, (.some 45), (.extract (.t 41) 1)⟩, ⟨.none, (.some 7), (.set (.t 44) .false)⟩, ⟨.none, (.some 8), (.set (.t 45) .false)⟩] (.some [2, 3, 4, 7, 8])) (.seq (.region [⟨.none, (.some 47), (.load (.some 3) (.t 3))⟩, ⟨.none, (.some 48), (.call (.c (.fn (.func 34) [] [])) [(.t 47)] .none)⟩, ⟨.none, (.some 46), (.set (.t 48) .false)⟩, ⟨.none, (.some 49), (.extract (.t 46) 0)⟩, ⟨.none, (.some 50), (.extract (.t 46) 1)⟩, ⟨.none, (.some 9), (.set (.t 49) .false)⟩, ⟨.none, (.some 10), (.set (.t 50) .false)⟩] (.some [2, 3, 4, 7, 8, 9])) (.seq (.seq (.region [⟨.none, (.some 51), (.set (.t 8) .false)⟩, ⟨.none, (.some 52), (.bin .neq (.t 51) (.c (.int .i64 0)))⟩, ⟨.none, (.some 53), (.set (.t 52) .false)⟩, ⟨(.some (53, .false)), (.some 54), (.set (.t 7) .false)⟩, ⟨(.some (53, .false)), (.some 55), (.len 1 (.t 54))⟩, ⟨(.some (53, .false)), (.some 56), (.set (.t 9) .false)⟩, ⟨(.some (53, .false)), (.some 57), (.bin .neq (.t 55) (.t 56))⟩, ⟨.none, (.some 58), (.pick (.t 53) (.c (.bool .true)) (.t 57))⟩, ⟨.none, (.some 59), (.set (.t 58) .false)⟩, ⟨(.some (59, .false)), (.some 60), (.set (.t 9) .false)⟩, ⟨(.some (59, .false)), (.some 61), (.bin .eql (.t 60) (.c (.int .i64 0)))⟩, ⟨.none, (.some 62), (.pick (.t 59) (.c (.bool .true)) (.t 61))⟩] (.some [2, 3, 4, 7, 9, 62])) (.cond (.t 62) (.seq (.region [⟨.none, (.some 6), (.set (.c (.bool .false)) .false)⟩] (.some [6])) .ret) .skip)) (.seq (.region [⟨.none, (.some 63), (.set (.t 7) .false)⟩, ⟨.none, (.some 64), (.set (.t 2) .false)⟩, ⟨.none, (.some 65), (.convInt .u64 (.t 64))⟩, ⟨.none, (.some 66), (.set (.t 9) .false)⟩, ⟨.none, (.some 67), (.convInt .u64 (.t 66))⟩, ⟨.none, (.some 68), (.bin .rem (.t 65) (.t 67))⟩, ⟨.none, (.some 69), (.convInt .i64 (.t 68))⟩, ⟨.none, (.some 70), (.indexAddr 1 (.t 63) (.t 69))⟩, ⟨.none, (.some 71), (.load .none (.t 70))⟩, ⟨.none, (.some 11), (.set (.t 71) .false)⟩] (.some [3, 4, 7, 11])) (.seq (.region [⟨.none, (.some 73), (.load (.some 3) (.t 3))⟩, ⟨.none, (.some 74), (.set (.t 11) .false)⟩, ⟨.none, (.some 75), (.call (.c (.fn (.func 42) [] [])) [(.t 73), (.t 74)] .none)⟩, ⟨.none, (.some 72), (.set (.t 75) .false)⟩, ⟨.none, (.some 76), (.extract (.t 72) 0)⟩, ⟨.none, (.some 77), (.extract (.t 72) 1)⟩, ⟨.none, (.some 12), (.boxs 3 (.t 76))⟩, ⟨.none, (.some 8), (.set (.t 77) .false)⟩] (.some [3, 4, 7, 8, 11, 12])) (.seq (.seq (.region [⟨.none, (.some 78), (.set (.t 8) .false)⟩, ⟨.none, (.some 79), (.bin .neq (.t 78) (.c (.int .i64 0)))⟩] (.some [3, 4, 7, 11, 12, 79])) (.cond (.t 79) (.seq (.region [⟨.none, (.some 6), (.set (.c (.bool .false)) .false)⟩] (.some [6])) .ret) .skip)) (.seq (.region [⟨.none, (.some 81), (.load (.some 3) (.t 3))⟩, ⟨.none, (.some 82), (.set (.t 11) .false)⟩, ⟨.none, (.some 83), (.load (.some 3) (.t 4))⟩, ⟨.none, (.some 84), (.call (.c (.fn (.func 43) [] [])) [(.t 81), (.t 82), (.t 83)] .none)⟩, ⟨.none, (.some 80), (.set (.t 84) .false)⟩, ⟨.none, (.some 85), (.extract (.t 80) 0)⟩, ⟨.none, (.some 86), (.extract (.t 80) 1)⟩, ⟨.none, (.some 13), (.boxs 3 (.t 85))⟩, ⟨.none, (.some 8), (.set (.t 86) .false)⟩] (.some [3, 4, 7, 8, 11, 12, 13])) (.seq (.seq (.region [⟨.none, (.some 87), (.set (.t 8) .false)⟩, ⟨.none, (.some 88), (.bin .neq (.t 87) (.c (.int .i64 0)))⟩] (.some [3, 4, 7, 8, 11, 12, 13, 88])) (.cond (.t 88) (.seq (.region [⟨.none, (.some 89), (.set (.t 8) .false)⟩, ⟨.none, (.some 90), (.bin .eql (.t 89) (.c (.int .i64 2)))⟩, ⟨.none, (.some 6), (.set (.t 90) .false)⟩] (.some [6])) .ret) .skip)) (.seq (.region [⟨.none, (.some 92), (.load (.some 3) (.t 13))⟩, ⟨.none, (.some 93), (.set (.t 11) .false)⟩, ⟨.none, (.some 94), (.call (.c (.fn (.func 42) [] [])) [(.t 92), (.t 93)] .none)⟩, ⟨.none, (.some 91), (.set (.t 94) .false)⟩, ⟨.none, (.some 95), (.extract (.t 91) 0)⟩, ⟨.none, (.some 96), (.extract (.t 91) 1)⟩, ⟨.none, (.some 14), (.boxs 3 (.t 95))⟩, ⟨.none, (.some 15), (.set (.t 96) .false)⟩] (.some [3, 4, 7, 11, 12, 13, 14, 15])) (.seq (.region [⟨.none, (.some 98), (.load (.some 3) (.t 13))⟩, ⟨.none, (.some 99), (.set (.t 11) .false)⟩, ⟨.none, (.some 100), (.load (.some 3) (.t 12))⟩, ⟨.none, (.some 101), (.call (.c (.fn (.func 43) [] [])) [(.t 98), (.t 99), (.t 100)] .none)⟩, ⟨.none, (.some 97), (.set (.t 101) .false)⟩, ⟨.none, (.some 102), (.extract (.t 97) 0)⟩, ⟨.none, (.some 103), (.extract (.t 97) 1)⟩, ⟨.none, (.some 16), (.boxs 3 (.t 102))⟩, ⟨.none, (.some 17), (.set (.t 103) .false)⟩] (.some [3, 4, 7, 11, 13, 14, 15, 16, 17])) (.seq (.seq (.region [⟨.none, (.some 104), (.set (.t 15) .false)⟩, ⟨.none, (.some 105), (.bin .neq (.t 104) (.c (.int .i64 0)))⟩, ⟨.none, (.some 106), (.set (.t 105) .false)⟩, ⟨(.some (106, .false)), (.some 107), (.set (.t 17) .false)⟩, ⟨(.some (106, .false)), (.some 108), (.bin .neq (.t 107) (.c (.int .i64 0)))⟩, ⟨.none, (.some 109), (.pick (.t 106) (.c (.bool .true)) (.t 108))⟩, ⟨.none, (.some 110), (.set (.t 109) .false)⟩, ⟨(.some (110, .false)), (.some 111), (.load (.some 3) (.t 14))⟩, ⟨(.some (110, .false)), (.some 112), (.load (.some 3) (.t 4))⟩, ⟨(.some (110, .false)), (.some 113), (.call (.c (.fn (.func 20) [] [])) [(.t 111), (.t 112)] .none)⟩, ⟨(.some (110, .false)), (.some 114), (.un .not (.t 113))⟩, ⟨.none, (.some 115), (.pick (.t 110) (.c (.bool .true)) (.t 114))⟩, ⟨.none, (.some 116), (.set (.t 115) .false)⟩, ⟨(.some (116, .false)), (.some 117), (.load (.some 3) (.t 16))⟩, ⟨(.some (116, .false)), (.some 118), (.load (.some 3) (.t 3))⟩, ⟨(.some (116, .false)), (.some 119), (.call (.c (.fn (.func 20) [] [])) [(.t 117), (.t 118)] .none)⟩, ⟨(.some (116, .false)), (.some 120), (.un .not (.t 119))⟩, ⟨.none, (.some 121), (.pick (.t 116) (.c (.bool .true)) (.t 120))⟩] (.some [3, 7, 11, 13, 121])) (.cond (.t 121) (.seq (.region [⟨.none, (.some 6), (.set (.c (.bool .false)) .false)⟩] (.some [6])) .ret) .skip)) (.seq (.seq (.region [⟨.none, (.some 122), (.set (.t 7) .false)⟩, ⟨.none, (.some 123), (.len 1 (.t 122))⟩, ⟨.none, (.some 124), (.set (.c (.int .i64 0)) .false)⟩] (.some [3, 11, 13, 122, 123, 124])) (.block 0 (.loop (.seq (.region [⟨.none, (.some 125), (.bin .lss (.t 124) (.t 123))⟩] (.some [3, 11, 13, 122, 123, 124, 125])) (.seq (.cond (.t 125) .skip (.exit 0)) (.seq (.block 1 (.seq (.region [⟨.none, (.some 126), (.set (.t 124) .false)⟩, ⟨.none, (.some 127), (.indexAddr 1 (.t 122) (.t 124))⟩, ⟨.none, (.some 128), (.load .none (.t 127))⟩, ⟨.none, (.some 18), (.set (.t 126) .false)⟩, ⟨.none, (.some 19), (.set (.t 128) .false)⟩] (.some [3, 11, 13, 18, 19, 122, 123, 124])) (.seq (.seq (.region [⟨.none, (.some 129), (.set (.t 18) .false)⟩, ⟨.none, (.some 130), (.bin .gtr (.t 129) (.c (.int .i64 100)))⟩] (.some [3, 11, 13, 19, 122, 123, 124, 130])) (.cond (.t 130) (.exit 0) .skip)) (.seq (.seq (.region [⟨.none, (.some 131), (.set (.t 19) .false)⟩, ⟨.none, (.some 132), (.set (.t 11) .false)⟩, ⟨.none, (.some 133), (.call (.c (.fn (.func 44) [] [])) [(.t 131), (.t 132)] .none)⟩, ⟨.none, (.some 134), (.set (.t 133) .false)⟩, ⟨(.some (134, .false)), (.some 135), (.set (.t 11) .false)⟩, ⟨(.some (134, .false)), (.some 136), (.set (.t 19) .false)⟩, ⟨(.some (134, .false)), (.some 137), (.call (.c (.fn (.func 44) [] [])) [(.t 135), (.t 136)] .none)⟩, ⟨.none, (.some 138), (.pick (.t 134) (.c (.bool .true)) (.t 137))⟩] (.some [3, 11, 13, 19, 122, 123, 124, 138])) (.cond (.t 138) (.exit 1) .skip)) (.seq (.region [⟨.none, (.some 140), (.load (.some 3) (.t 3))⟩, ⟨.none, (.some 141), (.set (.t 19) .false)⟩, ⟨.none, (.some 142), (.call (.c (.fn (.func 42) [] [])) [(.t 140), (.t 141)] .none)⟩, ⟨.none, (.some 139), (.set (.t 142) .false)⟩, ⟨.none, (.some 143), (.extract (.t 139) 0)⟩, ⟨.none, (.some 144), (.extract (.t 139) 1)⟩, ⟨.none, (.some 20), (.boxs 3 (.t 143))⟩, ⟨.none, (.some 21), (.set (.t 144) .false)⟩] (.some [3, 11, 13, 19, 20, 21, 122, 123, 124])) (.seq (.region [⟨.none, (.some 146), (.load (.some 3) (.t 13))⟩, ⟨.none, (.some 147), (.set (.t 19) .false)⟩, ⟨.none, (.some 148), (.call (.c (.fn (.func 42) [] [])) [(.t 146), (.t 147)] .none)⟩, ⟨.none, (.some 145), (.set (.t 148) .false)⟩, ⟨.none, (.some 149), (.extract (.t 145) 0)⟩, ⟨.none, (.some 150), (.extract (.t 145) 1)⟩, ⟨.none, (.some 22), (.boxs 3 (.t 149))⟩, ⟨.none, (.some 23), (.set (.t 150) .false)⟩] (.some [3, 11, 13, 20, 21, 22, 23, 122, 123, 124])) (.seq (.region [⟨.none, (.some 151), (.set (.t 21) .false)⟩, ⟨.none, (.some 152), (.bin .neq (.t 151) (.c (.int .i64 0)))⟩, ⟨.none, (.some 153), (.set (.t 152) .false)⟩, ⟨(.some (153, .false)), (.some 154), (.set (.t 23) .false)⟩, ⟨(.some (153, .false)), (.some 155), (.bin .neq (.t 154) (.c (.int .i64 0)))⟩, ⟨.none, (.some 156), (.pick (.t 153) (.c (.bool .true)) (.t 155))⟩, ⟨.none, (.some 157), (.set (.t 156) .false)⟩, ⟨(.some (157, .false)), (.some 158), (.load (.some 3) (.t 20))⟩, ⟨(.some (157, .false)), (.some 159), (.load (.some 3) (.t 22))⟩, ⟨(.some (157, .false)), (.some 160), (.call (.c (.fn (.func 20) [] [])) [(.t 158), (.t 159)] .none)⟩, ⟨(.some (157, .false)), (.some 161), (.un .not (.t 160))⟩, ⟨.none, (.some 162), (.pick (.t 157) (.c (.bool .true)) (.t 161))⟩] (.some [3, 11, 13, 122, 123, 124, 162])) (.cond (.t 162) (.seq (.region [⟨.none, (.some 6), (.set (.c (.bool .false)) .false)⟩] (.some [6])) .ret) .skip)))))))) (.region [⟨.none, (.some 163), (.bin .add (.t 124) (.c (.int .i64 1)))⟩, ⟨.none, (.some 124), (.set (.t 163) .false)⟩] (.some [3, 11, 13, 122, 123, 124])))))))) (.seq (.region [⟨.none, (.some 6), (.set (.c (.bool .true)) .false)⟩] (.some [6])) .ret))))))))))))))))
def fi12 : FunI := ⟨164, ir12, [(.t 6)]⟩
theorem ok12 : FunOk Try.prog 12 fi12 := ⟨Try.call12, Try.f12, _, [(0, 0, 1), (0, 1, 1), (10, 6, 1000), (13, 7, 1000), (16, 6, 1000), (17, 7, 1000), (25, 6, 1000), (26, 6, 1000)], [(0, [2, 3, 4]), (1, [2, 3, 4, 25]), (2, [6]), (3, [2, 3, 4, 40]), (4, [6]), (5, [2, 3, 4, 7, 8]), (6, [2, 3, 4, 7, 8, 9]), (7, [2, 3, 4, 7, 9, 62]), (8, [6]), (9, [3, 4, 7, 11]), (10, [3, 4, 7, 8, 11, 12]), (11, [3, 4, 7, 11, 12, 79]), (12, [6]), (13, [3, 4, 7, 8, 11, 12, 13]), (14, [3, 4, 7, 8, 11, 12, 13, 88]), (15, [6]), (16, [3, 4, 7, 11, 12, 13, 14, 15]), (17, [3, 4, 7, 11, 13, 14, 15, 16, 17]), (18, [3, 7, 11, 13, 121]), (19, [6]), (20, [3, 11, 13, 122, 123, 124]), (21, [3, 11, 13, 122, 123, 124, 125]), (22, [3, 11, 13, 18, 19, 122, 123, 124]), (23, [3, 11, 13, 19, 122, 123, 124, 130]), (24, [3, 11, 13, 19, 122, 123, 124, 138]), (25, [3, 11, 13, 19, 20, 21, 122, 123, 124]), (26, [3, 11, 13, 20, 21, 22, 23, 122, 123, 124]), (27, [3, 11, 13, 122, 123, 124, 162]), (28, [6]), (29, [3, 11, 13, 122, 123, 124]), (30, [6])], [], Try.func12, rfl, Try.ntmps12, by kernel_rfl, by kernel_rfl⟩
end Go.Abs
end
