/- The readings of trees. -/
import Derived.Test.YtcfmgncmkbiknaaY04u
import Derived.Test.YtcfmgncmkbiknaaAbse
import Derived.KernelRfl
import Derived.SizedLaws
set_option maxRecDepth 100000
set_option linter.unusedSimpArgs false
namespace Go.Abs
open Go Go.RowKit

mutual
/-- Its numbers are those of a machine, its lists are not too long. -/
def T.wf : T → Prop
  | .mk k n l => (-9223372036854775808 ≤ k ∧ k ≤ 9223372036854775807) ∧ (-9223372036854775808 ≤ n ∧ n ≤ 9223372036854775807) ∧ l.length ≤ 9223372036854775807 ∧ wfs l
def wfs : List T → Prop
  | [] => True
  | x :: r => x.wf ∧ wfs r
end
theorem wfs_iff : ∀ l : List T, wfs l ↔ ∀ x ∈ l, x.wf
  | [] => by simp [wfs]
  | x :: r => by simp [wfs, wfs_iff r]

section
variable {H : Type} {enc : TypeId × Value → H} {P : Program} {w : World} {base : Nat} {sp : Nat → Bool} {held : Bool}

/-- The types of a tree: of a number, of a tree, of a list of trees. -/
structure TreeTy (P : Program) (ti tt tl : TypeId) : Prop where
  int : P.underlying ti = some (.int .i64)
  tree : ∃ f0 f1 f2 : Field, P.underlying tt = some (.struct #[f0, f1, f2]) ∧ f0.type = ti ∧ f0.offset = 0 ∧ f1.type = ti ∧ f1.offset = 1 ∧ f2.type = tl ∧ f2.offset = 2
  list : P.underlying tl = some (.slice tt)
  c1 : P.cellsOf ti = 1
  c3 : P.cellsOf tt = 3
  cl : P.cellsOf tl = 1

theorem i64_wf {n : Int} (h : (Lit.int .i64 n).wf = true) : -9223372036854775808 ≤ n ∧ n ≤ 9223372036854775807 := by
  simp only [Lit.wf, Bool.and_eq_true, decide_eq_true_eq] at h
  revert h
  simp [IntKind.has, IntKind.min, IntKind.max, IntKind.signed, IntKind.bits]

theorem range_list {n : Nat} {p : Nat → T → Prop} (h : ∀ i, i < n → ∃ t, p i t) : ∃ f : Nat → T, ∀ i, i < n → p i (f i) := by
  refine ⟨fun i => if hi : i < n then Classical.choose (h i hi) else default, fun i hi => ?_⟩
  simp only [dif_pos hi]
  exact Classical.choose_spec (h i hi)

def isT (w : World) (cs : List Value) (t : T) : Prop := RepL (memOf w) [] cs t.av.cells ∧ t.wf
def isTs (w : World) (cs : List Value) (l : List T) : Prop := (∃ v, cs = [v] ∧ (∃ y, Rep (memOf w) [] v y ∧ (y = .lst 0 (avs l) ∨ (y = .nils ∧ l = [])))) ∧ l.length ≤ 9223372036854775807 ∧ wfs l
theorem isTs.rep {cs : List Value} {l : List T} (h : isTs w cs l) : ∃ v, cs = [v] ∧ Rep (memOf w) [] v (.lst 0 (avs l)) := by
  obtain ⟨⟨v, rfl, y, hr, hy⟩, _⟩ := h
  refine ⟨v, rfl, ?_⟩
  rcases hy with rfl | ⟨rfl, rfl⟩
  · exact hr
  · exact hr.drop
/-- The datum of a list, and how many. -/
def tsLen (d : DataW H) (l : List T) : Prop := match d with | .slice es _ => l.length = es.length | _ => l = []
theorem trod_tree {ti tt tl : TypeId} (hT : TreeTy P ti tt tl) : ∀ (fuel : Nat),
    (∀ (cs : List Value) (x : DataW H × List MemPlace), DataW.trod enc P w base sp held fuel tt cs = some x → ∃ t : T, isT w cs t) ∧
    (∀ (cs : List Value) (x : DataW H × List MemPlace), DataW.trod enc P w base sp held fuel tl cs = some x → ∃ l : List T, isTs w cs l ∧ tsLen x.1 l) := by
  intro fuel
  induction fuel with
  | zero => exact ⟨fun cs x h => by simp [DataW.trod] at h, fun cs x h => by simp [DataW.trod] at h⟩
  | succ n ih =>
    refine ⟨fun cs x h => ?_, fun cs x h => ?_⟩
    · obtain ⟨f0, f1, f2, hu, h0, o0, h1, o1, h2, o2⟩ := hT.tree
      obtain ⟨xs, m, hm, rfl, hlen, hxs, hf⟩ := DataW.trod_struct hu h
      cases hm
      have g0 := hf 0 f0 rfl
      have g1 := hf 1 f1 rfl
      have g2 := hf 2 f2 rfl
      rw [h0, o0, hT.c1] at g0
      rw [h1, o1, hT.c1] at g1
      rw [h2, o2, hT.cl] at g2
      simp at hxs
      rw [hT.c3] at hlen
      match cs, hlen with
      | [a, b, c], _ =>
        have e0 : xs[0]? = some xs[0] := by simp [hxs]
        have e1 : xs[1]? = some xs[1] := by simp [hxs]
        have e2 : xs[2]? = some xs[2] := by simp [hxs]
        rw [e0] at g0; rw [e1] at g1; rw [e2] at g2
        obtain ⟨k, ek, _, wk⟩ := DataW.trod_int hT.int g0
        obtain ⟨q, eq, _, wq⟩ := DataW.trod_int hT.int g1
        obtain ⟨l, hl, _⟩ := ih.2 _ _ g2
        obtain ⟨v, ev, hv⟩ := hl.rep
        simp at ek eq ev
        subst ek eq ev
        exact ⟨.mk k q l, .cons _ _ _ _ (.int _ _) (.cons _ _ _ _ (.int _ _) (.cons _ _ _ _ hv .nil)), i64_wf wk, i64_wf wq, hl.2.1, hl.2.2⟩
    · rcases DataW.trod_slice hT.list h with ⟨rfl, rfl⟩ | ⟨a, len, cap, elems, rest, m, hm, rfl, rfl, hb, hle, hcap, hel, hget, _, _⟩
      · exact ⟨[], ⟨⟨_, rfl, .nils, .nils, .inr ⟨rfl, rfl⟩⟩, by simp, trivial⟩, rfl⟩
      cases hm
      rw [hT.c3] at hget
      have hex : ∀ i, i < len → ∃ t : T, ∃ cs', w.cells? base (a.add (i * 3)) 3 = some cs' ∧ isT w cs' t := by
        intro i hi
        have := hget i hi
        rw [List.getElem?_eq_getElem (by omega)] at this
        obtain ⟨cs', k1, k2⟩ := Option.bind_eq_some_iff.1 this
        obtain ⟨t, ht⟩ := ih.1 _ _ k2
        exact ⟨t, cs', k1, ht⟩
      obtain ⟨f, hf⟩ := range_list hex
      have hmx : maxLen = 9223372036854775807 := rfl
      refine ⟨(List.range len).map f, ⟨⟨_, rfl, _, ?_, .inl rfl⟩, by simp; omega, ?_⟩, by simp [tsLen, hel]⟩
      · rw [avs_map, List.map_map]
        refine rep_slice (e := 3) (base := base) (by decide) hle hcap (fun i => if hi : i < len then Classical.choose (hf i hi) else []) _ fun i hi => ?_
        simp only [dif_pos hi]
        obtain ⟨k1, k2⟩ := Classical.choose_spec (hf i hi)
        exact ⟨k1, k2.1⟩
      · rw [wfs_iff]
        intro x hx
        obtain ⟨i, hi, rfl⟩ := List.mem_map.1 hx
        obtain ⟨cs', _, k2⟩ := hf i (List.mem_range.1 hi)
        exact k2.2
theorem open_T {ti tt tl : TypeId} (hT : TreeTy P ti tt tl) {r : Reach} {b0 : Nat} {v : Value} {d : DataW H} {ps : List MemPlace} (hval : Value.okWide P w r b0 tt v) (hd : DataW.Trod enc P w base sp held tt v d ps) :
    ∃ t : T, Rep (memOf w) [] v t.av ∧ t.wf := by
  obtain ⟨f0, f1, f2, hu, _⟩ := hT.tree
  obtain ⟨cs, rfl, _⟩ := WideShapes.okWide_struct hu hval
  obtain ⟨fuel, hf⟩ := hd
  obtain ⟨t, h1, h2⟩ := (trod_tree hT fuel).1 _ _ hf
  refine ⟨t, ?_, h2⟩
  have : Rep (memOf w) [] (.agg cs.toList.toArray) (.agg t.av.cells) := .agg _ _ h1
  rw [t.agg_cells] at this
  simpa using this
theorem open_Ts {ti tt tl : TypeId} (hT : TreeTy P ti tt tl) {r : Reach} {b0 : Nat} {v : Value} {d : DataW H} {ps : List MemPlace} (hval : Value.okWide P w r b0 tl v) (hd : DataW.Trod enc P w base sp held tl v d ps) :
    ∃ l : List T, Rep (memOf w) [] v (.lst 0 (avs l)) ∧ tsLen d l ∧ wfs l := by
  obtain ⟨a, len, cap, rfl⟩ := WideShapes.okWide_slice hT.list hval
  obtain ⟨fuel, hf⟩ := hd
  obtain ⟨l, hl, hlen⟩ := (trod_tree hT fuel).2 _ _ hf
  obtain ⟨v, hv, hr⟩ := hl.rep
  simp [Value.cells] at hv
  subst hv
  exact ⟨l, hr, hlen, hl.2.2⟩
/-- How long a list of trees can be. -/
theorem ts_room {ti tt tl : TypeId} (hT : TreeTy P ti tt tl) {ts : List TypeId} {ds : List (DataW H)} (h : (DataW.weightsEach P ts ds).all (· ≤ reachBytes) = true) {j : Nat} {d : DataW H} {l : List T} (ht : ts[j]? = some tl) (hd : ds[j]? = some d) (hl : tsLen d l) :
    l.length * P.bytesOf tt ≤ reachBytes := by
  unfold tsLen at hl
  split at hl
  · rename_i es sp
    have := sized_slice h ht hd hT.list
    rw [hl]
    exact Nat.le_trans (Nat.mul_le_mul_right _ (Nat.le_add_right _ _)) this
  · subst hl; simp
end
end Go.Abs
