/- The readings of structures: lists of numbers, of strings, signatures. -/
import Derived.Test.YtcfmgncmkbiknaaY04y
import Derived.Test.YtcfmgncmkbiknaaY04x6
set_option maxRecDepth 100000
set_option linter.unusedSimpArgs false
namespace Go.Abs
open Go Go.RowKit
section
variable {H : Type} {enc : TypeId × Value → H} {P : Program} {w : World} {base : Nat} {sp : Nat → Bool} {held : Bool}
/-- What is read at a type is told by a function. -/
def Rd {H : Type} (enc : TypeId × Value → H) (P : Program) (w : World) (base : Nat) (sp : Nat → Bool) (held : Bool) {α : Type} (t : TypeId) (g : α → AV) (R : DataW H → α → Prop) : Prop :=
  ∀ (fuel : Nat) (cs : List Value) (x : DataW H × List MemPlace), DataW.trod enc P w base sp held fuel t cs = some x → ∃ a, RepL (memOf w) [] cs (g a).cells ∧ R x.1 a
theorem rd_int {ti : TypeId} (h : P.underlying ti = some (.int .i64)) : Rd enc P w base sp held ti (fun n : Int => .int .i64 n) (fun _ _ => True) := by
  intro fuel cs x hx
  obtain ⟨k, rfl, _, _⟩ := DataW.trod_int h hx
  exact ⟨k, .cons _ _ _ _ (.int _ _) .nil, trivial⟩
theorem rd_str {ti : TypeId} (h : P.underlying ti = some .string) : Rd enc P w base sp held ti (fun s : ByteArray => .str s) (fun _ _ => True) := by
  intro fuel cs x hx
  obtain ⟨k, rfl, _, _⟩ := DataW.trod_string h hx
  exact ⟨k, .cons _ _ _ _ (.str _) .nil, trivial⟩
/-- How many there are, in the reading. -/
def slLen {α : Type} (d : DataW H) (l : List α) : Prop := match d with | .slice es _ => l.length = es.length | _ => l = []
theorem rd_slice {α : Type} [Inhabited α] {te tl : TypeId} {g : α → AV} {R : DataW H → α → Prop} {e : Nat} (hl : P.underlying tl = some (.slice te)) (hc : P.cellsOf te = e) (he : 0 < e) (h : Rd enc P w base sp held te g R) :
    Rd enc P w base sp held tl (fun l : List α => .lst 0 (l.map g)) slLen := by
  intro fuel cs x hx
  rcases DataW.trod_slice hl hx with ⟨rfl, rfl⟩ | ⟨a, len, cap, elems, rest, m, hm, rfl, rfl, hb, hle, hcap, hel, hget, _, _⟩
  · exact ⟨[], .cons _ _ _ _ Rep.nils.drop .nil, rfl⟩
  · rw [hc] at hget
    have hex : ∀ i, i < len → ∃ t : α, ∃ cs', w.cells? base (a.add (i * e)) e = some cs' ∧ RepL (memOf w) [] cs' (g t).cells := by
      intro i hi
      have := hget i hi
      rw [List.getElem?_eq_getElem (by omega)] at this
      obtain ⟨cs', k1, k2⟩ := Option.bind_eq_some_iff.1 this
      obtain ⟨t, ht, _⟩ := h _ _ _ k2
      exact ⟨t, cs', k1, ht⟩
    have hf : ∃ f : Nat → α, ∀ i, i < len → ∃ cs', w.cells? base (a.add (i * e)) e = some cs' ∧ RepL (memOf w) [] cs' (g (f i)).cells := by
      refine ⟨fun i => if hi : i < len then Classical.choose (hex i hi) else default, fun i hi => ?_⟩
      simp only [dif_pos hi]
      exact Classical.choose_spec (hex i hi)
    obtain ⟨f, hf⟩ := hf
    refine ⟨(List.range len).map f, .cons _ _ _ _ ?_ .nil, by simp [slLen, hel]⟩
    show Rep (memOf w) [] _ (.lst 0 (((List.range len).map f).map g))
    rw [List.map_map]
    refine rep_slice (e := e) (base := base) he hle hcap (fun i => if hi : i < len then Classical.choose (hf i hi) else []) _ fun i hi => ?_
    simp only [dif_pos hi]
    exact Classical.choose_spec (hf i hi)
theorem rd_trees {ti tt tl : TypeId} (hT : TreeTy P ti tt tl) : Rd enc P w base sp held tl (fun l : List T => .lst 0 (avs l)) tsLen := by
  intro fuel cs x hx
  obtain ⟨l, hl, hlen⟩ := (trod_tree hT fuel).2 _ _ hx
  obtain ⟨v, rfl, hr⟩ := hl.rep
  exact ⟨l, .cons _ _ _ _ hr .nil, hlen⟩
/-- The types of a signature. -/
structure SigTy (P : Program) (ti ts tis tss top tops tsig : TypeId) : Prop where
  int : P.underlying ti = some (.int .i64)
  str : P.underlying ts = some .string
  ints : P.underlying tis = some (.slice ti)
  strs : P.underlying tss = some (.slice ts)
  op : ∃ f0 f1 f2 : Field, P.underlying top = some (.struct #[f0, f1, f2]) ∧ f0.type = ts ∧ f0.offset = 0 ∧ f1.type = tis ∧ f1.offset = 1 ∧ f2.type = ti ∧ f2.offset = 2
  ops : P.underlying tops = some (.slice top)
  sig : ∃ f0 f1 : Field, P.underlying tsig = some (.struct #[f0, f1]) ∧ f0.type = tss ∧ f0.offset = 0 ∧ f1.type = tops ∧ f1.offset = 1
  c : P.cellsOf ti = 1 ∧ P.cellsOf ts = 1 ∧ P.cellsOf tis = 1 ∧ P.cellsOf tss = 1 ∧ P.cellsOf top = 3 ∧ P.cellsOf tops = 1 ∧ P.cellsOf tsig = 2
variable {ti ts tis tss top tops tsig : TypeId}
theorem repl_one {v : List Value} {x : AV} (h : RepL (memOf w) [] v [x]) : ∃ u, v = [u] ∧ Rep (memOf w) [] u x := by
  cases h with
  | cons v x vs xs h t => cases t; exact ⟨_, rfl, h⟩
theorem rd_ints (S : SigTy P ti ts tis tss top tops tsig) : Rd enc P w base sp held tis (fun l : List Int => .lst 0 (ints l)) slLen := rd_slice S.ints S.c.1 (by decide) (rd_int S.int)
theorem rd_strs (S : SigTy P ti ts tis tss top tops tsig) : Rd enc P w base sp held tss (fun l : List ByteArray => .lst 0 (strs l)) slLen := rd_slice S.strs S.c.2.1 (by decide) (rd_str S.str)
theorem rd_op (S : SigTy P ti ts tis tss top tops tsig) : Rd enc P w base sp held top Opn.av (fun _ _ => True) := by
  intro fuel cs x h
  obtain ⟨f0, f1, f2, hu, h0, o0, h1, o1, h2, o2⟩ := S.op
  obtain ⟨c1, c2, c3, c4, c5, c6, c7⟩ := S.c
  obtain ⟨xs, m, rfl, rfl, hlen, hxs, hf⟩ := DataW.trod_struct hu h
  have g0 := hf 0 f0 rfl
  have g1 := hf 1 f1 rfl
  have g2 := hf 2 f2 rfl
  rw [h0, o0, c2] at g0
  rw [h1, o1, c3] at g1
  rw [h2, o2, c1] at g2
  simp at hxs
  rw [c5] at hlen
  match cs, hlen with
  | [a, b, c], _ =>
    have e0 : xs[0]? = some xs[0] := by simp [hxs]
    have e1 : xs[1]? = some xs[1] := by simp [hxs]
    have e2 : xs[2]? = some xs[2] := by simp [hxs]
    rw [e0] at g0; rw [e1] at g1; rw [e2] at g2
    obtain ⟨nm, r0, _⟩ := rd_str S.str _ _ _ g0
    obtain ⟨ar, r1, _⟩ := rd_ints S _ _ _ g1
    obtain ⟨re, r2, _⟩ := rd_int S.int _ _ _ g2
    obtain ⟨_, q0, r0⟩ := repl_one r0
    obtain ⟨_, q1, r1⟩ := repl_one r1
    obtain ⟨_, q2, r2⟩ := repl_one r2
    simp at q0 q1 q2
    subst q0 q1 q2
    exact ⟨⟨nm, ar, re⟩, .cons _ _ _ _ r0 (.cons _ _ _ _ r1 (.cons _ _ _ _ r2 .nil)), trivial⟩
theorem rd_ops (S : SigTy P ti ts tis tss top tops tsig) : Rd enc P w base sp held tops (fun l : List Opn => .lst 0 (opas l)) slLen := rd_slice S.ops S.c.2.2.2.2.1 (by decide) (rd_op S)
theorem rd_sig (S : SigTy P ti ts tis tss top tops tsig) : Rd enc P w base sp held tsig Sg.av (fun _ _ => True) := by
  intro fuel cs x h
  obtain ⟨f0, f1, hu, h0, o0, h1, o1⟩ := S.sig
  obtain ⟨c1, c2, c3, c4, c5, c6, c7⟩ := S.c
  obtain ⟨xs, m, rfl, rfl, hlen, hxs, hf⟩ := DataW.trod_struct hu h
  have g0 := hf 0 f0 rfl
  have g1 := hf 1 f1 rfl
  rw [h0, o0, c4] at g0
  rw [h1, o1, c6] at g1
  simp at hxs
  rw [c7] at hlen
  match cs, hlen with
  | [a, b], _ =>
    have e0 : xs[0]? = some xs[0] := by simp [hxs]
    have e1 : xs[1]? = some xs[1] := by simp [hxs]
    rw [e0] at g0; rw [e1] at g1
    obtain ⟨nm, r0, _⟩ := rd_strs S _ _ _ g0
    obtain ⟨ar, r1, _⟩ := rd_ops S _ _ _ g1
    obtain ⟨_, q0, r0⟩ := repl_one r0
    obtain ⟨_, q1, r1⟩ := repl_one r1
    simp at q0 q1
    subst q0 q1
    exact ⟨⟨nm, ar⟩, .cons _ _ _ _ r0 (.cons _ _ _ _ r1 .nil), trivial⟩
/-- The type of a signature with sorts and terms. -/
structure OverTy (P : Program) (ts tis tsig tl to : TypeId) : Prop where
  over : ∃ f0 f1 f2 f3 f4 : Field, P.underlying to = some (.struct #[f0, f1, f2, f3, f4]) ∧ (f0.type = tsig ∧ f0.offset = 0) ∧ (f1.type = tis ∧ f1.offset = 2) ∧ (f2.type = tl ∧ f2.offset = 3) ∧ (f3.type = tis ∧ f3.offset = 4) ∧ (f4.type = ts ∧ f4.offset = 5)
  c : P.cellsOf to = 6
def ovR (d : DataW H) (o : Ov) : Prop := ∃ parts, d = .agg parts ∧ ∃ d' ∈ parts, tsLen d' o.l
theorem rd_over {tt tl to : TypeId} (S : SigTy P ti ts tis tss top tops tsig) (hT : TreeTy P ti tt tl) (O : OverTy P ts tis tsig tl to) : Rd enc P w base sp held to Ov.av ovR := by
  intro fuel cs x h
  obtain ⟨f0, f1, f2, f3, f4, hu, ⟨h0, o0⟩, ⟨h1, o1⟩, ⟨h2, o2⟩, ⟨h3, o3⟩, ⟨h4, o4⟩⟩ := O.over
  obtain ⟨c1, c2, c3, c4, c5, c6, c7⟩ := S.c
  obtain ⟨xs, m, rfl, rfl, hlen, hxs, hf⟩ := DataW.trod_struct hu h
  have g0 := hf 0 f0 rfl
  have g1 := hf 1 f1 rfl
  have g2 := hf 2 f2 rfl
  have g3 := hf 3 f3 rfl
  have g4 := hf 4 f4 rfl
  rw [h0, o0, c7] at g0
  rw [h1, o1, c3] at g1
  rw [h2, o2, hT.cl] at g2
  rw [h3, o3, c3] at g3
  rw [h4, o4, c2] at g4
  simp at hxs
  rw [O.c] at hlen
  match cs, hlen with
  | [a, b, c, d, e, f], _ =>
    have e0 : xs[0]? = some xs[0] := by simp [hxs]
    have e1 : xs[1]? = some xs[1] := by simp [hxs]
    have e2 : xs[2]? = some xs[2] := by simp [hxs]
    have e3 : xs[3]? = some xs[3] := by simp [hxs]
    have e4 : xs[4]? = some xs[4] := by simp [hxs]
    rw [e0] at g0; rw [e1] at g1; rw [e2] at g2; rw [e3] at g3; rw [e4] at g4
    obtain ⟨s, r0, _⟩ := rd_sig S _ _ _ g0
    obtain ⟨va, r1, _⟩ := rd_ints S _ _ _ g1
    obtain ⟨l, r2, hl⟩ := rd_trees hT _ _ _ g2
    obtain ⟨so, r3, _⟩ := rd_ints S _ _ _ g3
    obtain ⟨nm, r4, _⟩ := rd_str S.str _ _ _ g4
    obtain ⟨_, q1, r1⟩ := repl_one r1
    obtain ⟨_, q2, r2⟩ := repl_one r2
    obtain ⟨_, q3, r3⟩ := repl_one r3
    obtain ⟨_, q4, r4⟩ := repl_one r4
    simp at q1 q2 q3 q4
    subst q1 q2 q3 q4
    refine ⟨⟨s, va, l, so, nm⟩, ?_, _, rfl, xs[2].1, List.mem_map.2 ⟨xs[2], by simp, rfl⟩, hl⟩
    have r0' : RepL (memOf w) [] [a, b] [.lst 0 (strs s.sorts), .lst 0 (opas s.ops)] := r0
    cases r0' with
    | cons _ _ _ _ ra rb =>
      cases rb with
      | cons _ _ _ _ rb _ => exact .cons _ _ _ _ ra (.cons _ _ _ _ rb (.cons _ _ _ _ r1 (.cons _ _ _ _ r2 (.cons _ _ _ _ r3 (.cons _ _ _ _ r4 .nil)))))
theorem open_Ov {tt tl to : TypeId} (S : SigTy P ti ts tis tss top tops tsig) (hT : TreeTy P ti tt tl) (O : OverTy P ts tis tsig tl to) {r : Reach} {b0 : Nat} {v : Value} {d : DataW H} {ps : List MemPlace} (hval : Value.okWide P w r b0 to v) (hd : DataW.Trod enc P w base sp held to v d ps) :
    ∃ o : Ov, Rep (memOf w) [] v o.av ∧ ovR d o := by
  obtain ⟨f0, f1, f2, f3, f4, hu, _⟩ := O.over
  obtain ⟨cs, rfl, _⟩ := WideShapes.okWide_struct hu hval
  obtain ⟨fuel, hf⟩ := hd
  obtain ⟨o, h1, h2⟩ := rd_over S hT O _ _ _ hf
  refine ⟨o, ?_, h2⟩
  have : Rep (memOf w) [] (.agg cs.toList.toArray) o.av := .agg _ _ h1
  simpa using this
end
end Go.Abs
