/- A memory-free reading of the model's values (part 28): from what a row says of a start to this reading, and back. -/
import Derived.Test.YtcfmgncmkbiknaaAbs27
import Derived.ProofKit
import Derived.Deep.Slices
import Derived.Deep.Strs
set_option linter.unusedVariables false
set_option linter.unusedSimpArgs false
namespace Go.Abs
open Go Go.RowKit

/-- All that there is. -/
def memOf (w : World) : Mem := fun b o => w.cell? ⟨b, o, none⟩

theorem St.start {w : World} {vs : Array Value} {xs : List AV} (h : RepL (memOf w) [] vs.toList xs) (hf : ∀ x ∈ xs, ∀ own ys, x = .lst own ys → own = 0) :
    St (fun b => w.heap.size ≤ b) (memOf w) [] w [] (fun t => vs.getD t undef) (fun t => xs.getD t .any) (fun _ => none) where
  len := rfl
  nodup := by simp
  env := fun t => by
    have := h.getD t
    rw [List.getD_eq_getElem?_getD] at this
    rw [Array.getD_eq_getD_getElem?]
    simpa using this
  mem := fun b o v hv => hv
  obj := fun id o b ho => by simp at ho
  strat := fun id o ho => by simp at ho
  lt := fun b hb => by cases hb
  spt := fun t => by
    refine Spare.free fun own ys e => ?_
    rw [List.getD_eq_getElem?_getD] at e
    cases hx : xs[t]? with
    | none => rw [hx] at e; cases e
    | some x => rw [hx] at e; exact hf x (List.mem_of_getElem? hx) own ys e
  spc := fun id j => by simp [cellA, Spare]
  oinj := fun p q b hp => by cases hp
  osep := fun p b hp => by cases hp
  olt := fun p b hp => by cases hp
  La := fun b hb => by cases hb
  Oa := fun p b hp => by cases hp
  fresh := fun b hb => hb

theorem Ext.below {M M' : Mem} {w w' : World} (h : Ext (fun b => w.heap.size ≤ b) M w M' w') : Below w.heap.size w w' :=
  ⟨h.os, h.tape, h.output, h.size, fun k hk => (h.keep k hk (by omega)).1⟩

/-- A call whose answer is known, at a row's start. -/
theorem Pure.lift {P : Program} {f : FuncId} {xs : List AV} {b : Bool} (hp : Pure P f xs (.bool b)) (he : ∀ (as : Array Value) (w : World), (callFunc f as).run P w = .ok (.enter f as) w)
    {w : World} {vs : Array Value} (hr : RepL (memOf w) [] vs.toList xs) (hf : ∀ x ∈ xs, ∀ own ys, x = .lst own ys → own = 0) :
    Calls P f vs w fun e w' => e = .returned (.bool b) ∧ Below w.heap.size w w' := by
  have hs : vs.size = xs.length := by have := hr.length; simpa using this
  refine ((hp []).body he hs (St.start hr hf)).mono ?_
  rintro e w' ⟨v, r, H', M', L', O', rfl, ⟨rfl, rfl⟩, hst, hext, _⟩
  have := hst.env 0
  simp only [upd_same] at this
  cases this
  exact ⟨rfl, hext.below⟩

/-! ### Slices -/
theorem addr_add {a : Addr} {n : Nat} (h : a.spot = none) : a.add n = ⟨a.block, a.off + n, none⟩ := by
  obtain ⟨b, o, s⟩ := a
  simp only at h
  subst h
  unfold Addr.add
  split
  · rename_i e; subst e; rfl
  · rfl
theorem cell_spot {w : World} {a : Addr} {v : Value} (h : w.cell? a = some v) : a.spot = none := by
  unfold World.cell? at h
  split at h
  · split at h
    · cases h
    · rename_i hs; cases hsp : a.spot <;> simp_all
  · cases h

theorem repL_flat {M : Mem} {L : List Nat} : ∀ {n : Nat} {cs : Nat → List Value} {f : Nat → AV}, (∀ i, i < n → RepL M L (cs i) (f i).cells) → RepL M L ((List.range n).flatMap cs) (flat ((List.range n).map f))
  | 0, _, _, _ => by simp [flat]; exact .nil
  | n + 1, cs, f, h => by
    have ih := repL_flat (n := n) (fun i hi => h i (by omega))
    simp only [List.range_succ, List.flatMap_append, List.map_append, flat] at ih ⊢
    refine ih.append ?_
    simpa using h n (by omega)

theorem range_cells {n e : Nat} {cs : Nat → List Value} : (∀ i, i < n → (cs i).length = e) → ∀ (j : Nat) (v : Value), ((List.range n).flatMap cs)[j]? = some v → ∃ i k, i < n ∧ k < e ∧ j = i * e + k ∧ (cs i)[k]? = some v := by
  induction n with
  | zero => intro _ j v h; simp at h
  | succ n ih =>
    intro hl j v h
    simp only [List.range_succ, List.flatMap_append] at h
    have hlen : ((List.range n).flatMap cs).length = n * e := by
      clear h ih
      induction n with
      | zero => simp
      | succ n ih2 =>
        simp only [List.range_succ, List.flatMap_append, List.length_append]
        rw [ih2 (fun i hi => hl i (by omega))]
        simp [hl n (by omega), Nat.succ_mul]
    rcases Nat.lt_or_ge j (n * e) with hj | hj
    · rw [List.getElem?_append_left (by omega)] at h
      obtain ⟨i, k, h1, h2, h3, h4⟩ := ih (fun i hi => hl i (by omega)) j v h
      exact ⟨i, k, by omega, h2, h3, h4⟩
    · rw [List.getElem?_append_right (by omega), hlen] at h
      simp only [List.flatMap_cons, List.flatMap_nil, List.append_nil] at h
      have hk := (List.getElem?_eq_some_iff.1 h).1
      rw [hl n (by omega)] at hk
      exact ⟨n, j - n * e, by omega, hk, by omega, h⟩

theorem rep_slice {w : World} {base e len cap : Nat} {a : Addr} (he : 0 < e) (hl : len ≤ cap) (hc : cap ≤ maxLen) (cs : Nat → List Value) (f : Nat → AV)
    (h : ∀ i, i < len → w.cells? base (a.add (i * e)) e = some (cs i) ∧ RepL (memOf w) [] (cs i) (f i).cells) : Rep (memOf w) [] (.slice (some a) len cap) (.lst 0 ((List.range len).map f)) := by
  have hcap : cap < 9223372036854775808 := by have : maxLen = 9223372036854775807 := rfl; omega
  rcases Nat.eq_zero_or_pos len with h0 | h0
  · subst h0
    exact .lst0 _ _ _ hcap
  have hlen : ∀ i, i < len → (cs i).length = e := fun i hi => (World.cells?_some (h i hi).1).2.1
  have hcell : ∀ i, i < len → ∀ k, k < e → w.cell? ((a.add (i * e)).add k) = (cs i)[k]? := fun i hi => (World.cells?_some (h i hi).1).2.2
  have hspot : a.spot = none := by
    have h1 := hcell 0 h0 0 he
    rw [List.getElem?_eq_getElem (by rw [hlen 0 h0]; exact he)] at h1
    have h2 := cell_spot h1
    simpa [Addr.add] using h2
  have key : Rep (memOf w) [] (.slice (some ⟨a.block, a.off, none⟩) ((List.range len).map f).length cap) (.lst 0 ((List.range len).map f)) := by
    refine .lst a.block a.off cap 0 e ((List.range len).flatMap cs) _ he ?_ (by simpa using h0) (by simpa using hl) hcap (repL_flat fun i hi => (h i hi).2) ?_
    · intro x hx
      obtain ⟨i, hi, rfl⟩ := List.mem_map.1 hx
      have hi := List.mem_range.1 hi
      rw [← (h i hi).2.length, hlen i hi]
    · intro j v hv
      obtain ⟨i, k, h1, h2, rfl, h4⟩ := range_cells hlen j v hv
      have := hcell i h1 k h2
      rw [addr_add hspot, addr_add (by rfl)] at this
      show w.cell? ⟨a.block, a.off + (i * e + k), none⟩ = some v
      rw [← Nat.add_assoc, this, h4]
  have ea : (some a : Option Addr) = some ⟨a.block, a.off, none⟩ := by obtain ⟨b, o, s⟩ := a; simp only at hspot; rw [hspot]
  rw [ea]
  simpa using key

/-! ### Behind the call -/
section
variable {H : Type} {enc : TypeId × Value → H} {P : Program}
theorem trodAll_below (hl : laidOutB P = true) {W W' : World} (hb : Below W.heap.size W W') : ∀ {ts : List TypeId} {vs : List Value} {ds : List (DataW H)} {ps : List MemPlace}, (∀ t ∈ ts, P.readableRec t = true ∧ t < P.types.size) →
    DataW.TrodAll enc P W 0 (fun _ => true) true ts vs ds ps → (∀ x ∈ ps, x.block < W.heap.size) → DataW.TrodAll enc P W' 0 (fun b => decide (b < W.heap.size)) true ts vs ds ps
  | [], [], [], _, _, h, _ => h
  | t :: ts, v :: vs, d :: ds, _, ht, ⟨p, q, h1, h2, e⟩, hp => by
    subst e
    exact ⟨p, q, Below.trod hl (ht t (by simp)).1 (ht t (by simp)).2 h1 hb (fun x hx => hp x (by simp [hx])), trodAll_below hl hb (fun t ht' => ht t (by simp [ht'])) h2 (fun x hx => hp x (by simp [hx])), rfl⟩

/-- A law's end: it answers true; all arguments read as before. -/
theorem post_law {fn : Func} {s : ChangeSpec} {apart : Bool} {W W' : World} {args : Array Value} {ds gs : List (DataW H)} {before : List MemPlace} {t : TypeId} (hl : laidOutB P = true) (hb : Below W.heap.size W W')
    (hW : DataW.Whole enc P fn.params.toList s.vars apart W args.toList ds gs before) (hv : s.vars = []) (hres : fn.resultTypes = #[t]) (ht : P.underlying t = some .bool) (hs : s.fn H ds = { results := [.lit (.bool true)], args := ds })
    (hp : fn.params.toList.all (fun t => P.readableRec t && decide (t < P.types.size)) = true) : s.post enc P fn apart true false false W args (.bool true) W' := by
  have hlt : ∀ x ∈ before, x.block < W.heap.size := fun x hx => by simpa using hW.lt x hx
  have hW0 := hW
  obtain ⟨p, q, h1, h2, h3, h4, h5⟩ := hW
  rw [hv] at h2
  obtain ⟨rfl, rfl⟩ := ChangeShapes.trodVars_none h2
  simp only [List.append_nil] at h3
  subst h3
  refine ⟨ds, [], before, [], before, [], hW0, ?_, ?_, ?_, hb.frame _, fun h => by cases h⟩
  · simp only [List.append_nil, hs, hres]
    exact ChangeShapes.trodAll_mk1 (shut_bool ht true)
  · simp only [List.append_nil, hs]
    exact trodAll_below hl hb (fun t ht => by simpa using List.all_eq_true.1 hp t ht) h1 hlt
  · simp only [hv, List.append_nil, hs]
    rfl
end
end Go.Abs
