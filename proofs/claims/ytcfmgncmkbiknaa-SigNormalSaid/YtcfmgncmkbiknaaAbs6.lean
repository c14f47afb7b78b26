/- A memory-free reading of the model's values (part 6): the operations that make or write memory. -/
import Derived.Test.YtcfmgncmkbiknaaAbs5
import Derived.Laws.CopyRow
import Derived.Great.BuildSlice
set_option linter.unusedVariables false
set_option linter.unusedSimpArgs false
namespace Go.Abs
open Go

/-! ### What they ask -/
def abuild (zero : List AV) (parts : List (Nat × Nat × AV)) (φ : AV → Prop) : Prop := afill zero parts fun xs => φ (.agg xs)

def abslice (xs : List AV) (esz : Nat) : List (Nat × AV) → (List AV → Prop) → Prop
  | [], φ => φ xs
  | (i, x) :: r, φ => x.val = true ∧ x.cells.length = esz ∧ i < xs.length ∧ abslice (xs.set i (canon x)) esz r φ
where canon : AV → AV
  | .agg ys => .agg (ys.map AV.drop)
  | x => x.drop

/-- As it lies inside of something. -/
abbrev canon := abslice.canon

section
variable {M : Mem} {L : List Nat}
theorem Rep.canon {v : Value} {x : AV} (h : Rep M L v x) : Rep M L v (canon x) := by
  cases x <;> first | exact h.drop | skip
  cases h with
  | agg cs _ hr => exact .agg cs _ hr.map_drop
theorem canon_cells (x : AV) : (canon x).cells.length = x.cells.length := by
  cases x <;> simp [abslice.canon, AV.cells, AV.drop]
theorem canon_val {x : AV} (h : x.val = true) : (canon x).val = true := by
  cases x <;> simp_all [abslice.canon, AV.val, AV.drop]
theorem canon_free (x : AV) : ∀ own xs, canon x = .lst own xs → own = 0 := by
  intro own xs h
  cases x <;> simp_all [abslice.canon, AV.drop]
end

/-! ### They are right -/
section
variable {P : Program} {w : World} {M : Mem} {L : List Nat} {H : List AObj} {A : Nat → Prop} {ev : Nat → Value} {ea : Nat → AV} {O : Pos → Option Nat}

theorem aboxi_run (hs : St A M L w H ev ea O) (e : TypeId) {u : Value} {x : AV} (hu : Rep M L u x) (hv : x.val = true) :
    ∃ r M' w', (Instr.box e u).run P w = .ok r w' ∧ Rep M' L r (.iptr x) ∧ St A M' L w' H ev ea O ∧ Ext A M w M' w' := by
  obtain ⟨h1, h2, h3⟩ := hs.addImm u.cells e
  exact ⟨_, _, _, rfl, .iptr _ _ _ _ ((hu.vcells hv).mono h2.msub (List.prefix_refl _)) h3, h1, h2⟩

theorem abox_run (hs : St A M L w H ev ea O) (e : TypeId) {u : Value} {x : AV} (hu : Rep M L u x) (hv : x.val = true) (hb : belowL (H.length + 1) (x.cells.map AV.unown) = true) :
    ∃ r L' w', (Instr.box e u).run P w = .ok r w' ∧ Rep M L' r (.ptr H.length 0) ∧ St A M L' w' (H ++ [.cells (x.cells.map AV.unown)]) ev ea O ∧ Ext A M w M w' ∧ L <+: L' := by
  obtain ⟨h1, h2⟩ := hs.addObj (.cells u.cells e) (.cells (x.cells.map AV.unown)) (fun w' hw hM => ⟨u.cells, e, hw, ((hu.vcells hv).map_unown).mono (Mem.sub_refl M) ⟨_, rfl⟩, hM⟩) hb (fun j => by
    simp only [aobjCell]
    refine Spare.free ?_
    intro own xs h
    rw [List.getD_eq_getElem?_getD, List.getElem?_map] at h
    cases hx : x.cells[j]? with
    | none => simp [hx] at h
    | some y => simp [hx] at h; exact AV.unown_free y own xs h)
  refine ⟨_, _, _, rfl, .ptr _ _ _ ?_, h1, h2, ⟨_, rfl⟩⟩
  rw [List.getElem?_append_right (by rw [hs.len]; exact Nat.le_refl _), hs.len]; simp

theorem aalloc_run (hs : St A M L w H ev ea O) {e : TypeId} {z : AV} (hz : tzero P e = some z) (hv : z.val = true) (hb : belowL (H.length + 1) (z.cells.map AV.unown) = true) :
    ∃ r L' w', (Instr.alloc e true (.tuple #[])).run P w = .ok r w' ∧ Rep M L' r (.ptr H.length 0) ∧ St A M L' w' (H ++ [.cells (z.cells.map AV.unown)]) ev ea O ∧ Ext A M w M w' ∧ L <+: L' := by
  unfold tzero at hz
  split at hz
  · rename_i i hi
    split at hz
    · rename_i v hzv
      obtain ⟨r, L', w', h1, h2⟩ := abox_run (P := P) hs e (ofValue_rep hz) hv hb
      refine ⟨r, L', w', ?_, h2⟩
      rw [← h1]
      simp only [Instr.alloc, Instr.box, zeroValue, typeInfo, Sem.run_bind, run_program, Result.andThen_ok, hi, Sem.run_pure, hzv]
    · cases hz
  · cases hz

theorem fill_foldl (vs : List Value) : ∀ (off k : Nat) (cs : Array Value), off + k + vs.length ≤ cs.size →
    ((vs.zipIdx k).foldl (fun cs (x : Value × Nat) => cs.setIfInBounds (off + x.2) x.1) cs).toList = asplice cs.toList (off + k) vs := by
  induction vs with
  | nil => intro off k cs h; simp [asplice]
  | cons v vs ih =>
    intro off k cs h
    simp only [List.zipIdx_cons, List.foldl_cons]
    rw [ih off (k + 1) _ (by simp at h ⊢; omega)]
    simp only [Array.toList_setIfInBounds, asplice]
    simp only [List.length_cons] at h
    apply List.ext_getElem?
    intro j
    simp only [List.getElem?_append, List.getElem?_take, List.length_take, List.length_set, Array.length_toList, List.getElem?_drop, List.length_cons, List.length_append, List.length_drop]
    by_cases h1 : j < off + k
    · have : j < min (off + k) cs.size := by omega
      have : j < min (off + (k + 1)) cs.size := by omega
      simp only [*, if_true]
      rw [if_pos (by omega), List.getElem?_set_ne (by omega)]
    · by_cases h2 : j = off + k
      · subst h2
        have : off + k < min (off + (k + 1)) cs.size := by omega
        simp only [this, if_true]
        rw [if_pos (by omega), List.getElem?_set_self (by simp; omega), if_neg (by omega)]
        rw [show off + k - min (off + k) cs.size = 0 by omega]
        simp
      · have n1 : ¬ j < min (off + (k + 1)) cs.size := by omega
        have n2 : ¬ j < min (off + k) cs.size := by omega
        simp only [n1, n2, if_false]
        rw [show j - min (off + k) cs.size = (j - min (off + (k + 1)) cs.size) + 1 by omega]
        simp only [Nat.add_lt_add_iff_right, List.getElem?_cons_succ]
        split
        · rfl
        · rw [List.getElem?_set_ne (by omega)]
          congr 1
          omega

theorem afill_run {place : Nat → Option (Nat × Nat)} : ∀ (parts : List (Nat × Nat × AV)) (vs : List (Nat × Value)) {cs : Array Value} {zs : List AV} {φ : List AV → Prop},
    (∀ (j : Nat) (p : Nat × Nat × AV), parts[j]? = some p → ∃ i v, vs[j]? = some (i, v) ∧ place i = some (p.1, p.2.1) ∧ Rep M L v p.2.2) → vs.length = parts.length → RepL M L cs.toList zs → afill zs parts φ →
    ∃ cs' zs', Instr.fill place cs vs = some cs' ∧ RepL M L cs'.toList zs' ∧ φ zs'
  | [], [], cs, zs, φ, _, _, hr, h => ⟨cs, zs, rfl, hr, h⟩
  | [], _ :: _, _, _, _, _, hl, _, _ => by simp at hl
  | _ :: _, [], _, _, _, _, hl, _, _ => by simp at hl
  | (off, sz, x) :: r, (i, v) :: vs, cs, zs, φ, H, hl, hr, h => by
    obtain ⟨hv, hsz, hle, h⟩ := h
    obtain ⟨i', v', e1, e2, e3⟩ := H 0 _ rfl
    simp at e1
    obtain ⟨rfl, rfl⟩ := e1
    have hlen := hr.length
    have hc := e3.vcells hv
    have hcl : v.cells.size = sz := by have := hc.length; simp at this; rw [this]; exact hsz
    have hnew : RepL M L (v.cells.zipIdx.foldl (fun cs (x : Value × Nat) => cs.setIfInBounds (off + x.2) x.1) cs).toList (asplice zs off (x.cells.map AV.unown)) := by
      have h0 := fill_foldl v.cells.toList off 0 cs (by simp at hlen ⊢; omega)
      have h1 : v.cells.zipIdx.foldl (fun cs (x : Value × Nat) => cs.setIfInBounds (off + x.2) x.1) cs = (v.cells.toList.zipIdx 0).foldl (fun cs (x : Value × Nat) => cs.setIfInBounds (off + x.2) x.1) cs := by
        rw [← Array.foldl_toList, Array.toList_zipIdx]
      rw [h1, h0]
      exact hc.map_unown.splice off hr
    obtain ⟨cs', zs', f1, f2, f3⟩ := afill_run r vs (fun j p hp => by
      obtain ⟨i, v, a1, a2⟩ := H (j + 1) p (by simpa using hp)
      exact ⟨i, v, by simpa using a1, a2⟩) (by simpa using hl) hnew h
    refine ⟨cs', zs', ?_, f2, f3⟩
    unfold Instr.fill
    simp only [e2]
    have hle' : off + v.cells.size ≤ cs.size := by simp at hlen; omega
    simp only [hcl, ne_eq, not_true_eq_false, decide_false, Bool.false_or]
    rw [if_neg (by simp; omega)]
    exact f1

/-- A struct's or an array's zero cells, and where its parts lie. -/
def tbuild (P : Program) (t : TypeId) : Option (AV × List (Nat × Nat)) :=
  match P.info? t, P.underlying t, tzero P t with
  | some _, some (.struct fields), some z => match fields.toList.mapM (fun f => (P.info? f.type).map fun i => (f.offset, i.size)) with
    | some places => some (z, places)
    | none => none
  | some _, some (.array n e), some z => match P.info? e with
    | some ie => some (z, (List.range n).map fun i => (i * ie.size, ie.size))
    | none => none
  | _, _, _ => none

def compParts (places : List (Nat × Nat)) : List (Nat × Operand) → Option (List (Nat × Nat × IX))
  | [] => some []
  | (i, x) :: r => match places[i]?, compX x, compParts places r with
    | some (off, sz), some ix, some rest => some ((off, sz, ix) :: rest)
    | _, _, _ => none

theorem compParts_spec {n : Nat} {env : Env} {a : Act} (hf : Fr A n M L w H env O a) {places : List (Nat × Nat)} {place : Nat → Option (Nat × Nat)} (hp : ∀ i q, places[i]? = some q → place i = some q) :
    ∀ (parts : List (Nat × Operand)) (ps : List (Nat × Nat × IX)), compParts places parts = some ps →
      ∀ (j : Nat) (p : Nat × Nat × AV), (ps.map fun q => (q.1, q.2.1, aval env q.2.2))[j]? = some p → ∃ i v, (parts.map fun q => (q.1, a.eval q.2))[j]? = some (i, v) ∧ place i = some (p.1, p.2.1) ∧ Rep M L v p.2.2
  | [], ps, h, j, p, hj => by simp [compParts] at h; subst h; simp at hj
  | (i, x) :: r, ps, h, j, p, hj => by
    unfold compParts at h
    split at h
    · rename_i off sz ix rest h1 h2 h3
      cases h
      cases j with
      | zero =>
        simp at hj; subst hj
        exact ⟨i, a.eval x, by simp, hp _ _ h1, hf.eval h2⟩
      | succ j =>
        obtain ⟨i', v', a1, a2⟩ := compParts_spec hf hp r rest h3 j p (by simpa using hj)
        exact ⟨i', v', by simpa using a1, a2⟩
    · cases h
theorem compParts_length {places : List (Nat × Nat)} : ∀ (parts : List (Nat × Operand)) (ps : List (Nat × Nat × IX)), compParts places parts = some ps → ps.length = parts.length
  | [], ps, h => by simp [compParts] at h; subst h; rfl
  | (i, x) :: r, ps, h => by
    unfold compParts at h
    split at h
    · rename_i off sz ix rest h1 h2 h3
      cases h
      simp [compParts_length r rest h3]
    · cases h

theorem abuild_run {n : Nat} {env : Env} {a : Act} (hf : Fr A n M L w H env O a) {t : TypeId} {z : AV} {places : List (Nat × Nat)} (ht : tbuild P t = some (z, places)) {parts : Array (Nat × Operand)} {ps : List (Nat × Nat × IX)}
    (hc : compParts places parts.toList = some ps) {φ : AV → Prop} (h : abuild z.cells (ps.map fun q => (q.1, q.2.1, aval env q.2.2)) φ) (hzv : z.val = true) :
    ∃ r x, (Instr.build t (parts.map fun (i, x) => (i, a.eval x))).run P w = .ok r w ∧ Rep M L r x ∧ φ x ∧ ∀ own xs, x = .lst own xs → own = 0 := by
  have hparts : (parts.map fun (i, x) => (i, a.eval x)).toList = parts.toList.map fun q => (q.1, a.eval q.2) := by simp
  have key : ∀ (place : Nat → Option (Nat × Nat)) (v : Value), (∀ i q, places[i]? = some q → place i = some q) → ofValue v = some z →
      ∃ cs' x, Instr.fill place v.cells (parts.toList.map fun q => (q.1, a.eval q.2)) = some cs' ∧ Rep M L (.agg cs') x ∧ φ x ∧ ∀ own xs, x = .lst own xs → own = 0 := by
    intro place v hp hv
    obtain ⟨cs', zs', f1, f2, f3⟩ := afill_run (M := M) (L := L) (place := place) _ (parts.toList.map fun q => (q.1, a.eval q.2)) (compParts_spec hf hp _ _ hc) (by simp [compParts_length _ _ hc]) ((ofValue_rep hv).vcells hzv) h
    exact ⟨cs', _, f1, by simpa using Rep.agg cs'.toList zs' f2, f3, by intro _ _ e; cases e⟩
  unfold tbuild at ht
  split at ht
  · rename_i it fields z' hi hu hz
    split at ht
    · rename_i pl hpl
      cases ht
      unfold tzero at hz
      simp only [hi] at hz
      split at hz
      · rename_i v hv
        obtain ⟨cs', x, f1, f2, f3, f4⟩ := key (places.toArray[·]?) v (fun i q h => by simpa using h) hz
        refine ⟨_, x, run_build w t _ cs' ?_, f2, f3, f4⟩
        rw [hparts]
        unfold Program.built
        simp only [hi, hu, hv, hpl]
        exact f1
      · cases hz
    · cases ht
  · rename_i it m e z' hi hu hz
    split at ht
    · rename_i ie hie
      cases ht
      unfold tzero at hz
      simp only [hi] at hz
      split at hz
      · rename_i v hv
        obtain ⟨cs', x, f1, f2, f3, f4⟩ := key (fun i => some (i * ie.size, ie.size)) v (fun i q h => by
          rw [List.getElem?_map] at h
          obtain ⟨k, hk, rfl⟩ := Option.map_eq_some_iff.1 h
          rw [List.getElem?_range (by rcases Nat.lt_or_ge i m with h' | h'; exact h'; rw [List.getElem?_eq_none (by simpa using h')] at hk; cases hk)] at hk
          cases hk; rfl) hz
        refine ⟨_, x, run_build w t _ cs' ?_, f2, f3, f4⟩
        rw [hparts]
        unfold Program.built
        simp only [hi, hu, hv, hie]
        exact f1
      · cases hz
    · cases ht
  · cases ht

/-! #### A slice written out -/
theorem flat_set : ∀ (xs : List AV) (e i : Nat) (x : AV), (∀ y ∈ xs, y.cells.length = e) → x.cells.length = e → i < xs.length → flat (xs.set i x) = asplice (flat xs) (i * e) x.cells
  | [], _, _, _, _, _, h => by simp at h
  | y :: ys, e, 0, x, hx, hc, _ => by
    have := hx y (by simp)
    simp [flat, asplice, hc, this]
  | y :: ys, e, i + 1, x, hx, hc, h => by
    have hy := hx y (by simp)
    have ih := flat_set ys e i x (fun z hz => hx z (by simp [hz])) hc (by simpa using h)
    simp only [flat] at ih
    simp only [List.set_cons_succ, flat, List.flatMap_cons, ih, asplice]
    rw [List.take_append, List.take_of_length_le (l := y.cells) (by rw [hy, Nat.add_mul]; omega), List.drop_append, List.drop_eq_nil_of_le (as := y.cells) (by rw [hy, Nat.add_mul]; omega), hy]
    simp only [List.nil_append, List.append_assoc]
    rw [show (i + 1) * e - e = i * e by rw [Nat.add_mul]; omega, show (i + 1) * e + x.cells.length - e = i * e + x.cells.length by rw [Nat.add_mul]; omega]

theorem flat_length : ∀ (xs : List AV) (e : Nat), (∀ y ∈ xs, y.cells.length = e) → (flat xs).length = xs.length * e
  | [], e, _ => by simp [flat]
  | y :: ys, e, hx => by
    have hy := hx y (by simp)
    have ih := flat_length ys e (fun z hz => hx z (by simp [hz]))
    simp only [flat] at ih
    simp only [flat, List.flatMap_cons, List.length_append, hy, ih, List.length_cons, Nat.add_mul, Nat.one_mul]
    omega

theorem canon_cells_eq (x : AV) : (canon x).cells = x.cells.map AV.drop := by
  cases x <;> simp [abslice.canon, AV.cells, AV.drop]

theorem fill_splice {place : Nat → Option (Nat × Nat)} {i off : Nat} {v : Value} {vs : List (Nat × Value)} {cs : Array Value} (hp : place i = some (off, v.cells.size)) (hle : off + v.cells.size ≤ cs.size) :
    Instr.fill place cs ((i, v) :: vs) = Instr.fill place (asplice cs.toList off v.cells.toList).toArray vs := by
  have h0 := fill_foldl v.cells.toList off 0 cs (by simpa using hle)
  have h1 : v.cells.zipIdx.foldl (fun cs (x : Value × Nat) => cs.setIfInBounds (off + x.2) x.1) cs = (v.cells.toList.zipIdx 0).foldl (fun cs (x : Value × Nat) => cs.setIfInBounds (off + x.2) x.1) cs := by
    rw [← Array.foldl_toList, Array.toList_zipIdx]
  rw [← h1] at h0
  conv => lhs; unfold Instr.fill
  simp only [hp, ne_eq, not_true_eq_false, decide_false, Bool.false_or]
  rw [if_neg (by simp; omega)]
  congr 1
  apply Array.ext'
  simpa using h0

theorem abslice_run (e : Nat) : ∀ (parts : List (Nat × AV)) (vs : List (Nat × Value)) {cs : Array Value} {xs : List AV} {φ : List AV → Prop},
    (∀ (j : Nat) (p : Nat × AV), parts[j]? = some p → ∃ v, vs[j]? = some (p.1, v) ∧ Rep M L v p.2) → vs.length = parts.length → RepL M L cs.toList (flat xs) → (∀ y ∈ xs, y.cells.length = e) → abslice xs e parts φ →
    ∃ cs' xs', Instr.fill (fun i => some (i * e, e)) cs vs = some cs' ∧ RepL M L cs'.toList (flat xs') ∧ (∀ y ∈ xs', y.cells.length = e) ∧ xs'.length = xs.length ∧ φ xs'
  | [], [], cs, xs, φ, _, _, hr, hx, h => ⟨cs, xs, rfl, hr, hx, rfl, h⟩
  | [], _ :: _, _, _, _, _, hl, _, _, _ => by simp at hl
  | _ :: _, [], _, _, _, _, hl, _, _, _ => by simp at hl
  | (i, x) :: r, (i', v) :: vs, cs, xs, φ, H, hl, hr, hx, h => by
    obtain ⟨hv, hsz, hi, h⟩ := h
    obtain ⟨v', e1, e3⟩ := H 0 _ rfl
    simp at e1
    obtain ⟨rfl, rfl⟩ := e1
    have hc := (e3.canon).vcells (canon_val hv)
    have hcl : v.cells.size = e := by have := hc.length; simp at this; rw [this, canon_cells]; exact hsz
    have hlen := hr.length
    rw [flat_length xs e hx] at hlen
    simp only [Array.length_toList] at hlen
    have hle : i' * e + v.cells.size ≤ cs.size := by
      rw [hcl, hlen]
      calc i' * e + e = (i' + 1) * e := by rw [Nat.add_mul]; omega
        _ ≤ xs.length * e := Nat.mul_le_mul_right _ hi
    rw [fill_splice (place := fun i => some (i * e, e)) (by rw [hcl]) hle]
    have hx' : ∀ y ∈ xs.set i' (canon x), y.cells.length = e := by
      intro y hy
      rcases List.mem_or_eq_of_mem_set hy with h' | rfl
      · exact hx y h'
      · rw [canon_cells]; exact hsz
    have hnew : RepL M L (asplice cs.toList (i' * e) v.cells.toList).toArray.toList (flat (xs.set i' (canon x))) := by
      rw [flat_set xs e i' _ hx (by rw [canon_cells]; exact hsz) hi]
      exact hc.splice _ hr
    obtain ⟨cs', xs', f1, f2, f3, f4, f5⟩ := abslice_run e r vs (fun j p hp => by
      obtain ⟨v, a1, a2⟩ := H (j + 1) p (by simpa using hp)
      exact ⟨v, by simpa using a1, a2⟩) (by simpa using hl) hnew hx' h
    exact ⟨cs', xs', f1, f2, f3, by simpa using f4, f5⟩

def compParts1 : List (Nat × Operand) → Option (List (Nat × IX))
  | [] => some []
  | (i, x) :: r => match compX x, compParts1 r with
    | some ix, some rest => some ((i, ix) :: rest)
    | _, _ => none
theorem compParts1_spec {n : Nat} {env : Env} {a : Act} (hf : Fr A n M L w H env O a) :
    ∀ (parts : List (Nat × Operand)) (ps : List (Nat × IX)), compParts1 parts = some ps →
      (∀ (j : Nat) (p : Nat × AV), (ps.map fun q => (q.1, aval env q.2))[j]? = some p → ∃ v, (parts.map fun q => (q.1, a.eval q.2))[j]? = some (p.1, v) ∧ Rep M L v p.2) ∧ ps.length = parts.length
  | [], ps, h => by simp [compParts1] at h; subst h; simp
  | (i, x) :: r, ps, h => by
    unfold compParts1 at h
    split at h
    · rename_i ix rest h2 h3
      cases h
      obtain ⟨i1, i2⟩ := compParts1_spec hf r rest h3
      refine ⟨fun j p hj => ?_, by simp [i2]⟩
      cases j with
      | zero =>
        simp at hj; subst hj
        exact ⟨a.eval x, by simp, hf.eval h2⟩
      | succ j =>
        obtain ⟨v', a1, a2⟩ := i1 j p (by simpa using hj)
        exact ⟨v', by simpa using a1, a2⟩
    · cases h

theorem zero_cells (z : Array Value) (e len : Nat) (hz : z.size = e) (he : 0 < e) (x : AV) (hr : RepL M L z.toList x.cells) :
    RepL M L (((Array.range (len * e)).map (z[· % z.size]!)).toList) (flat (List.replicate len x)) := by
  have hxl : x.cells.length = e := by rw [← hr.length]; simpa using hz
  have hall : ∀ y ∈ List.replicate len x, y.cells.length = e := fun y hy => by rw [List.eq_of_mem_replicate hy]; exact hxl
  apply RepL.of_get
  · rw [flat_length _ e hall]; simp
  · intro j y hj
    have hjl : j < len * e := by have := get_lt hj; rw [flat_length _ e hall] at this; simpa using this
    have hq : j / e < len := Nat.div_lt_of_lt_mul (by rw [Nat.mul_comm]; exact hjl)
    have hm : j % e < e := Nat.mod_lt _ he
    have h1 := flat_get (List.replicate len x) e hall (j / e) (j % e) x (by simp [hq]) hm
    rw [show j / e * e + j % e = j from Nat.div_add_mod' j e] at h1
    rw [h1] at hj
    obtain ⟨v, hv, hrep⟩ := hr.get _ _ hj
    refine ⟨v, ?_, hrep⟩
    have hzl : j % e < z.size := by omega
    simp only [Array.toList_map, Array.toList_range, List.getElem?_map, List.getElem?_range hjl, Option.map_some, hz]
    simp only [Array.getElem?_toList] at hv
    simp [getElem!_pos, hzl, Array.getElem?_eq_getElem hzl] at hv ⊢
    exact hv

theorem abuildSlice_run (hs : St A M L w H ev ea O) {t e : TypeId} (ht : P.underlying t = some (.slice e)) {esz : Nat} (he : tcells P e = some esz) (h0 : 0 < esz) {z : AV} (hz : tzero P e = some z) (hzl : z.cells.length = esz) (hzv : z.val = true) (own : Nat)
    {len : Nat} (hlen : len * esz ≤ 16777216) {parts : List (Nat × AV)} {vs : Array (Nat × Value)} (hp : ∀ (j : Nat) (p : Nat × AV), parts[j]? = some p → ∃ v, vs.toList[j]? = some (p.1, v) ∧ Rep M L v p.2) (hl : vs.toList.length = parts.length)
    {φ : List AV → Prop} (h : abslice (List.replicate len (canon z)) esz parts φ) :
    ∃ m xs M' w' ad, (Instr.buildSlice t len vs).run P w = .ok (.slice ad m m) w' ∧ Rep M' L (.slice ad m m) (.lst own xs) ∧ (∀ y ∈ xs, y.cells.length = esz) ∧ φ xs ∧ St A M' L w' H ev ea O ∧ Ext A M w M' w' := by
  unfold tzero at hz
  obtain ⟨ie, hie, hsz⟩ := Option.map_eq_some_iff.1 he
  simp only [hie] at hz
  split at hz
  · rename_i zv hzv'
    have hzr := (ofValue_rep (M := M) (L := L) hz).canon.vcells (canon_val hzv)
    have hzs : zv.cells.size = esz := by have := hzr.length; rw [canon_cells, hzl] at this; simpa using this
    obtain ⟨cs', xs', f1, f2, f3, f4, f5⟩ := abslice_run (M := M) (L := L) esz parts vs.toList hp hl (zero_cells zv.cells esz len hzs h0 (canon z) hzr) (fun y hy => by rw [List.eq_of_mem_replicate hy, canon_cells]; exact hzl) h
    simp only [List.length_replicate] at f4
    obtain ⟨g1, g2, g3⟩ := hs.addImm cs' e
    have hrun : (Instr.buildSlice t len vs).run P w = .ok (.slice (some ⟨w.heap.size, 0, none⟩) len len) { w with heap := w.heap.push (.cells cs' e) } := by
      by_cases hpos : len * ie.size = 0
      · have hl0 : len = 0 := by
          rcases Nat.mul_eq_zero.1 hpos with h' | h'
          · exact h'
          · omega
        subst hl0
        have hc0 : cs' = #[] := by
          have := f2.length
          rw [flat_length _ esz f3, f4] at this
          simp at this
          exact this
        have hv0 : vs.toList = [] := by
          cases hvs : vs.toList with
          | nil => rfl
          | cons q r =>
            rw [hvs] at hl
            cases parts with
            | nil => simp at hl
            | cons p ps => obtain ⟨_, _, h3, _⟩ := h; simp at h3
        subst hc0
        have hf : Instr.fill (fun i => some (i * ie.size, ie.size)) #[] vs.toList = some #[] := by rw [hv0]; rfl
        simp [Instr.buildSlice, run_underlying ht, sizeOf, typeInfo, hie, newRow, hv0, Instr.fill]
        congr 2
        apply Array.ext'
        simp
      · rw [run_buildSlice w t e len vs cs' ie zv ht hie hzv' (by rw [hsz]; omega) hpos (by rw [hsz]; exact f1)]
        rfl
    refine ⟨len, xs', _, _, _, hrun, ?_, f3, f5, g1, g2⟩
    by_cases hl0 : len = 0
    · subst hl0
      have : xs' = [] := List.eq_nil_of_length_eq_zero f4
      subst this
      exact .lst0 _ _ _ (by decide)
    · have := Rep.lst (M := M.add w.heap.size cs'.toList) (L := L) w.heap.size 0 len own esz cs'.toList xs' h0 f3 (by omega) (by omega) (by
        have : len ≤ len * esz := Nat.le_mul_of_pos_right _ h0
        omega) (f2.mono g2.msub (List.prefix_refl _)) g3
      rw [f4] at this
      exact this
  · cases hz
end
end Go.Abs
