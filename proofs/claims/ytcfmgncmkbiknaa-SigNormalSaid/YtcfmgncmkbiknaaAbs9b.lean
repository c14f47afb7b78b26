/- A memory-free reading of the model's values (part 9b): copy; slices of objects. -/
import Derived.Test.YtcfmgncmkbiknaaAbs9
set_option linter.unusedVariables false
set_option linter.unusedSimpArgs false
namespace Go.Abs
open Go

/-- A slice as a source: its length, and its cells. -/
def csrc (esz : Nat) (s : AV) (H : List AObj) : Option (Nat × List AV) :=
  match s with
  | .nils => some (0, [])
  | .lst _ xs => if xs.all (fun y => y.cells.length == esz) = true then some (xs.length, flat xs) else none
  | .arr id off len _ => match H[id]? with
    | some (.cells es) => if off + len * esz ≤ es.length then some (len, es.drop off) else none
    | _ => none
  | _ => none

def acopy (esz : Nat) (d s : AV) (H : List AObj) (K : AV → List AObj → Prop) : Prop :=
  match d, csrc esz s H with
  | .arr id off len _, some (n, ys) => match H[id]? with
    | some (.cells es) => (ys.take (min n len * esz)).all AV.one = true ∧ off + min n len * esz ≤ es.length ∧ belowL (id + 1) ((ys.take (min n len * esz)).map AV.unown) = true ∧
        K (.int .i64 (min n len : Nat)) (H.set id (.cells (asplice es off ((ys.take (min n len * esz)).map AV.unown))))
    | _ => False
  | _, _ => False

/-- x[l:h] of an object's cells. -/
def aslicea (esz : Nat) (x : AV) (lo hi : Option AV) (φ : AV → Prop) : Prop :=
  match x with
  | .arr id off len cap => aidx hi len fun h => aidx lo 0 fun l => l ≤ h ∧ h ≤ cap ∧ φ (.arr id (if cap = l then off else off + l * esz) (h - l) (cap - l))
  | _ => False

/-- x[l:h], x[l:h:m]. -/
def asliceX (esz : Nat) (x : AV) (lo hi mx : Option AV) (φ : AV → Prop) : Prop :=
  match x with
  | .arr _ _ _ _ => mx = none ∧ aslicea esz x lo hi φ
  | _ => (∀ own xs, x = .lst own xs → ∀ z ∈ xs, z.cells.length = esz) ∧ aslice esz x lo hi mx φ

section
variable {P : Program} {w : World} {M : Mem} {L : List Nat} {H : List AObj} {A : Nat → Prop} {ev : Nat → Value} {ea : Nat → AV} {O : Pos → Option Nat}

theorem St.wcells (hs : St A M L w H ev ea O) {id off b : Nat} {es : List AV} (hid : H[id]? = some (.cells es)) (hl : L[id]? = some b) {cs : Array Value} {e : TypeId} (h1 : w.heap[b]? = some (.cells cs e (0, 0)))
    (h2 : RepL M L cs.toList es) {vs : List Value} {xs : List AV} (hv : RepL M L vs xs) (hle : off + xs.length ≤ es.length) (hbl : belowL (id + 1) (xs.map AV.unown) = true) :
    ∃ O', St A M L (w.setRow b (asplice cs.toList off vs).toArray) (H.set id (.cells (asplice es off (xs.map AV.unown)))) ev ea O' ∧ Ext A M w M (w.setRow b (asplice cs.toList off vs).toArray) := by
  have hvl := hv.length
  have hcl := h2.length
  let O' : Pos → Option Nat := fun q => match q with
    | .t t => O (.t t)
    | .c id' j => if id' = id ∧ off ≤ j ∧ j < off + xs.length then none else O (.c id' j)
  have hO : ∀ q b, O' q = some b → O q = some b := by
    intro q b hq
    cases q with
    | t t => exact hq
    | c id' j =>
      simp only [O'] at hq
      split at hq
      · cases hq
      · exact hq
  have hsp : off + (xs.map AV.unown).length ≤ es.length := by simp; omega
  have hsv : off + vs.length ≤ cs.toList.length := by omega
  exact ⟨O', hs.write (cs' := (asplice cs.toList off vs).toArray) (es' := asplice es off (xs.map AV.unown)) (O' := O') hid hl h1
    (by simpa using hv.map_unown.splice off h2)
    (by
      have hst := hs.strat id _ hid
      simp only [AObj.blw] at hst
      unfold asplice
      exact belowL_append.2 ⟨belowL_take hst, belowL_append.2 ⟨hbl, belowL_drop hst⟩⟩)
    (Moves.sub hs.oinj hO) hs.env hs.spt (by
    intro j
    have e1 : ((asplice cs.toList off vs).toArray)[j]? = (asplice cs.toList off vs)[j]? := by simp
    rw [e1, asplice_get _ _ _ hsv, List.getD_eq_getElem?_getD, asplice_get _ _ _ hsp]
    simp only [List.length_map]
    rw [hvl]
    by_cases hj : off ≤ j ∧ j < off + xs.length
    · simp only [hj, and_self, if_true]
      have : O' (.c id j) = none := by simp [O', hj]
      rw [this]
      refine Spare.free ?_
      intro own ys hh
      rw [List.getElem?_map] at hh
      cases hx : xs[j - off]? with
      | none => simp [hx] at hh
      | some y => simp [hx] at hh; exact AV.unown_free y own ys hh
    · simp only [hj, if_false]
      have : O' (.c id j) = O (.c id j) := by simp only [O']; rw [if_neg (by intro h'; exact hj h'.2)]
      rw [this]
      have h0 := hs.spc id j
      have e3 : cellV L w id j = (cs.toList[j]?).getD undef := by
        unfold cellV; simp [hl, World.cell?, h1]
      have e4 : cellA H id j = (es[j]?).getD .any := by
        unfold cellA; simp [hid, List.getD_eq_getElem?_getD]
      rw [e3, e4] at h0
      exact h0)
    (by intro id' j hne; simp [O', hne])⟩

/-- The source's cells, as the model reads them. -/
theorem csrc_run (hs : St A M L w H ev ea O) {esz n m : Nat} {s : AV} {ys : List AV} {v : Value} (h : csrc esz s H = some (n, ys)) (hv : Rep M L v s) (hm : m ≤ n) :
    (Builtin.lenOf v).run P w = .ok n w ∧ ∃ vs, (Builtin.firstCells esz m v).run P w = .ok vs.toArray w ∧ RepL M L vs (ys.take (m * esz)) := by
  unfold csrc at h
  split at h
  · cases h
    cases hv
    have : m = 0 := by omega
    subst this
    refine ⟨rfl, [], ?_, by simpa using RepL.nil⟩
    simp [Builtin.firstCells]
  · rename_i own xs
    split at h <;> cases h
    rename_i hall
    have hall' : ∀ y ∈ xs, y.cells.length = esz := by
      intro y hy
      have := List.all_eq_true.1 hall y hy
      simpa using this
    cases hv with
    | lst0 a c _ hc =>
      have : m = 0 := by simpa using hm
      subst this
      refine ⟨rfl, [], ?_, by simpa [flat] using RepL.nil⟩
      cases a with
      | none => simp [Builtin.firstCells]
      | some a => simpa [Builtin.firstCells] using run_loadCells_list (P := P) w a [] (by simp)
    | lst b off c _ e cs _ he hx hn hle hc hr hrow =>
      have hrow' := row_cells hrow hs.mem
      have hcl := hr.length
      have hfl : (flat xs).length = xs.length * esz := flat_length xs esz hall'
      have hld := run_loadCells_list (P := P) w ⟨b, off, none⟩ (cs.take (m * esz)) (fun j v hv => hrow' j v (by
        rw [List.getElem?_take] at hv
        split at hv
        · exact hv
        · cases hv))
      have hlen : (cs.take (m * esz)).length = m * esz := by
        have : m * esz ≤ xs.length * esz := Nat.mul_le_mul_right _ hm
        simp; omega
      rw [hlen] at hld
      exact ⟨rfl, cs.take (m * esz), by simpa [Builtin.firstCells] using hld, hr.take _⟩
  · rename_i id off len cap
    split at h <;> try cases h
    rename_i es hid
    split at h <;> cases h
    rename_i hfit
    cases hv with
    | arr b _ _ _ _ hl hc =>
    obtain ⟨cs, e, h1, h2, h3⟩ := cells_of_obj hs hid hl
    have hcl := h2.length
    have hlen : ((cs.toList.drop off).take (m * esz)).length = m * esz := by
      have : m * esz ≤ n * esz := Nat.mul_le_mul_right _ hm
      simp at hcl ⊢; omega
    have hld := run_loadCells_list (P := P) w ⟨b, off, none⟩ ((cs.toList.drop off).take (m * esz)) (fun j v hv => by rw [Addr.add_lit]; exact h3 _ _ (list_drop_take _ _ _ _ _ hv))
    rw [hlen] at hld
    exact ⟨rfl, (cs.toList.drop off).take (m * esz), by simpa [Builtin.firstCells] using hld, (h2.drop off).take _⟩
  · cases h

theorem acopy_run (hs : St A M L w H ev ea O) {t e : TypeId} {esz : Nat} (ht : P.underlying t = some (.slice e)) (he : tcells P e = some esz) {u v : Value} {d s : AV} {K : AV → List AObj → Prop} (h : acopy esz d s H K) (hu : Rep M L u d) (hv : Rep M L v s) (t' ty : TypeId) :
    ∃ r z w' H' O', (Builtin.copy_ #[t, t'] ty #[u, v]).run P w = .ok r w' ∧ Rep M L r z ∧ K z H' ∧ St A M L w' H' ev ea O' ∧ Ext A M w M w' ∧ ∀ own xs, z = .lst own xs → own = 0 := by
  unfold acopy at h
  split at h <;> try exact h.elim
  rename_i id off len cap n ys hsrc
  split at h <;> try exact h.elim
  rename_i es hid
  obtain ⟨hone, hle, hbl, hK⟩ := h
  cases hu with
  | arr b _ _ _ _ hl hc =>
  obtain ⟨hlen, vs, hfc, hr⟩ := csrc_run (P := P) hs hsrc hv (Nat.min_le_left n len)
  obtain ⟨cs, e', h1, h2, h3⟩ := hs.obj id _ b hid hl
  have hcl := h2.length
  have hvl := hr.length
  have hyl : (ys.take (min n len * esz)).length ≤ min n len * esz := by simp; omega
  have hst := run_storeCells_at P b off e' vs 0 cs w h1 (by simp at hcl ⊢; omega) (hr.oneCell hone)
  obtain ⟨O', g1, g2⟩ := hs.wcells (off := off) hid hl h1 h2 hr (by omega) hbl
  obtain ⟨i, hi, him⟩ := Option.map_eq_some_iff.1 he
  refine ⟨.int .i64 (min n len : Nat), .int .i64 (min n len : Nat), _, _, O', ?_, .int _ _, hK, g1, g2, by intro _ _ e; cases e⟩
  have hmin : Nat.min n len = min n len := rfl
  have hst' : (storeCells ⟨b, off, none⟩ vs).run P w = .ok () (w.setRow b (asplice cs.toList off vs).toArray) := by simpa [asplice] using hst
  simp [Builtin.copy_, run_underlying ht, hlen, sizeOf, typeInfo, hi, him, hmin, hfc, hst', goInt]

theorem aslicea_run {t e : TypeId} {esz : Nat} (ht : P.underlying t = some (.slice e)) (he : tcells P e = some esz) {u : Value} {x : AV} {lo hi : Option AV} {vlo vhi : Option Value} {φ : AV → Prop} (h : aslicea esz x lo hi φ) (hu : Rep M L u x) (h1 : optRep M L lo vlo) (h2 : optRep M L hi vhi) :
    ∃ r z, (Instr.sliceAt t u vlo vhi none).run P w = .ok r w ∧ Rep M L r z ∧ φ z ∧ ∀ own xs, z = .lst own xs → own = 0 := by
  unfold aslicea at h
  split at h <;> try exact h.elim
  rename_i id off len cap
  cases hu with
  | arr b _ _ _ _ hl hc =>
  obtain ⟨hh, h, hhi⟩ := aidx_bound h2 h
  obtain ⟨ll, h, hlo⟩ := aidx_bound h1 h
  obtain ⟨hle, hhl, hφ⟩ := h
  obtain ⟨i, hinf, him⟩ := Option.map_eq_some_iff.1 he
  have hsz : (sizeOf e).run P w = .ok esz w := by simp [sizeOf, typeInfo, hinf, him]
  refine ⟨_, _, ?_, .arr b (if cap = ll then off else off + ll * esz) (hh - ll) (cap - ll) id hl (by omega), hφ, by intro _ _ e; cases e⟩
  have hb : (Instr.sliceBounds true len cap vlo vhi none).run P w = .ok (ll, hh, cap) w := by
    rcases hhi with ⟨_, rfl, rfl⟩ | ⟨kd, i, rfl, hi0, rfl⟩ <;> rcases hlo with ⟨_, rfl, rfl⟩ | ⟨kd', i', rfl, hi0', rfl⟩
    · rfl
    · have hb1 := run_sliceBound (P := P) w kd' i' hh .sliceB hi0' hle
      simp [Instr.sliceBounds, hb1]
    · have hb1 := run_sliceBound (P := P) w kd i cap .sliceAcap hi0 (by omega)
      simp [Instr.sliceBounds, hb1]
    · have hb1 := run_sliceBound (P := P) w kd i cap .sliceAcap hi0 (by omega)
      have hb2 := run_sliceBound (P := P) w kd' i' i.toNat .sliceB hi0' hle
      simp [Instr.sliceBounds, hb1, hb2]
  simp only [Instr.sliceAt, Instr.slice, Sem.run_bind, run_underlying ht, Result.andThen_ok, hb, hsz, Sem.run_pure]
  by_cases hcl : cap = ll
  · simp [hcl]
  · simp [hcl, Addr.add_lit]
end
end Go.Abs
