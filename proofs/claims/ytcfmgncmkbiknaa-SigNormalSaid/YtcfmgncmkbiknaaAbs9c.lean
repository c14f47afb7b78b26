/- A memory-free reading of the model's values (part 9c): an object that is written no more becomes a value. -/
import Derived.Test.YtcfmgncmkbiknaaAbs9b
set_option linter.unusedVariables false
set_option linter.unusedSimpArgs false
namespace Go.Abs
open Go

/-- Cells as the elements of a list. -/
def chunks (esz : Nat) : Nat → List AV → List AV
  | 0, _ => []
  | n + 1, es => (if esz = 1 then (es.getD 0 .any).unown else .agg ((es.take esz).map AV.unown)) :: chunks esz n (es.drop esz)

def asetf (esz : Nat) (x : AV) (H : List AObj) (K : AV → List AObj → Prop) : Prop :=
  match x with
  | .arr id off len cap => match H[id]? with
    | some (.cells es) => 0 < esz ∧ len ≤ cap ∧ off + len * esz ≤ es.length ∧ (es.drop off).all AV.one = true ∧ K (.lst 0 (chunks esz len (es.drop off))) (H.set id .dead)
    | _ => False
  | .any => False
  | x => K x.unown H

theorem one_cells {x : AV} (h : x.one = true) : x.cells = [x] := by cases x <;> first | rfl | simp [AV.one] at h
theorem one_unown {x : AV} (h : x.one = true) : x.unown.one = true := by cases x <;> first | rfl | exact h

theorem chunks_spec (esz : Nat) (h0 : 0 < esz) : ∀ (n : Nat) (es : List AV), n * esz ≤ es.length → es.all AV.one = true →
    flat (chunks esz n es) = (es.take (n * esz)).map AV.unown ∧ (chunks esz n es).length = n ∧ ∀ x ∈ chunks esz n es, x.cells.length = esz
  | 0, es, _, _ => by simp [chunks, flat]
  | n + 1, es, hle, h1 => by
    have hle' : n * esz + esz ≤ es.length := by rw [Nat.add_mul] at hle; omega
    obtain ⟨i1, i2, i3⟩ := chunks_spec esz h0 n (es.drop esz) (by simp; omega) (by
      rw [List.all_eq_true] at h1 ⊢
      exact fun x hx => h1 x (List.mem_of_mem_drop hx))
    have hhead : (if esz = 1 then (es.getD 0 .any).unown else AV.agg ((es.take esz).map AV.unown)).cells = (es.take esz).map AV.unown := by
      split
      · rename_i e
        subst e
        cases es with
        | nil => simp at hle'
        | cons x r =>
          have hx : x.one = true := List.all_eq_true.1 h1 x (by simp)
          simp [one_cells (one_unown hx)]
      · rfl
    refine ⟨?_, by simp [chunks, i2], ?_⟩
    · simp only [flat] at i1
      simp only [chunks, flat, List.flatMap_cons, hhead, i1]
      rw [← List.map_append]
      congr 1
      rw [Nat.add_mul, Nat.one_mul, Nat.add_comm (n * esz) esz, List.take_add]
    · intro x hx
      simp only [chunks, List.mem_cons] at hx
      rcases hx with rfl | hx
      · rw [hhead]; simp; omega
      · exact i3 x hx

section
variable {P : Program} {w : World} {M : Mem} {L : List Nat} {H : List AObj} {A : Nat → Prop} {ev : Nat → Value} {ea : Nat → AV} {O : Pos → Option Nat}

theorem St.freeze (h : St A M L w H ev ea O) {id b : Nat} {es : List AV} (hid : H[id]? = some (.cells es)) (hl : L[id]? = some b) :
    ∃ (cs : Array Value) (O' : Pos → Option Nat), RepL M L cs.toList es ∧ M.sub (M.add b cs.toList) ∧ (M.add b cs.toList).row b 0 cs.toList ∧ St A (M.add b cs.toList) L w (H.set id .dead) ev ea O' ∧ Ext A M w (M.add b cs.toList) w ∧ (∀ t, O' (.t t) = O (.t t)) := by
  obtain ⟨cs, e, h1, h2, h3⟩ := h.obj id _ b hid hl
  have hbL : b ∈ L := List.mem_of_getElem? hl
  have hsub : M.sub (M.add b cs.toList) := by
    intro b' o v hv
    have hne : b' ≠ b := by
      rintro rfl
      rw [h3] at hv; cases hv
    simp [Mem.add, hne, hv]
  have hM : ∀ b', b' ≠ b → ∀ o, (M.add b cs.toList) b' o = M b' o := fun b' hb o => by simp [Mem.add, hb]
  let O' : Pos → Option Nat := fun p => match p with | .t t => O (.t t) | .c id' j => if id' = id then none else O (.c id' j)
  have hO : ∀ q b, O' q = some b → O q = some b := by
    intro q b hq
    cases q with
    | t t => exact hq
    | c id' j =>
      simp only [O'] at hq
      split at hq
      · cases hq
      · exact hq
  have hOb : ∀ q b', O q = some b' → b' ≠ b := fun q b' hq e => h.osep q b' hq (e ▸ hbL)
  refine ⟨cs, O', h2, hsub, ?_, ?_, ?_, fun t => rfl⟩
  · intro j v hv
    simpa [Mem.add] using hv
  · exact { len := by simp [h.len], nodup := h.nodup, env := fun t => (h.env t).mono hsub (List.prefix_refl _)
            mem := by
              intro b' o v hv
              by_cases e0 : b' = b
              · subst e0
                simp only [Mem.add, if_true] at hv
                simpa [World.cell?, h1] using hv
              · rw [hM b' e0] at hv
                exact h.mem b' o v hv
            obj := by
              intro id' o b' ho hb'
              rw [List.getElem?_set] at ho
              split at ho
              · split at ho <;> cases ho
                trivial
              · rename_i hne
                refine (h.obj id' o b' ho hb').mono hsub (List.prefix_refl _) rfl (hM b' ?_)
                rintro rfl
                exact hne ((List.getElem?_inj (get_lt hl) h.nodup).1 (hl.trans hb'.symm))
            strat := by
              intro id' o ho
              rw [List.getElem?_set] at ho
              split at ho
              · split at ho <;> cases ho
                rfl
              · exact h.strat id' o ho
            lt := h.lt
            spt := fun t => (h.spt t).mono fun b' hb' => ⟨rfl, hM b' (hOb _ b' hb')⟩
            spc := by
              intro id' j
              by_cases e0 : id' = id
              · subst e0
                have : cellA (H.set id' .dead) id' j = .any := by
                  unfold cellA
                  rw [List.getElem?_set]
                  simp
                rw [this]
                simp [O', Spare]
              · have e1 : cellA (H.set id .dead) id' j = cellA H id' j := by
                  unfold cellA
                  rw [List.getElem?_set, if_neg (Ne.symm e0)]
                rw [e1]
                have : O' (.c id' j) = O (.c id' j) := by simp [O', e0]
                rw [this]
                exact (h.spc id' j).mono fun b' hb' => ⟨rfl, hM b' (hOb _ b' hb')⟩
            oinj := fun p q b hp hq => h.oinj p q b (hO p b hp) (hO q b hq)
            osep := fun p b hp => h.osep p b (hO p b hp)
            olt := fun p b hp => h.olt p b (hO p b hp)
            La := h.La
            Oa := fun p b hp => h.Oa p b (hO p b hp)
            fresh := h.fresh }
  · exact ⟨hsub, Nat.le_refl _, rfl, rfl, rfl, fun b' _ hA => ⟨rfl, hM b' (fun e => hA (e ▸ h.La b hbL))⟩⟩

theorem asetf_run (hs : St A M L w H ev ea O) {esz : Nat} {u : Value} {x : AV} {K : AV → List AObj → Prop} (h : asetf esz x H K) (hu : Rep M L u x) :
    ∃ z M' H' O', Rep M' L u z ∧ K z H' ∧ St A M' L w H' ev ea O' ∧ Ext A M w M' w ∧ ∀ own xs, z = .lst own xs → own = 0 := by
  unfold asetf at h
  split at h
  · rename_i id off len cap
    split at h <;> try exact h.elim
    rename_i es hid
    obtain ⟨h0, hcap, hle, h1, hK⟩ := h
    cases hu with
    | arr b _ _ _ _ hl hc =>
    obtain ⟨cs, O', k1, k2, k3, k4, k5, _⟩ := hs.freeze hid hl
    obtain ⟨c1, c2, c3⟩ := chunks_spec esz h0 len (es.drop off) (by simp; omega) h1
    refine ⟨_, _, _, O', ?_, hK, k4, k5, by intro own xs e; cases e; rfl⟩
    have hcl := k1.length
    by_cases hz : len = 0
    · subst hz
      simp only [chunks]
      exact .lst0 _ _ _ hc
    · have hr : RepL (M.add b cs.toList) L ((cs.toList.drop off).take (len * esz)) (flat (chunks esz len (es.drop off))) := by
        rw [c1]
        exact (((k1.drop off).take _).map_unown).mono k2 (List.prefix_refl _)
      have hrow : (M.add b cs.toList).row b off ((cs.toList.drop off).take (len * esz)) := by
        intro j v hv
        have := k3 (off + j) v (list_drop_take _ _ _ _ _ hv)
        simpa using this
      have := Rep.lst (M := M.add b cs.toList) (L := L) b off cap 0 esz _ (chunks esz len (es.drop off)) h0 c3 (by omega) (by omega) hc hr hrow
      rw [c2] at this
      exact this
  · exact h.elim
  · rename_i hne1 hne2
    refine ⟨_, M, H, O, hu.unown, h, hs, Ext.refl A M w, AV.unown_free x⟩
end
end Go.Abs
