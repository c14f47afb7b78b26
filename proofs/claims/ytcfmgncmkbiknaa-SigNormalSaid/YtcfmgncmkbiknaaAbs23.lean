/- A memory-free reading of the model's values (part 23): what a call does not see. -/
import Derived.Test.YtcfmgncmkbiknaaAbs18
set_option linter.unusedVariables false
set_option linter.unusedSimpArgs false
namespace Go.Abs
open Go

section
variable {P : Program} {A : Nat → Prop} {M : Mem} {L : List Nat} {w : World} {H : List AObj} {ev : Nat → Value} {ea : Nat → AV} {O : Pos → Option Nat}

/-- Without any object. -/
theorem St.bare (h : St A M L w H ev ea O) (hb : ∀ t, (ea t).blw 0 = true) : St (fun b => (∃ t, O (.t t) = some b) ∨ w.heap.size ≤ b) M [] w [] ev ea (fun p => match p with | .t t => O (.t t) | .c _ _ => none) := by
  have hO : ∀ (p : Pos) (b : Nat), (match p with | .t t => O (.t t) | .c _ _ => none) = some b → O p = some b ∧ ∃ t, p = .t t := by
    intro p b hp
    cases p with
    | t t => exact ⟨hp, t, rfl⟩
    | c id j => cases hp
  exact { len := rfl, nodup := by simp, env := fun t => (by have := (h.env t).takeL (hb t); simpa using this), mem := h.mem, obj := fun id o b ho => (by simp at ho), strat := fun id o ho => (by simp at ho), lt := fun b hb => (by cases hb)
          spt := fun t => h.spt t, spc := fun id j => (by simp [cellA, Spare]), oinj := fun p q b hp hq => h.oinj p q b (hO p b hp).1 (hO q b hq).1, osep := fun p b hp hm => (by cases hm), olt := fun p b hp => h.olt p b (hO p b hp).1,
          La := fun b hb => (by cases hb), Oa := fun p b hp => (by obtain ⟨h1, t, rfl⟩ := hO p b hp; exact .inl ⟨t, h1⟩), fresh := fun b hb => .inr hb }

theorem St.unbare (h : St A M L w H ev ea O) {M' : Mem} {w' : World} {v : Value} {r : AV} {L' : List Nat} {O' : Pos → Option Nat}
    (h' : St (fun b => (∃ t, O (.t t) = some b) ∨ w.heap.size ≤ b) M' L' w' [] (upd (fun _ => undef) 0 v) (upd (fun _ => .any) 0 r) O')
    (hext : Ext (fun b => (∃ t, O (.t t) = some b) ∨ w.heap.size ≤ b) M w M' w') :
    ∃ O3, St A M' L w' H (upd (fun _ => undef) 0 v) (upd (fun _ => .any) 0 r) O3 ∧ Ext A M w M' w' := by
  have hL' : L' = [] := by have := h'.len; simpa using this
  subst hL'
  have hAA : ∀ b, ((∃ t, O (.t t) = some b) ∨ w.heap.size ≤ b) → A b := by
    rintro b (⟨t, ht⟩ | hb)
    · exact h.Oa _ b ht
    · exact h.fresh b hb
  have keepL : ∀ b ∈ L, w'.heap[b]? = w.heap[b]? ∧ ∀ o, M' b o = M b o := fun b hb => hext.keep b (h.lt b hb) (by
    rintro (⟨t, ht⟩ | hs)
    · exact h.osep _ b ht hb
    · exact absurd (h.lt b hb) (by omega))
  have keepC : ∀ id j b, O (.c id j) = some b → w'.heap[b]? = w.heap[b]? ∧ ∀ o, M' b o = M b o := fun id j b hb => hext.keep b (h.olt _ b hb) (by
    rintro (⟨t, ht⟩ | hs)
    · cases h.oinj _ _ b ht hb
    · exact absurd (h.olt _ b hb) (by omega))
  let O3 : Pos → Option Nat := fun p => match p with | .t t => if t = 0 then O' (.t 0) else none | .c id j => O (.c id j)
  have hsep : ∀ b, O' (.t 0) = some b → b ∉ L ∧ (∀ id j, O (.c id j) ≠ some b) := by
    intro b hb
    rcases h'.Oa _ b hb with ⟨t, ht⟩ | hs
    · exact ⟨h.osep _ b ht, fun id j hc => by cases h.oinj _ _ b ht hc⟩
    · exact ⟨fun hm => absurd (h.lt b hm) (by omega), fun id j hc => absurd (h.olt _ b hc) (by omega)⟩
  refine ⟨O3, ?_, ⟨hext.msub, hext.size, hext.os, hext.tape, hext.output, fun b hb hA => hext.keep b hb (fun hx => hA (hAA b hx))⟩⟩
  exact { len := h.len, nodup := h.nodup
          env := fun t => (h'.env t).mono (Mem.sub_refl _) (List.nil_prefix)
          mem := h'.mem
          obj := fun id o b ho hb => (h.obj id o b ho hb).mono hext.msub (List.prefix_refl _) (keepL b (List.mem_of_getElem? hb)).1 (keepL b (List.mem_of_getElem? hb)).2
          strat := h.strat
          lt := fun b hb => Nat.lt_of_lt_of_le (h.lt b hb) hext.size
          spt := fun t => by
            by_cases e : t = 0
            · subst e; simpa [O3] using h'.spt 0
            · simp [O3, e, upd, Spare]
          spc := fun id j => by
            have e1 : cellV L w' id j = cellV L w id j := by
              unfold cellV
              cases hl : L[id]? with
              | none => rfl
              | some b => simp only [World.cell?, (keepL b (List.mem_of_getElem? hl)).1]
            rw [e1]
            exact (h.spc id j).mono fun b hb => keepC id j b hb
          oinj := fun p q b hp hq => by
            cases p with
            | t t =>
              simp only [O3] at hp
              split at hp
              · rename_i e; subst e
                cases q with
                | t t' =>
                  simp only [O3] at hq
                  split at hq
                  · rename_i e; subst e; rfl
                  · cases hq
                | c id j => exact absurd hq ((hsep b hp).2 id j)
              · cases hp
            | c id j =>
              cases q with
              | t t' =>
                simp only [O3] at hq
                split at hq
                · exact absurd hp ((hsep b hq).2 id j)
                · cases hq
              | c id' j' => exact h.oinj _ _ b hp hq
          osep := fun p b hp => by
            cases p with
            | t t =>
              simp only [O3] at hp
              split at hp
              · exact (hsep b hp).1
              · cases hp
            | c id j => exact h.osep _ b hp
          olt := fun p b hp => by
            cases p with
            | t t =>
              simp only [O3] at hp
              split at hp
              · exact h'.olt _ b hp
              · cases hp
            | c id j => exact Nat.lt_of_lt_of_le (h.olt _ b hp) hext.size
          La := h.La
          Oa := fun p b hp => by
            cases p with
            | t t =>
              simp only [O3] at hp
              split at hp
              · exact hAA b (h'.Oa _ b hp)
              · cases hp
            | c id j => exact h.Oa _ b hp
          fresh := fun b hb => h.fresh b (Nat.le_trans hext.size hb) }

/-- A call whose arguments speak of no object sees none. -/
theorem ACalls.frame {f : FuncId} {args : List AV} {R : AV → Prop} (ha : ∀ x ∈ args, x.blw 0 = true) (h : ACalls P f args [] fun r H' => R r ∧ H' = []) (H : List AObj) : ACalls P f args H fun r H' => R r ∧ H' = H := by
  intro A M L w vs O hs hst
  have hb : ∀ t, (args.getD t .any).blw 0 = true := by
    intro t
    rw [List.getD_eq_getElem?_getD]
    cases hx : args[t]? with
    | none => rfl
    | some x => exact ha x (List.mem_of_getElem? hx)
  rcases h _ M [] w vs _ hs (hst.bare hb) with ⟨h1, h2⟩ | ⟨v, w', r, H', M', L', O', h1, ⟨h2, rfl⟩, h3, h4, _⟩
  · refine .inl ⟨h1, h2.mono ?_⟩
    rintro e w' ⟨v, r, H', M', L', O', k1, ⟨k2, rfl⟩, k3, k4, _⟩
    obtain ⟨O3, g1, g2⟩ := hst.unbare k3 k4
    exact ⟨v, r, H, M', L, O3, k1, ⟨k2, rfl⟩, g1, g2, List.prefix_refl L⟩
  · obtain ⟨O3, g1, g2⟩ := hst.unbare h3 h4
    exact .inr ⟨v, w', r, H, M', L, O3, h1, ⟨h2, rfl⟩, g1, g2, List.prefix_refl L⟩
end
end Go.Abs
