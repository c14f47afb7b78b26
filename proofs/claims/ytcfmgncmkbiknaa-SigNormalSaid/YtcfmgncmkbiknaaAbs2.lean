/- A memory-free reading of the model's values (part 2): how the fit of state and memory is kept. -/
import Derived.Test.YtcfmgncmkbiknaaAbs1
set_option linter.unusedVariables false
set_option linter.unusedSimpArgs false
namespace Go.Abs
open Go

def upd {α : Type} (f : Nat → α) (d : Nat) (v : α) : Nat → α := fun t => if t = d then v else f t
def updP (O : Pos → Option Nat) (p : Pos) (ob : Option Nat) : Pos → Option Nat := fun q => if q = p then ob else O q
theorem upd_same {α : Type} (f : Nat → α) (d : Nat) (v : α) : upd f d v d = v := by simp [upd]
theorem upd_ne {α : Type} (f : Nat → α) (d t : Nat) (v : α) (h : t ≠ d) : upd f d v t = f t := by simp [upd, h]

section
variable {A : Nat → Prop} {M : Mem} {L : List Nat} {w : World} {H : List AObj} {ev : Nat → Value} {ea : Nat → AV} {O : Pos → Option Nat}

/-- A slot gets a value that it does not own (ob = none), or owns. -/
theorem St.put (h : St A M L w H ev ea O) (d : Nat) {v : Value} {x : AV} (hr : Rep M L v x) (ob : Option Nat) (hs : Spare M w v x ob)
    (h1 : ∀ p b, ob = some b → O p = some b → p = .t d) (h2 : ∀ b, ob = some b → b ∉ L ∧ b < w.heap.size ∧ A b) :
    St A M L w H (upd ev d v) (upd ea d x) (updP O (.t d) ob) where
  len := h.len
  nodup := h.nodup
  env t := by
    by_cases e : t = d
    · subst e; simpa [upd] using hr
    · simpa [upd, e] using h.env t
  mem := h.mem
  obj := h.obj
  strat := h.strat
  lt := h.lt
  spt t := by
    by_cases e : t = d
    · subst e; simpa [upd, updP] using hs
    · simpa [upd, updP, e] using h.spt t
  spc id j := by simpa [updP] using h.spc id j
  oinj p q b hp hq := by
    simp only [updP] at hp hq
    split at hp <;> split at hq
    · simp_all
    · rename_i e1 e2; exact absurd (h1 q b hp hq) e2
    · rename_i e1 e2; exact absurd (h1 p b hq hp) e1
    · exact h.oinj p q b hp hq
  osep p b hp := by
    simp only [updP] at hp
    split at hp
    · exact (h2 b hp).1
    · exact h.osep p b hp
  olt p b hp := by
    simp only [updP] at hp
    split at hp
    · exact (h2 b hp).2.1
    · exact h.olt p b hp
  La := h.La
  Oa p b hp := by
    simp only [updP] at hp
    split at hp
    · exact (h2 b hp).2.2
    · exact h.Oa p b hp
  fresh := h.fresh

theorem Spare.free {v : Value} {x : AV} (hx : ∀ own xs, x = .lst own xs → own = 0) : Spare M w v x none := by
  cases x <;> first | rfl | skip
  rename_i own xs
  have := hx own xs rfl
  simp [Spare, this]

theorem AV.unown_free (x : AV) : ∀ own xs, x.unown = .lst own xs → own = 0 := by
  intro own xs h
  cases x <;> simp_all [AV.unown]
theorem AV.drop_free (x : AV) : ∀ own xs, x.drop = .lst own xs → own = 0 := by
  intro own xs h
  cases x <;> simp_all [AV.drop]

/-- The plain case: nothing is owned by the slot. -/
theorem St.put0 (h : St A M L w H ev ea O) (d : Nat) {v : Value} {x : AV} (hr : Rep M L v x) (hx : ∀ own xs, x = .lst own xs → own = 0) :
    St A M L w H (upd ev d v) (upd ea d x) (updP O (.t d) none) :=
  h.put d hr none (Spare.free hx) (fun p b e => by cases e) (fun b e => by cases e)

theorem St.congr (h : St A M L w H ev ea O) {ev' : Nat → Value} {ea' : Nat → AV} (h1 : ∀ t, ev' t = ev t) (h2 : ∀ t, ea' t = ea t) : St A M L w H ev' ea' O := by
  rw [show ev' = ev from funext h1, show ea' = ea from funext h2]; exact h

/-- The world grows, nothing that was there turns. -/
theorem St.grow (h : St A M L w H ev ea O) {M' : Mem} {w' : World} (hs : M.sub M') (hmem : ∀ b o v, M' b o = some v → w'.cell? ⟨b, o, none⟩ = some v)
    (hsz : w.heap.size ≤ w'.heap.size) (hw : ∀ b, b < w.heap.size → w'.heap[b]? = w.heap[b]?) (hM : ∀ b, b < w.heap.size → ∀ o, M' b o = M b o) : St A M' L w' H ev ea O where
  len := h.len
  nodup := h.nodup
  env t := (h.env t).mono hs (List.prefix_refl _)
  mem := hmem
  obj id o b ho hb := by
    have hlt := h.lt b (List.mem_of_getElem? hb)
    exact (h.obj id o b ho hb).mono hs (List.prefix_refl _) (hw b hlt) (hM b hlt)
  strat := h.strat
  lt b hb := Nat.lt_of_lt_of_le (h.lt b hb) hsz
  spt t := (h.spt t).mono fun b hb => ⟨hw b (h.olt _ b hb), hM b (h.olt _ b hb)⟩
  spc id j := by
    have e : cellV L w' id j = cellV L w id j := by
      unfold cellV
      split
      · rename_i b hb
        have hlt := h.lt b (List.mem_of_getElem? hb)
        simp [World.cell?, hw b hlt]
      · rfl
    rw [e]
    exact (h.spc id j).mono fun b hb => ⟨hw b (h.olt _ b hb), hM b (h.olt _ b hb)⟩
  oinj := h.oinj
  osep := h.osep
  olt p b hp := Nat.lt_of_lt_of_le (h.olt p b hp) hsz
  La := h.La
  Oa := h.Oa
  fresh b hb := h.fresh b (Nat.le_trans hsz hb)

theorem Ext.grow {M' : Mem} {w' : World} (hs : M.sub M') (hsz : w.heap.size ≤ w'.heap.size) (hos : w'.os = w.os) (htape : w'.tape = w.tape) (hout : w'.output = w.output)
    (hw : ∀ b, b < w.heap.size → w'.heap[b]? = w.heap[b]?) (hM : ∀ b, b < w.heap.size → ∀ o, M' b o = M b o) : Ext A M w M' w' :=
  ⟨hs, hsz, hos, htape, hout, fun b hb _ => ⟨hw b hb, hM b hb⟩⟩

/-- A draw. -/
theorem St.drew (h : St A M L w H ev ea O) : St A M L { w with drawn := w.drawn + 1 } H ev ea O :=
  h.grow (Mem.sub_refl M) (fun b o v hv => h.mem b o v hv) (Nat.le_refl _) (fun _ _ => rfl) (fun _ _ _ => rfl)
theorem Ext.drew : Ext A M w M { w with drawn := w.drawn + 1 } := Ext.grow (Mem.sub_refl M) (Nat.le_refl _) rfl rfl rfl (fun _ _ => rfl) (fun _ _ _ => rfl)

theorem mem_fresh (h : St A M L w H ev ea O) {b : Nat} (hb : w.heap.size ≤ b) (o : Nat) : M b o = none := by
  cases hm : M b o with
  | none => rfl
  | some v =>
    have := h.mem b o v hm
    simp [World.cell?, Array.getElem?_eq_none hb] at this

/-- A new block that will not change. -/
def Mem.add (M : Mem) (b : Nat) (cs : List Value) : Mem := fun b' o => if b' = b then cs[o]? else M b' o

theorem heap_push_lt (w : World) (o : Obj) {b : Nat} (hb : b < w.heap.size) : (w.heap.push o)[b]? = w.heap[b]? := by
  rw [Array.getElem?_push, if_neg (by omega)]
theorem heap_push_new (w : World) (o : Obj) : (w.heap.push o)[w.heap.size]? = some o := by simp

theorem St.addBlock (h : St A M L w H ev ea O) (cs : Array Value) (e : TypeId) (fr : Nat × Nat) (rw : List Value) (hrw : ∀ (j : Nat) (v : Value), rw[j]? = some v → cs[j]? = some v) :
    St A (M.add w.heap.size rw) L { w with heap := w.heap.push (.cells cs e fr) } H ev ea O ∧ Ext A M w (M.add w.heap.size rw) { w with heap := w.heap.push (.cells cs e fr) } ∧
    (M.add w.heap.size rw).row w.heap.size 0 rw := by
  have hsub : M.sub (M.add w.heap.size rw) := by
    intro b o v hv
    have hne : b ≠ w.heap.size := by
      rintro rfl
      rw [mem_fresh h (Nat.le_refl _)] at hv; cases hv
    simp [Mem.add, hne, hv]
  have hM : ∀ b, b < w.heap.size → ∀ o, (M.add w.heap.size rw) b o = M b o := fun b hb o => by simp [Mem.add, show b ≠ w.heap.size by omega]
  refine ⟨h.grow hsub ?_ (by simp) (fun b hb => heap_push_lt w _ hb) hM, Ext.grow hsub (by simp) rfl rfl rfl (fun b hb => heap_push_lt w _ hb) hM, ?_⟩
  · intro b o v hv
    by_cases e0 : b = w.heap.size
    · subst e0
      simp only [Mem.add, if_true] at hv
      simp only [World.cell?, heap_push_new]
      simpa using hrw o v hv
    · simp only [Mem.add, e0, if_false] at hv
      have := h.mem b o v hv
      have hlt : b < w.heap.size := by
        rcases Nat.lt_or_ge b w.heap.size with h' | h'
        · exact h'
        · rw [mem_fresh h h'] at hv; cases hv
      simp only [World.cell?] at this ⊢
      rw [heap_push_lt w _ hlt]; exact this
  · intro j v hv
    simpa [Mem.add] using hv

theorem St.addImm (h : St A M L w H ev ea O) (cs : Array Value) (e : TypeId) :
    St A (M.add w.heap.size cs.toList) L { w with heap := w.heap.push (.cells cs e) } H ev ea O ∧ Ext A M w (M.add w.heap.size cs.toList) { w with heap := w.heap.push (.cells cs e) } ∧
    (M.add w.heap.size cs.toList).row w.heap.size 0 cs.toList :=
  h.addBlock cs e (0, 0) cs.toList (fun j v hv => by simpa using hv)

def objCell (ob : Obj) (j : Nat) : Value := match ob with | .cells cs _ _ => (cs[j]?).getD undef | _ => undef
def aobjCell (ao : AObj) (j : Nat) : AV := match ao with | .cells es => es.getD j .any | _ => .any

/-- A new object. -/
theorem St.addObj (h : St A M L w H ev ea O) (ob : Obj) (ao : AObj) (hsh : ∀ w', w'.heap[w.heap.size]? = some ob → (∀ o, M w.heap.size o = none) → ORep M (L ++ [w.heap.size]) w' w.heap.size ao)
    (hb : ao.blw (H.length + 1) = true) (hsp : ∀ j, Spare M w (objCell ob j) (aobjCell ao j) none) :
    St A M (L ++ [w.heap.size]) { w with heap := w.heap.push ob } (H ++ [ao]) ev ea O ∧ Ext A M w M { w with heap := w.heap.push ob } := by
  have hpre : L <+: L ++ [w.heap.size] := ⟨_, rfl⟩
  have hO : ∀ j, O (.c H.length j) = none := by
    intro j
    have := h.spc H.length j
    simp only [cellA, List.getElem?_eq_none (Nat.le_refl _)] at this
    exact this
  have hkeep : ∀ b, b < w.heap.size → (w.heap.push ob)[b]? = w.heap[b]? := fun b hb => heap_push_lt w _ hb
  refine ⟨?_, Ext.grow (Mem.sub_refl M) (by simp) rfl rfl rfl hkeep (fun _ _ _ => rfl)⟩
  refine { len := by simp [h.len], nodup := ?_, env := fun t => (h.env t).mono (Mem.sub_refl M) hpre, mem := ?_, obj := ?_, strat := ?_, lt := ?_, spt := ?_, spc := ?_, oinj := h.oinj, osep := ?_, olt := ?_, La := ?_, Oa := h.Oa, fresh := ?_ }
  · rw [List.nodup_append]
    refine ⟨h.nodup, by simp, ?_⟩
    intro a ha b hb'
    simp at hb'
    subst hb'
    exact Nat.ne_of_lt (h.lt a ha)
  · intro b o v hv
    have := h.mem b o v hv
    have hlt : b < w.heap.size := by
      rcases Nat.lt_or_ge b w.heap.size with h' | h'
      · exact h'
      · rw [mem_fresh h h'] at hv; cases hv
    simp only [World.cell?] at this ⊢
    rw [hkeep b hlt]; exact this
  · intro id o b ho hb'
    by_cases e : id < H.length
    · rw [List.getElem?_append_left e] at ho
      rw [List.getElem?_append_left (by rw [h.len]; exact e)] at hb'
      exact (h.obj id o b ho hb').mono (Mem.sub_refl M) hpre (hkeep b (h.lt b (List.mem_of_getElem? hb'))) (fun _ => rfl)
    · rw [List.getElem?_append_right (by omega)] at ho
      rw [List.getElem?_append_right (by rw [h.len]; omega)] at hb'
      have e0 : id - H.length = 0 := by
        have := (List.getElem?_eq_some_iff.1 ho).1
        simp at this; omega
      rw [e0] at ho
      rw [h.len, e0] at hb'
      simp at ho hb'
      subst ho; subst hb'
      exact hsh _ (heap_push_new w ob) (fun o => mem_fresh h (Nat.le_refl _) o)
  · intro id o ho
    by_cases e : id < H.length
    · rw [List.getElem?_append_left e] at ho
      exact h.strat id o ho
    · rw [List.getElem?_append_right (by omega)] at ho
      have e0 : id - H.length = 0 := by
        have := (List.getElem?_eq_some_iff.1 ho).1
        simp at this; omega
      rw [e0] at ho
      simp at ho
      subst ho
      rw [show id = H.length by omega]; exact hb
  · intro b hb'
    simp at hb' ⊢
    rcases hb' with hb' | rfl
    · have := h.lt b hb'; omega
    · omega
  · intro t
    exact (h.spt t).mono fun b hb' => ⟨hkeep b (h.olt _ b hb'), fun _ => rfl⟩
  · intro id j
    by_cases e : id < H.length
    · have e1 : cellV (L ++ [w.heap.size]) { w with heap := w.heap.push ob } id j = cellV L w id j := by
        unfold cellV
        rw [List.getElem?_append_left (by rw [h.len]; exact e)]
        split
        · rename_i b hb'
          simp only [World.cell?]
          rw [hkeep b (h.lt b (List.mem_of_getElem? hb'))]
        · rfl
      have e2 : cellA (H ++ [ao]) id j = cellA H id j := by
        unfold cellA
        rw [List.getElem?_append_left e]
      rw [e1, e2]
      exact (h.spc id j).mono fun b hb' => ⟨hkeep b (h.olt _ b hb'), fun _ => rfl⟩
    · by_cases e0 : id = H.length
      · subst e0
        rw [hO j]
        have e1 : cellV (L ++ [w.heap.size]) { w with heap := w.heap.push ob } H.length j = objCell ob j := by
          unfold cellV
          rw [List.getElem?_append_right (by rw [h.len]; omega), h.len]
          simp only [Nat.sub_self, List.getElem?_cons_zero, World.cell?, heap_push_new]
          cases ob <;> simp [objCell]
        have e2 : cellA (H ++ [ao]) H.length j = aobjCell ao j := by
          unfold cellA
          rw [List.getElem?_append_right (Nat.le_refl _)]
          simp only [Nat.sub_self, List.getElem?_cons_zero]
          cases ao <;> rfl
        rw [e1, e2]
        exact (hsp j).mono fun b hb' => by cases hb'
      · have hn : O (.c id j) = none := by
          have := h.spc id j
          simp only [cellA, List.getElem?_eq_none (show H.length ≤ id by omega)] at this
          exact this
        rw [hn]
        have e2 : cellA (H ++ [ao]) id j = .any := by
          unfold cellA
          rw [List.getElem?_eq_none (by simp; omega)]
        rw [e2]; rfl
  · intro p b hp hmem
    simp at hmem
    rcases hmem with hmem | rfl
    · exact h.osep p b hp hmem
    · exact absurd (h.olt p _ hp) (Nat.lt_irrefl _)
  · intro p b hp
    have := h.olt p b hp
    simp; omega
  · intro b hb'
    simp at hb'
    rcases hb' with hb' | rfl
    · exact h.La b hb'
    · exact h.fresh _ (Nat.le_refl _)
  · intro b hb'
    simp at hb'
    exact h.fresh b (by omega)

/-- A block that is no object's and nobody's may be given up: ownership moves about among the places. -/
structure Moves (O O' : Pos → Option Nat) : Prop where
  inj : ∀ p q b, O' p = some b → O' q = some b → p = q
  rng : ∀ p b, O' p = some b → ∃ q, O q = some b

/-- An object of cells is written. -/
theorem St.write (h : St A M L w H ev ea O) {id b : Nat} {es es' : List AV} {cs cs' : Array Value} {e : TypeId} {ea' : Nat → AV} {O' : Pos → Option Nat} (hid : H[id]? = some (.cells es)) (hL : L[id]? = some b)
    (hc : w.heap[b]? = some (.cells cs e (0, 0))) (hr : RepL M L cs'.toList es') (hbl : belowL (id + 1) es' = true) (hm : Moves O O') (henv : ∀ t, Rep M L (ev t) (ea' t))
    (spt : ∀ t, Spare M w (ev t) (ea' t) (O' (.t t))) (spc : ∀ j, Spare M w ((cs'[j]?).getD undef) (es'.getD j .any) (O' (.c id j))) (spo : ∀ id' j, id' ≠ id → O' (.c id' j) = O (.c id' j)) :
    St A M L (w.setRow b cs') (H.set id (.cells es')) ev ea' O' ∧ Ext A M w M (w.setRow b cs') := by
  have hbL : b ∈ L := List.mem_of_getElem? hL
  have hsz : (w.setRow b cs').heap.size = w.heap.size := by simp [World.setRow]
  have hoth : ∀ k, k ≠ b → (w.setRow b cs').heap[k]? = w.heap[k]? := by
    intro k hk
    simp only [World.setRow, Array.getElem?_modify]
    rw [if_neg (fun e => hk e.symm)]
  have hnew : (w.setRow b cs').heap[b]? = some (.cells cs' e (0, 0)) := by
    simp only [World.setRow, Array.getElem?_modify, if_true, hc, Option.map_some]
  obtain ⟨_, _, _, _, hMb⟩ := h.obj id _ b hid hL
  have hidl : id < H.length := get_lt hid
  have howns : ∀ p k, O' p = some k → (w.setRow b cs').heap[k]? = w.heap[k]? := by
    intro p k hp
    obtain ⟨q, hq⟩ := hm.rng p k hp
    exact hoth k (fun e0 => h.osep q k hq (e0 ▸ hbL))
  refine ⟨{ len := by simp [h.len], nodup := h.nodup, env := henv, mem := ?_, obj := ?_, strat := ?_, lt := ?_, spt := ?_, spc := ?_, oinj := hm.inj, osep := ?_, olt := ?_, La := h.La, Oa := ?_, fresh := ?_ }, ?_⟩
  · intro k o v hv
    have hk : k ≠ b := by rintro rfl; rw [hMb o] at hv; cases hv
    have := h.mem k o v hv
    simp only [World.cell?] at this ⊢
    rw [hoth k hk]; exact this
  · intro id' o k ho hk
    by_cases e0 : id' = id
    · subst e0
      rw [hL] at hk; cases hk
      rw [List.getElem?_set_self hidl] at ho
      cases ho
      exact ⟨cs', e, hnew, hr, hMb⟩
    · rw [List.getElem?_set_ne (fun h' => e0 h'.symm)] at ho
      have hkb : k ≠ b := by
        rintro rfl
        exact e0 ((List.getElem?_inj (get_lt hk) h.nodup).1 (hk.trans hL.symm))
      exact (h.obj id' o k ho hk).mono (Mem.sub_refl M) (List.prefix_refl _) (hoth k hkb) (fun _ => rfl)
  · intro id' o ho
    by_cases e0 : id' = id
    · subst e0
      rw [List.getElem?_set_self hidl] at ho
      cases ho
      simpa [AObj.blw] using hbl
    · rw [List.getElem?_set_ne (fun h' => e0 h'.symm)] at ho
      exact h.strat id' o ho
  · intro k hk; rw [hsz]; exact h.lt k hk
  · intro t
    exact (spt t).mono fun k hk => ⟨howns _ k hk, fun _ => rfl⟩
  · intro id' j
    by_cases e0 : id' = id
    · subst e0
      have e1 : cellV L (w.setRow b cs') id' j = (cs'[j]?).getD undef := by
        unfold cellV
        simp only [hL, World.cell?, hnew]
        simp
      have e2 : cellA (H.set id' (.cells es')) id' j = es'.getD j .any := by
        unfold cellA
        rw [List.getElem?_set_self hidl]
      rw [e1, e2]
      exact (spc j).mono fun k hk => ⟨howns _ k hk, fun _ => rfl⟩
    · have e1 : cellV L (w.setRow b cs') id' j = cellV L w id' j := by
        unfold cellV
        split
        · rename_i k hk
          have hkb : k ≠ b := by
            rintro rfl
            exact e0 ((List.getElem?_inj (get_lt hk) h.nodup).1 (hk.trans hL.symm))
          simp only [World.cell?]
          rw [hoth k hkb]
        · rfl
      have e2 : cellA (H.set id (.cells es')) id' j = cellA H id' j := by
        unfold cellA
        rw [List.getElem?_set_ne (fun h' => e0 h'.symm)]
      rw [e1, e2, spo id' j e0]
      exact (h.spc id' j).mono fun k hk => ⟨hoth k (fun e3 => h.osep _ k hk (e3 ▸ hbL)), fun _ => rfl⟩
  · intro p k hp
    obtain ⟨q, hq⟩ := hm.rng p k hp
    exact h.osep q k hq
  · intro p k hp
    obtain ⟨q, hq⟩ := hm.rng p k hp
    rw [hsz]; exact h.olt q k hq
  · intro p k hp
    obtain ⟨q, hq⟩ := hm.rng p k hp
    exact h.Oa q k hq
  · intro k hk; rw [hsz] at hk; exact h.fresh k hk
  · exact ⟨Mem.sub_refl M, by rw [hsz]; exact Nat.le_refl _, rfl, rfl, rfl, fun k hk hA => ⟨hoth k (fun e0 => hA (e0 ▸ h.La b hbL)), fun _ => rfl⟩⟩

/-- A map is written. -/
theorem St.writeMap (h : St A M L w H ev ea O) {id b : Nat} {es es' : List (AV × AV)} {o' : Obj} (hid : H[id]? = some (.map es)) (hL : L[id]? = some b)
    (hnc : ∀ cs e f, o' ≠ .cells cs e f) (hr : ∀ w', w'.heap[b]? = some o' → ORep M L w' b (.map es')) (hbl : (AObj.map es').blw (id + 1) = true) :
    St A M L { w with heap := w.heap.setIfInBounds b o' } (H.set id (.map es')) ev ea O ∧ Ext A M w M { w with heap := w.heap.setIfInBounds b o' } := by
  have hbL : b ∈ L := List.mem_of_getElem? hL
  have hblt := h.lt b hbL
  obtain ⟨ents, ck, hc, _, _⟩ := h.obj id _ b hid hL
  have hoth : ∀ k, k ≠ b → (w.heap.setIfInBounds b o')[k]? = w.heap[k]? := fun k hk => by rw [Array.getElem?_setIfInBounds_ne (fun e => hk e.symm)]
  have hnew : (w.heap.setIfInBounds b o')[b]? = some o' := by simp [hblt]
  have hMb : ∀ o, M b o = none := by
    intro o
    cases hm : M b o with
    | none => rfl
    | some v =>
      have := h.mem b o v hm
      simp [World.cell?, hc] at this
  have hidl : id < H.length := get_lt hid
  refine ⟨{ len := by simp [h.len], nodup := h.nodup, env := h.env, mem := ?_, obj := ?_, strat := ?_, lt := ?_, spt := ?_, spc := ?_, oinj := h.oinj, osep := h.osep, olt := ?_, La := h.La, Oa := h.Oa, fresh := ?_ }, ?_⟩
  · intro k o v hv
    have hk : k ≠ b := by rintro rfl; rw [hMb o] at hv; cases hv
    have := h.mem k o v hv
    simp only [World.cell?] at this ⊢
    rw [hoth k hk]; exact this
  · intro id' o k ho hk
    by_cases e0 : id' = id
    · subst e0
      rw [hL] at hk; cases hk
      rw [List.getElem?_set_self hidl] at ho
      cases ho
      exact hr _ hnew
    · rw [List.getElem?_set_ne (fun h' => e0 h'.symm)] at ho
      have hkb : k ≠ b := by
        rintro rfl
        exact e0 ((List.getElem?_inj (get_lt hk) h.nodup).1 (hk.trans hL.symm))
      exact (h.obj id' o k ho hk).mono (Mem.sub_refl M) (List.prefix_refl _) (hoth k hkb) (fun _ => rfl)
  · intro id' o ho
    by_cases e0 : id' = id
    · subst e0
      rw [List.getElem?_set_self hidl] at ho
      cases ho
      exact hbl
    · rw [List.getElem?_set_ne (fun h' => e0 h'.symm)] at ho
      exact h.strat id' o ho
  · intro k hk; simpa using h.lt k hk
  · intro t
    exact (h.spt t).mono fun k hk => ⟨hoth k (fun e3 => h.osep _ k hk (e3 ▸ hbL)), fun _ => rfl⟩
  · intro id' j
    by_cases e0 : id' = id
    · subst e0
      have hn : O (.c id' j) = none := by
        have := h.spc id' j
        simp only [cellA, hid] at this
        exact this
      have e2 : cellA (H.set id' (.map es')) id' j = .any := by
        unfold cellA
        rw [List.getElem?_set_self hidl]
      rw [e2, hn]; rfl
    · have e1 : cellV L { w with heap := w.heap.setIfInBounds b o' } id' j = cellV L w id' j := by
        unfold cellV
        split
        · rename_i k hk
          have hkb : k ≠ b := by
            rintro rfl
            exact e0 ((List.getElem?_inj (get_lt hk) h.nodup).1 (hk.trans hL.symm))
          simp only [World.cell?]
          rw [hoth k hkb]
        · rfl
      have e2 : cellA (H.set id (.map es')) id' j = cellA H id' j := by
        unfold cellA
        rw [List.getElem?_set_ne (fun h' => e0 h'.symm)]
      rw [e1, e2]
      exact (h.spc id' j).mono fun k hk => ⟨hoth k (fun e3 => h.osep _ k hk (e3 ▸ hbL)), fun _ => rfl⟩
  · intro p k hp; simpa using h.olt p k hp
  · intro k hk; simp at hk; exact h.fresh k hk
  · exact ⟨Mem.sub_refl M, by simp, rfl, rfl, rfl, fun k hk hA => ⟨hoth k (fun e0 => hA (e0 ▸ h.La b hbL)), fun _ => rfl⟩⟩

/-- What is kept about the slots may be weakened. -/
def AV.le (x y : AV) : Prop := y = x ∨ y = .any ∨ (∃ o xs, x = .lst o xs ∧ y = .lst 0 xs) ∨ (x = .nils ∧ ∃ o, y = .lst o []) ∨ (∃ xs, x = .agg xs ∧ y = .agg (xs.map AV.drop))

theorem Rep.le {v : Value} {x y : AV} (h : Rep M L v x) (hl : x.le y) : Rep M L v y := by
  rcases hl with rfl | rfl | ⟨o, xs, rfl, rfl⟩ | ⟨rfl, o, rfl⟩ | ⟨xs, rfl, rfl⟩
  · exact h
  · exact .any _
  · exact h.relist
  · cases h; exact .lst0 _ _ _ (by decide)
  · cases h with
    | agg cs _ hr => exact .agg cs _ hr.map_drop
theorem Spare.le {v : Value} {x y : AV} {ob : Option Nat} (h : Rep M L v x) (hs : Spare M w v x ob) (hl : x.le y) : ∃ ob', Spare M w v y ob' ∧ (ob' = none ∨ ob' = ob) := by
  rcases hl with rfl | rfl | ⟨o, xs, rfl, rfl⟩ | ⟨rfl, o, rfl⟩ | ⟨xs, rfl, rfl⟩
  · exact ⟨ob, hs, .inr rfl⟩
  · exact ⟨none, rfl, .inl rfl⟩
  · exact ⟨none, by simp [Spare], .inl rfl⟩
  · cases h
    refine ⟨none, ?_, .inl rfl⟩
    by_cases e : o = 0
    · simp [Spare, e]
    · simp only [Spare, e, if_false]; exact ⟨by simp, .inl ⟨trivial, none, 0, rfl⟩⟩
  · exact ⟨none, rfl, .inl rfl⟩

theorem St.weaken' (h : St A M L w H ev ea O) {ea' : Nat → AV} (hl : ∀ t, (ea t).le (ea' t)) : ∃ O', St A M L w H ev ea' O' ∧ ∀ p b, O' p = some b → O p = some b := by
  have hx : ∀ t, ∃ ob', Spare M w (ev t) (ea' t) ob' ∧ (ob' = none ∨ ob' = O (.t t)) := fun t => (h.spt t).le (h.env t) (hl t)
  let f : Nat → Option Nat := fun t => Classical.choose (hx t)
  have hf : ∀ t, Spare M w (ev t) (ea' t) (f t) ∧ (f t = none ∨ f t = O (.t t)) := fun t => Classical.choose_spec (hx t)
  let O' : Pos → Option Nat := fun p => match p with | .t t => f t | .c id j => O (.c id j)
  have hO : ∀ p b, O' p = some b → O p = some b := by
    intro p b hp
    cases p with
    | t t =>
      rcases (hf t).2 with h0 | h0
      · simp only [O', h0] at hp; cases hp
      · simpa only [O', h0] using hp
    | c id j => exact hp
  exact ⟨O', { len := h.len, nodup := h.nodup, env := fun t => (h.env t).le (hl t), mem := h.mem, obj := h.obj, strat := h.strat, lt := h.lt, spt := fun t => (hf t).1, spc := h.spc, oinj := fun p q b hp hq => h.oinj p q b (hO p b hp) (hO q b hq), osep := fun p b hp => h.osep p b (hO p b hp), olt := fun p b hp => h.olt p b (hO p b hp), La := h.La, Oa := fun p b hp => h.Oa p b (hO p b hp), fresh := h.fresh }, hO⟩
theorem St.weaken (h : St A M L w H ev ea O) {ea' : Nat → AV} (hl : ∀ t, (ea t).le (ea' t)) : ∃ O', St A M L w H ev ea' O' :=
  let ⟨O', h1, _⟩ := h.weaken' hl
  ⟨O', h1⟩

/-- Objects that nothing speaks of are forgotten. -/
theorem St.cut (h : St A M L w H ev ea O) (n : Nat) (hb : ∀ t, (ea t).blw n = true) : ∃ O', St A M (L.take n) w (H.take n) ev ea O' := by
  let O' : Pos → Option Nat := fun p => match p with | .t t => O (.t t) | .c id j => if id < n then O (.c id j) else none
  have hO : ∀ p b, O' p = some b → O p = some b := by
    intro p b hp
    cases p with
    | t t => exact hp
    | c id j =>
      simp only [O'] at hp
      split at hp
      · exact hp
      · cases hp
  have hget : ∀ {α : Type} {l : List α} {i : Nat} {a : α}, (l.take n)[i]? = some a → i < n ∧ l[i]? = some a := by
    intro α l i a hi
    rw [List.getElem?_take] at hi
    split at hi
    · exact ⟨by assumption, hi⟩
    · cases hi
  have hmem : ∀ b, b ∈ L.take n → b ∈ L := fun b hb => List.mem_of_mem_take hb
  have hblw : ∀ {m k : Nat} {o : AObj}, m ≤ k → o.blw m = true → o.blw k = true := fun hmk ho => AObj.blw_mono hmk _ ho
  refine ⟨O', { len := by simp [h.len], nodup := (List.take_sublist n L).nodup h.nodup, env := fun t => (h.env t).takeL (hb t), mem := h.mem, obj := ?_, strat := ?_, lt := fun b hb => h.lt b (hmem b hb), spt := h.spt, spc := ?_, oinj := fun p q b hp hq => h.oinj p q b (hO p b hp) (hO q b hq), osep := fun p b hp hm => h.osep p b (hO p b hp) (hmem b hm), olt := fun p b hp => h.olt p b (hO p b hp), La := fun b hb => h.La b (hmem b hb), Oa := fun p b hp => h.Oa p b (hO p b hp), fresh := h.fresh }⟩
  · intro id o b ho hb'
    obtain ⟨hn, ho⟩ := hget ho
    obtain ⟨_, hb'⟩ := hget hb'
    exact (h.obj id o b ho hb').takeL (hblw (by omega) (h.strat id o ho))
  · intro id o ho
    exact h.strat id o (hget ho).2
  · intro id j
    by_cases e : id < n
    · have e1 : cellV (L.take n) w id j = cellV L w id j := by
        unfold cellV
        rw [List.getElem?_take, if_pos e]
      have e2 : cellA (H.take n) id j = cellA H id j := by
        unfold cellA
        rw [List.getElem?_take, if_pos e]
      rw [e1, e2]
      simpa [O', e] using h.spc id j
    · have e2 : cellA (H.take n) id j = .any := by
        unfold cellA
        rw [List.getElem?_take, if_neg e]
      rw [e2]
      simp [O', e, Spare]
end
end Go.Abs
