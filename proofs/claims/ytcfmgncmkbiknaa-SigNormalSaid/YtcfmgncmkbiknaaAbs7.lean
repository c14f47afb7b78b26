/- A memory-free reading of the model's values (part 7): stores, appends, new slices. -/
import Derived.Test.YtcfmgncmkbiknaaAbs6
import Derived.Laws.BytesArg
set_option linter.unusedVariables false
set_option linter.unusedSimpArgs false
namespace Go.Abs
open Go

/-! ### Stores -/
def astore (m : Nat) (p x : AV) (H : List AObj) (K : List AObj → Prop) : Prop :=
  match p with
  | .ptr id off => match H[id]? with
    | some (.cells es) => x.val = true ∧ x.cells.length = m ∧ off + m ≤ es.length ∧ x.cells.all AV.one = true ∧ belowL (id + 1) (x.cells.map AV.unown) = true ∧
        K (H.set id (.cells (asplice es off (x.cells.map AV.unown))))
    | _ => False
  | _ => False

theorem belowL_append {n : Nat} {xs ys : List AV} : belowL n (xs ++ ys) = true ↔ belowL n xs = true ∧ belowL n ys = true := by
  simp only [belowL_iff, List.mem_append]
  constructor
  · intro h; exact ⟨fun x hx => h x (.inl hx), fun x hx => h x (.inr hx)⟩
  · rintro ⟨h1, h2⟩ x (hx | hx)
    · exact h1 x hx
    · exact h2 x hx
theorem belowL_take {n m : Nat} {xs : List AV} (h : belowL n xs = true) : belowL n (xs.take m) = true := by
  rw [belowL_iff] at *; exact fun x hx => h x (List.mem_of_mem_take hx)
theorem belowL_drop {n m : Nat} {xs : List AV} (h : belowL n xs = true) : belowL n (xs.drop m) = true := by
  rw [belowL_iff] at *; exact fun x hx => h x (List.mem_of_mem_drop hx)

theorem asplice_get {α : Type} (zs : List α) (off : Nat) (xs : List α) (h : off + xs.length ≤ zs.length) (j : Nat) :
    (asplice zs off xs)[j]? = if off ≤ j ∧ j < off + xs.length then xs[j - off]? else zs[j]? := by
  unfold asplice
  simp only [List.getElem?_append, List.length_take, List.getElem?_take, List.getElem?_drop]
  by_cases h1 : j < off
  · rw [if_pos (by omega), if_pos h1, if_neg (by omega)]
  · rw [if_neg (by omega), show j - min off zs.length = j - off by omega]
    by_cases h2 : j < off + xs.length
    · rw [if_pos (by omega), if_pos ⟨by omega, h2⟩]
    · rw [if_neg (by omega), if_neg (by omega)]
      congr 1; omega

section
variable {P : Program} {w : World} {M : Mem} {L : List Nat} {H : List AObj} {A : Nat → Prop} {ev : Nat → Value} {ea : Nat → AV} {O : Pos → Option Nat}

theorem Moves.sub {O O' : Pos → Option Nat} (hinj : ∀ p q b, O p = some b → O q = some b → p = q) (h : ∀ p b, O' p = some b → O p = some b) : Moves O O' :=
  ⟨fun p q b hp hq => hinj p q b (h p b hp) (h q b hq), fun p b hp => ⟨p, h p b hp⟩⟩

theorem astore_run (hs : St A M L w H ev ea O) {t : TypeId} {m : Nat} (ht : tcells P t = some m) {u v : Value} {p x : AV} {K : List AObj → Prop} (h : astore m p x H K) (hu : Rep M L u p) (hv : Rep M L v x) :
    ∃ w' H' O', (Instr.storeAt t u v).run P w = .ok () w' ∧ K H' ∧ St A M L w' H' ev ea O' ∧ Ext A M w M w' := by
  unfold astore at h
  split at h <;> try exact h.elim
  rename_i id off
  cases hu with
  | ptr b _ _ hl =>
  split at h <;> try exact h.elim
  rename_i es hid
  obtain ⟨hval, hlen, hle, hone, hbl, hK⟩ := h
  obtain ⟨cs, e, h1, h2, h3⟩ := hs.obj id _ b hid hl
  have hvc := hv.vcells hval
  have hvl := hvc.length
  have hcl := h2.length
  obtain ⟨i, hi, him⟩ := Option.map_eq_some_iff.1 ht
  have hsz : (sizeOf t).run P w = .ok m w := by simp [sizeOf, typeInfo, hi, him]
  have hst := run_storeCells_at P b off e v.cells.toList 0 cs w h1 (by simp at hcl ⊢; simp at hvl; omega) (hvc.oneCell hone)
  have hrun : (Instr.storeAt t (.pointer (some ⟨b, off, none⟩)) v).run P w = .ok () (w.setRow b (asplice cs.toList off v.cells.toList).toArray) := by
    simp only [Instr.storeAt, Instr.sureAddr, storeVar, Sem.run_bind, Sem.run_pure, Result.andThen_ok, hsz, ne_eq]
    rw [if_neg (by simp at hvl; omega)]
    simpa [asplice] using hst
  let O' : Pos → Option Nat := fun q => match q with
    | .t t => O (.t t)
    | .c id' j => if id' = id ∧ off ≤ j ∧ j < off + m then none else O (.c id' j)
  have hO : ∀ q b, O' q = some b → O q = some b := by
    intro q b hq
    cases q with
    | t t => exact hq
    | c id' j =>
      simp only [O'] at hq
      split at hq
      · cases hq
      · exact hq
  have hsp : off + (x.cells.map AV.unown).length ≤ es.length := by simp; omega
  have hsv : off + v.cells.toList.length ≤ cs.toList.length := by omega
  obtain ⟨g1, g2⟩ := hs.write (cs' := (asplice cs.toList off v.cells.toList).toArray) (es' := asplice es off (x.cells.map AV.unown)) (O' := O') hid hl h1
    (by simpa using hvc.map_unown.splice off h2)
    (by
      have hst := hs.strat id _ hid
      simp only [AObj.blw] at hst
      unfold asplice
      exact belowL_append.2 ⟨belowL_take hst, belowL_append.2 ⟨hbl, belowL_drop hst⟩⟩)
    (Moves.sub hs.oinj hO) hs.env hs.spt (by
    intro j
    have e1 : ((asplice cs.toList off v.cells.toList).toArray)[j]? = (asplice cs.toList off v.cells.toList)[j]? := by simp
    rw [e1, asplice_get _ _ _ hsv, List.getD_eq_getElem?_getD, asplice_get _ _ _ hsp]
    simp only [List.length_map]
    have e2 : v.cells.toList.length = x.cells.length := hvl
    rw [e2, hlen]
    by_cases hj : off ≤ j ∧ j < off + m
    · simp only [hj, and_self, if_true]
      have : O' (.c id j) = none := by simp [O', hj]
      rw [this]
      refine Spare.free ?_
      intro own xs hh
      rw [List.getElem?_map] at hh
      cases hx : x.cells[j - off]? with
      | none => simp [hx] at hh
      | some y => simp [hx] at hh; exact AV.unown_free y own xs hh
    · simp only [hj, if_false]
      have : O' (.c id j) = O (.c id j) := by simp only [O']; rw [if_neg (by intro h'; exact hj h'.2)]
      rw [this]
      have h0 := hs.spc id j
      have e3 : cellV L w id j = (cs.toList[j]?).getD undef := by
        unfold cellV; simp [hl, World.cell?, h1]
      have e4 : cellA H id j = (es[j]?).getD .any := by
        unfold cellA; simp [hid, List.getD_eq_getElem?_getD]
      rw [e3, e4] at h0
      exact h0)
    (by intro id' j hne; simp [O', hne])
  exact ⟨_, _, _, hrun, hK, g1, g2⟩

/-- A cell gives up what it owns. -/
theorem St.unownCell (hs : St A M L w H ev ea O) {id b off : Nat} {es : List AV} (hid : H[id]? = some (.cells es)) (hl : L[id]? = some b) (hoff : off < es.length) :
    St A M L w (H.set id (.cells (es.set off (es.getD off .any).unown))) ev ea (updP O (.c id off) none) := by
  obtain ⟨cs, e, h1, h2, h3⟩ := hs.obj id _ b hid hl
  have hcl := h2.length
  have hO : ∀ q b, updP O (.c id off) none q = some b → O q = some b := by
    intro q b hq
    simp only [updP] at hq
    split at hq
    · cases hq
    · exact hq
  have hgetD : es.getD off .any = es[off] := by rw [List.getD_eq_getElem?_getD, List.getElem?_eq_getElem hoff]; rfl
  have hrep : RepL M L cs.toList (es.set off (es.getD off .any).unown) := by
    have hg := (h2.getD off).unown
    have := h2.set hg off
    have hlc : off < cs.toList.length := by omega
    have e0 : cs.toList.set off (cs.toList.getD off undef) = cs.toList := by
      rw [List.getD_eq_getElem?_getD, List.getElem?_eq_getElem hlc]
      exact List.set_getElem_self hlc
    rwa [e0] at this
  obtain ⟨g1, g2⟩ := hs.write (cs' := cs) (es' := es.set off (es.getD off .any).unown) (O' := updP O (.c id off) none) hid hl h1 hrep (by
      have hst := hs.strat id _ hid
      simp only [AObj.blw] at hst
      rw [belowL_iff] at hst ⊢
      intro y hy
      rcases List.mem_or_eq_of_mem_set hy with h' | rfl
      · exact hst y h'
      · have hb := hst es[off] (List.getElem_mem hoff)
        rw [hgetD]
        revert hb
        cases es[off] <;> simp [AV.unown, AV.blw]) (Moves.sub hs.oinj hO) hs.env (fun t => by simpa [updP] using hs.spt t) (fun j => by
      by_cases hj : j = off
      · subst hj
        have e1 : (es.set j (es.getD j .any).unown).getD j .any = (es.getD j .any).unown := by
          rw [List.getD_eq_getElem?_getD, List.getElem?_set_self hoff]; rfl
        rw [e1]
        simp only [updP, if_true]
        exact Spare.free (AV.unown_free _)
      · have e1 : (es.set off (es.getD off .any).unown).getD j .any = es.getD j .any := by
          rw [List.getD_eq_getElem?_getD, List.getElem?_set_ne (fun e => hj e.symm), List.getD_eq_getElem?_getD]
        rw [e1]
        have h0 := hs.spc id j
        have e3 : cellV L w id j = (cs[j]?).getD undef := by unfold cellV; simp [hl, World.cell?, h1]
        have e4 : cellA H id j = es.getD j .any := by unfold cellA; simp [hid]
        rw [e3, e4] at h0
        simpa [updP, hj] using h0) (fun id' j hne => by simp [updP, hne])
  rwa [setRow_self w b cs e (0, 0) h1] at g1

/-- A slot's list moves into a cell. -/
def aputCell (p x : AV) (H : List AObj) (K : List AObj → Prop) : Prop :=
  match p with
  | .ptr id off => match H[id]? with
    | some (.cells es) => off < es.length ∧ x.one = true ∧ x.blw (id + 1) = true ∧ K (H.set id (.cells (es.set off x)))
    | _ => False
  | _ => False

theorem aputCell_run (hs : St A M L w H ev ea O) {t : TypeId} (ht : tcells P t = some 1) {u v : Value} {p x : AV} {K : List AObj → Prop} (h : aputCell p x H K) (hu : Rep M L u p) (s : Nat) (hev : ev s = v) (hea : ea s = x) :
    ∃ w' H' O', (Instr.storeAt t u v).run P w = .ok () w' ∧ K H' ∧ St A M L w' H' ev (upd ea s x.unown) O' ∧ Ext A M w M w' := by
  unfold aputCell at h
  split at h <;> try exact h.elim
  rename_i id off
  cases hu with
  | ptr b _ _ hl =>
  split at h <;> try exact h.elim
  rename_i es hid
  obtain ⟨hoff, hone, hbl, hK⟩ := h
  obtain ⟨cs, e, h1, h2, h3⟩ := hs.obj id _ b hid hl
  have hv : Rep M L v x := by have := hs.env s; rwa [hev, hea] at this
  have hcl := h2.length
  have hv1 : v.oneCell' = true := hv.oneCell hone
  have hvc : v.cells = #[v] := by cases v <;> first | rfl | simp [Value.oneCell'] at hv1
  obtain ⟨i, hi, him⟩ := Option.map_eq_some_iff.1 ht
  have hsz : (sizeOf t).run P w = .ok 1 w := by simp [sizeOf, typeInfo, hi, him]
  have hlc : off < cs.toList.length := by omega
  have hst := run_storeCells_at P b off e [v] 0 cs w h1 (by simp at hlc ⊢; omega) (by simpa using hv1)
  have hset : cs.toList.take off ++ [v] ++ cs.toList.drop (off + 1) = cs.toList.set off v := by
    rw [List.set_eq_take_append_cons_drop, if_pos hlc]; simp
  have hrun : (Instr.storeAt t (.pointer (some ⟨b, off, none⟩)) v).run P w = .ok () (w.setRow b (cs.toList.set off v).toArray) := by
    simp only [Instr.storeAt, Instr.sureAddr, storeVar, Sem.run_bind, Sem.run_pure, Result.andThen_ok, hsz, ne_eq, hvc]
    rw [if_neg (by simp)]
    rw [← hset]
    simpa using hst
  -- the slot forgets, the cell takes over
  have hput := hs.put0 s (v := v) (x := x.unown) hv.unown (AV.unown_free x)
  have hevs : upd ev s v = ev := by funext t'; simp only [upd]; split; rename_i e0; rw [e0, hev]; rfl
  rw [hevs] at hput
  let O' : Pos → Option Nat := fun q => if q = .c id off then O (.t s) else updP O (.t s) none q
  have hinj : Moves O O' := by
    refine ⟨fun q r b hq hr => ?_, fun q b hq => ?_⟩
    · simp only [O', updP] at hq hr
      split at hq <;> split at hr
      · simp_all
      · split at hr
        · cases hr
        · rename_i n1 n2; exact absurd (hs.oinj _ _ b hr hq) n2
      · split at hq
        · cases hq
        · rename_i n1 n2; exact absurd (hs.oinj _ _ b hq hr) (by assumption)
      · split at hq
        · cases hq
        · split at hr
          · cases hr
          · exact hs.oinj _ _ b hq hr
    · simp only [O', updP] at hq
      split at hq
      · exact ⟨_, hq⟩
      · split at hq
        · cases hq
        · exact ⟨_, hq⟩
  obtain ⟨g1, g2⟩ := St.write (h := hs) (cs' := (cs.toList.set off v).toArray) (es' := es.set off x) (ea' := upd ea s x.unown) (O' := O') hid hl h1 (by simpa using h2.set hv off) (by
      have hst := hs.strat id _ hid
      simp only [AObj.blw] at hst
      rw [belowL_iff] at hst ⊢
      intro y hy
      rcases List.mem_or_eq_of_mem_set hy with h' | rfl
      · exact hst y h'
      · exact hbl) hinj hput.env (fun t' => by simpa [O', updP] using hput.spt t') (fun j => by
      by_cases hj : j = off
      · subst hj
        have e1 : ((cs.toList.set j v).toArray)[j]? = some v := by rw [List.getElem?_toArray, List.getElem?_set_self hlc]
        have e2 : (es.set j x).getD j .any = x := by rw [List.getD_eq_getElem?_getD, List.getElem?_set_self hoff]; rfl
        rw [e1, e2]
        have := hs.spt s
        rw [hev, hea] at this
        simpa [O'] using this
      · have e1 : ((cs.toList.set off v).toArray)[j]? = cs[j]? := by
          simp [List.getElem?_set_ne (fun e => hj e.symm)]
        have e2 : (es.set off x).getD j .any = es.getD j .any := by rw [List.getD_eq_getElem?_getD, List.getElem?_set_ne (fun e => hj e.symm), List.getD_eq_getElem?_getD]
        rw [e1, e2]
        have h0 := hs.spc id j
        have e3 : cellV L w id j = (cs[j]?).getD undef := by unfold cellV; simp [hl, World.cell?, h1]
        have e4 : cellA H id j = es.getD j .any := by unfold cellA; simp [hid]
        rw [e3, e4] at h0
        simpa [O', updP, hj] using h0) (fun id' j hne => by simp [O', updP, hne])
  exact ⟨_, _, _, hrun, hK, g1, g2⟩

/-! ### Appends -/
theorem run_storeCells_fr (P : Program) (g o : Nat) (t : TypeId) (fr : Nat × Nat) : ∀ (vs : List Value) (i : Nat) (cur : Array Value) (w : World), w.heap[g]? = some (.cells cur t fr) → okfr fr cur.size → o + i + vs.length ≤ cur.size → (∀ v ∈ vs, v.oneCell' = true) →
    (storeCells ⟨g, o, none⟩ vs i).run P w = .ok () (w.setRow g (asplice cur.toList (o + i) vs).toArray)
  | [], i, cur, w, hg, _, _, _ => by
    simp only [storeCells, asplice, List.length_nil, Nat.add_zero, List.nil_append, List.take_append_drop, Array.toArray_toList]
    rw [setRow_self w g cur t fr hg]
    rfl
  | v :: rest, i, cur, w, hg, hf, hl, h1 => by
    have hi : o + i < cur.size := by simp at hl; omega
    have hadd : (⟨g, o, none⟩ : Addr).add i = ⟨g, o + i, none⟩ := Addr.add_lit _ _ _
    have hcell : w.cell? ⟨g, o + i, none⟩ = some cur[o + i] := by simp [World.cell?, hg, hi]
    have hfro : w.frozen? ⟨g, o + i, none⟩ = false := by
      have := hf (o + i) hi
      simp only [World.frozen?, hg]
      cases h : (decide (fr.1 ≤ o + i) && decide (o + i < fr.2)) with
      | false => rfl
      | true => simp at h; exact absurd h this
    have hst : (store ((⟨g, o, none⟩ : Addr).add i) v).run P w = .ok () (w.setRow g (cur.setIfInBounds (o + i) v)) := by
      rw [hadd, run_store P w _ v _ (h1 v (by simp)), hcell]
      simp [hfro, setCell_eq_setRow w g (o + i) cur t fr v hg]
    have ih := run_storeCells_fr P g o t fr rest (i + 1) (cur.setIfInBounds (o + i) v) (w.setRow g (cur.setIfInBounds (o + i) v)) (setRow_heap w g cur _ t _ hg) (by simpa using hf) (by simp at hl ⊢; omega) (fun x hx => h1 x (by simp [hx]))
    simp only [storeCells, Sem.run_bind, hst, Result.andThen_ok, ih, setRow_setRow]
    congr 3
    apply List.ext_getElem?
    intro j
    rw [asplice_get _ _ _ (by simp at hl ⊢; omega), asplice_get _ _ _ (by simpa using hl)]
    simp only [Array.toList_setIfInBounds, List.length_cons]
    by_cases h2 : j = o + i
    · subst h2
      rw [if_neg (by omega), if_pos (by omega), List.getElem?_set_self (by simpa using hi)]
      simp
    · by_cases h3 : o + i < j ∧ j < o + i + (rest.length + 1)
      · rw [if_pos (by omega), if_pos (by omega), show j - (o + i) = (j - (o + (i + 1))) + 1 by omega]
        simp
      · rw [if_neg (by omega), if_neg (by omega), List.getElem?_set_ne (by omega)]

theorem run_append_room_fr {t ty e e' : TypeId} {i : TypeInfo} (ht : P.underlying t = some (.slice e)) (hi : P.info? e = some i) (w : World)
    (g o sLen sCap : Nat) (cur : Array Value) (fr : Nat × Nat) (hg : w.heap[g]? = some (.cells cur e' fr)) (hfr : okfr fr cur.size)
    (a : Addr) (m c : Nat) (news : List Value) (hl : news.length = m * i.size) (hnews : ∀ j u, news[j]? = some u → w.cell? (a.add j) = some u) (h1 : ∀ u ∈ news, u.oneCell' = true)
    (hroom : sLen + m ≤ sCap) (hfit : o + sLen * i.size + news.length ≤ cur.size) :
    (Builtin.append_ #[t, t] ty #[.slice (some ⟨g, o, none⟩) sLen sCap, .slice (some a) m c]).run P w =
      .ok (.slice (some ⟨g, o, none⟩) (sLen + m) sCap) (w.setRow g (asplice cur.toList (o + sLen * i.size) news).toArray) := by
  have hf := run_firstCells_some (P := P) w i.size m a m c news hl hnews
  have hst := run_storeCells_fr P g (o + sLen * i.size) e' fr news 0 cur w hg hfr (by simpa using hfit) h1
  simp only [Nat.add_zero] at hst
  simp [Builtin.append_, run_underlying ht, sizeOf, typeInfo, hi, Builtin.lenOf, hroom, hf, Addr.add_lit, hst]

/-- Nothing is appended. -/
theorem run_append_nothing {t ty e : TypeId} {i : TypeInfo} (ht : P.underlying t = some (.slice e)) (hi : P.info? e = some i) (w : World) (b : Option Addr) (n c : Nat) (hnc : n ≤ c) (b' : Option Addr) (c' : Nat) :
    (Builtin.append_ #[t, t] ty #[.slice b n c, .slice b' 0 c']).run P w = .ok (.slice b n c) w := by
  have hf : (Builtin.firstCells i.size 0 (.slice b' 0 c')).run P w = .ok #[] w := by
    cases b' with
    | none => exact run_firstCells_none w _ _ _ _
    | some a => exact run_firstCells_some w i.size 0 a 0 c' [] (by simp) (by simp)
  cases b with
  | none => simp [Builtin.append_, run_underlying ht, sizeOf, typeInfo, hi, Builtin.lenOf, hnc, hf]
  | some a => simp [Builtin.append_, run_underlying ht, sizeOf, typeInfo, hi, Builtin.lenOf, hnc, hf, storeCells]

/-- The list that is appended to. -/
def alist (esz : Nat) : AV → Option (List AV)
  | .nils => some []
  | .lst own xs => if own = esz then some xs else none
  | _ => none
/-- A list that is read. -/
def rlist : AV → Option (List AV)
  | .nils => some []
  | .lst _ xs => some xs
  | _ => none
def okE (esz : Nat) (ys : List AV) : Prop := ∀ y ∈ ys, y.cells.length = esz ∧ y.cells.all AV.one = true

/-- The state behind an append in place: the new cells are known from now on. -/
def Mem.addAt (M : Mem) (b off : Nat) (cs : List Value) : Mem := fun b' o => if b' = b ∧ off ≤ o ∧ o < off + cs.length then cs[o - off]? else M b' o

theorem St.inPlace (hs : St A M L w H ev ea O) {p : Pos} {b : Nat} (hp : O p = some b) {cur : Array Value} {e : TypeId} {fr : Nat × Nat} (hg : w.heap[b]? = some (.cells cur e fr)) {off : Nat} {news : List Value}
    (hfit : off + news.length ≤ cur.size) (hnone : ∀ k, k < news.length → M b (off + k) = none)
    {ea' : Nat → AV} (henv : ∀ t, Rep M L (ev t) (ea' t)) (hspt : ∀ t, Spare M w (ev t) (ea' t) (updP O p none (.t t))) (hspc : ∀ id j, Spare M w (cellV L w id j) (cellA H id j) (updP O p none (.c id j))) :
    St A (M.addAt b off news) L (w.setRow b (asplice cur.toList off news).toArray) H ev ea' (updP O p none) ∧ Ext A M w (M.addAt b off news) (w.setRow b (asplice cur.toList off news).toArray) ∧ (M.addAt b off news).row b off news := by
  have hbL : b ∉ L := hs.osep p b hp
  have hsz : (w.setRow b (asplice cur.toList off news).toArray).heap.size = w.heap.size := by simp [World.setRow]
  have hoth : ∀ k, k ≠ b → (w.setRow b (asplice cur.toList off news).toArray).heap[k]? = w.heap[k]? := fun k hk => setRow_other w b k _ hk
  have hnew := setRow_heap w b cur (asplice cur.toList off news).toArray e fr hg
  have hsub : M.sub (M.addAt b off news) := by
    intro b' o v hv
    unfold Mem.addAt
    split
    · rename_i h
      obtain ⟨rfl, h1, h2⟩ := h
      have := hnone (o - off) (by omega)
      rw [show off + (o - off) = o by omega, hv] at this
      cases this
    · exact hv
  have hMo : ∀ k, k ≠ b → ∀ o, (M.addAt b off news) k o = M k o := by
    intro k hk o
    unfold Mem.addAt
    rw [if_neg (fun h => hk h.1)]
  have hown : ∀ q k, updP O p none q = some k → k ≠ b := by
    intro q k hq hk
    subst hk
    simp only [updP] at hq
    split at hq
    · cases hq
    · rename_i n; exact n (hs.oinj _ _ _ hq hp)
  have hO : ∀ q k, updP O p none q = some k → O q = some k := by
    intro q k hq
    simp only [updP] at hq
    split at hq
    · cases hq
    · exact hq
  have hsp2 : off + news.length ≤ cur.toList.length := by simpa using hfit
  refine ⟨{ len := hs.len, nodup := hs.nodup, env := fun t => (henv t).mono hsub (List.prefix_refl _), mem := ?_, obj := ?_, strat := hs.strat, lt := ?_, spt := ?_, spc := ?_, oinj := fun q r k hq hr => hs.oinj q r k (hO q k hq) (hO r k hr), osep := fun q k hq => hs.osep q k (hO q k hq), olt := ?_, La := hs.La, Oa := fun q k hq => hs.Oa q k (hO q k hq), fresh := ?_ }, ?_, ?_⟩
  · intro b' o v hv
    by_cases hb : b' = b
    · subst hb
      simp only [World.cell?, hnew]
      have e1 : ((asplice cur.toList off news).toArray)[o]? = (asplice cur.toList off news)[o]? := by simp
      simp only [Option.isSome_none, Bool.false_eq_true, if_false]
      rw [e1, asplice_get _ _ _ hsp2]
      unfold Mem.addAt at hv
      split at hv
      · rename_i h; rw [if_pos h.2]; exact hv
      · rename_i h
        rw [if_neg (fun h' => h ⟨rfl, h'⟩)]
        have := hs.mem _ o v hv
        simpa [World.cell?, hg] using this
    · rw [hMo b' hb o] at hv
      have := hs.mem b' o v hv
      simp only [World.cell?] at this ⊢
      rw [hoth b' hb]; exact this
  · intro id o k ho hk
    have hkb : k ≠ b := by rintro rfl; exact hbL (List.mem_of_getElem? hk)
    exact (hs.obj id o k ho hk).mono hsub (List.prefix_refl _) (hoth k hkb) (hMo k hkb)
  · intro k hk; rw [hsz]; exact hs.lt k hk
  · intro t
    exact (hspt t).mono fun k hk => ⟨hoth k (hown _ k hk), hMo k (hown _ k hk)⟩
  · intro id j
    have e1 : cellV L (w.setRow b (asplice cur.toList off news).toArray) id j = cellV L w id j := by
      unfold cellV
      split
      · rename_i k hk
        have hkb : k ≠ b := by rintro rfl; exact hbL (List.mem_of_getElem? hk)
        simp only [World.cell?]
        rw [hoth k hkb]
      · rfl
    rw [e1]
    exact (hspc id j).mono fun k hk => ⟨hoth k (hown _ k hk), hMo k (hown _ k hk)⟩
  · intro q k hq; rw [hsz]; exact hs.olt q k (hO q k hq)
  · intro k hk; rw [hsz] at hk; exact hs.fresh k hk
  · exact ⟨hsub, by rw [hsz]; exact Nat.le_refl _, rfl, rfl, rfl, fun k hk hA => ⟨hoth k (fun e0 => hA (e0 ▸ hs.Oa p b hp)), hMo k (fun e0 => hA (e0 ▸ hs.Oa p b hp))⟩⟩
  · intro j v hv
    have hj := get_lt hv
    show Mem.addAt M b off news b (off + j) = some v
    unfold Mem.addAt
    rw [if_pos ⟨rfl, by omega, by omega⟩, show off + j - off = j by omega]
    exact hv

/-- A new row of the call's own. -/
theorem St.newRow (hs : St A M L w H ev ea O) (e : TypeId) {esz need cap : Nat} (h0 : 0 < esz) {rw rest : List Value} {zs : List AV} (hl : rw.length = need * esz) (hc : rw.length + rest.length = cap * esz) (hcap : cap < 9223372036854775808) (hnc : need ≤ cap) (hn : 0 < need)
    (hz : zs.length = need) (hx : ∀ y ∈ zs, y.cells.length = esz) (hr : RepL M L rw (flat zs)) (cs : Array Value) (hcs : cs.toList = rw ++ rest) :
    ∃ M', Rep M' L (.slice (some ⟨w.heap.size, 0, none⟩) need cap) (.lst esz zs) ∧ Spare M' { w with heap := w.heap.push (.cells cs e) } (.slice (some ⟨w.heap.size, 0, none⟩) need cap) (.lst esz zs) (some w.heap.size) ∧
      St A M' L { w with heap := w.heap.push (.cells cs e) } H ev ea O ∧ Ext A M w M' { w with heap := w.heap.push (.cells cs e) } := by
  obtain ⟨g1, g2, g3⟩ := hs.addBlock cs e (0, 0) rw (fun j v hv => by
    have : cs.toList[j]? = some v := by rw [hcs, List.getElem?_append_left (get_lt hv)]; exact hv
    simpa using this)
  refine ⟨_, ?_, ?_, g1, g2⟩
  · subst hz
    exact .lst _ _ _ _ esz rw zs h0 hx hn hnc hcap (hr.mono g2.msub (List.prefix_refl _)) g3
  · unfold Spare
    simp only [Nat.ne_of_gt h0, if_false]
    refine ⟨hx, .inr ⟨_, 0, need, cap, cs, e, (0, 0), rfl, rfl, heap_push_new w _, okfr_zero _, ?_, ?_⟩⟩
    · have : cs.size = cap * esz := by rw [← Array.length_toList, hcs, List.length_append]; exact hc
      omega
    · intro k hk _
      simp only [Mem.add, if_true, Nat.zero_add]
      exact List.getElem?_eq_none (by omega)

theorem lst_inv {bs : Option Addr} {n c own : Nat} {xs : List AV} (h : Rep M L (.slice bs n c) (.lst own xs)) :
    n = xs.length ∧ ((xs = [] ∧ n = 0) ∨ ∃ b off cs, bs = some ⟨b, off, none⟩ ∧ RepL M L cs (flat xs) ∧ M.row b off cs) := by
  generalize hv : Value.slice bs n c = v at h
  cases h with
  | lst0 a c _ hc => cases hv; exact ⟨rfl, .inl ⟨rfl, rfl⟩⟩
  | lst b off c _ e cs _ he hx hn hle hc hr hm => cases hv; exact ⟨rfl, .inr ⟨b, off, cs, rfl, hr, hm⟩⟩

def aappend (esz bytes : Nat) (s x : AV) (φ : List AV → Prop) : Prop :=
  match alist esz s, rlist x with
  | some xs, some ys => (xs.length + ys.length) * bytes ≤ 140737488355328 ∧ okE esz ys ∧ φ (xs ++ ys)
  | _, _ => False

def IX.slot : IX → Option Nat
  | .t n => some n
  | .c _ => none
def unslot (ea : Nat → AV) (s : Option Nat) : Nat → AV := match s with | some d => upd ea d (ea d).unown | none => ea

theorem alist_rep {esz : Nat} {s : AV} {xs : List AV} (hs : alist esz s = some xs) {u : Value} (hu : Rep M L u s) : Rep M L u (.lst esz xs) ∧ (s = .nils ∧ u = .slice none 0 0 ∨ s = .lst esz xs) := by
  unfold alist at hs
  split at hs
  · cases hs; cases hu; exact ⟨.lst0 _ _ _ (by decide), .inl ⟨rfl, rfl⟩⟩
  · rename_i own ys
    split at hs
    · rename_i e; cases hs; subst e; exact ⟨hu, .inr rfl⟩
    · cases hs
  · cases hs

theorem rlist_form {esz : Nat} {x : AV} {ys : List AV} (hx : rlist x = some ys) (hok : okE esz ys) {u : Value} (hu : Rep M L u x) :
    (ys = [] ∧ ∃ b c, u = .slice b 0 c) ∨ (0 < ys.length ∧ ∃ b off c news, u = .slice (some ⟨b, off, none⟩) ys.length c ∧ RepL M L news (flat ys) ∧ M.row b off news ∧ news.length = ys.length * esz) := by
  have key : ∀ own, Rep M L u (.lst own ys) → (ys = [] ∧ ∃ b c, u = .slice b 0 c) ∨ (0 < ys.length ∧ ∃ b off c news, u = .slice (some ⟨b, off, none⟩) ys.length c ∧ RepL M L news (flat ys) ∧ M.row b off news ∧ news.length = ys.length * esz) := by
    intro own h
    cases h with
    | lst0 a c _ hc => exact .inl ⟨rfl, _, _, rfl⟩
    | lst b off c _ e cs _ he hx hn hle hc hr hm =>
      refine .inr ⟨hn, b, off, c, cs, rfl, hr, hm, ?_⟩
      rw [hr.length, flat_length ys esz (fun y hy => (hok y hy).1)]
  unfold rlist at hx
  split at hx
  · cases hx; cases hu; exact .inl ⟨rfl, _, _, rfl⟩
  · rename_i own zs; cases hx; exact key own hu
  · cases hx

theorem flat_append (xs ys : List AV) : flat (xs ++ ys) = flat xs ++ flat ys := by simp [flat]
theorem flat_one {ys : List AV} {esz : Nat} (h : okE esz ys) : (flat ys).all AV.one = true := by
  rw [List.all_eq_true]
  intro x hx
  simp only [flat, List.mem_flatMap] at hx
  obtain ⟨y, hy, hxy⟩ := hx
  exact List.all_eq_true.1 (h y hy).2 x hxy

theorem aappend_run (hs : St A M L w H ev ea O) {t ty e : TypeId} {i : TypeInfo} {z : Value} {esz bytes : Nat} (ht : P.underlying t = some (.slice e)) (hi : P.info? e = some i) (hz : i.zero = some z) (hsz : i.size = esz) (hby : i.bytes = bytes) (hzs : z.cells.size = esz) (h0 : 0 < esz) (hb0 : 0 < bytes)
    {u v : Value} {s x : AV} {φ : List AV → Prop} (h : aappend esz bytes s x φ) (slot : Option Nat) (hu : Rep M L u s) (hsl : match slot with | some d => ev d = u ∧ ea d = s | none => s = .nils) (hv : Rep M L v x) :
    ∃ r w' M' O' ob zs, (Builtin.append_ #[t, t] ty #[u, v]).run P w = .ok r w' ∧ φ zs ∧ Rep M' L r (.lst esz zs) ∧ Spare M' w' r (.lst esz zs) ob ∧ St A M' L w' H ev (unslot ea slot) O' ∧ Ext A M w M' w' ∧
      (∀ q b, ob = some b → O' q ≠ some b) ∧ (∀ b, ob = some b → b ∉ L ∧ b < w'.heap.size ∧ A b) := by
  unfold aappend at h
  split at h <;> try exact h.elim
  rename_i xs ys hxs hys
  obtain ⟨hbound, hok, hφ⟩ := h
  obtain ⟨hul, hcase⟩ := alist_rep hxs hu
  have hesz0 : esz ≠ 0 := by omega
  -- the slot forgets what it owned
  have hforget : ∃ O1 ob1, St A M L w H ev (unslot ea slot) O1 ∧ Spare M w u (.lst esz xs) ob1 ∧ (∀ q b, ob1 = some b → O1 q ≠ some b) ∧ (∀ b, ob1 = some b → b ∉ L ∧ b < w.heap.size ∧ A b ∧ ∃ d, slot = some d ∧ O (.t d) = some b ∧ O1 = updP O (.t d) none) := by
    have hnil : u = .slice none 0 0 → s = .nils → Spare M w u (.lst esz xs) none := by
      rintro rfl rfl
      simp [alist] at hxs; subst hxs
      simp only [Spare, hesz0, if_false]
      exact ⟨by simp, .inl ⟨trivial, none, 0, rfl⟩⟩
    cases slot with
    | none =>
      simp only at hsl
      subst hsl
      cases hu
      exact ⟨O, none, hs, hnil rfl rfl, (by intro q b e; cases e), (by intro b e; cases e)⟩
    | some d =>
      simp only at hsl
      have hput := hs.put0 d (v := u) (x := (ea d).unown) (by rw [hsl.2]; exact hu.unown) (AV.unown_free _)
      have hevs : upd ev d u = ev := by funext t'; simp only [upd]; split; rename_i e0; rw [e0, hsl.1]; rfl
      rw [hevs] at hput
      rcases hcase with ⟨h1, h2⟩ | h1
      · exact ⟨_, none, hput, hnil h2 h1, (by intro q b e; cases e), (by intro b e; cases e)⟩
      · refine ⟨_, O (.t d), hput, ?_, ?_, ?_⟩
        · have := hs.spt d
          rwa [hsl.1, hsl.2, h1] at this
        · intro q b hb hq
          simp only [updP] at hq
          split at hq
          · cases hq
          · rename_i n; exact n (hs.oinj _ _ b hq hb)
        · intro b hb
          exact ⟨hs.osep _ b hb, hs.olt _ b hb, hs.Oa _ b hb, d, rfl, hb, rfl⟩
  obtain ⟨O1, ob1, hs1, hsp1, hd1, hd2⟩ := hforget
  have hxl : ∀ y ∈ xs, y.cells.length = esz := by
    have := hsp1
    simp only [Spare, hesz0, if_false] at this
    exact this.1
  have hform : ∃ bs n c, u = .slice bs n c ∧ n = xs.length ∧ n ≤ c ∧ c < 9223372036854775808 := by
    cases hul with
    | lst0 a c _ hc => exact ⟨a, 0, c, rfl, rfl, Nat.zero_le _, hc⟩
    | lst b off c _ e cs _ he hx hn hle hc hr hm => exact ⟨_, _, c, rfl, rfl, hle, hc⟩
  rcases rlist_form hys hok hv with ⟨rfl, b', c', rfl⟩ | ⟨hm0, b2, o2, c2, news, rfl, hnr, hnm, hnl⟩
  · -- nothing is appended
    obtain ⟨bs, n, c, rfl, hn, hnc, hc⟩ := hform
    refine ⟨_, w, M, O1, ob1, xs ++ [], run_append_nothing ht hi w bs n c hnc b' c', hφ, by simpa using hul, by simpa using hsp1, hs1, Ext.refl A M w, hd1, fun b hb => ⟨(hd2 b hb).1, (hd2 b hb).2.1, (hd2 b hb).2.2.1⟩⟩
  · have hnews : ∀ j u, news[j]? = some u → w.cell? ((⟨b2, o2, none⟩ : Addr).add j) = some u := row_cells hnm hs.mem
    have hone := hnr.oneCell (flat_one hok)
    have hlen : (xs.length + ys.length) ≤ 140737488355328 := Nat.le_trans (Nat.le_mul_of_pos_right _ hb0) hbound
    have hzl : ∀ y ∈ xs ++ ys, y.cells.length = esz := by
      intro y hy
      rcases List.mem_append.1 hy with h' | h'
      · exact hxl y h'
      · exact (hok y h').1
    -- a new row
    have grow : ∀ (olds : List Value) (oldCap : Nat) (w' : World), RepL M L olds (flat xs) → olds.length = xs.length * esz → w' = w.drew.alloc (.cells (olds.toArray ++ news.toArray ++ Builtin.zeroCells z.cells (grownCap w (xs.length + ys.length) oldCap e - (xs.length + ys.length))) e) →
        (Builtin.append_ #[t, t] ty #[u, .slice (some ⟨b2, o2, none⟩) ys.length c2]).run P w = .ok (.slice (some ⟨w.heap.size, 0, none⟩) (xs.length + ys.length) (grownCap w (xs.length + ys.length) oldCap e)) w' →
        ∃ r w' M' O' ob zs, (Builtin.append_ #[t, t] ty #[u, .slice (some ⟨b2, o2, none⟩) ys.length c2]).run P w = .ok r w' ∧ φ zs ∧ Rep M' L r (.lst esz zs) ∧ Spare M' w' r (.lst esz zs) ob ∧ St A M' L w' H ev (unslot ea slot) O' ∧ Ext A M w M' w' ∧
          (∀ q b, ob = some b → O' q ≠ some b) ∧ (∀ b, ob = some b → b ∉ L ∧ b < w'.heap.size ∧ A b) := by
      intro olds oldCap w' hor hol hw' hrun
      have hge := grownCap_ge w (xs.length + ys.length) oldCap e
      have hle := grownCap_le_maxLen w (xs.length + ys.length) oldCap e (by simp only [maxLen]; omega)
      simp only [maxLen] at hle
      have hd := hs1.drew
      obtain ⟨M', k1, k2, k3, k4⟩ := hd.newRow e (need := xs.length + ys.length) (cap := grownCap w (xs.length + ys.length) oldCap e) h0 (rw := olds ++ news) (rest := (Builtin.zeroCells z.cells (grownCap w (xs.length + ys.length) oldCap e - (xs.length + ys.length))).toList) (zs := xs ++ ys)
        (by rw [List.length_append, hol, hnl, Nat.add_mul]) (by
          have hzc : (Builtin.zeroCells z.cells (grownCap w (xs.length + ys.length) oldCap e - (xs.length + ys.length))).toList.length = (grownCap w (xs.length + ys.length) oldCap e - (xs.length + ys.length)) * esz := by
            rw [Array.length_toList, size_zeroCells, hzs]
          rw [List.length_append, hol, hnl, hzc, ← Nat.add_mul, ← Nat.add_mul]
          congr 1; omega) (by omega) hge (by omega) (by simp) hzl (by rw [flat_append]; exact hor.append hnr)
        (olds.toArray ++ news.toArray ++ Builtin.zeroCells z.cells (grownCap w (xs.length + ys.length) oldCap e - (xs.length + ys.length))) (by simp)
      have hext : Ext A M w M' { { w with drawn := w.drawn + 1 } with heap := w.heap.push (.cells (olds.toArray ++ news.toArray ++ Builtin.zeroCells z.cells (grownCap w (xs.length + ys.length) oldCap e - (xs.length + ys.length))) e) } := Ext.drew.trans k4
      have hww : w' = { { w with drawn := w.drawn + 1 } with heap := w.heap.push (.cells (olds.toArray ++ news.toArray ++ Builtin.zeroCells z.cells (grownCap w (xs.length + ys.length) oldCap e - (xs.length + ys.length))) e) } := hw'
      refine ⟨_, _, M', O1, some w.heap.size, xs ++ ys, hrun, hφ, k1, by rw [hww]; exact k2, by rw [hww]; exact k3, by rw [hww]; exact hext, ?_, ?_⟩
      · intro q b hb hq
        cases hb
        exact absurd (hs1.olt q _ hq) (Nat.lt_irrefl _)
      · intro b hb
        cases hb
        refine ⟨fun hm => absurd (hs.lt _ hm) (Nat.lt_irrefl _), by rw [hww]; simp, hs.fresh _ (Nat.le_refl _)⟩
    obtain ⟨bs, n, c, rfl, hn, hnc, hc⟩ := hform
    subst hn
    by_cases hroom : xs.length + ys.length ≤ c
    · -- in place
      have hsp2 := hsp1
      simp only [Spare, hesz0, if_false] at hsp2
      rcases hsp2.2 with ⟨_, a, n, hn⟩ | ⟨b, off, n, c', cs, e', fr, e1, e2, e3, e4, e5, e6⟩
      · cases hn; omega
      · cases e2
        obtain ⟨f1, f2, f3, d, rfl, f5, rfl⟩ := hd2 b e1
        have hnl' : news.length = ys.length * i.size := by rw [hsz]; exact hnl
        have hle2 : (xs.length + ys.length) * esz ≤ c * esz := Nat.mul_le_mul_right _ hroom
        rw [Nat.add_mul] at hle2
        have hfit : off + xs.length * esz + news.length ≤ cs.size := by rw [hnl]; omega
        have hrun := run_append_room_fr (P := P) (ty := ty) ht hi w b off xs.length c cs fr e3 e4 ⟨b2, o2, none⟩ ys.length c2 news hnl' hnews hone hroom (by rw [hsz]; exact hfit)
        rw [hsz] at hrun
        have hnone : ∀ k, k < news.length → M b (off + xs.length * esz + k) = none := by
          intro k hk
          rw [Nat.add_assoc]
          exact e6 _ (by omega) (by rw [hnl] at hk; omega)
        have hev1 : ∀ t', Rep M L (ev t') (unslot ea (some d) t') := hs1.env
        obtain ⟨g1, g2, g3⟩ := hs.inPlace (p := .t d) f5 e3 hfit hnone (ea' := unslot ea (some d)) hev1 hs1.spt (fun id j => by simpa [updP] using hs.spc id j)
        refine ⟨_, _, _, _, some b, xs ++ ys, hrun, hφ, ?_, ?_, g1, g2, ?_, ?_⟩
        · -- what it reads as
          have hnew : RepL (M.addAt b (off + xs.length * esz) news) L news (flat ys) := hnr.mono g2.msub (List.prefix_refl _)
          have hold : ∃ olds, RepL M L olds (flat xs) ∧ M.row b off olds ∧ olds.length = xs.length * esz := by
            rcases (lst_inv hul).2 with ⟨h', _⟩ | ⟨b1, off1, cs1, he1, hr, hm⟩
            · subst h'; exact ⟨[], .nil, by intro j v hv; simp at hv, by simp⟩
            · cases he1; exact ⟨cs1, hr, hm, by rw [hr.length, flat_length xs esz hxl]⟩
          obtain ⟨olds, o1, o2', o3⟩ := hold
          have := Rep.lst (M := M.addAt b (off + xs.length * esz) news) (L := L) b off c esz esz (olds ++ news) (xs ++ ys) h0 hzl (by simp; omega) (by simpa using hroom) hc (by rw [flat_append]; exact (o1.mono g2.msub (List.prefix_refl _)).append hnew) (by
            intro j v hv
            rw [List.getElem?_append] at hv
            split at hv
            · exact g2.msub _ _ _ (o2' j v hv)
            · rename_i hj
              have := g3 _ v hv
              rwa [show off + xs.length * esz + (j - olds.length) = off + j by omega] at this)
          simpa using this
        · simp only [Spare, hesz0, if_false]
          refine ⟨hzl, .inr ⟨b, off, xs.length + ys.length, c, (asplice cs.toList (off + xs.length * esz) news).toArray, e', fr, rfl, by simp, setRow_heap w b cs _ e' fr e3, ?_, ?_, ?_⟩⟩
          · have : (asplice cs.toList (off + xs.length * esz) news).toArray.size = cs.size := by
              rw [List.size_toArray, asplice_length _ _ _ (by simpa using hfit)]; simp
            rw [this]; exact e4
          · rw [List.size_toArray, asplice_length _ _ _ (by simpa using hfit)]; simpa using e5
          · intro k hk hk'
            unfold Mem.addAt
            rw [Nat.add_mul] at hk
            rw [if_neg (by rw [hnl]; omega)]
            exact e6 k (by omega) hk'
        · intro q b' hb hq
          cases hb
          exact hd1 q b e1 hq
        · intro b' hb
          cases hb
          refine ⟨f1, ?_, f3⟩
          simpa [World.setRow] using f2
    · -- a new one
      have hbound' : (xs.length + ys.length) * i.bytes ≤ 140737488355328 := by rw [hby]; exact hbound
      cases bs with
      | none =>
        have hx0 : xs.length = 0 := by
          rcases (lst_inv hul).2 with ⟨_, h'⟩ | ⟨b1, off1, cs1, he1, _⟩
          · exact h'
          · cases he1
        have hc0 : c = 0 := by
          have hsp2 := hsp1
          simp only [Spare, hesz0, if_false] at hsp2
          rcases hsp2.2 with ⟨_, a, n, hn⟩ | ⟨b, off, n, c', cs, e', fr, e1, e2, _⟩
          · cases hn; exact hx0
          · cases e2
        have hxnil : xs = [] := List.eq_nil_of_length_eq_zero hx0
        subst hxnil
        subst hc0
        have hr := run_append_nil (P := P) w t ty e i z ht hi hz ⟨b2, o2, none⟩ ys.length c2 news (by rw [hsz]; exact hnl) hnews hm0 (by omega) (by simp at hbound'; omega)
        refine grow [] 0 _ (by exact .nil) (by simp) rfl ?_
        simpa using hr
      | some a =>
        have hold : ∃ olds, RepL M L olds (flat xs) ∧ (∀ j v, olds[j]? = some v → w.cell? (a.add j) = some v) ∧ olds.length = xs.length * esz := by
          rcases (lst_inv hul).2 with ⟨h', _⟩ | ⟨b1, off1, cs1, he1, hr, hm⟩
          · subst h'; exact ⟨[], .nil, by intro j v hv; simp at hv, by simp⟩
          · cases he1; exact ⟨cs1, hr, row_cells hm hs.mem, by rw [hr.length, flat_length xs esz hxl]⟩
        obtain ⟨olds, o1, o2', o3⟩ := hold
        have hr := run_append_grow (P := P) w t ty e i z ht hi hz a xs.length c olds (by rw [hsz]; exact o3) o2' ⟨b2, o2, none⟩ ys.length c2 news (by rw [hsz]; exact hnl) hnews (by omega) (by omega) (growslice_fits (by omega) hbound')
        exact grow olds c _ o1 o3 rfl hr
end
end Go.Abs
