/- A memory-free reading of the model's values (part 1): abstract values, what they say of memory, and how that is kept. -/
import Derived.WalkKit
import Derived.Laws.AppendOwn
import Derived.Laws.Cells
import Derived.Deep.Quiet
import Derived.RowKit
set_option linter.unusedVariables false
set_option linter.unusedSimpArgs false
namespace Go.Abs
open Go

/-- Values without memory. -/
inductive AV where
  | any
  | bool (b : Bool)
  | int (k : IntKind) (n : Int)
  | str (s : ByteArray)
  | nils
  | lst (own : Nat) (xs : List AV)
  | arr (id off len cap : Nat)
  | agg (xs : List AV)
  | tuple (xs : List AV)
  | ptr (id off : Nat)
  | iptr (x : AV)
  | nilp
  | map (id : Nat)
  | nilm
  | fn (f : Fn) (first captured : List AV)
  | nilf
  | iface (t : TypeId) (x : AV)
  | nili
  deriving Inhabited

def AV.cells : AV → List AV
  | .agg xs => xs
  | x => [x]
def flat (xs : List AV) : List AV := xs.flatMap AV.cells

/-- What memory is known never to change: block, cell. -/
abbrev Mem := Nat → Nat → Option Value
def Mem.sub (M M' : Mem) : Prop := ∀ b o v, M b o = some v → M' b o = some v
theorem Mem.sub_refl (M : Mem) : M.sub M := fun _ _ _ h => h
theorem Mem.sub_trans {M1 M2 M3 : Mem} (h : M1.sub M2) (k : M2.sub M3) : M1.sub M3 := fun b o v hv => k b o v (h b o v hv)

/-- Where the cells from (b, o) on are these. -/
def Mem.row (M : Mem) (b o : Nat) (cs : List Value) : Prop := ∀ j v, cs[j]? = some v → M b (o + j) = some v

mutual
inductive Rep (M : Mem) (L : List Nat) : Value → AV → Prop
  | any (v : Value) : Rep M L v .any
  | bool (b : Bool) : Rep M L (.bool b) (.bool b)
  | int (k : IntKind) (n : Int) : Rep M L (.int k n) (.int k n)
  | str (s : ByteArray) : Rep M L (.string s) (.str s)
  | nils : Rep M L (.slice none 0 0) .nils
  | lst0 (a : Option Addr) (c own : Nat) (hc : c < 9223372036854775808) : Rep M L (.slice a 0 c) (.lst own [])
  | lst (b off c own e : Nat) (cs : List Value) (xs : List AV) (he : 0 < e) (hx : ∀ x ∈ xs, x.cells.length = e) (hn : 0 < xs.length) (hle : xs.length ≤ c) (hc : c < 9223372036854775808)
      (hr : RepL M L cs (flat xs)) (hm : M.row b off cs) : Rep M L (.slice (some ⟨b, off, none⟩) xs.length c) (.lst own xs)
  | arr (b off len cap id : Nat) (hl : L[id]? = some b) (hc : cap < 9223372036854775808) : Rep M L (.slice (some ⟨b, off, none⟩) len cap) (.arr id off len cap)
  | agg (cs : List Value) (xs : List AV) (hr : RepL M L cs xs) : Rep M L (.agg cs.toArray) (.agg xs)
  | tuple (cs : List Value) (xs : List AV) (hr : RepL M L cs xs) : Rep M L (.tuple cs.toArray) (.tuple xs)
  | ptr (b off id : Nat) (hl : L[id]? = some b) : Rep M L (.pointer (some ⟨b, off, none⟩)) (.ptr id off)
  | iptr (b off : Nat) (cs : List Value) (x : AV) (hr : RepL M L cs x.cells) (hm : M.row b off cs) : Rep M L (.pointer (some ⟨b, off, none⟩)) (.iptr x)
  | nilp : Rep M L (.pointer none) .nilp
  | map (b id : Nat) (hl : L[id]? = some b) : Rep M L (.map (some b)) (.map id)
  | nilm : Rep M L (.map none) .nilm
  | fn (f : Fn) (fs cs : List Value) (xs ys : List AV) (h1 : RepL M L fs xs) (h2 : RepL M L cs ys) : Rep M L (.func f fs.toArray cs.toArray) (.fn f xs ys)
  | nilf : Rep M L .nilFunc .nilf
  | iface (t : TypeId) (v : Value) (x : AV) (h : Rep M L v x) : Rep M L (.iface t v) (.iface t x)
  | nili : Rep M L .nilIface .nili
inductive RepL (M : Mem) (L : List Nat) : List Value → List AV → Prop
  | nil : RepL M L [] []
  | cons (v : Value) (x : AV) (vs : List Value) (xs : List AV) (h : Rep M L v x) (t : RepL M L vs xs) : RepL M L (v :: vs) (x :: xs)
end

theorem prefix_get {L L' : List Nat} (h : L <+: L') {id b : Nat} (hb : L[id]? = some b) : L'[id]? = some b := by
  obtain ⟨r, rfl⟩ := h
  rw [List.getElem?_append_left]
  · exact hb
  · exact (List.getElem?_eq_some_iff.1 hb).1

theorem Mem.row.mono {M M' : Mem} (hs : M.sub M') {b o : Nat} {cs : List Value} (h : M.row b o cs) : M'.row b o cs := fun j v hv => hs _ _ _ (h j v hv)

mutual
theorem Rep.mono {M M' : Mem} {L L' : List Nat} (hs : M.sub M') (hL : L <+: L') : ∀ {v : Value} {x : AV}, Rep M L v x → Rep M' L' v x
  | _, _, .any v => .any v
  | _, _, .bool b => .bool b
  | _, _, .int k n => .int k n
  | _, _, .str s => .str s
  | _, _, .nils => .nils
  | _, _, .lst0 a c o h => .lst0 a c o h
  | _, _, .lst b off c own e cs xs he hx hn hle hc hr hm => .lst b off c own e cs xs he hx hn hle hc (hr.mono hs hL) (hm.mono hs)
  | _, _, .arr b off len cap id hl hc => .arr b off len cap id (prefix_get hL hl) hc
  | _, _, .agg cs xs hr => .agg cs xs (hr.mono hs hL)
  | _, _, .tuple cs xs hr => .tuple cs xs (hr.mono hs hL)
  | _, _, .ptr b off id hl => .ptr b off id (prefix_get hL hl)
  | _, _, .iptr b off cs x hr hm => .iptr b off cs x (hr.mono hs hL) (hm.mono hs)
  | _, _, .nilp => .nilp
  | _, _, .map b id hl => .map b id (prefix_get hL hl)
  | _, _, .nilm => .nilm
  | _, _, .fn f fs cs xs ys h1 h2 => .fn f fs cs xs ys (h1.mono hs hL) (h2.mono hs hL)
  | _, _, .nilf => .nilf
  | _, _, .iface t v x h => .iface t v x (h.mono hs hL)
  | _, _, .nili => .nili
theorem RepL.mono {M M' : Mem} {L L' : List Nat} (hs : M.sub M') (hL : L <+: L') : ∀ {vs : List Value} {xs : List AV}, RepL M L vs xs → RepL M' L' vs xs
  | _, _, .nil => .nil
  | _, _, .cons v x vs xs h t => .cons v x vs xs (h.mono hs hL) (t.mono hs hL)
end

section
variable {M : Mem} {L : List Nat}
theorem RepL.length : ∀ {vs : List Value} {xs : List AV}, RepL M L vs xs → vs.length = xs.length
  | _, _, .nil => rfl
  | _, _, .cons _ _ _ _ _ t => by simp [t.length]
theorem RepL.get : ∀ {vs : List Value} {xs : List AV}, RepL M L vs xs → ∀ (j : Nat) (x : AV), xs[j]? = some x → ∃ v, vs[j]? = some v ∧ Rep M L v x
  | _, _, .nil, j, x, h => by simp at h
  | _, _, .cons v y vs xs h t, 0, x, hx => by simp at hx; subst hx; exact ⟨v, by simp, h⟩
  | _, _, .cons v y vs xs h t, j + 1, x, hx => by
    obtain ⟨u, hu, hr⟩ := t.get j x (by simpa using hx)
    exact ⟨u, by simpa using hu, hr⟩
theorem RepL.get' {vs : List Value} {xs : List AV} (h : RepL M L vs xs) (j : Nat) (v : Value) (hv : vs[j]? = some v) : ∃ x, xs[j]? = some x ∧ Rep M L v x := by
  have hl := h.length
  have hj : j < xs.length := by rw [← hl]; exact (List.getElem?_eq_some_iff.1 hv).1
  obtain ⟨u, hu, hr⟩ := h.get j xs[j] (by simp [hj])
  rw [hv] at hu; cases hu
  exact ⟨_, by simp [hj], hr⟩
theorem RepL.append : ∀ {vs : List Value} {xs : List AV}, RepL M L vs xs → ∀ {us : List Value} {ys : List AV}, RepL M L us ys → RepL M L (vs ++ us) (xs ++ ys)
  | _, _, .nil, _, _, h2 => h2
  | _, _, .cons v x vs xs h t, _, _, h2 => .cons v x _ _ h (t.append h2)
theorem RepL.take : ∀ {vs : List Value} {xs : List AV}, RepL M L vs xs → ∀ n, RepL M L (vs.take n) (xs.take n)
  | _, _, .nil, n => by simp; exact .nil
  | _, _, .cons v x vs xs h t, 0 => .nil
  | _, _, .cons v x vs xs h t, n + 1 => .cons v x _ _ h (t.take n)
theorem RepL.drop : ∀ {vs : List Value} {xs : List AV}, RepL M L vs xs → ∀ n, RepL M L (vs.drop n) (xs.drop n)
  | _, _, .nil, n => by simp; exact .nil
  | _, _, .cons v x vs xs h t, 0 => .cons v x _ _ h t
  | _, _, .cons v x vs xs h t, n + 1 => t.drop n
theorem RepL.set : ∀ {vs : List Value} {xs : List AV}, RepL M L vs xs → ∀ {u : Value} {y : AV}, Rep M L u y → ∀ n, RepL M L (vs.set n u) (xs.set n y)
  | _, _, .nil, _, _, _, n => by simp; exact .nil
  | _, _, .cons v x vs xs h t, u, y, hu, 0 => .cons u y _ _ hu t
  | _, _, .cons v x vs xs h t, u, y, hu, n + 1 => .cons v x _ _ h (t.set hu n)
theorem RepL.of_get : ∀ {vs : List Value} {xs : List AV}, vs.length = xs.length → (∀ (j : Nat) (x : AV), xs[j]? = some x → ∃ v, vs[j]? = some v ∧ Rep M L v x) → RepL M L vs xs
  | [], [], _, _ => .nil
  | [], _ :: _, h, _ => by simp at h
  | _ :: _, [], h, _ => by simp at h
  | v :: vs, x :: xs, h, H => by
    obtain ⟨u, hu, hr⟩ := H 0 x rfl
    simp at hu; subst hu
    exact .cons v x vs xs hr (.of_get (by simpa using h) (fun j y hy => by obtain ⟨u, hu, hr⟩ := H (j + 1) y (by simpa using hy); exact ⟨u, by simpa using hu, hr⟩))
theorem RepL.one {v : Value} {x : AV} (h : Rep M L v x) : RepL M L [v] [x] := .cons _ _ _ _ h .nil
theorem RepL.one_inv {vs : List Value} {x : AV} (h : RepL M L vs [x]) : ∃ v, vs = [v] ∧ Rep M L v x := by
  cases h with
  | cons v x vs xs h t => cases t with | nil => exact ⟨v, rfl, h⟩
theorem RepL.getD {vs : List Value} {xs : List AV} (h : RepL M L vs xs) (j : Nat) : Rep M L (vs.getD j undef) (xs.getD j .any) := by
  rcases Nat.lt_or_ge j xs.length with hj | hj
  · obtain ⟨v, hv, hr⟩ := h.get j xs[j] (by simp [hj])
    rw [List.getD_eq_getElem?_getD, List.getD_eq_getElem?_getD, hv]
    simpa [hj] using hr
  · rw [List.getD_eq_getElem?_getD, List.getD_eq_getElem?_getD, List.getElem?_eq_none hj]
    exact .any _
end

/-- Forget who may append. -/
def AV.unown : AV → AV
  | .lst _ xs => .lst 0 xs
  | x => x
/-- As it lies inside of something: nil and empty lists are told apart no more. -/
def AV.drop : AV → AV
  | .lst _ xs => .lst 0 xs
  | .nils => .lst 0 []
  | x => x
theorem Rep.relist {M : Mem} {L : List Nat} {v : Value} {o o' : Nat} {xs : List AV} (h : Rep M L v (.lst o xs)) : Rep M L v (.lst o' xs) := by
  cases h with
  | lst0 a c _ hc => exact .lst0 a c o' hc
  | lst b off c _ e cs _ he hx hn hle hc hr hm => exact .lst b off c o' e cs xs he hx hn hle hc hr hm
theorem Rep.unown {M : Mem} {L : List Nat} {v : Value} {x : AV} (h : Rep M L v x) : Rep M L v x.unown := by
  cases x <;> first | exact h | exact h.relist
theorem Rep.drop {M : Mem} {L : List Nat} {v : Value} {x : AV} (h : Rep M L v x) : Rep M L v x.drop := by
  cases x <;> first | exact h | exact h.relist | (cases h; exact .lst0 _ _ _ (by decide))
theorem RepL.map_drop {M : Mem} {L : List Nat} : ∀ {vs : List Value} {xs : List AV}, RepL M L vs xs → RepL M L vs (xs.map AV.drop)
  | _, _, .nil => .nil
  | _, _, .cons v x vs xs h t => .cons v _ _ _ h.drop t.map_drop

/-- The value of one cell. -/
def AV.one : AV → Bool
  | .any => false
  | .agg _ => false
  | .tuple _ => false
  | _ => true
theorem Rep.oneCell {M : Mem} {L : List Nat} {v : Value} {x : AV} (h : Rep M L v x) (h1 : x.one = true) : v.oneCell' = true := by
  cases h <;> first | rfl | simp [AV.one] at h1
theorem RepL.oneCell {M : Mem} {L : List Nat} : ∀ {vs : List Value} {xs : List AV}, RepL M L vs xs → xs.all AV.one = true → ∀ v ∈ vs, v.oneCell' = true
  | _, _, .nil, _, v, hv => by simp at hv
  | _, _, .cons u x vs xs h t, h1, v, hv => by
    simp only [List.all_cons, Bool.and_eq_true] at h1
    rcases List.mem_cons.1 hv with rfl | hv
    · exact h.oneCell h1.1
    · exact t.oneCell h1.2 v hv

/-! ### No pointer to an object from n on -/
mutual
def AV.blw (n : Nat) : AV → Bool
  | .arr id _ _ _ => id < n
  | .ptr id _ => id < n
  | .map id => id < n
  | .lst _ xs => belowL n xs
  | .agg xs => belowL n xs
  | .tuple xs => belowL n xs
  | .iptr x => x.blw n
  | .fn _ xs ys => belowL n xs && belowL n ys
  | .iface _ x => x.blw n
  | _ => true
def belowL (n : Nat) : List AV → Bool
  | [] => true
  | x :: xs => x.blw n && belowL n xs
end
theorem belowL_iff (n : Nat) : ∀ xs : List AV, belowL n xs = true ↔ ∀ x ∈ xs, x.blw n = true
  | [] => by simp [belowL]
  | x :: xs => by simp [belowL, belowL_iff n xs]

theorem get_take_lt {L : List Nat} {id n b : Nat} (h : L[id]? = some b) (hn : id < n) : (L.take n)[id]? = some b := by
  rw [List.getElem?_take]; simp [hn, h]

theorem belowL_cells {n : Nat} {x : AV} (h : x.blw n = true) : belowL n x.cells = true := by
  cases x <;> simp_all [AV.cells, AV.blw, belowL]
theorem belowL_flat {n : Nat} : ∀ {xs : List AV}, belowL n xs = true → belowL n (flat xs) = true
  | [], _ => rfl
  | x :: xs, h => by
    simp only [belowL, Bool.and_eq_true] at h
    have h1 := belowL_cells h.1
    have h2 := belowL_flat h.2
    rw [belowL_iff] at *
    intro y hy
    simp only [flat, List.flatMap_cons, List.mem_append] at hy
    rcases hy with hy | hy
    · exact h1 y hy
    · exact h2 y hy

mutual
theorem Rep.takeL {M : Mem} {L : List Nat} {n : Nat} : ∀ {v : Value} {x : AV}, Rep M L v x → x.blw n = true → Rep M (L.take n) v x
  | _, _, .any v, _ => .any v
  | _, _, .bool b, _ => .bool b
  | _, _, .int k n, _ => .int k n
  | _, _, .str s, _ => .str s
  | _, _, .nils, _ => .nils
  | _, _, .lst0 a c o h, _ => .lst0 a c o h
  | _, _, .lst b off c own e cs xs he hx hn hle hc hr hm, h => .lst b off c own e cs xs he hx hn hle hc (hr.takeL (belowL_flat (by simpa [AV.blw] using h))) hm
  | _, _, .arr b off len cap id hl hc, h => .arr b off len cap id (get_take_lt hl (by simpa [AV.blw] using h)) hc
  | _, _, .agg cs xs hr, h => .agg cs xs (hr.takeL (by simpa [AV.blw] using h))
  | _, _, .tuple cs xs hr, h => .tuple cs xs (hr.takeL (by simpa [AV.blw] using h))
  | _, _, .ptr b off id hl, h => .ptr b off id (get_take_lt hl (by simpa [AV.blw] using h))
  | _, _, .iptr b off cs x hr hm, h => .iptr b off cs x (hr.takeL (belowL_cells (by simpa [AV.blw] using h))) hm
  | _, _, .nilp, _ => .nilp
  | _, _, .map b id hl, h => .map b id (get_take_lt hl (by simpa [AV.blw] using h))
  | _, _, .nilm, _ => .nilm
  | _, _, .fn f fs cs xs ys h1 h2, h => by
    simp only [AV.blw, Bool.and_eq_true] at h
    exact .fn f fs cs xs ys (h1.takeL h.1) (h2.takeL h.2)
  | _, _, .nilf, _ => .nilf
  | _, _, .iface t v x h, hb => .iface t v x (h.takeL (by simpa [AV.blw] using hb))
  | _, _, .nili, _ => .nili
theorem RepL.takeL {M : Mem} {L : List Nat} {n : Nat} : ∀ {vs : List Value} {xs : List AV}, RepL M L vs xs → belowL n xs = true → RepL M (L.take n) vs xs
  | _, _, .nil, _ => .nil
  | _, _, .cons v x vs xs h t, hb => by
    simp only [belowL, Bool.and_eq_true] at hb
    exact .cons v x vs xs (h.takeL hb.1) (t.takeL hb.2)
end

theorem get_lt {α : Type} {L : List α} {id : Nat} {b : α} (h : L[id]? = some b) : id < L.length := (List.getElem?_eq_some_iff.1 h).1

mutual
theorem AV.blw_mono {m k : Nat} (h : m ≤ k) : ∀ (x : AV), x.blw m = true → x.blw k = true
  | .any, _ => rfl
  | .bool _, _ => rfl
  | .int _ _, _ => rfl
  | .str _, _ => rfl
  | .nils, _ => rfl
  | .lst _ xs, hb => by simp only [AV.blw] at hb ⊢; exact belowL_mono h xs hb
  | .arr _ _ _ _, hb => by simp only [AV.blw, decide_eq_true_eq] at hb ⊢; omega
  | .agg xs, hb => by simp only [AV.blw] at hb ⊢; exact belowL_mono h xs hb
  | .tuple xs, hb => by simp only [AV.blw] at hb ⊢; exact belowL_mono h xs hb
  | .ptr _ _, hb => by simp only [AV.blw, decide_eq_true_eq] at hb ⊢; omega
  | .iptr x, hb => by simp only [AV.blw] at hb ⊢; exact AV.blw_mono h x hb
  | .nilp, _ => rfl
  | .map _, hb => by simp only [AV.blw, decide_eq_true_eq] at hb ⊢; omega
  | .nilm, _ => rfl
  | .fn _ xs ys, hb => by
    simp only [AV.blw, Bool.and_eq_true] at hb ⊢
    exact ⟨belowL_mono h xs hb.1, belowL_mono h ys hb.2⟩
  | .nilf, _ => rfl
  | .iface _ x, hb => by simp only [AV.blw] at hb ⊢; exact AV.blw_mono h x hb
  | .nili, _ => rfl
theorem belowL_mono {m k : Nat} (h : m ≤ k) : ∀ (xs : List AV), belowL m xs = true → belowL k xs = true
  | [], _ => rfl
  | x :: xs, hb => by
    simp only [belowL, Bool.and_eq_true] at hb ⊢
    exact ⟨AV.blw_mono h x hb.1, belowL_mono h xs hb.2⟩
end

/-! ### Objects that change -/
inductive AObj where
  | dead
  | cells (es : List AV)
  | map (es : List (AV × AV))
  | siter (s : ByteArray) (pos : Nat)
  deriving Inhabited

def AObj.blw (n : Nat) : AObj → Bool
  | .cells es => belowL n es
  | .map es => belowL n (es.map (·.1)) && belowL n (es.map (·.2))
  | _ => true

theorem AObj.blw_mono {m k : Nat} (h : m ≤ k) (o : AObj) (ho : o.blw m = true) : o.blw k = true := by
  cases o <;> simp only [AObj.blw, Bool.and_eq_true] at ho ⊢
  · exact belowL_mono h _ ho
  · exact ⟨belowL_mono h _ ho.1, belowL_mono h _ ho.2⟩

def ORep (M : Mem) (L : List Nat) (w : World) (b : Nat) : AObj → Prop
  | .dead => True
  | .cells es => ∃ cs e, w.heap[b]? = some (.cells cs e (0, 0)) ∧ RepL M L cs.toList es ∧ ∀ o, M b o = none
  | .map es => ∃ ents ck, w.heap[b]? = some (.map ents ck) ∧ RepL M L (ents.toList.map (·.key)) (es.map (·.1)) ∧ RepL M L (ents.toList.map (·.val)) (es.map (·.2))
  | .siter s pos => w.heap[b]? = some (.stringIter s pos)

theorem ORep.mono {M M' : Mem} {L L' : List Nat} {w w' : World} {b : Nat} {o : AObj} (h : ORep M L w b o) (hs : M.sub M') (hL : L <+: L')
    (hw : w'.heap[b]? = w.heap[b]?) (hM : ∀ o, M' b o = M b o) : ORep M' L' w' b o := by
  cases o with
  | dead => trivial
  | cells es =>
    obtain ⟨cs, e, h1, h2, h3⟩ := h
    exact ⟨cs, e, hw.trans h1, h2.mono hs hL, fun o => (hM o).trans (h3 o)⟩
  | map es =>
    obtain ⟨ents, ck, h1, h2, h3⟩ := h
    exact ⟨ents, ck, hw.trans h1, h2.mono hs hL, h3.mono hs hL⟩
  | siter s pos => exact hw.trans h

theorem ORep.takeL {M : Mem} {L : List Nat} {w : World} {b n : Nat} {o : AObj} (h : ORep M L w b o) (hb : o.blw n = true) : ORep M (L.take n) w b o := by
  cases o with
  | dead => trivial
  | cells es =>
    obtain ⟨cs, e, h1, h2, h3⟩ := h
    exact ⟨cs, e, h1, h2.takeL (by simpa [AObj.blw] using hb), h3⟩
  | map es =>
    obtain ⟨ents, ck, h1, h2, h3⟩ := h
    simp only [AObj.blw, Bool.and_eq_true] at hb
    exact ⟨ents, ck, h1, h2.takeL hb.1, h3.takeL hb.2⟩
  | siter s pos => exact h

/-! ### Who may append in place -/
inductive Pos where
  | t (i : Nat)
  | c (id j : Nat)
  deriving DecidableEq

def okfr (fr : Nat × Nat) (n : Nat) : Prop := ∀ j, j < n → ¬ (fr.1 ≤ j ∧ j < fr.2)
theorem okfr_zero (n : Nat) : okfr (0, 0) n := fun j _ h => by simp at h

def Spare (M : Mem) (w : World) (v : Value) (x : AV) (ob : Option Nat) : Prop :=
  match x with
  | .lst own xs => if own = 0 then ob = none else
      (∀ y ∈ xs, y.cells.length = own) ∧ ((ob = none ∧ ∃ a n, v = .slice a n n) ∨
      ∃ b off n c cs e fr, ob = some b ∧ v = .slice (some ⟨b, off, none⟩) n c ∧ w.heap[b]? = some (.cells cs e fr) ∧ okfr fr cs.size ∧ off + c * own ≤ cs.size ∧ ∀ k, n * own ≤ k → k < c * own → M b (off + k) = none)
  | _ => ob = none

theorem Spare.mono {M M' : Mem} {w w' : World} {v : Value} {x : AV} {ob : Option Nat} (h : Spare M w v x ob)
    (hw : ∀ b, ob = some b → w'.heap[b]? = w.heap[b]? ∧ ∀ o, M' b o = M b o) : Spare M' w' v x ob := by
  cases x <;> first | exact h | skip
  rename_i own xs
  unfold Spare at *
  simp only at *
  split
  · rename_i h0; simp only [h0, if_true] at h; exact h
  · rename_i h0
    simp only [h0, if_false] at h
    refine ⟨h.1, ?_⟩
    rcases h.2 with h | ⟨b, off, n, c, cs, e, fr, h1, h2, h3, h4, h5, h6⟩
    · exact .inl h
    · obtain ⟨hb, hm⟩ := hw b h1
      exact .inr ⟨b, off, n, c, cs, e, fr, h1, h2, hb.trans h3, h4, h5, fun k hk hk' => (hm _).trans (h6 k hk hk')⟩

def cellV (L : List Nat) (w : World) (id j : Nat) : Value :=
  match L[id]? with
  | some b => (w.cell? ⟨b, j, none⟩).getD undef
  | none => undef
def cellA (H : List AObj) (id j : Nat) : AV :=
  match H[id]? with
  | some (.cells es) => es.getD j .any
  | _ => .any

/-- The abstract state of a frame (or of arguments) fits the memory. A: the blocks that may be written. -/
structure St (A : Nat → Prop) (M : Mem) (L : List Nat) (w : World) (H : List AObj) (ev : Nat → Value) (ea : Nat → AV) (O : Pos → Option Nat) : Prop where
  len : L.length = H.length
  nodup : L.Nodup
  env : ∀ t, Rep M L (ev t) (ea t)
  mem : ∀ b o v, M b o = some v → w.cell? ⟨b, o, none⟩ = some v
  obj : ∀ (id : Nat) (o : AObj) (b : Nat), H[id]? = some o → L[id]? = some b → ORep M L w b o
  strat : ∀ (id : Nat) (o : AObj), H[id]? = some o → o.blw (id + 1) = true
  lt : ∀ b ∈ L, b < w.heap.size
  spt : ∀ t, Spare M w (ev t) (ea t) (O (.t t))
  spc : ∀ id j, Spare M w (cellV L w id j) (cellA H id j) (O (.c id j))
  oinj : ∀ p q b, O p = some b → O q = some b → p = q
  osep : ∀ p b, O p = some b → b ∉ L
  olt : ∀ p b, O p = some b → b < w.heap.size
  La : ∀ b ∈ L, A b
  Oa : ∀ p b, O p = some b → A b
  fresh : ∀ b, w.heap.size ≤ b → A b

/-- What is not written stays. -/
structure Ext (A : Nat → Prop) (M : Mem) (w : World) (M' : Mem) (w' : World) : Prop where
  msub : M.sub M'
  size : w.heap.size ≤ w'.heap.size
  os : w'.os = w.os
  tape : w'.tape = w.tape
  output : w'.output = w.output
  keep : ∀ b, b < w.heap.size → ¬ A b → w'.heap[b]? = w.heap[b]? ∧ ∀ o, M' b o = M b o

theorem Ext.refl (A : Nat → Prop) (M : Mem) (w : World) : Ext A M w M w := ⟨Mem.sub_refl M, Nat.le_refl _, rfl, rfl, rfl, fun _ _ _ => ⟨rfl, fun _ => rfl⟩⟩
theorem Ext.trans {A : Nat → Prop} {M M1 M2 : Mem} {w w1 w2 : World} (h : Ext A M w M1 w1) (k : Ext A M1 w1 M2 w2) : Ext A M w M2 w2 :=
  ⟨Mem.sub_trans h.msub k.msub, Nat.le_trans h.size k.size, k.os.trans h.os, k.tape.trans h.tape, k.output.trans h.output, fun b hb hA => by
    obtain ⟨h1, h2⟩ := h.keep b hb hA
    obtain ⟨k1, k2⟩ := k.keep b (Nat.lt_of_lt_of_le hb h.size) hA
    exact ⟨k1.trans h1, fun o => (k2 o).trans (h2 o)⟩⟩

end Go.Abs
