/- Part 1 of 18 of the proof. -/
import Derived.WalkKit
import Derived.Laws.AppendOwn
import Derived.Laws.Cells
import Derived.Deep.Quiet
import Derived.RowKit
import Derived.RangeFuncLeaves
import Derived.RangeFuncRecord
import Derived.OrdersIn
import Derived.Laws.Strings
import Derived.Laws.Entries
import Derived.Laws.CopyRow
import Derived.Great.BuildSlice
import Derived.Laws.BytesArg
set_option linter.unusedVariables false
set_option linter.unusedSimpArgs false
set_option linter.defProp false
set_option linter.unusedSectionVars false
section
namespace Go.Abs
open Go
inductive AV where
 | any
 | bool (b : Bool)
 | int (k : IntKind) (n : Int)
 | str (s : ByteArray)
 | nils
 | lst (own : Nat) (xs : List AV)
 | arr (id off len cap : Nat)
 | agg (xs : List AV)
 | tuple (xs : List AV)
 | ptr (id off : Nat)
 | iptr (x : AV)
 | nilp
 | map (id : Nat)
 | nilm
 | fn (f : Fn) (first captured : List AV)
 | nilf
 | iface (t : TypeId) (x : AV)
 | nili
 | yld (id : Nat)
 | emp
 deriving Inhabited
def AV.cells : AV → List AV
 | .agg xs => xs
 | x => [x]
def flat (xs : List AV) : List AV := xs.flatMap AV.cells
abbrev Mem := Nat → Nat → Option Value
def Mem.sub (M M' : Mem) : Prop := ∀ b o v, M b o = some v → M' b o = some v
theorem Mem.sub_refl (M : Mem) : M.sub M := fun _ _ _ h => h
theorem Mem.sub_trans {M1 M2 M3 : Mem} (h : M1.sub M2) (k : M2.sub M3) : M1.sub M3 := fun b o v hv => k b o v (h b o v hv)
def Mem.row (M : Mem) (b o : Nat) (cs : List Value) : Prop := ∀ j v, cs[j]? = some v → M b (o + j) = some v
mutual
inductive Rep (M : Mem) (L : List Nat) : Value → AV → Prop
 | any (v : Value) : Rep M L v .any
 | bool (b : Bool) : Rep M L (.bool b) (.bool b)
 | int (k : IntKind) (n : Int) : Rep M L (.int k n) (.int k n)
 | str (s : ByteArray) : Rep M L (.string s) (.str s)
 | nils : Rep M L (.slice none 0 0) .nils
 | lst0 (a : Option Addr) (c own : Nat) (hc : c < 9223372036854775808) : Rep M L (.slice a 0 c) (.lst own [])
 | lst (b off c own e : Nat) (cs : List Value) (xs : List AV) (he : 0 < e) (hx : ∀ x ∈ xs, x.cells.length = e) (hn : 0 < xs.length) (hle : xs.length ≤ c) (hc : c < 9223372036854775808)
    (hr : RepL M L cs (flat xs)) (hm : M.row b off cs) : Rep M L (.slice (some ⟨b, off, none⟩) xs.length c) (.lst own xs)
 | arr (b off len cap id : Nat) (hl : L[id]? = some b) (hc : cap < 9223372036854775808) : Rep M L (.slice (some ⟨b, off, none⟩) len cap) (.arr id off len cap)
 | agg (cs : List Value) (xs : List AV) (hr : RepL M L cs xs) : Rep M L (.agg cs.toArray) (.agg xs)
 | tuple (cs : List Value) (xs : List AV) (hr : RepL M L cs xs) : Rep M L (.tuple cs.toArray) (.tuple xs)
 | ptr (b off id : Nat) (hl : L[id]? = some b) : Rep M L (.pointer (some ⟨b, off, none⟩)) (.ptr id off)
 | iptr (b off : Nat) (cs : List Value) (x : AV) (hr : RepL M L cs x.cells) (hm : M.row b off cs) : Rep M L (.pointer (some ⟨b, off, none⟩)) (.iptr x)
 | nilp : Rep M L (.pointer none) .nilp
 | map (b id : Nat) (hl : L[id]? = some b) : Rep M L (.map (some b)) (.map id)
 | nilm : Rep M L (.map none) .nilm
 | fn (f : Fn) (fs cs : List Value) (xs ys : List AV) (h1 : RepL M L fs xs) (h2 : RepL M L cs ys) : Rep M L (.func f fs.toArray cs.toArray) (.fn f xs ys)
 | nilf : Rep M L .nilFunc .nilf
 | iface (t : TypeId) (v : Value) (x : AV) (h : Rep M L v x) : Rep M L (.iface t v) (.iface t x)
 | nili : Rep M L .nilIface .nili
 | yld (b id : Nat) (hl : L[id]? = some b) : Rep M L (.func (.yield b) #[] #[]) (.yld id)
 | emp (a : Option Addr) : Rep M L (.slice a 0 0) .emp
inductive RepL (M : Mem) (L : List Nat) : List Value → List AV → Prop
 | nil : RepL M L [] []
 | cons (v : Value) (x : AV) (vs : List Value) (xs : List AV) (h : Rep M L v x) (t : RepL M L vs xs) : RepL M L (v :: vs) (x :: xs)
end
theorem prefix_get {L L' : List Nat} (h : L <+: L') {id b : Nat} (hb : L[id]? = some b) : L'[id]? = some b := by
 obtain ⟨r, rfl⟩ := h
 rw [List.getElem?_append_left]
 ·exact hb
 ·exact (List.getElem?_eq_some_iff.1 hb).1
theorem Mem.row.mono {M M' : Mem} (hs : M.sub M') {b o : Nat} {cs : List Value} (h : M.row b o cs) : M'.row b o cs := fun j v hv => hs _ _ _ (h j v hv)
mutual
theorem Rep.mono {M M' : Mem} {L L' : List Nat} (hs : M.sub M') (hL : L <+: L') : ∀ {v : Value} {x : AV}, Rep M L v x → Rep M' L' v x
 | _, _, .any v => .any v
 | _, _, .bool b => .bool b
 | _, _, .int k n => .int k n
 | _, _, .str s => .str s
 | _, _, .nils => .nils
 | _, _, .lst0 a c o h => .lst0 a c o h
 | _, _, .lst b off c own e cs xs he hx hn hle hc hr hm => .lst b off c own e cs xs he hx hn hle hc (hr.mono hs hL) (hm.mono hs)
 | _, _, .arr b off len cap id hl hc => .arr b off len cap id (prefix_get hL hl) hc
 | _, _, .agg cs xs hr => .agg cs xs (hr.mono hs hL)
 | _, _, .tuple cs xs hr => .tuple cs xs (hr.mono hs hL)
 | _, _, .ptr b off id hl => .ptr b off id (prefix_get hL hl)
 | _, _, .iptr b off cs x hr hm => .iptr b off cs x (hr.mono hs hL) (hm.mono hs)
 | _, _, .nilp => .nilp
 | _, _, .map b id hl => .map b id (prefix_get hL hl)
 | _, _, .nilm => .nilm
 | _, _, .fn f fs cs xs ys h1 h2 => .fn f fs cs xs ys (h1.mono hs hL) (h2.mono hs hL)
 | _, _, .nilf => .nilf
 | _, _, .iface t v x h => .iface t v x (h.mono hs hL)
 | _, _, .nili => .nili
 | _, _, .yld b id hl => .yld b id (prefix_get hL hl)
 | _, _, .emp a => .emp a
theorem RepL.mono {M M' : Mem} {L L' : List Nat} (hs : M.sub M') (hL : L <+: L') : ∀ {vs : List Value} {xs : List AV}, RepL M L vs xs → RepL M' L' vs xs
 | _, _, .nil => .nil
 | _, _, .cons v x vs xs h t => .cons v x vs xs (h.mono hs hL) (t.mono hs hL)
end
section
variable {M : Mem} {L : List Nat}
theorem RepL.length : ∀ {vs : List Value} {xs : List AV}, RepL M L vs xs → vs.length = xs.length
 | _, _, .nil => rfl
 | _, _, .cons _ _ _ _ _ t => by simp [t.length]
theorem RepL.get : ∀ {vs : List Value} {xs : List AV}, RepL M L vs xs → ∀ (j : Nat) (x : AV), xs[j]? = some x → ∃ v, vs[j]? = some v ∧ Rep M L v x
 | _, _, .nil, j, x, h => by simp at h
 | _, _, .cons v y vs xs h t, 0, x, hx => by simp at hx; subst hx; exact ⟨v, by simp, h⟩
 | _, _, .cons v y vs xs h t, j + 1, x, hx => by
   obtain ⟨u, hu, hr⟩ := t.get j x (by simpa using hx)
   exact ⟨u, by simpa using hu, hr⟩
theorem RepL.append : ∀ {vs : List Value} {xs : List AV}, RepL M L vs xs → ∀ {us : List Value} {ys : List AV}, RepL M L us ys → RepL M L (vs ++ us) (xs ++ ys)
 | _, _, .nil, _, _, h2 => h2
 | _, _, .cons v x vs xs h t, _, _, h2 => .cons v x _ _ h (t.append h2)
theorem RepL.take : ∀ {vs : List Value} {xs : List AV}, RepL M L vs xs → ∀ n, RepL M L (vs.take n) (xs.take n)
 | _, _, .nil, n => by simp; exact .nil
 | _, _, .cons v x vs xs h t, 0 => .nil
 | _, _, .cons v x vs xs h t, n + 1 => .cons v x _ _ h (t.take n)
theorem RepL.drop : ∀ {vs : List Value} {xs : List AV}, RepL M L vs xs → ∀ n, RepL M L (vs.drop n) (xs.drop n)
 | _, _, .nil, n => by simp; exact .nil
 | _, _, .cons v x vs xs h t, 0 => .cons v x _ _ h t
 | _, _, .cons v x vs xs h t, n + 1 => t.drop n
theorem RepL.set : ∀ {vs : List Value} {xs : List AV}, RepL M L vs xs → ∀ {u : Value} {y : AV}, Rep M L u y → ∀ n, RepL M L (vs.set n u) (xs.set n y)
 | _, _, .nil, _, _, _, n => by simp; exact .nil
 | _, _, .cons v x vs xs h t, u, y, hu, 0 => .cons u y _ _ hu t
 | _, _, .cons v x vs xs h t, u, y, hu, n + 1 => .cons v x _ _ h (t.set hu n)
theorem RepL.of_get : ∀ {vs : List Value} {xs : List AV}, vs.length = xs.length → (∀ (j : Nat) (x : AV), xs[j]? = some x → ∃ v, vs[j]? = some v ∧ Rep M L v x) → RepL M L vs xs
 | [], [], _, _ => .nil
 | [], _ :: _, h, _ => by simp at h
 | _ :: _, [], h, _ => by simp at h
 | v :: vs, x :: xs, h, H => by
   obtain ⟨u, hu, hr⟩ := H 0 x rfl
   simp at hu; subst hu
   exact .cons v x vs xs hr (.of_get (by simpa using h) (fun j y hy => by obtain ⟨u, hu, hr⟩ := H (j + 1) y (by simpa using hy); exact ⟨u, by simpa using hu, hr⟩))
theorem RepL.one {v : Value} {x : AV} (h : Rep M L v x) : RepL M L [v] [x] := .cons _ _ _ _ h .nil
theorem RepL.one_inv {vs : List Value} {x : AV} (h : RepL M L vs [x]) : ∃ v, vs = [v] ∧ Rep M L v x := by
 cases h with
 | cons v x vs xs h t => cases t with | nil => exact ⟨v, rfl, h⟩
theorem RepL.getD {vs : List Value} {xs : List AV} (h : RepL M L vs xs) (j : Nat) : Rep M L (vs.getD j undef) (xs.getD j .any) := by
 rcases Nat.lt_or_ge j xs.length with hj | hj
 ·obtain ⟨v, hv, hr⟩ := h.get j xs[j] (by simp [hj])
  rw [List.getD_eq_getElem?_getD, List.getD_eq_getElem?_getD, hv]
  simpa [hj] using hr
 ·rw [List.getD_eq_getElem?_getD, List.getD_eq_getElem?_getD, List.getElem?_eq_none hj]
  exact .any _
end
def AV.unown : AV → AV
 | .lst _ xs => .lst 0 xs
 | x => x
def AV.drop : AV → AV
 | .lst _ xs => .lst 0 xs
 | .nils => .lst 0 []
 | x => x
theorem Rep.relist {M : Mem} {L : List Nat} {v : Value} {o o' : Nat} {xs : List AV} (h : Rep M L v (.lst o xs)) : Rep M L v (.lst o' xs) := by
 cases h with
 | lst0 a c _ hc => exact .lst0 a c o' hc
 | lst b off c _ e cs _ he hx hn hle hc hr hm => exact .lst b off c o' e cs xs he hx hn hle hc hr hm
theorem Rep.unown {M : Mem} {L : List Nat} {v : Value} {x : AV} (h : Rep M L v x) : Rep M L v x.unown := by
 cases x <;> first | exact h | exact h.relist
theorem Rep.drop {M : Mem} {L : List Nat} {v : Value} {x : AV} (h : Rep M L v x) : Rep M L v x.drop := by
 cases x <;> first | exact h | exact h.relist | (cases h; exact .lst0 _ _ _ (by decide))
theorem RepL.map_drop {M : Mem} {L : List Nat} : ∀ {vs : List Value} {xs : List AV}, RepL M L vs xs → RepL M L vs (xs.map AV.drop)
 | _, _, .nil => .nil
 | _, _, .cons v x vs xs h t => .cons v _ _ _ h.drop t.map_drop
def AV.one : AV → Bool
 | .any => false
 | .agg _ => false
 | .tuple _ => false
 | _ => true
theorem Rep.oneCell {M : Mem} {L : List Nat} {v : Value} {x : AV} (h : Rep M L v x) (h1 : x.one = true) : v.oneCell' = true := by
 cases h <;> first | rfl | simp [AV.one] at h1
theorem RepL.oneCell {M : Mem} {L : List Nat} : ∀ {vs : List Value} {xs : List AV}, RepL M L vs xs → xs.all AV.one = true → ∀ v ∈ vs, v.oneCell' = true
 | _, _, .nil, _, v, hv => by simp at hv
 | _, _, .cons u x vs xs h t, h1, v, hv => by
   simp only [List.all_cons, Bool.and_eq_true] at h1
   rcases List.mem_cons.1 hv with rfl | hv
   ·exact h.oneCell h1.1
   ·exact t.oneCell h1.2 v hv
mutual
def AV.blw (n : Nat) : AV → Bool
 | .arr id _ _ _ => id < n
 | .ptr id _ => id < n
 | .map id => id < n
 | .yld id => id < n
 | .lst _ xs => belowL n xs
 | .agg xs => belowL n xs
 | .tuple xs => belowL n xs
 | .iptr x => x.blw n
 | .fn _ xs ys => belowL n xs && belowL n ys
 | .iface _ x => x.blw n
 | _ => true
def belowL (n : Nat) : List AV → Bool
 | [] => true
 | x :: xs => x.blw n && belowL n xs
end
theorem belowL_iff (n : Nat) : ∀ xs : List AV, belowL n xs = true ↔ ∀ x ∈ xs, x.blw n = true
 | [] => by simp [belowL]
 | x :: xs => by simp [belowL, belowL_iff n xs]
theorem get_take_lt {L : List Nat} {id n b : Nat} (h : L[id]? = some b) (hn : id < n) : (L.take n)[id]? = some b := by
 rw [List.getElem?_take]; simp [hn, h]
theorem belowL_cells {n : Nat} {x : AV} (h : x.blw n = true) : belowL n x.cells = true := by
 cases x <;> simp_all [AV.cells, AV.blw, belowL]
theorem belowL_flat {n : Nat} : ∀ {xs : List AV}, belowL n xs = true → belowL n (flat xs) = true
 | [], _ => rfl
 | x :: xs, h => by
   simp only [belowL, Bool.and_eq_true] at h
   have h1 := belowL_cells h.1
   have h2 := belowL_flat h.2
   rw [belowL_iff] at *
   intro y hy
   simp only [flat, List.flatMap_cons, List.mem_append] at hy
   rcases hy with hy | hy
   ·exact h1 y hy
   ·exact h2 y hy
mutual
theorem Rep.takeL {M : Mem} {L : List Nat} {n : Nat} : ∀ {v : Value} {x : AV}, Rep M L v x → x.blw n = true → Rep M (L.take n) v x
 | _, _, .any v, _ => .any v
 | _, _, .bool b, _ => .bool b
 | _, _, .int k n, _ => .int k n
 | _, _, .str s, _ => .str s
 | _, _, .nils, _ => .nils
 | _, _, .lst0 a c o h, _ => .lst0 a c o h
 | _, _, .lst b off c own e cs xs he hx hn hle hc hr hm, h => .lst b off c own e cs xs he hx hn hle hc (hr.takeL (belowL_flat (by simpa [AV.blw] using h))) hm
 | _, _, .arr b off len cap id hl hc, h => .arr b off len cap id (get_take_lt hl (by simpa [AV.blw] using h)) hc
 | _, _, .agg cs xs hr, h => .agg cs xs (hr.takeL (by simpa [AV.blw] using h))
 | _, _, .tuple cs xs hr, h => .tuple cs xs (hr.takeL (by simpa [AV.blw] using h))
 | _, _, .ptr b off id hl, h => .ptr b off id (get_take_lt hl (by simpa [AV.blw] using h))
 | _, _, .iptr b off cs x hr hm, h => .iptr b off cs x (hr.takeL (belowL_cells (by simpa [AV.blw] using h))) hm
 | _, _, .nilp, _ => .nilp
 | _, _, .map b id hl, h => .map b id (get_take_lt hl (by simpa [AV.blw] using h))
 | _, _, .nilm, _ => .nilm
 | _, _, .fn f fs cs xs ys h1 h2, h => by
   simp only [AV.blw, Bool.and_eq_true] at h
   exact .fn f fs cs xs ys (h1.takeL h.1) (h2.takeL h.2)
 | _, _, .nilf, _ => .nilf
 | _, _, .iface t v x h, hb => .iface t v x (h.takeL (by simpa [AV.blw] using hb))
 | _, _, .nili, _ => .nili
 | _, _, .yld b id hl, h => .yld b id (get_take_lt hl (by simpa [AV.blw] using h))
 | _, _, .emp a, _ => .emp a
theorem RepL.takeL {M : Mem} {L : List Nat} {n : Nat} : ∀ {vs : List Value} {xs : List AV}, RepL M L vs xs → belowL n xs = true → RepL M (L.take n) vs xs
 | _, _, .nil, _ => .nil
 | _, _, .cons v x vs xs h t, hb => by
   simp only [belowL, Bool.and_eq_true] at hb
   exact .cons v x vs xs (h.takeL hb.1) (t.takeL hb.2)
end
theorem get_lt {α : Type} {L : List α} {id : Nat} {b : α} (h : L[id]? = some b) : id < L.length := (List.getElem?_eq_some_iff.1 h).1
mutual
theorem AV.blw_mono {m k : Nat} (h : m ≤ k) : ∀ (x : AV), x.blw m = true → x.blw k = true
 | .any, _ => rfl
 | .bool _, _ => rfl
 | .int _ _, _ => rfl
 | .str _, _ => rfl
 | .nils, _ => rfl
 | .lst _ xs, hb => by simp only [AV.blw] at hb ⊢; exact belowL_mono h xs hb
 | .arr _ _ _ _, hb => by simp only [AV.blw, decide_eq_true_eq] at hb ⊢; omega
 | .agg xs, hb => by simp only [AV.blw] at hb ⊢; exact belowL_mono h xs hb
 | .tuple xs, hb => by simp only [AV.blw] at hb ⊢; exact belowL_mono h xs hb
 | .ptr _ _, hb => by simp only [AV.blw, decide_eq_true_eq] at hb ⊢; omega
 | .iptr x, hb => by simp only [AV.blw] at hb ⊢; exact AV.blw_mono h x hb
 | .nilp, _ => rfl
 | .map _, hb => by simp only [AV.blw, decide_eq_true_eq] at hb ⊢; omega
 | .nilm, _ => rfl
 | .fn _ xs ys, hb => by
   simp only [AV.blw, Bool.and_eq_true] at hb ⊢
   exact ⟨belowL_mono h xs hb.1, belowL_mono h ys hb.2⟩
 | .nilf, _ => rfl
 | .iface _ x, hb => by simp only [AV.blw] at hb ⊢; exact AV.blw_mono h x hb
 | .nili, _ => rfl
 | .yld _, hb => by simp only [AV.blw, decide_eq_true_eq] at hb ⊢; omega
 | .emp, _ => rfl
theorem belowL_mono {m k : Nat} (h : m ≤ k) : ∀ (xs : List AV), belowL m xs = true → belowL k xs = true
 | [], _ => rfl
 | x :: xs, hb => by
   simp only [belowL, Bool.and_eq_true] at hb ⊢
   exact ⟨AV.blw_mono h x hb.1, belowL_mono h xs hb.2⟩
end
abbrev Ann := List (Nat × Nat × Nat)
abbrev Lives := List (Nat × List Nat)
inductive Plan where
 | done
 | take (i : Nat) (st : Bool) (r : Plan)
 | br (i : Nat) (t rest : Plan)
 | nil
 deriving Inhabited
abbrev Plans := List (Nat × Plan)
structure LCode where
 n : Nat
 ps : List Nat
 as : Code
 bd : Code
 an : Ann
 lv : Lives
 pl : Plans
inductive LSt where
 | ready
 | busy
 | jump (c : Code)
 | over
def LSt.ok (st : LSt) (r : Loop) : Prop :=
 match st with
 | .ready => r.state = .ready ∧ r.pending = none
 | .busy => r.state = .busy
 | .jump c => r.state = .done ∧ r.pending = some c
 | .over => True
inductive AObj where
 | dead
 | cells (es : List AV)
 | map (es : List (AV × AV))
 | siter (s : ByteArray) (pos : Nat)
 | loop (st : LSt) (lc : LCode) (es : List AV)
 deriving Inhabited
def AObj.blw (n : Nat) : AObj → Bool
 | .cells es => belowL n es
 | .map es => belowL n (es.map (·.1)) && belowL n (es.map (·.2))
 | .loop _ _ es => belowL n es
 | _ => true
theorem AObj.blw_mono {m k : Nat} (h : m ≤ k) (o : AObj) (ho : o.blw m = true) : o.blw k = true := by
 cases o <;> simp only [AObj.blw, Bool.and_eq_true] at ho ⊢
 ·exact belowL_mono h _ ho
 ·exact ⟨belowL_mono h _ ho.1, belowL_mono h _ ho.2⟩
 ·exact belowL_mono h _ ho
def ORep (M : Mem) (L : List Nat) (w : World) (b : Nat) : AObj → Prop
 | .dead => True
 | .cells es => ∃ cs e, w.heap[b]? = some (.cells cs e (0, 0)) ∧ RepL M L cs.toList es ∧ ∀ o, M b o = none
 | .map es => ∃ ents ck, w.heap[b]? = some (.map ents ck) ∧ RepL M L (ents.toList.map (·.key)) (es.map (·.1)) ∧ RepL M L (ents.toList.map (·.val)) (es.map (·.2))
 | .siter s pos => w.heap[b]? = some (.stringIter s pos)
 | .loop st lc es => ∃ r, w.heap[b]? = some (.loop r) ∧ r.params = lc.ps.toArray ∧ r.assign = lc.as ∧ r.body = lc.bd ∧ RepL M L r.tmps.toList es ∧ st.ok r
theorem ORep.mono {M M' : Mem} {L L' : List Nat} {w w' : World} {b : Nat} {o : AObj} (h : ORep M L w b o) (hs : M.sub M') (hL : L <+: L')
 (hw : w'.heap[b]? = w.heap[b]?) (hM : ∀ o, M' b o = M b o) : ORep M' L' w' b o := by
 cases o with
 | dead => trivial
 | cells es =>
   obtain ⟨cs, e, h1, h2, h3⟩ := h
   exact ⟨cs, e, hw.trans h1, h2.mono hs hL, fun o => (hM o).trans (h3 o)⟩
 | map es =>
   obtain ⟨ents, ck, h1, h2, h3⟩ := h
   exact ⟨ents, ck, hw.trans h1, h2.mono hs hL, h3.mono hs hL⟩
 | siter s pos => exact hw.trans h
 | loop st lc es =>
   obtain ⟨r, h1, h2, h3, h4, h5, h6⟩ := h
   exact ⟨r, hw.trans h1, h2, h3, h4, h5.mono hs hL, h6⟩
theorem ORep.takeL {M : Mem} {L : List Nat} {w : World} {b n : Nat} {o : AObj} (h : ORep M L w b o) (hb : o.blw n = true) : ORep M (L.take n) w b o := by
 cases o with
 | dead => trivial
 | cells es =>
   obtain ⟨cs, e, h1, h2, h3⟩ := h
   exact ⟨cs, e, h1, h2.takeL (by simpa [AObj.blw] using hb), h3⟩
 | map es =>
   obtain ⟨ents, ck, h1, h2, h3⟩ := h
   simp only [AObj.blw, Bool.and_eq_true] at hb
   exact ⟨ents, ck, h1, h2.takeL hb.1, h3.takeL hb.2⟩
 | siter s pos => exact h
 | loop st lc es =>
   obtain ⟨r, h1, h2, h3, h4, h5, h6⟩ := h
   exact ⟨r, h1, h2, h3, h4, h5.takeL (by simpa [AObj.blw] using hb), h6⟩
inductive Pos where
 | t (i : Nat)
 | c (id j : Nat)
 deriving DecidableEq
def okfr (fr : Nat × Nat) (n : Nat) : Prop := ∀ j, j < n → ¬ (fr.1 ≤ j ∧ j < fr.2)
theorem okfr_zero (n : Nat) : okfr (0, 0) n := fun j _ h => by simp at h
def Spare (M : Mem) (w : World) (v : Value) (x : AV) (ob : Option Nat) : Prop :=
 match x with
 | .lst own xs => if own = 0 then ob = none else
    (∀ y ∈ xs, y.cells.length = own) ∧ ((ob = none ∧ ∃ a n, v = .slice a n n) ∨
    ∃ b off n c cs e fr, ob = some b ∧ v = .slice (some ⟨b, off, none⟩) n c ∧ w.heap[b]? = some (.cells cs e fr) ∧ okfr fr cs.size ∧ off + c * own ≤ cs.size ∧ ∀ k, n * own ≤ k → k < c * own → M b (off + k) = none)
 | _ => ob = none
theorem Spare.mono {M M' : Mem} {w w' : World} {v : Value} {x : AV} {ob : Option Nat} (h : Spare M w v x ob)
 (hw : ∀ b, ob = some b → w'.heap[b]? = w.heap[b]? ∧ ∀ o, M' b o = M b o) : Spare M' w' v x ob := by
 cases x <;> first | exact h | skip
 rename_i own xs
 unfold Spare at *
 simp only at *
 split
 ·rename_i h0; simp only [h0, if_true] at h; exact h
 ·rename_i h0
  simp only [h0, if_false] at h
  refine ⟨h.1, ?_⟩
  rcases h.2 with h | ⟨b, off, n, c, cs, e, fr, h1, h2, h3, h4, h5, h6⟩
  ·exact .inl h
  ·obtain ⟨hb, hm⟩ := hw b h1
   exact .inr ⟨b, off, n, c, cs, e, fr, h1, h2, hb.trans h3, h4, h5, fun k hk hk' => (hm _).trans (h6 k hk hk')⟩
def cellV (L : List Nat) (w : World) (id j : Nat) : Value :=
 match L[id]? with
 | some b => (w.cell? ⟨b, j, none⟩).getD undef
 | none => undef
def cellA (H : List AObj) (id j : Nat) : AV :=
 match H[id]? with
 | some (.cells es) => es.getD j .any
 | _ => .any
structure Perm where
 wr : Nat → Prop
 top : Nat → Option Nat
 ok : ∀ id n, top id = some n → id < n
 base : Nat := 0
instance : CoeFun Perm fun _ => Nat → Prop := ⟨Perm.wr⟩
def Perm.lim (A : Perm) (len id : Nat) : Nat := match A.top id with | some n => min n len | none => len
theorem Perm.lim_le (A : Perm) (len id : Nat) : A.lim len id ≤ len := by unfold Perm.lim; split <;> omega
theorem Perm.le_lim (A : Perm) {len id : Nat} (h : id < len) : id + 1 ≤ A.lim len id := by
 unfold Perm.lim
 split
 ·rename_i n hn; have := A.ok _ _ hn; omega
 ·omega
theorem Perm.lim_mono (A : Perm) {len len' : Nat} (h : len ≤ len') (id : Nat) : A.lim len id ≤ A.lim len' id := by unfold Perm.lim; split <;> omega
theorem Perm.lim_new (A : Perm) (len : Nat) : A.lim (len + 1) len = len + 1 := by
 have h1 := A.le_lim (len := len + 1) (id := len) (by omega)
 have h2 := A.lim_le (len + 1) len
 omega
structure St (A : Perm) (M : Mem) (L : List Nat) (w : World) (H : List AObj) (ev : Nat → Value) (ea : Nat → AV) (O : Pos → Option Nat) : Prop where
 len : L.length = H.length
 nodup : L.Nodup
 env : ∀ t, Rep M L (ev t) (ea t)
 mem : ∀ b o v, M b o = some v → w.cell? ⟨b, o, none⟩ = some v
 obj : ∀ (id : Nat) (o : AObj) (b : Nat), H[id]? = some o → L[id]? = some b → ORep M L w b o
 strat : ∀ (id : Nat) (o : AObj), H[id]? = some o → o.blw (A.lim H.length id) = true
 lt : ∀ b ∈ L, b < w.heap.size
 spt : ∀ t, Spare M w (ev t) (ea t) (O (.t t))
 spc : ∀ id j, Spare M w (cellV L w id j) (cellA H id j) (O (.c id j))
 oinj : ∀ p q b, O p = some b → O q = some b → p = q
 osep : ∀ p b, O p = some b → b ∉ L
 olt : ∀ p b, O p = some b → b < w.heap.size
 La : ∀ b ∈ L, A b
 Oa : ∀ p b, O p = some b → A b
 fresh : ∀ b, w.heap.size ≤ b → A b
structure Ext (A : Perm) (M : Mem) (w : World) (M' : Mem) (w' : World) : Prop where
 msub : M.sub M'
 size : w.heap.size ≤ w'.heap.size
 os : w'.os = w.os
 tape : w'.tape = w.tape
 output : w'.output = w.output
 keep : ∀ b, b < w.heap.size → ¬ A b → w'.heap[b]? = w.heap[b]? ∧ ∀ o, M' b o = M b o
 loops : ∀ (b : Nat) (r : Loop), w.heap[b]? = some (.loop r) → ∃ r', w'.heap[b]? = some (.loop r') ∧ r'.defers = r.defers
theorem Ext.refl (A : Perm) (M : Mem) (w : World) : Ext A M w M w := ⟨Mem.sub_refl M, Nat.le_refl _, rfl, rfl, rfl, fun _ _ _ => ⟨rfl, fun _ => rfl⟩, fun b r h => ⟨r, h, rfl⟩⟩
theorem Ext.trans {A : Perm} {M M1 M2 : Mem} {w w1 w2 : World} (h : Ext A M w M1 w1) (k : Ext A M1 w1 M2 w2) : Ext A M w M2 w2 :=
 ⟨Mem.sub_trans h.msub k.msub, Nat.le_trans h.size k.size, k.os.trans h.os, k.tape.trans h.tape, k.output.trans h.output, fun b hb hA => by
   obtain ⟨h1, h2⟩ := h.keep b hb hA
   obtain ⟨k1, k2⟩ := k.keep b (Nat.lt_of_lt_of_le hb h.size) hA
   exact ⟨k1.trans h1, fun o => (k2 o).trans (h2 o)⟩, fun b r hr => by
   obtain ⟨r1, h1, e1⟩ := h.loops b r hr
   obtain ⟨r2, h2, e2⟩ := k.loops b r1 h1
   exact ⟨r2, h2, e2.trans e1⟩⟩
end Go.Abs
end
section
namespace Go.Abs
open Go
def upd {α : Type} (f : Nat → α) (d : Nat) (v : α) : Nat → α := fun t => if t = d then v else f t
def updP (O : Pos → Option Nat) (p : Pos) (ob : Option Nat) : Pos → Option Nat := fun q => if q = p then ob else O q
theorem upd_same {α : Type} (f : Nat → α) (d : Nat) (v : α) : upd f d v d = v := by simp [upd]
section
variable {A : Perm} {M : Mem} {L : List Nat} {w : World} {H : List AObj} {ev : Nat → Value} {ea : Nat → AV} {O : Pos → Option Nat}
theorem St.put (h : St A M L w H ev ea O) (d : Nat) {v : Value} {x : AV} (hr : Rep M L v x) (ob : Option Nat) (hs : Spare M w v x ob)
 (h1 : ∀ p b, ob = some b → O p = some b → p = .t d) (h2 : ∀ b, ob = some b → b ∉ L ∧ b < w.heap.size ∧ A b) :
 St A M L w H (upd ev d v) (upd ea d x) (updP O (.t d) ob) where
 len := h.len
 nodup := h.nodup
 env t := by
  by_cases e : t = d
  ·subst e; simpa [upd] using hr
  ·simpa [upd, e] using h.env t
 mem := h.mem
 obj := h.obj
 strat := h.strat
 lt := h.lt
 spt t := by
  by_cases e : t = d
  ·subst e; simpa [upd, updP] using hs
  ·simpa [upd, updP, e] using h.spt t
 spc id j := by simpa [updP] using h.spc id j
 oinj p q b hp hq := by
  simp only [updP] at hp hq
  split at hp <;> split at hq
  ·simp_all
  ·rename_i e1 e2; exact absurd (h1 q b hp hq) e2
  ·rename_i e1 e2; exact absurd (h1 p b hq hp) e1
  ·exact h.oinj p q b hp hq
 osep p b hp := by
  simp only [updP] at hp
  split at hp
  ·exact (h2 b hp).1
  ·exact h.osep p b hp
 olt p b hp := by
  simp only [updP] at hp
  split at hp
  ·exact (h2 b hp).2.1
  ·exact h.olt p b hp
 La := h.La
 Oa p b hp := by
  simp only [updP] at hp
  split at hp
  ·exact (h2 b hp).2.2
  ·exact h.Oa p b hp
 fresh := h.fresh
theorem Spare.free {v : Value} {x : AV} (hx : ∀ own xs, x = .lst own xs → own = 0) : Spare M w v x none := by
 cases x <;> first | rfl | skip
 rename_i own xs
 have := hx own xs rfl
 simp [Spare, this]
theorem AV.unown_free (x : AV) : ∀ own xs, x.unown = .lst own xs → own = 0 := by
 intro own xs h
 cases x <;> simp_all [AV.unown]
theorem AV.drop_free (x : AV) : ∀ own xs, x.drop = .lst own xs → own = 0 := by
 intro own xs h
 cases x <;> simp_all [AV.drop]
theorem St.put0 (h : St A M L w H ev ea O) (d : Nat) {v : Value} {x : AV} (hr : Rep M L v x) (hx : ∀ own xs, x = .lst own xs → own = 0) :
 St A M L w H (upd ev d v) (upd ea d x) (updP O (.t d) none) :=
 h.put d hr none (Spare.free hx) (fun p b e => by cases e) (fun b e => by cases e)
theorem St.congr (h : St A M L w H ev ea O) {ev' : Nat → Value} {ea' : Nat → AV} (h1 : ∀ t, ev' t = ev t) (h2 : ∀ t, ea' t = ea t) : St A M L w H ev' ea' O := by
 rw [show ev' = ev from funext h1, show ea' = ea from funext h2]; exact h
theorem St.grow (h : St A M L w H ev ea O) {M' : Mem} {w' : World} (hs : M.sub M') (hmem : ∀ b o v, M' b o = some v → w'.cell? ⟨b, o, none⟩ = some v)
 (hsz : w.heap.size ≤ w'.heap.size) (hw : ∀ b, b < w.heap.size → w'.heap[b]? = w.heap[b]?) (hM : ∀ b, b < w.heap.size → ∀ o, M' b o = M b o) : St A M' L w' H ev ea O where
 len := h.len
 nodup := h.nodup
 env t := (h.env t).mono hs (List.prefix_refl _)
 mem := hmem
 obj id o b ho hb := by
  have hlt := h.lt b (List.mem_of_getElem? hb)
  exact (h.obj id o b ho hb).mono hs (List.prefix_refl _) (hw b hlt) (hM b hlt)
 strat := h.strat
 lt b hb := Nat.lt_of_lt_of_le (h.lt b hb) hsz
 spt t := (h.spt t).mono fun b hb => ⟨hw b (h.olt _ b hb), hM b (h.olt _ b hb)⟩
 spc id j := by
  have e : cellV L w' id j = cellV L w id j := by
   unfold cellV
   split
   ·rename_i b hb
    have hlt := h.lt b (List.mem_of_getElem? hb)
    simp [World.cell?, hw b hlt]
   ·rfl
  rw [e]
  exact (h.spc id j).mono fun b hb => ⟨hw b (h.olt _ b hb), hM b (h.olt _ b hb)⟩
 oinj := h.oinj
 osep := h.osep
 olt p b hp := Nat.lt_of_lt_of_le (h.olt p b hp) hsz
 La := h.La
 Oa := h.Oa
 fresh b hb := h.fresh b (Nat.le_trans hsz hb)
theorem Ext.grow {M' : Mem} {w' : World} (hs : M.sub M') (hsz : w.heap.size ≤ w'.heap.size) (hos : w'.os = w.os) (htape : w'.tape = w.tape) (hout : w'.output = w.output)
 (hw : ∀ b, b < w.heap.size → w'.heap[b]? = w.heap[b]?) (hM : ∀ b, b < w.heap.size → ∀ o, M' b o = M b o) : Ext A M w M' w' :=
 ⟨hs, hsz, hos, htape, hout, fun b hb _ => ⟨hw b hb, hM b hb⟩, fun b r h => ⟨r, (hw b (Array.getElem?_eq_some_iff.1 h).1).trans h, rfl⟩⟩
theorem St.drew (h : St A M L w H ev ea O) : St A M L { w with drawn := w.drawn + 1 } H ev ea O :=
 h.grow (Mem.sub_refl M) (fun b o v hv => h.mem b o v hv) (Nat.le_refl _) (fun _ _ => rfl) (fun _ _ _ => rfl)
theorem Ext.drew : Ext A M w M { w with drawn := w.drawn + 1 } := Ext.grow (Mem.sub_refl M) (Nat.le_refl _) rfl rfl rfl (fun _ _ => rfl) (fun _ _ _ => rfl)
theorem mem_fresh (h : St A M L w H ev ea O) {b : Nat} (hb : w.heap.size ≤ b) (o : Nat) : M b o = none := by
 cases hm : M b o with
 | none => rfl
 | some v =>
   have := h.mem b o v hm
   simp [World.cell?, Array.getElem?_eq_none hb] at this
def Mem.add (M : Mem) (b : Nat) (cs : List Value) : Mem := fun b' o => if b' = b then cs[o]? else M b' o
theorem heap_push_lt (w : World) (o : Obj) {b : Nat} (hb : b < w.heap.size) : (w.heap.push o)[b]? = w.heap[b]? := by
 rw [Array.getElem?_push, if_neg (by omega)]
theorem heap_push_new (w : World) (o : Obj) : (w.heap.push o)[w.heap.size]? = some o := by simp
theorem St.addBlock (h : St A M L w H ev ea O) (cs : Array Value) (e : TypeId) (fr : Nat × Nat) (rw : List Value) (hrw : ∀ (j : Nat) (v : Value), rw[j]? = some v → cs[j]? = some v) :
 St A (M.add w.heap.size rw) L { w with heap := w.heap.push (.cells cs e fr) } H ev ea O ∧ Ext A M w (M.add w.heap.size rw) { w with heap := w.heap.push (.cells cs e fr) } ∧
 (M.add w.heap.size rw).row w.heap.size 0 rw := by
 have hsub : M.sub (M.add w.heap.size rw) := by
  intro b o v hv
  have hne : b ≠ w.heap.size := by
   rintro rfl
   rw [mem_fresh h (Nat.le_refl _)] at hv; cases hv
  simp [Mem.add, hne, hv]
 have hM : ∀ b, b < w.heap.size → ∀ o, (M.add w.heap.size rw) b o = M b o := fun b hb o => by simp [Mem.add, show b ≠ w.heap.size by omega]
 refine ⟨h.grow hsub ?_ (by simp) (fun b hb => heap_push_lt w _ hb) hM, Ext.grow hsub (by simp) rfl rfl rfl (fun b hb => heap_push_lt w _ hb) hM, ?_⟩
 ·intro b o v hv
  by_cases e0 : b = w.heap.size
  ·subst e0
   simp only [Mem.add, if_true] at hv
   simp only [World.cell?, heap_push_new]
   simpa using hrw o v hv
  ·simp only [Mem.add, e0, if_false] at hv
   have := h.mem b o v hv
   have hlt : b < w.heap.size := by
    rcases Nat.lt_or_ge b w.heap.size with h' | h'
    ·exact h'
    ·rw [mem_fresh h h'] at hv; cases hv
   simp only [World.cell?] at this ⊢
   rw [heap_push_lt w _ hlt]; exact this
 ·intro j v hv
  simpa [Mem.add] using hv
theorem St.addImm (h : St A M L w H ev ea O) (cs : Array Value) (e : TypeId) :
 St A (M.add w.heap.size cs.toList) L { w with heap := w.heap.push (.cells cs e) } H ev ea O ∧ Ext A M w (M.add w.heap.size cs.toList) { w with heap := w.heap.push (.cells cs e) } ∧
 (M.add w.heap.size cs.toList).row w.heap.size 0 cs.toList :=
 h.addBlock cs e (0, 0) cs.toList (fun j v hv => by simpa using hv)
def objCell (ob : Obj) (j : Nat) : Value := match ob with | .cells cs _ _ => (cs[j]?).getD undef | _ => undef
def aobjCell (ao : AObj) (j : Nat) : AV := match ao with | .cells es => es.getD j .any | _ => .any
theorem St.addObj (h : St A M L w H ev ea O) (ob : Obj) (ao : AObj) (hsh : ∀ w', w'.heap[w.heap.size]? = some ob → (∀ o, M w.heap.size o = none) → ORep M (L ++ [w.heap.size]) w' w.heap.size ao)
 (hb : ao.blw (H.length + 1) = true) (hsp : ∀ j, Spare M w (objCell ob j) (aobjCell ao j) none) :
 St A M (L ++ [w.heap.size]) { w with heap := w.heap.push ob } (H ++ [ao]) ev ea O ∧ Ext A M w M { w with heap := w.heap.push ob } := by
 have hpre : L <+: L ++ [w.heap.size] := ⟨_, rfl⟩
 have hO : ∀ j, O (.c H.length j) = none := by
  intro j
  have := h.spc H.length j
  simp only [cellA, List.getElem?_eq_none (Nat.le_refl _)] at this
  exact this
 have hkeep : ∀ b, b < w.heap.size → (w.heap.push ob)[b]? = w.heap[b]? := fun b hb => heap_push_lt w _ hb
 refine ⟨?_, Ext.grow (Mem.sub_refl M) (by simp) rfl rfl rfl hkeep (fun _ _ _ => rfl)⟩
 refine { len := by simp [h.len], nodup := ?_, env := fun t => (h.env t).mono (Mem.sub_refl M) hpre, mem := ?_, obj := ?_, strat := ?_, lt := ?_, spt := ?_, spc := ?_, oinj := h.oinj, osep := ?_, olt := ?_, La := ?_, Oa := h.Oa, fresh := ?_ }
 ·rw [List.nodup_append]
  refine ⟨h.nodup, by simp, ?_⟩
  intro a ha b hb'
  simp at hb'
  subst hb'
  exact Nat.ne_of_lt (h.lt a ha)
 ·intro b o v hv
  have := h.mem b o v hv
  have hlt : b < w.heap.size := by
   rcases Nat.lt_or_ge b w.heap.size with h' | h'
   ·exact h'
   ·rw [mem_fresh h h'] at hv; cases hv
  simp only [World.cell?] at this ⊢
  rw [hkeep b hlt]; exact this
 ·intro id o b ho hb'
  by_cases e : id < H.length
  ·rw [List.getElem?_append_left e] at ho
   rw [List.getElem?_append_left (by rw [h.len]; exact e)] at hb'
   exact (h.obj id o b ho hb').mono (Mem.sub_refl M) hpre (hkeep b (h.lt b (List.mem_of_getElem? hb'))) (fun _ => rfl)
  ·rw [List.getElem?_append_right (by omega)] at ho
   rw [List.getElem?_append_right (by rw [h.len]; omega)] at hb'
   have e0 : id - H.length = 0 := by
    have := (List.getElem?_eq_some_iff.1 ho).1
    simp at this; omega
   rw [e0] at ho
   rw [h.len, e0] at hb'
   simp at ho hb'
   subst ho; subst hb'
   exact hsh _ (heap_push_new w ob) (fun o => mem_fresh h (Nat.le_refl _) o)
 ·intro id o ho
  rw [List.length_append, List.length_singleton]
  by_cases e : id < H.length
  ·rw [List.getElem?_append_left e] at ho
   exact AObj.blw_mono (A.lim_mono (Nat.le_succ _) id) o (h.strat id o ho)
  ·rw [List.getElem?_append_right (by omega)] at ho
   have e0 : id - H.length = 0 := by
    have := (List.getElem?_eq_some_iff.1 ho).1
    simp at this; omega
   rw [e0] at ho
   simp at ho
   subst ho
   rw [show id = H.length by omega, A.lim_new]; exact hb
 ·intro b hb'
  simp at hb' ⊢
  rcases hb' with hb' | rfl
  ·have := h.lt b hb'; omega
  ·omega
 ·intro t
  exact (h.spt t).mono fun b hb' => ⟨hkeep b (h.olt _ b hb'), fun _ => rfl⟩
 ·intro id j
  by_cases e : id < H.length
  ·have e1 : cellV (L ++ [w.heap.size]) { w with heap := w.heap.push ob } id j = cellV L w id j := by
    unfold cellV
    rw [List.getElem?_append_left (by rw [h.len]; exact e)]
    split
    ·rename_i b hb'
     simp only [World.cell?]
     rw [hkeep b (h.lt b (List.mem_of_getElem? hb'))]
    ·rfl
   have e2 : cellA (H ++ [ao]) id j = cellA H id j := by
    unfold cellA
    rw [List.getElem?_append_left e]
   rw [e1, e2]
   exact (h.spc id j).mono fun b hb' => ⟨hkeep b (h.olt _ b hb'), fun _ => rfl⟩
  ·by_cases e0 : id = H.length
   ·subst e0
    rw [hO j]
    have e1 : cellV (L ++ [w.heap.size]) { w with heap := w.heap.push ob } H.length j = objCell ob j := by
     unfold cellV
     rw [List.getElem?_append_right (by rw [h.len]; omega), h.len]
     simp only [Nat.sub_self, List.getElem?_cons_zero, World.cell?, heap_push_new]
     cases ob <;> simp [objCell]
    have e2 : cellA (H ++ [ao]) H.length j = aobjCell ao j := by
     unfold cellA
     rw [List.getElem?_append_right (Nat.le_refl _)]
     simp only [Nat.sub_self, List.getElem?_cons_zero]
     cases ao <;> rfl
    rw [e1, e2]
    exact (hsp j).mono fun b hb' => by cases hb'
   ·have hn : O (.c id j) = none := by
     have := h.spc id j
     simp only [cellA, List.getElem?_eq_none (show H.length ≤ id by omega)] at this
     exact this
    rw [hn]
    have e2 : cellA (H ++ [ao]) id j = .any := by
     unfold cellA
     rw [List.getElem?_eq_none (by simp; omega)]
    rw [e2]; rfl
 ·intro p b hp hmem
  simp at hmem
  rcases hmem with hmem | rfl
  ·exact h.osep p b hp hmem
  ·exact absurd (h.olt p _ hp) (Nat.lt_irrefl _)
 ·intro p b hp
  have := h.olt p b hp
  simp; omega
 ·intro b hb'
  simp at hb'
  rcases hb' with hb' | rfl
  ·exact h.La b hb'
  ·exact h.fresh _ (Nat.le_refl _)
 ·intro b hb'
  simp at hb'
  exact h.fresh b (by omega)
structure Moves (O O' : Pos → Option Nat) : Prop where
 inj : ∀ p q b, O' p = some b → O' q = some b → p = q
 rng : ∀ p b, O' p = some b → ∃ q, O q = some b
theorem St.write (h : St A M L w H ev ea O) {id b : Nat} {es es' : List AV} {cs cs' : Array Value} {e : TypeId} {ea' : Nat → AV} {O' : Pos → Option Nat} (hid : H[id]? = some (.cells es)) (hL : L[id]? = some b)
 (hc : w.heap[b]? = some (.cells cs e (0, 0))) (hr : RepL M L cs'.toList es') (hbl : belowL (A.lim H.length id) es' = true) (hm : Moves O O') (henv : ∀ t, Rep M L (ev t) (ea' t))
 (spt : ∀ t, Spare M w (ev t) (ea' t) (O' (.t t))) (spc : ∀ j, Spare M w ((cs'[j]?).getD undef) (es'.getD j .any) (O' (.c id j))) (spo : ∀ id' j, id' ≠ id → O' (.c id' j) = O (.c id' j)) :
 St A M L (w.setRow b cs') (H.set id (.cells es')) ev ea' O' ∧ Ext A M w M (w.setRow b cs') := by
 have hbL : b ∈ L := List.mem_of_getElem? hL
 have hsz : (w.setRow b cs').heap.size = w.heap.size := by simp [World.setRow]
 have hoth : ∀ k, k ≠ b → (w.setRow b cs').heap[k]? = w.heap[k]? := by
  intro k hk
  simp only [World.setRow, Array.getElem?_modify]
  rw [if_neg (fun e => hk e.symm)]
 have hnew : (w.setRow b cs').heap[b]? = some (.cells cs' e (0, 0)) := by
  simp only [World.setRow, Array.getElem?_modify, if_true, hc, Option.map_some]
 obtain ⟨_, _, _, _, hMb⟩ := h.obj id _ b hid hL
 have hidl : id < H.length := get_lt hid
 have howns : ∀ p k, O' p = some k → (w.setRow b cs').heap[k]? = w.heap[k]? := by
  intro p k hp
  obtain ⟨q, hq⟩ := hm.rng p k hp
  exact hoth k (fun e0 => h.osep q k hq (e0 ▸ hbL))
 refine ⟨{ len := by simp [h.len], nodup := h.nodup, env := henv, mem := ?_, obj := ?_, strat := ?_, lt := ?_, spt := ?_, spc := ?_, oinj := hm.inj, osep := ?_, olt := ?_, La := h.La, Oa := ?_, fresh := ?_ }, ?_⟩
 ·intro k o v hv
  have hk : k ≠ b := by rintro rfl; rw [hMb o] at hv; cases hv
  have := h.mem k o v hv
  simp only [World.cell?] at this ⊢
  rw [hoth k hk]; exact this
 ·intro id' o k ho hk
  by_cases e0 : id' = id
  ·subst e0
   rw [hL] at hk; cases hk
   rw [List.getElem?_set_self hidl] at ho
   cases ho
   exact ⟨cs', e, hnew, hr, hMb⟩
  ·rw [List.getElem?_set_ne (fun h' => e0 h'.symm)] at ho
   have hkb : k ≠ b := by
    rintro rfl
    exact e0 ((List.getElem?_inj (get_lt hk) h.nodup).1 (hk.trans hL.symm))
   exact (h.obj id' o k ho hk).mono (Mem.sub_refl M) (List.prefix_refl _) (hoth k hkb) (fun _ => rfl)
 ·intro id' o ho
  rw [List.length_set]
  by_cases e0 : id' = id
  ·subst e0
   rw [List.getElem?_set_self hidl] at ho
   cases ho
   simpa [AObj.blw] using hbl
  ·rw [List.getElem?_set_ne (fun h' => e0 h'.symm)] at ho
   exact h.strat id' o ho
 ·intro k hk; rw [hsz]; exact h.lt k hk
 ·intro t
  exact (spt t).mono fun k hk => ⟨howns _ k hk, fun _ => rfl⟩
 ·intro id' j
  by_cases e0 : id' = id
  ·subst e0
   have e1 : cellV L (w.setRow b cs') id' j = (cs'[j]?).getD undef := by
    unfold cellV
    simp only [hL, World.cell?, hnew]
    simp
   have e2 : cellA (H.set id' (.cells es')) id' j = es'.getD j .any := by
    unfold cellA
    rw [List.getElem?_set_self hidl]
   rw [e1, e2]
   exact (spc j).mono fun k hk => ⟨howns _ k hk, fun _ => rfl⟩
  ·have e1 : cellV L (w.setRow b cs') id' j = cellV L w id' j := by
    unfold cellV
    split
    ·rename_i k hk
     have hkb : k ≠ b := by
      rintro rfl
      exact e0 ((List.getElem?_inj (get_lt hk) h.nodup).1 (hk.trans hL.symm))
     simp only [World.cell?]
     rw [hoth k hkb]
    ·rfl
   have e2 : cellA (H.set id (.cells es')) id' j = cellA H id' j := by
    unfold cellA
    rw [List.getElem?_set_ne (fun h' => e0 h'.symm)]
   rw [e1, e2, spo id' j e0]
   exact (h.spc id' j).mono fun k hk => ⟨hoth k (fun e3 => h.osep _ k hk (e3 ▸ hbL)), fun _ => rfl⟩
 ·intro p k hp
  obtain ⟨q, hq⟩ := hm.rng p k hp
  exact h.osep q k hq
 ·intro p k hp
  obtain ⟨q, hq⟩ := hm.rng p k hp
  rw [hsz]; exact h.olt q k hq
 ·intro p k hp
  obtain ⟨q, hq⟩ := hm.rng p k hp
  exact h.Oa q k hq
 ·intro k hk; rw [hsz] at hk; exact h.fresh k hk
 ·exact ⟨Mem.sub_refl M, by rw [hsz]; exact Nat.le_refl _, rfl, rfl, rfl, fun k hk hA => ⟨hoth k (fun e0 => hA (e0 ▸ h.La b hbL)), fun _ => rfl⟩, fun k r hk => ⟨r, (hoth k (fun e0 => by rw [e0, hc] at hk; cases hk)).trans hk, rfl⟩⟩
theorem St.writeMap (h : St A M L w H ev ea O) {id b : Nat} {es es' : List (AV × AV)} {o' : Obj} (hid : H[id]? = some (.map es)) (hL : L[id]? = some b)
 (hnc : ∀ cs e f, o' ≠ .cells cs e f) (hr : ∀ w', w'.heap[b]? = some o' → ORep M L w' b (.map es')) (hbl : (AObj.map es').blw (A.lim H.length id) = true) :
 St A M L { w with heap := w.heap.setIfInBounds b o' } (H.set id (.map es')) ev ea O ∧ Ext A M w M { w with heap := w.heap.setIfInBounds b o' } := by
 have hbL : b ∈ L := List.mem_of_getElem? hL
 have hblt := h.lt b hbL
 obtain ⟨ents, ck, hc, _, _⟩ := h.obj id _ b hid hL
 have hoth : ∀ k, k ≠ b → (w.heap.setIfInBounds b o')[k]? = w.heap[k]? := fun k hk => by rw [Array.getElem?_setIfInBounds_ne (fun e => hk e.symm)]
 have hnew : (w.heap.setIfInBounds b o')[b]? = some o' := by simp [hblt]
 have hMb : ∀ o, M b o = none := by
  intro o
  cases hm : M b o with
  | none => rfl
  | some v =>
    have := h.mem b o v hm
    simp [World.cell?, hc] at this
 have hidl : id < H.length := get_lt hid
 refine ⟨{ len := by simp [h.len], nodup := h.nodup, env := h.env, mem := ?_, obj := ?_, strat := ?_, lt := ?_, spt := ?_, spc := ?_, oinj := h.oinj, osep := h.osep, olt := ?_, La := h.La, Oa := h.Oa, fresh := ?_ }, ?_⟩
 ·intro k o v hv
  have hk : k ≠ b := by rintro rfl; rw [hMb o] at hv; cases hv
  have := h.mem k o v hv
  simp only [World.cell?] at this ⊢
  rw [hoth k hk]; exact this
 ·intro id' o k ho hk
  by_cases e0 : id' = id
  ·subst e0
   rw [hL] at hk; cases hk
   rw [List.getElem?_set_self hidl] at ho
   cases ho
   exact hr _ hnew
  ·rw [List.getElem?_set_ne (fun h' => e0 h'.symm)] at ho
   have hkb : k ≠ b := by
    rintro rfl
    exact e0 ((List.getElem?_inj (get_lt hk) h.nodup).1 (hk.trans hL.symm))
   exact (h.obj id' o k ho hk).mono (Mem.sub_refl M) (List.prefix_refl _) (hoth k hkb) (fun _ => rfl)
 ·intro id' o ho
  rw [List.length_set]
  by_cases e0 : id' = id
  ·subst e0
   rw [List.getElem?_set_self hidl] at ho
   cases ho
   exact hbl
  ·rw [List.getElem?_set_ne (fun h' => e0 h'.symm)] at ho
   exact h.strat id' o ho
 ·intro k hk; simpa using h.lt k hk
 ·intro t
  exact (h.spt t).mono fun k hk => ⟨hoth k (fun e3 => h.osep _ k hk (e3 ▸ hbL)), fun _ => rfl⟩
 ·intro id' j
  by_cases e0 : id' = id
  ·subst e0
   have hn : O (.c id' j) = none := by
    have := h.spc id' j
    simp only [cellA, hid] at this
    exact this
   have e2 : cellA (H.set id' (.map es')) id' j = .any := by
    unfold cellA
    rw [List.getElem?_set_self hidl]
   rw [e2, hn]; rfl
  ·have e1 : cellV L { w with heap := w.heap.setIfInBounds b o' } id' j = cellV L w id' j := by
    unfold cellV
    split
    ·rename_i k hk
     have hkb : k ≠ b := by
      rintro rfl
      exact e0 ((List.getElem?_inj (get_lt hk) h.nodup).1 (hk.trans hL.symm))
     simp only [World.cell?]
     rw [hoth k hkb]
    ·rfl
   have e2 : cellA (H.set id (.map es')) id' j = cellA H id' j := by
    unfold cellA
    rw [List.getElem?_set_ne (fun h' => e0 h'.symm)]
   rw [e1, e2]
   exact (h.spc id' j).mono fun k hk => ⟨hoth k (fun e3 => h.osep _ k hk (e3 ▸ hbL)), fun _ => rfl⟩
 ·intro p k hp; simpa using h.olt p k hp
 ·intro k hk; simp at hk; exact h.fresh k hk
 ·exact ⟨Mem.sub_refl M, by simp, rfl, rfl, rfl, fun k hk hA => ⟨hoth k (fun e0 => hA (e0 ▸ h.La b hbL)), fun _ => rfl⟩, fun k r hk => ⟨r, (hoth k (fun e0 => by rw [e0, hc] at hk; cases hk)).trans hk, rfl⟩⟩
def AV.le (x y : AV) : Prop := y = x ∨ y = .any ∨ (∃ o xs, x = .lst o xs ∧ y = .lst 0 xs) ∨ (x = .nils ∧ ∃ o, y = .lst o []) ∨ (∃ xs, x = .agg xs ∧ y = .agg (xs.map AV.drop))
theorem Rep.le {v : Value} {x y : AV} (h : Rep M L v x) (hl : x.le y) : Rep M L v y := by
 rcases hl with rfl | rfl | ⟨o, xs, rfl, rfl⟩ | ⟨rfl, o, rfl⟩ | ⟨xs, rfl, rfl⟩
 ·exact h
 ·exact .any _
 ·exact h.relist
 ·cases h; exact .lst0 _ _ _ (by decide)
 ·cases h with
  | agg cs _ hr => exact .agg cs _ hr.map_drop
theorem Spare.le {v : Value} {x y : AV} {ob : Option Nat} (h : Rep M L v x) (hs : Spare M w v x ob) (hl : x.le y) : ∃ ob', Spare M w v y ob' ∧ (ob' = none ∨ ob' = ob) := by
 rcases hl with rfl | rfl | ⟨o, xs, rfl, rfl⟩ | ⟨rfl, o, rfl⟩ | ⟨xs, rfl, rfl⟩
 ·exact ⟨ob, hs, .inr rfl⟩
 ·exact ⟨none, rfl, .inl rfl⟩
 ·exact ⟨none, by simp [Spare], .inl rfl⟩
 ·cases h
  refine ⟨none, ?_, .inl rfl⟩
  by_cases e : o = 0
  ·simp [Spare, e]
  ·simp only [Spare, e, if_false]; exact ⟨by simp, .inl ⟨trivial, none, 0, rfl⟩⟩
 ·exact ⟨none, rfl, .inl rfl⟩
theorem St.weaken' (h : St A M L w H ev ea O) {ea' : Nat → AV} (hl : ∀ t, (ea t).le (ea' t)) : ∃ O', St A M L w H ev ea' O' ∧ ∀ p b, O' p = some b → O p = some b := by
 have hx : ∀ t, ∃ ob', Spare M w (ev t) (ea' t) ob' ∧ (ob' = none ∨ ob' = O (.t t)) := fun t => (h.spt t).le (h.env t) (hl t)
 let f : Nat → Option Nat := fun t => Classical.choose (hx t)
 have hf : ∀ t, Spare M w (ev t) (ea' t) (f t) ∧ (f t = none ∨ f t = O (.t t)) := fun t => Classical.choose_spec (hx t)
 let O' : Pos → Option Nat := fun p => match p with | .t t => f t | .c id j => O (.c id j)
 have hO : ∀ p b, O' p = some b → O p = some b := by
  intro p b hp
  cases p with
  | t t =>
    rcases (hf t).2 with h0 | h0
    ·simp only [O', h0] at hp; cases hp
    ·simpa only [O', h0] using hp
  | c id j => exact hp
 exact ⟨O', { len := h.len, nodup := h.nodup, env := fun t => (h.env t).le (hl t), mem := h.mem, obj := h.obj, strat := h.strat, lt := h.lt, spt := fun t => (hf t).1, spc := h.spc, oinj := fun p q b hp hq => h.oinj p q b (hO p b hp) (hO q b hq), osep := fun p b hp => h.osep p b (hO p b hp), olt := fun p b hp => h.olt p b (hO p b hp), La := h.La, Oa := fun p b hp => h.Oa p b (hO p b hp), fresh := h.fresh }, hO⟩
theorem St.weaken (h : St A M L w H ev ea O) {ea' : Nat → AV} (hl : ∀ t, (ea t).le (ea' t)) : ∃ O', St A M L w H ev ea' O' :=
 let ⟨O', h1, _⟩ := h.weaken' hl
 ⟨O', h1⟩
theorem St.cut (h : St A M L w H ev ea O) (n : Nat) (hc : ∀ id o, id < n → H[id]? = some o → o.blw n = true) (hb : ∀ t, (ea t).blw n = true) : ∃ O', St A M (L.take n) w (H.take n) ev ea O' := by
 let O' : Pos → Option Nat := fun p => match p with | .t t => O (.t t) | .c id j => if id < n then O (.c id j) else none
 have hO : ∀ p b, O' p = some b → O p = some b := by
  intro p b hp
  cases p with
  | t t => exact hp
  | c id j =>
    simp only [O'] at hp
    split at hp
    ·exact hp
    ·cases hp
 have hget : ∀ {α : Type} {l : List α} {i : Nat} {a : α}, (l.take n)[i]? = some a → i < n ∧ l[i]? = some a := by
  intro α l i a hi
  rw [List.getElem?_take] at hi
  split at hi
  ·exact ⟨by assumption, hi⟩
  ·cases hi
 have hmem : ∀ b, b ∈ L.take n → b ∈ L := fun b hb => List.mem_of_mem_take hb
 have hblw : ∀ {m k : Nat} {o : AObj}, m ≤ k → o.blw m = true → o.blw k = true := fun hmk ho => AObj.blw_mono hmk _ ho
 refine ⟨O', { len := by simp [h.len], nodup := (List.take_sublist n L).nodup h.nodup, env := fun t => (h.env t).takeL (hb t), mem := h.mem, obj := ?_, strat := ?_, lt := fun b hb => h.lt b (hmem b hb), spt := h.spt, spc := ?_, oinj := fun p q b hp hq => h.oinj p q b (hO p b hp) (hO q b hq), osep := fun p b hp hm => h.osep p b (hO p b hp) (hmem b hm), olt := fun p b hp => h.olt p b (hO p b hp), La := fun b hb => h.La b (hmem b hb), Oa := fun p b hp => h.Oa p b (hO p b hp), fresh := h.fresh }⟩
 ·intro id o b ho hb'
  obtain ⟨hn, ho⟩ := hget ho
  obtain ⟨_, hb'⟩ := hget hb'
  exact (h.obj id o b ho hb').takeL (hc id o hn ho)
 ·intro id o ho
  obtain ⟨hn, ho⟩ := hget ho
  have h1 := h.strat id o ho
  have h2 := hc id o hn ho
  have hl := get_lt ho
  rw [List.length_take]
  have e : A.lim (min n H.length) id = min n (A.lim H.length id) := by unfold Perm.lim; split <;> omega
  rw [e]
  rcases Nat.le_total n (A.lim H.length id) with h' | h'
  ·rw [Nat.min_eq_left h']; exact h2
  ·rw [Nat.min_eq_right h']; exact h1
 ·intro id j
  by_cases e : id < n
  ·have e1 : cellV (L.take n) w id j = cellV L w id j := by
    unfold cellV
    rw [List.getElem?_take, if_pos e]
   have e2 : cellA (H.take n) id j = cellA H id j := by
    unfold cellA
    rw [List.getElem?_take, if_pos e]
   rw [e1, e2]
   simpa [O', e] using h.spc id j
  ·have e2 : cellA (H.take n) id j = .any := by
    unfold cellA
    rw [List.getElem?_take, if_neg e]
   rw [e2]
   simp [O', e, Spare]
end
end Go.Abs
end
section
namespace Go.Abs
open Go
abbrev Env := List (Nat × AV)
def get : Env → Nat → AV
 | [], _ => .any
 | (k, v) :: r, t => if t = k then v else get r t
inductive IX where
 | t (n : Nat)
 | c (v : AV)
 deriving Inhabited
def aval (env : Env) : IX → AV
 | .t n => get env n
 | .c v => v
inductive IOp where
 | set (x : IX) (take : Bool)
 | pick (c a b : IX)
 | bin (op : BinOp) (x y : IX)
 | shift (op : BinOp) (x y : IX)
 | eqBool (neq : Bool) (x y : IX)
 | eqNil (kd : Nat) (neq : Bool) (x : IX)
 | un (op : UnOp) (x : IX)
 | box (x : IX)
 | boxi (x : IX)
 | boxs (m : Nat) (x : IX)
 | alloc (zero : AV)
 | build (zero : AV) (parts : List (Nat × Nat × IX))
 | buildSlice (own esz : Nat) (zero : AV) (len : Nat) (parts : List (Nat × IX))
 | load (sz : Option Nat) (a : IX)
 | loadf (sz : Option Nat) (esz : Nat) (a : IX)
 | takeCell (a : IX)
 | store (n : Nat) (a x : IX)
 | storeW (n : Nat) (a x : IX)
 | putCell (a : IX) (s : Nat)
 | nilCheck (x : IX)
 | fieldAddr (off : Nat) (sz : Option Nat) (x : IX)
 | field (off : Nat) (sz : Option Nat) (x : IX)
 | indexAddr (esz : Nat) (x i : IX)
 | indexStr (x i : IX)
 | indexArr (n : Nat) (x i : IX)
 | sliceZ (esz : Nat) (x : IX) (lo hi mx : Option IX)
 | slice (esz : Nat) (x : IX) (lo hi max : Option IX)
 | sliceStr (x : IX) (lo hi : Option IX)
 | len (kd : Nat) (x : IX)
 | append (esz bytes : Nat) (s x : IX)
 | mkarr (esz bytes : Nat) (zero : AV) (n : IX)
 | mkbuf (esz bytes : Nat) (n : IX)
 | mkmap
 | lookup (kd : Nat) (zero : AV) (m k : IX) (ok : Bool)
 | mapset (kd : Nat) (m k x : IX)
 | fn (f : Fn) (first captured : List IX)
 | extract (x : IX) (i : Nat)
 | call (f : IX) (args : List IX) (pass : Option Nat)
 | convInt (k : IntKind) (x : IX)
 | convStr (x : IX)
 | bytesOf (x : IX)
 | strOf (x : IX)
 | mx (big : Bool) (a b : IX)
 | copy (esz : Nat) (d s : IX)
 | setf (esz : Nat) (x : IX)
 | litA (esz : Nat) (zero : AV) (len : Nat) (parts : List (Nat × IX))
 | appendA (esz bytes : Nat) (zero : AV) (s x : IX)
 | clearA (esz : Nat) (zero : AV) (x : IX)
 | never
 deriving Inhabited
def ofV : Value → Option AV
 | .bool b => some (.bool b)
 | .int k n => some (.int k n)
 | .string s => some (.str s)
 | .pointer none => some .nilp
 | .map none => some .nilm
 | .nilFunc => some .nilf
 | .nilIface => some .nili
 | .slice none 0 0 => some .nils
 | _ => none
def ofVs : List Value → Option (List AV)
 | [] => some []
 | v :: vs => match ofV v, ofVs vs with
   | some x, some xs => some (x :: xs)
   | _, _ => none
def ofValue : Value → Option AV
 | .agg cs => (ofVs cs.toList).map .agg
 | v => ofV v
section
variable {M : Mem} {L : List Nat}
theorem ofV_rep {v : Value} {x : AV} (h : ofV v = some x) : Rep M L v x := by
 unfold ofV at h
 split at h <;> first | (cases h; constructor) | cases h
theorem ofVs_rep : ∀ {vs : List Value} {xs : List AV}, ofVs vs = some xs → RepL M L vs xs
 | [], xs, h => by simp [ofVs] at h; subst h; exact .nil
 | v :: vs, xs, h => by
   unfold ofVs at h
   split at h
   ·rename_i x ys h1 h2
    cases h
    exact .cons _ _ _ _ (ofV_rep h1) (ofVs_rep h2)
   ·cases h
theorem ofValue_rep {v : Value} {x : AV} (h : ofValue v = some x) : Rep M L v x := by
 unfold ofValue at h
 split at h
 ·rename_i cs
  obtain ⟨xs, h1, rfl⟩ := Option.map_eq_some_iff.1 h
  have := Rep.agg cs.toList xs (ofVs_rep (M := M) (L := L) h1)
  simpa using this
 ·exact ofV_rep h
end
def compX : Operand → Option IX
 | .tmp t => some (.t t)
 | .const v => (ofValue v).map .c
 | .func f => some (.c (.fn (.func f) [] []))
 | .global _ => none
def compXs : List Operand → Option (List IX)
 | [] => some []
 | x :: xs => match compX x, compXs xs with
   | some i, some is => some (i :: is)
   | _, _ => none
def tsz (P : Program) (t : TypeId) : Option (Option Nat) :=
 match P.info? t, P.underlying t with
 | some i, some (.struct _) => some (some i.size)
 | some i, some (.array _ _) => some (some i.size)
 | some i, some _ => if i.size = 1 then some none else none
 | _, _ => none
def tzero (P : Program) (t : TypeId) : Option AV :=
 match P.info? t with
 | some i => match i.zero with
   | some v => ofValue v
   | none => none
 | none => none
def tcells (P : Program) (t : TypeId) : Option Nat := (P.info? t).map (·.size)
def Dfs (A : Perm) (w : World) (ds : List Deferred) : Prop := A.base ≤ w.heap.size ∧ ds.Nodup ∧ ∀ d ∈ ds, ∃ D, d = { target := .collected D, args := #[] } ∧ w.heap[D]? = some (.deferred (some [])) ∧ ¬ A D ∧ A.base ≤ D
theorem Dfs.ext {A : Perm} {M M' : Mem} {w w' : World} {ds : List Deferred} (h : Dfs A w ds) (hx : Ext A M w M' w') : Dfs A w' ds :=
 ⟨Nat.le_trans h.1 hx.size, h.2.1, fun d hd => by
   obtain ⟨D, h1, h2, h3⟩ := h.2.2 d hd
   exact ⟨D, h1, (hx.keep D (Array.getElem?_eq_some_iff.1 h2).1 h3.1).1.trans h2, h3⟩⟩
def wf (ro : Option Nat) : Fence := { Fence.wide with round := ro }
theorem semAt_ok {o : Oper} {ρ : Operand → Value} {P : Program} {w w' : World} {x : Next} (ro : Option Nat) (h : (execOp ρ o).run P w = .ok x w') (hx : ∀ d, x ≠ .defer d) : (o.semAt (wf ro).round ρ).run P w = .ok x w' := by
 rw [Oper.semAt_eq]
 ·exact h
 ·intro c hc
  simp only [execOp, hc, Sem.run_bind] at h
  cases hr : (resolve ρ c o.type).run P w with
  | ok d w1 => rw [hr] at h; simp only [Result.andThen_ok, Sem.run_pure] at h; cases h; exact hx _ rfl
  | halt e w1 => rw [hr] at h; cases h
theorem wpIn_run {o : Oper} {P : Program} {a : Act} {w w' : World} {x : Next} {ro : Option Nat} {N : Act → World → Prop} {Q : Exit → Act → World → Prop} (h : (execOp a.eval o).run P w = .ok x w') (hx : ∀ d, x ≠ .defer d)
 (hu : o.uponIn (wf ro) 0 P a N Q (.ok x w')) : o.wpIn (wf ro) 0 P a w N Q := by
 refine ⟨fun _ _ => trivial, ?_⟩
 rw [semAt_ok ro h hx]
 exact hu
structure Fr (A : Perm) (n : Nat) (M : Mem) (L : List Nat) (w : World) (H : List AObj) (env : Env) (O : Pos → Option Nat) (a : Act) : Prop where
 st : St A M L w H (fun t => a.tmps.getD t undef) (get env) O
 size : a.tmps.size = n
 defers : Dfs A w a.defers
def Aft (A : Perm) (n : Nat) (M : Mem) (L : List Nat) (w : World) (K : Env → List AObj → Prop) (a' : Act) (w' : World) : Prop :=
 ∃ M' L' H' env' O', K env' H' ∧ Fr A n M' L' w' H' env' O' a' ∧ Ext A M w M' w' ∧ L <+: L'
def put (dst : Option Nat) (x : AV) (env : Env) : Env := match dst with | some d => (d, x) :: env | none => env
section
variable {ro : Option Nat} {A : Perm} {n : Nat} {M : Mem} {L : List Nat} {w : World} {H : List AObj} {env : Env} {O : Pos → Option Nat} {a : Act}
theorem get_cons (d : Nat) (x : AV) (env : Env) : get ((d, x) :: env) = upd (get env) d x := rfl
theorem Fr.eval (h : Fr A n M L w H env O a) {x : Operand} {i : IX} (hc : compX x = some i) : Rep M L (a.eval x) (aval env i) := by
 cases x with
 | tmp t => simp [compX] at hc; subst hc; exact h.st.env t
 | const v =>
   simp only [compX] at hc
   obtain ⟨y, h1, rfl⟩ := Option.map_eq_some_iff.1 hc
   exact ofValue_rep h1
 | func f => simp [compX] at hc; subst hc; exact .fn _ [] [] [] [] .nil .nil
 | global g => simp [compX] at hc
theorem Fr.evals (h : Fr A n M L w H env O a) : ∀ {xs : List Operand} {is : List IX}, compXs xs = some is → RepL M L (xs.map a.eval) (is.map (aval env))
 | [], is, hc => by simp [compXs] at hc; subst hc; exact .nil
 | x :: xs, is, hc => by
   unfold compXs at hc
   split at hc
   ·rename_i i is' h1 h2
    cases hc
    exact .cons _ _ _ _ (h.eval h1) (h.evals h2)
   ·cases hc
theorem getD_put (a : Act) (d : Nat) (v : Value) (hd : d < a.tmps.size) (t : Nat) : (a.put (some d) v).tmps.getD t undef = upd (fun t => a.tmps.getD t undef) d v t := by
 simp only [Act.put, upd, Array.getD_eq_getD_getElem?, Array.getElem?_setIfInBounds]
 by_cases e : t = d
 ·subst e; simp [hd]
 ·simp [e, show ¬ d = t from fun h => e h.symm]
theorem Fr.putO (h : Fr A n M L w H env O a) {d : Nat} (hd : d < n) {v : Value} {x : AV} (hr : Rep M L v x) (ob : Option Nat) (hs : Spare M w v x ob)
 (h1 : ∀ p b, ob = some b → O p = some b → p = .t d) (h2 : ∀ b, ob = some b → b ∉ L ∧ b < w.heap.size ∧ A b) :
 Fr A n M L w H ((d, x) :: env) (updP O (.t d) ob) (a.put (some d) v) := by
 refine ⟨(h.st.put d hr ob hs h1 h2).congr (fun t => getD_put a d v (by rw [h.size]; exact hd) t) (fun t => rfl), ?_, h.defers⟩
 simp [Act.put, h.size]
theorem Fr.put0 (h : Fr A n M L w H env O a) {dst : Option Nat} (hd : ∀ d, dst = some d → d < n) {v : Value} {x : AV} (hr : Rep M L v x) (hx : ∀ own xs, x = .lst own xs → own = 0) :
 ∃ O', Fr A n M L w H (put dst x env) O' (a.put dst v) := by
 cases dst with
 | none => exact ⟨O, h⟩
 | some d => exact ⟨_, h.putO (hd d rfl) hr none (Spare.free hx) (fun p b e => by cases e) (fun b e => by cases e)⟩
theorem Fr.putFull (h : Fr A n M L w H env O a) {dst : Option Nat} (hd : ∀ d, dst = some d → d < n) {ad : Option Addr} {m : Nat} {own : Nat} {xs : List AV} (hr : Rep M L (.slice ad m m) (.lst own xs)) (hx : own ≠ 0 → ∀ y ∈ xs, y.cells.length = own) :
 ∃ O', Fr A n M L w H (put dst (.lst own xs) env) O' (a.put dst (.slice ad m m)) := by
 cases dst with
 | none => exact ⟨O, h⟩
 | some d =>
   refine ⟨_, h.putO (hd d rfl) hr none ?_ (fun p b e => by cases e) (fun b e => by cases e)⟩
   by_cases e : own = 0
   ·simp [Spare, e]
   ·simp only [Spare, e, if_false]; exact ⟨hx e, .inl ⟨trivial, ad, m, rfl⟩⟩
theorem Fr.mono (h : Fr A n M L w H env O a) {M' : Mem} {w' : World} {L' : List Nat} {H' : List AObj} {O' : Pos → Option Nat} (hst : St A M' L' w' H' (fun t => a.tmps.getD t undef) (get env) O') (hx : Ext A M w M' w') : Fr A n M' L' w' H' env O' a :=
 ⟨hst, h.size, h.defers.ext hx⟩
theorem wp_value {P : Program} {o : Oper} {Q : Exit → Act → World → Prop} {K : Env → List AObj → Prop} {v : Value} {w' : World} (hrun : (execOp a.eval o).run P w = .ok (.value v) w')
 (h : Aft A n M L w K (a.put o.dst v) w') : o.wpIn (wf ro) 0 P a w (Aft A n M L w K) Q := by
 exact wpIn_run hrun (by intro d e; cases e) h
theorem wp_skipped {P : Program} {o : Oper} {Q : Exit → Act → World → Prop} {K : Env → List AObj → Prop} {w' : World} (hrun : (execOp a.eval o).run P w = .ok .skip w')
 (h : Aft A n M L w K (a.put o.dst undef) w') : o.wpIn (wf ro) 0 P a w (Aft A n M L w K) Q := by
 exact wpIn_run hrun (by intro d e; cases e) h
theorem wp_pure {P : Program} {o : Oper} {Q : Exit → Act → World → Prop} {K : Env → List AObj → Prop} {v : Value} {x : AV} (h : Fr A n M L w H env O a) (hd : ∀ d, o.dst = some d → d < n)
 (hrun : (execOp a.eval o).run P w = .ok (.value v) w) (hr : Rep M L v x) (hx : ∀ own xs, x = .lst own xs → own = 0) (hK : K (put o.dst x env) H) : o.wpIn (wf ro) 0 P a w (Aft A n M L w K) Q := by
 obtain ⟨O', hf⟩ := h.put0 hd hr hx
 exact wp_value hrun ⟨M, L, H, _, O', hK, hf, Ext.refl A M w, List.prefix_refl L⟩
end
def setE (env : Env) (d : Nat) (x : IX) (take : Bool) : Env :=
 match x, take with
 | .t s, true => (d, get env s) :: (s, (get env s).unown) :: env
 | x, _ => (d, (aval env x).unown) :: env
def boolP (x : AV) (φ : Bool → Prop) : Prop := match x with | .bool b => φ b | _ => False
end Go.Abs
end
section
namespace Go.Abs
open Go
def AV.val : AV → Bool
 | .any => false
 | .tuple _ => false
 | _ => true
def asplice {α : Type} (zs : List α) (off : Nat) (xs : List α) : List α := zs.take off ++ (xs ++ zs.drop (off + xs.length))
section
variable {M : Mem} {L : List Nat}
theorem Rep.vcells {v : Value} {x : AV} (h : Rep M L v x) (hv : x.val = true) : RepL M L v.cells.toList x.cells := by
 cases h with
 | agg cs xs hr => simpa [Value.cells, AV.cells] using hr
 | any v => simp [AV.val] at hv
 | tuple => simp [AV.val] at hv
 | lst b off c own e cs xs he hx hn hle hc hr hm => exact .one (.lst b off c own e cs xs he hx hn hle hc hr hm)
 | _ => (simp only [Value.cells, AV.cells]; exact .one (by constructor <;> assumption))
theorem RepL.splice {cs : List Value} {xs : List AV} (h : RepL M L cs xs) {zs : List Value} {ys : List AV} (off : Nat) (hz : RepL M L zs ys) : RepL M L (asplice zs off cs) (asplice ys off xs) := by
 unfold asplice
 rw [h.length]
 exact (hz.take off).append (h.append (hz.drop _))
theorem RepL.map_unown : ∀ {vs : List Value} {xs : List AV}, RepL M L vs xs → RepL M L vs (xs.map AV.unown)
 | _, _, .nil => .nil
 | _, _, .cons v x vs xs h t => .cons v _ _ _ h.unown t.map_unown
end
theorem asplice_length {α : Type} (zs : List α) (off : Nat) (xs : List α) (h : off + xs.length ≤ zs.length) : (asplice zs off xs).length = zs.length := by
 unfold asplice; simp; omega
def abin (op : BinOp) (x y : AV) (φ : AV → Prop) : Prop :=
 match x, y with
 | .int k a, .int k' b => k = k' ∧
   match op with
   | .add => φ (.int k (k.wrap (a + b)))
   | .sub => φ (.int k (k.wrap (a - b)))
   | .mul => φ (.int k (k.wrap (a * b)))
   | .quo => b ≠ 0 ∧ φ (.int k (k.wrap (a.tdiv b)))
   | .rem => b ≠ 0 ∧ φ (.int k (a.tmod b))
   | .and => φ (.int k (k.wrap (BitVec.ofInt k.bits a &&& BitVec.ofInt k.bits b).toNat))
   | .or => φ (.int k (k.wrap (BitVec.ofInt k.bits a ||| BitVec.ofInt k.bits b).toNat))
   | .xor => φ (.int k (k.wrap (BitVec.ofInt k.bits a ^^^ BitVec.ofInt k.bits b).toNat))
   | .andNot => φ (.int k (k.wrap (BitVec.ofInt k.bits a &&& ~~~ BitVec.ofInt k.bits b).toNat))
   | .eql => φ (.bool (decide (a = b)))
   | .neq => φ (.bool (decide (a ≠ b)))
   | .lss => φ (.bool (decide (a < b)))
   | .leq => φ (.bool (decide (a ≤ b)))
   | .gtr => φ (.bool (decide (b < a)))
   | .geq => φ (.bool (decide (b ≤ a)))
   | _ => False
 | .str a, .str b =>
   match op with
   | .add => a.size + b.size < 9223372036854775808 ∧ φ (.str (a ++ b))
   | .eql => φ (.bool (decide (a = b)))
   | .neq => φ (.bool (decide (a ≠ b)))
   | .lss => φ (.bool (Op.bytesLess a.data.toList b.data.toList))
   | .geq => φ (.bool (!Op.bytesLess a.data.toList b.data.toList))
   | .leq => φ (.bool (!Op.bytesLess b.data.toList a.data.toList))
   | .gtr => φ (.bool (Op.bytesLess b.data.toList a.data.toList))
   | _ => False
 | _, _ => False
def ashift (op : BinOp) (x y : AV) (φ : AV → Prop) : Prop :=
 match x, y with
 | .int k a, .int _ b => 0 ≤ b ∧
   match op with
   | .shl => φ (.int k (k.wrap (a * 2 ^ (min b.toNat k.bits))))
   | .shr => φ (.int k (a.fdiv (2 ^ (min b.toNat k.bits))))
   | _ => False
 | _, _ => False
def aeqBool (neq : Bool) (x y : AV) (φ : AV → Prop) : Prop :=
 match x, y with
 | .bool a, .bool b => φ (.bool (if neq then decide (a ≠ b) else decide (a = b)))
 | _, _ => False
def isNil (kd : Nat) (x : AV) : Option Bool :=
 match kd, x with
 | 0, .nils => some true
 | 0, .lst _ (_ :: _) => some false
 | 0, .arr _ _ _ _ => some false
 | 1, .nilp => some true
 | 1, .ptr _ _ => some false
 | 1, .iptr _ => some false
 | 2, .nilm => some true
 | 2, .map _ => some false
 | 3, .nilf => some true
 | 3, .fn _ _ _ => some false
 | _, _ => none
def aeqNil (kd : Nat) (neq : Bool) (x : AV) (φ : AV → Prop) : Prop :=
 match isNil kd x with
 | some b => φ (.bool (if neq then !b else b))
 | none => match kd, x with
   | 0, .lst _ [] => φ (.bool true) ∧ φ (.bool false)
   | _, _ => False
def aun (op : UnOp) (x : AV) (φ : AV → Prop) : Prop :=
 match op, x with
 | .not, .bool b => φ (.bool (!b))
 | .neg, .int k n => φ (.int k (k.wrap (0 - n)))
 | _, _ => False
def afill (zs : List AV) : List (Nat × Nat × AV) → (List AV → Prop) → Prop
 | [], φ => φ zs
 | (off, sz, x) :: r, φ => x.val = true ∧ x.cells.length = sz ∧ off + sz ≤ zs.length ∧ afill (asplice zs off (x.cells.map AV.unown)) r φ
def aload (sz : Option Nat) (x : AV) (H : List AObj) (φ : AV → Prop) : Prop :=
 match x with
 | .ptr id off => match H[id]? with
   | some (.cells es) => match sz with
     | some m => off + m ≤ es.length ∧ φ (.agg (((es.drop off).take m).map AV.drop))
     | none => off < es.length ∧ φ (es.getD off .any).unown
   | _ => False
 | .iptr y => match sz with
   | some m => y.cells.length = m ∧ φ (.agg y.cells)
   | none => y.one = true ∧ φ y.unown
 | _ => False
def apart (off : Nat) (sz : Option Nat) (xs : List AV) (φ : AV → Prop) : Prop :=
 match sz with
 | some m => off + m ≤ xs.length ∧ φ (.agg ((xs.drop off).take m))
 | none => off < xs.length ∧ (xs.getD off .any).one = true ∧ φ (xs.getD off .any)
def afieldAddr (off : Nat) (sz : Option Nat) (x : AV) (φ : AV → Prop) : Prop :=
 match x with
 | .ptr id o => φ (.ptr id (o + off))
 | .iptr y => apart off sz y.cells fun z => φ (.iptr z)
 | _ => False
def afield (off : Nat) (sz : Option Nat) (x : AV) (φ : AV → Prop) : Prop :=
 match x with
 | .agg xs => apart off sz xs fun z => φ z.drop
 | _ => False
def aindexAddr (esz : Nat) (x i : AV) (φ : AV → Prop) : Prop :=
 match x, i with
 | .lst _ xs, .int _ i => 0 ≤ i ∧ i.toNat < xs.length ∧ φ (.iptr (xs.getD i.toNat .any))
 | .arr id off len _, .int _ i => 0 ≤ i ∧ i.toNat < len ∧ φ (.ptr id (off + i.toNat * esz))
 | _, _ => False
def aindexArr (n : Nat) (x i : AV) (φ : AV → Prop) : Prop :=
 match x, i with
 | .agg xs, .int _ i => xs.length = n ∧ 0 ≤ i ∧ i.toNat < n ∧ φ (xs.getD i.toNat .any).drop
 | _, _ => False
def aindexStr (x i : AV) (φ : AV → Prop) : Prop :=
 match x, i with
 | .str s, .int _ i => 0 ≤ i ∧ i.toNat < s.size ∧ φ (.int .u8 (s.data.toList.getD i.toNat 0).toNat)
 | _, _ => False
def alen (x : AV) (H : List AObj) (φ : AV → Prop) : Prop :=
 match x with
 | .str s => φ (.int .i64 s.size)
 | .nils => φ (.int .i64 0)
 | .lst _ xs => xs.length < 9223372036854775808 → φ (.int .i64 xs.length)
 | .arr _ _ len _ => φ (.int .i64 len)
 | .emp => φ (.int .i64 0)
 | .nilm => φ (.int .i64 0)
 | .map id => match H[id]? with
   | some (.map es) => φ (.int .i64 es.length)
   | _ => False
 | _ => False
def aextract (x : AV) (i : Nat) (φ : AV → Prop) : Prop :=
 match x with
 | .tuple xs => i < xs.length ∧ φ (xs.getD i .any).unown
 | _ => False
def anilCheck (x : AV) (φ : AV → Prop) : Prop :=
 match x with
 | .ptr .. | .iptr _ => φ x
 | .fn (.func _) _ _ => φ x
 | _ => False
def aconvInt (k : IntKind) (x : AV) (φ : AV → Prop) : Prop :=
 match x with
 | .int _ n => φ (.int k (k.wrap n))
 | _ => False
def amx (big : Bool) (x y : AV) (φ : AV → Prop) : Prop :=
 match x, y with
 | .int k a, .int _ b => φ (.int k (if big then (if b > a then b else a) else (if b < a then b else a)))
 | _, _ => False
section
variable {P : Program} {w : World} {M : Mem} {L : List Nat} {H : List AObj}
theorem bytesLess_or : ∀ x y : List UInt8, (Op.bytesLess x y || x == y) = !Op.bytesLess y x
 | [], [] => rfl
 | [], b :: y => by simp [Op.bytesLess]
 | a :: x, [] => by simp [Op.bytesLess]
 | a :: x, b :: y => by
   have ih := bytesLess_or x y
   simp only [Op.bytesLess, List.cons_beq_cons]
   rcases Nat.lt_trichotomy a.toNat b.toNat with h | h | h
   ·have h1 : a < b := UInt8.lt_iff_toNat_lt.2 h
    have h2 : ¬ b < a := fun h' => by have := UInt8.lt_iff_toNat_lt.1 h'; omega
    have h3 : (b == a) = false := by
     rw [beq_eq_false_iff_ne]; rintro rfl; omega
    simp [h1, h2, h3]
   ·have h0 : a = b := UInt8.toNat_inj.1 h
    subst h0
    simp [ih]
   ·have h1 : b < a := UInt8.lt_iff_toNat_lt.2 h
    have h2 : ¬ a < b := fun h' => by have := UInt8.lt_iff_toNat_lt.1 h'; omega
    have h3 : (a == b) = false := by
     rw [beq_eq_false_iff_ne]; rintro rfl; omega
    simp [h1, h2, h3]
theorem bytes_eq (a b : ByteArray) : (a.toList == b.toList) = decide (a = b) := by
 rw [ByteArray.toList_eq, ByteArray.toList_eq]
 by_cases e : a = b
 ·subst e; simp
 ·have h0 : ¬ a.data.toList = b.data.toList := fun h => e (by cases a; cases b; simp_all [Array.toList_inj])
  rw [show (a.data.toList == b.data.toList) = false from beq_eq_false_iff_ne.2 h0]
  simp [e]
theorem dec_beq {α : Type} [DecidableEq α] (a b : α) : (a == b) = decide (a = b) := by
 by_cases h : a = b <;> simp [h]
theorem abin_run {op : BinOp} {t : TypeId} {u v : Value} {x y : AV} {φ : AV → Prop} (h : abin op x y φ) (hu : Rep M L u x) (hv : Rep M L v y) (X Y : Operand) :
 ∃ r z, (do eqGuard op t X Y u v; binOp op t u v : Sem Value).run P w = .ok r w ∧ Rep M L r z ∧ φ z ∧ ∀ own xs, z = .lst own xs → own = 0 := by
 have guard_int : ∀ (k k' : IntKind) (a b : Int), (eqGuard op t X Y (.int k a) (.int k' b)).run P w = .ok () w := by
  intro k k' a b; unfold eqGuard; cases op <;> rfl
 have guard_str : ∀ (a b : ByteArray), (eqGuard op t X Y (.string a) (.string b)).run P w = .ok () w := by
  intro a b; unfold eqGuard; cases op <;> rfl
 unfold abin at h
 split at h
 ·rename_i k a k' b
  cases hu; cases hv
  obtain ⟨rfl, h⟩ := h
  simp only [Sem.run_bind, guard_int, Result.andThen_ok]
  cases op <;> simp only at h <;> first
   | exact h.elim
   | exact ⟨_, _, rfl, .int _ _, h, by intro _ _ e; cases e⟩
   | (obtain ⟨h0, h⟩ := h
      refine ⟨_, _, ?_, .int _ _, h, by intro _ _ e; cases e⟩
      simp [binOp, Op.intDiv, h0]; done)
   | skip
  all_goals first
   | (refine ⟨_, _, ?_, .int _ _, h, by intro _ _ e; cases e⟩
      simp [binOp, Op.intArith, Op.intBits]; done)
   | (refine ⟨_, _, ?_, .bool _, h, by intro _ _ e; cases e⟩
      simp [binOp, Op.intCmp]; done)
   | skip
  all_goals
   refine ⟨_, _, ?_, .bool _, h, by intro _ _ e; cases e⟩
   simp [binOp, Op.intCmp, bne, dec_beq]
 ·rename_i a b
  cases hu; cases hv
  simp only [Sem.run_bind, guard_str, Result.andThen_ok]
  cases op <;> simp only at h <;> first
   | exact h.elim
   | skip
  ·obtain ⟨h0, h⟩ := h
   refine ⟨_, _, ?_, .str _, h, by intro _ _ e; cases e⟩
   have : ¬ ((a.size + b.size : Nat) : Int) > IntKind.i64.max := by
    have : IntKind.i64.max = 9223372036854775807 := rfl
    rw [this]; omega
   simp only [binOp, Op.stringOp, this, if_false, Sem.run_pure]
  ·exact ⟨_, _, rfl, .bool _, by rw [bytes_eq]; exact h, by intro _ _ e; cases e⟩
  ·exact ⟨_, _, rfl, .bool _, by rw [bytes_eq]; simpa using h, by intro _ _ e; cases e⟩
  ·exact ⟨_, _, rfl, .bool _, by rw [ByteArray.toList_eq, ByteArray.toList_eq]; exact h, by intro _ _ e; cases e⟩
  ·exact ⟨_, _, rfl, .bool _, by rw [ByteArray.toList_eq, ByteArray.toList_eq, bytesLess_or]; exact h, by intro _ _ e; cases e⟩
  ·exact ⟨_, _, rfl, .bool _, by rw [ByteArray.toList_eq, ByteArray.toList_eq, bytesLess_or, Bool.not_not]; exact h, by intro _ _ e; cases e⟩
  ·exact ⟨_, _, rfl, .bool _, by rw [ByteArray.toList_eq, ByteArray.toList_eq]; exact h, by intro _ _ e; cases e⟩
 ·exact h.elim
theorem ashift_run {op : BinOp} {t : TypeId} {u v : Value} {x y : AV} {φ : AV → Prop} (h : ashift op x y φ) (hu : Rep M L u x) (hv : Rep M L v y) (X Y : Operand) :
 ∃ r z, (do eqGuard op t X Y u v; binOp op t u v : Sem Value).run P w = .ok r w ∧ Rep M L r z ∧ φ z ∧ ∀ own xs, z = .lst own xs → own = 0 := by
 unfold ashift at h
 split at h
 ·rename_i k a k' b
  cases hu; cases hv
  obtain ⟨h0, h⟩ := h
  have guard_int : (eqGuard op t X Y (.int k a) (.int k' b)).run P w = .ok () w := by
   unfold eqGuard; cases op <;> rfl
  simp only [Sem.run_bind, guard_int, Result.andThen_ok]
  have hn : ¬ b < 0 := by omega
  cases op <;> simp only at h <;> first
   | exact h.elim
   | (refine ⟨_, _, ?_, .int _ _, h, by intro _ _ e; cases e⟩
      simp [binOp, Op.shift, hn]; done)
 ·exact h.elim
theorem run_equalIn_bool (d : Nat) {t : TypeId} (ht : P.underlying t = some .bool) (a b : Bool) : (Op.equalIn (d + 1) t (.bool a) (.bool b)).run P w = .ok (a == b) w := by
 simp only [Op.equalIn, Sem.run_bind, run_underlying ht, Result.andThen_ok, Sem.run_pure]
theorem run_equal_bool {t : TypeId} (ht : P.underlying t = some .bool) (a b : Bool) : (Op.equal t (.bool a) (.bool b)).run P w = .ok (a == b) w := run_equalIn_bool 9999 ht a b
theorem aeqBool_run {neq : Bool} {t : TypeId} (ht : P.underlying t = some .bool) {u v : Value} {x y : AV} {φ : AV → Prop} (h : aeqBool neq x y φ) (hu : Rep M L u x) (hv : Rep M L v y) (X Y : Operand) :
 ∃ r z, (do eqGuard (if neq then .neq else .eql) t X Y u v; binOp (if neq then .neq else .eql) t u v : Sem Value).run P w = .ok r w ∧ Rep M L r z ∧ φ z ∧ ∀ own xs, z = .lst own xs → own = 0 := by
 unfold aeqBool at h
 split at h
 ·rename_i a b
  cases hu; cases hv
  cases neq
  ·refine ⟨_, .bool (a == b), ?_, .bool (a == b), ?_, by intro _ _ e; cases e⟩
   ·simp only [Bool.false_eq_true, if_false, Sem.run_bind, eqGuard, Sem.run_pure, Result.andThen_ok, binOp, run_equal_bool ht]; rfl
   ·rw [dec_beq]; exact h
  ·refine ⟨_, .bool (!(a == b)), ?_, .bool (!(a == b)), ?_, by intro _ _ e; cases e⟩
   ·simp only [if_true, Sem.run_bind, eqGuard, Sem.run_pure, Result.andThen_ok, binOp, run_equal_bool ht]; rfl
   ·rw [dec_beq]; simpa using h
 ·exact h.elim
theorem aun_run {op : UnOp} {u : Value} {x : AV} {φ : AV → Prop} (h : aun op x φ) (hu : Rep M L u x) :
 ∃ r z, (Op.unary op u).run P w = .ok r w ∧ Rep M L r z ∧ φ z ∧ ∀ own xs, z = .lst own xs → own = 0 := by
 unfold aun at h
 split at h
 ·cases hu; exact ⟨_, _, rfl, .bool _, h, by intro _ _ e; cases e⟩
 ·cases hu; exact ⟨_, _, rfl, .int _ _, h, by intro _ _ e; cases e⟩
 ·exact h.elim
theorem row_cells {cs : List Value} {b off : Nat} (hm : M.row b off cs) (hmem : ∀ b o v, M b o = some v → w.cell? ⟨b, o, none⟩ = some v) :
 ∀ j v, cs[j]? = some v → w.cell? ((⟨b, off, none⟩ : Addr).add j) = some v := by
 intro j v hv
 rw [Addr.add_lit]
 exact hmem _ _ _ (hm j v hv)
theorem run_isAgg_false {t : TypeId} {m : Nat} (h : tsz P t = some none) : (isAgg t).run P w = .ok false w ∧ (P.info? t).map (·.size) = some 1 := by
 unfold tsz at h
 split at h <;> try cases h
 rename_i i d h1 h2 hi hd
 split at h
 ·rename_i h3
  refine ⟨?_, by simp [hi, h3]⟩
  simp only [isAgg, Sem.run_bind, run_underlying hd, Result.andThen_ok]
  cases d <;> first | rfl | (exact absurd rfl (h1 _)) | (exact absurd rfl (h2 _ _))
 ·cases h
theorem run_isAgg_true {t : TypeId} {m : Nat} (h : tsz P t = some (some m)) : (isAgg t).run P w = .ok true w ∧ (sizeOf t).run P w = .ok m w := by
 unfold tsz at h
 split at h <;> try cases h
 ·rename_i i f hi hd
  refine ⟨?_, ?_⟩
  ·simp only [isAgg, Sem.run_bind, run_underlying hd, Result.andThen_ok]; rfl
  ·simp [sizeOf, typeInfo, hi]
 ·rename_i i l e hi hd
  refine ⟨?_, ?_⟩
  ·simp only [isAgg, Sem.run_bind, run_underlying hd, Result.andThen_ok]; rfl
  ·simp [sizeOf, typeInfo, hi]
 ·split at h <;> cases h
end
end Go.Abs
end
section
namespace Go.Abs
open Go
section
variable {P : Program} {w : World} {M : Mem} {L : List Nat} {H : List AObj} {A : Perm} {ev : Nat → Value} {ea : Nat → AV} {O : Pos → Option Nat}
theorem cells_of_obj (hs : St A M L w H ev ea O) {id b : Nat} {es : List AV} (hid : H[id]? = some (.cells es)) (hL : L[id]? = some b) :
 ∃ cs e, w.heap[b]? = some (.cells cs e (0, 0)) ∧ RepL M L cs.toList es ∧ ∀ j v, cs.toList[j]? = some v → w.cell? ⟨b, j, none⟩ = some v := by
 obtain ⟨cs, e, h1, h2, _⟩ := hs.obj id _ b hid hL
 exact ⟨cs, e, h1, h2, fun j v hv => by simpa [World.cell?, h1] using hv⟩
theorem list_drop_take {α : Type} (l : List α) (off m j : Nat) (v : α) (h : ((l.drop off).take m)[j]? = some v) : l[off + j]? = some v := by
 rw [List.getElem?_take] at h
 split at h
 ·rwa [List.getElem?_drop] at h
 ·cases h
theorem aload_run {sz : Option Nat} {t : TypeId} (ht : tsz P t = some sz) {u : Value} {x : AV} {φ : AV → Prop} (hs : St A M L w H ev ea O) (h : aload sz x H φ) (hu : Rep M L u x) :
 ∃ r z, (Instr.loadAt t u).run P w = .ok r w ∧ Rep M L r z ∧ φ z ∧ ∀ own xs, z = .lst own xs → own = 0 := by
 unfold aload at h
 split at h
 ·rename_i id off
  cases hu with
  | ptr b _ _ hl =>
  split at h
  ·rename_i es hid
   obtain ⟨cs, e, h1, h2, h3⟩ := cells_of_obj hs hid hl
   have hlen := h2.length
   cases sz with
   | some m =>
     obtain ⟨hm, hφ⟩ := h
     obtain ⟨r1, r2⟩ := run_isAgg_true (w := w) ht
     have hcl : ((cs.toList.drop off).take m).length = m := by simp at hlen ⊢; omega
     have hld := run_loadCells_list (P := P) w ⟨b, off, none⟩ ((cs.toList.drop off).take m) (fun j v hv => by rw [Addr.add_lit]; exact h3 _ _ (list_drop_take _ _ _ _ _ hv))
     rw [hcl] at hld
     refine ⟨.agg ((cs.toList.drop off).take m).toArray, .agg (((es.drop off).take m).map AV.drop), ?_, ?_, hφ, by intro _ _ e; cases e⟩
     ·simp only [Instr.loadAt, Instr.sureAddr, loadVar, Sem.run_bind, Sem.run_pure, Result.andThen_ok, r1, if_true, r2, hld]
     ·have := Rep.agg _ _ (((h2.drop off).take m).map_drop)
      simpa using this
   | none =>
     obtain ⟨hm, hφ⟩ := h
     obtain ⟨r1, r2⟩ := run_isAgg_false (w := w) (m := 0) ht
     have hoff : off < cs.toList.length := by omega
     have hcell := h3 off cs.toList[off] (by simp)
     have hrep := h2.getD off
     refine ⟨cs.toList[off], _, ?_, ?_, hφ, AV.unown_free _⟩
     ·simp only [Instr.loadAt, Instr.sureAddr, loadVar, Sem.run_bind, Sem.run_pure, Result.andThen_ok, r1, Bool.false_eq_true, if_false, run_load, hcell]
     ·have e0 : cs.toList.getD off undef = cs.toList[off] := by rw [List.getD_eq_getElem?_getD, List.getElem?_eq_getElem hoff]; rfl
      rw [e0] at hrep
      exact hrep.unown
  ·exact h.elim
 ·rename_i y
  cases hu with
  | iptr b off cs _ hr hm =>
  have hcells := row_cells hm hs.mem
  cases sz with
  | some m =>
    obtain ⟨hm', hφ⟩ := h
    obtain ⟨r1, r2⟩ := run_isAgg_true (w := w) ht
    have hcl : cs.length = m := hr.length.trans hm'
    have hld := run_loadCells_list (P := P) w ⟨b, off, none⟩ cs hcells
    rw [hcl] at hld
    refine ⟨.agg cs.toArray, .agg y.cells, ?_, .agg cs y.cells hr, hφ, by intro _ _ e; cases e⟩
    simp only [Instr.loadAt, Instr.sureAddr, loadVar, Sem.run_bind, Sem.run_pure, Result.andThen_ok, r1, if_true, r2, hld]
  | none =>
    obtain ⟨hm', hφ⟩ := h
    obtain ⟨r1, r2⟩ := run_isAgg_false (w := w) (m := 0) ht
    have hy : y.cells = [y] := by cases y <;> first | rfl | simp [AV.one] at hm'
    rw [hy] at hr
    obtain ⟨v, rfl, hv⟩ := hr.one_inv
    have hcell := hcells 0 v (by simp)
    rw [Addr.add_lit, Nat.add_zero] at hcell
    refine ⟨v, _, ?_, hv.unown, hφ, AV.unown_free _⟩
    simp only [Instr.loadAt, Instr.sureAddr, loadVar, Sem.run_bind, Sem.run_pure, Result.andThen_ok, r1, Bool.false_eq_true, if_false, run_load, hcell]
 ·exact h.elim
def tfield (P : Program) (s : TypeId) (f : Nat) : Option (Nat × Option Nat) :=
 match P.underlying s with
 | some (.struct fields) => match fields[f]? with
   | some fd => match tsz P fd.type, tcells P fd.type with
     | some sz, some k => if k = 0 then none else some (fd.offset, sz)
     | _, _ => none
   | none => none
 | _ => none
theorem tfield_spec {s : TypeId} {f off : Nat} {sz : Option Nat} (h : tfield P s f = some (off, sz)) :
 ∃ fields fd k, P.underlying s = some (.struct fields) ∧ fields[f]? = some fd ∧ fd.offset = off ∧ tsz P fd.type = some sz ∧ (P.info? fd.type).map (·.size) = some k ∧ k ≠ 0 := by
 unfold tfield at h
 split at h <;> try cases h
 rename_i fields hu
 split at h <;> try cases h
 rename_i fd hf
 split at h <;> try cases h
 rename_i sz' k hs hk
 split at h <;> cases h
 rename_i hk0
 exact ⟨fields, fd, k, hu, hf, rfl, hs, hk, hk0⟩
theorem afieldAddr_run {s : TypeId} {f off : Nat} {sz : Option Nat} (ht : tfield P s f = some (off, sz)) {u : Value} {x : AV} {φ : AV → Prop} (h : afieldAddr off sz x φ) (hu : Rep M L u x) :
 ∃ r z, (Instr.fieldAt s u f).run P w = .ok r w ∧ Rep M L r z ∧ φ z ∧ ∀ own xs, z = .lst own xs → own = 0 := by
 obtain ⟨fields, fd, k, hu1, hf, rfl, hs, hk, hk0⟩ := tfield_spec ht
 have hrun : ∀ b o, (Instr.fieldAt s (.pointer (some ⟨b, o, none⟩)) f).run P w = .ok (.pointer (some ⟨b, o + fd.offset, none⟩)) w := by
  intro b o
  obtain ⟨i, hi, hik⟩ := Option.map_eq_some_iff.1 hk
  have hsz : (sizeOf fd.type).run P w = .ok k w := by simp [sizeOf, typeInfo, hi, hik]
  simp only [Instr.fieldAt, Instr.sureAddr, Sem.run_bind, run_underlying hu1, Result.andThen_ok, hf, Sem.run_pure, fieldPlace, hsz, hk0, if_false, Addr.add_lit]
 unfold afieldAddr at h
 split at h
 ·rename_i id o
  cases hu with
  | ptr b _ _ hl => exact ⟨_, _, hrun b o, .ptr b (o + fd.offset) id hl, h, by intro _ _ e; cases e⟩
 ·rename_i y
  cases hu with
  | iptr b o cs _ hr hm =>
  refine ⟨.pointer (some ⟨b, o + fd.offset, none⟩), ?_⟩
  unfold apart at h
  cases sz with
  | some m =>
    obtain ⟨hle, hφ⟩ := h
    refine ⟨_, hrun b o, .iptr b (o + fd.offset) ((cs.drop fd.offset).take m) _ (by simpa [AV.cells] using (hr.drop fd.offset).take m) ?_, hφ, by intro _ _ e; cases e⟩
    intro j v hv
    have := hm _ _ (list_drop_take _ _ _ _ _ hv)
    rwa [← Nat.add_assoc] at this
  | none =>
    obtain ⟨hle, h1, hφ⟩ := h
    have hl := hr.length
    have hoff : fd.offset < cs.length := by omega
    have hx : ∃ z, y.cells[fd.offset]? = some z := ⟨_, List.getElem?_eq_getElem hle⟩
    obtain ⟨z, hz⟩ := hx
    obtain ⟨v, hv, hrep⟩ := hr.get _ z hz
    have e0 : y.cells.getD fd.offset .any = z := by rw [List.getD_eq_getElem?_getD, hz]; rfl
    rw [e0] at hφ h1
    have hag : z.cells = [z] := by cases z <;> first | rfl | simp [AV.one] at h1
    refine ⟨_, hrun b o, .iptr b (o + fd.offset) [v] z (by rw [hag]; exact .one hrep) ?_, hφ, by intro _ _ e; cases e⟩
    intro j u' hu'
    cases j with
    | zero => simp at hu'; subst hu'; simpa using hm _ _ hv
    | succ j => simp at hu'
 ·exact h.elim
theorem afield_run {s : TypeId} {f off : Nat} {sz : Option Nat} (ht : tfield P s f = some (off, sz)) {u : Value} {x : AV} {φ : AV → Prop} (h : afield off sz x φ) (hu : Rep M L u x) :
 ∃ r z, (Instr.field s u f).run P w = .ok r w ∧ Rep M L r z ∧ φ z ∧ ∀ own xs, z = .lst own xs → own = 0 := by
 obtain ⟨fields, fd, k, hu1, hf, rfl, hs, hk, hk0⟩ := tfield_spec ht
 unfold afield at h
 split at h
 ·rename_i xs
  cases hu with
  | agg cs _ hr =>
  unfold apart at h
  cases sz with
  | some m =>
    obtain ⟨hle, hφ⟩ := h
    obtain ⟨r1, r2⟩ := run_isAgg_true (w := w) hs
    refine ⟨.agg ((cs.drop fd.offset).take m).toArray, _, ?_, (Rep.agg _ _ ((hr.drop fd.offset).take m)).drop, hφ, AV.drop_free _⟩
    simp only [Instr.field, Sem.run_bind, run_underlying hu1, Result.andThen_ok, hf, part, r1, if_true, asAgg, Sem.run_pure, r2]
    congr 2
    apply Array.ext'
    simp []
  | none =>
    obtain ⟨hle, h1, hφ⟩ := h
    obtain ⟨r1, r2⟩ := run_isAgg_false (w := w) (m := 0) hs
    have hoff : fd.offset < cs.length := by have := hr.length; omega
    have hrep := hr.getD fd.offset
    have e0 : cs.getD fd.offset undef = cs[fd.offset] := by rw [List.getD_eq_getElem?_getD, List.getElem?_eq_getElem hoff]; rfl
    rw [e0] at hrep
    refine ⟨cs[fd.offset], _, ?_, hrep.drop, hφ, AV.drop_free _⟩
    simp [Instr.field, run_underlying hu1, hf, part, r1, asAgg, hoff]
 ·exact h.elim
theorem flat_get : ∀ (xs : List AV) (e : Nat), (∀ x ∈ xs, x.cells.length = e) → ∀ i j x, xs[i]? = some x → j < e → (flat xs)[i * e + j]? = x.cells[j]?
 | [], e, _, i, j, x, h, _ => by simp at h
 | y :: ys, e, hx, 0, j, x, h, hj => by
   simp at h; subst h
   have := hx y (by simp)
   simp only [flat, List.flatMap_cons, Nat.zero_mul, Nat.zero_add]
   rw [List.getElem?_append_left (by omega)]
 | y :: ys, e, hx, i + 1, j, x, h, hj => by
   have hy := hx y (by simp)
   have ih := flat_get ys e (fun x h => hx x (by simp [h])) i j x (by simpa using h) hj
   simp only [flat, List.flatMap_cons]
   rw [List.getElem?_append_right (by rw [hy, Nat.add_mul]; omega), hy, show (i + 1) * e + j - e = i * e + j by rw [Nat.add_mul]; omega]
   exact ih
theorem elem_rep {b off e : Nat} {cs : List Value} {xs : List AV} (hx : ∀ x ∈ xs, x.cells.length = e) (hr : RepL M L cs (flat xs)) (hm : M.row b off cs) {i : Nat} {x : AV} (hi : xs[i]? = some x) :
 Rep M L (.pointer (some ⟨b, off + i * e, none⟩)) (.iptr x) := by
 have hlen := hx x (List.mem_of_getElem? hi)
 refine .iptr b (off + i * e) ((cs.drop (i * e)).take e) x ?_ ?_
 ·have h2 := (hr.drop (i * e)).take e
  have : ((flat xs).drop (i * e)).take e = x.cells := by
   apply List.ext_getElem?
   intro j
   rw [List.getElem?_take]
   split
   ·rename_i hj
    rw [List.getElem?_drop, flat_get xs e hx i j x hi hj]
   ·rename_i hj
    rw [List.getElem?_eq_none (by omega)]
  rwa [this] at h2
 ·intro j v hv
  have := hm _ _ (list_drop_take _ _ _ _ _ hv)
  rwa [← Nat.add_assoc] at this
theorem aindexAddr_run {t e esz : Nat} (ht : P.underlying t = some (.slice e)) (hz : tcells P e = some esz) {u v : Value} {x y : AV} {φ : AV → Prop} (h : aindexAddr esz x y φ)
 (hesz : ∀ own xs, x = .lst own xs → ∀ z ∈ xs, z.cells.length = esz) (hu : Rep M L u x) (hv : Rep M L v y) :
 ∃ r z, (Instr.indexAt t u v).run P w = .ok r w ∧ Rep M L r z ∧ φ z ∧ ∀ own xs, z = .lst own xs → own = 0 := by
 have hsz : (sizeOf e).run P w = .ok esz w := by
  obtain ⟨i, hi, hik⟩ := Option.map_eq_some_iff.1 hz
  simp [sizeOf, typeInfo, hi, hik]
 have hrun : ∀ (b o len cap : Nat) (k : IntKind) (i : Int), 0 ≤ i → i.toNat < len → (Instr.indexAt t (.slice (some ⟨b, o, none⟩) len cap) (.int k i)).run P w = .ok (.pointer (some ⟨b, o + i.toNat * esz, none⟩)) w := by
  intro b o len cap k i h0 h1
  have hc : 0 ≤ i ∧ i < (len : Int) := ⟨h0, by omega⟩
  simp only [Instr.indexAt, asIntOf, Sem.run_bind, Sem.run_pure, Result.andThen_ok, run_underlying ht, hc, and_self, if_true, hsz, Addr.add_lit]
 unfold aindexAddr at h
 split at h
 ·rename_i own xs k i
  obtain ⟨h0, h1, hφ⟩ := h
  cases hv
  have hi : xs[i.toNat]? = some (xs.getD i.toNat .any) := by rw [List.getD_eq_getElem?_getD, List.getElem?_eq_getElem h1]; rfl
  cases hu with
  | lst0 => simp at h1
  | lst b off c _ e' cs _ he hx hn hle hc hr hm =>
    have e0 : e' = esz := by
     have h2 := hx _ (List.mem_of_getElem? hi)
     have h3 := hesz own xs rfl _ (List.mem_of_getElem? hi)
     omega
    subst e0
    exact ⟨_, _, hrun b off _ c _ i h0 h1, elem_rep hx hr hm hi, hφ, by intro _ _ e; cases e⟩
 ·rename_i id off len cap k i
  obtain ⟨h0, h1, hφ⟩ := h
  cases hv
  cases hu with
  | arr b _ _ _ _ hl hc => exact ⟨_, _, hrun b off len cap _ i h0 h1, .ptr b _ id hl, hφ, by intro _ _ e; cases e⟩
 ·exact h.elim
theorem aindexArr_run {t e : TypeId} {n : Nat} (ht : P.underlying t = some (.array n e)) (he : tsz P e = some none) {u v : Value} {x y : AV} {φ : AV → Prop} (h : aindexArr n x y φ) (hu : Rep M L u x) (hv : Rep M L v y) :
 ∃ r z, (Instr.index t u v).run P w = .ok r w ∧ Rep M L r z ∧ φ z ∧ ∀ own xs, z = .lst own xs → own = 0 := by
 unfold aindexArr at h
 split at h
 ·rename_i xs k i
  obtain ⟨hn, h0, h1, hφ⟩ := h
  cases hv
  cases hu with
  | agg cs _ hr =>
  obtain ⟨r1, r2⟩ := run_isAgg_false (w := w) (m := 1) he
  have hil : i.toNat < cs.length := by have := hr.length; omega
  have hrep := hr.getD i.toNat
  have e0 : cs.getD i.toNat undef = cs[i.toNat] := by rw [List.getD_eq_getElem?_getD, List.getElem?_eq_getElem hil]; rfl
  rw [e0] at hrep
  refine ⟨cs[i.toNat], _, ?_, hrep.drop, hφ, AV.drop_free _⟩
  have hlt : i < (n : Int) := by omega
  obtain ⟨inf, hinf, hsz⟩ := Option.map_eq_some_iff.1 r2
  have rz : (sizeOf e).run P w = .ok 1 w := by simp [sizeOf, typeInfo, hinf, hsz]
  simp [Instr.index, asIntOf, run_underlying ht, h0, hlt, part, r1, rz, hil]
 ·exact h.elim
theorem aindexStr_run {t : TypeId} (ht : P.underlying t = some .string) {u v : Value} {x y : AV} {φ : AV → Prop} (h : aindexStr x y φ) (hu : Rep M L u x) (hv : Rep M L v y) :
 ∃ r z, (Instr.index t u v).run P w = .ok r w ∧ Rep M L r z ∧ φ z ∧ ∀ own xs, z = .lst own xs → own = 0 := by
 unfold aindexStr at h
 split at h
 ·rename_i s k i
  obtain ⟨h0, h1, hφ⟩ := h
  cases hu; cases hv
  have e1 : s[i.toNat]? = some s[i.toNat] := by simp [h1]
  have e2 : s.data.toList.getD i.toNat 0 = s[i.toNat] := by
   have : i.toNat < s.data.size := h1
   rw [List.getD_eq_getElem?_getD, Array.getElem?_toList, Array.getElem?_eq_getElem this]; rfl
  rw [e2] at hφ
  refine ⟨_, _, ?_, .int _ _, hφ, by intro _ _ e; cases e⟩
  simp only [Instr.index, asIntOf, Sem.run_bind, Sem.run_pure, Result.andThen_ok, run_underlying ht, h0, if_true, e1]
 ·exact h.elim
def lenFit (d : TypeDesc) (x : AV) : Bool :=
 match d, x with
 | .string, .str _ => true
 | .slice _, .nils => true
 | .slice _, .lst _ _ => true
 | .slice _, .arr _ _ _ _ => true
 | .slice _, .emp => true
 | .map _ _, .nilm => true
 | .map _ _, .map _ => true
 | _, _ => false
theorem alen_run {t : TypeId} {d : TypeDesc} (ht : P.underlying t = some d) {u : Value} {x : AV} {φ : AV → Prop} (hs : St A M L w H ev ea O)
 (hk : lenFit d x = true)
 (h : alen x H φ) (hu : Rep M L u x) (ty : TypeId) :
 ∃ r z, (Builtin.len_ #[t] ty #[u]).run P w = .ok r w ∧ Rep M L r z ∧ φ z ∧ ∀ own xs, z = .lst own xs → own = 0 := by
 unfold alen at h
 split at h
 ·cases hu
  cases d <;> simp [lenFit] at hk
  exact ⟨_, _, by simp [Builtin.len_, run_underlying ht, goInt], .int _ _, h, by intro _ _ e; cases e⟩
 ·cases hu
  cases d <;> simp [lenFit] at hk
  exact ⟨_, _, by simp [Builtin.len_, run_underlying ht, goInt], .int _ _, h, by intro _ _ e; cases e⟩
 ·rename_i own xs
  cases d <;> simp [lenFit] at hk
  cases hu with
  | lst0 a c _ hc => exact ⟨_, _, by simp [Builtin.len_, run_underlying ht, goInt], .int _ _, h (by decide), by intro _ _ e; cases e⟩
  | lst b off c _ e' cs _ he hx hn hle hc hr hm => exact ⟨_, _, by simp [Builtin.len_, run_underlying ht, goInt], .int _ _, h (by omega), by intro _ _ e; cases e⟩
 ·cases d <;> simp [lenFit] at hk
  cases hu with
  | arr b off len cap id hl hc => exact ⟨_, _, by simp [Builtin.len_, run_underlying ht, goInt], .int _ _, h, by intro _ _ e; cases e⟩
 ·cases d <;> simp [lenFit] at hk
  cases hu with
  | emp a => exact ⟨_, _, by simp [Builtin.len_, run_underlying ht, goInt], .int _ _, h, by intro _ _ e; cases e⟩
 ·cases d <;> simp [lenFit] at hk
  cases hu
  exact ⟨_, _, by simp [Builtin.len_, run_underlying ht, goInt], .int _ _, h, by intro _ _ e; cases e⟩
 ·rename_i id
  cases d <;> simp [lenFit] at hk
  cases hu with
  | map b _ hl =>
  split at h
  ·rename_i es hid
   obtain ⟨ents, ck, h1, h2, h3⟩ := hs.obj id _ b hid hl
   have hlen : ents.size = es.length := by have := h2.length; simpa using this
   refine ⟨_, _, ?_, .int _ _, h, by intro _ _ e; cases e⟩
   simp [Builtin.len_, run_underlying ht, goInt, getObj, Sem.run, h1, hlen]
  ·exact h.elim
 ·exact h.elim
theorem aextract_run {i : Nat} {u : Value} {x : AV} {φ : AV → Prop} (h : aextract x i φ) (hu : Rep M L u x) :
 ∃ r z, (Instr.extract u i).run P w = .ok r w ∧ Rep M L r z ∧ φ z ∧ ∀ own xs, z = .lst own xs → own = 0 := by
 unfold aextract at h
 split at h
 ·rename_i xs
  obtain ⟨hi, hφ⟩ := h
  cases hu with
  | tuple cs _ hr =>
  have hl := hr.length
  have hrep := hr.getD i
  have e0 : cs.getD i undef = cs[i] := by rw [List.getD_eq_getElem?_getD, List.getElem?_eq_getElem (by omega)]; rfl
  rw [e0] at hrep
  exact ⟨_, _, by simp [Instr.extract, show i < cs.length by omega], hrep.unown, hφ, AV.unown_free _⟩
 ·exact h.elim
theorem anilCheck_run {o : Oper} {X : Operand} {ρ : Operand → Value} (ho : o.op = .nilCheck X) {x : AV} {φ : AV → Prop} (h : anilCheck x φ) (hu : Rep M L (ρ X) x) :
 ∃ r z, (execOp ρ o).run P w = .ok (.value r) w ∧ Rep M L r z ∧ φ z ∧ ∀ own xs, z = .lst own xs → own = 0 := by
 unfold anilCheck at h
 simp only [execOp, ho]
 generalize hρ : ρ X = u at hu
 split at h
 ·cases hu; exact ⟨_, _, rfl, .ptr _ _ _ (by assumption), h, by intro _ _ e; cases e⟩
 ·cases hu; exact ⟨_, _, rfl, .iptr _ _ _ _ (by assumption) (by assumption), h, by intro _ _ e; cases e⟩
 ·cases hu; exact ⟨_, _, rfl, .fn _ _ _ _ _ (by assumption) (by assumption), h, by intro _ _ e; cases e⟩
 ·exact h.elim
theorem aconvInt_run {src dst : TypeId} {d : TypeDesc} {k : IntKind} (hs : P.underlying src = some d) (hd : P.underlying dst = some (.int k)) {u : Value} {x : AV} {φ : AV → Prop} (h : aconvInt k x φ) (hu : Rep M L u x) :
 ∃ r z, (convert src dst u).run P w = .ok r w ∧ Rep M L r z ∧ φ z ∧ ∀ own xs, z = .lst own xs → own = 0 := by
 unfold aconvInt at h
 split at h
 ·rename_i k' n'
  cases hu
  refine ⟨_, _, ?_, .int _ _, h, by intro _ _ e; cases e⟩
  simp [convert, run_underlying hs, run_underlying hd, Conv.intToInt]
 ·exact h.elim
theorem amx_run {big : Bool} {u v : Value} {x y : AV} {φ : AV → Prop} (h : amx big x y φ) (hu : Rep M L u x) (hv : Rep M L v y) (ts : Array TypeId) (ty : TypeId) :
 ∃ r z, (if big then Builtin.max_ ts ty #[u, v] else Builtin.min_ ts ty #[u, v]).run P w = .ok r w ∧ Rep M L r z ∧ φ z ∧ ∀ own xs, z = .lst own xs → own = 0 := by
 unfold amx at h
 split at h
 ·cases hu; cases hv
  cases big
  ·exact ⟨_, _, rfl, .int _ _, h, by intro _ _ e; cases e⟩
  ·exact ⟨_, _, rfl, .int _ _, h, by intro _ _ e; cases e⟩
 ·exact h.elim
end
end Go.Abs
end
section
namespace Go.Abs
open Go
def abuild (zero : List AV) (parts : List (Nat × Nat × AV)) (φ : AV → Prop) : Prop := afill zero parts fun xs => φ (.agg xs)
def abslice (xs : List AV) (esz : Nat) : List (Nat × AV) → (List AV → Prop) → Prop
 | [], φ => φ xs
 | (i, x) :: r, φ => x.val = true ∧ x.cells.length = esz ∧ i < xs.length ∧ abslice (xs.set i (canon x)) esz r φ
where canon : AV → AV
 | .agg ys => .agg (ys.map AV.drop)
 | x => x.drop
abbrev canon := abslice.canon
section
variable {M : Mem} {L : List Nat}
theorem Rep.canon {v : Value} {x : AV} (h : Rep M L v x) : Rep M L v (canon x) := by
 cases x <;> first | exact h.drop | skip
 cases h with
 | agg cs _ hr => exact .agg cs _ hr.map_drop
theorem canon_cells (x : AV) : (canon x).cells.length = x.cells.length := by
 cases x <;> simp [abslice.canon, AV.cells, AV.drop]
theorem canon_val {x : AV} (h : x.val = true) : (canon x).val = true := by
 cases x <;> simp_all [abslice.canon, AV.val, AV.drop]
theorem canon_free (x : AV) : ∀ own xs, canon x = .lst own xs → own = 0 := by
 intro own xs h
 cases x <;> simp_all [abslice.canon, AV.drop]
end
section
variable {P : Program} {w : World} {M : Mem} {L : List Nat} {H : List AObj} {A : Perm} {ev : Nat → Value} {ea : Nat → AV} {O : Pos → Option Nat}
theorem aboxi_run (hs : St A M L w H ev ea O) (e : TypeId) {u : Value} {x : AV} (hu : Rep M L u x) (hv : x.val = true) :
 ∃ r M' w', (Instr.box e u).run P w = .ok r w' ∧ Rep M' L r (.iptr x) ∧ St A M' L w' H ev ea O ∧ Ext A M w M' w' := by
 obtain ⟨h1, h2, h3⟩ := hs.addImm u.cells e
 exact ⟨_, _, _, rfl, .iptr _ _ _ _ ((hu.vcells hv).mono h2.msub (List.prefix_refl _)) h3, h1, h2⟩
theorem abox_run (hs : St A M L w H ev ea O) (e : TypeId) {u : Value} {x : AV} (hu : Rep M L u x) (hv : x.val = true) (hb : belowL (H.length + 1) (x.cells.map AV.unown) = true) :
 ∃ r L' w', (Instr.box e u).run P w = .ok r w' ∧ Rep M L' r (.ptr H.length 0) ∧ St A M L' w' (H ++ [.cells (x.cells.map AV.unown)]) ev ea O ∧ Ext A M w M w' ∧ L <+: L' := by
 obtain ⟨h1, h2⟩ := hs.addObj (.cells u.cells e) (.cells (x.cells.map AV.unown)) (fun w' hw hM => ⟨u.cells, e, hw, ((hu.vcells hv).map_unown).mono (Mem.sub_refl M) ⟨_, rfl⟩, hM⟩) hb (fun j => by
  simp only [aobjCell]
  refine Spare.free ?_
  intro own xs h
  rw [List.getD_eq_getElem?_getD, List.getElem?_map] at h
  cases hx : x.cells[j]? with
  | none => simp [hx] at h
  | some y => simp [hx] at h; exact AV.unown_free y own xs h)
 refine ⟨_, _, _, rfl, .ptr _ _ _ ?_, h1, h2, ⟨_, rfl⟩⟩
 rw [List.getElem?_append_right (by rw [hs.len]; exact Nat.le_refl _), hs.len]; simp
theorem aalloc_run (hs : St A M L w H ev ea O) {e : TypeId} {z : AV} (hz : tzero P e = some z) (hv : z.val = true) (hb : belowL (H.length + 1) (z.cells.map AV.unown) = true) :
 ∃ r L' w', (Instr.alloc e true (.tuple #[])).run P w = .ok r w' ∧ Rep M L' r (.ptr H.length 0) ∧ St A M L' w' (H ++ [.cells (z.cells.map AV.unown)]) ev ea O ∧ Ext A M w M w' ∧ L <+: L' := by
 unfold tzero at hz
 split at hz
 ·rename_i i hi
  split at hz
  ·rename_i v hzv
   obtain ⟨r, L', w', h1, h2⟩ := abox_run (P := P) hs e (ofValue_rep hz) hv hb
   refine ⟨r, L', w', ?_, h2⟩
   rw [← h1]
   simp only [Instr.alloc, Instr.box, zeroValue, typeInfo, Sem.run_bind, run_program, Result.andThen_ok, hi, Sem.run_pure, hzv]
  ·cases hz
 ·cases hz
theorem fill_foldl (vs : List Value) : ∀ (off k : Nat) (cs : Array Value), off + k + vs.length ≤ cs.size →
 ((vs.zipIdx k).foldl (fun cs (x : Value × Nat) => cs.setIfInBounds (off + x.2) x.1) cs).toList = asplice cs.toList (off + k) vs := by
 induction vs with
 | nil => intro off k cs h; simp [asplice]
 | cons v vs ih =>
   intro off k cs h
   simp only [List.zipIdx_cons, List.foldl_cons]
   rw [ih off (k + 1) _ (by simp at h ⊢; omega)]
   simp only [Array.toList_setIfInBounds, asplice]
   simp only [List.length_cons] at h
   apply List.ext_getElem?
   intro j
   simp only [List.getElem?_append, List.getElem?_take, List.length_take, List.length_set, Array.length_toList, List.getElem?_drop, List.length_cons]
   by_cases h1 : j < off + k
   ·have : j < min (off + k) cs.size := by omega
    have : j < min (off + (k + 1)) cs.size := by omega
    simp only [*, if_true]
    rw [if_pos (by omega), List.getElem?_set_ne (by omega)]
   ·by_cases h2 : j = off + k
    ·subst h2
     have : off + k < min (off + (k + 1)) cs.size := by omega
     simp only [this, if_true]
     rw [if_pos (by omega), List.getElem?_set_self (by simp; omega), if_neg (by omega)]
     rw [show off + k - min (off + k) cs.size = 0 by omega]
     simp
    ·have n1 : ¬ j < min (off + (k + 1)) cs.size := by omega
     have n2 : ¬ j < min (off + k) cs.size := by omega
     simp only [n1, n2, if_false]
     rw [show j - min (off + k) cs.size = (j - min (off + (k + 1)) cs.size) + 1 by omega]
     simp only [Nat.add_lt_add_iff_right, List.getElem?_cons_succ]
     split
     ·rfl
     ·rw [List.getElem?_set_ne (by omega)]
      congr 1
      omega
theorem afill_run {place : Nat → Option (Nat × Nat)} : ∀ (parts : List (Nat × Nat × AV)) (vs : List (Nat × Value)) {cs : Array Value} {zs : List AV} {φ : List AV → Prop},
 (∀ (j : Nat) (p : Nat × Nat × AV), parts[j]? = some p → ∃ i v, vs[j]? = some (i, v) ∧ place i = some (p.1, p.2.1) ∧ Rep M L v p.2.2) → vs.length = parts.length → RepL M L cs.toList zs → afill zs parts φ →
 ∃ cs' zs', Instr.fill place cs vs = some cs' ∧ RepL M L cs'.toList zs' ∧ φ zs'
 | [], [], cs, zs, φ, _, _, hr, h => ⟨cs, zs, rfl, hr, h⟩
 | [], _ :: _, _, _, _, _, hl, _, _ => by simp at hl
 | _ :: _, [], _, _, _, _, hl, _, _ => by simp at hl
 | (off, sz, x) :: r, (i, v) :: vs, cs, zs, φ, H, hl, hr, h => by
   obtain ⟨hv, hsz, hle, h⟩ := h
   obtain ⟨i', v', e1, e2, e3⟩ := H 0 _ rfl
   simp at e1
   obtain ⟨rfl, rfl⟩ := e1
   have hlen := hr.length
   have hc := e3.vcells hv
   have hcl : v.cells.size = sz := by have := hc.length; simp at this; rw [this]; exact hsz
   have hnew : RepL M L (v.cells.zipIdx.foldl (fun cs (x : Value × Nat) => cs.setIfInBounds (off + x.2) x.1) cs).toList (asplice zs off (x.cells.map AV.unown)) := by
    have h0 := fill_foldl v.cells.toList off 0 cs (by simp at hlen ⊢; omega)
    have h1 : v.cells.zipIdx.foldl (fun cs (x : Value × Nat) => cs.setIfInBounds (off + x.2) x.1) cs = (v.cells.toList.zipIdx 0).foldl (fun cs (x : Value × Nat) => cs.setIfInBounds (off + x.2) x.1) cs := by
     rw [← Array.foldl_toList, Array.toList_zipIdx]
    rw [h1, h0]
    exact hc.map_unown.splice off hr
   obtain ⟨cs', zs', f1, f2, f3⟩ := afill_run r vs (fun j p hp => by
    obtain ⟨i, v, a1, a2⟩ := H (j + 1) p (by simpa using hp)
    exact ⟨i, v, by simpa using a1, a2⟩) (by simpa using hl) hnew h
   refine ⟨cs', zs', ?_, f2, f3⟩
   unfold Instr.fill
   simp only [e2]
   have hle' : off + v.cells.size ≤ cs.size := by simp at hlen; omega
   simp only [hcl, ne_eq, not_true_eq_false, decide_false, Bool.false_or]
   rw [if_neg (by simp; omega)]
   exact f1
def tbuild (P : Program) (t : TypeId) : Option (AV × List (Nat × Nat)) :=
 match P.info? t, P.underlying t, tzero P t with
 | some _, some (.struct fields), some z => match fields.toList.mapM (fun f => (P.info? f.type).map fun i => (f.offset, i.size)) with
   | some places => some (z, places)
   | none => none
 | some _, some (.array n e), some z => match P.info? e with
   | some ie => some (z, (List.range n).map fun i => (i * ie.size, ie.size))
   | none => none
 | _, _, _ => none
def compParts (places : List (Nat × Nat)) : List (Nat × Operand) → Option (List (Nat × Nat × IX))
 | [] => some []
 | (i, x) :: r => match places[i]?, compX x, compParts places r with
   | some (off, sz), some ix, some rest => some ((off, sz, ix) :: rest)
   | _, _, _ => none
theorem compParts_spec {n : Nat} {env : Env} {a : Act} (hf : Fr A n M L w H env O a) {places : List (Nat × Nat)} {place : Nat → Option (Nat × Nat)} (hp : ∀ i q, places[i]? = some q → place i = some q) :
 ∀ (parts : List (Nat × Operand)) (ps : List (Nat × Nat × IX)), compParts places parts = some ps →
  ∀ (j : Nat) (p : Nat × Nat × AV), (ps.map fun q => (q.1, q.2.1, aval env q.2.2))[j]? = some p → ∃ i v, (parts.map fun q => (q.1, a.eval q.2))[j]? = some (i, v) ∧ place i = some (p.1, p.2.1) ∧ Rep M L v p.2.2
 | [], ps, h, j, p, hj => by simp [compParts] at h; subst h; simp at hj
 | (i, x) :: r, ps, h, j, p, hj => by
   unfold compParts at h
   split at h
   ·rename_i off sz ix rest h1 h2 h3
    cases h
    cases j with
    | zero =>
      simp at hj; subst hj
      exact ⟨i, a.eval x, by simp, hp _ _ h1, hf.eval h2⟩
    | succ j =>
      obtain ⟨i', v', a1, a2⟩ := compParts_spec hf hp r rest h3 j p (by simpa using hj)
      exact ⟨i', v', by simpa using a1, a2⟩
   ·cases h
theorem compParts_length {places : List (Nat × Nat)} : ∀ (parts : List (Nat × Operand)) (ps : List (Nat × Nat × IX)), compParts places parts = some ps → ps.length = parts.length
 | [], ps, h => by simp [compParts] at h; subst h; rfl
 | (i, x) :: r, ps, h => by
   unfold compParts at h
   split at h
   ·rename_i off sz ix rest h1 h2 h3
    cases h
    simp [compParts_length r rest h3]
   ·cases h
theorem abuild_run {n : Nat} {env : Env} {a : Act} (hf : Fr A n M L w H env O a) {t : TypeId} {z : AV} {places : List (Nat × Nat)} (ht : tbuild P t = some (z, places)) {parts : Array (Nat × Operand)} {ps : List (Nat × Nat × IX)}
 (hc : compParts places parts.toList = some ps) {φ : AV → Prop} (h : abuild z.cells (ps.map fun q => (q.1, q.2.1, aval env q.2.2)) φ) (hzv : z.val = true) :
 ∃ r x, (Instr.build t (parts.map fun (i, x) => (i, a.eval x))).run P w = .ok r w ∧ Rep M L r x ∧ φ x ∧ ∀ own xs, x = .lst own xs → own = 0 := by
 have hparts : (parts.map fun (i, x) => (i, a.eval x)).toList = parts.toList.map fun q => (q.1, a.eval q.2) := by simp
 have key : ∀ (place : Nat → Option (Nat × Nat)) (v : Value), (∀ i q, places[i]? = some q → place i = some q) → ofValue v = some z →
  ∃ cs' x, Instr.fill place v.cells (parts.toList.map fun q => (q.1, a.eval q.2)) = some cs' ∧ Rep M L (.agg cs') x ∧ φ x ∧ ∀ own xs, x = .lst own xs → own = 0 := by
  intro place v hp hv
  obtain ⟨cs', zs', f1, f2, f3⟩ := afill_run (M := M) (L := L) (place := place) _ (parts.toList.map fun q => (q.1, a.eval q.2)) (compParts_spec hf hp _ _ hc) (by simp [compParts_length _ _ hc]) ((ofValue_rep hv).vcells hzv) h
  exact ⟨cs', _, f1, by simpa using Rep.agg cs'.toList zs' f2, f3, by intro _ _ e; cases e⟩
 unfold tbuild at ht
 split at ht
 ·rename_i it fields z' hi hu hz
  split at ht
  ·rename_i pl hpl
   cases ht
   unfold tzero at hz
   simp only [hi] at hz
   split at hz
   ·rename_i v hv
    obtain ⟨cs', x, f1, f2, f3, f4⟩ := key (places.toArray[·]?) v (fun i q h => by simpa using h) hz
    refine ⟨_, x, run_build w t _ cs' ?_, f2, f3, f4⟩
    rw [hparts]
    unfold Program.built
    simp only [hi, hu, hv, hpl]
    exact f1
   ·cases hz
  ·cases ht
 ·rename_i it m e z' hi hu hz
  split at ht
  ·rename_i ie hie
   cases ht
   unfold tzero at hz
   simp only [hi] at hz
   split at hz
   ·rename_i v hv
    obtain ⟨cs', x, f1, f2, f3, f4⟩ := key (fun i => some (i * ie.size, ie.size)) v (fun i q h => by
     rw [List.getElem?_map] at h
     obtain ⟨k, hk, rfl⟩ := Option.map_eq_some_iff.1 h
     rw [List.getElem?_range (by rcases Nat.lt_or_ge i m with h' | h'; exact h'; rw [List.getElem?_eq_none (by simpa using h')] at hk; cases hk)] at hk
     cases hk; rfl) hz
    refine ⟨_, x, run_build w t _ cs' ?_, f2, f3, f4⟩
    rw [hparts]
    unfold Program.built
    simp only [hi, hu, hv, hie]
    exact f1
   ·cases hz
  ·cases ht
 ·cases ht
theorem flat_set : ∀ (xs : List AV) (e i : Nat) (x : AV), (∀ y ∈ xs, y.cells.length = e) → x.cells.length = e → i < xs.length → flat (xs.set i x) = asplice (flat xs) (i * e) x.cells
 | [], _, _, _, _, _, h => by simp at h
 | y :: ys, e, 0, x, hx, hc, _ => by
   have := hx y (by simp)
   simp [flat, asplice, hc, this]
 | y :: ys, e, i + 1, x, hx, hc, h => by
   have hy := hx y (by simp)
   have ih := flat_set ys e i x (fun z hz => hx z (by simp [hz])) hc (by simpa using h)
   simp only [flat] at ih
   simp only [List.set_cons_succ, flat, List.flatMap_cons, ih, asplice]
   rw [List.take_append, List.take_of_length_le (l := y.cells) (by rw [hy, Nat.add_mul]; omega), List.drop_append, List.drop_eq_nil_of_le (as := y.cells) (by rw [hy, Nat.add_mul]; omega), hy]
   simp only [List.nil_append, List.append_assoc]
   rw [show (i + 1) * e - e = i * e by rw [Nat.add_mul]; omega, show (i + 1) * e + x.cells.length - e = i * e + x.cells.length by rw [Nat.add_mul]; omega]
theorem flat_length : ∀ (xs : List AV) (e : Nat), (∀ y ∈ xs, y.cells.length = e) → (flat xs).length = xs.length * e
 | [], e, _ => by simp [flat]
 | y :: ys, e, hx => by
   have hy := hx y (by simp)
   have ih := flat_length ys e (fun z hz => hx z (by simp [hz]))
   simp only [flat] at ih
   simp only [flat, List.flatMap_cons, List.length_append, hy, ih, List.length_cons, Nat.add_mul, Nat.one_mul]
   omega
theorem fill_splice {place : Nat → Option (Nat × Nat)} {i off : Nat} {v : Value} {vs : List (Nat × Value)} {cs : Array Value} (hp : place i = some (off, v.cells.size)) (hle : off + v.cells.size ≤ cs.size) :
 Instr.fill place cs ((i, v) :: vs) = Instr.fill place (asplice cs.toList off v.cells.toList).toArray vs := by
 have h0 := fill_foldl v.cells.toList off 0 cs (by simpa using hle)
 have h1 : v.cells.zipIdx.foldl (fun cs (x : Value × Nat) => cs.setIfInBounds (off + x.2) x.1) cs = (v.cells.toList.zipIdx 0).foldl (fun cs (x : Value × Nat) => cs.setIfInBounds (off + x.2) x.1) cs := by
  rw [← Array.foldl_toList, Array.toList_zipIdx]
 rw [← h1] at h0
 conv => lhs; unfold Instr.fill
 simp only [hp, ne_eq, not_true_eq_false, decide_false, Bool.false_or]
 rw [if_neg (by simp; omega)]
 congr 1
 apply Array.ext'
 simpa using h0
theorem abslice_run (e : Nat) : ∀ (parts : List (Nat × AV)) (vs : List (Nat × Value)) {cs : Array Value} {xs : List AV} {φ : List AV → Prop},
 (∀ (j : Nat) (p : Nat × AV), parts[j]? = some p → ∃ v, vs[j]? = some (p.1, v) ∧ Rep M L v p.2) → vs.length = parts.length → RepL M L cs.toList (flat xs) → (∀ y ∈ xs, y.cells.length = e) → abslice xs e parts φ →
 ∃ cs' xs', Instr.fill (fun i => some (i * e, e)) cs vs = some cs' ∧ RepL M L cs'.toList (flat xs') ∧ (∀ y ∈ xs', y.cells.length = e) ∧ xs'.length = xs.length ∧ φ xs'
 | [], [], cs, xs, φ, _, _, hr, hx, h => ⟨cs, xs, rfl, hr, hx, rfl, h⟩
 | [], _ :: _, _, _, _, _, hl, _, _, _ => by simp at hl
 | _ :: _, [], _, _, _, _, hl, _, _, _ => by simp at hl
 | (i, x) :: r, (i', v) :: vs, cs, xs, φ, H, hl, hr, hx, h => by
   obtain ⟨hv, hsz, hi, h⟩ := h
   obtain ⟨v', e1, e3⟩ := H 0 _ rfl
   simp at e1
   obtain ⟨rfl, rfl⟩ := e1
   have hc := (e3.canon).vcells (canon_val hv)
   have hcl : v.cells.size = e := by have := hc.length; simp at this; rw [this, canon_cells]; exact hsz
   have hlen := hr.length
   rw [flat_length xs e hx] at hlen
   simp only [Array.length_toList] at hlen
   have hle : i' * e + v.cells.size ≤ cs.size := by
    rw [hcl, hlen]
    calc i' * e + e = (i' + 1) * e := by rw [Nat.add_mul]; omega
     _ ≤ xs.length * e := Nat.mul_le_mul_right _ hi
   rw [fill_splice (place := fun i => some (i * e, e)) (by rw [hcl]) hle]
   have hx' : ∀ y ∈ xs.set i' (canon x), y.cells.length = e := by
    intro y hy
    rcases List.mem_or_eq_of_mem_set hy with h' | rfl
    ·exact hx y h'
    ·rw [canon_cells]; exact hsz
   have hnew : RepL M L (asplice cs.toList (i' * e) v.cells.toList).toArray.toList (flat (xs.set i' (canon x))) := by
    rw [flat_set xs e i' _ hx (by rw [canon_cells]; exact hsz) hi]
    exact hc.splice _ hr
   obtain ⟨cs', xs', f1, f2, f3, f4, f5⟩ := abslice_run e r vs (fun j p hp => by
    obtain ⟨v, a1, a2⟩ := H (j + 1) p (by simpa using hp)
    exact ⟨v, by simpa using a1, a2⟩) (by simpa using hl) hnew hx' h
   exact ⟨cs', xs', f1, f2, f3, by simpa using f4, f5⟩
def compParts1 : List (Nat × Operand) → Option (List (Nat × IX))
 | [] => some []
 | (i, x) :: r => match compX x, compParts1 r with
   | some ix, some rest => some ((i, ix) :: rest)
   | _, _ => none
theorem compParts1_spec {n : Nat} {env : Env} {a : Act} (hf : Fr A n M L w H env O a) :
 ∀ (parts : List (Nat × Operand)) (ps : List (Nat × IX)), compParts1 parts = some ps →
  (∀ (j : Nat) (p : Nat × AV), (ps.map fun q => (q.1, aval env q.2))[j]? = some p → ∃ v, (parts.map fun q => (q.1, a.eval q.2))[j]? = some (p.1, v) ∧ Rep M L v p.2) ∧ ps.length = parts.length
 | [], ps, h => by simp [compParts1] at h; subst h; simp
 | (i, x) :: r, ps, h => by
   unfold compParts1 at h
   split at h
   ·rename_i ix rest h2 h3
    cases h
    obtain ⟨i1, i2⟩ := compParts1_spec hf r rest h3
    refine ⟨fun j p hj => ?_, by simp [i2]⟩
    cases j with
    | zero =>
      simp at hj; subst hj
      exact ⟨a.eval x, by simp, hf.eval h2⟩
    | succ j =>
      obtain ⟨v', a1, a2⟩ := i1 j p (by simpa using hj)
      exact ⟨v', by simpa using a1, a2⟩
   ·cases h
theorem zero_cells (z : Array Value) (e len : Nat) (hz : z.size = e) (he : 0 < e) (x : AV) (hr : RepL M L z.toList x.cells) :
 RepL M L (((Array.range (len * e)).map (z[· % z.size]!)).toList) (flat (List.replicate len x)) := by
 have hxl : x.cells.length = e := by rw [← hr.length]; simpa using hz
 have hall : ∀ y ∈ List.replicate len x, y.cells.length = e := fun y hy => by rw [List.eq_of_mem_replicate hy]; exact hxl
 apply RepL.of_get
 ·rw [flat_length _ e hall]; simp
 ·intro j y hj
  have hjl : j < len * e := by have := get_lt hj; rw [flat_length _ e hall] at this; simpa using this
  have hq : j / e < len := Nat.div_lt_of_lt_mul (by rw [Nat.mul_comm]; exact hjl)
  have hm : j % e < e := Nat.mod_lt _ he
  have h1 := flat_get (List.replicate len x) e hall (j / e) (j % e) x (by simp [hq]) hm
  rw [show j / e * e + j % e = j from Nat.div_add_mod' j e] at h1
  rw [h1] at hj
  obtain ⟨v, hv, hrep⟩ := hr.get _ _ hj
  refine ⟨v, ?_, hrep⟩
  have hzl : j % e < z.size := by omega
  simp only [Array.toList_map, Array.toList_range, List.getElem?_map, List.getElem?_range hjl, Option.map_some, hz]
  simp only [Array.getElem?_toList] at hv
  simp [getElem!_pos, hzl] at hv ⊢
  exact hv
theorem abuildSlice_run (hs : St A M L w H ev ea O) {t e : TypeId} (ht : P.underlying t = some (.slice e)) {esz : Nat} (he : tcells P e = some esz) (h0 : 0 < esz) {z : AV} (hz : tzero P e = some z) (hzl : z.cells.length = esz) (hzv : z.val = true) (own : Nat)
 {len : Nat} (hlen : len * esz ≤ 16777216) {parts : List (Nat × AV)} {vs : Array (Nat × Value)} (hp : ∀ (j : Nat) (p : Nat × AV), parts[j]? = some p → ∃ v, vs.toList[j]? = some (p.1, v) ∧ Rep M L v p.2) (hl : vs.toList.length = parts.length)
 {φ : List AV → Prop} (h : abslice (List.replicate len (canon z)) esz parts φ) :
 ∃ m xs M' w' ad, (Instr.buildSlice t len vs).run P w = .ok (.slice ad m m) w' ∧ Rep M' L (.slice ad m m) (.lst own xs) ∧ (∀ y ∈ xs, y.cells.length = esz) ∧ φ xs ∧ St A M' L w' H ev ea O ∧ Ext A M w M' w' := by
 unfold tzero at hz
 obtain ⟨ie, hie, hsz⟩ := Option.map_eq_some_iff.1 he
 simp only [hie] at hz
 split at hz
 ·rename_i zv hzv'
  have hzr := (ofValue_rep (M := M) (L := L) hz).canon.vcells (canon_val hzv)
  have hzs : zv.cells.size = esz := by have := hzr.length; rw [canon_cells, hzl] at this; simpa using this
  obtain ⟨cs', xs', f1, f2, f3, f4, f5⟩ := abslice_run (M := M) (L := L) esz parts vs.toList hp hl (zero_cells zv.cells esz len hzs h0 (canon z) hzr) (fun y hy => by rw [List.eq_of_mem_replicate hy, canon_cells]; exact hzl) h
  simp only [List.length_replicate] at f4
  obtain ⟨g1, g2, g3⟩ := hs.addImm cs' e
  have hrun : (Instr.buildSlice t len vs).run P w = .ok (.slice (some ⟨w.heap.size, 0, none⟩) len len) { w with heap := w.heap.push (.cells cs' e) } := by
   by_cases hpos : len * ie.size = 0
   ·have hl0 : len = 0 := by
     rcases Nat.mul_eq_zero.1 hpos with h' | h'
     ·exact h'
     ·omega
    subst hl0
    have hc0 : cs' = #[] := by
     have := f2.length
     rw [flat_length _ esz f3, f4] at this
     simp at this
     exact this
    have hv0 : vs.toList = [] := by
     cases hvs : vs.toList with
     | nil => rfl
     | cons q r =>
       rw [hvs] at hl
       cases parts with
       | nil => simp at hl
       | cons p ps => obtain ⟨_, _, h3, _⟩ := h; simp at h3
    subst hc0
    have hf : Instr.fill (fun i => some (i * ie.size, ie.size)) #[] vs.toList = some #[] := by rw [hv0]; rfl
    simp [Instr.buildSlice, run_underlying ht, sizeOf, typeInfo, hie, newRow, hv0, Instr.fill]
    congr 2
    apply Array.ext'
    simp
   ·rw [run_buildSlice w t e len vs cs' ie zv ht hie hzv' (by rw [hsz]; omega) hpos (by rw [hsz]; exact f1)]
    rfl
  refine ⟨len, xs', _, _, _, hrun, ?_, f3, f5, g1, g2⟩
  by_cases hl0 : len = 0
  ·subst hl0
   have : xs' = [] := List.eq_nil_of_length_eq_zero f4
   subst this
   exact .lst0 _ _ _ (by decide)
  ·have := Rep.lst (M := M.add w.heap.size cs'.toList) (L := L) w.heap.size 0 len own esz cs'.toList xs' h0 f3 (by omega) (by omega) (by
    have : len ≤ len * esz := Nat.le_mul_of_pos_right _ h0
    omega) (f2.mono g2.msub (List.prefix_refl _)) g3
   rw [f4] at this
   exact this
 ·cases hz
end
end Go.Abs
end
section
namespace Go.Abs
open Go
def astore (m : Nat) (p x : AV) (H : List AObj) (K : List AObj → Prop) : Prop :=
 match p with
 | .ptr id off => match H[id]? with
   | some (.cells es) => x.val = true ∧ x.cells.length = m ∧ off + m ≤ es.length ∧ x.cells.all AV.one = true ∧ belowL (id + 1) (x.cells.map AV.unown) = true ∧
      K (H.set id (.cells (asplice es off (x.cells.map AV.unown))))
   | _ => False
 | _ => False
theorem belowL_append {n : Nat} {xs ys : List AV} : belowL n (xs ++ ys) = true ↔ belowL n xs = true ∧ belowL n ys = true := by
 simp only [belowL_iff, List.mem_append]
 constructor
 ·intro h; exact ⟨fun x hx => h x (.inl hx), fun x hx => h x (.inr hx)⟩
 ·rintro ⟨h1, h2⟩ x (hx | hx)
  ·exact h1 x hx
  ·exact h2 x hx
theorem belowL_take {n m : Nat} {xs : List AV} (h : belowL n xs = true) : belowL n (xs.take m) = true := by
 rw [belowL_iff] at *; exact fun x hx => h x (List.mem_of_mem_take hx)
theorem belowL_drop {n m : Nat} {xs : List AV} (h : belowL n xs = true) : belowL n (xs.drop m) = true := by
 rw [belowL_iff] at *; exact fun x hx => h x (List.mem_of_mem_drop hx)
theorem asplice_get {α : Type} (zs : List α) (off : Nat) (xs : List α) (h : off + xs.length ≤ zs.length) (j : Nat) :
 (asplice zs off xs)[j]? = if off ≤ j ∧ j < off + xs.length then xs[j - off]? else zs[j]? := by
 unfold asplice
 simp only [List.getElem?_append, List.length_take, List.getElem?_take, List.getElem?_drop]
 by_cases h1 : j < off
 ·rw [if_pos (by omega), if_pos h1, if_neg (by omega)]
 ·rw [if_neg (by omega), show j - min off zs.length = j - off by omega]
  by_cases h2 : j < off + xs.length
  ·rw [if_pos (by omega), if_pos ⟨by omega, h2⟩]
  ·rw [if_neg (by omega), if_neg (by omega)]
   congr 1; omega
section
variable {P : Program} {w : World} {M : Mem} {L : List Nat} {H : List AObj} {A : Perm} {ev : Nat → Value} {ea : Nat → AV} {O : Pos → Option Nat}
theorem Moves.sub {O O' : Pos → Option Nat} (hinj : ∀ p q b, O p = some b → O q = some b → p = q) (h : ∀ p b, O' p = some b → O p = some b) : Moves O O' :=
 ⟨fun p q b hp hq => hinj p q b (h p b hp) (h q b hq), fun p b hp => ⟨p, h p b hp⟩⟩
theorem store_run (hs : St A M L w H ev ea O) {t : TypeId} {m : Nat} (ht : tcells P t = some m) {v : Value} {x : AV} {id off b : Nat} {es : List AV} (hl : L[id]? = some b) (hid : H[id]? = some (.cells es)) (hv : Rep M L v x)
 (hval : x.val = true) (hlen : x.cells.length = m) (hle : off + m ≤ es.length) (hone : x.cells.all AV.one = true) (hbl : belowL (A.lim H.length id) (x.cells.map AV.unown) = true) :
 ∃ w' O', (Instr.storeAt t (.pointer (some ⟨b, off, none⟩)) v).run P w = .ok () w' ∧ St A M L w' (H.set id (.cells (asplice es off (x.cells.map AV.unown)))) ev ea O' ∧ Ext A M w M w' := by
 obtain ⟨cs, e, h1, h2, h3⟩ := hs.obj id _ b hid hl
 have hvc := hv.vcells hval
 have hvl := hvc.length
 have hcl := h2.length
 obtain ⟨i, hi, him⟩ := Option.map_eq_some_iff.1 ht
 have hsz : (sizeOf t).run P w = .ok m w := by simp [sizeOf, typeInfo, hi, him]
 have hst := run_storeCells_at P b off e v.cells.toList 0 cs w h1 (by simp at hcl ⊢; simp at hvl; omega) (hvc.oneCell hone)
 have hrun : (Instr.storeAt t (.pointer (some ⟨b, off, none⟩)) v).run P w = .ok () (w.setRow b (asplice cs.toList off v.cells.toList).toArray) := by
  simp only [Instr.storeAt, Instr.sureAddr, storeVar, Sem.run_bind, Sem.run_pure, Result.andThen_ok, hsz, ne_eq]
  rw [if_neg (by simp at hvl; omega)]
  simpa [asplice] using hst
 let O' : Pos → Option Nat := fun q => match q with
  | .t t => O (.t t)
  | .c id' j => if id' = id ∧ off ≤ j ∧ j < off + m then none else O (.c id' j)
 have hO : ∀ q b, O' q = some b → O q = some b := by
  intro q b hq
  cases q with
  | t t => exact hq
  | c id' j =>
    simp only [O'] at hq
    split at hq
    ·cases hq
    ·exact hq
 have hsp : off + (x.cells.map AV.unown).length ≤ es.length := by simp; omega
 have hsv : off + v.cells.toList.length ≤ cs.toList.length := by omega
 obtain ⟨g1, g2⟩ := hs.write (cs' := (asplice cs.toList off v.cells.toList).toArray) (es' := asplice es off (x.cells.map AV.unown)) (O' := O') hid hl h1
  (by simpa using hvc.map_unown.splice off h2)
  (by
    have hst := hs.strat id _ hid
    simp only [AObj.blw] at hst
    unfold asplice
    exact belowL_append.2 ⟨belowL_take hst, belowL_append.2 ⟨hbl, belowL_drop hst⟩⟩)
  (Moves.sub hs.oinj hO) hs.env hs.spt (by
  intro j
  have e1 : ((asplice cs.toList off v.cells.toList).toArray)[j]? = (asplice cs.toList off v.cells.toList)[j]? := by simp
  rw [e1, asplice_get _ _ _ hsv, List.getD_eq_getElem?_getD, asplice_get _ _ _ hsp]
  simp only [List.length_map]
  have e2 : v.cells.toList.length = x.cells.length := hvl
  rw [e2, hlen]
  by_cases hj : off ≤ j ∧ j < off + m
  ·simp only [hj, and_self, if_true]
   have : O' (.c id j) = none := by simp [O', hj]
   rw [this]
   refine Spare.free ?_
   intro own xs hh
   rw [List.getElem?_map] at hh
   cases hx : x.cells[j - off]? with
   | none => simp [hx] at hh
   | some y => simp [hx] at hh; exact AV.unown_free y own xs hh
  ·simp only [hj, if_false]
   have : O' (.c id j) = O (.c id j) := by simp only [O']; rw [if_neg (by intro h'; exact hj h'.2)]
   rw [this]
   have h0 := hs.spc id j
   have e3 : cellV L w id j = (cs.toList[j]?).getD undef := by
    unfold cellV; simp [hl, World.cell?, h1]
   have e4 : cellA H id j = (es[j]?).getD .any := by
    unfold cellA; simp [hid, List.getD_eq_getElem?_getD]
   rw [e3, e4] at h0
   exact h0)
  (by intro id' j hne; simp [O', hne])
 exact ⟨_, _, hrun, g1, g2⟩
theorem astore_run (hs : St A M L w H ev ea O) {t : TypeId} {m : Nat} (ht : tcells P t = some m) {u v : Value} {p x : AV} {K : List AObj → Prop} (h : astore m p x H K) (hu : Rep M L u p) (hv : Rep M L v x) :
 ∃ w' H' O', (Instr.storeAt t u v).run P w = .ok () w' ∧ K H' ∧ St A M L w' H' ev ea O' ∧ Ext A M w M w' := by
 unfold astore at h
 split at h <;> try exact h.elim
 rename_i id off
 cases hu with
 | ptr b _ _ hl =>
 split at h <;> try exact h.elim
 rename_i es hid
 obtain ⟨hval, hlen, hle, hone, hbl, hK⟩ := h
 obtain ⟨w', O', h1, h2, h3⟩ := store_run hs ht hl hid hv hval hlen hle hone (belowL_mono (A.le_lim (get_lt hid)) _ hbl)
 exact ⟨w', _, O', h1, hK, h2, h3⟩
def astoreW (lo m : Nat) (p x : AV) (H : List AObj) (K : List AObj → Prop) : Prop :=
 match p with
 | .ptr id off => match H[id]? with
   | some (.cells es) => lo ≤ id ∧ x.val = true ∧ x.cells.length = m ∧ off + m ≤ es.length ∧ x.cells.all AV.one = true ∧ belowL H.length (x.cells.map AV.unown) = true ∧
      K (H.set id (.cells (asplice es off (x.cells.map AV.unown))))
   | _ => False
 | _ => False
theorem astoreW_run (hs : St A M L w H ev ea O) {t : TypeId} {m lo : Nat} (hlo : ∀ id, lo ≤ id → A.top id = none) (ht : tcells P t = some m) {u v : Value} {p x : AV} {K : List AObj → Prop} (h : astoreW lo m p x H K) (hu : Rep M L u p) (hv : Rep M L v x) :
 ∃ w' H' O', (Instr.storeAt t u v).run P w = .ok () w' ∧ K H' ∧ St A M L w' H' ev ea O' ∧ Ext A M w M w' := by
 unfold astoreW at h
 split at h <;> try exact h.elim
 rename_i id off
 cases hu with
 | ptr b _ _ hl =>
 split at h <;> try exact h.elim
 rename_i es hid
 obtain ⟨hi, hval, hlen, hle, hone, hbl, hK⟩ := h
 have e : A.lim H.length id = H.length := by unfold Perm.lim; rw [hlo id hi]
 obtain ⟨w', O', h1, h2, h3⟩ := store_run hs ht hl hid hv hval hlen hle hone (by rw [e]; exact hbl)
 exact ⟨w', _, O', h1, hK, h2, h3⟩
theorem St.unownCell (hs : St A M L w H ev ea O) {id b off : Nat} {es : List AV} (hid : H[id]? = some (.cells es)) (hl : L[id]? = some b) (hoff : off < es.length) :
 St A M L w (H.set id (.cells (es.set off (es.getD off .any).unown))) ev ea (updP O (.c id off) none) := by
 obtain ⟨cs, e, h1, h2, h3⟩ := hs.obj id _ b hid hl
 have hcl := h2.length
 have hO : ∀ q b, updP O (.c id off) none q = some b → O q = some b := by
  intro q b hq
  simp only [updP] at hq
  split at hq
  ·cases hq
  ·exact hq
 have hgetD : es.getD off .any = es[off] := by rw [List.getD_eq_getElem?_getD, List.getElem?_eq_getElem hoff]; rfl
 have hrep : RepL M L cs.toList (es.set off (es.getD off .any).unown) := by
  have hg := (h2.getD off).unown
  have := h2.set hg off
  have hlc : off < cs.toList.length := by omega
  have e0 : cs.toList.set off (cs.toList.getD off undef) = cs.toList := by
   rw [List.getD_eq_getElem?_getD, List.getElem?_eq_getElem hlc]
   exact List.set_getElem_self hlc
  rwa [e0] at this
 obtain ⟨g1, g2⟩ := hs.write (cs' := cs) (es' := es.set off (es.getD off .any).unown) (O' := updP O (.c id off) none) hid hl h1 hrep (by
  have hst := hs.strat id _ hid
  simp only [AObj.blw] at hst
  rw [belowL_iff] at hst ⊢
  intro y hy
  rcases List.mem_or_eq_of_mem_set hy with h' | rfl
  ·exact hst y h'
  ·have hb := hst es[off] (List.getElem_mem hoff)
   rw [hgetD]
   revert hb
   cases es[off] <;> simp [AV.unown, AV.blw]) (Moves.sub hs.oinj hO) hs.env (fun t => by simpa [updP] using hs.spt t) (fun j => by
  by_cases hj : j = off
  ·subst hj
   have e1 : (es.set j (es.getD j .any).unown).getD j .any = (es.getD j .any).unown := by
    rw [List.getD_eq_getElem?_getD, List.getElem?_set_self hoff]; rfl
   rw [e1]
   simp only [updP, if_true]
   exact Spare.free (AV.unown_free _)
  ·have e1 : (es.set off (es.getD off .any).unown).getD j .any = es.getD j .any := by
    rw [List.getD_eq_getElem?_getD, List.getElem?_set_ne (fun e => hj e.symm), List.getD_eq_getElem?_getD]
   rw [e1]
   have h0 := hs.spc id j
   have e3 : cellV L w id j = (cs[j]?).getD undef := by unfold cellV; simp [hl, World.cell?, h1]
   have e4 : cellA H id j = es.getD j .any := by unfold cellA; simp [hid]
   rw [e3, e4] at h0
   simpa [updP, hj] using h0) (fun id' j hne => by simp [updP, hne])
 rwa [setRow_self w b cs e (0, 0) h1] at g1
def aputCell (p x : AV) (H : List AObj) (K : List AObj → Prop) : Prop :=
 match p with
 | .ptr id off => match H[id]? with
   | some (.cells es) => off < es.length ∧ x.one = true ∧ x.blw (id + 1) = true ∧ K (H.set id (.cells (es.set off x)))
   | _ => False
 | _ => False
theorem aputCell_run (hs : St A M L w H ev ea O) {t : TypeId} (ht : tcells P t = some 1) {u v : Value} {p x : AV} {K : List AObj → Prop} (h : aputCell p x H K) (hu : Rep M L u p) (s : Nat) (hev : ev s = v) (hea : ea s = x) :
 ∃ w' H' O', (Instr.storeAt t u v).run P w = .ok () w' ∧ K H' ∧ St A M L w' H' ev (upd ea s x.unown) O' ∧ Ext A M w M w' := by
 unfold aputCell at h
 split at h <;> try exact h.elim
 rename_i id off
 cases hu with
 | ptr b _ _ hl =>
 split at h <;> try exact h.elim
 rename_i es hid
 obtain ⟨hoff, hone, hbl, hK⟩ := h
 obtain ⟨cs, e, h1, h2, h3⟩ := hs.obj id _ b hid hl
 have hv : Rep M L v x := by have := hs.env s; rwa [hev, hea] at this
 have hcl := h2.length
 have hv1 : v.oneCell' = true := hv.oneCell hone
 have hvc : v.cells = #[v] := by cases v <;> first | rfl | simp [Value.oneCell'] at hv1
 obtain ⟨i, hi, him⟩ := Option.map_eq_some_iff.1 ht
 have hsz : (sizeOf t).run P w = .ok 1 w := by simp [sizeOf, typeInfo, hi, him]
 have hlc : off < cs.toList.length := by omega
 have hst := run_storeCells_at P b off e [v] 0 cs w h1 (by simp at hlc ⊢; omega) (by simpa using hv1)
 have hset : cs.toList.take off ++ [v] ++ cs.toList.drop (off + 1) = cs.toList.set off v := by
  rw [List.set_eq_take_append_cons_drop, if_pos hlc]; simp
 have hrun : (Instr.storeAt t (.pointer (some ⟨b, off, none⟩)) v).run P w = .ok () (w.setRow b (cs.toList.set off v).toArray) := by
  simp only [Instr.storeAt, Instr.sureAddr, storeVar, Sem.run_bind, Sem.run_pure, Result.andThen_ok, hsz, ne_eq, hvc]
  rw [if_neg (by simp)]
  rw [← hset]
  simpa using hst
 -- the slot forgets, the cell takes over
 have hput := hs.put0 s (v := v) (x := x.unown) hv.unown (AV.unown_free x)
 have hevs : upd ev s v = ev := by funext t'; simp only [upd]; split; rename_i e0; rw [e0, hev]; rfl
 rw [hevs] at hput
 let O' : Pos → Option Nat := fun q => if q = .c id off then O (.t s) else updP O (.t s) none q
 have hinj : Moves O O' := by
  refine ⟨fun q r b hq hr => ?_, fun q b hq => ?_⟩
  ·simp only [O', updP] at hq hr
   split at hq <;> split at hr
   ·simp_all
   ·split at hr
    ·cases hr
    ·rename_i n1 n2; exact absurd (hs.oinj _ _ b hr hq) n2
   ·split at hq
    ·cases hq
    ·rename_i n1 n2; exact absurd (hs.oinj _ _ b hq hr) (by assumption)
   ·split at hq
    ·cases hq
    ·split at hr
     ·cases hr
     ·exact hs.oinj _ _ b hq hr
  ·simp only [O', updP] at hq
   split at hq
   ·exact ⟨_, hq⟩
   ·split at hq
    ·cases hq
    ·exact ⟨_, hq⟩
 obtain ⟨g1, g2⟩ := St.write (h := hs) (cs' := (cs.toList.set off v).toArray) (es' := es.set off x) (ea' := upd ea s x.unown) (O' := O') hid hl h1 (by simpa using h2.set hv off) (by
  have hst := hs.strat id _ hid
  simp only [AObj.blw] at hst
  rw [belowL_iff] at hst ⊢
  intro y hy
  rcases List.mem_or_eq_of_mem_set hy with h' | rfl
  ·exact hst y h'
  ·exact AV.blw_mono (A.le_lim (get_lt hid)) _ hbl) hinj hput.env (fun t' => by simpa [O', updP] using hput.spt t') (fun j => by
  by_cases hj : j = off
  ·subst hj
   have e1 : ((cs.toList.set j v).toArray)[j]? = some v := by rw [List.getElem?_toArray, List.getElem?_set_self hlc]
   have e2 : (es.set j x).getD j .any = x := by rw [List.getD_eq_getElem?_getD, List.getElem?_set_self hoff]; rfl
   rw [e1, e2]
   have := hs.spt s
   rw [hev, hea] at this
   simpa [O'] using this
  ·have e1 : ((cs.toList.set off v).toArray)[j]? = cs[j]? := by
    simp [List.getElem?_set_ne (fun e => hj e.symm)]
   have e2 : (es.set off x).getD j .any = es.getD j .any := by rw [List.getD_eq_getElem?_getD, List.getElem?_set_ne (fun e => hj e.symm), List.getD_eq_getElem?_getD]
   rw [e1, e2]
   have h0 := hs.spc id j
   have e3 : cellV L w id j = (cs[j]?).getD undef := by unfold cellV; simp [hl, World.cell?, h1]
   have e4 : cellA H id j = es.getD j .any := by unfold cellA; simp [hid]
   rw [e3, e4] at h0
   simpa [O', updP, hj] using h0) (fun id' j hne => by simp [O', updP, hne])
 exact ⟨_, _, _, hrun, hK, g1, g2⟩
theorem run_storeCells_fr (P : Program) (g o : Nat) (t : TypeId) (fr : Nat × Nat) : ∀ (vs : List Value) (i : Nat) (cur : Array Value) (w : World), w.heap[g]? = some (.cells cur t fr) → okfr fr cur.size → o + i + vs.length ≤ cur.size → (∀ v ∈ vs, v.oneCell' = true) →
 (storeCells ⟨g, o, none⟩ vs i).run P w = .ok () (w.setRow g (asplice cur.toList (o + i) vs).toArray)
 | [], i, cur, w, hg, _, _, _ => by
   simp only [storeCells, asplice, List.length_nil, Nat.add_zero, List.nil_append, List.take_append_drop, Array.toArray_toList]
   rw [setRow_self w g cur t fr hg]
   rfl
 | v :: rest, i, cur, w, hg, hf, hl, h1 => by
   have hi : o + i < cur.size := by simp at hl; omega
   have hadd : (⟨g, o, none⟩ : Addr).add i = ⟨g, o + i, none⟩ := Addr.add_lit _ _ _
   have hcell : w.cell? ⟨g, o + i, none⟩ = some cur[o + i] := by simp [World.cell?, hg, hi]
   have hfro : w.frozen? ⟨g, o + i, none⟩ = false := by
    have := hf (o + i) hi
    simp only [World.frozen?, hg]
    cases h : (decide (fr.1 ≤ o + i) && decide (o + i < fr.2)) with
    | false => rfl
    | true => simp at h; exact absurd h this
   have hst : (store ((⟨g, o, none⟩ : Addr).add i) v).run P w = .ok () (w.setRow g (cur.setIfInBounds (o + i) v)) := by
    rw [hadd, run_store P w _ v _ (h1 v (by simp)), hcell]
    simp [hfro, setCell_eq_setRow w g (o + i) cur t fr v hg]
   have ih := run_storeCells_fr P g o t fr rest (i + 1) (cur.setIfInBounds (o + i) v) (w.setRow g (cur.setIfInBounds (o + i) v)) (setRow_heap w g cur _ t _ hg) (by simpa using hf) (by simp at hl ⊢; omega) (fun x hx => h1 x (by simp [hx]))
   simp only [storeCells, Sem.run_bind, hst, Result.andThen_ok, ih, setRow_setRow]
   congr 3
   apply List.ext_getElem?
   intro j
   rw [asplice_get _ _ _ (by simp at hl ⊢; omega), asplice_get _ _ _ (by simpa using hl)]
   simp only [Array.toList_setIfInBounds, List.length_cons]
   by_cases h2 : j = o + i
   ·subst h2
    rw [if_neg (by omega), if_pos (by omega), List.getElem?_set_self (by simpa using hi)]
    simp
   ·by_cases h3 : o + i < j ∧ j < o + i + (rest.length + 1)
    ·rw [if_pos (by omega), if_pos (by omega), show j - (o + i) = (j - (o + (i + 1))) + 1 by omega]
     simp
    ·rw [if_neg (by omega), if_neg (by omega), List.getElem?_set_ne (by omega)]
theorem run_append_room_fr {t ty e e' : TypeId} {i : TypeInfo} (ht : P.underlying t = some (.slice e)) (hi : P.info? e = some i) (w : World)
 (g o sLen sCap : Nat) (cur : Array Value) (fr : Nat × Nat) (hg : w.heap[g]? = some (.cells cur e' fr)) (hfr : okfr fr cur.size)
 (a : Addr) (m c : Nat) (news : List Value) (hl : news.length = m * i.size) (hnews : ∀ j u, news[j]? = some u → w.cell? (a.add j) = some u) (h1 : ∀ u ∈ news, u.oneCell' = true)
 (hroom : sLen + m ≤ sCap) (hfit : o + sLen * i.size + news.length ≤ cur.size) :
 (Builtin.append_ #[t, t] ty #[.slice (some ⟨g, o, none⟩) sLen sCap, .slice (some a) m c]).run P w =
   .ok (.slice (some ⟨g, o, none⟩) (sLen + m) sCap) (w.setRow g (asplice cur.toList (o + sLen * i.size) news).toArray) := by
 have hf := run_firstCells_some (P := P) w i.size m a m c news hl hnews
 have hst := run_storeCells_fr P g (o + sLen * i.size) e' fr news 0 cur w hg hfr (by simpa using hfit) h1
 simp only [Nat.add_zero] at hst
 simp [Builtin.append_, run_underlying ht, sizeOf, typeInfo, hi, Builtin.lenOf, hroom, hf, Addr.add_lit, hst]
theorem run_append_nothing {t ty e : TypeId} {i : TypeInfo} (ht : P.underlying t = some (.slice e)) (hi : P.info? e = some i) (w : World) (b : Option Addr) (n c : Nat) (hnc : n ≤ c) (b' : Option Addr) (c' : Nat) :
 (Builtin.append_ #[t, t] ty #[.slice b n c, .slice b' 0 c']).run P w = .ok (.slice b n c) w := by
 have hf : (Builtin.firstCells i.size 0 (.slice b' 0 c')).run P w = .ok #[] w := by
  cases b' with
  | none => exact run_firstCells_none w _ _ _ _
  | some a => exact run_firstCells_some w i.size 0 a 0 c' [] (by simp) (by simp)
 cases b with
 | none => simp [Builtin.append_, run_underlying ht, sizeOf, typeInfo, hi, Builtin.lenOf, hnc, hf]
 | some a => simp [Builtin.append_, run_underlying ht, sizeOf, typeInfo, hi, Builtin.lenOf, hnc, hf, storeCells]
def alist (esz : Nat) : AV → Option (List AV)
 | .nils => some []
 | .lst own xs => if own = esz then some xs else none
 | _ => none
def rlist : AV → Option (List AV)
 | .nils => some []
 | .lst _ xs => some xs
 | _ => none
def okE (esz : Nat) (ys : List AV) : Prop := ∀ y ∈ ys, y.cells.length = esz ∧ y.cells.all AV.one = true
def Mem.addAt (M : Mem) (b off : Nat) (cs : List Value) : Mem := fun b' o => if b' = b ∧ off ≤ o ∧ o < off + cs.length then cs[o - off]? else M b' o
theorem St.inPlace (hs : St A M L w H ev ea O) {p : Pos} {b : Nat} (hp : O p = some b) {cur : Array Value} {e : TypeId} {fr : Nat × Nat} (hg : w.heap[b]? = some (.cells cur e fr)) {off : Nat} {news : List Value}
 (hfit : off + news.length ≤ cur.size) (hnone : ∀ k, k < news.length → M b (off + k) = none)
 {ea' : Nat → AV} (henv : ∀ t, Rep M L (ev t) (ea' t)) (hspt : ∀ t, Spare M w (ev t) (ea' t) (updP O p none (.t t))) (hspc : ∀ id j, Spare M w (cellV L w id j) (cellA H id j) (updP O p none (.c id j))) :
 St A (M.addAt b off news) L (w.setRow b (asplice cur.toList off news).toArray) H ev ea' (updP O p none) ∧ Ext A M w (M.addAt b off news) (w.setRow b (asplice cur.toList off news).toArray) ∧ (M.addAt b off news).row b off news := by
 have hbL : b ∉ L := hs.osep p b hp
 have hsz : (w.setRow b (asplice cur.toList off news).toArray).heap.size = w.heap.size := by simp [World.setRow]
 have hoth : ∀ k, k ≠ b → (w.setRow b (asplice cur.toList off news).toArray).heap[k]? = w.heap[k]? := fun k hk => setRow_other w b k _ hk
 have hnew := setRow_heap w b cur (asplice cur.toList off news).toArray e fr hg
 have hsub : M.sub (M.addAt b off news) := by
  intro b' o v hv
  unfold Mem.addAt
  split
  ·rename_i h
   obtain ⟨rfl, h1, h2⟩ := h
   have := hnone (o - off) (by omega)
   rw [show off + (o - off) = o by omega, hv] at this
   cases this
  ·exact hv
 have hMo : ∀ k, k ≠ b → ∀ o, (M.addAt b off news) k o = M k o := by
  intro k hk o
  unfold Mem.addAt
  rw [if_neg (fun h => hk h.1)]
 have hown : ∀ q k, updP O p none q = some k → k ≠ b := by
  intro q k hq hk
  subst hk
  simp only [updP] at hq
  split at hq
  ·cases hq
  ·rename_i n; exact n (hs.oinj _ _ _ hq hp)
 have hO : ∀ q k, updP O p none q = some k → O q = some k := by
  intro q k hq
  simp only [updP] at hq
  split at hq
  ·cases hq
  ·exact hq
 have hsp2 : off + news.length ≤ cur.toList.length := by simpa using hfit
 refine ⟨{ len := hs.len, nodup := hs.nodup, env := fun t => (henv t).mono hsub (List.prefix_refl _), mem := ?_, obj := ?_, strat := hs.strat, lt := ?_, spt := ?_, spc := ?_, oinj := fun q r k hq hr => hs.oinj q r k (hO q k hq) (hO r k hr), osep := fun q k hq => hs.osep q k (hO q k hq), olt := ?_, La := hs.La, Oa := fun q k hq => hs.Oa q k (hO q k hq), fresh := ?_ }, ?_, ?_⟩
 ·intro b' o v hv
  by_cases hb : b' = b
  ·subst hb
   simp only [World.cell?, hnew]
   have e1 : ((asplice cur.toList off news).toArray)[o]? = (asplice cur.toList off news)[o]? := by simp
   simp only [Option.isSome_none, Bool.false_eq_true, if_false]
   rw [e1, asplice_get _ _ _ hsp2]
   unfold Mem.addAt at hv
   split at hv
   ·rename_i h; rw [if_pos h.2]; exact hv
   ·rename_i h
    rw [if_neg (fun h' => h ⟨rfl, h'⟩)]
    have := hs.mem _ o v hv
    simpa [World.cell?, hg] using this
  ·rw [hMo b' hb o] at hv
   have := hs.mem b' o v hv
   simp only [World.cell?] at this ⊢
   rw [hoth b' hb]; exact this
 ·intro id o k ho hk
  have hkb : k ≠ b := by rintro rfl; exact hbL (List.mem_of_getElem? hk)
  exact (hs.obj id o k ho hk).mono hsub (List.prefix_refl _) (hoth k hkb) (hMo k hkb)
 ·intro k hk; rw [hsz]; exact hs.lt k hk
 ·intro t
  exact (hspt t).mono fun k hk => ⟨hoth k (hown _ k hk), hMo k (hown _ k hk)⟩
 ·intro id j
  have e1 : cellV L (w.setRow b (asplice cur.toList off news).toArray) id j = cellV L w id j := by
   unfold cellV
   split
   ·rename_i k hk
    have hkb : k ≠ b := by rintro rfl; exact hbL (List.mem_of_getElem? hk)
    simp only [World.cell?]
    rw [hoth k hkb]
   ·rfl
  rw [e1]
  exact (hspc id j).mono fun k hk => ⟨hoth k (hown _ k hk), hMo k (hown _ k hk)⟩
 ·intro q k hq; rw [hsz]; exact hs.olt q k (hO q k hq)
 ·intro k hk; rw [hsz] at hk; exact hs.fresh k hk
 ·exact ⟨hsub, by rw [hsz]; exact Nat.le_refl _, rfl, rfl, rfl, fun k hk hA => ⟨hoth k (fun e0 => hA (e0 ▸ hs.Oa p b hp)), hMo k (fun e0 => hA (e0 ▸ hs.Oa p b hp))⟩, fun k r hk => ⟨r, (hoth k (fun e0 => by rw [e0, hg] at hk; cases hk)).trans hk, rfl⟩⟩
 ·intro j v hv
  have hj := get_lt hv
  show Mem.addAt M b off news b (off + j) = some v
  unfold Mem.addAt
  rw [if_pos ⟨rfl, by omega, by omega⟩, show off + j - off = j by omega]
  exact hv
theorem St.newRow (hs : St A M L w H ev ea O) (e : TypeId) {esz need cap : Nat} (h0 : 0 < esz) {rw rest : List Value} {zs : List AV} (hl : rw.length = need * esz) (hc : rw.length + rest.length = cap * esz) (hcap : cap < 9223372036854775808) (hnc : need ≤ cap) (hn : 0 < need)
 (hz : zs.length = need) (hx : ∀ y ∈ zs, y.cells.length = esz) (hr : RepL M L rw (flat zs)) (cs : Array Value) (hcs : cs.toList = rw ++ rest) :
 ∃ M', Rep M' L (.slice (some ⟨w.heap.size, 0, none⟩) need cap) (.lst esz zs) ∧ Spare M' { w with heap := w.heap.push (.cells cs e) } (.slice (some ⟨w.heap.size, 0, none⟩) need cap) (.lst esz zs) (some w.heap.size) ∧
  St A M' L { w with heap := w.heap.push (.cells cs e) } H ev ea O ∧ Ext A M w M' { w with heap := w.heap.push (.cells cs e) } := by
 obtain ⟨g1, g2, g3⟩ := hs.addBlock cs e (0, 0) rw (fun j v hv => by
  have : cs.toList[j]? = some v := by rw [hcs, List.getElem?_append_left (get_lt hv)]; exact hv
  simpa using this)
 refine ⟨_, ?_, ?_, g1, g2⟩
 ·subst hz
  exact .lst _ _ _ _ esz rw zs h0 hx hn hnc hcap (hr.mono g2.msub (List.prefix_refl _)) g3
 ·unfold Spare
  simp only [Nat.ne_of_gt h0, if_false]
  refine ⟨hx, .inr ⟨_, 0, need, cap, cs, e, (0, 0), rfl, rfl, heap_push_new w _, okfr_zero _, ?_, ?_⟩⟩
  ·have : cs.size = cap * esz := by rw [← Array.length_toList, hcs, List.length_append]; exact hc
   omega
  ·intro k hk _
   simp only [Mem.add, if_true, Nat.zero_add]
   exact List.getElem?_eq_none (by omega)
theorem lst_inv {bs : Option Addr} {n c own : Nat} {xs : List AV} (h : Rep M L (.slice bs n c) (.lst own xs)) :
 n = xs.length ∧ ((xs = [] ∧ n = 0) ∨ ∃ b off cs, bs = some ⟨b, off, none⟩ ∧ RepL M L cs (flat xs) ∧ M.row b off cs) := by
 generalize hv : Value.slice bs n c = v at h
 cases h with
 | lst0 a c _ hc => cases hv; exact ⟨rfl, .inl ⟨rfl, rfl⟩⟩
 | lst b off c _ e cs _ he hx hn hle hc hr hm => cases hv; exact ⟨rfl, .inr ⟨b, off, cs, rfl, hr, hm⟩⟩
def aappend (esz bytes : Nat) (s x : AV) (φ : List AV → Prop) : Prop :=
 match alist esz s, rlist x with
 | some xs, some ys => (xs.length + ys.length) * bytes ≤ 140737488355328 ∧ okE esz ys ∧ φ (xs ++ ys)
 | _, _ => False
def IX.slot : IX → Option Nat
 | .t n => some n
 | .c _ => none
def unslot (ea : Nat → AV) (s : Option Nat) : Nat → AV := match s with | some d => upd ea d (ea d).unown | none => ea
theorem alist_rep {esz : Nat} {s : AV} {xs : List AV} (hs : alist esz s = some xs) {u : Value} (hu : Rep M L u s) : Rep M L u (.lst esz xs) ∧ (s = .nils ∧ u = .slice none 0 0 ∨ s = .lst esz xs) := by
 unfold alist at hs
 split at hs
 ·cases hs; cases hu; exact ⟨.lst0 _ _ _ (by decide), .inl ⟨rfl, rfl⟩⟩
 ·rename_i own ys
  split at hs
  ·rename_i e; cases hs; subst e; exact ⟨hu, .inr rfl⟩
  ·cases hs
 ·cases hs
theorem rlist_form {esz : Nat} {x : AV} {ys : List AV} (hx : rlist x = some ys) (hok : okE esz ys) {u : Value} (hu : Rep M L u x) :
 (ys = [] ∧ ∃ b c, u = .slice b 0 c) ∨ (0 < ys.length ∧ ∃ b off c news, u = .slice (some ⟨b, off, none⟩) ys.length c ∧ RepL M L news (flat ys) ∧ M.row b off news ∧ news.length = ys.length * esz) := by
 have key : ∀ own, Rep M L u (.lst own ys) → (ys = [] ∧ ∃ b c, u = .slice b 0 c) ∨ (0 < ys.length ∧ ∃ b off c news, u = .slice (some ⟨b, off, none⟩) ys.length c ∧ RepL M L news (flat ys) ∧ M.row b off news ∧ news.length = ys.length * esz) := by
  intro own h
  cases h with
  | lst0 a c _ hc => exact .inl ⟨rfl, _, _, rfl⟩
  | lst b off c _ e cs _ he hx hn hle hc hr hm =>
    refine .inr ⟨hn, b, off, c, cs, rfl, hr, hm, ?_⟩
    rw [hr.length, flat_length ys esz (fun y hy => (hok y hy).1)]
 unfold rlist at hx
 split at hx
 ·cases hx; cases hu; exact .inl ⟨rfl, _, _, rfl⟩
 ·rename_i own zs; cases hx; exact key own hu
 ·cases hx
theorem flat_append (xs ys : List AV) : flat (xs ++ ys) = flat xs ++ flat ys := by simp [flat]
theorem flat_one {ys : List AV} {esz : Nat} (h : okE esz ys) : (flat ys).all AV.one = true := by
 rw [List.all_eq_true]
 intro x hx
 simp only [flat, List.mem_flatMap] at hx
 obtain ⟨y, hy, hxy⟩ := hx
 exact List.all_eq_true.1 (h y hy).2 x hxy
theorem aappend_run (hs : St A M L w H ev ea O) {t ty e : TypeId} {i : TypeInfo} {z : Value} {esz bytes : Nat} (ht : P.underlying t = some (.slice e)) (hi : P.info? e = some i) (hz : i.zero = some z) (hsz : i.size = esz) (hby : i.bytes = bytes) (hzs : z.cells.size = esz) (h0 : 0 < esz) (hb0 : 0 < bytes)
 {u v : Value} {s x : AV} {φ : List AV → Prop} (h : aappend esz bytes s x φ) (slot : Option Nat) (hu : Rep M L u s) (hsl : match slot with | some d => ev d = u ∧ ea d = s | none => s = .nils) (hv : Rep M L v x) :
 ∃ r w' M' O' ob zs, (Builtin.append_ #[t, t] ty #[u, v]).run P w = .ok r w' ∧ φ zs ∧ Rep M' L r (.lst esz zs) ∧ Spare M' w' r (.lst esz zs) ob ∧ St A M' L w' H ev (unslot ea slot) O' ∧ Ext A M w M' w' ∧
  (∀ q b, ob = some b → O' q ≠ some b) ∧ (∀ b, ob = some b → b ∉ L ∧ b < w'.heap.size ∧ A b) := by
 unfold aappend at h
 split at h <;> try exact h.elim
 rename_i xs ys hxs hys
 obtain ⟨hbound, hok, hφ⟩ := h
 obtain ⟨hul, hcase⟩ := alist_rep hxs hu
 have hesz0 : esz ≠ 0 := by omega
 -- the slot forgets what it owned
 have hforget : ∃ O1 ob1, St A M L w H ev (unslot ea slot) O1 ∧ Spare M w u (.lst esz xs) ob1 ∧ (∀ q b, ob1 = some b → O1 q ≠ some b) ∧ (∀ b, ob1 = some b → b ∉ L ∧ b < w.heap.size ∧ A b ∧ ∃ d, slot = some d ∧ O (.t d) = some b ∧ O1 = updP O (.t d) none) := by
  have hnil : u = .slice none 0 0 → s = .nils → Spare M w u (.lst esz xs) none := by
   rintro rfl rfl
   simp [alist] at hxs; subst hxs
   simp only [Spare, hesz0, if_false]
   exact ⟨by simp, .inl ⟨trivial, none, 0, rfl⟩⟩
  cases slot with
  | none =>
    simp only at hsl
    subst hsl
    cases hu
    exact ⟨O, none, hs, hnil rfl rfl, (by intro q b e; cases e), (by intro b e; cases e)⟩
  | some d =>
    simp only at hsl
    have hput := hs.put0 d (v := u) (x := (ea d).unown) (by rw [hsl.2]; exact hu.unown) (AV.unown_free _)
    have hevs : upd ev d u = ev := by funext t'; simp only [upd]; split; rename_i e0; rw [e0, hsl.1]; rfl
    rw [hevs] at hput
    rcases hcase with ⟨h1, h2⟩ | h1
    ·exact ⟨_, none, hput, hnil h2 h1, (by intro q b e; cases e), (by intro b e; cases e)⟩
    ·refine ⟨_, O (.t d), hput, ?_, ?_, ?_⟩
     ·have := hs.spt d
      rwa [hsl.1, hsl.2, h1] at this
     ·intro q b hb hq
      simp only [updP] at hq
      split at hq
      ·cases hq
      ·rename_i n; exact n (hs.oinj _ _ b hq hb)
     ·intro b hb
      exact ⟨hs.osep _ b hb, hs.olt _ b hb, hs.Oa _ b hb, d, rfl, hb, rfl⟩
 obtain ⟨O1, ob1, hs1, hsp1, hd1, hd2⟩ := hforget
 have hxl : ∀ y ∈ xs, y.cells.length = esz := by
  have := hsp1
  simp only [Spare, hesz0, if_false] at this
  exact this.1
 have hform : ∃ bs n c, u = .slice bs n c ∧ n = xs.length ∧ n ≤ c ∧ c < 9223372036854775808 := by
  cases hul with
  | lst0 a c _ hc => exact ⟨a, 0, c, rfl, rfl, Nat.zero_le _, hc⟩
  | lst b off c _ e cs _ he hx hn hle hc hr hm => exact ⟨_, _, c, rfl, rfl, hle, hc⟩
 rcases rlist_form hys hok hv with ⟨rfl, b', c', rfl⟩ | ⟨hm0, b2, o2, c2, news, rfl, hnr, hnm, hnl⟩
 ·-- nothing is appended
  obtain ⟨bs, n, c, rfl, hn, hnc, hc⟩ := hform
  refine ⟨_, w, M, O1, ob1, xs ++ [], run_append_nothing ht hi w bs n c hnc b' c', hφ, by simpa using hul, by simpa using hsp1, hs1, Ext.refl A M w, hd1, fun b hb => ⟨(hd2 b hb).1, (hd2 b hb).2.1, (hd2 b hb).2.2.1⟩⟩
 ·have hnews : ∀ j u, news[j]? = some u → w.cell? ((⟨b2, o2, none⟩ : Addr).add j) = some u := row_cells hnm hs.mem
  have hone := hnr.oneCell (flat_one hok)
  have hlen : (xs.length + ys.length) ≤ 140737488355328 := Nat.le_trans (Nat.le_mul_of_pos_right _ hb0) hbound
  have hzl : ∀ y ∈ xs ++ ys, y.cells.length = esz := by
   intro y hy
   rcases List.mem_append.1 hy with h' | h'
   ·exact hxl y h'
   ·exact (hok y h').1
  -- a new row
  have grow : ∀ (olds : List Value) (oldCap : Nat) (w' : World), RepL M L olds (flat xs) → olds.length = xs.length * esz → w' = w.drew.alloc (.cells (olds.toArray ++ news.toArray ++ Builtin.zeroCells z.cells (grownCap w (xs.length + ys.length) oldCap e - (xs.length + ys.length))) e) →
   (Builtin.append_ #[t, t] ty #[u, .slice (some ⟨b2, o2, none⟩) ys.length c2]).run P w = .ok (.slice (some ⟨w.heap.size, 0, none⟩) (xs.length + ys.length) (grownCap w (xs.length + ys.length) oldCap e)) w' →
   ∃ r w' M' O' ob zs, (Builtin.append_ #[t, t] ty #[u, .slice (some ⟨b2, o2, none⟩) ys.length c2]).run P w = .ok r w' ∧ φ zs ∧ Rep M' L r (.lst esz zs) ∧ Spare M' w' r (.lst esz zs) ob ∧ St A M' L w' H ev (unslot ea slot) O' ∧ Ext A M w M' w' ∧
    (∀ q b, ob = some b → O' q ≠ some b) ∧ (∀ b, ob = some b → b ∉ L ∧ b < w'.heap.size ∧ A b) := by
   intro olds oldCap w' hor hol hw' hrun
   have hge := grownCap_ge w (xs.length + ys.length) oldCap e
   have hle := grownCap_le_maxLen w (xs.length + ys.length) oldCap e (by simp only [maxLen]; omega)
   simp only [maxLen] at hle
   have hd := hs1.drew
   obtain ⟨M', k1, k2, k3, k4⟩ := hd.newRow e (need := xs.length + ys.length) (cap := grownCap w (xs.length + ys.length) oldCap e) h0 (rw := olds ++ news) (rest := (Builtin.zeroCells z.cells (grownCap w (xs.length + ys.length) oldCap e - (xs.length + ys.length))).toList) (zs := xs ++ ys)
    (by rw [List.length_append, hol, hnl, Nat.add_mul]) (by
      have hzc : (Builtin.zeroCells z.cells (grownCap w (xs.length + ys.length) oldCap e - (xs.length + ys.length))).toList.length = (grownCap w (xs.length + ys.length) oldCap e - (xs.length + ys.length)) * esz := by
       rw [Array.length_toList, size_zeroCells, hzs]
      rw [List.length_append, hol, hnl, hzc, ← Nat.add_mul, ← Nat.add_mul]
      congr 1; omega) (by omega) hge (by omega) (by simp) hzl (by rw [flat_append]; exact hor.append hnr)
    (olds.toArray ++ news.toArray ++ Builtin.zeroCells z.cells (grownCap w (xs.length + ys.length) oldCap e - (xs.length + ys.length))) (by simp)
   have hext : Ext A M w M' { { w with drawn := w.drawn + 1 } with heap := w.heap.push (.cells (olds.toArray ++ news.toArray ++ Builtin.zeroCells z.cells (grownCap w (xs.length + ys.length) oldCap e - (xs.length + ys.length))) e) } := Ext.drew.trans k4
   have hww : w' = { { w with drawn := w.drawn + 1 } with heap := w.heap.push (.cells (olds.toArray ++ news.toArray ++ Builtin.zeroCells z.cells (grownCap w (xs.length + ys.length) oldCap e - (xs.length + ys.length))) e) } := hw'
   refine ⟨_, _, M', O1, some w.heap.size, xs ++ ys, hrun, hφ, k1, by rw [hww]; exact k2, by rw [hww]; exact k3, by rw [hww]; exact hext, ?_, ?_⟩
   ·intro q b hb hq
    cases hb
    exact absurd (hs1.olt q _ hq) (Nat.lt_irrefl _)
   ·intro b hb
    cases hb
    refine ⟨fun hm => absurd (hs.lt _ hm) (Nat.lt_irrefl _), by rw [hww]; simp, hs.fresh _ (Nat.le_refl _)⟩
  obtain ⟨bs, n, c, rfl, hn, hnc, hc⟩ := hform
  subst hn
  by_cases hroom : xs.length + ys.length ≤ c
  ·-- in place
   have hsp2 := hsp1
   simp only [Spare, hesz0, if_false] at hsp2
   rcases hsp2.2 with ⟨_, a, n, hn⟩ | ⟨b, off, n, c', cs, e', fr, e1, e2, e3, e4, e5, e6⟩
   ·cases hn; omega
   ·cases e2
    obtain ⟨f1, f2, f3, d, rfl, f5, rfl⟩ := hd2 b e1
    have hnl' : news.length = ys.length * i.size := by rw [hsz]; exact hnl
    have hle2 : (xs.length + ys.length) * esz ≤ c * esz := Nat.mul_le_mul_right _ hroom
    rw [Nat.add_mul] at hle2
    have hfit : off + xs.length * esz + news.length ≤ cs.size := by rw [hnl]; omega
    have hrun := run_append_room_fr (P := P) (ty := ty) ht hi w b off xs.length c cs fr e3 e4 ⟨b2, o2, none⟩ ys.length c2 news hnl' hnews hone hroom (by rw [hsz]; exact hfit)
    rw [hsz] at hrun
    have hnone : ∀ k, k < news.length → M b (off + xs.length * esz + k) = none := by
     intro k hk
     rw [Nat.add_assoc]
     exact e6 _ (by omega) (by rw [hnl] at hk; omega)
    have hev1 : ∀ t', Rep M L (ev t') (unslot ea (some d) t') := hs1.env
    obtain ⟨g1, g2, g3⟩ := hs.inPlace (p := .t d) f5 e3 hfit hnone (ea' := unslot ea (some d)) hev1 hs1.spt (fun id j => by simpa [updP] using hs.spc id j)
    refine ⟨_, _, _, _, some b, xs ++ ys, hrun, hφ, ?_, ?_, g1, g2, ?_, ?_⟩
    ·-- what it reads as
     have hnew : RepL (M.addAt b (off + xs.length * esz) news) L news (flat ys) := hnr.mono g2.msub (List.prefix_refl _)
     have hold : ∃ olds, RepL M L olds (flat xs) ∧ M.row b off olds ∧ olds.length = xs.length * esz := by
      rcases (lst_inv hul).2 with ⟨h', _⟩ | ⟨b1, off1, cs1, he1, hr, hm⟩
      ·subst h'; exact ⟨[], .nil, by intro j v hv; simp at hv, by simp⟩
      ·cases he1; exact ⟨cs1, hr, hm, by rw [hr.length, flat_length xs esz hxl]⟩
     obtain ⟨olds, o1, o2', o3⟩ := hold
     have := Rep.lst (M := M.addAt b (off + xs.length * esz) news) (L := L) b off c esz esz (olds ++ news) (xs ++ ys) h0 hzl (by simp; omega) (by simpa using hroom) hc (by rw [flat_append]; exact (o1.mono g2.msub (List.prefix_refl _)).append hnew) (by
      intro j v hv
      rw [List.getElem?_append] at hv
      split at hv
      ·exact g2.msub _ _ _ (o2' j v hv)
      ·rename_i hj
       have := g3 _ v hv
       rwa [show off + xs.length * esz + (j - olds.length) = off + j by omega] at this)
     simpa using this
    ·simp only [Spare, hesz0, if_false]
     refine ⟨hzl, .inr ⟨b, off, xs.length + ys.length, c, (asplice cs.toList (off + xs.length * esz) news).toArray, e', fr, rfl, by simp, setRow_heap w b cs _ e' fr e3, ?_, ?_, ?_⟩⟩
     ·have : (asplice cs.toList (off + xs.length * esz) news).toArray.size = cs.size := by
       rw [List.size_toArray, asplice_length _ _ _ (by simpa using hfit)]; simp
      rw [this]; exact e4
     ·rw [List.size_toArray, asplice_length _ _ _ (by simpa using hfit)]; simpa using e5
     ·intro k hk hk'
      unfold Mem.addAt
      rw [Nat.add_mul] at hk
      rw [if_neg (by rw [hnl]; omega)]
      exact e6 k (by omega) hk'
    ·intro q b' hb hq
     cases hb
     exact hd1 q b e1 hq
    ·intro b' hb
     cases hb
     refine ⟨f1, ?_, f3⟩
     simpa [World.setRow] using f2
  ·-- a new one
   have hbound' : (xs.length + ys.length) * i.bytes ≤ 140737488355328 := by rw [hby]; exact hbound
   cases bs with
   | none =>
     have hx0 : xs.length = 0 := by
      rcases (lst_inv hul).2 with ⟨_, h'⟩ | ⟨b1, off1, cs1, he1, _⟩
      ·exact h'
      ·cases he1
     have hc0 : c = 0 := by
      have hsp2 := hsp1
      simp only [Spare, hesz0, if_false] at hsp2
      rcases hsp2.2 with ⟨_, a, n, hn⟩ | ⟨b, off, n, c', cs, e', fr, e1, e2, _⟩
      ·cases hn; exact hx0
      ·cases e2
     have hxnil : xs = [] := List.eq_nil_of_length_eq_zero hx0
     subst hxnil
     subst hc0
     have hr := run_append_nil (P := P) w t ty e i z ht hi hz ⟨b2, o2, none⟩ ys.length c2 news (by rw [hsz]; exact hnl) hnews hm0 (by omega) (by simp at hbound'; omega)
     refine grow [] 0 _ (by exact .nil) (by simp) rfl ?_
     simpa using hr
   | some a =>
     have hold : ∃ olds, RepL M L olds (flat xs) ∧ (∀ j v, olds[j]? = some v → w.cell? (a.add j) = some v) ∧ olds.length = xs.length * esz := by
      rcases (lst_inv hul).2 with ⟨h', _⟩ | ⟨b1, off1, cs1, he1, hr, hm⟩
      ·subst h'; exact ⟨[], .nil, by intro j v hv; simp at hv, by simp⟩
      ·cases he1; exact ⟨cs1, hr, row_cells hm hs.mem, by rw [hr.length, flat_length xs esz hxl]⟩
     obtain ⟨olds, o1, o2', o3⟩ := hold
     have hr := run_append_grow (P := P) w t ty e i z ht hi hz a xs.length c olds (by rw [hsz]; exact o3) o2' ⟨b2, o2, none⟩ ys.length c2 news (by rw [hsz]; exact hnl) hnews (by omega) (by omega) (growslice_fits (by omega) hbound')
     exact grow olds c _ o1 o3 rfl hr
end
end Go.Abs
end
section
namespace Go.Abs
open Go
def zcanon : AV → AV
 | .agg ys => .agg (ys.map AV.drop)
 | z => z
section
variable {P : Program} {w : World} {M : Mem} {L : List Nat} {H : List AObj} {A : Perm} {ev : Nat → Value} {ea : Nat → AV} {O : Pos → Option Nat}
theorem zcanon_cells (z : AV) : (zcanon z).cells.length = z.cells.length := by cases z <;> simp [zcanon, AV.cells]
theorem Rep.zcanon {v : Value} {z : AV} (h : Rep M L v z) : Rep M L v (zcanon z) := by
 cases z <;> first | exact h | skip
 cases h with
 | agg cs _ hr => exact .agg cs _ hr.map_drop
theorem zcanon_val {x : AV} (h : x.val = true) : (Go.Abs.zcanon x).val = true := by
 cases x <;> simp_all [Go.Abs.zcanon, AV.val]
def amkarr (esz bytes : Nat) (z n : AV) (H : List AObj) (K : AV → List AObj → Prop) : Prop :=
 match n with
 | .int .i64 n => 0 ≤ n ∧ n.toNat * bytes ≤ 140737488355328 ∧ belowL (H.length + 1) (flat (List.replicate n.toNat (zcanon z))) = true ∧
    K (.arr H.length 0 n.toNat n.toNat) (H ++ [.cells (flat (List.replicate n.toNat (zcanon z)))])
 | _ => False
theorem run_mk {t e : TypeId} {i : TypeInfo} {z : Value} {esz bytes : Nat} (ht : P.underlying t = some (.slice e)) (hi : P.info? e = some i) (hz : i.zero = some z) (hsz : i.size = esz) (hby : i.bytes = bytes) (hzs : z.cells.size = esz) (h0 : 0 < esz) (hb0 : 0 < bytes)
 (l c : Int) (hl0 : 0 ≤ l) (hlc : l ≤ c) (hc : c.toNat * bytes ≤ 140737488355328) (w : World) :
 ∃ cs : Array Value, (Instr.makeSlice t (.int .i64 l) (.int .i64 c)).run P w = .ok (.slice (some ⟨w.heap.size, 0, none⟩) l.toNat c.toNat) { w with heap := w.heap.push (.cells cs e) } ∧ cs = (Array.range (c.toNat * esz)).map (z.cells[· % z.cells.size]!) := by
 have hcl : c.toNat ≤ 140737488355328 := Nat.le_trans (Nat.le_mul_of_pos_right _ hb0) hc
 have hc0 : 0 ≤ c := by omega
 have w1 : IntKind.i64.wrap l = l := by
  have : IntKind.i64.bits = 64 := rfl
  have : IntKind.i64.signed = true := rfl
  simp only [IntKind.wrap, *]
  have : l % 2 ^ 64 = l := Int.emod_eq_of_lt hl0 (by omega)
  rw [this]
  rw [if_neg (by simp; omega)]
 have w2 : IntKind.i64.wrap c = c := by
  have : IntKind.i64.bits = 64 := rfl
  have : IntKind.i64.signed = true := rfl
  simp only [IntKind.wrap, *]
  have : c % 2 ^ 64 = c := Int.emod_eq_of_lt hc0 (by omega)
  rw [this]
  rw [if_neg (by simp; omega)]
 have hcn : (c.toNat : Int) = c := Int.toNat_of_nonneg hc0
 have hbig : ¬ ((bytes : Int) * c > 2 ^ 48) := by
  have : (bytes : Int) * c = ((c.toNat * bytes : Nat) : Int) := by rw [Int.natCast_mul, hcn, Int.mul_comm]
  rw [this]; omega
 have hneg : ¬ c < 0 := by omega
 have hneg2 : ¬ l < 0 := by omega
 have hgt : ¬ l > c := by omega
 refine ⟨_, ?_, rfl⟩
 simp only [Instr.makeSlice, Sem.run_bind, run_underlying ht, Result.andThen_ok, asInt, asIntOf, Sem.run_pure, typeInfo, run_program, hi, hby, w1, w2, hneg, hneg2, hgt, hbig, decide_false, Bool.or_self, Bool.false_eq_true, if_false, run_askRoom, sizeOf, hsz]
 by_cases hn : c.toNat * esz = 0
 ·simp [hn, newRow]
  congr 2
  apply Array.ext'
  simp
 ·simp [hn, zeroValue, typeInfo, hi, hz, newRow]
theorem amkarr_run (hs : St A M L w H ev ea O) {t e : TypeId} {i : TypeInfo} {zv : Value} {esz bytes : Nat} (ht : P.underlying t = some (.slice e)) (hi : P.info? e = some i) (hz : i.zero = some zv) (hsz : i.size = esz) (hby : i.bytes = bytes) (h0 : 0 < esz) (hb0 : 0 < bytes)
 {z : AV} (hza : ofValue zv = some z) (hzv : z.val = true) (hzl : z.cells.length = esz) (hzf : ∀ y ∈ z.cells, ∀ own xs, y = .lst own xs → own = 0) {u : Value} {n : AV} {K : AV → List AObj → Prop} (h : amkarr esz bytes z n H K) (hu : Rep M L u n) :
 ∃ r x L' w' H', (Instr.makeSlice t u u).run P w = .ok r w' ∧ Rep M L' r x ∧ (∀ own xs, x = .lst own xs → own = 0) ∧ K x H' ∧ St A M L' w' H' ev ea O ∧ Ext A M w M w' ∧ L <+: L' := by
 unfold amkarr at h
 split at h <;> try exact h.elim
 rename_i n
 obtain ⟨hn0, hnb, hbl, hK⟩ := h
 cases hu
 have hzr := (ofValue_rep (M := M) (L := L) hza).zcanon.vcells (zcanon_val hzv)
 have hzs : zv.cells.size = esz := by have := hzr.length; rw [zcanon_cells, hzl] at this; simpa using this
 obtain ⟨cs, hrun, rfl⟩ := run_mk ht hi hz hsz hby hzs h0 hb0 n n hn0 (Int.le_refl _) hnb w
 have hcells := zero_cells (M := M) (L := L) zv.cells esz n.toNat hzs h0 (zcanon z) hzr
 have hcn : n.toNat ≤ 140737488355328 := Nat.le_trans (Nat.le_mul_of_pos_right _ hb0) hnb
 obtain ⟨g1, g2⟩ := hs.addObj (.cells ((Array.range (n.toNat * esz)).map (zv.cells[· % zv.cells.size]!)) e) (.cells (flat (List.replicate n.toNat (zcanon z)))) (fun w' hw hM => ⟨_, e, hw, hcells.mono (Mem.sub_refl M) ⟨_, rfl⟩, hM⟩) (by simpa [AObj.blw] using hbl) (fun j => by
  simp only [aobjCell]
  refine Spare.free ?_
  intro own xs hh
  rw [List.getD_eq_getElem?_getD] at hh
  cases hx : (flat (List.replicate n.toNat (zcanon z)))[j]? with
  | none => simp [hx] at hh
  | some y =>
    simp [hx] at hh
    have hy := List.mem_of_getElem? hx
    simp only [flat, List.mem_flatMap] at hy
    obtain ⟨q, hq, hyq⟩ := hy
    rw [List.eq_of_mem_replicate hq] at hyq
    subst hh
    cases z <;> simp only [zcanon, AV.cells] at hyq hzf
    case agg ys =>
     obtain ⟨y', _, hy'⟩ := List.mem_map.1 hyq
     exact AV.drop_free y' own xs hy'
    all_goals exact hzf _ hyq own xs rfl)
 refine ⟨_, .arr H.length 0 n.toNat n.toNat, _, _, _, hrun, .arr w.heap.size 0 _ _ H.length ?_ (by omega), (by intro _ _ e; cases e), hK, g1, g2, ⟨_, rfl⟩⟩
 rw [List.getElem?_append_right (by rw [hs.len]; exact Nat.le_refl _), hs.len]; simp
def amkbuf (esz bytes : Nat) (n : AV) (φ : AV → Prop) : Prop :=
 match n with
 | .int .i64 n => 0 ≤ n ∧ n.toNat * bytes ≤ 140737488355328 ∧ φ (.lst esz [])
 | _ => False
theorem amkbuf_run (hs : St A M L w H ev ea O) {t e : TypeId} {i : TypeInfo} {zv : Value} {esz bytes : Nat} (ht : P.underlying t = some (.slice e)) (hi : P.info? e = some i) (hz : i.zero = some zv) (hsz : i.size = esz) (hby : i.bytes = bytes) (h0 : 0 < esz) (hb0 : 0 < bytes)
 (hzs : zv.cells.size = esz) {u : Value} {n : AV} {φ : AV → Prop} (h : amkbuf esz bytes n φ) (hu : Rep M L u n) :
 ∃ r w' M' b, (Instr.makeSlice t (.int .i64 0) u).run P w = .ok r w' ∧ Rep M' L r (.lst esz []) ∧ φ (.lst esz []) ∧ Spare M' w' r (.lst esz []) (some b) ∧ St A M' L w' H ev ea O ∧ Ext A M w M' w' ∧
  (∀ q, O q ≠ some b) ∧ b ∉ L ∧ b < w'.heap.size ∧ A b := by
 unfold amkbuf at h
 split at h <;> try exact h.elim
 rename_i n
 obtain ⟨hn0, hnb, hφ⟩ := h
 cases hu
 obtain ⟨cs, hrun, hcs⟩ := run_mk ht hi hz hsz hby hzs h0 hb0 0 n (Int.le_refl _) hn0 hnb w
 have hcn : n.toNat ≤ 140737488355328 := Nat.le_trans (Nat.le_mul_of_pos_right _ hb0) hnb
 obtain ⟨g1, g2, g3⟩ := hs.addBlock cs e (0, 0) [] (fun j v hv => by simp at hv)
 refine ⟨_, _, _, w.heap.size, hrun, .lst0 _ _ _ (by omega), hφ, ?_, g1, g2, fun q hq => absurd (hs.olt q _ hq) (Nat.lt_irrefl _), fun hm => absurd (hs.lt _ hm) (Nat.lt_irrefl _), by simp, hs.fresh _ (Nat.le_refl _)⟩
 unfold Spare
 simp only [Nat.ne_of_gt h0, if_false]
 refine ⟨by simp, .inr ⟨_, 0, 0, n.toNat, cs, e, (0, 0), rfl, by simp, heap_push_new w _, okfr_zero _, ?_, ?_⟩⟩
 ·rw [hcs]; simp
 ·intro k _ _
  simp [Mem.add]
def aidx (x : Option AV) (d : Nat) (φ : Nat → Prop) : Prop :=
 match x with
 | none => φ d
 | some (.int _ i) => 0 ≤ i ∧ φ i.toNat
 | _ => False
def aslice (esz : Nat) (x : AV) (lo hi mx : Option AV) (φ : AV → Prop) : Prop :=
 match rlist x with
 | some xs => aidx hi xs.length fun h => aidx lo 0 fun l => l ≤ h ∧ h ≤ xs.length ∧
    match mx with
    | none => φ (.lst 0 ((xs.take h).drop l))
    | some m => hi.isSome = true ∧ aidx (some m) 0 fun m => m = h ∧ (∀ y ∈ xs, y.cells.length = esz) ∧ φ (.lst esz ((xs.take h).drop l))
 | none => False
theorem flat_take : ∀ (xs : List AV) (e n : Nat), (∀ y ∈ xs, y.cells.length = e) → flat (xs.take n) = (flat xs).take (n * e)
 | [], e, n, _ => by simp [flat]
 | y :: ys, e, 0, _ => by simp [flat]
 | y :: ys, e, n + 1, hx => by
   have hy := hx y (by simp)
   have ih := flat_take ys e n (fun z hz => hx z (by simp [hz]))
   simp only [flat] at ih
   simp only [List.take_succ_cons, flat, List.flatMap_cons, ih]
   rw [List.take_append, List.take_of_length_le (l := y.cells) (by rw [hy, Nat.add_mul]; omega), hy, show (n + 1) * e - e = n * e by rw [Nat.add_mul]; omega]
theorem flat_drop : ∀ (xs : List AV) (e n : Nat), (∀ y ∈ xs, y.cells.length = e) → flat (xs.drop n) = (flat xs).drop (n * e)
 | [], e, n, _ => by simp [flat]
 | y :: ys, e, 0, _ => by simp [flat]
 | y :: ys, e, n + 1, hx => by
   have hy := hx y (by simp)
   have ih := flat_drop ys e n (fun z hz => hx z (by simp [hz]))
   simp only [flat] at ih
   simp only [List.drop_succ_cons, flat, List.flatMap_cons]
   rw [ih, List.drop_append, List.drop_eq_nil_of_le (as := y.cells) (by rw [hy, Nat.add_mul]; omega), hy, show (n + 1) * e - e = n * e by rw [Nat.add_mul]; omega]
   rfl
def optRep (M : Mem) (L : List Nat) (x : Option AV) (v : Option Value) : Prop := match x, v with | none, none => True | some x, some v => Rep M L v x | _, _ => False
theorem aidx_bound {x : Option AV} {v : Option Value} (hx : optRep M L x v) {d : Nat} {φ : Nat → Prop} (h : aidx x d φ) :
 ∃ k, φ k ∧ ((x = none ∧ v = none ∧ k = d) ∨ ∃ kd i, v = some (.int kd i) ∧ 0 ≤ i ∧ i.toNat = k) := by
 unfold aidx at h
 split at h
 ·cases v with
  | none => exact ⟨d, h, .inl ⟨rfl, rfl, rfl⟩⟩
  | some v => exact hx.elim
 ·rename_i kd i
  cases v with
  | none => exact hx.elim
  | some v =>
    have hx' : Rep M L v (.int kd i) := hx
    cases hx'
    exact ⟨_, h.2, .inr ⟨_, _, rfl, h.1, rfl⟩⟩
 ·exact h.elim
theorem run_sliceBound (w : World) (kd : IntKind) (i : Int) (y : Nat) (code : BoundsCode) (h0 : 0 ≤ i) (h1 : i.toNat ≤ y) : (Instr.sliceBound (.int kd i) y code).run P w = .ok i.toNat w := by
 have : 0 ≤ i ∧ i ≤ (y : Int) := ⟨h0, by omega⟩
 simp [Instr.sliceBound, asIntOf, this]
theorem aslice_run (hs : St A M L w H ev ea O) {t e : TypeId} {esz : Nat} (ht : P.underlying t = some (.slice e)) (he : tcells P e = some esz) (h0 : 0 < esz) {u : Value} {x : AV} {lo hi mx : Option AV} {vlo vhi vmx : Option Value} {φ : AV → Prop}
 (h : aslice esz x lo hi mx φ) (hu : Rep M L u x) (hesz : ∀ own xs, x = .lst own xs → ∀ z ∈ xs, z.cells.length = esz)
 (h1 : optRep M L lo vlo) (h2 : optRep M L hi vhi) (h3 : optRep M L mx vmx) :
 ∃ a n c own ys, (Instr.sliceAt t u vlo vhi vmx).run P w = .ok (.slice a n c) w ∧ Rep M L (.slice a n c) (.lst own ys) ∧ φ (.lst own ys) ∧ (own ≠ 0 → n = c ∧ ∀ y ∈ ys, y.cells.length = own) := by
 unfold aslice at h
 split at h <;> try exact h.elim
 rename_i xs hxs
 have hsz : (sizeOf e).run P w = .ok esz w := by
  obtain ⟨i, hi, hik⟩ := Option.map_eq_some_iff.1 he
  simp [sizeOf, typeInfo, hi, hik]
 obtain ⟨hh, h, hhi⟩ := aidx_bound h2 h
 obtain ⟨ll, h, hlo⟩ := aidx_bound h1 h
 obtain ⟨hle, hhl, h⟩ := h
 have hul : ∃ own, Rep M L u (.lst own xs) := by
  unfold rlist at hxs
  split at hxs
  ·cases hxs; cases hu; exact ⟨0, .lst0 _ _ _ (by decide)⟩
  ·cases hxs; exact ⟨_, hu⟩
  ·cases hxs
 obtain ⟨own0, hul⟩ := hul
 have hxl : ∀ z ∈ xs, z.cells.length = esz := by
  unfold rlist at hxs
  split at hxs
  ·cases hxs; simp
  ·cases hxs; exact hesz _ _ rfl
  ·cases hxs
 have hform : ∃ bs c, u = .slice bs xs.length c ∧ xs.length ≤ c ∧ c < 9223372036854775808 := by
  cases hul with
  | lst0 a c _ hc => exact ⟨a, c, rfl, Nat.zero_le _, hc⟩
  | lst b off c _ e cs _ he hx hn hle hc hr hm => exact ⟨_, c, rfl, hle, hc⟩
 obtain ⟨bs, c, rfl, hxc, hc⟩ := hform
 have rep : ∀ (own m : Nat), hh ≤ m → m ≤ c → Rep M L (.slice (if m = ll then bs else bs.map (·.add (ll * esz))) (hh - ll) (m - ll)) (.lst own ((xs.take hh).drop ll)) := by
  intro own m hm1 hm2
  have hlen : ((xs.take hh).drop ll).length = hh - ll := by simp; omega
  by_cases hz : hh - ll = 0
  ·have : (xs.take hh).drop ll = [] := List.eq_nil_of_length_eq_zero (by omega)
   rw [this, hz]
   exact .lst0 _ _ _ (by omega)
  ·rcases (lst_inv hul).2 with ⟨h', _⟩ | ⟨b, off, cs, rfl, hr, hm⟩
   ·subst h'; simp at hlen; omega
   ·rw [if_neg (by omega)]
    simp only [Option.map_some, Addr.add_lit]
    have hx' : ∀ z ∈ (xs.take hh).drop ll, z.cells.length = esz := fun z hz => hxl z (List.mem_of_mem_take (List.mem_of_mem_drop hz))
    have := Rep.lst (M := M) (L := L) b (off + ll * esz) (m - ll) own esz ((cs.take (hh * esz)).drop (ll * esz)) ((xs.take hh).drop ll) h0 hx' (by omega) (by omega) (by omega) (by
     rw [flat_drop _ esz ll (fun z hz => hxl z (List.mem_of_mem_take hz)), flat_take _ esz hh hxl]
     exact (hr.take _).drop _) (by
     intro j v hv
     rw [List.getElem?_drop, List.getElem?_take] at hv
     split at hv
     ·have := hm _ v hv
      rwa [← Nat.add_assoc] at this
     ·cases hv)
    rwa [hlen] at this
 cases mx with
 | none =>
   cases vmx with
   | some v => exact h3.elim
   | none =>
     refine ⟨_, _, _, 0, _, ?_, rep 0 c (by omega) (Nat.le_refl _), h, fun h => absurd rfl h⟩
     have hb : (Instr.sliceBounds true xs.length c vlo vhi none).run P w = .ok (ll, hh, c) w := by
      rcases hhi with ⟨_, rfl, rfl⟩ | ⟨kd, i, rfl, hi0, rfl⟩ <;> rcases hlo with ⟨_, rfl, rfl⟩ | ⟨kd', i', rfl, hi0', rfl⟩
      ·rfl
      ·have hb1 := run_sliceBound (P := P) w kd' i' xs.length .sliceB hi0' hle
       simp [Instr.sliceBounds, hb1]
      ·have hb1 := run_sliceBound (P := P) w kd i c .sliceAcap hi0 (by omega)
       simp [Instr.sliceBounds, hb1]
      ·have hb1 := run_sliceBound (P := P) w kd i c .sliceAcap hi0 (by omega)
       have hb2 := run_sliceBound (P := P) w kd' i' i.toNat .sliceB hi0' hle
       simp [Instr.sliceBounds, hb1, hb2]
     simp only [Instr.sliceAt, Instr.slice, Sem.run_bind, run_underlying ht, Result.andThen_ok, hb, hsz, Sem.run_pure]
 | some m =>
   cases vmx with
   | none => exact h3.elim
   | some vm =>
     obtain ⟨hsome, h⟩ := h
     obtain ⟨mm, ⟨rfl, _, hφ⟩, hmx⟩ := aidx_bound (v := some vm) h3 h
     rcases hmx with ⟨hh', _⟩ | ⟨kdm, im, hvm, him0, him⟩
     ·cases hh'
     cases hvm
     refine ⟨_, _, _, esz, _, ?_, rep esz mm (Nat.le_refl _) (by omega), hφ, fun _ => ⟨rfl, fun y hy => hxl y (List.mem_of_mem_take (List.mem_of_mem_drop hy))⟩⟩
     have hb : (Instr.sliceBounds true xs.length c vlo vhi (some (.int kdm im))).run P w = .ok (ll, mm, mm) w := by
      have hm' := run_sliceBound (P := P) w kdm im c .slice3Acap him0 (by omega)
      rw [him] at hm'
      rcases hhi with ⟨hn, rfl, hd⟩ | ⟨kd, i, rfl, hi0, hi1⟩
      ·rw [hn] at hsome; cases hsome
      ·have hb1 := run_sliceBound (P := P) w kd i mm .slice3B hi0 (by omega)
       rw [hi1] at hb1
       rcases hlo with ⟨_, rfl, rfl⟩ | ⟨kd', i', rfl, hi0', rfl⟩
       ·simp [Instr.sliceBounds, hm', hb1]
       ·have hb2 := run_sliceBound (P := P) w kd' i' mm .slice3C hi0' hle
        simp [Instr.sliceBounds, hm', hb1, hb2]
     simp only [Instr.sliceAt, Instr.slice, Sem.run_bind, run_underlying ht, Result.andThen_ok, hb, hsz, Sem.run_pure]
def asliceStr (x : AV) (lo hi : Option AV) (φ : AV → Prop) : Prop :=
 match x with
 | .str s => aidx hi s.size fun h => aidx lo 0 fun l => l ≤ h ∧ h ≤ s.size ∧ φ (.str (s.extract l h))
 | _ => False
theorem asliceStr_run {t : TypeId} (ht : P.underlying t = some .string) {u : Value} {x : AV} {lo hi : Option AV} {vlo vhi : Option Value} {φ : AV → Prop}
 (h : asliceStr x lo hi φ) (hu : Rep M L u x) (h1 : optRep M L lo vlo) (h2 : optRep M L hi vhi) :
 ∃ r z, (Instr.sliceAt t u vlo vhi none).run P w = .ok r w ∧ Rep M L r z ∧ φ z ∧ ∀ own xs, z = .lst own xs → own = 0 := by
 unfold asliceStr at h
 split at h <;> try exact h.elim
 rename_i s
 cases hu
 obtain ⟨hh, h, hhi⟩ := aidx_bound h2 h
 obtain ⟨ll, h, hlo⟩ := aidx_bound h1 h
 obtain ⟨hle, hhl, hφ⟩ := h
 refine ⟨_, _, ?_, .str _, hφ, by intro _ _ e; cases e⟩
 have hb : (Instr.sliceBounds false s.size s.size vlo vhi none).run P w = .ok (ll, hh, s.size) w := by
  rcases hhi with ⟨_, rfl, rfl⟩ | ⟨kd, i, rfl, hi0, rfl⟩ <;> rcases hlo with ⟨_, rfl, rfl⟩ | ⟨kd', i', rfl, hi0', rfl⟩
  ·rfl
  ·have hb1 := run_sliceBound (P := P) w kd' i' s.size .sliceB hi0' hle
   simp [Instr.sliceBounds, hb1]
  ·have hb1 := run_sliceBound (P := P) w kd i s.size .sliceAlen hi0 (by omega)
   simp [Instr.sliceBounds, hb1]
  ·have hb1 := run_sliceBound (P := P) w kd i s.size .sliceAlen hi0 (by omega)
   have hb2 := run_sliceBound (P := P) w kd' i' i.toNat .sliceB hi0' hle
   simp [Instr.sliceBounds, hb1, hb2]
 simp only [Instr.sliceAt, Instr.slice, Sem.run_bind, run_underlying ht, Result.andThen_ok, Option.isSome_none, Bool.false_eq_true, if_false, Sem.run_pure, hb]
def byteAVs (l : List UInt8) : List AV := l.map fun b => .int .u8 b.toNat
def aconvStr (x : AV) (φ : AV → Prop) : Prop := match x with | .str s => φ (.str s) | _ => False
theorem aconvStr_run {src dst : TypeId} {d : TypeDesc} (hs : P.underlying src = some d) (hd : P.underlying dst = some .string) {u : Value} {x : AV} {φ : AV → Prop} (h : aconvStr x φ) (hu : Rep M L u x) :
 ∃ r z, (convert src dst u).run P w = .ok r w ∧ Rep M L r z ∧ φ z ∧ ∀ own xs, z = .lst own xs → own = 0 := by
 unfold aconvStr at h
 split at h <;> try exact h.elim
 cases hu
 refine ⟨_, _, ?_, .str _, h, by intro _ _ e; cases e⟩
 simp [convert, run_underlying hs, run_underlying hd]
def astrOf (x : AV) (φ : AV → Prop) : Prop :=
 match rlist x with
 | some ys => ∃ l, ys = byteAVs l ∧ φ (.str ⟨l.toArray⟩)
 | none => False
theorem flat_bytes (l : List UInt8) : flat (byteAVs l) = byteAVs l := by
 induction l with
 | nil => rfl
 | cons b l ih => simp only [byteAVs, List.map_cons, flat, List.flatMap_cons, AV.cells] at ih ⊢; rw [ih]; rfl
theorem RepL.bytes : ∀ {cs : List Value} {l : List UInt8}, RepL M L cs (byteAVs l) → cs = l.map fun b => .int .u8 b.toNat
 | [], [], _ => rfl
 | [], b :: l, h => by have := h.length; simp [byteAVs] at this
 | c :: cs, [], h => by have := h.length; simp [byteAVs] at this
 | c :: cs, b :: l, h => by
   simp only [byteAVs, List.map_cons] at h
   cases h with
   | cons _ _ _ _ h t => cases h; simp [RepL.bytes (l := l) t]
theorem astrOf_run (hs : St A M L w H ev ea O) {src dst e : TypeId} (h1 : P.underlying src = some (.slice e)) (h2 : P.underlying e = some (.int .u8)) (hd : P.underlying dst = some .string) {u : Value} {x : AV} {φ : AV → Prop} (h : astrOf x φ) (hu : Rep M L u x) :
 ∃ r z, (convert src dst u).run P w = .ok r w ∧ Rep M L r z ∧ φ z ∧ ∀ own xs, z = .lst own xs → own = 0 := by
 unfold astrOf at h
 split at h <;> try exact h.elim
 rename_i ys hys
 obtain ⟨l, rfl, hφ⟩ := h
 have hul : ∃ own, Rep M L u (.lst own (byteAVs l)) := by
  unfold rlist at hys
  split at hys
  ·cases l with
   | nil => cases hu; exact ⟨0, .lst0 _ _ _ (by decide)⟩
   | cons b l => simp [byteAVs] at hys
  ·cases hys; exact ⟨_, hu⟩
  ·cases hys
 obtain ⟨own, hul⟩ := hul
 refine ⟨_, _, ?_, .str _, hφ, by intro _ _ e; cases e⟩
 cases l with
 | nil =>
   have : ∃ a c, u = .slice a 0 c := by
    cases hul with
    | lst0 a c _ hc => exact ⟨a, c, rfl⟩
    | lst b off c _ e cs _ he hx hn => simp [byteAVs] at hn
   obtain ⟨a, c, rfl⟩ := this
   cases a with
   | none => rw [run_convert_bytes_nil w src e h1 h2 0 c dst hd]; rfl
   | some a =>
     simp [convert, run_underlying h1, run_underlying hd, run_underlying h2, Conv.bytesToString, loadCells, loadCellsFrom]
     rfl
 | cons b0 l =>
   have : ∃ b off c cs, u = .slice (some ⟨b, off, none⟩) (byteAVs (b0 :: l)).length c ∧ RepL M L cs (byteAVs (b0 :: l)) ∧ M.row b off cs := by
    generalize hl : byteAVs (b0 :: l) = q at hul
    cases hul with
    | lst0 => simp [byteAVs] at hl
    | lst b off c _ e cs _ he hx hn hle hc hr hm =>
      subst hl
      rw [flat_bytes] at hr
      exact ⟨b, off, c, cs, rfl, hr, hm⟩
   obtain ⟨b, off, c, cs, rfl, hr, hm⟩ := this
   have hcs := hr.bytes
   have hrun := run_convert_bytes_arg (P := P) w src e h1 h2 b off (byteAVs (b0 :: l)).length c ((b0 :: l).map fun b => (b.toNat : Int)) (by simp [byteAVs]) (fun i hi => by
    have hi' : i < (b0 :: l).length := by simpa [byteAVs] using hi
    have := hs.mem _ _ _ (hm i (.int .u8 ((b0 :: l)[i]).toNat) (by rw [hcs, List.getElem?_map, List.getElem?_eq_getElem hi']; rfl))
    rw [this, List.getD_eq_getElem?_getD, List.getElem?_map, List.getElem?_eq_getElem hi']
    rfl) dst hd
   rw [hrun]
   congr 2
   simp only [strOfNums, List.map_map]
   congr 1
   congr 1
   conv => rhs; rw [← List.map_id (b0 :: l)]
   apply List.map_congr_left
   intro b _
   simp
def abytesOf (own : Nat) (x : AV) (φ : AV → Prop) : Prop :=
 match x with
 | .str s => s.size < 9223372036854775808 ∧ φ (.lst own (byteAVs s.data.toList))
 | _ => False
end
end Go.Abs
end
section
namespace Go.Abs
open Go
section
variable {P : Program} {w : World} {M : Mem} {L : List Nat} {H : List AObj} {A : Perm} {ev : Nat → Value} {ea : Nat → AV} {O : Pos → Option Nat}
theorem freeze_push (w : World) (cs : Array Value) (e : TypeId) :
 ({ w with heap := w.heap.push (.cells cs e) } : World).freeze { block := w.heap.size, off := cs.size } 1 = { w with heap := w.heap.push (.cells cs e (cs.size, cs.size + 1)) } := by
 simp only [World.freeze, Nat.one_ne_zero, if_false]
 congr 1
 apply Array.ext
 ·simp
 ·intro i h1 h2
  rw [Array.getElem_modify]
  by_cases hi : w.heap.size = i
  ·subst hi; simp
  ·simp only [hi, if_false]
   have : i < w.heap.size := by simp at h2; omega
   rw [Array.getElem_push_lt this, Array.getElem_push_lt this]
theorem byteAVs_rep (l : List UInt8) : RepL M L (l.map fun b => Value.int .u8 b.toNat) (byteAVs l) := by
 induction l with
 | nil => exact .nil
 | cons b l ih => exact .cons _ _ _ _ (.int _ _) ih
theorem abytesOf_run (hs : St A M L w H ev ea O) {src dst e : TypeId} (h1 : P.underlying src = some .string) (hd : P.underlying dst = some (.slice e)) (h2 : P.underlying e = some (.int .u8)) {u : Value} {x : AV} {φ : AV → Prop} (h : abytesOf 1 x φ) (hu : Rep M L u x) :
 ∃ r z w' M' ob, (convert src dst u).run P w = .ok r w' ∧ Rep M' L r z ∧ φ z ∧ Spare M' w' r z ob ∧ St A M' L w' H ev ea O ∧ Ext A M w M' w' ∧
  (∀ q b, ob = some b → O q ≠ some b) ∧ (∀ b, ob = some b → b ∉ L ∧ b < w'.heap.size ∧ A b) := by
 unfold abytesOf at h
 split at h <;> try exact h.elim
 rename_i s
 obtain ⟨hsz, hφ⟩ := h
 cases hu
 let cap := (Question.appendCap s.size 0 e).cut (w.tape w.drawn (.appendCap s.size 0 e))
 have hc1 : s.size ≤ cap := by simp [cap, Question.cut]
 have hc2 : cap < 9223372036854775808 := by
  have := Nat.mod_lt (w.tape w.drawn (.appendCap s.size 0 e)) (show 0 < 2 ^ 63 - s.size by omega)
  simp only [cap, Question.cut]; omega
 let elems : Array Value := s.data.map fun b => .int .u8 b.toNat
 let cs : Array Value := elems ++ Array.replicate (cap - s.size) (.int .u8 0)
 have hcs : cs.size = cap := by
  simp only [cs, elems, Array.size_append, Array.size_map, Array.size_replicate]
  have : s.data.size = s.size := rfl
  omega
 have hel : elems.toList = s.data.toList.map fun b => Value.int .u8 b.toNat := by simp [elems]
 let W : World := { { w with drawn := w.drawn + 1 } with heap := w.heap.push (.cells cs e (cs.size, cs.size + 1)) }
 have hrun : (convert src dst (.string s)).run P w = .ok (.slice (some ⟨w.heap.size, 0, none⟩) s.size cap) W := by
  have hfr := freeze_push { w with drawn := w.drawn + 1 } cs e
  have hsh : ({ { w with drawn := w.drawn + 1 } with heap := w.heap.push (.cells cs e) } : World).shape? w.heap.size = some (e, cs.size) := by
   simp [World.shape?]
  simp only [convert, Sem.run_bind, run_underlying h1, run_underlying hd, run_underlying h2, Result.andThen_ok, Conv.stringToBytes, run_choose, Question.forced, Bool.false_eq_true, if_false]
  have hnr : ∀ W : World, (newRow e cs).run P W = .ok ⟨W.heap.size, 0, none⟩ { W with heap := W.heap.push (.cells cs e) } := fun _ => rfl
  refine Eq.trans (congrArg (fun r => Result.andThen r _) (hnr _)) ?_
  simp only [Result.andThen_ok, Sem.run_pure, markStringish, run_shape, Sem.run_bind]
  rw [hsh]
  simp only [run_freeze, Result.andThen_ok]
  rw [hfr]
 obtain ⟨g1, g2, g3⟩ := hs.drew.addBlock cs e (cs.size, cs.size + 1) elems.toList (fun j v hv => by
  have : cs.toList[j]? = some v := by
   simp only [cs, Array.toList_append]
   rw [List.getElem?_append_left (get_lt hv)]; exact hv
  simpa using this)
 have hrep : RepL (M.add w.heap.size elems.toList) L elems.toList (byteAVs s.data.toList) := by rw [hel]; exact byteAVs_rep _
 have hlen : (byteAVs s.data.toList).length = s.size := by simp [byteAVs]
 have hx : ∀ y ∈ byteAVs s.data.toList, y.cells.length = 1 := by
  intro y hy
  simp only [byteAVs, List.mem_map] at hy
  obtain ⟨b, _, rfl⟩ := hy
  rfl
 refine ⟨_, _, W, _, some w.heap.size, hrun, ?_, hφ, ?_, g1, Ext.drew.trans g2, ?_, ?_⟩
 ·by_cases h0 : s.size = 0
  ·have : byteAVs s.data.toList = [] := List.eq_nil_of_length_eq_zero (by omega)
   rw [this, h0]
   exact .lst0 _ _ _ hc2
  ·have := Rep.lst (M := M.add w.heap.size elems.toList) (L := L) w.heap.size 0 cap 1 1 elems.toList (byteAVs s.data.toList) (by omega) hx (by omega) (by omega) hc2 (by rw [flat_bytes]; exact hrep) g3
   rwa [hlen] at this
 ·unfold Spare
  simp only [Nat.one_ne_zero, if_false]
  refine ⟨hx, .inr ⟨_, 0, s.size, cap, cs, e, (cs.size, cs.size + 1), rfl, rfl, heap_push_new _ _, ?_, by omega, ?_⟩⟩
  ·intro j hj h; simp at h; omega
  ·intro k hk _
   simp only [Mem.add, if_true, Nat.zero_add]
   refine List.getElem?_eq_none ?_
   have : elems.toList.length = s.size := by rw [hel]; simp
   omega
 ·intro q b hb hq
  cases hb
  exact absurd (hs.olt q _ hq) (Nat.lt_irrefl _)
 ·intro b hb
  cases hb
  exact ⟨fun hm => absurd (hs.lt _ hm) (Nat.lt_irrefl _), by simp [W], hs.fresh _ (Nat.le_refl _)⟩
def keyEq (kd : Nat) (x y : AV) : Option Bool :=
 match kd, x, y with
 | 0, .int k a, .int k' b => if k = k' then some (decide (a = b)) else none
 | 1, .str a, .str b => some (decide (a = b))
 | 2, .agg [.int k a, .int l b], .agg [.int k' a', .int l' b'] => if k = k' ∧ l = l' then some (decide (a = a' ∧ b = b')) else none
 | _, _, _ => none
def kdFits (kd : Nat) (d : TypeDesc) : Prop := match kd, d with | 0, .int _ => True | 1, .string => True | _, _ => False
def kdPair (P : Program) (kd : Nat) (d : TypeDesc) : Prop := kd = 2 ∧ ∃ e q, d = .array 2 e ∧ P.underlying e = some (.int q) ∧ (P.info? e).map (·.size) = some 1
theorem ba_beq (a b : ByteArray) : (a == b) = decide (a = b) := by
 rcases a with ⟨a⟩
 rcases b with ⟨b⟩
 show (a == b) = _
 by_cases h : a = b <;> simp [h]
def keyKind (P : Program) (t : TypeId) : Option Nat :=
 match P.underlying t with
 | some (.int _) => some 0
 | some .string => some 1
 | some (.array 2 e) => match P.underlying e, (P.info? e).map (·.size) with
   | some (.int _), some 1 => some 2
   | _, _ => none
 | _ => none
def afind (kd : Nat) (k : AV) : List (AV × AV) → Nat → Option (Option (Nat × AV))
 | [], _ => some none
 | (a, v) :: r, i => match keyEq kd k a with
   | some true => some (some (i, v))
   | some false => afind kd k r (i + 1)
   | none => none
def alookup (kd : Nat) (zero m k : AV) (ok : Bool) (H : List AObj) (φ : AV → Prop) : Prop :=
 match m with
 | .nilm => keyEq kd k k = some true ∧ φ (if ok then .tuple [canon zero, .bool false] else canon zero)
 | .map id => match H[id]? with
   | some (.map es) => match afind kd k es 0 with
     | some (some (_, v)) => φ (if ok then .tuple [v.drop, .bool true] else v.drop)
     | some none => keyEq kd k k = some true ∧ φ (if ok then .tuple [canon zero, .bool false] else canon zero)
     | none => False
   | _ => False
 | _ => False
def amapset (kd : Nat) (m k x : AV) (H : List AObj) (K : List AObj → Prop) : Prop :=
 match m with
 | .map id => match H[id]? with
   | some (.map es) => k.blw (id + 1) = true ∧ x.blw (id + 1) = true ∧ x.val = true ∧ match afind kd k es 0 with
     | some (some (i, _)) => K (H.set id (.map (es.set i (k, canon x))))
     | some none => keyEq kd k k = some true ∧ K (H.set id (.map (es ++ [(k, canon x)])))
     | none => False
   | _ => False
 | _ => False
theorem keyEq_same {kd : Nat} {d : TypeDesc} (hd : kdFits kd d) {k y : AV} {b : Bool} (h : keyEq kd k y = some b) {u v : Value} (hu : Rep M L u k) (hv : Rep M L v y) :
 Instr.sameNow d u v = some b ∧ (b = true → v = u) := by
 unfold keyEq at h
 split at h
 ·rename_i k a k' b'
  cases hu; cases hv
  split at h
  ·rename_i e; subst e
   cases h
   cases d <;> simp only [kdFits] at hd
   refine ⟨by simp [Instr.sameNow, dec_beq], ?_⟩
   intro h; simp at h; rw [h]
  ·cases h
 ·rename_i a b'
  cases hu; cases hv
  cases h
  cases d <;> simp only [kdFits] at hd
  refine ⟨by simp only [Instr.sameNow, ba_beq], ?_⟩
  intro h; simp at h; rw [h]
 ·cases d <;> simp only [kdFits] at hd
 ·cases h
theorem afind_run {kd : Nat} {d : TypeDesc} (hd : kdFits kd d) {k : AV} {u : Value} (hu : Rep M L u k) :
 ∀ (es : List (AV × AV)) (ents : List MapEntry) (i : Nat) (r : Option (Nat × AV)), RepL M L (ents.map (·.key)) (es.map (·.1)) → RepL M L (ents.map (·.val)) (es.map (·.2)) → afind kd k es i = some r →
  match r with
  | none => Instr.findNow d u ents i = some none
  | some (j, x) => i ≤ j ∧ ∃ v, Instr.findNow d u ents i = some (some (j, v)) ∧ Rep M L v x ∧ ∃ en, ents[j - i]? = some en ∧ en.key = u ∧ en.val = v ∧ j - i < es.length
 | [], ents, i, r, h1, h2, h => by
   cases ents with
   | nil => simp [afind] at h; subst h; rfl
   | cons a b => have := h1.length; simp at this
 | (a, x) :: es, [], i, r, h1, h2, h => by have := h1.length; simp at this
 | (a, x) :: es, en :: ents, i, r, h1, h2, h => by
   simp only [List.map_cons] at h1 h2
   cases h1 with
   | cons _ _ _ _ hk hks =>
   cases h2 with
   | cons _ _ _ _ hv hvs =>
   unfold afind at h
   split at h
   ·rename_i he
    cases h
    obtain ⟨e1, e2⟩ := keyEq_same hd he hu hk
    exact ⟨Nat.le_refl _, en.val, by simp [Instr.findNow, e1], hv, en, by simp, e2 rfl, rfl, by simp⟩
   ·rename_i he
    obtain ⟨e1, _⟩ := keyEq_same hd he hu hk
    have ih := afind_run hd hu es ents (i + 1) r hks hvs h
    cases r with
    | none => simp only at ih ⊢; simp [Instr.findNow, e1, ih]
    | some jx =>
      obtain ⟨j, y⟩ := jx
      simp only at ih ⊢
      obtain ⟨hij, v, f1, f2, en', f3, f4, f5, f6⟩ := ih
      refine ⟨by omega, v, by simp [Instr.findNow, e1, f1], f2, en', ?_, f4, f5, by simp; omega⟩
      rw [show j - i = (j - (i + 1)) + 1 by omega]
      simpa using f3
   ·cases h
theorem keyKind_spec {t : TypeId} {kd : Nat} (h : keyKind P t = some kd) : ∃ d, P.underlying t = some d ∧ (kdFits kd d ∨ kdPair P kd d) := by
 unfold keyKind at h
 split at h
 ·rename_i k hu; cases h; exact ⟨_, hu, .inl trivial⟩
 ·rename_i hu; cases h; exact ⟨_, hu, .inl trivial⟩
 ·rename_i e hu
  split at h <;> cases h
  rename_i q h1 h2
  exact ⟨_, hu, .inr ⟨rfl, e, q, rfl, h1, h2⟩⟩
 ·cases h
theorem part_one {e : TypeId} {q : IntKind} (h2 : P.underlying e = some (.int q)) {cs : Array Value} {off : Nat} {v : Value} (hv : cs[off]? = some v) (w : World) : (part e cs off).run P w = .ok v w := by
 simp [part, isAgg, run_underlying h2, hv]
theorem equal_one {e : TypeId} {q : IntKind} (h2 : P.underlying e = some (.int q)) (d : Nat) (k : IntKind) (a a' : Int) (w : World) : (Op.equalIn (d + 1) e (.int k a) (.int k a')).run P w = .ok (decide (a = a')) w := by
 rw [Op.equalIn]
 simp [run_underlying h2, dec_beq]
theorem equal_two {kt e : TypeId} {q : IntKind} (h1 : P.underlying kt = some (.array 2 e)) (h2 : P.underlying e = some (.int q)) (h3 : (P.info? e).map (·.size) = some 1) (d : Nat) (k l : IntKind) (a b a' b' : Int) (w : World) :
 (Op.equalIn (d + 1 + 1) kt (.agg #[.int k a, .int l b]) (.agg #[.int k a', .int l b'])).run P w = .ok (decide (a = a' ∧ b = b')) w := by
 obtain ⟨i, hi, hs⟩ := Option.map_eq_some_iff.1 h3
 have hz : (sizeOf e).run P w = .ok 1 w := by simp [sizeOf, typeInfo, hi, hs]
 have p0 : ∀ x y : Value, (part e #[x, y] 0).run P w = .ok x w := fun x y => part_one h2 (by simp) w
 have p1 : ∀ x y : Value, (part e #[x, y] 1).run P w = .ok y w := fun x y => part_one h2 (by simp) w
 rw [Op.equalIn]
 simp only [Sem.run_bind, run_underlying h1, Result.andThen_ok, hz]
 by_cases ha : a = a' <;> by_cases hb : b = b' <;>
 simp [Std.Legacy.Range.forIn_eq_forIn_range', List.range', p0, p1, equal_one h2, ha, hb]
theorem RepL.two {vs : List Value} {x y : AV} (h : RepL M L vs [x, y]) : ∃ u v, vs = [u, v] ∧ Rep M L u x ∧ Rep M L v y := by
 cases h with
 | cons u x vs xs h1 h2 => obtain ⟨v, rfl, h3⟩ := h2.one_inv; exact ⟨u, v, rfl, h1, h3⟩
theorem Rep.pair {u : Value} {k l : IntKind} {a b : Int} (h : Rep M L u (.agg [.int k a, .int l b])) : u = .agg #[.int k a, .int l b] := by
 cases h with
 | agg cs xs hr =>
   obtain ⟨x, y, rfl, h1, h2⟩ := hr.two
   cases h1; cases h2
   rfl
theorem keyEq_pair {k y : AV} {b : Bool} (h : keyEq 2 k y = some b) : ∃ p q i j i' j', k = .agg [.int p i, .int q j] ∧ y = .agg [.int p i', .int q j'] ∧ b = decide (i = i' ∧ j = j') := by
 unfold keyEq at h
 split at h
 ·have : (2 : Nat) = 0 := by assumption
  omega
 ·have : (2 : Nat) = 1 := by assumption
  omega
 ·split at h <;> cases h
  rename_i e
  obtain ⟨rfl, rfl⟩ := e
  exact ⟨_, _, _, _, _, _, rfl, rfl, rfl⟩
 ·cases h
def found (P : Program) (kt : TypeId) (u : Value) (ents : List MapEntry) (M : Mem) (L : List Nat) (n : Nat) (r : Option (Nat × AV)) : Prop :=
 match r with
 | none => ∀ w, (Instr.findKey kt u ents).run P w = .ok none w
 | some (j, x) => ∃ v, (∀ w, (Instr.findKey kt u ents).run P w = .ok (some (j, v)) w) ∧ Rep M L v x ∧ ∃ en, ents[j]? = some en ∧ en.key = u ∧ en.val = v ∧ j < n
theorem asking_run {kt e : TypeId} {q : IntKind} (h1 : P.underlying kt = some (.array 2 e)) (h2 : P.underlying e = some (.int q)) (h3 : (P.info? e).map (·.size) = some 1) {k : AV} {u : Value} (hu : Rep M L u k) :
 ∀ (es : List (AV × AV)) (ents : List MapEntry) (i : Nat) (r : Option (Nat × AV)), RepL M L (ents.map (·.key)) (es.map (·.1)) → RepL M L (ents.map (·.val)) (es.map (·.2)) → afind 2 k es i = some r →
  match r with
  | none => ∀ w, (Instr.findAsking kt u ents i).run P w = .ok none w
  | some (j, x) => i ≤ j ∧ ∃ v, (∀ w, (Instr.findAsking kt u ents i).run P w = .ok (some (j, v)) w) ∧ Rep M L v x ∧ ∃ en, ents[j - i]? = some en ∧ en.key = u ∧ en.val = v ∧ j - i < es.length
 | [], ents, i, r, k1, k2, h => by
   cases ents with
   | nil => simp [afind] at h; subst h; exact fun w => rfl
   | cons a b => have := k1.length; simp at this
 | (a, x) :: es, [], i, r, k1, k2, h => by have := k1.length; simp at this
 | (a, x) :: es, en :: ents, i, r, k1, k2, h => by
   simp only [List.map_cons] at k1 k2
   cases k1 with
   | cons _ _ _ _ hk hks =>
   cases k2 with
   | cons _ _ _ _ hv hvs =>
   unfold afind at h
   split at h
   ·rename_i he
    cases h
    obtain ⟨p, q', m, n, m', n', rfl, rfl, hb⟩ := keyEq_pair he
    have hd := of_decide_eq_true hb.symm
    have e1 := hu.pair
    have e2 := hk.pair
    refine ⟨Nat.le_refl _, en.val, fun w => ?_, hv, en, by simp, ?_, rfl, by simp⟩
    ·have := equal_two (P := P) h1 h2 h3 9998 p q' m n m' n' w
     simp only [Instr.findAsking, e1, e2, Sem.run_bind, Op.equal, Op.maxDepth]
     rw [this]
     simp [hd]
    ·rw [e1, e2, hd.1, hd.2]
   ·rename_i he
    obtain ⟨p, q', m, n, m', n', rfl, rfl, hb⟩ := keyEq_pair he
    have hd := of_decide_eq_false hb.symm
    have e1 := hu.pair
    have e2 := hk.pair
    have hno : ∀ w, (Instr.findAsking kt u (en :: ents) i).run P w = (Instr.findAsking kt u ents (i + 1)).run P w := fun w => by
     have := equal_two (P := P) h1 h2 h3 9998 p q' m n m' n' w
     rw [Instr.findAsking, Sem.run_bind, e1, e2, Op.equal, Op.maxDepth, this]
     simp only [Result.andThen_ok, hd, decide_false]
     rfl
    have ih := asking_run h1 h2 h3 hu es ents (i + 1) r hks hvs h
    cases r with
    | none => exact fun w => (hno w).trans (ih w)
    | some jx =>
      obtain ⟨j, y⟩ := jx
      simp only at ih ⊢
      obtain ⟨hij, v, f1, f2, en', f3, f4, f5, f6⟩ := ih
      refine ⟨by omega, v, fun w => (hno w).trans (f1 w), f2, en', ?_, f4, f5, by simp; omega⟩
      rw [show j - i = (j - (i + 1)) + 1 by omega]
      simpa using f3
   ·cases h
theorem findKey_run {kt : TypeId} {kd : Nat} {d : TypeDesc} (hu1 : P.underlying kt = some d) (hd : kdFits kd d ∨ kdPair P kd d) {k : AV} {u : Value} (hu : Rep M L u k) {es : List (AV × AV)} {ents : List MapEntry} {r : Option (Nat × AV)}
 (h1 : RepL M L (ents.map (·.key)) (es.map (·.1))) (h2 : RepL M L (ents.map (·.val)) (es.map (·.2))) (h : afind kd k es 0 = some r) : found P kt u ents M L es.length r := by
 rcases hd with hd | ⟨rfl, e, q, rfl, k1, k2⟩
 ·have := afind_run hd hu es ents 0 r h1 h2 h
  cases r with
  | none => intro w; simp only at this; simp [Instr.findKey, run_underlying hu1, this]
  | some jx =>
    obtain ⟨j, x⟩ := jx
    simp only [Nat.sub_zero] at this
    obtain ⟨_, v, f1, f2, f3⟩ := this
    exact ⟨v, fun w => by simp [Instr.findKey, run_underlying hu1, f1], f2, f3⟩
 ·have := asking_run hu1 k1 k2 hu es ents 0 r h1 h2 h
  have hnow : ∀ en (l : List MapEntry), Instr.findNow (.array 2 e) u (en :: l) 0 = none := fun en l => rfl
  cases ents with
  | nil =>
    have hes : es = [] := by have := h1.length; simpa using this.symm
    subst hes
    simp [afind] at h; subst h
    intro w
    simp [Instr.findKey, run_underlying hu1, Instr.findNow]
  | cons en l =>
    cases r with
    | none => intro w; simp only at this; simp [Instr.findKey, run_underlying hu1, hnow, this]
    | some jx =>
      obtain ⟨j, x⟩ := jx
      simp only [Nat.sub_zero] at this
      obtain ⟨_, v, f1, f2, f3⟩ := this
      exact ⟨v, fun w => by simp [Instr.findKey, run_underlying hu1, hnow, f1], f2, f3⟩
theorem run_checkKey_plain {t : TypeId} {d : TypeDesc} {kd : Nat} (ht : P.underlying t = some d) (hd : kdFits kd d) (w : World) (emp : Bool) (n : Nat) (v : Value) :
 (Instr.checkKey emp (n + 1) t v).run P w = .ok () w := by
 have : d = .string ∨ ∃ k, d = .int k := by
  unfold kdFits at hd
  split at hd
  ·exact .inr ⟨_, rfl⟩
  ·exact .inl rfl
  ·exact hd.elim
 rcases this with rfl | ⟨k, rfl⟩ <;> simp [Instr.checkKey, run_underlying ht]
theorem run_checkKey {t : TypeId} {d : TypeDesc} {kd : Nat} (ht : P.underlying t = some d) (hd : kdFits kd d ∨ kdPair P kd d) (w : World) (emp : Bool) (n : Nat) {v : Value} {k y : AV} {b : Bool} (hv : Rep M L v k) (hk : keyEq kd k y = some b) :
 (Instr.checkKey emp (n + 1 + 1) t v).run P w = .ok () w := by
 rcases hd with hd | ⟨rfl, e, q, rfl, k1, k2⟩
 ·exact run_checkKey_plain ht hd w emp _ v
 ·obtain ⟨p, q', m, n', m', n2, rfl, _⟩ := keyEq_pair hk
  have e1 := hv.pair
  obtain ⟨i, hi, hs⟩ := Option.map_eq_some_iff.1 k2
  have hz : (sizeOf e).run P w = .ok 1 w := by simp [sizeOf, typeInfo, hi, hs]
  have p0 : ∀ x y : Value, (part e #[x, y] 0).run P w = .ok x w := fun x y => part_one k1 (by simp) w
  have p1 : ∀ x y : Value, (part e #[x, y] 1).run P w = .ok y w := fun x y => part_one k1 (by simp) w
  have c : ∀ v, (Instr.checkKey emp (n + 1) e v).run P w = .ok () w := fun v => run_checkKey_plain (kd := 0) k1 trivial w emp n v
  rw [Instr.checkKey, e1]
  simp only [Sem.run_bind, run_underlying ht, Result.andThen_ok]
  simp [Std.Legacy.Range.forIn_eq_forIn_range', List.range', p0, p1, c, hz]
theorem sameBits_key {kd : Nat} {k : AV} (hk : ∃ b, keyEq kd k k = some b) {u : Value} (hu : Rep M L u k) (n : Nat) : Instr.sameBits (n + 1) u u = true := by
 obtain ⟨b, hk⟩ := hk
 unfold keyEq at hk
 split at hk
 ·cases hu; simp [Instr.sameBits]
 ·cases hu; simp [Instr.sameBits, ba_beq]
 ·rw [hu.pair]; simp [Instr.sameBits]
 ·cases hk
theorem keyEq_refl_of {kd : Nat} {k y : AV} {b : Bool} (h : keyEq kd k y = some b) : ∃ b, keyEq kd k k = some b := by
 unfold keyEq at h
 split at h
 ·exact ⟨true, by simp [keyEq]⟩
 ·exact ⟨true, by simp [keyEq]⟩
 ·exact ⟨true, by simp [keyEq]⟩
 ·cases h
theorem afind_key {kd : Nat} {k : AV} : ∀ (es : List (AV × AV)) (i j : Nat) (x : AV), afind kd k es i = some (some (j, x)) → ∃ b, keyEq kd k k = some b
 | [], i, j, x, h => by simp [afind] at h
 | (a, v) :: es, i, j, x, h => by
   unfold afind at h
   split at h
   ·rename_i he; exact keyEq_refl_of he
   ·rename_i he; exact keyEq_refl_of he
   ·cases h
theorem alookup_run (hs : St A M L w H ev ea O) {t kt et : TypeId} {kd : Nat} (ht : P.underlying t = some (.map kt et)) (hk : keyKind P kt = some kd) {zero : AV} (hz : tzero P et = some zero) {u v : Value} {m k : AV} {ok : Bool} {φ : AV → Prop}
 (h : alookup kd zero m k ok H φ) (hu : Rep M L u m) (hv : Rep M L v k) :
 ∃ r z, (Instr.lookup t u v ok).run P w = .ok r w ∧ Rep M L r z ∧ φ z ∧ ∀ own xs, z = .lst own xs → own = 0 := by
 obtain ⟨d, hd1, hd2⟩ := keyKind_spec hk
 have hzero : ∃ zv, (zeroValue et).run P w = .ok zv w ∧ Rep M L zv (canon zero) := by
  unfold tzero at hz
  split at hz
  ·rename_i i hi
   split at hz
   ·rename_i zv hzv
    exact ⟨zv, by simp [zeroValue, typeInfo, hi, hzv], (ofValue_rep hz).canon⟩
   ·cases hz
  ·cases hz
 obtain ⟨zv, hzr, hzrep⟩ := hzero
 have hckk : (∃ b, keyEq kd k k = some b) → ∀ emp, (Instr.checkKey emp 10000 kt v).run P w = .ok () w := fun ⟨b, hb⟩ emp => run_checkKey (n := 9998) hd1 hd2 w emp hv hb
 have free : ∀ z own xs, (if ok then AV.tuple [canon z, .bool false] else canon z) = .lst own xs → own = 0 := by
  intro z own xs e
  cases ok
  ·simp at e; exact canon_free z own xs e
  ·simp at e
 unfold alookup at h
 split at h
 ·obtain ⟨hk0, hφ⟩ := h
  have hck := hckk ⟨_, hk0⟩
  cases hu
  refine ⟨if ok then .tuple #[zv, .bool false] else zv, _, ?_, ?_, hφ, free zero⟩
  ·have : (Instr.findKey kt v (#[] : Array MapEntry).toList).run P w = .ok none w := by simp [Instr.findKey, run_underlying hd1, Instr.findNow]
   simp only [Instr.lookup, Sem.run_bind, run_underlying ht, Result.andThen_ok, Sem.run_pure, hck, this, hzr]
  ·cases ok
   ·simpa using hzrep
   ·simpa using Rep.tuple [zv, .bool false] _ (.cons _ _ _ _ hzrep (.cons _ _ _ _ (.bool _) .nil))
 ·rename_i id
  cases hu with
  | map b _ hl =>
  split at h <;> try exact h.elim
  rename_i es hid
  obtain ⟨ents, ck, h1, h2, h3⟩ := hs.obj id _ b hid hl
  have hget : (getObj b).run P w = .ok (.map ents ck) w := by simp [getObj, Sem.run, h1]
  split at h
  ·rename_i j x hf
   obtain ⟨y, f1, f2, _⟩ := findKey_run hd1 hd2 hv (ents := ents.toList) (by simpa using h2) (by simpa using h3) hf
   have hck := hckk (afind_key _ _ _ _ hf)
   refine ⟨if ok then .tuple #[y, .bool true] else y, _, ?_, ?_, h, ?_⟩
   ·simp only [Instr.lookup, Sem.run_bind, run_underlying ht, Result.andThen_ok, Sem.run_pure, hget, hck, f1 w]
   ·cases ok
    ·simpa using f2.drop
    ·simpa using Rep.tuple [y, .bool true] _ (.cons _ _ _ _ f2.drop (.cons _ _ _ _ (.bool _) .nil))
   ·intro own xs e
    cases ok
    ·simp at e; exact AV.drop_free x own xs e
    ·simp at e
  ·rename_i hf
   obtain ⟨hk0, hφ⟩ := h
   have hck := hckk ⟨_, hk0⟩
   have f1 : ∀ w, (Instr.findKey kt v ents.toList).run P w = .ok none w := findKey_run hd1 hd2 hv (ents := ents.toList) (by simpa using h2) (by simpa using h3) hf
   refine ⟨if ok then .tuple #[zv, .bool false] else zv, _, ?_, ?_, hφ, free zero⟩
   ·simp only [Instr.lookup, Sem.run_bind, run_underlying ht, Result.andThen_ok, Sem.run_pure, hget, hck, f1 w, hzr]
   ·cases ok
    ·simpa using hzrep
    ·simpa using Rep.tuple [zv, .bool false] _ (.cons _ _ _ _ hzrep (.cons _ _ _ _ (.bool _) .nil))
  ·exact h.elim
 ·exact h.elim
theorem amkmap_run (hs : St A M L w H ev ea O) (t : TypeId) :
 ∃ r L' w', (Instr.makeMap t none).run P w = .ok r w' ∧ Rep M L' r (.map H.length) ∧ St A M L' w' (H ++ [.map []]) ev ea O ∧ Ext A M w M w' ∧ L <+: L' := by
 obtain ⟨h1, h2⟩ := hs.addObj (.map #[] 0) (.map []) (fun w' hw hM => ⟨#[], 0, hw, .nil, .nil⟩) rfl (fun j => rfl)
 refine ⟨_, _, _, rfl, .map _ _ ?_, h1, h2, ⟨_, rfl⟩⟩
 rw [List.getElem?_append_right (by rw [hs.len]; exact Nat.le_refl _), hs.len]; simp
theorem amapset_run (hs : St A M L w H ev ea O) {t kt et : TypeId} {kd : Nat} (ht : P.underlying t = some (.map kt et)) (hk : keyKind P kt = some kd) {u v y : Value} {m k x : AV} {K : List AObj → Prop}
 (h : amapset kd m k x H K) (hu : Rep M L u m) (hv : Rep M L v k) (hy : Rep M L y x) :
 ∃ w' H', (Instr.mapUpdate t u v y).run P w = .ok () w' ∧ K H' ∧ St A M L w' H' ev ea O ∧ Ext A M w M w' := by
 obtain ⟨d, hd1, hd2⟩ := keyKind_spec hk
 have hckk : (∃ b, keyEq kd k k = some b) → (Instr.checkKey false 10000 kt v).run P w = .ok () w := fun ⟨b, hb⟩ => run_checkKey (n := 9998) hd1 hd2 w false hv hb
 unfold amapset at h
 split at h <;> try exact h.elim
 rename_i id
 cases hu with
 | map b _ hl =>
 split at h <;> try exact h.elim
 rename_i es hid
 obtain ⟨hb1, hb2, hval, h⟩ := h
 obtain ⟨ents, ck, h1, h2, h3⟩ := hs.obj id _ b hid hl
 have hlen : ents.size = es.length := by have := h2.length; simpa using this
 have hst := hs.strat id _ hid
 replace hb1 := AV.blw_mono (A.le_lim (get_lt hid)) _ hb1
 replace hb2 := AV.blw_mono (A.le_lim (get_lt hid)) _ hb2
 simp only [AObj.blw, Bool.and_eq_true] at hst
 have hget : (getObj b).run P w = .ok (.map ents ck) w := by simp [getObj, Sem.run, h1]
 have hset : ∀ o, (setObj b o).run P w = .ok () { w with heap := w.heap.setIfInBounds b o } := by intro o; simp [setObj, Sem.run, h1]
 have hcb : (canon x).blw (A.lim H.length id) = true := by
  have hdrop : ∀ z : AV, z.blw (A.lim H.length id) = true → z.drop.blw (A.lim H.length id) = true := by
   intro z hz; cases z <;> simp_all [AV.drop, AV.blw, belowL]
  cases x <;> simp only [abslice.canon] <;> first | exact hdrop _ hb2 | skip
  rename_i xs
  simp only [AV.blw, belowL_iff, List.mem_map] at hb2 ⊢
  rintro z ⟨q, hq, rfl⟩
  exact hdrop q (hb2 q hq)
 split at h
 ·rename_i j z hf
  obtain ⟨v0, f1, f2, en, f3, f4, f5, f6⟩ := findKey_run hd1 hd2 hv (ents := ents.toList) (by simpa using h2) (by simpa using h3) hf
  have hck := hckk (afind_key _ _ _ _ hf)
  have hj : j < ents.size := by omega
  have hen : ents[j]? = some en := by simpa using f3
  have hkey : ((ents[j]?).map (·.key)).getD v = v := by simp [hen, f4]
  have hstay : (Instr.keyThatStays v v).run P w = .ok v w := by simp [Instr.keyThatStays, sameBits_key (afind_key es 0 j z hf) hv 9999]
  have hrun : (Instr.mapUpdate t (.map (some b)) v y).run P w = .ok () { w with heap := w.heap.setIfInBounds b (.map (ents.modify j fun e => { e with key := v, val := y }) ck) } := by
   simp only [Instr.mapUpdate, Sem.run_bind, run_underlying ht, Result.andThen_ok, hget, hck]
   simp only [f1 w, Result.andThen_ok, Sem.run_bind, hkey, hstay, hset]
  have hmod : (ents.modify j fun e => { e with key := v, val := y }).toList.map (·.key) = (ents.toList.map (·.key)).set j v ∧ (ents.modify j fun e => { e with key := v, val := y }).toList.map (·.val) = (ents.toList.map (·.val)).set j y := by
   constructor
   ·apply List.ext_getElem?
    intro q
    simp only [List.getElem?_map, Array.getElem?_toList, Array.getElem?_modify, List.getElem?_set]
    by_cases hq : j = q
    ·subst hq; simp [hj]
    ·simp [hq]
   ·apply List.ext_getElem?
    intro q
    simp only [List.getElem?_map, Array.getElem?_toList, Array.getElem?_modify, List.getElem?_set]
    by_cases hq : j = q
    ·subst hq; simp [hj]
    ·simp [hq]
  obtain ⟨g1, g2⟩ := hs.writeMap (es' := es.set j (k, canon x)) (o' := .map (ents.modify j fun e => { e with key := v, val := y }) ck) hid hl (by intro _ _ _ e; cases e) (fun w' hw => ⟨_, _, hw, by
   rw [hmod.1]
   have := RepL.set (by simpa using h2) hv j
   rwa [show (es.set j (k, canon x)).map (·.1) = (es.map (·.1)).set j k by rw [List.map_set]], by
   rw [hmod.2]
   have := RepL.set (by simpa using h3) hy.canon j
   rwa [show (es.set j (k, canon x)).map (·.2) = (es.map (·.2)).set j (canon x) by rw [List.map_set]]⟩) (by
   simp only [AObj.blw, Bool.and_eq_true, List.map_set]
   rw [belowL_iff, belowL_iff] at *
   refine ⟨fun q hq => ?_, fun q hq => ?_⟩
   ·rcases List.mem_or_eq_of_mem_set hq with h' | rfl
    ·exact hst.1 q h'
    ·exact hb1
   ·rcases List.mem_or_eq_of_mem_set hq with h' | rfl
    ·exact hst.2 q h'
    ·exact hcb)
  exact ⟨_, _, hrun, h, g1, g2⟩
 ·rename_i hf
  obtain ⟨hk0, hK⟩ := h
  have hck := hckk ⟨_, hk0⟩
  have f1 : ∀ w, (Instr.findKey kt v ents.toList).run P w = .ok none w := findKey_run hd1 hd2 hv (ents := ents.toList) (by simpa using h2) (by simpa using h3) hf
  have hrun : (Instr.mapUpdate t (.map (some b)) v y).run P w = .ok () { w with heap := w.heap.setIfInBounds b (.map (ents.push { key := v, val := y, born := ck }) (ck + 1)) } := by
   simp only [Instr.mapUpdate, Sem.run_bind, run_underlying ht, Result.andThen_ok, hget, hck]
   simp only [f1 w, Result.andThen_ok, hset]
  obtain ⟨g1, g2⟩ := hs.writeMap (es' := es ++ [(k, canon x)]) (o' := .map (ents.push { key := v, val := y, born := ck }) (ck + 1)) hid hl (by intro _ _ _ e; cases e) (fun w' hw => ⟨_, _, hw, by
   simpa using h2.append (.one hv), by
   simpa using h3.append (.one hy.canon)⟩) (by
   simp only [AObj.blw, Bool.and_eq_true, List.map_append, List.map_cons, List.map_nil]
   exact ⟨belowL_append.2 ⟨hst.1, by simp [belowL, hb1]⟩, belowL_append.2 ⟨hst.2, by simp [belowL, hcb]⟩⟩)
  exact ⟨_, _, hrun, hK, g1, g2⟩
 ·exact h.elim
end
end Go.Abs
end
section
namespace Go.Abs
open Go
def csrc (esz : Nat) (s : AV) (H : List AObj) : Option (Nat × List AV) :=
 match s with
 | .nils => some (0, [])
 | .lst _ xs => if xs.all (fun y => y.cells.length == esz) = true then some (xs.length, flat xs) else none
 | .arr id off len _ => match H[id]? with
   | some (.cells es) => if off + len * esz ≤ es.length then some (len, es.drop off) else none
   | _ => none
 | _ => none
def acopy (esz : Nat) (d s : AV) (H : List AObj) (K : AV → List AObj → Prop) : Prop :=
 match d, csrc esz s H with
 | .arr id off len _, some (n, ys) => match H[id]? with
   | some (.cells es) => (ys.take (min n len * esz)).all AV.one = true ∧ off + min n len * esz ≤ es.length ∧ belowL (id + 1) ((ys.take (min n len * esz)).map AV.unown) = true ∧
      K (.int .i64 (min n len : Nat)) (H.set id (.cells (asplice es off ((ys.take (min n len * esz)).map AV.unown))))
   | _ => False
 | _, _ => False
def aslicea (esz : Nat) (x : AV) (lo hi : Option AV) (φ : AV → Prop) : Prop :=
 match x with
 | .arr id off len cap => aidx hi len fun h => aidx lo 0 fun l => l ≤ h ∧ h ≤ cap ∧ φ (.arr id (if cap = l then off else off + l * esz) (h - l) (cap - l))
 | _ => False
def aslicem (esz : Nat) (x : AV) (lo hi : Option AV) (m : AV) (φ : AV → Prop) : Prop :=
 match x with
 | .arr id off len cap => hi.isSome = true ∧ aidx (some m) 0 fun m => aidx hi len fun h => aidx lo 0 fun l => l ≤ h ∧ h ≤ m ∧ m ≤ cap ∧ φ (.arr id (if m = l then off else off + l * esz) (h - l) (m - l))
 | _ => False
def asliceX (esz : Nat) (x : AV) (lo hi mx : Option AV) (φ : AV → Prop) : Prop :=
 match x with
 | .arr a b c d => match mx with
   | none => aslicea esz (.arr a b c d) lo hi φ
   | some m => aslicem esz (.arr a b c d) lo hi m φ
 | _ => (∀ own xs, x = .lst own xs → ∀ z ∈ xs, z.cells.length = esz) ∧ aslice esz x lo hi mx φ
section
variable {P : Program} {w : World} {M : Mem} {L : List Nat} {H : List AObj} {A : Perm} {ev : Nat → Value} {ea : Nat → AV} {O : Pos → Option Nat}
theorem St.wcells (hs : St A M L w H ev ea O) {id off b : Nat} {es : List AV} (hid : H[id]? = some (.cells es)) (hl : L[id]? = some b) {cs : Array Value} {e : TypeId} (h1 : w.heap[b]? = some (.cells cs e (0, 0)))
 (h2 : RepL M L cs.toList es) {vs : List Value} {xs : List AV} (hv : RepL M L vs xs) (hle : off + xs.length ≤ es.length) (hbl : belowL (id + 1) (xs.map AV.unown) = true) :
 ∃ O', St A M L (w.setRow b (asplice cs.toList off vs).toArray) (H.set id (.cells (asplice es off (xs.map AV.unown)))) ev ea O' ∧ Ext A M w M (w.setRow b (asplice cs.toList off vs).toArray) := by
 have hvl := hv.length
 have hcl := h2.length
 let O' : Pos → Option Nat := fun q => match q with
  | .t t => O (.t t)
  | .c id' j => if id' = id ∧ off ≤ j ∧ j < off + xs.length then none else O (.c id' j)
 have hO : ∀ q b, O' q = some b → O q = some b := by
  intro q b hq
  cases q with
  | t t => exact hq
  | c id' j =>
    simp only [O'] at hq
    split at hq
    ·cases hq
    ·exact hq
 have hsp : off + (xs.map AV.unown).length ≤ es.length := by simp; omega
 have hsv : off + vs.length ≤ cs.toList.length := by omega
 exact ⟨O', hs.write (cs' := (asplice cs.toList off vs).toArray) (es' := asplice es off (xs.map AV.unown)) (O' := O') hid hl h1
  (by simpa using hv.map_unown.splice off h2)
  (by
    have hst := hs.strat id _ hid
    simp only [AObj.blw] at hst
    unfold asplice
    exact belowL_append.2 ⟨belowL_take hst, belowL_append.2 ⟨belowL_mono (A.le_lim (get_lt hid)) _ hbl, belowL_drop hst⟩⟩)
  (Moves.sub hs.oinj hO) hs.env hs.spt (by
  intro j
  have e1 : ((asplice cs.toList off vs).toArray)[j]? = (asplice cs.toList off vs)[j]? := by simp
  rw [e1, asplice_get _ _ _ hsv, List.getD_eq_getElem?_getD, asplice_get _ _ _ hsp]
  simp only [List.length_map]
  rw [hvl]
  by_cases hj : off ≤ j ∧ j < off + xs.length
  ·simp only [hj, and_self, if_true]
   have : O' (.c id j) = none := by simp [O', hj]
   rw [this]
   refine Spare.free ?_
   intro own ys hh
   rw [List.getElem?_map] at hh
   cases hx : xs[j - off]? with
   | none => simp [hx] at hh
   | some y => simp [hx] at hh; exact AV.unown_free y own ys hh
  ·simp only [hj, if_false]
   have : O' (.c id j) = O (.c id j) := by simp only [O']; rw [if_neg (by intro h'; exact hj h'.2)]
   rw [this]
   have h0 := hs.spc id j
   have e3 : cellV L w id j = (cs.toList[j]?).getD undef := by
    unfold cellV; simp [hl, World.cell?, h1]
   have e4 : cellA H id j = (es[j]?).getD .any := by
    unfold cellA; simp [hid, List.getD_eq_getElem?_getD]
   rw [e3, e4] at h0
   exact h0)
  (by intro id' j hne; simp [O', hne])⟩
theorem csrc_run (hs : St A M L w H ev ea O) {esz n m : Nat} {s : AV} {ys : List AV} {v : Value} (h : csrc esz s H = some (n, ys)) (hv : Rep M L v s) (hm : m ≤ n) :
 (Builtin.lenOf v).run P w = .ok n w ∧ ∃ vs, (Builtin.firstCells esz m v).run P w = .ok vs.toArray w ∧ RepL M L vs (ys.take (m * esz)) := by
 unfold csrc at h
 split at h
 ·cases h
  cases hv
  have : m = 0 := by omega
  subst this
  refine ⟨rfl, [], ?_, by simpa using RepL.nil⟩
  simp [Builtin.firstCells]
 ·rename_i own xs
  split at h <;> cases h
  rename_i hall
  have hall' : ∀ y ∈ xs, y.cells.length = esz := by
   intro y hy
   have := List.all_eq_true.1 hall y hy
   simpa using this
  cases hv with
  | lst0 a c _ hc =>
    have : m = 0 := by simpa using hm
    subst this
    refine ⟨rfl, [], ?_, by simpa [flat] using RepL.nil⟩
    cases a with
    | none => simp [Builtin.firstCells]
    | some a => simpa [Builtin.firstCells] using run_loadCells_list (P := P) w a [] (by simp)
  | lst b off c _ e cs _ he hx hn hle hc hr hrow =>
    have hrow' := row_cells hrow hs.mem
    have hcl := hr.length
    have hfl : (flat xs).length = xs.length * esz := flat_length xs esz hall'
    have hld := run_loadCells_list (P := P) w ⟨b, off, none⟩ (cs.take (m * esz)) (fun j v hv => hrow' j v (by
     rw [List.getElem?_take] at hv
     split at hv
     ·exact hv
     ·cases hv))
    have hlen : (cs.take (m * esz)).length = m * esz := by
     have : m * esz ≤ xs.length * esz := Nat.mul_le_mul_right _ hm
     simp; omega
    rw [hlen] at hld
    exact ⟨rfl, cs.take (m * esz), by simpa [Builtin.firstCells] using hld, hr.take _⟩
 ·rename_i id off len cap
  split at h <;> try cases h
  rename_i es hid
  split at h <;> cases h
  rename_i hfit
  cases hv with
  | arr b _ _ _ _ hl hc =>
  obtain ⟨cs, e, h1, h2, h3⟩ := cells_of_obj hs hid hl
  have hcl := h2.length
  have hlen : ((cs.toList.drop off).take (m * esz)).length = m * esz := by
   have : m * esz ≤ n * esz := Nat.mul_le_mul_right _ hm
   simp at hcl ⊢; omega
  have hld := run_loadCells_list (P := P) w ⟨b, off, none⟩ ((cs.toList.drop off).take (m * esz)) (fun j v hv => by rw [Addr.add_lit]; exact h3 _ _ (list_drop_take _ _ _ _ _ hv))
  rw [hlen] at hld
  exact ⟨rfl, (cs.toList.drop off).take (m * esz), by simpa [Builtin.firstCells] using hld, (h2.drop off).take _⟩
 ·cases h
theorem acopy_run (hs : St A M L w H ev ea O) {t e : TypeId} {esz : Nat} (ht : P.underlying t = some (.slice e)) (he : tcells P e = some esz) {u v : Value} {d s : AV} {K : AV → List AObj → Prop} (h : acopy esz d s H K) (hu : Rep M L u d) (hv : Rep M L v s) (t' ty : TypeId) :
 ∃ r z w' H' O', (Builtin.copy_ #[t, t'] ty #[u, v]).run P w = .ok r w' ∧ Rep M L r z ∧ K z H' ∧ St A M L w' H' ev ea O' ∧ Ext A M w M w' ∧ ∀ own xs, z = .lst own xs → own = 0 := by
 unfold acopy at h
 split at h <;> try exact h.elim
 rename_i id off len cap n ys hsrc
 split at h <;> try exact h.elim
 rename_i es hid
 obtain ⟨hone, hle, hbl, hK⟩ := h
 cases hu with
 | arr b _ _ _ _ hl hc =>
 obtain ⟨hlen, vs, hfc, hr⟩ := csrc_run (P := P) hs hsrc hv (Nat.min_le_left n len)
 obtain ⟨cs, e', h1, h2, h3⟩ := hs.obj id _ b hid hl
 have hcl := h2.length
 have hvl := hr.length
 have hyl : (ys.take (min n len * esz)).length ≤ min n len * esz := by simp; omega
 have hst := run_storeCells_at P b off e' vs 0 cs w h1 (by simp at hcl ⊢; omega) (hr.oneCell hone)
 obtain ⟨O', g1, g2⟩ := hs.wcells (off := off) hid hl h1 h2 hr (by omega) hbl
 obtain ⟨i, hi, him⟩ := Option.map_eq_some_iff.1 he
 refine ⟨.int .i64 (min n len : Nat), .int .i64 (min n len : Nat), _, _, O', ?_, .int _ _, hK, g1, g2, by intro _ _ e; cases e⟩
 have hmin : Nat.min n len = min n len := rfl
 have hst' : (storeCells ⟨b, off, none⟩ vs).run P w = .ok () (w.setRow b (asplice cs.toList off vs).toArray) := by simpa [asplice] using hst
 simp [Builtin.copy_, run_underlying ht, hlen, sizeOf, typeInfo, hi, him, hmin, hfc, hst', goInt]
theorem aslicea_run {t e : TypeId} {esz : Nat} (ht : P.underlying t = some (.slice e)) (he : tcells P e = some esz) {u : Value} {x : AV} {lo hi : Option AV} {vlo vhi : Option Value} {φ : AV → Prop} (h : aslicea esz x lo hi φ) (hu : Rep M L u x) (h1 : optRep M L lo vlo) (h2 : optRep M L hi vhi) :
 ∃ r z, (Instr.sliceAt t u vlo vhi none).run P w = .ok r w ∧ Rep M L r z ∧ φ z ∧ ∀ own xs, z = .lst own xs → own = 0 := by
 unfold aslicea at h
 split at h <;> try exact h.elim
 rename_i id off len cap
 cases hu with
 | arr b _ _ _ _ hl hc =>
 obtain ⟨hh, h, hhi⟩ := aidx_bound h2 h
 obtain ⟨ll, h, hlo⟩ := aidx_bound h1 h
 obtain ⟨hle, hhl, hφ⟩ := h
 obtain ⟨i, hinf, him⟩ := Option.map_eq_some_iff.1 he
 have hsz : (sizeOf e).run P w = .ok esz w := by simp [sizeOf, typeInfo, hinf, him]
 refine ⟨_, _, ?_, .arr b (if cap = ll then off else off + ll * esz) (hh - ll) (cap - ll) id hl (by omega), hφ, by intro _ _ e; cases e⟩
 have hb : (Instr.sliceBounds true len cap vlo vhi none).run P w = .ok (ll, hh, cap) w := by
  rcases hhi with ⟨_, rfl, rfl⟩ | ⟨kd, i, rfl, hi0, rfl⟩ <;> rcases hlo with ⟨_, rfl, rfl⟩ | ⟨kd', i', rfl, hi0', rfl⟩
  ·rfl
  ·have hb1 := run_sliceBound (P := P) w kd' i' hh .sliceB hi0' hle
   simp [Instr.sliceBounds, hb1]
  ·have hb1 := run_sliceBound (P := P) w kd i cap .sliceAcap hi0 (by omega)
   simp [Instr.sliceBounds, hb1]
  ·have hb1 := run_sliceBound (P := P) w kd i cap .sliceAcap hi0 (by omega)
   have hb2 := run_sliceBound (P := P) w kd' i' i.toNat .sliceB hi0' hle
   simp [Instr.sliceBounds, hb1, hb2]
 simp only [Instr.sliceAt, Instr.slice, Sem.run_bind, run_underlying ht, Result.andThen_ok, hb, hsz, Sem.run_pure]
 by_cases hcl : cap = ll
 ·simp [hcl]
 ·simp [hcl, Addr.add_lit]
theorem aslicem_run {t e : TypeId} {esz : Nat} (ht : P.underlying t = some (.slice e)) (he : tcells P e = some esz) {u : Value} {x m : AV} {lo hi : Option AV} {vlo vhi vm : Option Value} {φ : AV → Prop} (h : aslicem esz x lo hi m φ) (hu : Rep M L u x) (h1 : optRep M L lo vlo) (h2 : optRep M L hi vhi) (h3 : optRep M L (some m) vm) :
 ∃ r z, (Instr.sliceAt t u vlo vhi vm).run P w = .ok r w ∧ Rep M L r z ∧ φ z ∧ ∀ own xs, z = .lst own xs → own = 0 := by
 unfold aslicem at h
 split at h <;> try exact h.elim
 rename_i id off len cap
 cases hu with
 | arr b _ _ _ _ hl hc =>
 obtain ⟨hsome, h⟩ := h
 obtain ⟨mm, h, hmm⟩ := aidx_bound h3 h
 obtain ⟨hh, h, hhi⟩ := aidx_bound h2 h
 obtain ⟨ll, h, hlo⟩ := aidx_bound h1 h
 obtain ⟨hle, hhl, hmc, hφ⟩ := h
 obtain ⟨i, hinf, him⟩ := Option.map_eq_some_iff.1 he
 have hsz : (sizeOf e).run P w = .ok esz w := by simp [sizeOf, typeInfo, hinf, him]
 refine ⟨_, _, ?_, .arr b (if mm = ll then off else off + ll * esz) (hh - ll) (mm - ll) id hl (by omega), hφ, by intro _ _ e; cases e⟩
 have hb : (Instr.sliceBounds true len cap vlo vhi vm).run P w = .ok (ll, hh, mm) w := by
  rcases hmm with ⟨e0, _⟩ | ⟨kd3, i3, rfl, hi3, rfl⟩
  ·cases e0
  have hb3 := run_sliceBound (P := P) w kd3 i3 cap .slice3Acap hi3 hmc
  rcases hhi with ⟨rfl, _, _⟩ | ⟨kd, i, rfl, hi0, rfl⟩
  ·cases hsome
  have hb1 := run_sliceBound (P := P) w kd i i3.toNat .slice3B hi0 hhl
  rcases hlo with ⟨_, rfl, rfl⟩ | ⟨kd', i', rfl, hi0', rfl⟩
  ·simp [Instr.sliceBounds, hb1, hb3]
  ·have hb2 := run_sliceBound (P := P) w kd' i' i.toNat .slice3C hi0' hle
   simp [Instr.sliceBounds, hb1, hb2, hb3]
 simp only [Instr.sliceAt, Instr.slice, Sem.run_bind, run_underlying ht, Result.andThen_ok, hb, hsz, Sem.run_pure]
 by_cases hcl : mm = ll
 ·simp [hcl]
 ·simp [hcl, Addr.add_lit]
end
end Go.Abs
end
section
namespace Go.Abs
open Go
def chunks (esz : Nat) : Nat → List AV → List AV
 | 0, _ => []
 | n + 1, es => (if esz = 1 then (es.getD 0 .any).unown else .agg ((es.take esz).map AV.unown)) :: chunks esz n (es.drop esz)
def asetf1 (esz : Nat) (x : AV) (H : List AObj) (K : AV → List AObj → Prop) : Prop :=
 match x with
 | .arr id off len cap => match H[id]? with
   | some (.cells es) => 0 < esz ∧ len ≤ cap ∧ off + len * esz ≤ es.length ∧ (es.drop off).all AV.one = true ∧ K (.lst 0 (chunks esz len (es.drop off))) (H.set id .dead)
   | _ => False
 | .any => False
 | .emp => K (.lst 0 []) H
 | x => K x.unown H
def asetfL (esz : Nat) : List AV → List AObj → (List AV → List AObj → Prop) → Prop
 | [], H, K => K [] H
 | x :: r, H, K => asetf1 esz x H fun y H' => asetfL esz r H' fun ys H'' => K (y :: ys) H''
def afrz (e id c : Nat) (H : List AObj) (K : List AObj → Prop) : Prop :=
 match H[id]? with
 | some (.cells es) => match es[c]? with
   | some (.arr a1 a2 a3 a4) => asetf1 e (.arr a1 a2 a3 a4) H fun y H' => H'[id]? = some (.cells es) ∧ y.blw (id + 1) = true ∧ K (H'.set id (.cells (es.set c y)))
   | some .nils => K H
   | _ => False
 | _ => False
def asetf (esz : Nat) (x : AV) (H : List AObj) (K : AV → List AObj → Prop) : Prop :=
 match x with
 | .agg xs => asetfL esz xs H fun ys H' => K (.agg ys) H'
 | .ptr id off => if 1000 ≤ esz then afrz (esz % 1000) id (off + esz / 1000 - 1) H (K (.ptr id off)) else asetf1 esz (.ptr id off) H K
 | x => asetf1 esz x H K
theorem one_cells {x : AV} (h : x.one = true) : x.cells = [x] := by cases x <;> first | rfl | simp [AV.one] at h
theorem one_unown {x : AV} (h : x.one = true) : x.unown.one = true := by cases x <;> first | rfl | exact h
theorem chunks_spec (esz : Nat) (h0 : 0 < esz) : ∀ (n : Nat) (es : List AV), n * esz ≤ es.length → es.all AV.one = true →
 flat (chunks esz n es) = (es.take (n * esz)).map AV.unown ∧ (chunks esz n es).length = n ∧ ∀ x ∈ chunks esz n es, x.cells.length = esz
 | 0, es, _, _ => by simp [chunks, flat]
 | n + 1, es, hle, h1 => by
   have hle' : n * esz + esz ≤ es.length := by rw [Nat.add_mul] at hle; omega
   obtain ⟨i1, i2, i3⟩ := chunks_spec esz h0 n (es.drop esz) (by simp; omega) (by
    rw [List.all_eq_true] at h1 ⊢
    exact fun x hx => h1 x (List.mem_of_mem_drop hx))
   have hhead : (if esz = 1 then (es.getD 0 .any).unown else AV.agg ((es.take esz).map AV.unown)).cells = (es.take esz).map AV.unown := by
    split
    ·rename_i e
     subst e
     cases es with
     | nil => simp at hle'
     | cons x r =>
       have hx : x.one = true := List.all_eq_true.1 h1 x (by simp)
       simp [one_cells (one_unown hx)]
    ·rfl
   refine ⟨?_, by simp [chunks, i2], ?_⟩
   ·simp only [flat] at i1
    simp only [chunks, flat, List.flatMap_cons, hhead, i1]
    rw [← List.map_append]
    congr 1
    rw [Nat.add_mul, Nat.one_mul, Nat.add_comm (n * esz) esz, List.take_add]
   ·intro x hx
    simp only [chunks, List.mem_cons] at hx
    rcases hx with rfl | hx
    ·rw [hhead]; simp; omega
    ·exact i3 x hx
section
variable {P : Program} {w : World} {M : Mem} {L : List Nat} {H : List AObj} {A : Perm} {ev : Nat → Value} {ea : Nat → AV} {O : Pos → Option Nat}
theorem St.freeze (h : St A M L w H ev ea O) {id b : Nat} {es : List AV} (hid : H[id]? = some (.cells es)) (hl : L[id]? = some b) :
 ∃ (cs : Array Value) (O' : Pos → Option Nat), RepL M L cs.toList es ∧ M.sub (M.add b cs.toList) ∧ (M.add b cs.toList).row b 0 cs.toList ∧ St A (M.add b cs.toList) L w (H.set id .dead) ev ea O' ∧ Ext A M w (M.add b cs.toList) w ∧ (∀ t, O' (.t t) = O (.t t)) := by
 obtain ⟨cs, e, h1, h2, h3⟩ := h.obj id _ b hid hl
 have hbL : b ∈ L := List.mem_of_getElem? hl
 have hsub : M.sub (M.add b cs.toList) := by
  intro b' o v hv
  have hne : b' ≠ b := by
   rintro rfl
   rw [h3] at hv; cases hv
  simp [Mem.add, hne, hv]
 have hM : ∀ b', b' ≠ b → ∀ o, (M.add b cs.toList) b' o = M b' o := fun b' hb o => by simp [Mem.add, hb]
 let O' : Pos → Option Nat := fun p => match p with | .t t => O (.t t) | .c id' j => if id' = id then none else O (.c id' j)
 have hO : ∀ q b, O' q = some b → O q = some b := by
  intro q b hq
  cases q with
  | t t => exact hq
  | c id' j =>
    simp only [O'] at hq
    split at hq
    ·cases hq
    ·exact hq
 have hOb : ∀ q b', O q = some b' → b' ≠ b := fun q b' hq e => h.osep q b' hq (e ▸ hbL)
 refine ⟨cs, O', h2, hsub, ?_, ?_, ?_, fun t => rfl⟩
 ·intro j v hv
  simpa [Mem.add] using hv
 ·exact { len := by simp [h.len], nodup := h.nodup, env := fun t => (h.env t).mono hsub (List.prefix_refl _)
          mem := by
           intro b' o v hv
           by_cases e0 : b' = b
           ·subst e0
            simp only [Mem.add, if_true] at hv
            simpa [World.cell?, h1] using hv
           ·rw [hM b' e0] at hv
            exact h.mem b' o v hv
          obj := by
           intro id' o b' ho hb'
           rw [List.getElem?_set] at ho
           split at ho
           ·split at ho <;> cases ho
            trivial
           ·rename_i hne
            refine (h.obj id' o b' ho hb').mono hsub (List.prefix_refl _) rfl (hM b' ?_)
            rintro rfl
            exact hne ((List.getElem?_inj (get_lt hl) h.nodup).1 (hl.trans hb'.symm))
          strat := by
           intro id' o ho
           rw [List.length_set]
           rw [List.getElem?_set] at ho
           split at ho
           ·split at ho <;> cases ho
            rfl
           ·exact h.strat id' o ho
          lt := h.lt
          spt := fun t => (h.spt t).mono fun b' hb' => ⟨rfl, hM b' (hOb _ b' hb')⟩
          spc := by
           intro id' j
           by_cases e0 : id' = id
           ·subst e0
            have : cellA (H.set id' .dead) id' j = .any := by
             unfold cellA
             rw [List.getElem?_set]
             simp
            rw [this]
            simp [O', Spare]
           ·have e1 : cellA (H.set id .dead) id' j = cellA H id' j := by
             unfold cellA
             rw [List.getElem?_set, if_neg (Ne.symm e0)]
            rw [e1]
            have : O' (.c id' j) = O (.c id' j) := by simp [O', e0]
            rw [this]
            exact (h.spc id' j).mono fun b' hb' => ⟨rfl, hM b' (hOb _ b' hb')⟩
          oinj := fun p q b hp hq => h.oinj p q b (hO p b hp) (hO q b hq)
          osep := fun p b hp => h.osep p b (hO p b hp)
          olt := fun p b hp => h.olt p b (hO p b hp)
          La := h.La
          Oa := fun p b hp => h.Oa p b (hO p b hp)
          fresh := h.fresh }
 ·exact ⟨hsub, Nat.le_refl _, rfl, rfl, rfl, fun b' _ hA => ⟨rfl, hM b' (fun e => hA (e ▸ h.La b hbL))⟩, fun k r hk => ⟨r, hk, rfl⟩⟩
theorem asetf1_run (hs : St A M L w H ev ea O) {esz : Nat} {u : Value} {x : AV} {K : AV → List AObj → Prop} (h : asetf1 esz x H K) (hu : Rep M L u x) :
 ∃ z M' H' O', Rep M' L u z ∧ K z H' ∧ St A M' L w H' ev ea O' ∧ Ext A M w M' w ∧ ∀ own xs, z = .lst own xs → own = 0 := by
 unfold asetf1 at h
 split at h
 ·rename_i id off len cap
  split at h <;> try exact h.elim
  rename_i es hid
  obtain ⟨h0, hcap, hle, h1, hK⟩ := h
  cases hu with
  | arr b _ _ _ _ hl hc =>
  obtain ⟨cs, O', k1, k2, k3, k4, k5, _⟩ := hs.freeze hid hl
  obtain ⟨c1, c2, c3⟩ := chunks_spec esz h0 len (es.drop off) (by simp; omega) h1
  refine ⟨_, _, _, O', ?_, hK, k4, k5, by intro own xs e; cases e; rfl⟩
  have hcl := k1.length
  by_cases hz : len = 0
  ·subst hz
   simp only [chunks]
   exact .lst0 _ _ _ hc
  ·have hr : RepL (M.add b cs.toList) L ((cs.toList.drop off).take (len * esz)) (flat (chunks esz len (es.drop off))) := by
    rw [c1]
    exact (((k1.drop off).take _).map_unown).mono k2 (List.prefix_refl _)
   have hrow : (M.add b cs.toList).row b off ((cs.toList.drop off).take (len * esz)) := by
    intro j v hv
    have := k3 (off + j) v (list_drop_take _ _ _ _ _ hv)
    simpa using this
   have := Rep.lst (M := M.add b cs.toList) (L := L) b off cap 0 esz _ (chunks esz len (es.drop off)) h0 c3 (by omega) (by omega) hc hr hrow
   rw [c2] at this
   exact this
 ·exact h.elim
 ·cases hu
  exact ⟨_, M, H, O, .lst0 _ 0 0 (by decide), h, hs, Ext.refl A M w, by intro _ _ e; cases e; rfl⟩
 ·rename_i hne1 hne2
  refine ⟨_, M, H, O, hu.unown, h, hs, Ext.refl A M w, AV.unown_free x⟩
theorem asetfL_run {esz : Nat} : ∀ {xs : List AV} {us : List Value} {M : Mem} {H : List AObj} {O : Pos → Option Nat} {K : List AV → List AObj → Prop}, St A M L w H ev ea O → asetfL esz xs H K → RepL M L us xs →
 ∃ zs M' H' O', RepL M' L us zs ∧ K zs H' ∧ St A M' L w H' ev ea O' ∧ Ext A M w M' w
 | [], us, M, H, O, K, hs, h, hu => ⟨[], M, H, O, hu, h, hs, Ext.refl A M w⟩
 | x :: r, us, M, H, O, K, hs, h, hu => by
   cases hu with
   | cons u _ us _ h1 h2 =>
   obtain ⟨z, M1, H1, O1, k1, k2, k3, k4, _⟩ := asetf1_run hs h h1
   obtain ⟨zs, M2, H2, O2, g1, g2, g3, g4⟩ := asetfL_run k3 k2 (h2.mono k4.msub (List.prefix_refl L))
   exact ⟨z :: zs, M2, H2, O2, .cons _ _ _ _ (k1.mono g4.msub (List.prefix_refl L)) g1, g2, g3, k4.trans g4⟩
theorem setRow_self {b : Nat} {cs : Array Value} {e : TypeId} {f : Nat × Nat} (h : w.heap[b]? = some (.cells cs e f)) : w.setRow b cs = w := by
 have : (w.setRow b cs).heap = w.heap := by
  apply Array.ext
  ·simp [World.setRow]
  ·intro i h1 h2
   simp only [World.setRow, Array.getElem_modify]
   split
   ·rename_i e0
    subst e0
    obtain ⟨_, h'⟩ := Array.getElem?_eq_some_iff.1 h
    rw [h']
   ·rfl
 show ({ w with heap := (w.setRow b cs).heap } : World) = w
 rw [this]
theorem afrz_run (hs : St A M L w H ev ea O) {e id c : Nat} {K : List AObj → Prop} (h : afrz e id c H K) :
 ∃ M' H' O', K H' ∧ St A M' L w H' ev ea O' ∧ Ext A M w M' w := by
 unfold afrz at h
 split at h <;> try exact h.elim
 rename_i es hid
 split at h <;> try exact h.elim
 rotate_left
 ·exact ⟨M, H, O, h, hs, .refl A M w⟩
 rename_i a1 a2 a3 a4 hc
 have hb : ∃ b, L[id]? = some b := by
  have := get_lt hid
  rw [← hs.len] at this
  exact ⟨L[id], by simp [this]⟩
 obtain ⟨b, hl⟩ := hb
 obtain ⟨cs, ty, k1, k2, k3⟩ := hs.obj id _ b hid hl
 obtain ⟨u, hu, hru⟩ := k2.get c _ hc
 obtain ⟨y, M', H1, O1, g1, ⟨g2, g3, g4⟩, g5, g6, g7⟩ := asetf1_run hs h hru
 obtain ⟨cs', ty', m1, m2, m3⟩ := g5.obj id _ b g2 hl
 rw [k1] at m1; cases m1
 have hst := g5.strat id _ g2
 have hcl : c < es.length := get_lt hc
 have hset : cs.toList.set c u = cs.toList := by
  apply List.ext_getElem?
  intro j
  rw [List.getElem?_set]
  split
  ·rename_i e0; subst e0
   have : c < cs.toList.length := get_lt hu
   rw [if_pos this, hu]
  ·rfl
 have hr2 := m2.set g1 c
 rw [hset] at hr2
 have hcv : ∀ j, cellV L w id j = (cs[j]?).getD undef := by
  intro j
  unfold cellV
  rw [hl]
  simp [World.cell?, k1]
 have hO : O1 (.c id c) = none := by
  have := g5.spc id c
  have e1 : cellA H1 id c = .arr a1 a2 a3 a4 := by
   unfold cellA
   rw [g2]
   simp [List.getD_eq_getElem?_getD, hc]
  rw [e1] at this
  exact this
 obtain ⟨q1, q2⟩ := g5.write (es' := es.set c y) (cs' := cs) (ea' := ea) (O' := O1) g2 hl k1 hr2 (by
  simp only [AObj.blw] at hst
  rw [belowL_iff] at hst ⊢
  intro z hz
  rcases List.mem_or_eq_of_mem_set hz with h' | rfl
  ·exact hst z h'
  ·exact AV.blw_mono (A.le_lim (get_lt g2)) _ g3) ⟨fun p q b hp hq => g5.oinj p q b hp hq, fun p b hp => ⟨p, hp⟩⟩ g5.env g5.spt (fun j => by
  by_cases e0 : j = c
  ·subst e0
   rw [hO]
   have : (es.set j y).getD j .any = y := by rw [List.getD_eq_getElem?_getD, List.getElem?_set_self hcl]; rfl
   rw [this]
   exact Spare.free g7
  ·have := g5.spc id j
   rw [hcv j] at this
   have e1 : cellA H1 id j = es.getD j .any := by unfold cellA; rw [g2]
   rw [e1] at this
   rwa [List.getD_eq_getElem?_getD, List.getElem?_set_ne (fun e => e0 e.symm), ← List.getD_eq_getElem?_getD]) (fun _ _ _ => rfl)
 rw [setRow_self k1] at q1 q2
 exact ⟨M', _, O1, g4, q1, g6.trans q2⟩
theorem asetf_run (hs : St A M L w H ev ea O) {esz : Nat} {u : Value} {x : AV} {K : AV → List AObj → Prop} (h : asetf esz x H K) (hu : Rep M L u x) :
 ∃ z M' H' O', Rep M' L u z ∧ K z H' ∧ St A M' L w H' ev ea O' ∧ Ext A M w M' w ∧ ∀ own xs, z = .lst own xs → own = 0 := by
 unfold asetf at h
 split at h
 ·cases hu with
  | agg cs xs hr =>
  obtain ⟨zs, M', H', O', g1, g2, g3, g4⟩ := asetfL_run hs h hr
  exact ⟨.agg zs, M', H', O', .agg _ _ g1, g2, g3, g4, by intro own xs e; cases e⟩
 ·rename_i id off
  split at h
  ·obtain ⟨M', H', O', g1, g2, g3⟩ := afrz_run hs h
   exact ⟨.ptr id off, M', H', O', hu.mono g3.msub (List.prefix_refl L), g1, g2, g3, by intro own xs e; cases e⟩
  ·exact asetf1_run hs h hu
 ·exact asetf1_run hs h hu
end
end Go.Abs
end
section
namespace Go.Abs
open Go
def alitA (xs : List AV) (H : List AObj) (K : AV → List AObj → Prop) : Prop :=
 belowL (H.length + 1) ((flat xs).map AV.unown) = true ∧ K (.arr H.length 0 xs.length xs.length) (H ++ [.cells ((flat xs).map AV.unown)])
def apad (z : AV) (n : Nat) : List AV := flat (List.replicate n (zcanon z))
def aappendA (esz bytes : Nat) (z s x : AV) (H : List AObj) (K : AV → List AObj → Prop) : Prop :=
 match rlist x with
 | none => (match s, csrc esz x H with
   | .arr id off len cap, some (n, ys) => match H[id]? with
     | some (.cells es) => n * esz ≤ ys.length ∧ (ys.take (n * esz)).all AV.one = true ∧ len + n ≤ cap ∧ off + cap * esz ≤ es.length ∧ belowL (id + 1) ((ys.take (n * esz)).map AV.unown) = true ∧
        K (.arr id off (len + n) cap) (H.set id (.cells (asplice es (off + len * esz) ((ys.take (n * esz)).map AV.unown))))
     | _ => False
   | _, _ => False)
 | some ys => okE esz ys ∧ match s with
   | .nils => ys.length * bytes ≤ 140737488355328 ∧ (ys = [] → K .nils H) ∧ (ys ≠ [] → ∀ cap, ys.length ≤ cap → cap < 9223372036854775808 →
      belowL (H.length + 1) ((flat ys).map AV.unown ++ apad z (cap - ys.length)) = true ∧ K (.arr H.length 0 ys.length cap) (H ++ [.cells ((flat ys).map AV.unown ++ apad z (cap - ys.length))]))
   | .emp => ys.length * bytes ≤ 140737488355328 ∧ (ys = [] → K .emp H) ∧ (ys ≠ [] → ∀ cap, ys.length ≤ cap → cap < 9223372036854775808 →
      belowL (H.length + 1) ((flat ys).map AV.unown ++ apad z (cap - ys.length)) = true ∧ K (.arr H.length 0 ys.length cap) (H ++ [.cells ((flat ys).map AV.unown ++ apad z (cap - ys.length))]))
   | .arr id off len cap => match H[id]? with
     | some (.cells es) => (len + ys.length) * bytes ≤ 140737488355328 ∧ len ≤ cap ∧ off + cap * esz ≤ es.length ∧
        (len + ys.length ≤ cap → belowL (id + 1) ((flat ys).map AV.unown) = true ∧ K (.arr id off (len + ys.length) cap) (H.set id (.cells (asplice es (off + len * esz) ((flat ys).map AV.unown))))) ∧
        (cap < len + ys.length → ∀ cap', len + ys.length ≤ cap' → cap' < 9223372036854775808 →
          belowL (H.length + 1) (((es.drop off).take (len * esz)).map AV.unown ++ (flat ys).map AV.unown ++ apad z (cap' - (len + ys.length))) = true ∧
          K (.arr H.length 0 (len + ys.length) cap') (H ++ [.cells (((es.drop off).take (len * esz)).map AV.unown ++ (flat ys).map AV.unown ++ apad z (cap' - (len + ys.length)))]))
     | _ => False
   | _ => False
def aclearA (esz : Nat) (z x : AV) (H : List AObj) (K : List AObj → Prop) : Prop :=
 match x with
 | .arr id off len _ => match H[id]? with
   | some (.cells es) => off + len * esz ≤ es.length ∧ (apad z len).all AV.one = true ∧ belowL (id + 1) ((apad z len).map AV.unown) = true ∧ K (H.set id (.cells (asplice es off ((apad z len).map AV.unown))))
   | _ => False
 | _ => False
section
variable {P : Program} {w : World} {M : Mem} {L : List Nat} {H : List AObj} {A : Perm} {ev : Nat → Value} {ea : Nat → AV} {O : Pos → Option Nat}
theorem asplice_empty {α : Type} (es : List α) (off : Nat) : asplice es off [] = es := by simp [asplice]
theorem St.newCells (hs : St A M L w H ev ea O) (cs : Array Value) (e : TypeId) {xs : List AV} (hr : RepL M L cs.toList xs) (hb : belowL (H.length + 1) xs = true) (hf : ∀ y ∈ xs, ∀ own zs, y = .lst own zs → own = 0) :
 St A M (L ++ [w.heap.size]) { w with heap := w.heap.push (.cells cs e) } (H ++ [.cells xs]) ev ea O ∧ Ext A M w M { w with heap := w.heap.push (.cells cs e) } :=
 hs.addObj (.cells cs e) (.cells xs) (fun w' hw hM => ⟨_, e, hw, hr.mono (Mem.sub_refl M) ⟨_, rfl⟩, hM⟩) (by simpa [AObj.blw] using hb) (fun j => by
  simp only [aobjCell]
  refine Spare.free ?_
  intro own zs hh
  rw [List.getD_eq_getElem?_getD] at hh
  cases hx : xs[j]? with
  | none => simp [hx] at hh
  | some y => simp [hx] at hh; exact hf y (List.mem_of_getElem? hx) own zs hh)
theorem unown_frees (xs : List AV) : ∀ y ∈ xs.map AV.unown, ∀ own zs, y = .lst own zs → own = 0 := by
 intro y hy own zs e
 obtain ⟨q, _, rfl⟩ := List.mem_map.1 hy
 exact AV.unown_free q own zs e
theorem apad_frees {z : AV} (hzf : ∀ y ∈ z.cells, ∀ own xs, y = .lst own xs → own = 0) (n : Nat) : ∀ y ∈ apad z n, ∀ own zs, y = .lst own zs → own = 0 := by
 intro y hy own zs e
 simp only [apad, flat, List.mem_flatMap] at hy
 obtain ⟨q, hq, hyq⟩ := hy
 rw [List.eq_of_mem_replicate hq] at hyq
 subst e
 cases z <;> simp only [zcanon, AV.cells] at hyq hzf
 case agg ys =>
  obtain ⟨y', _, hy'⟩ := List.mem_map.1 hyq
  exact AV.drop_free y' own zs hy'
 all_goals exact hzf _ hyq own zs rfl
theorem alitA_run (hs : St A M L w H ev ea O) {t e : TypeId} (ht : P.underlying t = some (.slice e)) {esz : Nat} (he : tcells P e = some esz) (h0 : 0 < esz) {z : AV} (hz : tzero P e = some z) (hzl : z.cells.length = esz) (hzv : z.val = true)
 {len : Nat} (hlen : len * esz ≤ 16777216) {parts : List (Nat × AV)} {vs : Array (Nat × Value)} (hp : ∀ (j : Nat) (p : Nat × AV), parts[j]? = some p → ∃ v, vs.toList[j]? = some (p.1, v) ∧ Rep M L v p.2) (hl : vs.toList.length = parts.length)
 {K : AV → List AObj → Prop} (h : abslice (List.replicate len (canon z)) esz parts fun xs => alitA xs H K) :
 ∃ r x L' w' H', (Instr.buildSlice t len vs).run P w = .ok r w' ∧ Rep M L' r x ∧ (∀ own xs, x = .lst own xs → own = 0) ∧ K x H' ∧ St A M L' w' H' ev ea O ∧ Ext A M w M w' ∧ L <+: L' := by
 unfold tzero at hz
 obtain ⟨ie, hie, hsz⟩ := Option.map_eq_some_iff.1 he
 simp only [hie] at hz
 split at hz
 ·rename_i zv hzv'
  have hzr := (ofValue_rep (M := M) (L := L) hz).canon.vcells (canon_val hzv)
  have hzs : zv.cells.size = esz := by have := hzr.length; rw [canon_cells, hzl] at this; simpa using this
  obtain ⟨cs', xs', f1, f2, f3, f4, f5⟩ := abslice_run (M := M) (L := L) esz parts vs.toList hp hl (zero_cells zv.cells esz len hzs h0 (canon z) hzr) (fun y hy => by rw [List.eq_of_mem_replicate hy, canon_cells]; exact hzl) h
  simp only [List.length_replicate] at f4
  obtain ⟨hbl, hK⟩ := f5
  have hrun : (Instr.buildSlice t len vs).run P w = .ok (.slice (some ⟨w.heap.size, 0, none⟩) len len) { w with heap := w.heap.push (.cells cs' e) } := by
   by_cases hpos : len * ie.size = 0
   ·have hl0 : len = 0 := by
     rcases Nat.mul_eq_zero.1 hpos with h' | h'
     ·exact h'
     ·omega
    subst hl0
    have hc0 : cs' = #[] := by
     have := f2.length
     rw [flat_length _ esz f3, f4] at this
     simp at this
     exact this
    have hv0 : vs.toList = [] := by
     cases hvs : vs.toList with
     | nil => rfl
     | cons q r =>
       rw [hvs] at hl
       cases parts with
       | nil => simp at hl
       | cons p ps => obtain ⟨_, _, h3, _⟩ := h; simp at h3
    subst hc0
    have hf : Instr.fill (fun i => some (i * ie.size, ie.size)) #[] vs.toList = some #[] := by rw [hv0]; rfl
    simp [Instr.buildSlice, run_underlying ht, sizeOf, typeInfo, hie, newRow, hv0, Instr.fill]
    congr 2
    apply Array.ext'
    simp
   ·rw [run_buildSlice w t e len vs cs' ie zv ht hie hzv' (by rw [hsz]; omega) hpos (by rw [hsz]; exact f1)]
    rfl
  obtain ⟨g1, g2⟩ := hs.newCells cs' e f2.map_unown hbl (unown_frees _)
  have hbd : len < 9223372036854775808 := by
   have : len ≤ len * esz := Nat.le_mul_of_pos_right _ h0
   omega
  refine ⟨_, .arr H.length 0 len len, _, _, _, hrun, .arr w.heap.size 0 _ _ H.length ?_ hbd, (by intro _ _ e; cases e), by rw [f4] at hK; exact hK, g1, g2, ⟨_, rfl⟩⟩
  rw [List.getElem?_append_right (by rw [hs.len]; exact Nat.le_refl _), hs.len]; simp
 ·cases hz
theorem aappendA_run (hs : St A M L w H ev ea O) {t ty e : TypeId} {i : TypeInfo} {zv : Value} {esz bytes : Nat} (ht : P.underlying t = some (.slice e)) (hi : P.info? e = some i) (hz : i.zero = some zv) (hsz : i.size = esz) (hby : i.bytes = bytes) (h0 : 0 < esz) (hb0 : 0 < bytes)
 {z : AV} (hza : ofValue zv = some z) (hzv : z.val = true) (hzl : z.cells.length = esz) (hzf : ∀ y ∈ z.cells, ∀ own xs, y = .lst own xs → own = 0) {u v : Value} {s x : AV} {K : AV → List AObj → Prop} (h : aappendA esz bytes z s x H K) (hu : Rep M L u s) (hv : Rep M L v x) :
 ∃ r y L' w' H' O', (Builtin.append_ #[t, t] ty #[u, v]).run P w = .ok r w' ∧ Rep M L' r y ∧ (∀ own xs, y = .lst own xs → own = 0) ∧ K y H' ∧ St A M L' w' H' ev ea O' ∧ Ext A M w M w' ∧ L <+: L' := by
 unfold aappendA at h
 split at h
 ·-- out of an object
  rename_i hnone
  split at h <;> try exact h.elim
  rename_i id off len cap n ys hsrc
  split at h <;> try exact h.elim
  rename_i es hid
  obtain ⟨hny, hone, hroom, hfit, hbl, hK⟩ := h
  cases hu with
  | arr b _ _ _ _ hl hc =>
  obtain ⟨cs, e', h1, h2, h3⟩ := cells_of_obj hs hid hl
  have hcl := h2.length
  have hle2 : (len + n) * esz ≤ cap * esz := Nat.mul_le_mul_right _ hroom
  rw [Nat.add_mul] at hle2
  unfold csrc at hsrc
  split at hsrc
  ·simp [rlist] at hnone
  ·simp [rlist] at hnone
  ·rename_i id2 off2 len2 cap2
   split at hsrc <;> try cases hsrc
   rename_i es2 hid2
   split at hsrc <;> cases hsrc
   rename_i hfit2
   cases hv with
   | arr b2 _ _ _ _ hl2 hc2 =>
   obtain ⟨cs2, e2, k1, k2, k3⟩ := cells_of_obj hs hid2 hl2
   have hcl2 := k2.length
   by_cases hm0 : n = 0
   ·subst hm0
    simp only [Nat.zero_mul, List.take_zero, List.map_nil, asplice_empty, Nat.add_zero] at hK
    have es' : H.set id (.cells es) = H := by
     obtain ⟨hi', e1⟩ := List.getElem?_eq_some_iff.1 hid
     rw [← e1]; simp
    rw [es'] at hK
    exact ⟨_, .arr id off len cap, L, w, H, O, run_append_nothing ht hi w _ len cap (by omega) _ cap2, .arr b off len cap id hl hc, (by intro _ _ e; cases e), hK, hs, Ext.refl A M w, List.prefix_refl L⟩
   ·have hnl : ((cs2.toList.drop off2).take (n * esz)).length = n * esz := by
     rw [List.length_take, List.length_drop]; omega
    have hnews : ∀ j u, ((cs2.toList.drop off2).take (n * esz))[j]? = some u → w.cell? ((⟨b2, off2, none⟩ : Addr).add j) = some u := fun j u hu => by
     rw [Addr.add_lit]; exact k3 _ _ (list_drop_take _ _ _ _ _ hu)
    have hnr : RepL M L ((cs2.toList.drop off2).take (n * esz)) ((es2.drop off2).take (n * esz)) := (k2.drop off2).take _
    have hone' := hnr.oneCell hone
    have hrun := run_append_room_fr (P := P) (ty := ty) ht hi w b off len cap cs (0, 0) h1 (okfr_zero _) ⟨b2, off2, none⟩ n cap2 ((cs2.toList.drop off2).take (n * esz)) (by rw [hsz]; exact hnl) hnews hone' hroom (by
     have : es.length = cs.size := by rw [← hcl]; simp
     rw [hsz, hnl]; omega)
    rw [hsz] at hrun
    obtain ⟨O', g1, g2⟩ := hs.wcells (off := off + len * esz) hid hl h1 h2 hnr (by rw [List.length_take, List.length_drop]; omega) hbl
    exact ⟨_, .arr id off (len + n) cap, L, _, _, O', hrun, .arr b off _ cap id hl hc, (by intro _ _ e; cases e), hK, g1, g2, List.prefix_refl L⟩
  ·cases hsrc
 rename_i ys hys
 obtain ⟨hok, h⟩ := h
 have hzr := (ofValue_rep (M := M) (L := L) hza).zcanon.vcells (zcanon_val hzv)
 have hzs : zv.cells.size = esz := by have := hzr.length; rw [zcanon_cells, hzl] at this; simpa using this
 have hesz0 : esz ≠ 0 := by omega
 have hpad : ∀ n, RepL M L (Builtin.zeroCells zv.cells n).toList (apad z n) := fun n => by
  have := zero_cells (M := M) (L := L) zv.cells esz n hzs h0 (zcanon z) hzr
  rw [Builtin.zeroCells, hzs]
  rw [hzs] at this
  exact this
 -- a new row
 have grow : ∀ (olds news : List Value) (xs : List AV) (k need oldCap : Nat) (w' : World), RepL M L olds xs → RepL M L news (flat ys) → need ≤ maxLen →
  w' = w.drew.alloc (.cells (olds.toArray ++ news.toArray ++ Builtin.zeroCells zv.cells (grownCap w need oldCap e - need)) e) →
  (Builtin.append_ #[t, t] ty #[u, v]).run P w = .ok (.slice (some ⟨w.heap.size, 0, none⟩) need (grownCap w need oldCap e)) w' →
  (∀ cap', need ≤ cap' → cap' < 9223372036854775808 → belowL (H.length + 1) (xs.map AV.unown ++ (flat ys).map AV.unown ++ apad z (cap' - need)) = true ∧ K (.arr H.length 0 need cap') (H ++ [.cells (xs.map AV.unown ++ (flat ys).map AV.unown ++ apad z (cap' - need))])) →
  ∃ r y L' w' H' O', (Builtin.append_ #[t, t] ty #[u, v]).run P w = .ok r w' ∧ Rep M L' r y ∧ (∀ own xs, y = .lst own xs → own = 0) ∧ K y H' ∧ St A M L' w' H' ev ea O' ∧ Ext A M w M w' ∧ L <+: L' := by
  intro olds news xs k need oldCap w' hor hnr hneed hw' hrun hK
  have hge := grownCap_ge w need oldCap e
  have hle := grownCap_le_maxLen w need oldCap e hneed
  simp only [maxLen] at hle
  obtain ⟨hbl, hK⟩ := hK _ hge (by omega)
  obtain ⟨g1, g2⟩ := hs.drew.newCells (olds.toArray ++ news.toArray ++ Builtin.zeroCells zv.cells (grownCap w need oldCap e - need)) e (xs := xs.map AV.unown ++ (flat ys).map AV.unown ++ apad z (grownCap w need oldCap e - need))
   (by rw [Array.toList_append, Array.toList_append]; exact (hor.map_unown.append hnr.map_unown).append (hpad _)) hbl (by
     intro y hy
     rcases List.mem_append.1 hy with hy | hy
     ·rcases List.mem_append.1 hy with hy | hy
      ·exact unown_frees _ y hy
      ·exact unown_frees _ y hy
     ·exact apad_frees hzf _ y hy)
  subst hw'
  refine ⟨_, .arr H.length 0 need (grownCap w need oldCap e), L ++ [w.heap.size], _, _, O, hrun, .arr w.heap.size 0 _ _ H.length ?_ (by omega), (by intro _ _ e; cases e), hK, g1, Ext.drew.trans g2, ⟨_, rfl⟩⟩
  rw [List.getElem?_append_right (by rw [hs.len]; exact Nat.le_refl _), hs.len]; simp
 split at h <;> try exact h.elim
 ·-- onto nothing
  obtain ⟨hbound, hn, hc⟩ := h
  cases hu
  rcases rlist_form hys hok hv with ⟨rfl, b', c', rfl⟩ | ⟨hm0, b2, o2, c2, news, rfl, hnr, hnm, hnl⟩
  ·exact ⟨_, .nils, L, w, H, O, run_append_nothing ht hi w none 0 0 (Nat.le_refl _) b' c', .nils, (by intro _ _ e; cases e), hn rfl, hs, Ext.refl A M w, List.prefix_refl L⟩
  ·have hnews : ∀ j u, news[j]? = some u → w.cell? ((⟨b2, o2, none⟩ : Addr).add j) = some u := row_cells hnm hs.mem
   have hlen : ys.length ≤ 140737488355328 := Nat.le_trans (Nat.le_mul_of_pos_right _ hb0) hbound
   have hbound' : ys.length * i.bytes ≤ 140737488355328 := by rw [hby]; exact hbound
   have hr := run_append_nil (P := P) w t ty e i zv ht hi hz ⟨b2, o2, none⟩ ys.length c2 news (by rw [hsz]; exact hnl) hnews hm0 (by omega) (by first | omega | (simp at hbound'; omega))
   refine grow [] news [] 0 ys.length 0 _ .nil hnr (by simp only [maxLen]; omega) rfl (by simpa using hr) fun cap' h1 h2 => ?_
   have := hc (by intro e; rw [e] at hm0; simp at hm0) cap' h1 h2
   simpa using this
 ·-- onto what is empty
  obtain ⟨hbound, hn, hc⟩ := h
  cases hu with
  | emp ad =>
  rcases rlist_form hys hok hv with ⟨rfl, b', c', rfl⟩ | ⟨hm0, b2, o2, c2, news, rfl, hnr, hnm, hnl⟩
  ·exact ⟨_, .emp, L, w, H, O, run_append_nothing ht hi w ad 0 0 (Nat.le_refl _) b' c', .emp _, (by intro _ _ e; cases e), hn rfl, hs, Ext.refl A M w, List.prefix_refl L⟩
  ·have hnews : ∀ j u, news[j]? = some u → w.cell? ((⟨b2, o2, none⟩ : Addr).add j) = some u := row_cells hnm hs.mem
   have hlen : ys.length ≤ 140737488355328 := Nat.le_trans (Nat.le_mul_of_pos_right _ hb0) hbound
   have hbound' : ys.length * i.bytes ≤ 140737488355328 := by rw [hby]; exact hbound
   have hK : ∀ cap', ys.length ≤ cap' → cap' < 9223372036854775808 → belowL (H.length + 1) (([] : List AV).map AV.unown ++ (flat ys).map AV.unown ++ apad z (cap' - ys.length)) = true ∧ K (.arr H.length 0 ys.length cap') (H ++ [.cells (([] : List AV).map AV.unown ++ (flat ys).map AV.unown ++ apad z (cap' - ys.length))]) := fun cap' h1 h2 => by
    have := hc (by intro e; rw [e] at hm0; simp at hm0) cap' h1 h2
    simpa using this
   cases ad with
   | none =>
     have hr := run_append_nil (P := P) w t ty e i zv ht hi hz ⟨b2, o2, none⟩ ys.length c2 news (by rw [hsz]; exact hnl) hnews hm0 (by omega) (by first | omega | (simp at hbound'; omega))
     exact grow [] news [] 0 ys.length 0 _ .nil hnr (by simp only [maxLen]; omega) rfl (by simpa using hr) hK
   | some ad =>
     have hr := run_append_grow (P := P) w t ty e i zv ht hi hz ad 0 0 [] (by simp) (fun j v hv => by simp at hv)
      ⟨b2, o2, none⟩ ys.length c2 news (by rw [hsz]; exact hnl) hnews (by omega) (by omega) (growslice_fits (by omega) (by simpa using hbound'))
     simp only [Nat.zero_add] at hr
     exact grow [] news [] 0 ys.length 0 _ .nil hnr (by simp only [maxLen]; omega) rfl hr hK
 ·rename_i id off len cap
  split at h <;> try exact h.elim
  rename_i es hid
  obtain ⟨hbound, hlc, hfit, hin, hout⟩ := h
  cases hu with
  | arr b _ _ _ _ hl hc =>
  obtain ⟨cs, e', h1, h2, h3⟩ := cells_of_obj hs hid hl
  have hcl := h2.length
  rcases rlist_form hys hok hv with ⟨rfl, b', c', rfl⟩ | ⟨hm0, b2, o2, c2, news, rfl, hnr, hnm, hnl⟩
  ·obtain ⟨_, hK⟩ := hin (by simpa using hlc)
   simp only [flat, List.flatMap_nil, List.map_nil, asplice_empty, List.length_nil, Nat.add_zero] at hK
   have es' : H.set id (.cells es) = H := by
    obtain ⟨hi', e1⟩ := List.getElem?_eq_some_iff.1 hid
    rw [← e1]; simp
   rw [es'] at hK
   exact ⟨_, .arr id off len cap, L, w, H, O, run_append_nothing ht hi w _ len cap hlc b' c', .arr b off len cap id hl hc, (by intro _ _ e; cases e), hK, hs, Ext.refl A M w, List.prefix_refl L⟩
  ·have hnews : ∀ j u, news[j]? = some u → w.cell? ((⟨b2, o2, none⟩ : Addr).add j) = some u := row_cells hnm hs.mem
   have hone := hnr.oneCell (flat_one hok)
   have hfl : (flat ys).length = ys.length * esz := flat_length ys esz (fun y hy => (hok y hy).1)
   by_cases hroom : len + ys.length ≤ cap
   ·obtain ⟨hbl, hK⟩ := hin hroom
    have hle2 : (len + ys.length) * esz ≤ cap * esz := Nat.mul_le_mul_right _ hroom
    rw [Nat.add_mul] at hle2
    have hsz' : es.length = cs.size := by rw [← hcl]; simp
    have hrun := run_append_room_fr (P := P) (ty := ty) ht hi w b off len cap cs (0, 0) h1 (okfr_zero _) ⟨b2, o2, none⟩ ys.length c2 news (by rw [hsz]; exact hnl) hnews hone hroom (by rw [hsz, hnl]; omega)
    rw [hsz] at hrun
    obtain ⟨O', g1, g2⟩ := hs.wcells (off := off + len * esz) hid hl h1 h2 hnr (by rw [hfl]; omega) hbl
    exact ⟨_, .arr id off (len + ys.length) cap, L, _, _, O', hrun, .arr b off _ cap id hl hc, (by intro _ _ e; cases e), hK, g1, g2, List.prefix_refl L⟩
   ·have hlen : (len + ys.length) ≤ 140737488355328 := Nat.le_trans (Nat.le_mul_of_pos_right _ hb0) hbound
    have hbound' : (len + ys.length) * i.bytes ≤ 140737488355328 := by rw [hby]; exact hbound
    have hle2 : len * esz ≤ cap * esz := Nat.mul_le_mul_right _ hlc
    have holl : ((cs.toList.drop off).take (len * esz)).length = len * esz := by rw [List.length_take, List.length_drop]; omega
    have hr := run_append_grow (P := P) w t ty e i zv ht hi hz ⟨b, off, none⟩ len cap ((cs.toList.drop off).take (len * esz)) (by rw [hsz]; exact holl) (fun j v hv => by rw [Addr.add_lit]; exact h3 _ _ (list_drop_take _ _ _ _ _ hv))
     ⟨b2, o2, none⟩ ys.length c2 news (by rw [hsz]; exact hnl) hnews (by omega) (by omega) (growslice_fits (by omega) hbound')
    exact grow _ news ((es.drop off).take (len * esz)) 0 (len + ys.length) cap _ ((h2.drop off).take _) hnr (by simp only [maxLen]; omega) rfl hr fun cap' a b => hout (by omega) cap' a b
theorem aclearA_run (hs : St A M L w H ev ea O) {t e : TypeId} {i : TypeInfo} {zv : Value} {esz : Nat} (ht : P.underlying t = some (.slice e)) (hi : P.info? e = some i) (hz : i.zero = some zv) (h0 : 0 < esz)
 {z : AV} (hza : ofValue zv = some z) (hzv : z.val = true) (hzl : z.cells.length = esz) {v : Value} {x : AV} {K : List AObj → Prop} (h : aclearA esz z x H K) (hv : Rep M L v x) (ty : TypeId) :
 ∃ w' H' O', (Builtin.clear_ #[t] ty #[v]).run P w = .ok (.tuple #[]) w' ∧ K H' ∧ St A M L w' H' ev ea O' ∧ Ext A M w M w' := by
 unfold aclearA at h
 split at h <;> try exact h.elim
 rename_i id off len cap
 split at h <;> try exact h.elim
 rename_i es hid
 obtain ⟨hfit, hone, hbl, hK⟩ := h
 cases hv with
 | arr b _ _ _ _ hl hc =>
 have hzr := (ofValue_rep (M := M) (L := L) hza).zcanon.vcells (zcanon_val hzv)
 have hzs : zv.cells.size = esz := by have := hzr.length; rw [zcanon_cells, hzl] at this; simpa using this
 have hpad : RepL M L (Builtin.zeroCells zv.cells len).toList (apad z len) := by
  have := zero_cells (M := M) (L := L) zv.cells esz len hzs h0 (zcanon z) hzr
  rw [Builtin.zeroCells, hzs]
  rw [hzs] at this
  exact this
 obtain ⟨cs, e', h1, h2, h3⟩ := hs.obj id _ b hid hl
 have hcl := h2.length
 have hpl : (apad z len).length = len * esz := by
  unfold apad
  rw [flat_length _ esz (fun y hy => by rw [List.eq_of_mem_replicate hy, zcanon_cells]; exact hzl), List.length_replicate]
 have hvl := hpad.length
 by_cases hl0 : len = 0
 ·subst hl0
  have e0 : apad z 0 = [] := rfl
  rw [e0] at hK
  simp only [List.map_nil, asplice_empty] at hK
  have es' : H.set id (.cells es) = H := by
   obtain ⟨hi', e1⟩ := List.getElem?_eq_some_iff.1 hid
   rw [← e1]; simp
  rw [es'] at hK
  refine ⟨w, H, O, ?_, hK, hs, Ext.refl A M w⟩
  simp [Builtin.clear_, run_underlying ht]
 ·have hst := run_storeCells_at P b off e' (Builtin.zeroCells zv.cells len).toList 0 cs w h1 (by simp at hcl ⊢; simp at hvl; omega) (hpad.oneCell hone)
  obtain ⟨O', g1, g2⟩ := hs.wcells (off := off) hid hl h1 h2 hpad (by omega) hbl
  refine ⟨_, _, O', ?_, hK, g1, g2⟩
  have hst' : (storeCells ⟨b, off, none⟩ (Builtin.zeroCells zv.cells len).toList).run P w = .ok () (w.setRow b (asplice cs.toList off (Builtin.zeroCells zv.cells len).toList).toArray) := by simpa [asplice] using hst
  have hzero : (zeroValue e).run P w = .ok zv w := by simp [zeroValue, typeInfo, hi, hz]
  have hpos : ∃ m, len = m + 1 := ⟨len - 1, by omega⟩
  obtain ⟨m, rfl⟩ := hpos
  simp [Builtin.clear_, run_underlying ht, hzero, hst']
end
end Go.Abs
end
