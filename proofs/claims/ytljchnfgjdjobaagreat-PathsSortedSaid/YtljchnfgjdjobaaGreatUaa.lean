/- Part 1 of 18 of the proof. -/
import Derived.WalkKit
import Derived.Laws.AppendOwn
import Derived.Laws.Cells
import Derived.Deep.Quiet
import Derived.RowKit
import Derived.RangeFuncLeaves
import Derived.RangeFuncRecord
import Derived.OrdersIn
import Derived.Laws.Strings
import Derived.Laws.Entries
import Derived.Laws.CopyRow
import Derived.Great.BuildSlice
import Derived.Laws.BytesArg
set_option linter.unusedVariables false
set_option linter.unusedSimpArgs false
set_option linter.defProp false
set_option linter.unusedSectionVars false
section
namespace Go.aK
open Go
inductive AV where
 | any
 | bool (b : Bool)
 | int (k : IntKind) (n : Int)
 | str (s : ByteArray)
 | ah
 | ap (own : Nat) (xs : List AV)
 | bf (id off len cap : Nat)
 | agg (xs : List AV)
 | tuple (xs : List AV)
 | ptr (id off : Nat)
 | ai (x : AV)
 | qR
 | map (id : Nat)
 | iD
 | fn (f : Fn) (first captured : List AV)
 | ft
 | iface (t : TypeId) (x : AV)
 | wv
 | mC (id : Nat)
 | oh
 deriving Inhabited
def AV.cells : AV → List AV
 | .agg xs => xs
 | x => [x]
def flat (xs : List AV) : List AV := xs.flatMap AV.cells
abbrev Mem := Nat → Nat → Option Value
def Mem.sub (M M' : Mem) : Prop := ∀ b o v, M b o = some v → M' b o = some v
theorem Mem.bM (M : Mem) : M.sub M := fun _ _ _ h => h
theorem Mem.FY {M1 M2 M3 : Mem} (h : M1.sub M2) (k : M2.sub M3) : M1.sub M3 := fun b o v hv => k b o v (h b o v hv)
def Mem.row (M : Mem) (b o : Nat) (cs : List Value) : Prop := ∀ j v, cs[j]? = some v → M b (o + j) = some v
mutual
inductive aR (M : Mem) (L : List Nat) : Value → AV → Prop
 | any (v : Value) : aR M L v .any
 | bool (b : Bool) : aR M L (.bool b) (.bool b)
 | int (k : IntKind) (n : Int) : aR M L (.int k n) (.int k n)
 | str (s : ByteArray) : aR M L (.string s) (.str s)
 | ah : aR M L (.slice none 0 0) .ah
 | gb (a : Option Addr) (c own : Nat) (hc : c < 9223372036854775808) : aR M L (.slice a 0 c) (.ap own [])
 | ap (b off c own e : Nat) (cs : List Value) (xs : List AV) (he : 0 < e) (hx : ∀ x ∈ xs, x.cells.length = e) (hn : 0 < xs.length) (hle : xs.length ≤ c) (hc : c < 9223372036854775808)
    (hr : aJ M L cs (flat xs)) (hm : M.row b off cs) : aR M L (.slice (some ⟨b, off, none⟩) xs.length c) (.ap own xs)
 | bf (b off len cap id : Nat) (hl : L[id]? = some b) (hc : cap < 9223372036854775808) : aR M L (.slice (some ⟨b, off, none⟩) len cap) (.bf id off len cap)
 | agg (cs : List Value) (xs : List AV) (hr : aJ M L cs xs) : aR M L (.agg cs.toArray) (.agg xs)
 | tuple (cs : List Value) (xs : List AV) (hr : aJ M L cs xs) : aR M L (.tuple cs.toArray) (.tuple xs)
 | ptr (b off id : Nat) (hl : L[id]? = some b) : aR M L (.pointer (some ⟨b, off, none⟩)) (.ptr id off)
 | ai (b off : Nat) (cs : List Value) (x : AV) (hr : aJ M L cs x.cells) (hm : M.row b off cs) : aR M L (.pointer (some ⟨b, off, none⟩)) (.ai x)
 | qR : aR M L (.pointer none) .qR
 | map (b id : Nat) (hl : L[id]? = some b) : aR M L (.map (some b)) (.map id)
 | iD : aR M L (.map none) .iD
 | fn (f : Fn) (fs cs : List Value) (xs ys : List AV) (h1 : aJ M L fs xs) (h2 : aJ M L cs ys) : aR M L (.func f fs.toArray cs.toArray) (.fn f xs ys)
 | ft : aR M L .nilFunc .ft
 | iface (t : TypeId) (v : Value) (x : AV) (h : aR M L v x) : aR M L (.iface t v) (.iface t x)
 | wv : aR M L .nilIface .wv
 | mC (b id : Nat) (hl : L[id]? = some b) : aR M L (.func (.yield b) #[] #[]) (.mC id)
 | oh (a : Option Addr) : aR M L (.slice a 0 0) .oh
inductive aJ (M : Mem) (L : List Nat) : List Value → List AV → Prop
 | nil : aJ M L [] []
 | cons (v : Value) (x : AV) (vs : List Value) (xs : List AV) (h : aR M L v x) (t : aJ M L vs xs) : aJ M L (v :: vs) (x :: xs)
end
theorem fF {L L' : List Nat} (h : L <+: L') {id b : Nat} (hb : L[id]? = some b) : L'[id]? = some b := by
 obtain ⟨r, rfl⟩ := h
 rw [List.getElem?_append_left]
 ·exact hb
 ·exact (List.getElem?_eq_some_iff.1 hb).1
theorem Mem.row.mono {M M' : Mem} (hs : M.sub M') {b o : Nat} {cs : List Value} (h : M.row b o cs) : M'.row b o cs := fun j v hv => hs _ _ _ (h j v hv)
mutual
theorem aR.mono {M M' : Mem} {L L' : List Nat} (hs : M.sub M') (hL : L <+: L') : ∀ {v : Value} {x : AV}, aR M L v x → aR M' L' v x
 | _, _, .any v => .any v
 | _, _, .bool b => .bool b
 | _, _, .int k n => .int k n
 | _, _, .str s => .str s
 | _, _, .ah => .ah
 | _, _, .gb a c o h => .gb a c o h
 | _, _, .ap b off c own e cs xs he hx hn hle hc hr hm => .ap b off c own e cs xs he hx hn hle hc (hr.mono hs hL) (hm.mono hs)
 | _, _, .bf b off len cap id hl hc => .bf b off len cap id (fF hL hl) hc
 | _, _, .agg cs xs hr => .agg cs xs (hr.mono hs hL)
 | _, _, .tuple cs xs hr => .tuple cs xs (hr.mono hs hL)
 | _, _, .ptr b off id hl => .ptr b off id (fF hL hl)
 | _, _, .ai b off cs x hr hm => .ai b off cs x (hr.mono hs hL) (hm.mono hs)
 | _, _, .qR => .qR
 | _, _, .map b id hl => .map b id (fF hL hl)
 | _, _, .iD => .iD
 | _, _, .fn f fs cs xs ys h1 h2 => .fn f fs cs xs ys (h1.mono hs hL) (h2.mono hs hL)
 | _, _, .ft => .ft
 | _, _, .iface t v x h => .iface t v x (h.mono hs hL)
 | _, _, .wv => .wv
 | _, _, .mC b id hl => .mC b id (fF hL hl)
 | _, _, .oh a => .oh a
theorem aJ.mono {M M' : Mem} {L L' : List Nat} (hs : M.sub M') (hL : L <+: L') : ∀ {vs : List Value} {xs : List AV}, aJ M L vs xs → aJ M' L' vs xs
 | _, _, .nil => .nil
 | _, _, .cons v x vs xs h t => .cons v x vs xs (h.mono hs hL) (t.mono hs hL)
end
section
variable {M : Mem} {L : List Nat}
theorem aJ.length : ∀ {vs : List Value} {xs : List AV}, aJ M L vs xs → vs.length = xs.length
 | _, _, .nil => rfl
 | _, _, .cons _ _ _ _ _ t => by simp [t.length]
theorem aJ.get : ∀ {vs : List Value} {xs : List AV}, aJ M L vs xs → ∀ (j : Nat) (x : AV), xs[j]? = some x → ∃ v, vs[j]? = some v ∧ aR M L v x
 | _, _, .nil, j, x, h => by simp at h
 | _, _, .cons v y vs xs h t, 0, x, hx => by simp at hx; subst hx; exact ⟨v, by simp, h⟩
 | _, _, .cons v y vs xs h t, j + 1, x, hx => by
   obtain ⟨u, hu, hr⟩ := t.get j x (by simpa using hx)
   exact ⟨u, by simpa using hu, hr⟩
theorem aJ.append : ∀ {vs : List Value} {xs : List AV}, aJ M L vs xs → ∀ {us : List Value} {ys : List AV}, aJ M L us ys → aJ M L (vs ++ us) (xs ++ ys)
 | _, _, .nil, _, _, h2 => h2
 | _, _, .cons v x vs xs h t, _, _, h2 => .cons v x _ _ h (t.append h2)
theorem aJ.take : ∀ {vs : List Value} {xs : List AV}, aJ M L vs xs → ∀ n, aJ M L (vs.take n) (xs.take n)
 | _, _, .nil, n => by simp; exact .nil
 | _, _, .cons v x vs xs h t, 0 => .nil
 | _, _, .cons v x vs xs h t, n + 1 => .cons v x _ _ h (t.take n)
theorem aJ.drop : ∀ {vs : List Value} {xs : List AV}, aJ M L vs xs → ∀ n, aJ M L (vs.drop n) (xs.drop n)
 | _, _, .nil, n => by simp; exact .nil
 | _, _, .cons v x vs xs h t, 0 => .cons v x _ _ h t
 | _, _, .cons v x vs xs h t, n + 1 => t.drop n
theorem aJ.set : ∀ {vs : List Value} {xs : List AV}, aJ M L vs xs → ∀ {u : Value} {y : AV}, aR M L u y → ∀ n, aJ M L (vs.set n u) (xs.set n y)
 | _, _, .nil, _, _, _, n => by simp; exact .nil
 | _, _, .cons v x vs xs h t, u, y, hu, 0 => .cons u y _ _ hu t
 | _, _, .cons v x vs xs h t, u, y, hu, n + 1 => .cons v x _ _ h (t.set hu n)
theorem aJ.yC : ∀ {vs : List Value} {xs : List AV}, vs.length = xs.length → (∀ (j : Nat) (x : AV), xs[j]? = some x → ∃ v, vs[j]? = some v ∧ aR M L v x) → aJ M L vs xs
 | [], [], _, _ => .nil
 | [], _ :: _, h, _ => by simp at h
 | _ :: _, [], h, _ => by simp at h
 | v :: vs, x :: xs, h, H => by
   obtain ⟨u, hu, hr⟩ := H 0 x rfl
   simp at hu; subst hu
   exact .cons v x vs xs hr (.yC (by simpa using h) (fun j y hy => by obtain ⟨u, hu, hr⟩ := H (j + 1) y (by simpa using hy); exact ⟨u, by simpa using hu, hr⟩))
theorem aJ.one {v : Value} {x : AV} (h : aR M L v x) : aJ M L [v] [x] := .cons _ _ _ _ h .nil
theorem aJ.EI {vs : List Value} {x : AV} (h : aJ M L vs [x]) : ∃ v, vs = [v] ∧ aR M L v x := by
 cases h with
 | cons v x vs xs h t => cases t with | nil => exact ⟨v, rfl, h⟩
theorem aJ.getD {vs : List Value} {xs : List AV} (h : aJ M L vs xs) (j : Nat) : aR M L (vs.getD j undef) (xs.getD j .any) := by
 rcases Nat.lt_or_ge j xs.length with hj | hj
 ·obtain ⟨v, hv, hr⟩ := h.get j xs[j] (by simp [hj])
  rw [List.getD_eq_getElem?_getD, List.getD_eq_getElem?_getD, hv]
  simpa [hj] using hr
 ·rw [List.getD_eq_getElem?_getD, List.getD_eq_getElem?_getD, List.getElem?_eq_none hj]
  exact .any _
end
def AV.ab : AV → AV
 | .ap _ xs => .ap 0 xs
 | x => x
def AV.drop : AV → AV
 | .ap _ xs => .ap 0 xs
 | .ah => .ap 0 []
 | x => x
theorem aR.C2 {M : Mem} {L : List Nat} {v : Value} {o o' : Nat} {xs : List AV} (h : aR M L v (.ap o xs)) : aR M L v (.ap o' xs) := by
 cases h with
 | gb a c _ hc => exact .gb a c o' hc
 | ap b off c _ e cs _ he hx hn hle hc hr hm => exact .ap b off c o' e cs xs he hx hn hle hc hr hm
theorem aR.ab {M : Mem} {L : List Nat} {v : Value} {x : AV} (h : aR M L v x) : aR M L v x.ab := by
 cases x <;> first | exact h | exact h.C2
theorem aR.drop {M : Mem} {L : List Nat} {v : Value} {x : AV} (h : aR M L v x) : aR M L v x.drop := by
 cases x <;> first | exact h | exact h.C2 | (cases h; exact .gb _ _ _ (by decide))
theorem aJ.map_drop {M : Mem} {L : List Nat} : ∀ {vs : List Value} {xs : List AV}, aJ M L vs xs → aJ M L vs (xs.map AV.drop)
 | _, _, .nil => .nil
 | _, _, .cons v x vs xs h t => .cons v _ _ _ h.drop t.map_drop
def AV.one : AV → Bool
 | .any => false
 | .agg _ => false
 | .tuple _ => false
 | _ => true
theorem aR.gf {M : Mem} {L : List Nat} {v : Value} {x : AV} (h : aR M L v x) (h1 : x.one = true) : v.oneCell' = true := by
 cases h <;> first | rfl | simp [AV.one] at h1
theorem aJ.gf {M : Mem} {L : List Nat} : ∀ {vs : List Value} {xs : List AV}, aJ M L vs xs → xs.all AV.one = true → ∀ v ∈ vs, v.oneCell' = true
 | _, _, .nil, _, v, hv => by simp at hv
 | _, _, .cons u x vs xs h t, h1, v, hv => by
   simp only [List.all_cons, Bool.and_eq_true] at h1
   rcases List.mem_cons.1 hv with rfl | hv
   ·exact h.gf h1.1
   ·exact t.gf h1.2 v hv
mutual
def AV.a7 (n : Nat) : AV → Bool
 | .bf id _ _ _ => id < n
 | .ptr id _ => id < n
 | .map id => id < n
 | .mC id => id < n
 | .ap _ xs => aj n xs
 | .agg xs => aj n xs
 | .tuple xs => aj n xs
 | .ai x => x.a7 n
 | .fn _ xs ys => aj n xs && aj n ys
 | .iface _ x => x.a7 n
 | _ => true
def aj (n : Nat) : List AV → Bool
 | [] => true
 | x :: xs => x.a7 n && aj n xs
end
theorem a9 (n : Nat) : ∀ xs : List AV, aj n xs = true ↔ ∀ x ∈ xs, x.a7 n = true
 | [] => by simp [aj]
 | x :: xs => by simp [aj, a9 n xs]
theorem jM {L : List Nat} {id n b : Nat} (h : L[id]? = some b) (hn : id < n) : (L.take n)[id]? = some b := by
 rw [List.getElem?_take]; simp [hn, h]
theorem cn {n : Nat} {x : AV} (h : x.a7 n = true) : aj n x.cells = true := by
 cases x <;> simp_all [AV.cells, AV.a7, aj]
theorem si {n : Nat} : ∀ {xs : List AV}, aj n xs = true → aj n (flat xs) = true
 | [], _ => rfl
 | x :: xs, h => by
   simp only [aj, Bool.and_eq_true] at h
   have h1 := cn h.1
   have h2 := si h.2
   rw [a9] at *
   intro y hy
   simp only [flat, List.flatMap_cons, List.mem_append] at hy
   rcases hy with hy | hy
   ·exact h1 y hy
   ·exact h2 y hy
mutual
theorem aR.fP {M : Mem} {L : List Nat} {n : Nat} : ∀ {v : Value} {x : AV}, aR M L v x → x.a7 n = true → aR M (L.take n) v x
 | _, _, .any v, _ => .any v
 | _, _, .bool b, _ => .bool b
 | _, _, .int k n, _ => .int k n
 | _, _, .str s, _ => .str s
 | _, _, .ah, _ => .ah
 | _, _, .gb a c o h, _ => .gb a c o h
 | _, _, .ap b off c own e cs xs he hx hn hle hc hr hm, h => .ap b off c own e cs xs he hx hn hle hc (hr.fP (si (by simpa [AV.a7] using h))) hm
 | _, _, .bf b off len cap id hl hc, h => .bf b off len cap id (jM hl (by simpa [AV.a7] using h)) hc
 | _, _, .agg cs xs hr, h => .agg cs xs (hr.fP (by simpa [AV.a7] using h))
 | _, _, .tuple cs xs hr, h => .tuple cs xs (hr.fP (by simpa [AV.a7] using h))
 | _, _, .ptr b off id hl, h => .ptr b off id (jM hl (by simpa [AV.a7] using h))
 | _, _, .ai b off cs x hr hm, h => .ai b off cs x (hr.fP (cn (by simpa [AV.a7] using h))) hm
 | _, _, .qR, _ => .qR
 | _, _, .map b id hl, h => .map b id (jM hl (by simpa [AV.a7] using h))
 | _, _, .iD, _ => .iD
 | _, _, .fn f fs cs xs ys h1 h2, h => by
   simp only [AV.a7, Bool.and_eq_true] at h
   exact .fn f fs cs xs ys (h1.fP h.1) (h2.fP h.2)
 | _, _, .ft, _ => .ft
 | _, _, .iface t v x h, hb => .iface t v x (h.fP (by simpa [AV.a7] using hb))
 | _, _, .wv, _ => .wv
 | _, _, .mC b id hl, h => .mC b id (jM hl (by simpa [AV.a7] using h))
 | _, _, .oh a, _ => .oh a
theorem aJ.fP {M : Mem} {L : List Nat} {n : Nat} : ∀ {vs : List Value} {xs : List AV}, aJ M L vs xs → aj n xs = true → aJ M (L.take n) vs xs
 | _, _, .nil, _ => .nil
 | _, _, .cons v x vs xs h t, hb => by
   simp only [aj, Bool.and_eq_true] at hb
   exact .cons v x vs xs (h.fP hb.1) (t.fP hb.2)
end
theorem aM {α : Type} {L : List α} {id : Nat} {b : α} (h : L[id]? = some b) : id < L.length := (List.getElem?_eq_some_iff.1 h).1
mutual
theorem AV.cE {m k : Nat} (h : m ≤ k) : ∀ (x : AV), x.a7 m = true → x.a7 k = true
 | .any, _ => rfl
 | .bool _, _ => rfl
 | .int _ _, _ => rfl
 | .str _, _ => rfl
 | .ah, _ => rfl
 | .ap _ xs, hb => by simp only [AV.a7] at hb ⊢; exact bF h xs hb
 | .bf _ _ _ _, hb => by simp only [AV.a7, decide_eq_true_eq] at hb ⊢; omega
 | .agg xs, hb => by simp only [AV.a7] at hb ⊢; exact bF h xs hb
 | .tuple xs, hb => by simp only [AV.a7] at hb ⊢; exact bF h xs hb
 | .ptr _ _, hb => by simp only [AV.a7, decide_eq_true_eq] at hb ⊢; omega
 | .ai x, hb => by simp only [AV.a7] at hb ⊢; exact AV.cE h x hb
 | .qR, _ => rfl
 | .map _, hb => by simp only [AV.a7, decide_eq_true_eq] at hb ⊢; omega
 | .iD, _ => rfl
 | .fn _ xs ys, hb => by
   simp only [AV.a7, Bool.and_eq_true] at hb ⊢
   exact ⟨bF h xs hb.1, bF h ys hb.2⟩
 | .ft, _ => rfl
 | .iface _ x, hb => by simp only [AV.a7] at hb ⊢; exact AV.cE h x hb
 | .wv, _ => rfl
 | .mC _, hb => by simp only [AV.a7, decide_eq_true_eq] at hb ⊢; omega
 | .oh, _ => rfl
theorem bF {m k : Nat} (h : m ≤ k) : ∀ (xs : List AV), aj m xs = true → aj k xs = true
 | [], _ => rfl
 | x :: xs, hb => by
   simp only [aj, Bool.and_eq_true] at hb ⊢
   exact ⟨AV.cE h x hb.1, bF h xs hb.2⟩
end
abbrev AF := List (Nat × Nat × Nat)
abbrev l7 := List (Nat × List Nat)
inductive wx where
 | done
 | take (i : Nat) (st : Bool) (r : wx)
 | br (i : Nat) (t rest : wx)
 | nil
 deriving Inhabited
abbrev l8 := List (Nat × wx)
structure ig where
 n : Nat
 ps : List Nat
 as : Code
 bd : Code
 an : AF
 lv : l7
 pl : l8
inductive S8 where
 | ready
 | busy
 | jump (c : Code)
 | ew
def S8.ok (st : S8) (r : Loop) : Prop :=
 match st with
 | .ready => r.state = .ready ∧ r.pending = none
 | .busy => r.state = .busy
 | .jump c => r.state = .done ∧ r.pending = some c
 | .ew => True
inductive aa where
 | dead
 | cells (es : List AV)
 | map (es : List (AV × AV))
 | H6 (s : ByteArray) (pos : Nat)
 | loop (st : S8) (lc : ig) (es : List AV)
 deriving Inhabited
def aa.a7 (n : Nat) : aa → Bool
 | .cells es => aj n es
 | .map es => aj n (es.map (·.1)) && aj n (es.map (·.2))
 | .loop _ _ es => aj n es
 | _ => true
theorem aa.cE {m k : Nat} (h : m ≤ k) (o : aa) (ho : o.a7 m = true) : o.a7 k = true := by
 cases o <;> simp only [aa.a7, Bool.and_eq_true] at ho ⊢
 ·exact bF h _ ho
 ·exact ⟨bF h _ ho.1, bF h _ ho.2⟩
 ·exact bF h _ ho
def yD (M : Mem) (L : List Nat) (w : World) (b : Nat) : aa → Prop
 | .dead => True
 | .cells es => ∃ cs e, w.heap[b]? = some (.cells cs e (0, 0)) ∧ aJ M L cs.toList es ∧ ∀ o, M b o = none
 | .map es => ∃ ents ck, w.heap[b]? = some (.map ents ck) ∧ aJ M L (ents.toList.map (·.key)) (es.map (·.1)) ∧ aJ M L (ents.toList.map (·.val)) (es.map (·.2))
 | .H6 s pos => w.heap[b]? = some (.stringIter s pos)
 | .loop st lc es => ∃ r, w.heap[b]? = some (.loop r) ∧ r.params = lc.ps.toArray ∧ r.assign = lc.as ∧ r.body = lc.bd ∧ aJ M L r.tmps.toList es ∧ st.ok r
theorem yD.mono {M M' : Mem} {L L' : List Nat} {w w' : World} {b : Nat} {o : aa} (h : yD M L w b o) (hs : M.sub M') (hL : L <+: L')
 (hw : w'.heap[b]? = w.heap[b]?) (hM : ∀ o, M' b o = M b o) : yD M' L' w' b o := by
 cases o with
 | dead => trivial
 | cells es =>
   obtain ⟨cs, e, h1, h2, h3⟩ := h
   exact ⟨cs, e, hw.trans h1, h2.mono hs hL, fun o => (hM o).trans (h3 o)⟩
 | map es =>
   obtain ⟨ents, ck, h1, h2, h3⟩ := h
   exact ⟨ents, ck, hw.trans h1, h2.mono hs hL, h3.mono hs hL⟩
 | H6 s pos => exact hw.trans h
 | loop st lc es =>
   obtain ⟨r, h1, h2, h3, h4, h5, h6⟩ := h
   exact ⟨r, hw.trans h1, h2, h3, h4, h5.mono hs hL, h6⟩
theorem yD.fP {M : Mem} {L : List Nat} {w : World} {b n : Nat} {o : aa} (h : yD M L w b o) (hb : o.a7 n = true) : yD M (L.take n) w b o := by
 cases o with
 | dead => trivial
 | cells es =>
   obtain ⟨cs, e, h1, h2, h3⟩ := h
   exact ⟨cs, e, h1, h2.fP (by simpa [aa.a7] using hb), h3⟩
 | map es =>
   obtain ⟨ents, ck, h1, h2, h3⟩ := h
   simp only [aa.a7, Bool.and_eq_true] at hb
   exact ⟨ents, ck, h1, h2.fP hb.1, h3.fP hb.2⟩
 | H6 s pos => exact h
 | loop st lc es =>
   obtain ⟨r, h1, h2, h3, h4, h5, h6⟩ := h
   exact ⟨r, h1, h2, h3, h4, h5.fP (by simpa [aa.a7] using hb), h6⟩
inductive Pos where
 | t (i : Nat)
 | c (id j : Nat)
 deriving DecidableEq
def Lv (fr : Nat × Nat) (n : Nat) : Prop := ∀ j, j < n → ¬ (fr.1 ≤ j ∧ j < fr.2)
theorem nD (n : Nat) : Lv (0, 0) n := fun j _ h => by simp at h
def bb (M : Mem) (w : World) (v : Value) (x : AV) (ob : Option Nat) : Prop :=
 match x with
 | .ap own xs => if own = 0 then ob = none else
    (∀ y ∈ xs, y.cells.length = own) ∧ ((ob = none ∧ ∃ a n, v = .slice a n n) ∨
    ∃ b off n c cs e fr, ob = some b ∧ v = .slice (some ⟨b, off, none⟩) n c ∧ w.heap[b]? = some (.cells cs e fr) ∧ Lv fr cs.size ∧ off + c * own ≤ cs.size ∧ ∀ k, n * own ≤ k → k < c * own → M b (off + k) = none)
 | _ => ob = none
theorem bb.mono {M M' : Mem} {w w' : World} {v : Value} {x : AV} {ob : Option Nat} (h : bb M w v x ob)
 (hw : ∀ b, ob = some b → w'.heap[b]? = w.heap[b]? ∧ ∀ o, M' b o = M b o) : bb M' w' v x ob := by
 cases x <;> first | exact h | skip
 rename_i own xs
 unfold bb at *
 simp only at *
 split
 ·rename_i h0; simp only [h0, if_true] at h; exact h
 ·rename_i h0
  simp only [h0, if_false] at h
  refine ⟨h.1, ?_⟩
  rcases h.2 with h | ⟨b, off, n, c, cs, e, fr, h1, h2, h3, h4, h5, h6⟩
  ·exact .inl h
  ·obtain ⟨hb, hm⟩ := hw b h1
   exact .inr ⟨b, off, n, c, cs, e, fr, h1, h2, hb.trans h3, h4, h5, fun k hk PN => (hm _).trans (h6 k hk PN)⟩
def bJ (L : List Nat) (w : World) (id j : Nat) : Value :=
 match L[id]? with
 | some b => (w.cell? ⟨b, j, none⟩).getD undef
 | none => undef
def bp (H : List aa) (id j : Nat) : AV :=
 match H[id]? with
 | some (.cells es) => es.getD j .any
 | _ => .any
structure Perm where
 wr : Nat → Prop
 top : Nat → Option Nat
 ok : ∀ id n, top id = some n → id < n
 base : Nat := 0
instance : CoeFun Perm fun _ => Nat → Prop := ⟨Perm.wr⟩
def Perm.jb (A : Perm) (len id : Nat) : Nat := match A.top id with | some n => min n len | none => len
theorem Perm.ua (A : Perm) (len id : Nat) : A.jb len id ≤ len := by unfold Perm.jb; split <;> omega
theorem Perm.k7 (A : Perm) {len id : Nat} (h : id < len) : id + 1 ≤ A.jb len id := by
 unfold Perm.jb
 split
 ·rename_i n hn; have := A.ok _ _ hn; omega
 ·omega
theorem Perm.AG (A : Perm) {len len' : Nat} (h : len ≤ len') (id : Nat) : A.jb len id ≤ A.jb len' id := by unfold Perm.jb; split <;> omega
theorem Perm.Lw (A : Perm) (len : Nat) : A.jb (len + 1) len = len + 1 := by
 have h1 := A.k7 (len := len + 1) (id := len) (by omega)
 have h2 := A.ua (len + 1) len
 omega
structure St (A : Perm) (M : Mem) (L : List Nat) (w : World) (H : List aa) (ev : Nat → Value) (ea : Nat → AV) (O : Pos → Option Nat) : Prop where
 len : L.length = H.length
 nodup : L.Nodup
 env : ∀ t, aR M L (ev t) (ea t)
 mem : ∀ b o v, M b o = some v → w.cell? ⟨b, o, none⟩ = some v
 obj : ∀ (id : Nat) (o : aa) (b : Nat), H[id]? = some o → L[id]? = some b → yD M L w b o
 bB : ∀ (id : Nat) (o : aa), H[id]? = some o → o.a7 (A.jb H.length id) = true
 lt : ∀ b ∈ L, b < w.heap.size
 gH : ∀ t, bb M w (ev t) (ea t) (O (.t t))
 gE : ∀ id j, bb M w (bJ L w id j) (bp H id j) (O (.c id j))
 bY : ∀ p q b, O p = some b → O q = some b → p = q
 cc : ∀ p b, O p = some b → b ∉ L
 eT : ∀ p b, O p = some b → b < w.heap.size
 La : ∀ b ∈ L, A b
 Oa : ∀ p b, O p = some b → A b
 fresh : ∀ b, w.heap.size ≤ b → A b
structure Ext (A : Perm) (M : Mem) (w : World) (M' : Mem) (w' : World) : Prop where
 kw : M.sub M'
 size : w.heap.size ≤ w'.heap.size
 os : w'.os = w.os
 tape : w'.tape = w.tape
 output : w'.output = w.output
 jX : ∀ b, b < w.heap.size → ¬ A b → w'.heap[b]? = w.heap[b]? ∧ ∀ o, M' b o = M b o
 loops : ∀ (b : Nat) (r : Loop), w.heap[b]? = some (.loop r) → ∃ r', w'.heap[b]? = some (.loop r') ∧ r'.defers = r.defers
theorem Ext.refl (A : Perm) (M : Mem) (w : World) : Ext A M w M w := ⟨Mem.bM M, Nat.le_refl _, rfl, rfl, rfl, fun _ _ _ => ⟨rfl, fun _ => rfl⟩, fun b r h => ⟨r, h, rfl⟩⟩
theorem Ext.trans {A : Perm} {M M1 M2 : Mem} {w w1 w2 : World} (h : Ext A M w M1 w1) (k : Ext A M1 w1 M2 w2) : Ext A M w M2 w2 :=
 ⟨Mem.FY h.kw k.kw, Nat.le_trans h.size k.size, k.os.trans h.os, k.tape.trans h.tape, k.output.trans h.output, fun b hb hA => by
   obtain ⟨h1, h2⟩ := h.jX b hb hA
   obtain ⟨k1, k2⟩ := k.jX b (Nat.lt_of_lt_of_le hb h.size) hA
   exact ⟨k1.trans h1, fun o => (k2 o).trans (h2 o)⟩, fun b r hr => by
   obtain ⟨r1, h1, e1⟩ := h.loops b r hr
   obtain ⟨r2, h2, e2⟩ := k.loops b r1 h1
   exact ⟨r2, h2, e2.trans e1⟩⟩
end Go.aK
end
section
namespace Go.aK
open Go
def fe {α : Type} (f : Nat → α) (d : Nat) (v : α) : Nat → α := fun t => if t = d then v else f t
def dV (O : Pos → Option Nat) (p : Pos) (ob : Option Nat) : Pos → Option Nat := fun q => if q = p then ob else O q
theorem H7 {α : Type} (f : Nat → α) (d : Nat) (v : α) : fe f d v d = v := by simp [fe]
section
variable {A : Perm} {M : Mem} {L : List Nat} {w : World} {H : List aa} {ev : Nat → Value} {ea : Nat → AV} {O : Pos → Option Nat}
theorem St.put (h : St A M L w H ev ea O) (d : Nat) {v : Value} {x : AV} (hr : aR M L v x) (ob : Option Nat) (hs : bb M w v x ob)
 (h1 : ∀ p b, ob = some b → O p = some b → p = .t d) (h2 : ∀ b, ob = some b → b ∉ L ∧ b < w.heap.size ∧ A b) :
 St A M L w H (fe ev d v) (fe ea d x) (dV O (.t d) ob) where
 len := h.len
 nodup := h.nodup
 env t := by
  by_cases e : t = d
  ·subst e; simpa [fe] using hr
  ·simpa [fe, e] using h.env t
 mem := h.mem
 obj := h.obj
 bB := h.bB
 lt := h.lt
 gH t := by
  by_cases e : t = d
  ·subst e; simpa [fe, dV] using hs
  ·simpa [fe, dV, e] using h.gH t
 gE id j := by simpa [dV] using h.gE id j
 bY p q b hp hq := by
  simp only [dV] at hp hq
  split at hp <;> split at hq
  ·simp_all
  ·rename_i e1 e2; exact absurd (h1 q b hp hq) e2
  ·rename_i e1 e2; exact absurd (h1 p b hq hp) e1
  ·exact h.bY p q b hp hq
 cc p b hp := by
  simp only [dV] at hp
  split at hp
  ·exact (h2 b hp).1
  ·exact h.cc p b hp
 eT p b hp := by
  simp only [dV] at hp
  split at hp
  ·exact (h2 b hp).2.1
  ·exact h.eT p b hp
 La := h.La
 Oa p b hp := by
  simp only [dV] at hp
  split at hp
  ·exact (h2 b hp).2.2
  ·exact h.Oa p b hp
 fresh := h.fresh
theorem bb.free {v : Value} {x : AV} (hx : ∀ own xs, x = .ap own xs → own = 0) : bb M w v x none := by
 cases x <;> first | rfl | skip
 rename_i own xs
 have := hx own xs rfl
 simp [bb, this]
theorem AV.bI (x : AV) : ∀ own xs, x.ab = .ap own xs → own = 0 := by
 intro own xs h
 cases x <;> simp_all [AV.ab]
theorem AV.jc (x : AV) : ∀ own xs, x.drop = .ap own xs → own = 0 := by
 intro own xs h
 cases x <;> simp_all [AV.drop]
theorem St.ol (h : St A M L w H ev ea O) (d : Nat) {v : Value} {x : AV} (hr : aR M L v x) (hx : ∀ own xs, x = .ap own xs → own = 0) :
 St A M L w H (fe ev d v) (fe ea d x) (dV O (.t d) none) :=
 h.put d hr none (bb.free hx) (fun p b e => by cases e) (fun b e => by cases e)
theorem St.congr (h : St A M L w H ev ea O) {ev' : Nat → Value} {ea' : Nat → AV} (h1 : ∀ t, ev' t = ev t) (h2 : ∀ t, ea' t = ea t) : St A M L w H ev' ea' O := by
 rw [show ev' = ev from funext h1, show ea' = ea from funext h2]; exact h
theorem St.grow (h : St A M L w H ev ea O) {M' : Mem} {w' : World} (hs : M.sub M') (iE : ∀ b o v, M' b o = some v → w'.cell? ⟨b, o, none⟩ = some v)
 (cT : w.heap.size ≤ w'.heap.size) (hw : ∀ b, b < w.heap.size → w'.heap[b]? = w.heap[b]?) (hM : ∀ b, b < w.heap.size → ∀ o, M' b o = M b o) : St A M' L w' H ev ea O where
 len := h.len
 nodup := h.nodup
 env t := (h.env t).mono hs (List.prefix_refl _)
 mem := iE
 obj id o b ho hb := by
  have aY := h.lt b (List.mem_of_getElem? hb)
  exact (h.obj id o b ho hb).mono hs (List.prefix_refl _) (hw b aY) (hM b aY)
 bB := h.bB
 lt b hb := Nat.lt_of_lt_of_le (h.lt b hb) cT
 gH t := (h.gH t).mono fun b hb => ⟨hw b (h.eT _ b hb), hM b (h.eT _ b hb)⟩
 gE id j := by
  have e : bJ L w' id j = bJ L w id j := by
   unfold bJ
   split
   ·rename_i b hb
    have aY := h.lt b (List.mem_of_getElem? hb)
    simp [World.cell?, hw b aY]
   ·rfl
  rw [e]
  exact (h.gE id j).mono fun b hb => ⟨hw b (h.eT _ b hb), hM b (h.eT _ b hb)⟩
 bY := h.bY
 cc := h.cc
 eT p b hp := Nat.lt_of_lt_of_le (h.eT p b hp) cT
 La := h.La
 Oa := h.Oa
 fresh b hb := h.fresh b (Nat.le_trans cT hb)
theorem Ext.grow {M' : Mem} {w' : World} (hs : M.sub M') (cT : w.heap.size ≤ w'.heap.size) (hos : w'.os = w.os) (htape : w'.tape = w.tape) (H8 : w'.output = w.output)
 (hw : ∀ b, b < w.heap.size → w'.heap[b]? = w.heap[b]?) (hM : ∀ b, b < w.heap.size → ∀ o, M' b o = M b o) : Ext A M w M' w' :=
 ⟨hs, cT, hos, htape, H8, fun b hb _ => ⟨hw b hb, hM b hb⟩, fun b r h => ⟨r, (hw b (Array.getElem?_eq_some_iff.1 h).1).trans h, rfl⟩⟩
theorem St.drew (h : St A M L w H ev ea O) : St A M L { w with drawn := w.drawn + 1 } H ev ea O :=
 h.grow (Mem.bM M) (fun b o v hv => h.mem b o v hv) (Nat.le_refl _) (fun _ _ => rfl) (fun _ _ _ => rfl)
theorem Ext.drew : Ext A M w M { w with drawn := w.drawn + 1 } := Ext.grow (Mem.bM M) (Nat.le_refl _) rfl rfl rfl (fun _ _ => rfl) (fun _ _ _ => rfl)
theorem nE (h : St A M L w H ev ea O) {b : Nat} (hb : w.heap.size ≤ b) (o : Nat) : M b o = none := by
 cases hm : M b o with
 | none => rfl
 | some v =>
   have := h.mem b o v hm
   simp [World.cell?, Array.getElem?_eq_none hb] at this
def Mem.add (M : Mem) (b : Nat) (cs : List Value) : Mem := fun b' o => if b' = b then cs[o]? else M b' o
theorem dW (w : World) (o : Obj) {b : Nat} (hb : b < w.heap.size) : (w.heap.push o)[b]? = w.heap[b]? := by
 rw [Array.getElem?_push, if_neg (by omega)]
theorem dA (w : World) (o : Obj) : (w.heap.push o)[w.heap.size]? = some o := by simp
theorem St.pA (h : St A M L w H ev ea O) (cs : Array Value) (e : TypeId) (fr : Nat × Nat) (rw : List Value) (hrw : ∀ (j : Nat) (v : Value), rw[j]? = some v → cs[j]? = some v) :
 St A (M.add w.heap.size rw) L { w with heap := w.heap.push (.cells cs e fr) } H ev ea O ∧ Ext A M w (M.add w.heap.size rw) { w with heap := w.heap.push (.cells cs e fr) } ∧
 (M.add w.heap.size rw).row w.heap.size 0 rw := by
 have fG : M.sub (M.add w.heap.size rw) := by
  intro b o v hv
  have dS : b ≠ w.heap.size := by
   rintro rfl
   rw [nE h (Nat.le_refl _)] at hv; cases hv
  simp [Mem.add, dS, hv]
 have hM : ∀ b, b < w.heap.size → ∀ o, (M.add w.heap.size rw) b o = M b o := fun b hb o => by simp [Mem.add, show b ≠ w.heap.size by omega]
 refine ⟨h.grow fG ?_ (by simp) (fun b hb => dW w _ hb) hM, Ext.grow fG (by simp) rfl rfl rfl (fun b hb => dW w _ hb) hM, ?_⟩
 ·intro b o v hv
  by_cases e0 : b = w.heap.size
  ·subst e0
   simp only [Mem.add, if_true] at hv
   simp only [World.cell?, dA]
   simpa using hrw o v hv
  ·simp only [Mem.add, e0, if_false] at hv
   have := h.mem b o v hv
   have aY : b < w.heap.size := by
    rcases Nat.lt_or_ge b w.heap.size with h' | h'
    ·exact h'
    ·rw [nE h h'] at hv; cases hv
   simp only [World.cell?] at this ⊢
   rw [dW w _ aY]; exact this
 ·intro j v hv
  simpa [Mem.add] using hv
theorem St.C3 (h : St A M L w H ev ea O) (cs : Array Value) (e : TypeId) :
 St A (M.add w.heap.size cs.toList) L { w with heap := w.heap.push (.cells cs e) } H ev ea O ∧ Ext A M w (M.add w.heap.size cs.toList) { w with heap := w.heap.push (.cells cs e) } ∧
 (M.add w.heap.size cs.toList).row w.heap.size 0 cs.toList :=
 h.pA cs e (0, 0) cs.toList (fun j v hv => by simpa using hv)
def yE (ob : Obj) (j : Nat) : Value := match ob with | .cells cs _ _ => (cs[j]?).getD undef | _ => undef
def mD (ao : aa) (j : Nat) : AV := match ao with | .cells es => es.getD j .any | _ => .any
theorem St.qS (h : St A M L w H ev ea O) (ob : Obj) (ao : aa) (PO : ∀ w', w'.heap[w.heap.size]? = some ob → (∀ o, M w.heap.size o = none) → yD M (L ++ [w.heap.size]) w' w.heap.size ao)
 (hb : ao.a7 (H.length + 1) = true) (K6 : ∀ j, bb M w (yE ob j) (mD ao j) none) :
 St A M (L ++ [w.heap.size]) { w with heap := w.heap.push ob } (H ++ [ao]) ev ea O ∧ Ext A M w M { w with heap := w.heap.push ob } := by
 have k8 : L <+: L ++ [w.heap.size] := ⟨_, rfl⟩
 have hO : ∀ j, O (.c H.length j) = none := by
  intro j
  have := h.gE H.length j
  simp only [bp, List.getElem?_eq_none (Nat.le_refl _)] at this
  exact this
 have hkeep : ∀ b, b < w.heap.size → (w.heap.push ob)[b]? = w.heap[b]? := fun b hb => dW w _ hb
 refine ⟨?_, Ext.grow (Mem.bM M) (by simp) rfl rfl rfl hkeep (fun _ _ _ => rfl)⟩
 refine { len := by simp [h.len], nodup := ?_, env := fun t => (h.env t).mono (Mem.bM M) k8, mem := ?_, obj := ?_, bB := ?_, lt := ?_, gH := ?_, gE := ?_, bY := h.bY, cc := ?_, eT := ?_, La := ?_, Oa := h.Oa, fresh := ?_ }
 ·rw [List.nodup_append]
  refine ⟨h.nodup, by simp, ?_⟩
  intro a ha b dU
  simp at dU
  subst dU
  exact Nat.ne_of_lt (h.lt a ha)
 ·intro b o v hv
  have := h.mem b o v hv
  have aY : b < w.heap.size := by
   rcases Nat.lt_or_ge b w.heap.size with h' | h'
   ·exact h'
   ·rw [nE h h'] at hv; cases hv
  simp only [World.cell?] at this ⊢
  rw [hkeep b aY]; exact this
 ·intro id o b ho dU
  by_cases e : id < H.length
  ·rw [List.getElem?_append_left e] at ho
   rw [List.getElem?_append_left (by rw [h.len]; exact e)] at dU
   exact (h.obj id o b ho dU).mono (Mem.bM M) k8 (hkeep b (h.lt b (List.mem_of_getElem? dU))) (fun _ => rfl)
  ·rw [List.getElem?_append_right (by omega)] at ho
   rw [List.getElem?_append_right (by rw [h.len]; omega)] at dU
   have e0 : id - H.length = 0 := by
    have := (List.getElem?_eq_some_iff.1 ho).1
    simp at this; omega
   rw [e0] at ho
   rw [h.len, e0] at dU
   simp at ho dU
   subst ho; subst dU
   exact PO _ (dA w ob) (fun o => nE h (Nat.le_refl _) o)
 ·intro id o ho
  rw [List.length_append, List.length_singleton]
  by_cases e : id < H.length
  ·rw [List.getElem?_append_left e] at ho
   exact aa.cE (A.AG (Nat.le_succ _) id) o (h.bB id o ho)
  ·rw [List.getElem?_append_right (by omega)] at ho
   have e0 : id - H.length = 0 := by
    have := (List.getElem?_eq_some_iff.1 ho).1
    simp at this; omega
   rw [e0] at ho
   simp at ho
   subst ho
   rw [show id = H.length by omega, A.Lw]; exact hb
 ·intro b dU
  simp at dU ⊢
  rcases dU with dU | rfl
  ·have := h.lt b dU; omega
  ·omega
 ·intro t
  exact (h.gH t).mono fun b dU => ⟨hkeep b (h.eT _ b dU), fun _ => rfl⟩
 ·intro id j
  by_cases e : id < H.length
  ·have e1 : bJ (L ++ [w.heap.size]) { w with heap := w.heap.push ob } id j = bJ L w id j := by
    unfold bJ
    rw [List.getElem?_append_left (by rw [h.len]; exact e)]
    split
    ·rename_i b dU
     simp only [World.cell?]
     rw [hkeep b (h.lt b (List.mem_of_getElem? dU))]
    ·rfl
   have e2 : bp (H ++ [ao]) id j = bp H id j := by
    unfold bp
    rw [List.getElem?_append_left e]
   rw [e1, e2]
   exact (h.gE id j).mono fun b dU => ⟨hkeep b (h.eT _ b dU), fun _ => rfl⟩
  ·by_cases e0 : id = H.length
   ·subst e0
    rw [hO j]
    have e1 : bJ (L ++ [w.heap.size]) { w with heap := w.heap.push ob } H.length j = yE ob j := by
     unfold bJ
     rw [List.getElem?_append_right (by rw [h.len]; omega), h.len]
     simp only [Nat.sub_self, List.getElem?_cons_zero, World.cell?, dA]
     cases ob <;> simp [yE]
    have e2 : bp (H ++ [ao]) H.length j = mD ao j := by
     unfold bp
     rw [List.getElem?_append_right (Nat.le_refl _)]
     simp only [Nat.sub_self, List.getElem?_cons_zero]
     cases ao <;> rfl
    rw [e1, e2]
    exact (K6 j).mono fun b dU => by cases dU
   ·have hn : O (.c id j) = none := by
     have := h.gE id j
     simp only [bp, List.getElem?_eq_none (show H.length ≤ id by omega)] at this
     exact this
    rw [hn]
    have e2 : bp (H ++ [ao]) id j = .any := by
     unfold bp
     rw [List.getElem?_eq_none (by simp; omega)]
    rw [e2]; rfl
 ·intro p b hp iE
  simp at iE
  rcases iE with iE | rfl
  ·exact h.cc p b hp iE
  ·exact absurd (h.eT p _ hp) (Nat.lt_irrefl _)
 ·intro p b hp
  have := h.eT p b hp
  simp; omega
 ·intro b dU
  simp at dU
  rcases dU with dU | rfl
  ·exact h.La b dU
  ·exact h.fresh _ (Nat.le_refl _)
 ·intro b dU
  simp at dU
  exact h.fresh b (by omega)
structure ub (O O' : Pos → Option Nat) : Prop where
 inj : ∀ p q b, O' p = some b → O' q = some b → p = q
 Ov : ∀ p b, O' p = some b → ∃ q, O q = some b
theorem St.write (h : St A M L w H ev ea O) {id b : Nat} {es es' : List AV} {cs cs' : Array Value} {e : TypeId} {ea' : Nat → AV} {O' : Pos → Option Nat} (bm : H[id]? = some (.cells es)) (hL : L[id]? = some b)
 (hc : w.heap[b]? = some (.cells cs e (0, 0))) (hr : aJ M L cs'.toList es') (nF : aj (A.jb H.length id) es' = true) (hm : ub O O') (C4 : ∀ t, aR M L (ev t) (ea' t))
 (gH : ∀ t, bb M w (ev t) (ea' t) (O' (.t t))) (gE : ∀ j, bb M w ((cs'[j]?).getD undef) (es'.getD j .any) (O' (.c id j))) (spo : ∀ id' j, id' ≠ id → O' (.c id' j) = O (.c id' j)) :
 St A M L (w.setRow b cs') (H.set id (.cells es')) ev ea' O' ∧ Ext A M w M (w.setRow b cs') := by
 have xe : b ∈ L := List.mem_of_getElem? hL
 have cT : (w.setRow b cs').heap.size = w.heap.size := by simp [World.setRow]
 have fH : ∀ k, k ≠ b → (w.setRow b cs').heap[k]? = w.heap[k]? := by
  intro k hk
  simp only [World.setRow, Array.getElem?_modify]
  rw [if_neg (fun e => hk e.symm)]
 have mh : (w.setRow b cs').heap[b]? = some (.cells cs' e (0, 0)) := by
  simp only [World.setRow, Array.getElem?_modify, if_true, hc, Option.map_some]
 obtain ⟨_, _, _, _, S9⟩ := h.obj id _ b bm hL
 have pB : id < H.length := aM bm
 have howns : ∀ p k, O' p = some k → (w.setRow b cs').heap[k]? = w.heap[k]? := by
  intro p k hp
  obtain ⟨q, hq⟩ := hm.Ov p k hp
  exact fH k (fun e0 => h.cc q k hq (e0 ▸ xe))
 refine ⟨{ len := by simp [h.len], nodup := h.nodup, env := C4, mem := ?_, obj := ?_, bB := ?_, lt := ?_, gH := ?_, gE := ?_, bY := hm.inj, cc := ?_, eT := ?_, La := h.La, Oa := ?_, fresh := ?_ }, ?_⟩
 ·intro k o v hv
  have hk : k ≠ b := by rintro rfl; rw [S9 o] at hv; cases hv
  have := h.mem k o v hv
  simp only [World.cell?] at this ⊢
  rw [fH k hk]; exact this
 ·intro id' o k ho hk
  by_cases e0 : id' = id
  ·subst e0
   rw [hL] at hk; cases hk
   rw [List.getElem?_set_self pB] at ho
   cases ho
   exact ⟨cs', e, mh, hr, S9⟩
  ·rw [List.getElem?_set_ne (fun h' => e0 h'.symm)] at ho
   have CW : k ≠ b := by
    rintro rfl
    exact e0 ((List.getElem?_inj (aM hk) h.nodup).1 (hk.trans hL.symm))
   exact (h.obj id' o k ho hk).mono (Mem.bM M) (List.prefix_refl _) (fH k CW) (fun _ => rfl)
 ·intro id' o ho
  rw [List.length_set]
  by_cases e0 : id' = id
  ·subst e0
   rw [List.getElem?_set_self pB] at ho
   cases ho
   simpa [aa.a7] using nF
  ·rw [List.getElem?_set_ne (fun h' => e0 h'.symm)] at ho
   exact h.bB id' o ho
 ·intro k hk; rw [cT]; exact h.lt k hk
 ·intro t
  exact (gH t).mono fun k hk => ⟨howns _ k hk, fun _ => rfl⟩
 ·intro id' j
  by_cases e0 : id' = id
  ·subst e0
   have e1 : bJ L (w.setRow b cs') id' j = (cs'[j]?).getD undef := by
    unfold bJ
    simp only [hL, World.cell?, mh]
    simp
   have e2 : bp (H.set id' (.cells es')) id' j = es'.getD j .any := by
    unfold bp
    rw [List.getElem?_set_self pB]
   rw [e1, e2]
   exact (gE j).mono fun k hk => ⟨howns _ k hk, fun _ => rfl⟩
  ·have e1 : bJ L (w.setRow b cs') id' j = bJ L w id' j := by
    unfold bJ
    split
    ·rename_i k hk
     have CW : k ≠ b := by
      rintro rfl
      exact e0 ((List.getElem?_inj (aM hk) h.nodup).1 (hk.trans hL.symm))
     simp only [World.cell?]
     rw [fH k CW]
    ·rfl
   have e2 : bp (H.set id (.cells es')) id' j = bp H id' j := by
    unfold bp
    rw [List.getElem?_set_ne (fun h' => e0 h'.symm)]
   rw [e1, e2, spo id' j e0]
   exact (h.gE id' j).mono fun k hk => ⟨fH k (fun e3 => h.cc _ k hk (e3 ▸ xe)), fun _ => rfl⟩
 ·intro p k hp
  obtain ⟨q, hq⟩ := hm.Ov p k hp
  exact h.cc q k hq
 ·intro p k hp
  obtain ⟨q, hq⟩ := hm.Ov p k hp
  rw [cT]; exact h.eT q k hq
 ·intro p k hp
  obtain ⟨q, hq⟩ := hm.Ov p k hp
  exact h.Oa q k hq
 ·intro k hk; rw [cT] at hk; exact h.fresh k hk
 ·exact ⟨Mem.bM M, by rw [cT]; exact Nat.le_refl _, rfl, rfl, rfl, fun k hk hA => ⟨fH k (fun e0 => hA (e0 ▸ h.La b xe)), fun _ => rfl⟩, fun k r hk => ⟨r, (fH k (fun e0 => by rw [e0, hc] at hk; cases hk)).trans hk, rfl⟩⟩
theorem St.AH (h : St A M L w H ev ea O) {id b : Nat} {es es' : List (AV × AV)} {o' : Obj} (bm : H[id]? = some (.map es)) (hL : L[id]? = some b)
 (Ow : ∀ cs e f, o' ≠ .cells cs e f) (hr : ∀ w', w'.heap[b]? = some o' → yD M L w' b (.map es')) (nF : (aa.map es').a7 (A.jb H.length id) = true) :
 St A M L { w with heap := w.heap.setIfInBounds b o' } (H.set id (.map es')) ev ea O ∧ Ext A M w M { w with heap := w.heap.setIfInBounds b o' } := by
 have xe : b ∈ L := List.mem_of_getElem? hL
 have PR := h.lt b xe
 obtain ⟨ents, ck, hc, _, _⟩ := h.obj id _ b bm hL
 have fH : ∀ k, k ≠ b → (w.heap.setIfInBounds b o')[k]? = w.heap[k]? := fun k hk => by rw [Array.getElem?_setIfInBounds_ne (fun e => hk e.symm)]
 have mh : (w.heap.setIfInBounds b o')[b]? = some o' := by simp [PR]
 have S9 : ∀ o, M b o = none := by
  intro o
  cases hm : M b o with
  | none => rfl
  | some v =>
    have := h.mem b o v hm
    simp [World.cell?, hc] at this
 have pB : id < H.length := aM bm
 refine ⟨{ len := by simp [h.len], nodup := h.nodup, env := h.env, mem := ?_, obj := ?_, bB := ?_, lt := ?_, gH := ?_, gE := ?_, bY := h.bY, cc := h.cc, eT := ?_, La := h.La, Oa := h.Oa, fresh := ?_ }, ?_⟩
 ·intro k o v hv
  have hk : k ≠ b := by rintro rfl; rw [S9 o] at hv; cases hv
  have := h.mem k o v hv
  simp only [World.cell?] at this ⊢
  rw [fH k hk]; exact this
 ·intro id' o k ho hk
  by_cases e0 : id' = id
  ·subst e0
   rw [hL] at hk; cases hk
   rw [List.getElem?_set_self pB] at ho
   cases ho
   exact hr _ mh
  ·rw [List.getElem?_set_ne (fun h' => e0 h'.symm)] at ho
   have CW : k ≠ b := by
    rintro rfl
    exact e0 ((List.getElem?_inj (aM hk) h.nodup).1 (hk.trans hL.symm))
   exact (h.obj id' o k ho hk).mono (Mem.bM M) (List.prefix_refl _) (fH k CW) (fun _ => rfl)
 ·intro id' o ho
  rw [List.length_set]
  by_cases e0 : id' = id
  ·subst e0
   rw [List.getElem?_set_self pB] at ho
   cases ho
   exact nF
  ·rw [List.getElem?_set_ne (fun h' => e0 h'.symm)] at ho
   exact h.bB id' o ho
 ·intro k hk; simpa using h.lt k hk
 ·intro t
  exact (h.gH t).mono fun k hk => ⟨fH k (fun e3 => h.cc _ k hk (e3 ▸ xe)), fun _ => rfl⟩
 ·intro id' j
  by_cases e0 : id' = id
  ·subst e0
   have hn : O (.c id' j) = none := by
    have := h.gE id' j
    simp only [bp, bm] at this
    exact this
   have e2 : bp (H.set id' (.map es')) id' j = .any := by
    unfold bp
    rw [List.getElem?_set_self pB]
   rw [e2, hn]; rfl
  ·have e1 : bJ L { w with heap := w.heap.setIfInBounds b o' } id' j = bJ L w id' j := by
    unfold bJ
    split
    ·rename_i k hk
     have CW : k ≠ b := by
      rintro rfl
      exact e0 ((List.getElem?_inj (aM hk) h.nodup).1 (hk.trans hL.symm))
     simp only [World.cell?]
     rw [fH k CW]
    ·rfl
   have e2 : bp (H.set id (.map es')) id' j = bp H id' j := by
    unfold bp
    rw [List.getElem?_set_ne (fun h' => e0 h'.symm)]
   rw [e1, e2]
   exact (h.gE id' j).mono fun k hk => ⟨fH k (fun e3 => h.cc _ k hk (e3 ▸ xe)), fun _ => rfl⟩
 ·intro p k hp; simpa using h.eT p k hp
 ·intro k hk; simp at hk; exact h.fresh k hk
 ·exact ⟨Mem.bM M, by simp, rfl, rfl, rfl, fun k hk hA => ⟨fH k (fun e0 => hA (e0 ▸ h.La b xe)), fun _ => rfl⟩, fun k r hk => ⟨r, (fH k (fun e0 => by rw [e0, hc] at hk; cases hk)).trans hk, rfl⟩⟩
def AV.le (x y : AV) : Prop := y = x ∨ y = .any ∨ (∃ o xs, x = .ap o xs ∧ y = .ap 0 xs) ∨ (x = .ah ∧ ∃ o, y = .ap o []) ∨ (∃ xs, x = .agg xs ∧ y = .agg (xs.map AV.drop))
theorem aR.le {v : Value} {x y : AV} (h : aR M L v x) (hl : x.le y) : aR M L v y := by
 rcases hl with rfl | rfl | ⟨o, xs, rfl, rfl⟩ | ⟨rfl, o, rfl⟩ | ⟨xs, rfl, rfl⟩
 ·exact h
 ·exact .any _
 ·exact h.C2
 ·cases h; exact .gb _ _ _ (by decide)
 ·cases h with
  | agg cs _ hr => exact .agg cs _ hr.map_drop
theorem bb.le {v : Value} {x y : AV} {ob : Option Nat} (h : aR M L v x) (hs : bb M w v x ob) (hl : x.le y) : ∃ ob', bb M w v y ob' ∧ (ob' = none ∨ ob' = ob) := by
 rcases hl with rfl | rfl | ⟨o, xs, rfl, rfl⟩ | ⟨rfl, o, rfl⟩ | ⟨xs, rfl, rfl⟩
 ·exact ⟨ob, hs, .inr rfl⟩
 ·exact ⟨none, rfl, .inl rfl⟩
 ·exact ⟨none, by simp [bb], .inl rfl⟩
 ·cases h
  refine ⟨none, ?_, .inl rfl⟩
  by_cases e : o = 0
  ·simp [bb, e]
  ·simp only [bb, e, if_false]; exact ⟨by simp, .inl ⟨trivial, none, 0, rfl⟩⟩
 ·exact ⟨none, rfl, .inl rfl⟩
theorem St.EJ (h : St A M L w H ev ea O) {ea' : Nat → AV} (hl : ∀ t, (ea t).le (ea' t)) : ∃ O', St A M L w H ev ea' O' ∧ ∀ p b, O' p = some b → O p = some b := by
 have hx : ∀ t, ∃ ob', bb M w (ev t) (ea' t) ob' ∧ (ob' = none ∨ ob' = O (.t t)) := fun t => (h.gH t).le (h.env t) (hl t)
 let f : Nat → Option Nat := fun t => Classical.choose (hx t)
 have hf : ∀ t, bb M w (ev t) (ea' t) (f t) ∧ (f t = none ∨ f t = O (.t t)) := fun t => Classical.choose_spec (hx t)
 let O' : Pos → Option Nat := fun p => match p with | .t t => f t | .c id j => O (.c id j)
 have hO : ∀ p b, O' p = some b → O p = some b := by
  intro p b hp
  cases p with
  | t t =>
    rcases (hf t).2 with h0 | h0
    ·simp only [O', h0] at hp; cases hp
    ·simpa only [O', h0] using hp
  | c id j => exact hp
 exact ⟨O', { len := h.len, nodup := h.nodup, env := fun t => (h.env t).le (hl t), mem := h.mem, obj := h.obj, bB := h.bB, lt := h.lt, gH := fun t => (hf t).1, gE := h.gE, bY := fun p q b hp hq => h.bY p q b (hO p b hp) (hO q b hq), cc := fun p b hp => h.cc p b (hO p b hp), eT := fun p b hp => h.eT p b (hO p b hp), La := h.La, Oa := fun p b hp => h.Oa p b (hO p b hp), fresh := h.fresh }, hO⟩
theorem St.weaken (h : St A M L w H ev ea O) {ea' : Nat → AV} (hl : ∀ t, (ea t).le (ea' t)) : ∃ O', St A M L w H ev ea' O' :=
 let ⟨O', h1, _⟩ := h.EJ hl
 ⟨O', h1⟩
theorem St.cut (h : St A M L w H ev ea O) (n : Nat) (hc : ∀ id o, id < n → H[id]? = some o → o.a7 n = true) (hb : ∀ t, (ea t).a7 n = true) : ∃ O', St A M (L.take n) w (H.take n) ev ea O' := by
 let O' : Pos → Option Nat := fun p => match p with | .t t => O (.t t) | .c id j => if id < n then O (.c id j) else none
 have hO : ∀ p b, O' p = some b → O p = some b := by
  intro p b hp
  cases p with
  | t t => exact hp
  | c id j =>
    simp only [O'] at hp
    split at hp
    ·exact hp
    ·cases hp
 have ji : ∀ {α : Type} {l : List α} {i : Nat} {a : α}, (l.take n)[i]? = some a → i < n ∧ l[i]? = some a := by
  intro α l i a hi
  rw [List.getElem?_take] at hi
  split at hi
  ·exact ⟨by assumption, hi⟩
  ·cases hi
 have iE : ∀ b, b ∈ L.take n → b ∈ L := fun b hb => List.mem_of_mem_take hb
 have Ly : ∀ {m k : Nat} {o : aa}, m ≤ k → o.a7 m = true → o.a7 k = true := fun hmk ho => aa.cE hmk _ ho
 refine ⟨O', { len := by simp [h.len], nodup := (List.take_sublist n L).nodup h.nodup, env := fun t => (h.env t).fP (hb t), mem := h.mem, obj := ?_, bB := ?_, lt := fun b hb => h.lt b (iE b hb), gH := h.gH, gE := ?_, bY := fun p q b hp hq => h.bY p q b (hO p b hp) (hO q b hq), cc := fun p b hp hm => h.cc p b (hO p b hp) (iE b hm), eT := fun p b hp => h.eT p b (hO p b hp), La := fun b hb => h.La b (iE b hb), Oa := fun p b hp => h.Oa p b (hO p b hp), fresh := h.fresh }⟩
 ·intro id o b ho dU
  obtain ⟨hn, ho⟩ := ji ho
  obtain ⟨_, dU⟩ := ji dU
  exact (h.obj id o b ho dU).fP (hc id o hn ho)
 ·intro id o ho
  obtain ⟨hn, ho⟩ := ji ho
  have h1 := h.bB id o ho
  have h2 := hc id o hn ho
  have hl := aM ho
  rw [List.length_take]
  have e : A.jb (min n H.length) id = min n (A.jb H.length id) := by unfold Perm.jb; split <;> omega
  rw [e]
  rcases Nat.le_total n (A.jb H.length id) with h' | h'
  ·rw [Nat.min_eq_left h']; exact h2
  ·rw [Nat.min_eq_right h']; exact h1
 ·intro id j
  by_cases e : id < n
  ·have e1 : bJ (L.take n) w id j = bJ L w id j := by
    unfold bJ
    rw [List.getElem?_take, if_pos e]
   have e2 : bp (H.take n) id j = bp H id j := by
    unfold bp
    rw [List.getElem?_take, if_pos e]
   rw [e1, e2]
   simpa [O', e] using h.gE id j
  ·have e2 : bp (H.take n) id j = .any := by
    unfold bp
    rw [List.getElem?_take, if_neg e]
   rw [e2]
   simp [O', e, bb]
end
end Go.aK
end
section
namespace Go.aK
open Go
abbrev Env := List (Nat × AV)
def get : Env → Nat → AV
 | [], _ => .any
 | (k, v) :: r, t => if t = k then v else get r t
inductive IX where
 | t (n : Nat)
 | c (v : AV)
 deriving Inhabited
def al (env : Env) : IX → AV
 | .t n => get env n
 | .c v => v
inductive bW where
 | set (x : IX) (take : Bool)
 | pick (c a b : IX)
 | bin (op : BinOp) (x y : IX)
 | shift (op : BinOp) (x y : IX)
 | gO (neq : Bool) (x y : IX)
 | iT (kd : Nat) (neq : Bool) (x : IX)
 | un (op : UnOp) (x : IX)
 | box (x : IX)
 | k9 (x : IX)
 | qT (m : Nat) (x : IX)
 | alloc (zero : AV)
 | build (zero : AV) (parts : List (Nat × Nat × IX))
 | buildSlice (own esz : Nat) (zero : AV) (len : Nat) (parts : List (Nat × IX))
 | load (sz : Option Nat) (a : IX)
 | sj (sz : Option Nat) (esz : Nat) (a : IX)
 | eh (a : IX)
 | store (n : Nat) (a x : IX)
 | mE (n : Nat) (a x : IX)
 | eV (a : IX) (s : Nat)
 | nilCheck (x : IX)
 | fieldAddr (off : Nat) (sz : Option Nat) (x : IX)
 | field (off : Nat) (sz : Option Nat) (x : IX)
 | indexAddr (esz : Nat) (x i : IX)
 | c8 (x i : IX)
 | dJ (n : Nat) (x i : IX)
 | oN (esz : Nat) (x : IX) (lo hi mx : Option IX)
 | slice (esz : Nat) (x : IX) (lo hi max : Option IX)
 | dK (x : IX) (lo hi : Option IX)
 | len (kd : Nat) (x : IX)
 | append (esz bytes : Nat) (s x : IX)
 | sk (esz bytes : Nat) (zero : AV) (n : IX)
 | mF (esz bytes : Nat) (n : IX)
 | mG
 | lookup (kd : Nat) (zero : AV) (m k : IX) (ok : Bool)
 | jY (kd : Nat) (m k x : IX)
 | fn (f : Fn) (first captured : List IX)
 | extract (x : IX) (i : Nat)
 | call (f : IX) (args : List IX) (pass : Option Nat)
 | eC (k : IntKind) (x : IX)
 | gg (x : IX)
 | bytesOf (x : IX)
 | strOf (x : IX)
 | mx (big : Bool) (a b : IX)
 | copy (esz : Nat) (d s : IX)
 | yF (esz : Nat) (x : IX)
 | AI (esz : Nat) (zero : AV) (len : Nat) (parts : List (Nat × IX))
 | iV (esz bytes : Nat) (zero : AV) (s x : IX)
 | mH (esz : Nat) (zero : AV) (x : IX)
 | never
 deriving Inhabited
def Tz : Value → Option AV
 | .bool b => some (.bool b)
 | .int k n => some (.int k n)
 | .string s => some (.str s)
 | .pointer none => some .qR
 | .map none => some .iD
 | .nilFunc => some .ft
 | .nilIface => some .wv
 | .slice none 0 0 => some .ah
 | _ => none
def H9 : List Value → Option (List AV)
 | [] => some []
 | v :: vs => match Tz v, H9 vs with
   | some x, some xs => some (x :: xs)
   | _, _ => none
def ofValue : Value → Option AV
 | .agg cs => (H9 cs.toList).map .agg
 | v => Tz v
section
variable {M : Mem} {L : List Nat}
theorem EK {v : Value} {x : AV} (h : Tz v = some x) : aR M L v x := by
 unfold Tz at h
 split at h <;> first | (cases h; constructor) | cases h
theorem AJ : ∀ {vs : List Value} {xs : List AV}, H9 vs = some xs → aJ M L vs xs
 | [], xs, h => by simp [H9] at h; subst h; exact .nil
 | v :: vs, xs, h => by
   unfold H9 at h
   split at h
   ·rename_i x ys h1 h2
    cases h
    exact .cons _ _ _ _ (EK h1) (AJ h2)
   ·cases h
theorem cA {v : Value} {x : AV} (h : ofValue v = some x) : aR M L v x := by
 unfold ofValue at h
 split at h
 ·rename_i cs
  obtain ⟨xs, h1, rfl⟩ := Option.map_eq_some_iff.1 h
  have := aR.agg cs.toList xs (AJ (M := M) (L := L) h1)
  simpa using this
 ·exact EK h
end
def aP : Operand → Option IX
 | .tmp t => some (.t t)
 | .const v => (ofValue v).map .c
 | .func f => some (.c (.fn (.func f) [] []))
 | .global _ => none
def fm : List Operand → Option (List IX)
 | [] => some []
 | x :: xs => match aP x, fm xs with
   | some i, some is => some (i :: is)
   | _, _ => none
def HP (P : Program) (t : TypeId) : Option (Option Nat) :=
 match P.info? t, P.underlying t with
 | some i, some (.struct _) => some (some i.size)
 | some i, some (.array _ _) => some (some i.size)
 | some i, some _ => if i.size = 1 then some none else none
 | _, _ => none
def fw (P : Program) (t : TypeId) : Option AV :=
 match P.info? t with
 | some i => match i.zero with
   | some v => ofValue v
   | none => none
 | none => none
def dB (P : Program) (t : TypeId) : Option Nat := (P.info? t).map (·.size)
def Ox (A : Perm) (w : World) (ds : List Deferred) : Prop := A.base ≤ w.heap.size ∧ ds.Nodup ∧ ∀ d ∈ ds, ∃ D, d = { target := .collected D, args := #[] } ∧ w.heap[D]? = some (.deferred (some [])) ∧ ¬ A D ∧ A.base ≤ D
theorem Ox.ext {A : Perm} {M M' : Mem} {w w' : World} {ds : List Deferred} (h : Ox A w ds) (hx : Ext A M w M' w') : Ox A w' ds :=
 ⟨Nat.le_trans h.1 hx.size, h.2.1, fun d hd => by
   obtain ⟨D, h1, h2, h3⟩ := h.2.2 d hd
   exact ⟨D, h1, (hx.jX D (Array.getElem?_eq_some_iff.1 h2).1 h3.1).1.trans h2, h3⟩⟩
def wf (ro : Option Nat) : Fence := { Fence.wide with round := ro }
theorem Ia {o : Oper} {ρ : Operand → Value} {P : Program} {w w' : World} {x : Next} (ro : Option Nat) (h : (execOp ρ o).run P w = .ok x w') (hx : ∀ d, x ≠ .defer d) : (o.semAt (wf ro).round ρ).run P w = .ok x w' := by
 rw [Oper.semAt_eq]
 ·exact h
 ·intro c hc
  simp only [execOp, hc, Sem.run_bind] at h
  cases hr : (resolve ρ c o.type).run P w with
  | ok d w1 => rw [hr] at h; simp only [Result.andThen_ok, Sem.run_pure] at h; cases h; exact hx _ rfl
  | halt e w1 => rw [hr] at h; cases h
theorem kx {o : Oper} {P : Program} {a : Act} {w w' : World} {x : Next} {ro : Option Nat} {N : Act → World → Prop} {Q : Exit → Act → World → Prop} (h : (execOp a.eval o).run P w = .ok x w') (hx : ∀ d, x ≠ .defer d)
 (hu : o.uponIn (wf ro) 0 P a N Q (.ok x w')) : o.wpIn (wf ro) 0 P a w N Q := by
 refine ⟨fun _ _ => trivial, ?_⟩
 rw [Ia ro h hx]
 exact hu
structure Fr (A : Perm) (n : Nat) (M : Mem) (L : List Nat) (w : World) (H : List aa) (env : Env) (O : Pos → Option Nat) (a : Act) : Prop where
 st : St A M L w H (fun t => a.tmps.getD t undef) (get env) O
 size : a.tmps.size = n
 defers : Ox A w a.defers
def mA (A : Perm) (n : Nat) (M : Mem) (L : List Nat) (w : World) (K : Env → List aa → Prop) (a' : Act) (w' : World) : Prop :=
 ∃ M' L' H' aD O', K aD H' ∧ Fr A n M' L' w' H' aD O' a' ∧ Ext A M w M' w' ∧ L <+: L'
def put (dst : Option Nat) (x : AV) (env : Env) : Env := match dst with | some d => (d, x) :: env | none => env
section
variable {ro : Option Nat} {A : Perm} {n : Nat} {M : Mem} {L : List Nat} {w : World} {H : List aa} {env : Env} {O : Pos → Option Nat} {a : Act}
theorem Ib (d : Nat) (x : AV) (env : Env) : get ((d, x) :: env) = fe (get env) d x := rfl
theorem Fr.eval (h : Fr A n M L w H env O a) {x : Operand} {i : IX} (hc : aP x = some i) : aR M L (a.eval x) (al env i) := by
 cases x with
 | tmp t => simp [aP] at hc; subst hc; exact h.st.env t
 | const v =>
   simp only [aP] at hc
   obtain ⟨y, h1, rfl⟩ := Option.map_eq_some_iff.1 hc
   exact cA h1
 | func f => simp [aP] at hc; subst hc; exact .fn _ [] [] [] [] .nil .nil
 | global g => simp [aP] at hc
theorem Fr.Oy (h : Fr A n M L w H env O a) : ∀ {xs : List Operand} {is : List IX}, fm xs = some is → aJ M L (xs.map a.eval) (is.map (al env))
 | [], is, hc => by simp [fm] at hc; subst hc; exact .nil
 | x :: xs, is, hc => by
   unfold fm at hc
   split at hc
   ·rename_i i is' h1 h2
    cases hc
    exact .cons _ _ _ _ (h.eval h1) (h.Oy h2)
   ·cases hc
theorem uc (a : Act) (d : Nat) (v : Value) (hd : d < a.tmps.size) (t : Nat) : (a.put (some d) v).tmps.getD t undef = fe (fun t => a.tmps.getD t undef) d v t := by
 simp only [Act.put, fe, Array.getD_eq_getD_getElem?, Array.getElem?_setIfInBounds]
 by_cases e : t = d
 ·subst e; simp [hd]
 ·simp [e, show ¬ d = t from fun h => e h.symm]
theorem Fr.C5 (h : Fr A n M L w H env O a) {d : Nat} (hd : d < n) {v : Value} {x : AV} (hr : aR M L v x) (ob : Option Nat) (hs : bb M w v x ob)
 (h1 : ∀ p b, ob = some b → O p = some b → p = .t d) (h2 : ∀ b, ob = some b → b ∉ L ∧ b < w.heap.size ∧ A b) :
 Fr A n M L w H ((d, x) :: env) (dV O (.t d) ob) (a.put (some d) v) := by
 refine ⟨(h.st.put d hr ob hs h1 h2).congr (fun t => uc a d v (by rw [h.size]; exact hd) t) (fun t => rfl), ?_, h.defers⟩
 simp [Act.put, h.size]
theorem Fr.ol (h : Fr A n M L w H env O a) {dst : Option Nat} (hd : ∀ d, dst = some d → d < n) {v : Value} {x : AV} (hr : aR M L v x) (hx : ∀ own xs, x = .ap own xs → own = 0) :
 ∃ O', Fr A n M L w H (put dst x env) O' (a.put dst v) := by
 cases dst with
 | none => exact ⟨O, h⟩
 | some d => exact ⟨_, h.C5 (hd d rfl) hr none (bb.free hx) (fun p b e => by cases e) (fun b e => by cases e)⟩
theorem Fr.EL (h : Fr A n M L w H env O a) {dst : Option Nat} (hd : ∀ d, dst = some d → d < n) {ad : Option Addr} {m : Nat} {own : Nat} {xs : List AV} (hr : aR M L (.slice ad m m) (.ap own xs)) (hx : own ≠ 0 → ∀ y ∈ xs, y.cells.length = own) :
 ∃ O', Fr A n M L w H (put dst (.ap own xs) env) O' (a.put dst (.slice ad m m)) := by
 cases dst with
 | none => exact ⟨O, h⟩
 | some d =>
   refine ⟨_, h.C5 (hd d rfl) hr none ?_ (fun p b e => by cases e) (fun b e => by cases e)⟩
   by_cases e : own = 0
   ·simp [bb, e]
   ·simp only [bb, e, if_false]; exact ⟨hx e, .inl ⟨trivial, ad, m, rfl⟩⟩
theorem Fr.mono (h : Fr A n M L w H env O a) {M' : Mem} {w' : World} {L' : List Nat} {H' : List aa} {O' : Pos → Option Nat} (bP : St A M' L' w' H' (fun t => a.tmps.getD t undef) (get env) O') (hx : Ext A M w M' w') : Fr A n M' L' w' H' env O' a :=
 ⟨bP, h.size, h.defers.ext hx⟩
theorem c9 {P : Program} {o : Oper} {Q : Exit → Act → World → Prop} {K : Env → List aa → Prop} {v : Value} {w' : World} (bG : (execOp a.eval o).run P w = .ok (.value v) w')
 (h : mA A n M L w K (a.put o.dst v) w') : o.wpIn (wf ro) 0 P a w (mA A n M L w K) Q := by
 exact kx bG (by intro d e; cases e) h
theorem lf {P : Program} {o : Oper} {Q : Exit → Act → World → Prop} {K : Env → List aa → Prop} {w' : World} (bG : (execOp a.eval o).run P w = .ok .skip w')
 (h : mA A n M L w K (a.put o.dst undef) w') : o.wpIn (wf ro) 0 P a w (mA A n M L w K) Q := by
 exact kx bG (by intro d e; cases e) h
theorem wp_pure {P : Program} {o : Oper} {Q : Exit → Act → World → Prop} {K : Env → List aa → Prop} {v : Value} {x : AV} (h : Fr A n M L w H env O a) (hd : ∀ d, o.dst = some d → d < n)
 (bG : (execOp a.eval o).run P w = .ok (.value v) w) (hr : aR M L v x) (hx : ∀ own xs, x = .ap own xs → own = 0) (hK : K (put o.dst x env) H) : o.wpIn (wf ro) 0 P a w (mA A n M L w K) Q := by
 obtain ⟨O', hf⟩ := h.ol hd hr hx
 exact c9 bG ⟨M, L, H, _, O', hK, hf, Ext.refl A M w, List.prefix_refl L⟩
end
def s7 (env : Env) (d : Nat) (x : IX) (take : Bool) : Env :=
 match x, take with
 | .t s, true => (d, get env s) :: (s, (get env s).ab) :: env
 | x, _ => (d, (al env x).ab) :: env
def eH (x : AV) (φ : Bool → Prop) : Prop := match x with | .bool b => φ b | _ => False
end Go.aK
end
section
namespace Go.aK
open Go
def AV.val : AV → Bool
 | .any => false
 | .tuple _ => false
 | _ => true
def ag {α : Type} (zs : List α) (off : Nat) (xs : List α) : List α := zs.take off ++ (xs ++ zs.drop (off + xs.length))
section
variable {M : Mem} {L : List Nat}
theorem aR.fI {v : Value} {x : AV} (h : aR M L v x) (hv : x.val = true) : aJ M L v.cells.toList x.cells := by
 cases h with
 | agg cs xs hr => simpa [Value.cells, AV.cells] using hr
 | any v => simp [AV.val] at hv
 | tuple => simp [AV.val] at hv
 | ap b off c own e cs xs he hx hn hle hc hr hm => exact .one (.ap b off c own e cs xs he hx hn hle hc hr hm)
 | _ => (simp only [Value.cells, AV.cells]; exact .one (by constructor <;> assumption))
theorem aJ.yG {cs : List Value} {xs : List AV} (h : aJ M L cs xs) {zs : List Value} {ys : List AV} (off : Nat) (hz : aJ M L zs ys) : aJ M L (ag zs off cs) (ag ys off xs) := by
 unfold ag
 rw [h.length]
 exact (hz.take off).append (h.append (hz.drop _))
theorem aJ.cU : ∀ {vs : List Value} {xs : List AV}, aJ M L vs xs → aJ M L vs (xs.map AV.ab)
 | _, _, .nil => .nil
 | _, _, .cons v x vs xs h t => .cons v _ _ _ h.ab t.cU
end
theorem mI {α : Type} (zs : List α) (off : Nat) (xs : List α) (h : off + xs.length ≤ zs.length) : (ag zs off xs).length = zs.length := by
 unfold ag; simp; omega
def cV (op : BinOp) (x y : AV) (φ : AV → Prop) : Prop :=
 match x, y with
 | .int k a, .int k' b => k = k' ∧
   match op with
   | .add => φ (.int k (k.wrap (a + b)))
   | .sub => φ (.int k (k.wrap (a - b)))
   | .mul => φ (.int k (k.wrap (a * b)))
   | .quo => b ≠ 0 ∧ φ (.int k (k.wrap (a.tdiv b)))
   | .rem => b ≠ 0 ∧ φ (.int k (a.tmod b))
   | .and => φ (.int k (k.wrap (BitVec.ofInt k.bits a &&& BitVec.ofInt k.bits b).toNat))
   | .or => φ (.int k (k.wrap (BitVec.ofInt k.bits a ||| BitVec.ofInt k.bits b).toNat))
   | .xor => φ (.int k (k.wrap (BitVec.ofInt k.bits a ^^^ BitVec.ofInt k.bits b).toNat))
   | .andNot => φ (.int k (k.wrap (BitVec.ofInt k.bits a &&& ~~~ BitVec.ofInt k.bits b).toNat))
   | .eql => φ (.bool (decide (a = b)))
   | .neq => φ (.bool (decide (a ≠ b)))
   | .lss => φ (.bool (decide (a < b)))
   | .leq => φ (.bool (decide (a ≤ b)))
   | .gtr => φ (.bool (decide (b < a)))
   | .geq => φ (.bool (decide (b ≤ a)))
   | _ => False
 | .str a, .str b =>
   match op with
   | .add => a.size + b.size < 9223372036854775808 ∧ φ (.str (a ++ b))
   | .eql => φ (.bool (decide (a = b)))
   | .neq => φ (.bool (decide (a ≠ b)))
   | .lss => φ (.bool (Op.bytesLess a.data.toList b.data.toList))
   | .geq => φ (.bool (!Op.bytesLess a.data.toList b.data.toList))
   | .leq => φ (.bool (!Op.bytesLess b.data.toList a.data.toList))
   | .gtr => φ (.bool (Op.bytesLess b.data.toList a.data.toList))
   | _ => False
 | _, _ => False
def dL (op : BinOp) (x y : AV) (φ : AV → Prop) : Prop :=
 match x, y with
 | .int k a, .int _ b => 0 ≤ b ∧
   match op with
   | .shl => φ (.int k (k.wrap (a * 2 ^ (min b.toNat k.bits))))
   | .shr => φ (.int k (a.fdiv (2 ^ (min b.toNat k.bits))))
   | _ => False
 | _, _ => False
def cM (neq : Bool) (x y : AV) (φ : AV → Prop) : Prop :=
 match x, y with
 | .bool a, .bool b => φ (.bool (if neq then decide (a ≠ b) else decide (a = b)))
 | _, _ => False
def isNil (kd : Nat) (x : AV) : Option Bool :=
 match kd, x with
 | 0, .ah => some true
 | 0, .ap _ (_ :: _) => some false
 | 0, .bf _ _ _ _ => some false
 | 1, .qR => some true
 | 1, .ptr _ _ => some false
 | 1, .ai _ => some false
 | 2, .iD => some true
 | 2, .map _ => some false
 | 3, .ft => some true
 | 3, .fn _ _ _ => some false
 | _, _ => none
def dc (kd : Nat) (neq : Bool) (x : AV) (φ : AV → Prop) : Prop :=
 match isNil kd x with
 | some b => φ (.bool (if neq then !b else b))
 | none => match kd, x with
   | 0, .ap _ [] => φ (.bool true) ∧ φ (.bool false)
   | _, _ => False
def yH (op : UnOp) (x : AV) (φ : AV → Prop) : Prop :=
 match op, x with
 | .not, .bool b => φ (.bool (!b))
 | .neg, .int k n => φ (.int k (k.wrap (0 - n)))
 | _, _ => False
def gI (zs : List AV) : List (Nat × Nat × AV) → (List AV → Prop) → Prop
 | [], φ => φ zs
 | (off, sz, x) :: r, φ => x.val = true ∧ x.cells.length = sz ∧ off + sz ≤ zs.length ∧ gI (ag zs off (x.cells.map AV.ab)) r φ
def aS (sz : Option Nat) (x : AV) (H : List aa) (φ : AV → Prop) : Prop :=
 match x with
 | .ptr id off => match H[id]? with
   | some (.cells es) => match sz with
     | some m => off + m ≤ es.length ∧ φ (.agg (((es.drop off).take m).map AV.drop))
     | none => off < es.length ∧ φ (es.getD off .any).ab
   | _ => False
 | .ai y => match sz with
   | some m => y.cells.length = m ∧ φ (.agg y.cells)
   | none => y.one = true ∧ φ y.ab
 | _ => False
def apart (off : Nat) (sz : Option Nat) (xs : List AV) (φ : AV → Prop) : Prop :=
 match sz with
 | some m => off + m ≤ xs.length ∧ φ (.agg ((xs.drop off).take m))
 | none => off < xs.length ∧ (xs.getD off .any).one = true ∧ φ (xs.getD off .any)
def ak (off : Nat) (sz : Option Nat) (x : AV) (φ : AV → Prop) : Prop :=
 match x with
 | .ptr id o => φ (.ptr id (o + off))
 | .ai y => apart off sz y.cells fun z => φ (.ai z)
 | _ => False
def eI (off : Nat) (sz : Option Nat) (x : AV) (φ : AV → Prop) : Prop :=
 match x with
 | .agg xs => apart off sz xs fun z => φ z.drop
 | _ => False
def ay (esz : Nat) (x i : AV) (φ : AV → Prop) : Prop :=
 match x, i with
 | .ap _ xs, .int _ i => 0 ≤ i ∧ i.toNat < xs.length ∧ φ (.ai (xs.getD i.toNat .any))
 | .bf id off len _, .int _ i => 0 ≤ i ∧ i.toNat < len ∧ φ (.ptr id (off + i.toNat * esz))
 | _, _ => False
def bQ (n : Nat) (x i : AV) (φ : AV → Prop) : Prop :=
 match x, i with
 | .agg xs, .int _ i => xs.length = n ∧ 0 ≤ i ∧ i.toNat < n ∧ φ (xs.getD i.toNat .any).drop
 | _, _ => False
def bH (x i : AV) (φ : AV → Prop) : Prop :=
 match x, i with
 | .str s, .int _ i => 0 ≤ i ∧ i.toNat < s.size ∧ φ (.int .u8 (s.data.toList.getD i.toNat 0).toNat)
 | _, _ => False
def eW (x : AV) (H : List aa) (φ : AV → Prop) : Prop :=
 match x with
 | .str s => φ (.int .i64 s.size)
 | .ah => φ (.int .i64 0)
 | .ap _ xs => xs.length < 9223372036854775808 → φ (.int .i64 xs.length)
 | .bf _ _ len _ => φ (.int .i64 len)
 | .oh => φ (.int .i64 0)
 | .iD => φ (.int .i64 0)
 | .map id => match H[id]? with
   | some (.map es) => φ (.int .i64 es.length)
   | _ => False
 | _ => False
def bC (x : AV) (i : Nat) (φ : AV → Prop) : Prop :=
 match x with
 | .tuple xs => i < xs.length ∧ φ (xs.getD i .any).ab
 | _ => False
def bR (x : AV) (φ : AV → Prop) : Prop :=
 match x with
 | .ptr .. | .ai _ => φ x
 | .fn (.func _) _ _ => φ x
 | _ => False
def cp (k : IntKind) (x : AV) (φ : AV → Prop) : Prop :=
 match x with
 | .int _ n => φ (.int k (k.wrap n))
 | _ => False
def wy (big : Bool) (x y : AV) (φ : AV → Prop) : Prop :=
 match x, y with
 | .int k a, .int _ b => φ (.int k (if big then (if b > a then b else a) else (if b < a then b else a)))
 | _, _ => False
section
variable {P : Program} {w : World} {M : Mem} {L : List Nat} {H : List aa}
theorem lg : ∀ x y : List UInt8, (Op.bytesLess x y || x == y) = !Op.bytesLess y x
 | [], [] => rfl
 | [], b :: y => by simp [Op.bytesLess]
 | a :: x, [] => by simp [Op.bytesLess]
 | a :: x, b :: y => by
   have ih := lg x y
   simp only [Op.bytesLess, List.cons_beq_cons]
   rcases Nat.lt_trichotomy a.toNat b.toNat with h | h | h
   ·have h1 : a < b := UInt8.lt_iff_toNat_lt.2 h
    have h2 : ¬ b < a := fun h' => by have := UInt8.lt_iff_toNat_lt.1 h'; omega
    have h3 : (b == a) = false := by
     rw [beq_eq_false_iff_ne]; rintro rfl; omega
    simp [h1, h2, h3]
   ·have h0 : a = b := UInt8.toNat_inj.1 h
    subst h0
    simp [ih]
   ·have h1 : b < a := UInt8.lt_iff_toNat_lt.2 h
    have h2 : ¬ a < b := fun h' => by have := UInt8.lt_iff_toNat_lt.1 h'; omega
    have h3 : (a == b) = false := by
     rw [beq_eq_false_iff_ne]; rintro rfl; omega
    simp [h1, h2, h3]
theorem AK (a b : ByteArray) : (a.toList == b.toList) = decide (a = b) := by
 rw [ByteArray.toList_eq, ByteArray.toList_eq]
 by_cases e : a = b
 ·subst e; simp
 ·have h0 : ¬ a.data.toList = b.data.toList := fun h => e (by cases a; cases b; simp_all [Array.toList_inj])
  rw [show (a.data.toList == b.data.toList) = false from beq_eq_false_iff_ne.2 h0]
  simp [e]
theorem pC {α : Type} [DecidableEq α] (a b : α) : (a == b) = decide (a = b) := by
 by_cases h : a = b <;> simp [h]
theorem Ic {op : BinOp} {t : TypeId} {u v : Value} {x y : AV} {φ : AV → Prop} (h : cV op x y φ) (hu : aR M L u x) (hv : aR M L v y) (X Y : Operand) :
 ∃ r z, (do eqGuard op t X Y u v; binOp op t u v : Sem Value).run P w = .ok r w ∧ aR M L r z ∧ φ z ∧ ∀ own xs, z = .ap own xs → own = 0 := by
 have guard_int : ∀ (k k' : IntKind) (a b : Int), (eqGuard op t X Y (.int k a) (.int k' b)).run P w = .ok () w := by
  intro k k' a b; unfold eqGuard; cases op <;> rfl
 have guard_str : ∀ (a b : ByteArray), (eqGuard op t X Y (.string a) (.string b)).run P w = .ok () w := by
  intro a b; unfold eqGuard; cases op <;> rfl
 unfold cV at h
 split at h
 ·rename_i k a k' b
  cases hu; cases hv
  obtain ⟨rfl, h⟩ := h
  simp only [Sem.run_bind, guard_int, Result.andThen_ok]
  cases op <;> simp only at h <;> first
   | exact h.elim
   | exact ⟨_, _, rfl, .int _ _, h, by intro _ _ e; cases e⟩
   | (obtain ⟨h0, h⟩ := h
      refine ⟨_, _, ?_, .int _ _, h, by intro _ _ e; cases e⟩
      simp [binOp, Op.intDiv, h0]; done)
   | skip
  all_goals first
   | (refine ⟨_, _, ?_, .int _ _, h, by intro _ _ e; cases e⟩
      simp [binOp, Op.intArith, Op.intBits]; done)
   | (refine ⟨_, _, ?_, .bool _, h, by intro _ _ e; cases e⟩
      simp [binOp, Op.intCmp]; done)
   | skip
  all_goals
   refine ⟨_, _, ?_, .bool _, h, by intro _ _ e; cases e⟩
   simp [binOp, Op.intCmp, bne, pC]
 ·rename_i a b
  cases hu; cases hv
  simp only [Sem.run_bind, guard_str, Result.andThen_ok]
  cases op <;> simp only at h <;> first
   | exact h.elim
   | skip
  ·obtain ⟨h0, h⟩ := h
   refine ⟨_, _, ?_, .str _, h, by intro _ _ e; cases e⟩
   have : ¬ ((a.size + b.size : Nat) : Int) > IntKind.i64.max := by
    have : IntKind.i64.max = 9223372036854775807 := rfl
    rw [this]; omega
   simp only [binOp, Op.stringOp, this, if_false, Sem.run_pure]
  ·exact ⟨_, _, rfl, .bool _, by rw [AK]; exact h, by intro _ _ e; cases e⟩
  ·exact ⟨_, _, rfl, .bool _, by rw [AK]; simpa using h, by intro _ _ e; cases e⟩
  ·exact ⟨_, _, rfl, .bool _, by rw [ByteArray.toList_eq, ByteArray.toList_eq]; exact h, by intro _ _ e; cases e⟩
  ·exact ⟨_, _, rfl, .bool _, by rw [ByteArray.toList_eq, ByteArray.toList_eq, lg]; exact h, by intro _ _ e; cases e⟩
  ·exact ⟨_, _, rfl, .bool _, by rw [ByteArray.toList_eq, ByteArray.toList_eq, lg, Bool.not_not]; exact h, by intro _ _ e; cases e⟩
  ·exact ⟨_, _, rfl, .bool _, by rw [ByteArray.toList_eq, ByteArray.toList_eq]; exact h, by intro _ _ e; cases e⟩
 ·exact h.elim
theorem ud {op : BinOp} {t : TypeId} {u v : Value} {x y : AV} {φ : AV → Prop} (h : dL op x y φ) (hu : aR M L u x) (hv : aR M L v y) (X Y : Operand) :
 ∃ r z, (do eqGuard op t X Y u v; binOp op t u v : Sem Value).run P w = .ok r w ∧ aR M L r z ∧ φ z ∧ ∀ own xs, z = .ap own xs → own = 0 := by
 unfold dL at h
 split at h
 ·rename_i k a k' b
  cases hu; cases hv
  obtain ⟨h0, h⟩ := h
  have guard_int : (eqGuard op t X Y (.int k a) (.int k' b)).run P w = .ok () w := by
   unfold eqGuard; cases op <;> rfl
  simp only [Sem.run_bind, guard_int, Result.andThen_ok]
  have hn : ¬ b < 0 := by omega
  cases op <;> simp only at h <;> first
   | exact h.elim
   | (refine ⟨_, _, ?_, .int _ _, h, by intro _ _ e; cases e⟩
      simp [binOp, Op.shift, hn]; done)
 ·exact h.elim
theorem run_equalIn_bool (d : Nat) {t : TypeId} (ht : P.underlying t = some .bool) (a b : Bool) : (Op.equalIn (d + 1) t (.bool a) (.bool b)).run P w = .ok (a == b) w := by
 simp only [Op.equalIn, Sem.run_bind, run_underlying ht, Result.andThen_ok, Sem.run_pure]
theorem run_equal_bool {t : TypeId} (ht : P.underlying t = some .bool) (a b : Bool) : (Op.equal t (.bool a) (.bool b)).run P w = .ok (a == b) w := run_equalIn_bool 9999 ht a b
theorem sm {neq : Bool} {t : TypeId} (ht : P.underlying t = some .bool) {u v : Value} {x y : AV} {φ : AV → Prop} (h : cM neq x y φ) (hu : aR M L u x) (hv : aR M L v y) (X Y : Operand) :
 ∃ r z, (do eqGuard (if neq then .neq else .eql) t X Y u v; binOp (if neq then .neq else .eql) t u v : Sem Value).run P w = .ok r w ∧ aR M L r z ∧ φ z ∧ ∀ own xs, z = .ap own xs → own = 0 := by
 unfold cM at h
 split at h
 ·rename_i a b
  cases hu; cases hv
  cases neq
  ·refine ⟨_, .bool (a == b), ?_, .bool (a == b), ?_, by intro _ _ e; cases e⟩
   ·simp only [Bool.false_eq_true, if_false, Sem.run_bind, eqGuard, Sem.run_pure, Result.andThen_ok, binOp, run_equal_bool ht]; rfl
   ·rw [pC]; exact h
  ·refine ⟨_, .bool (!(a == b)), ?_, .bool (!(a == b)), ?_, by intro _ _ e; cases e⟩
   ·simp only [if_true, Sem.run_bind, eqGuard, Sem.run_pure, Result.andThen_ok, binOp, run_equal_bool ht]; rfl
   ·rw [pC]; simpa using h
 ·exact h.elim
theorem Lz {op : UnOp} {u : Value} {x : AV} {φ : AV → Prop} (h : yH op x φ) (hu : aR M L u x) :
 ∃ r z, (Op.unary op u).run P w = .ok r w ∧ aR M L r z ∧ φ z ∧ ∀ own xs, z = .ap own xs → own = 0 := by
 unfold yH at h
 split at h
 ·cases hu; exact ⟨_, _, rfl, .bool _, h, by intro _ _ e; cases e⟩
 ·cases hu; exact ⟨_, _, rfl, .int _ _, h, by intro _ _ e; cases e⟩
 ·exact h.elim
theorem gP {cs : List Value} {b off : Nat} (hm : M.row b off cs) (iE : ∀ b o v, M b o = some v → w.cell? ⟨b, o, none⟩ = some v) :
 ∀ j v, cs[j]? = some v → w.cell? ((⟨b, off, none⟩ : Addr).add j) = some v := by
 intro j v hv
 rw [Addr.add_lit]
 exact iE _ _ _ (hm j v hv)
theorem ej {t : TypeId} {m : Nat} (h : HP P t = some none) : (isAgg t).run P w = .ok false w ∧ (P.info? t).map (·.size) = some 1 := by
 unfold HP at h
 split at h <;> try cases h
 rename_i i d h1 h2 hi hd
 split at h
 ·rename_i h3
  refine ⟨?_, by simp [hi, h3]⟩
  simp only [isAgg, Sem.run_bind, run_underlying hd, Result.andThen_ok]
  cases d <;> first | rfl | (exact absurd rfl (h1 _)) | (exact absurd rfl (h2 _ _))
 ·cases h
theorem jj {t : TypeId} {m : Nat} (h : HP P t = some (some m)) : (isAgg t).run P w = .ok true w ∧ (sizeOf t).run P w = .ok m w := by
 unfold HP at h
 split at h <;> try cases h
 ·rename_i i f hi hd
  refine ⟨?_, ?_⟩
  ·simp only [isAgg, Sem.run_bind, run_underlying hd, Result.andThen_ok]; rfl
  ·simp [sizeOf, typeInfo, hi]
 ·rename_i i l e hi hd
  refine ⟨?_, ?_⟩
  ·simp only [isAgg, Sem.run_bind, run_underlying hd, Result.andThen_ok]; rfl
  ·simp [sizeOf, typeInfo, hi]
 ·split at h <;> cases h
end
end Go.aK
end
section
namespace Go.aK
open Go
section
variable {P : Program} {w : World} {M : Mem} {L : List Nat} {H : List aa} {A : Perm} {ev : Nat → Value} {ea : Nat → AV} {O : Pos → Option Nat}
theorem eX (hs : St A M L w H ev ea O) {id b : Nat} {es : List AV} (bm : H[id]? = some (.cells es)) (hL : L[id]? = some b) :
 ∃ cs e, w.heap[b]? = some (.cells cs e (0, 0)) ∧ aJ M L cs.toList es ∧ ∀ j v, cs.toList[j]? = some v → w.cell? ⟨b, j, none⟩ = some v := by
 obtain ⟨cs, e, h1, h2, _⟩ := hs.obj id _ b bm hL
 exact ⟨cs, e, h1, h2, fun j v hv => by simpa [World.cell?, h1] using hv⟩
theorem dh {α : Type} (l : List α) (off m j : Nat) (v : α) (h : ((l.drop off).take m)[j]? = some v) : l[off + j]? = some v := by
 rw [List.getElem?_take] at h
 split at h
 ·rwa [List.getElem?_drop] at h
 ·cases h
theorem qU {sz : Option Nat} {t : TypeId} (ht : HP P t = some sz) {u : Value} {x : AV} {φ : AV → Prop} (hs : St A M L w H ev ea O) (h : aS sz x H φ) (hu : aR M L u x) :
 ∃ r z, (Instr.loadAt t u).run P w = .ok r w ∧ aR M L r z ∧ φ z ∧ ∀ own xs, z = .ap own xs → own = 0 := by
 unfold aS at h
 split at h
 ·rename_i id off
  cases hu with
  | ptr b _ _ hl =>
  split at h
  ·rename_i es bm
   obtain ⟨cs, e, h1, h2, h3⟩ := eX hs bm hl
   have hlen := h2.length
   cases sz with
   | some m =>
     obtain ⟨hm, hφ⟩ := h
     obtain ⟨r1, r2⟩ := jj (w := w) ht
     have iC : ((cs.toList.drop off).take m).length = m := by simp at hlen ⊢; omega
     have Ie := run_loadCells_list (P := P) w ⟨b, off, none⟩ ((cs.toList.drop off).take m) (fun j v hv => by rw [Addr.add_lit]; exact h3 _ _ (dh _ _ _ _ _ hv))
     rw [iC] at Ie
     refine ⟨.agg ((cs.toList.drop off).take m).toArray, .agg (((es.drop off).take m).map AV.drop), ?_, ?_, hφ, by intro _ _ e; cases e⟩
     ·simp only [Instr.loadAt, Instr.sureAddr, loadVar, Sem.run_bind, Sem.run_pure, Result.andThen_ok, r1, if_true, r2, Ie]
     ·have := aR.agg _ _ (((h2.drop off).take m).map_drop)
      simpa using this
   | none =>
     obtain ⟨hm, hφ⟩ := h
     obtain ⟨r1, r2⟩ := ej (w := w) (m := 0) ht
     have om : off < cs.toList.length := by omega
     have hcell := h3 off cs.toList[off] (by simp)
     have fo := h2.getD off
     refine ⟨cs.toList[off], _, ?_, ?_, hφ, AV.bI _⟩
     ·simp only [Instr.loadAt, Instr.sureAddr, loadVar, Sem.run_bind, Sem.run_pure, Result.andThen_ok, r1, Bool.false_eq_true, if_false, run_load, hcell]
     ·have e0 : cs.toList.getD off undef = cs.toList[off] := by rw [List.getD_eq_getElem?_getD, List.getElem?_eq_getElem om]; rfl
      rw [e0] at fo
      exact fo.ab
  ·exact h.elim
 ·rename_i y
  cases hu with
  | ai b off cs _ hr hm =>
  have hcells := gP hm hs.mem
  cases sz with
  | some m =>
    obtain ⟨LA, hφ⟩ := h
    obtain ⟨r1, r2⟩ := jj (w := w) ht
    have iC : cs.length = m := hr.length.trans LA
    have Ie := run_loadCells_list (P := P) w ⟨b, off, none⟩ cs hcells
    rw [iC] at Ie
    refine ⟨.agg cs.toArray, .agg y.cells, ?_, .agg cs y.cells hr, hφ, by intro _ _ e; cases e⟩
    simp only [Instr.loadAt, Instr.sureAddr, loadVar, Sem.run_bind, Sem.run_pure, Result.andThen_ok, r1, if_true, r2, Ie]
  | none =>
    obtain ⟨LA, hφ⟩ := h
    obtain ⟨r1, r2⟩ := ej (w := w) (m := 0) ht
    have hy : y.cells = [y] := by cases y <;> first | rfl | simp [AV.one] at LA
    rw [hy] at hr
    obtain ⟨v, rfl, hv⟩ := hr.EI
    have hcell := hcells 0 v (by simp)
    rw [Addr.add_lit, Nat.add_zero] at hcell
    refine ⟨v, _, ?_, hv.ab, hφ, AV.bI _⟩
    simp only [Instr.loadAt, Instr.sureAddr, loadVar, Sem.run_bind, Sem.run_pure, Result.andThen_ok, r1, Bool.false_eq_true, if_false, run_load, hcell]
 ·exact h.elim
def qV (P : Program) (s : TypeId) (f : Nat) : Option (Nat × Option Nat) :=
 match P.underlying s with
 | some (.struct fields) => match fields[f]? with
   | some fd => match HP P fd.type, dB P fd.type with
     | some sz, some k => if k = 0 then none else some (fd.offset, sz)
     | _, _ => none
   | none => none
 | _ => none
theorem sn {s : TypeId} {f off : Nat} {sz : Option Nat} (h : qV P s f = some (off, sz)) :
 ∃ fields fd k, P.underlying s = some (.struct fields) ∧ fields[f]? = some fd ∧ fd.offset = off ∧ HP P fd.type = some sz ∧ (P.info? fd.type).map (·.size) = some k ∧ k ≠ 0 := by
 unfold qV at h
 split at h <;> try cases h
 rename_i fields hu
 split at h <;> try cases h
 rename_i fd hf
 split at h <;> try cases h
 rename_i sz' k hs hk
 split at h <;> cases h
 rename_i K7
 exact ⟨fields, fd, k, hu, hf, rfl, hs, hk, K7⟩
theorem ue {s : TypeId} {f off : Nat} {sz : Option Nat} (ht : qV P s f = some (off, sz)) {u : Value} {x : AV} {φ : AV → Prop} (h : ak off sz x φ) (hu : aR M L u x) :
 ∃ r z, (Instr.fieldAt s u f).run P w = .ok r w ∧ aR M L r z ∧ φ z ∧ ∀ own xs, z = .ap own xs → own = 0 := by
 obtain ⟨fields, fd, k, Ig, hf, rfl, hs, hk, K7⟩ := sn ht
 have bG : ∀ b o, (Instr.fieldAt s (.pointer (some ⟨b, o, none⟩)) f).run P w = .ok (.pointer (some ⟨b, o + fd.offset, none⟩)) w := by
  intro b o
  obtain ⟨i, hi, LB⟩ := Option.map_eq_some_iff.1 hk
  have cT : (sizeOf fd.type).run P w = .ok k w := by simp [sizeOf, typeInfo, hi, LB]
  simp only [Instr.fieldAt, Instr.sureAddr, Sem.run_bind, run_underlying Ig, Result.andThen_ok, hf, Sem.run_pure, fieldPlace, cT, K7, if_false, Addr.add_lit]
 unfold ak at h
 split at h
 ·rename_i id o
  cases hu with
  | ptr b _ _ hl => exact ⟨_, _, bG b o, .ptr b (o + fd.offset) id hl, h, by intro _ _ e; cases e⟩
 ·rename_i y
  cases hu with
  | ai b o cs _ hr hm =>
  refine ⟨.pointer (some ⟨b, o + fd.offset, none⟩), ?_⟩
  unfold apart at h
  cases sz with
  | some m =>
    obtain ⟨hle, hφ⟩ := h
    refine ⟨_, bG b o, .ai b (o + fd.offset) ((cs.drop fd.offset).take m) _ (by simpa [AV.cells] using (hr.drop fd.offset).take m) ?_, hφ, by intro _ _ e; cases e⟩
    intro j v hv
    have := hm _ _ (dh _ _ _ _ _ hv)
    rwa [← Nat.add_assoc] at this
  | none =>
    obtain ⟨hle, h1, hφ⟩ := h
    have hl := hr.length
    have om : fd.offset < cs.length := by omega
    have hx : ∃ z, y.cells[fd.offset]? = some z := ⟨_, List.getElem?_eq_getElem hle⟩
    obtain ⟨z, hz⟩ := hx
    obtain ⟨v, hv, fo⟩ := hr.get _ z hz
    have e0 : y.cells.getD fd.offset .any = z := by rw [List.getD_eq_getElem?_getD, hz]; rfl
    rw [e0] at hφ h1
    have hag : z.cells = [z] := by cases z <;> first | rfl | simp [AV.one] at h1
    refine ⟨_, bG b o, .ai b (o + fd.offset) [v] z (by rw [hag]; exact .one fo) ?_, hφ, by intro _ _ e; cases e⟩
    intro j u' FZ
    cases j with
    | zero => simp at FZ; subst FZ; simpa using hm _ _ hv
    | succ j => simp at FZ
 ·exact h.elim
theorem C6 {s : TypeId} {f off : Nat} {sz : Option Nat} (ht : qV P s f = some (off, sz)) {u : Value} {x : AV} {φ : AV → Prop} (h : eI off sz x φ) (hu : aR M L u x) :
 ∃ r z, (Instr.field s u f).run P w = .ok r w ∧ aR M L r z ∧ φ z ∧ ∀ own xs, z = .ap own xs → own = 0 := by
 obtain ⟨fields, fd, k, Ig, hf, rfl, hs, hk, K7⟩ := sn ht
 unfold eI at h
 split at h
 ·rename_i xs
  cases hu with
  | agg cs _ hr =>
  unfold apart at h
  cases sz with
  | some m =>
    obtain ⟨hle, hφ⟩ := h
    obtain ⟨r1, r2⟩ := jj (w := w) hs
    refine ⟨.agg ((cs.drop fd.offset).take m).toArray, _, ?_, (aR.agg _ _ ((hr.drop fd.offset).take m)).drop, hφ, AV.jc _⟩
    simp only [Instr.field, Sem.run_bind, run_underlying Ig, Result.andThen_ok, hf, part, r1, if_true, asAgg, Sem.run_pure, r2]
    congr 2
    apply Array.ext'
    simp []
  | none =>
    obtain ⟨hle, h1, hφ⟩ := h
    obtain ⟨r1, r2⟩ := ej (w := w) (m := 0) hs
    have om : fd.offset < cs.length := by have := hr.length; omega
    have fo := hr.getD fd.offset
    have e0 : cs.getD fd.offset undef = cs[fd.offset] := by rw [List.getD_eq_getElem?_getD, List.getElem?_eq_getElem om]; rfl
    rw [e0] at fo
    refine ⟨cs[fd.offset], _, ?_, fo.drop, hφ, AV.jc _⟩
    simp [Instr.field, run_underlying Ig, hf, part, r1, asAgg, om]
 ·exact h.elim
theorem flat_get : ∀ (xs : List AV) (e : Nat), (∀ x ∈ xs, x.cells.length = e) → ∀ i j x, xs[i]? = some x → j < e → (flat xs)[i * e + j]? = x.cells[j]?
 | [], e, _, i, j, x, h, _ => by simp at h
 | y :: ys, e, hx, 0, j, x, h, hj => by
   simp at h; subst h
   have := hx y (by simp)
   simp only [flat, List.flatMap_cons, Nat.zero_mul, Nat.zero_add]
   rw [List.getElem?_append_left (by omega)]
 | y :: ys, e, hx, i + 1, j, x, h, hj => by
   have hy := hx y (by simp)
   have ih := flat_get ys e (fun x h => hx x (by simp [h])) i j x (by simpa using h) hj
   simp only [flat, List.flatMap_cons]
   rw [List.getElem?_append_right (by rw [hy, Nat.add_mul]; omega), hy, show (i + 1) * e + j - e = i * e + j by rw [Nat.add_mul]; omega]
   exact ih
theorem Ih {b off e : Nat} {cs : List Value} {xs : List AV} (hx : ∀ x ∈ xs, x.cells.length = e) (hr : aJ M L cs (flat xs)) (hm : M.row b off cs) {i : Nat} {x : AV} (hi : xs[i]? = some x) :
 aR M L (.pointer (some ⟨b, off + i * e, none⟩)) (.ai x) := by
 have hlen := hx x (List.mem_of_getElem? hi)
 refine .ai b (off + i * e) ((cs.drop (i * e)).take e) x ?_ ?_
 ·have h2 := (hr.drop (i * e)).take e
  have : ((flat xs).drop (i * e)).take e = x.cells := by
   apply List.ext_getElem?
   intro j
   rw [List.getElem?_take]
   split
   ·rename_i hj
    rw [List.getElem?_drop, flat_get xs e hx i j x hi hj]
   ·rename_i hj
    rw [List.getElem?_eq_none (by omega)]
  rwa [this] at h2
 ·intro j v hv
  have := hm _ _ (dh _ _ _ _ _ hv)
  rwa [← Nat.add_assoc] at this
theorem uf {t e esz : Nat} (ht : P.underlying t = some (.slice e)) (hz : dB P e = some esz) {u v : Value} {x y : AV} {φ : AV → Prop} (h : ay esz x y φ)
 (PT : ∀ own xs, x = .ap own xs → ∀ z ∈ xs, z.cells.length = esz) (hu : aR M L u x) (hv : aR M L v y) :
 ∃ r z, (Instr.indexAt t u v).run P w = .ok r w ∧ aR M L r z ∧ φ z ∧ ∀ own xs, z = .ap own xs → own = 0 := by
 have cT : (sizeOf e).run P w = .ok esz w := by
  obtain ⟨i, hi, LB⟩ := Option.map_eq_some_iff.1 hz
  simp [sizeOf, typeInfo, hi, LB]
 have bG : ∀ (b o len cap : Nat) (k : IntKind) (i : Int), 0 ≤ i → i.toNat < len → (Instr.indexAt t (.slice (some ⟨b, o, none⟩) len cap) (.int k i)).run P w = .ok (.pointer (some ⟨b, o + i.toNat * esz, none⟩)) w := by
  intro b o len cap k i h0 h1
  have hc : 0 ≤ i ∧ i < (len : Int) := ⟨h0, by omega⟩
  simp only [Instr.indexAt, asIntOf, Sem.run_bind, Sem.run_pure, Result.andThen_ok, run_underlying ht, hc, and_self, if_true, cT, Addr.add_lit]
 unfold ay at h
 split at h
 ·rename_i own xs k i
  obtain ⟨h0, h1, hφ⟩ := h
  cases hv
  have hi : xs[i.toNat]? = some (xs.getD i.toNat .any) := by rw [List.getD_eq_getElem?_getD, List.getElem?_eq_getElem h1]; rfl
  cases hu with
  | gb => simp at h1
  | ap b off c _ e' cs _ he hx hn hle hc hr hm =>
    have e0 : e' = esz := by
     have h2 := hx _ (List.mem_of_getElem? hi)
     have h3 := PT own xs rfl _ (List.mem_of_getElem? hi)
     omega
    subst e0
    exact ⟨_, _, bG b off _ c _ i h0 h1, Ih hx hr hm hi, hφ, by intro _ _ e; cases e⟩
 ·rename_i id off len cap k i
  obtain ⟨h0, h1, hφ⟩ := h
  cases hv
  cases hu with
  | bf b _ _ _ _ hl hc => exact ⟨_, _, bG b off len cap _ i h0 h1, .ptr b _ id hl, hφ, by intro _ _ e; cases e⟩
 ·exact h.elim
theorem wz {t e : TypeId} {n : Nat} (ht : P.underlying t = some (.array n e)) (he : HP P e = some none) {u v : Value} {x y : AV} {φ : AV → Prop} (h : bQ n x y φ) (hu : aR M L u x) (hv : aR M L v y) :
 ∃ r z, (Instr.index t u v).run P w = .ok r w ∧ aR M L r z ∧ φ z ∧ ∀ own xs, z = .ap own xs → own = 0 := by
 unfold bQ at h
 split at h
 ·rename_i xs k i
  obtain ⟨hn, h0, h1, hφ⟩ := h
  cases hv
  cases hu with
  | agg cs _ hr =>
  obtain ⟨r1, r2⟩ := ej (w := w) (m := 1) he
  have tA : i.toNat < cs.length := by have := hr.length; omega
  have fo := hr.getD i.toNat
  have e0 : cs.getD i.toNat undef = cs[i.toNat] := by rw [List.getD_eq_getElem?_getD, List.getElem?_eq_getElem tA]; rfl
  rw [e0] at fo
  refine ⟨cs[i.toNat], _, ?_, fo.drop, hφ, AV.jc _⟩
  have aY : i < (n : Int) := by omega
  obtain ⟨inf, iF, cT⟩ := Option.map_eq_some_iff.1 r2
  have rz : (sizeOf e).run P w = .ok 1 w := by simp [sizeOf, typeInfo, iF, cT]
  simp [Instr.index, asIntOf, run_underlying ht, h0, aY, part, r1, rz, tA]
 ·exact h.elim
theorem wA {t : TypeId} (ht : P.underlying t = some .string) {u v : Value} {x y : AV} {φ : AV → Prop} (h : bH x y φ) (hu : aR M L u x) (hv : aR M L v y) :
 ∃ r z, (Instr.index t u v).run P w = .ok r w ∧ aR M L r z ∧ φ z ∧ ∀ own xs, z = .ap own xs → own = 0 := by
 unfold bH at h
 split at h
 ·rename_i s k i
  obtain ⟨h0, h1, hφ⟩ := h
  cases hu; cases hv
  have e1 : s[i.toNat]? = some s[i.toNat] := by simp [h1]
  have e2 : s.data.toList.getD i.toNat 0 = s[i.toNat] := by
   have : i.toNat < s.data.size := h1
   rw [List.getD_eq_getElem?_getD, Array.getElem?_toList, Array.getElem?_eq_getElem this]; rfl
  rw [e2] at hφ
  refine ⟨_, _, ?_, .int _ _, hφ, by intro _ _ e; cases e⟩
  simp only [Instr.index, asIntOf, Sem.run_bind, Sem.run_pure, Result.andThen_ok, run_underlying ht, h0, if_true, e1]
 ·exact h.elim
def iG (d : TypeDesc) (x : AV) : Bool :=
 match d, x with
 | .string, .str _ => true
 | .slice _, .ah => true
 | .slice _, .ap _ _ => true
 | .slice _, .bf _ _ _ _ => true
 | .slice _, .oh => true
 | .map _ _, .iD => true
 | .map _ _, .map _ => true
 | _, _ => false
theorem Ii {t : TypeId} {d : TypeDesc} (ht : P.underlying t = some d) {u : Value} {x : AV} {φ : AV → Prop} (hs : St A M L w H ev ea O)
 (hk : iG d x = true)
 (h : eW x H φ) (hu : aR M L u x) (ty : TypeId) :
 ∃ r z, (Builtin.len_ #[t] ty #[u]).run P w = .ok r w ∧ aR M L r z ∧ φ z ∧ ∀ own xs, z = .ap own xs → own = 0 := by
 unfold eW at h
 split at h
 ·cases hu
  cases d <;> simp [iG] at hk
  exact ⟨_, _, by simp [Builtin.len_, run_underlying ht, goInt], .int _ _, h, by intro _ _ e; cases e⟩
 ·cases hu
  cases d <;> simp [iG] at hk
  exact ⟨_, _, by simp [Builtin.len_, run_underlying ht, goInt], .int _ _, h, by intro _ _ e; cases e⟩
 ·rename_i own xs
  cases d <;> simp [iG] at hk
  cases hu with
  | gb a c _ hc => exact ⟨_, _, by simp [Builtin.len_, run_underlying ht, goInt], .int _ _, h (by decide), by intro _ _ e; cases e⟩
  | ap b off c _ e' cs _ he hx hn hle hc hr hm => exact ⟨_, _, by simp [Builtin.len_, run_underlying ht, goInt], .int _ _, h (by omega), by intro _ _ e; cases e⟩
 ·cases d <;> simp [iG] at hk
  cases hu with
  | bf b off len cap id hl hc => exact ⟨_, _, by simp [Builtin.len_, run_underlying ht, goInt], .int _ _, h, by intro _ _ e; cases e⟩
 ·cases d <;> simp [iG] at hk
  cases hu with
  | oh a => exact ⟨_, _, by simp [Builtin.len_, run_underlying ht, goInt], .int _ _, h, by intro _ _ e; cases e⟩
 ·cases d <;> simp [iG] at hk
  cases hu
  exact ⟨_, _, by simp [Builtin.len_, run_underlying ht, goInt], .int _ _, h, by intro _ _ e; cases e⟩
 ·rename_i id
  cases d <;> simp [iG] at hk
  cases hu with
  | map b _ hl =>
  split at h
  ·rename_i es bm
   obtain ⟨ents, ck, h1, h2, h3⟩ := hs.obj id _ b bm hl
   have hlen : ents.size = es.length := by have := h2.length; simpa using this
   refine ⟨_, _, ?_, .int _ _, h, by intro _ _ e; cases e⟩
   simp [Builtin.len_, run_underlying ht, goInt, getObj, Sem.run, h1, hlen]
  ·exact h.elim
 ·exact h.elim
theorem yI {i : Nat} {u : Value} {x : AV} {φ : AV → Prop} (h : bC x i φ) (hu : aR M L u x) :
 ∃ r z, (Instr.extract u i).run P w = .ok r w ∧ aR M L r z ∧ φ z ∧ ∀ own xs, z = .ap own xs → own = 0 := by
 unfold bC at h
 split at h
 ·rename_i xs
  obtain ⟨hi, hφ⟩ := h
  cases hu with
  | tuple cs _ hr =>
  have hl := hr.length
  have fo := hr.getD i
  have e0 : cs.getD i undef = cs[i] := by rw [List.getD_eq_getElem?_getD, List.getElem?_eq_getElem (by omega)]; rfl
  rw [e0] at fo
  exact ⟨_, _, by simp [Instr.extract, show i < cs.length by omega], fo.ab, hφ, AV.bI _⟩
 ·exact h.elim
theorem wB {o : Oper} {X : Operand} {ρ : Operand → Value} (ho : o.op = .nilCheck X) {x : AV} {φ : AV → Prop} (h : bR x φ) (hu : aR M L (ρ X) x) :
 ∃ r z, (execOp ρ o).run P w = .ok (.value r) w ∧ aR M L r z ∧ φ z ∧ ∀ own xs, z = .ap own xs → own = 0 := by
 unfold bR at h
 simp only [execOp, ho]
 generalize hρ : ρ X = u at hu
 split at h
 ·cases hu; exact ⟨_, _, rfl, .ptr _ _ _ (by assumption), h, by intro _ _ e; cases e⟩
 ·cases hu; exact ⟨_, _, rfl, .ai _ _ _ _ (by assumption) (by assumption), h, by intro _ _ e; cases e⟩
 ·cases hu; exact ⟨_, _, rfl, .fn _ _ _ _ _ (by assumption) (by assumption), h, by intro _ _ e; cases e⟩
 ·exact h.elim
theorem yJ {src dst : TypeId} {d : TypeDesc} {k : IntKind} (hs : P.underlying src = some d) (hd : P.underlying dst = some (.int k)) {u : Value} {x : AV} {φ : AV → Prop} (h : cp k x φ) (hu : aR M L u x) :
 ∃ r z, (convert src dst u).run P w = .ok r w ∧ aR M L r z ∧ φ z ∧ ∀ own xs, z = .ap own xs → own = 0 := by
 unfold cp at h
 split at h
 ·rename_i k' n'
  cases hu
  refine ⟨_, _, ?_, .int _ _, h, by intro _ _ e; cases e⟩
  simp [convert, run_underlying hs, run_underlying hd, Conv.intToInt]
 ·exact h.elim
theorem EM {big : Bool} {u v : Value} {x y : AV} {φ : AV → Prop} (h : wy big x y φ) (hu : aR M L u x) (hv : aR M L v y) (ts : Array TypeId) (ty : TypeId) :
 ∃ r z, (if big then Builtin.max_ ts ty #[u, v] else Builtin.min_ ts ty #[u, v]).run P w = .ok r w ∧ aR M L r z ∧ φ z ∧ ∀ own xs, z = .ap own xs → own = 0 := by
 unfold wy at h
 split at h
 ·cases hu; cases hv
  cases big
  ·exact ⟨_, _, rfl, .int _ _, h, by intro _ _ e; cases e⟩
  ·exact ⟨_, _, rfl, .int _ _, h, by intro _ _ e; cases e⟩
 ·exact h.elim
end
end Go.aK
end
section
namespace Go.aK
open Go
def cC (zero : List AV) (parts : List (Nat × Nat × AV)) (φ : AV → Prop) : Prop := gI zero parts fun xs => φ (.agg xs)
def bh (xs : List AV) (esz : Nat) : List (Nat × AV) → (List AV → Prop) → Prop
 | [], φ => φ xs
 | (i, x) :: r, φ => x.val = true ∧ x.cells.length = esz ∧ i < xs.length ∧ bh (xs.set i (aT x)) esz r φ
where aT : AV → AV
 | .agg ys => .agg (ys.map AV.drop)
 | x => x.drop
abbrev aT := bh.aT
section
variable {M : Mem} {L : List Nat}
theorem aR.aT {v : Value} {x : AV} (h : aR M L v x) : aR M L v (aT x) := by
 cases x <;> first | exact h.drop | skip
 cases h with
 | agg cs _ hr => exact .agg cs _ hr.map_drop
theorem eJ (x : AV) : (aT x).cells.length = x.cells.length := by
 cases x <;> simp [bh.aT, AV.cells, AV.drop]
theorem qW {x : AV} (h : x.val = true) : (aT x).val = true := by
 cases x <;> simp_all [bh.aT, AV.val, AV.drop]
theorem C7 (x : AV) : ∀ own xs, aT x = .ap own xs → own = 0 := by
 intro own xs h
 cases x <;> simp_all [bh.aT, AV.drop]
end
section
variable {P : Program} {w : World} {M : Mem} {L : List Nat} {H : List aa} {A : Perm} {ev : Nat → Value} {ea : Nat → AV} {O : Pos → Option Nat}
theorem F0 (hs : St A M L w H ev ea O) (e : TypeId) {u : Value} {x : AV} (hu : aR M L u x) (hv : x.val = true) :
 ∃ r M' w', (Instr.box e u).run P w = .ok r w' ∧ aR M' L r (.ai x) ∧ St A M' L w' H ev ea O ∧ Ext A M w M' w' := by
 obtain ⟨h1, h2, h3⟩ := hs.C3 u.cells e
 exact ⟨_, _, _, rfl, .ai _ _ _ _ ((hu.fI hv).mono h2.kw (List.prefix_refl _)) h3, h1, h2⟩
theorem AL (hs : St A M L w H ev ea O) (e : TypeId) {u : Value} {x : AV} (hu : aR M L u x) (hv : x.val = true) (hb : aj (H.length + 1) (x.cells.map AV.ab) = true) :
 ∃ r L' w', (Instr.box e u).run P w = .ok r w' ∧ aR M L' r (.ptr H.length 0) ∧ St A M L' w' (H ++ [.cells (x.cells.map AV.ab)]) ev ea O ∧ Ext A M w M w' ∧ L <+: L' := by
 obtain ⟨h1, h2⟩ := hs.qS (.cells u.cells e) (.cells (x.cells.map AV.ab)) (fun w' hw hM => ⟨u.cells, e, hw, ((hu.fI hv).cU).mono (Mem.bM M) ⟨_, rfl⟩, hM⟩) hb (fun j => by
  simp only [mD]
  refine bb.free ?_
  intro own xs h
  rw [List.getD_eq_getElem?_getD, List.getElem?_map] at h
  cases hx : x.cells[j]? with
  | none => simp [hx] at h
  | some y => simp [hx] at h; exact AV.bI y own xs h)
 refine ⟨_, _, _, rfl, .ptr _ _ _ ?_, h1, h2, ⟨_, rfl⟩⟩
 rw [List.getElem?_append_right (by rw [hs.len]; exact Nat.le_refl _), hs.len]; simp
theorem C8 (hs : St A M L w H ev ea O) {e : TypeId} {z : AV} (hz : fw P e = some z) (hv : z.val = true) (hb : aj (H.length + 1) (z.cells.map AV.ab) = true) :
 ∃ r L' w', (Instr.alloc e true (.tuple #[])).run P w = .ok r w' ∧ aR M L' r (.ptr H.length 0) ∧ St A M L' w' (H ++ [.cells (z.cells.map AV.ab)]) ev ea O ∧ Ext A M w M w' ∧ L <+: L' := by
 unfold fw at hz
 split at hz
 ·rename_i i hi
  split at hz
  ·rename_i v so
   obtain ⟨r, L', w', h1, h2⟩ := AL (P := P) hs e (cA hz) hv hb
   refine ⟨r, L', w', ?_, h2⟩
   rw [← h1]
   simp only [Instr.alloc, Instr.box, zeroValue, typeInfo, Sem.run_bind, run_program, Result.andThen_ok, hi, Sem.run_pure, so]
  ·cases hz
 ·cases hz
theorem ug (vs : List Value) : ∀ (off k : Nat) (cs : Array Value), off + k + vs.length ≤ cs.size →
 ((vs.zipIdx k).foldl (fun cs (x : Value × Nat) => cs.setIfInBounds (off + x.2) x.1) cs).toList = ag cs.toList (off + k) vs := by
 induction vs with
 | nil => intro off k cs h; simp [ag]
 | cons v vs ih =>
   intro off k cs h
   simp only [List.zipIdx_cons, List.foldl_cons]
   rw [ih off (k + 1) _ (by simp at h ⊢; omega)]
   simp only [Array.toList_setIfInBounds, ag]
   simp only [List.length_cons] at h
   apply List.ext_getElem?
   intro j
   simp only [List.getElem?_append, List.getElem?_take, List.length_take, List.length_set, Array.length_toList, List.getElem?_drop, List.length_cons]
   by_cases h1 : j < off + k
   ·have : j < min (off + k) cs.size := by omega
    have : j < min (off + (k + 1)) cs.size := by omega
    simp only [*, if_true]
    rw [if_pos (by omega), List.getElem?_set_ne (by omega)]
   ·by_cases h2 : j = off + k
    ·subst h2
     have : off + k < min (off + (k + 1)) cs.size := by omega
     simp only [this, if_true]
     rw [if_pos (by omega), List.getElem?_set_self (by simp; omega), if_neg (by omega)]
     rw [show off + k - min (off + k) cs.size = 0 by omega]
     simp
    ·have n1 : ¬ j < min (off + (k + 1)) cs.size := by omega
     have n2 : ¬ j < min (off + k) cs.size := by omega
     simp only [n1, n2, if_false]
     rw [show j - min (off + k) cs.size = (j - min (off + (k + 1)) cs.size) + 1 by omega]
     simp only [Nat.add_lt_add_iff_right, List.getElem?_cons_succ]
     split
     ·rfl
     ·rw [List.getElem?_set_ne (by omega)]
      congr 1
      omega
theorem xf {place : Nat → Option (Nat × Nat)} : ∀ (parts : List (Nat × Nat × AV)) (vs : List (Nat × Value)) {cs : Array Value} {zs : List AV} {φ : List AV → Prop},
 (∀ (j : Nat) (p : Nat × Nat × AV), parts[j]? = some p → ∃ i v, vs[j]? = some (i, v) ∧ place i = some (p.1, p.2.1) ∧ aR M L v p.2.2) → vs.length = parts.length → aJ M L cs.toList zs → gI zs parts φ →
 ∃ cs' zs', Instr.fill place cs vs = some cs' ∧ aJ M L cs'.toList zs' ∧ φ zs'
 | [], [], cs, zs, φ, _, _, hr, h => ⟨cs, zs, rfl, hr, h⟩
 | [], _ :: _, _, _, _, _, hl, _, _ => by simp at hl
 | _ :: _, [], _, _, _, _, hl, _, _ => by simp at hl
 | (off, sz, x) :: r, (i, v) :: vs, cs, zs, φ, H, hl, hr, h => by
   obtain ⟨hv, cT, hle, h⟩ := h
   obtain ⟨i', v', e1, e2, e3⟩ := H 0 _ rfl
   simp at e1
   obtain ⟨rfl, rfl⟩ := e1
   have hlen := hr.length
   have hc := e3.fI hv
   have iC : v.cells.size = sz := by have := hc.length; simp at this; rw [this]; exact cT
   have mh : aJ M L (v.cells.zipIdx.foldl (fun cs (x : Value × Nat) => cs.setIfInBounds (off + x.2) x.1) cs).toList (ag zs off (x.cells.map AV.ab)) := by
    have h0 := ug v.cells.toList off 0 cs (by simp at hlen ⊢; omega)
    have h1 : v.cells.zipIdx.foldl (fun cs (x : Value × Nat) => cs.setIfInBounds (off + x.2) x.1) cs = (v.cells.toList.zipIdx 0).foldl (fun cs (x : Value × Nat) => cs.setIfInBounds (off + x.2) x.1) cs := by
     rw [← Array.foldl_toList, Array.toList_zipIdx]
    rw [h1, h0]
    exact hc.cU.yG off hr
   obtain ⟨cs', zs', f1, f2, f3⟩ := xf r vs (fun j p hp => by
    obtain ⟨i, v, a1, a2⟩ := H (j + 1) p (by simpa using hp)
    exact ⟨i, v, by simpa using a1, a2⟩) (by simpa using hl) mh h
   refine ⟨cs', zs', ?_, f2, f3⟩
   unfold Instr.fill
   simp only [e2]
   have TA : off + v.cells.size ≤ cs.size := by simp at hlen; omega
   simp only [iC, ne_eq, not_true_eq_false, decide_false, Bool.false_or]
   rw [if_neg (by simp; omega)]
   exact f1
def C9 (P : Program) (t : TypeId) : Option (AV × List (Nat × Nat)) :=
 match P.info? t, P.underlying t, fw P t with
 | some _, some (.struct fields), some z => match fields.toList.mapM (fun f => (P.info? f.type).map fun i => (f.offset, i.size)) with
   | some places => some (z, places)
   | none => none
 | some _, some (.array n e), some z => match P.info? e with
   | some ie => some (z, (List.range n).map fun i => (i * ie.size, ie.size))
   | none => none
 | _, _, _ => none
def eY (places : List (Nat × Nat)) : List (Nat × Operand) → Option (List (Nat × Nat × IX))
 | [] => some []
 | (i, x) :: r => match places[i]?, aP x, eY places r with
   | some (off, sz), some ix, some rest => some ((off, sz, ix) :: rest)
   | _, _, _ => none
theorem mJ {n : Nat} {env : Env} {a : Act} (hf : Fr A n M L w H env O a) {places : List (Nat × Nat)} {place : Nat → Option (Nat × Nat)} (hp : ∀ i q, places[i]? = some q → place i = some q) :
 ∀ (parts : List (Nat × Operand)) (ps : List (Nat × Nat × IX)), eY places parts = some ps →
  ∀ (j : Nat) (p : Nat × Nat × AV), (ps.map fun q => (q.1, q.2.1, al env q.2.2))[j]? = some p → ∃ i v, (parts.map fun q => (q.1, a.eval q.2))[j]? = some (i, v) ∧ place i = some (p.1, p.2.1) ∧ aR M L v p.2.2
 | [], ps, h, j, p, hj => by simp [eY] at h; subst h; simp at hj
 | (i, x) :: r, ps, h, j, p, hj => by
   unfold eY at h
   split at h
   ·rename_i off sz ix rest h1 h2 h3
    cases h
    cases j with
    | zero =>
      simp at hj; subst hj
      exact ⟨i, a.eval x, by simp, hp _ _ h1, hf.eval h2⟩
    | succ j =>
      obtain ⟨i', v', a1, a2⟩ := mJ hf hp r rest h3 j p (by simpa using hj)
      exact ⟨i', v', by simpa using a1, a2⟩
   ·cases h
theorem ky {places : List (Nat × Nat)} : ∀ (parts : List (Nat × Operand)) (ps : List (Nat × Nat × IX)), eY places parts = some ps → ps.length = parts.length
 | [], ps, h => by simp [eY] at h; subst h; rfl
 | (i, x) :: r, ps, h => by
   unfold eY at h
   split at h
   ·rename_i off sz ix rest h1 h2 h3
    cases h
    simp [ky r rest h3]
   ·cases h
theorem Da {n : Nat} {env : Env} {a : Act} (hf : Fr A n M L w H env O a) {t : TypeId} {z : AV} {places : List (Nat × Nat)} (ht : C9 P t = some (z, places)) {parts : Array (Nat × Operand)} {ps : List (Nat × Nat × IX)}
 (hc : eY places parts.toList = some ps) {φ : AV → Prop} (h : cC z.cells (ps.map fun q => (q.1, q.2.1, al env q.2.2)) φ) (so : z.val = true) :
 ∃ r x, (Instr.build t (parts.map fun (i, x) => (i, a.eval x))).run P w = .ok r w ∧ aR M L r x ∧ φ x ∧ ∀ own xs, x = .ap own xs → own = 0 := by
 have hparts : (parts.map fun (i, x) => (i, a.eval x)).toList = parts.toList.map fun q => (q.1, a.eval q.2) := by simp
 have key : ∀ (place : Nat → Option (Nat × Nat)) (v : Value), (∀ i q, places[i]? = some q → place i = some q) → ofValue v = some z →
  ∃ cs' x, Instr.fill place v.cells (parts.toList.map fun q => (q.1, a.eval q.2)) = some cs' ∧ aR M L (.agg cs') x ∧ φ x ∧ ∀ own xs, x = .ap own xs → own = 0 := by
  intro place v hp hv
  obtain ⟨cs', zs', f1, f2, f3⟩ := xf (M := M) (L := L) (place := place) _ (parts.toList.map fun q => (q.1, a.eval q.2)) (mJ hf hp _ _ hc) (by simp [ky _ _ hc]) ((cA hv).fI so) h
  exact ⟨cs', _, f1, by simpa using aR.agg cs'.toList zs' f2, f3, by intro _ _ e; cases e⟩
 unfold C9 at ht
 split at ht
 ·rename_i it fields z' hi hu hz
  split at ht
  ·rename_i pl wm
   cases ht
   unfold fw at hz
   simp only [hi] at hz
   split at hz
   ·rename_i v hv
    obtain ⟨cs', x, f1, f2, f3, f4⟩ := key (places.toArray[·]?) v (fun i q h => by simpa using h) hz
    refine ⟨_, x, run_build w t _ cs' ?_, f2, f3, f4⟩
    rw [hparts]
    unfold Program.built
    simp only [hi, hu, hv, wm]
    exact f1
   ·cases hz
  ·cases ht
 ·rename_i it m e z' hi hu hz
  split at ht
  ·rename_i ie Ij
   cases ht
   unfold fw at hz
   simp only [hi] at hz
   split at hz
   ·rename_i v hv
    obtain ⟨cs', x, f1, f2, f3, f4⟩ := key (fun i => some (i * ie.size, ie.size)) v (fun i q h => by
     rw [List.getElem?_map] at h
     obtain ⟨k, hk, rfl⟩ := Option.map_eq_some_iff.1 h
     rw [List.getElem?_range (by rcases Nat.lt_or_ge i m with h' | h'; exact h'; rw [List.getElem?_eq_none (by simpa using h')] at hk; cases hk)] at hk
     cases hk; rfl) hz
    refine ⟨_, x, run_build w t _ cs' ?_, f2, f3, f4⟩
    rw [hparts]
    unfold Program.built
    simp only [hi, hu, hv, Ij]
    exact f1
   ·cases hz
  ·cases ht
 ·cases ht
theorem AM : ∀ (xs : List AV) (e i : Nat) (x : AV), (∀ y ∈ xs, y.cells.length = e) → x.cells.length = e → i < xs.length → flat (xs.set i x) = ag (flat xs) (i * e) x.cells
 | [], _, _, _, _, _, h => by simp at h
 | y :: ys, e, 0, x, hx, hc, _ => by
   have := hx y (by simp)
   simp [flat, ag, hc, this]
 | y :: ys, e, i + 1, x, hx, hc, h => by
   have hy := hx y (by simp)
   have ih := AM ys e i x (fun z hz => hx z (by simp [hz])) hc (by simpa using h)
   simp only [flat] at ih
   simp only [List.set_cons_succ, flat, List.flatMap_cons, ih, ag]
   rw [List.take_append, List.take_of_length_le (l := y.cells) (by rw [hy, Nat.add_mul]; omega), List.drop_append, List.drop_eq_nil_of_le (as := y.cells) (by rw [hy, Nat.add_mul]; omega), hy]
   simp only [List.nil_append, List.append_assoc]
   rw [show (i + 1) * e - e = i * e by rw [Nat.add_mul]; omega, show (i + 1) * e + x.cells.length - e = i * e + x.cells.length by rw [Nat.add_mul]; omega]
theorem cB : ∀ (xs : List AV) (e : Nat), (∀ y ∈ xs, y.cells.length = e) → (flat xs).length = xs.length * e
 | [], e, _ => by simp [flat]
 | y :: ys, e, hx => by
   have hy := hx y (by simp)
   have ih := cB ys e (fun z hz => hx z (by simp [hz]))
   simp only [flat] at ih
   simp only [flat, List.flatMap_cons, List.length_append, hy, ih, List.length_cons, Nat.add_mul, Nat.one_mul]
   omega
theorem AN {place : Nat → Option (Nat × Nat)} {i off : Nat} {v : Value} {vs : List (Nat × Value)} {cs : Array Value} (hp : place i = some (off, v.cells.size)) (hle : off + v.cells.size ≤ cs.size) :
 Instr.fill place cs ((i, v) :: vs) = Instr.fill place (ag cs.toList off v.cells.toList).toArray vs := by
 have h0 := ug v.cells.toList off 0 cs (by simpa using hle)
 have h1 : v.cells.zipIdx.foldl (fun cs (x : Value × Nat) => cs.setIfInBounds (off + x.2) x.1) cs = (v.cells.toList.zipIdx 0).foldl (fun cs (x : Value × Nat) => cs.setIfInBounds (off + x.2) x.1) cs := by
  rw [← Array.foldl_toList, Array.toList_zipIdx]
 rw [← h1] at h0
 conv => lhs; unfold Instr.fill
 simp only [hp, ne_eq, not_true_eq_false, decide_false, Bool.false_or]
 rw [if_neg (by simp; omega)]
 congr 1
 apply Array.ext'
 simpa using h0
theorem mK (e : Nat) : ∀ (parts : List (Nat × AV)) (vs : List (Nat × Value)) {cs : Array Value} {xs : List AV} {φ : List AV → Prop},
 (∀ (j : Nat) (p : Nat × AV), parts[j]? = some p → ∃ v, vs[j]? = some (p.1, v) ∧ aR M L v p.2) → vs.length = parts.length → aJ M L cs.toList (flat xs) → (∀ y ∈ xs, y.cells.length = e) → bh xs e parts φ →
 ∃ cs' xs', Instr.fill (fun i => some (i * e, e)) cs vs = some cs' ∧ aJ M L cs'.toList (flat xs') ∧ (∀ y ∈ xs', y.cells.length = e) ∧ xs'.length = xs.length ∧ φ xs'
 | [], [], cs, xs, φ, _, _, hr, hx, h => ⟨cs, xs, rfl, hr, hx, rfl, h⟩
 | [], _ :: _, _, _, _, _, hl, _, _, _ => by simp at hl
 | _ :: _, [], _, _, _, _, hl, _, _, _ => by simp at hl
 | (i, x) :: r, (i', v) :: vs, cs, xs, φ, H, hl, hr, hx, h => by
   obtain ⟨hv, cT, hi, h⟩ := h
   obtain ⟨v', e1, e3⟩ := H 0 _ rfl
   simp at e1
   obtain ⟨rfl, rfl⟩ := e1
   have hc := (e3.aT).fI (qW hv)
   have iC : v.cells.size = e := by have := hc.length; simp at this; rw [this, eJ]; exact cT
   have hlen := hr.length
   rw [cB xs e hx] at hlen
   simp only [Array.length_toList] at hlen
   have hle : i' * e + v.cells.size ≤ cs.size := by
    rw [iC, hlen]
    calc i' * e + e = (i' + 1) * e := by rw [Nat.add_mul]; omega
     _ ≤ xs.length * e := Nat.mul_le_mul_right _ hi
   rw [AN (place := fun i => some (i * e, e)) (by rw [iC]) hle]
   have wo : ∀ y ∈ xs.set i' (aT x), y.cells.length = e := by
    intro y hy
    rcases List.mem_or_eq_of_mem_set hy with h' | rfl
    ·exact hx y h'
    ·rw [eJ]; exact cT
   have mh : aJ M L (ag cs.toList (i' * e) v.cells.toList).toArray.toList (flat (xs.set i' (aT x))) := by
    rw [AM xs e i' _ hx (by rw [eJ]; exact cT) hi]
    exact hc.yG _ hr
   obtain ⟨cs', xs', f1, f2, f3, f4, f5⟩ := mK e r vs (fun j p hp => by
    obtain ⟨v, a1, a2⟩ := H (j + 1) p (by simpa using hp)
    exact ⟨v, by simpa using a1, a2⟩) (by simpa using hl) mh wo h
   exact ⟨cs', xs', f1, f2, f3, by simpa using f4, f5⟩
def jk : List (Nat × Operand) → Option (List (Nat × IX))
 | [] => some []
 | (i, x) :: r => match aP x, jk r with
   | some ix, some rest => some ((i, ix) :: rest)
   | _, _ => none
theorem l9 {n : Nat} {env : Env} {a : Act} (hf : Fr A n M L w H env O a) :
 ∀ (parts : List (Nat × Operand)) (ps : List (Nat × IX)), jk parts = some ps →
  (∀ (j : Nat) (p : Nat × AV), (ps.map fun q => (q.1, al env q.2))[j]? = some p → ∃ v, (parts.map fun q => (q.1, a.eval q.2))[j]? = some (p.1, v) ∧ aR M L v p.2) ∧ ps.length = parts.length
 | [], ps, h => by simp [jk] at h; subst h; simp
 | (i, x) :: r, ps, h => by
   unfold jk at h
   split at h
   ·rename_i ix rest h2 h3
    cases h
    obtain ⟨i1, i2⟩ := l9 hf r rest h3
    refine ⟨fun j p hj => ?_, by simp [i2]⟩
    cases j with
    | zero =>
      simp at hj; subst hj
      exact ⟨a.eval x, by simp, hf.eval h2⟩
    | succ j =>
      obtain ⟨v', a1, a2⟩ := i1 j p (by simpa using hj)
      exact ⟨v', by simpa using a1, a2⟩
   ·cases h
theorem jl (z : Array Value) (e len : Nat) (hz : z.size = e) (he : 0 < e) (x : AV) (hr : aJ M L z.toList x.cells) :
 aJ M L (((Array.range (len * e)).map (z[· % z.size]!)).toList) (flat (List.replicate len x)) := by
 have Ik : x.cells.length = e := by rw [← hr.length]; simpa using hz
 have jm : ∀ y ∈ List.replicate len x, y.cells.length = e := fun y hy => by rw [List.eq_of_mem_replicate hy]; exact Ik
 apply aJ.yC
 ·rw [cB _ e jm]; simp
 ·intro j y hj
  have nG : j < len * e := by have := aM hj; rw [cB _ e jm] at this; simpa using this
  have hq : j / e < len := Nat.div_lt_of_lt_mul (by rw [Nat.mul_comm]; exact nG)
  have hm : j % e < e := Nat.mod_lt _ he
  have h1 := flat_get (List.replicate len x) e jm (j / e) (j % e) x (by simp [hq]) hm
  rw [show j / e * e + j % e = j from Nat.div_add_mod' j e] at h1
  rw [h1] at hj
  obtain ⟨v, hv, fo⟩ := hr.get _ _ hj
  refine ⟨v, ?_, fo⟩
  have iH : j % e < z.size := by omega
  simp only [Array.toList_map, Array.toList_range, List.getElem?_map, List.getElem?_range nG, Option.map_some, hz]
  simp only [Array.getElem?_toList] at hv
  simp [getElem!_pos, iH] at hv ⊢
  exact hv
theorem s8 (hs : St A M L w H ev ea O) {t e : TypeId} (ht : P.underlying t = some (.slice e)) {esz : Nat} (he : dB P e = some esz) (h0 : 0 < esz) {z : AV} (hz : fw P e = some z) (iH : z.cells.length = esz) (so : z.val = true) (own : Nat)
 {len : Nat} (hlen : len * esz ≤ 16777216) {parts : List (Nat × AV)} {vs : Array (Nat × Value)} (hp : ∀ (j : Nat) (p : Nat × AV), parts[j]? = some p → ∃ v, vs.toList[j]? = some (p.1, v) ∧ aR M L v p.2) (hl : vs.toList.length = parts.length)
 {φ : List AV → Prop} (h : bh (List.replicate len (aT z)) esz parts φ) :
 ∃ m xs M' w' ad, (Instr.buildSlice t len vs).run P w = .ok (.slice ad m m) w' ∧ aR M' L (.slice ad m m) (.ap own xs) ∧ (∀ y ∈ xs, y.cells.length = esz) ∧ φ xs ∧ St A M' L w' H ev ea O ∧ Ext A M w M' w' := by
 unfold fw at hz
 obtain ⟨ie, Ij, cT⟩ := Option.map_eq_some_iff.1 he
 simp only [Ij] at hz
 split at hz
 ·rename_i zv uh
  have AO := (cA (M := M) (L := L) hz).aT.fI (qW so)
  have tB : zv.cells.size = esz := by have := AO.length; rw [eJ, iH] at this; simpa using this
  obtain ⟨cs', xs', f1, f2, f3, f4, f5⟩ := mK (M := M) (L := L) esz parts vs.toList hp hl (jl zv.cells esz len tB h0 (aT z) AO) (fun y hy => by rw [List.eq_of_mem_replicate hy, eJ]; exact iH) h
  simp only [List.length_replicate] at f4
  obtain ⟨g1, g2, g3⟩ := hs.C3 cs' e
  have bG : (Instr.buildSlice t len vs).run P w = .ok (.slice (some ⟨w.heap.size, 0, none⟩) len len) { w with heap := w.heap.push (.cells cs' e) } := by
   by_cases mi : len * ie.size = 0
   ·have EN : len = 0 := by
     rcases Nat.mul_eq_zero.1 mi with h' | h'
     ·exact h'
     ·omega
    subst EN
    have LC : cs' = #[] := by
     have := f2.length
     rw [cB _ esz f3, f4] at this
     simp at this
     exact this
    have TB : vs.toList = [] := by
     cases wC : vs.toList with
     | nil => rfl
     | cons q r =>
       rw [wC] at hl
       cases parts with
       | nil => simp at hl
       | cons p ps => obtain ⟨_, _, h3, _⟩ := h; simp at h3
    subst LC
    have hf : Instr.fill (fun i => some (i * ie.size, ie.size)) #[] vs.toList = some #[] := by rw [TB]; rfl
    simp [Instr.buildSlice, run_underlying ht, sizeOf, typeInfo, Ij, newRow, TB, Instr.fill]
    congr 2
    apply Array.ext'
    simp
   ·rw [run_buildSlice w t e len vs cs' ie zv ht Ij uh (by rw [cT]; omega) mi (by rw [cT]; exact f1)]
    rfl
  refine ⟨len, xs', _, _, _, bG, ?_, f3, f5, g1, g2⟩
  by_cases EN : len = 0
  ·subst EN
   have : xs' = [] := List.eq_nil_of_length_eq_zero f4
   subst this
   exact .gb _ _ _ (by decide)
  ·have := aR.ap (M := M.add w.heap.size cs'.toList) (L := L) w.heap.size 0 len own esz cs'.toList xs' h0 f3 (by omega) (by omega) (by
    have : len ≤ len * esz := Nat.le_mul_of_pos_right _ h0
    omega) (f2.mono g2.kw (List.prefix_refl _)) g3
   rw [f4] at this
   exact this
 ·cases hz
end
end Go.aK
end
section
namespace Go.aK
open Go
def gQ (m : Nat) (p x : AV) (H : List aa) (K : List aa → Prop) : Prop :=
 match p with
 | .ptr id off => match H[id]? with
   | some (.cells es) => x.val = true ∧ x.cells.length = m ∧ off + m ≤ es.length ∧ x.cells.all AV.one = true ∧ aj (id + 1) (x.cells.map AV.ab) = true ∧
      K (H.set id (.cells (ag es off (x.cells.map AV.ab))))
   | _ => False
 | _ => False
theorem bw {n : Nat} {xs ys : List AV} : aj n (xs ++ ys) = true ↔ aj n xs = true ∧ aj n ys = true := by
 simp only [a9, List.mem_append]
 constructor
 ·intro h; exact ⟨fun x hx => h x (.inl hx), fun x hx => h x (.inr hx)⟩
 ·rintro ⟨h1, h2⟩ x (hx | hx)
  ·exact h1 x hx
  ·exact h2 x hx
theorem sq {n m : Nat} {xs : List AV} (h : aj n xs = true) : aj n (xs.take m) = true := by
 rw [a9] at *; exact fun x hx => h x (List.mem_of_mem_take hx)
theorem sr {n m : Nat} {xs : List AV} (h : aj n xs = true) : aj n (xs.drop m) = true := by
 rw [a9] at *; exact fun x hx => h x (List.mem_of_mem_drop hx)
theorem eK {α : Type} (zs : List α) (off : Nat) (xs : List α) (h : off + xs.length ≤ zs.length) (j : Nat) :
 (ag zs off xs)[j]? = if off ≤ j ∧ j < off + xs.length then xs[j - off]? else zs[j]? := by
 unfold ag
 simp only [List.getElem?_append, List.length_take, List.getElem?_take, List.getElem?_drop]
 by_cases h1 : j < off
 ·rw [if_pos (by omega), if_pos h1, if_neg (by omega)]
 ·rw [if_neg (by omega), show j - min off zs.length = j - off by omega]
  by_cases h2 : j < off + xs.length
  ·rw [if_pos (by omega), if_pos ⟨by omega, h2⟩]
  ·rw [if_neg (by omega), if_neg (by omega)]
   congr 1; omega
section
variable {P : Program} {w : World} {M : Mem} {L : List Nat} {H : List aa} {A : Perm} {ev : Nat → Value} {ea : Nat → AV} {O : Pos → Option Nat}
theorem ub.sub {O O' : Pos → Option Nat} (PU : ∀ p q b, O p = some b → O q = some b → p = q) (h : ∀ p b, O' p = some b → O p = some b) : ub O O' :=
 ⟨fun p q b hp hq => PU p q b (h p b hp) (h q b hq), fun p b hp => ⟨p, h p b hp⟩⟩
theorem xg (hs : St A M L w H ev ea O) {t : TypeId} {m : Nat} (ht : dB P t = some m) {v : Value} {x : AV} {id off b : Nat} {es : List AV} (hl : L[id]? = some b) (bm : H[id]? = some (.cells es)) (hv : aR M L v x)
 (lh : x.val = true) (hlen : x.cells.length = m) (hle : off + m ≤ es.length) (jZ : x.cells.all AV.one = true) (nF : aj (A.jb H.length id) (x.cells.map AV.ab) = true) :
 ∃ w' O', (Instr.storeAt t (.pointer (some ⟨b, off, none⟩)) v).run P w = .ok () w' ∧ St A M L w' (H.set id (.cells (ag es off (x.cells.map AV.ab)))) ev ea O' ∧ Ext A M w M w' := by
 obtain ⟨cs, e, h1, h2, h3⟩ := hs.obj id _ b bm hl
 have LD := hv.fI lh
 have pD := LD.length
 have iC := h2.length
 obtain ⟨i, hi, Il⟩ := Option.map_eq_some_iff.1 ht
 have cT : (sizeOf t).run P w = .ok m w := by simp [sizeOf, typeInfo, hi, Il]
 have bP := run_storeCells_at P b off e v.cells.toList 0 cs w h1 (by simp at iC ⊢; simp at pD; omega) (LD.gf jZ)
 have bG : (Instr.storeAt t (.pointer (some ⟨b, off, none⟩)) v).run P w = .ok () (w.setRow b (ag cs.toList off v.cells.toList).toArray) := by
  simp only [Instr.storeAt, Instr.sureAddr, storeVar, Sem.run_bind, Sem.run_pure, Result.andThen_ok, cT, ne_eq]
  rw [if_neg (by simp at pD; omega)]
  simpa [ag] using bP
 let O' : Pos → Option Nat := fun q => match q with
  | .t t => O (.t t)
  | .c id' j => if id' = id ∧ off ≤ j ∧ j < off + m then none else O (.c id' j)
 have hO : ∀ q b, O' q = some b → O q = some b := by
  intro q b hq
  cases q with
  | t t => exact hq
  | c id' j =>
    simp only [O'] at hq
    split at hq
    ·cases hq
    ·exact hq
 have K6 : off + (x.cells.map AV.ab).length ≤ es.length := by simp; omega
 have X6 : off + v.cells.toList.length ≤ cs.toList.length := by omega
 obtain ⟨g1, g2⟩ := hs.write (cs' := (ag cs.toList off v.cells.toList).toArray) (es' := ag es off (x.cells.map AV.ab)) (O' := O') bm hl h1
  (by simpa using LD.cU.yG off h2)
  (by
    have bP := hs.bB id _ bm
    simp only [aa.a7] at bP
    unfold ag
    exact bw.2 ⟨sq bP, bw.2 ⟨nF, sr bP⟩⟩)
  (ub.sub hs.bY hO) hs.env hs.gH (by
  intro j
  have e1 : ((ag cs.toList off v.cells.toList).toArray)[j]? = (ag cs.toList off v.cells.toList)[j]? := by simp
  rw [e1, eK _ _ _ X6, List.getD_eq_getElem?_getD, eK _ _ _ K6]
  simp only [List.length_map]
  have e2 : v.cells.toList.length = x.cells.length := pD
  rw [e2, hlen]
  by_cases hj : off ≤ j ∧ j < off + m
  ·simp only [hj, and_self, if_true]
   have : O' (.c id j) = none := by simp [O', hj]
   rw [this]
   refine bb.free ?_
   intro own xs hh
   rw [List.getElem?_map] at hh
   cases hx : x.cells[j - off]? with
   | none => simp [hx] at hh
   | some y => simp [hx] at hh; exact AV.bI y own xs hh
  ·simp only [hj, if_false]
   have : O' (.c id j) = O (.c id j) := by simp only [O']; rw [if_neg (by intro h'; exact hj h'.2)]
   rw [this]
   have h0 := hs.gE id j
   have e3 : bJ L w id j = (cs.toList[j]?).getD undef := by
    unfold bJ; simp [hl, World.cell?, h1]
   have e4 : bp H id j = (es[j]?).getD .any := by
    unfold bp; simp [bm, List.getD_eq_getElem?_getD]
   rw [e3, e4] at h0
   exact h0)
  (by intro id' j dS; simp [O', dS])
 exact ⟨_, _, bG, g1, g2⟩
theorem Db (hs : St A M L w H ev ea O) {t : TypeId} {m : Nat} (ht : dB P t = some m) {u v : Value} {p x : AV} {K : List aa → Prop} (h : gQ m p x H K) (hu : aR M L u p) (hv : aR M L v x) :
 ∃ w' H' O', (Instr.storeAt t u v).run P w = .ok () w' ∧ K H' ∧ St A M L w' H' ev ea O' ∧ Ext A M w M w' := by
 unfold gQ at h
 split at h <;> try exact h.elim
 rename_i id off
 cases hu with
 | ptr b _ _ hl =>
 split at h <;> try exact h.elim
 rename_i es bm
 obtain ⟨lh, hlen, hle, jZ, nF, hK⟩ := h
 obtain ⟨w', O', h1, h2, h3⟩ := xg hs ht hl bm hv lh hlen hle jZ (bF (A.k7 (aM bm)) _ nF)
 exact ⟨w', _, O', h1, hK, h2, h3⟩
def gh (lo m : Nat) (p x : AV) (H : List aa) (K : List aa → Prop) : Prop :=
 match p with
 | .ptr id off => match H[id]? with
   | some (.cells es) => lo ≤ id ∧ x.val = true ∧ x.cells.length = m ∧ off + m ≤ es.length ∧ x.cells.all AV.one = true ∧ aj H.length (x.cells.map AV.ab) = true ∧
      K (H.set id (.cells (ag es off (x.cells.map AV.ab))))
   | _ => False
 | _ => False
theorem AP (hs : St A M L w H ev ea O) {t : TypeId} {m lo : Nat} (ui : ∀ id, lo ≤ id → A.top id = none) (ht : dB P t = some m) {u v : Value} {p x : AV} {K : List aa → Prop} (h : gh lo m p x H K) (hu : aR M L u p) (hv : aR M L v x) :
 ∃ w' H' O', (Instr.storeAt t u v).run P w = .ok () w' ∧ K H' ∧ St A M L w' H' ev ea O' ∧ Ext A M w M w' := by
 unfold gh at h
 split at h <;> try exact h.elim
 rename_i id off
 cases hu with
 | ptr b _ _ hl =>
 split at h <;> try exact h.elim
 rename_i es bm
 obtain ⟨hi, lh, hlen, hle, jZ, nF, hK⟩ := h
 have e : A.jb H.length id = H.length := by unfold Perm.jb; rw [ui id hi]
 obtain ⟨w', O', h1, h2, h3⟩ := xg hs ht hl bm hv lh hlen hle jZ (by rw [e]; exact nF)
 exact ⟨w', _, O', h1, hK, h2, h3⟩
theorem St.F3 (hs : St A M L w H ev ea O) {id b off : Nat} {es : List AV} (bm : H[id]? = some (.cells es)) (hl : L[id]? = some b) (om : off < es.length) :
 St A M L w (H.set id (.cells (es.set off (es.getD off .any).ab))) ev ea (dV O (.c id off) none) := by
 obtain ⟨cs, e, h1, h2, h3⟩ := hs.obj id _ b bm hl
 have iC := h2.length
 have hO : ∀ q b, dV O (.c id off) none q = some b → O q = some b := by
  intro q b hq
  simp only [dV] at hq
  split at hq
  ·cases hq
  ·exact hq
 have hgetD : es.getD off .any = es[off] := by rw [List.getD_eq_getElem?_getD, List.getElem?_eq_getElem om]; rfl
 have fo : aJ M L cs.toList (es.set off (es.getD off .any).ab) := by
  have hg := (h2.getD off).ab
  have := h2.set hg off
  have yK : off < cs.toList.length := by omega
  have e0 : cs.toList.set off (cs.toList.getD off undef) = cs.toList := by
   rw [List.getD_eq_getElem?_getD, List.getElem?_eq_getElem yK]
   exact List.set_getElem_self yK
  rwa [e0] at this
 obtain ⟨g1, g2⟩ := hs.write (cs' := cs) (es' := es.set off (es.getD off .any).ab) (O' := dV O (.c id off) none) bm hl h1 fo (by
  have bP := hs.bB id _ bm
  simp only [aa.a7] at bP
  rw [a9] at bP ⊢
  intro y hy
  rcases List.mem_or_eq_of_mem_set hy with h' | rfl
  ·exact bP y h'
  ·have hb := bP es[off] (List.getElem_mem om)
   rw [hgetD]
   revert hb
   cases es[off] <;> simp [AV.ab, AV.a7]) (ub.sub hs.bY hO) hs.env (fun t => by simpa [dV] using hs.gH t) (fun j => by
  by_cases hj : j = off
  ·subst hj
   have e1 : (es.set j (es.getD j .any).ab).getD j .any = (es.getD j .any).ab := by
    rw [List.getD_eq_getElem?_getD, List.getElem?_set_self om]; rfl
   rw [e1]
   simp only [dV, if_true]
   exact bb.free (AV.bI _)
  ·have e1 : (es.set off (es.getD off .any).ab).getD j .any = es.getD j .any := by
    rw [List.getD_eq_getElem?_getD, List.getElem?_set_ne (fun e => hj e.symm), List.getD_eq_getElem?_getD]
   rw [e1]
   have h0 := hs.gE id j
   have e3 : bJ L w id j = (cs[j]?).getD undef := by unfold bJ; simp [hl, World.cell?, h1]
   have e4 : bp H id j = es.getD j .any := by unfold bp; simp [bm]
   rw [e3, e4] at h0
   simpa [dV, hj] using h0) (fun id' j dS => by simp [dV, dS])
 rwa [setRow_self w b cs e (0, 0) h1] at g1
def dM (p x : AV) (H : List aa) (K : List aa → Prop) : Prop :=
 match p with
 | .ptr id off => match H[id]? with
   | some (.cells es) => off < es.length ∧ x.one = true ∧ x.a7 (id + 1) = true ∧ K (H.set id (.cells (es.set off x)))
   | _ => False
 | _ => False
theorem yL (hs : St A M L w H ev ea O) {t : TypeId} (ht : dB P t = some 1) {u v : Value} {p x : AV} {K : List aa → Prop} (h : dM p x H K) (hu : aR M L u p) (s : Nat) (TC : ev s = v) (hea : ea s = x) :
 ∃ w' H' O', (Instr.storeAt t u v).run P w = .ok () w' ∧ K H' ∧ St A M L w' H' ev (fe ea s x.ab) O' ∧ Ext A M w M w' := by
 unfold dM at h
 split at h <;> try exact h.elim
 rename_i id off
 cases hu with
 | ptr b _ _ hl =>
 split at h <;> try exact h.elim
 rename_i es bm
 obtain ⟨om, jZ, nF, hK⟩ := h
 obtain ⟨cs, e, h1, h2, h3⟩ := hs.obj id _ b bm hl
 have hv : aR M L v x := by have := hs.env s; rwa [TC, hea] at this
 have iC := h2.length
 have hv1 : v.oneCell' = true := hv.gf jZ
 have LD : v.cells = #[v] := by cases v <;> first | rfl | simp [Value.oneCell'] at hv1
 obtain ⟨i, hi, Il⟩ := Option.map_eq_some_iff.1 ht
 have cT : (sizeOf t).run P w = .ok 1 w := by simp [sizeOf, typeInfo, hi, Il]
 have yK : off < cs.toList.length := by omega
 have bP := run_storeCells_at P b off e [v] 0 cs w h1 (by simp at yK ⊢; omega) (by simpa using hv1)
 have fV : cs.toList.take off ++ [v] ++ cs.toList.drop (off + 1) = cs.toList.set off v := by
  rw [List.set_eq_take_append_cons_drop, if_pos yK]; simp
 have bG : (Instr.storeAt t (.pointer (some ⟨b, off, none⟩)) v).run P w = .ok () (w.setRow b (cs.toList.set off v).toArray) := by
  simp only [Instr.storeAt, Instr.sureAddr, storeVar, Sem.run_bind, Sem.run_pure, Result.andThen_ok, cT, ne_eq, LD]
  rw [if_neg (by simp)]
  rw [← fV]
  simpa using bP
 -- the slot forgets, the cell takes over
 have mL := hs.ol s (v := v) (x := x.ab) hv.ab (AV.bI x)
 have PV : fe ev s v = ev := by funext t'; simp only [fe]; split; rename_i e0; rw [e0, TC]; rfl
 rw [PV] at mL
 let O' : Pos → Option Nat := fun q => if q = .c id off then O (.t s) else dV O (.t s) none q
 have PU : ub O O' := by
  refine ⟨fun q r b hq hr => ?_, fun q b hq => ?_⟩
  ·simp only [O', dV] at hq hr
   split at hq <;> split at hr
   ·simp_all
   ·split at hr
    ·cases hr
    ·rename_i n1 n2; exact absurd (hs.bY _ _ b hr hq) n2
   ·split at hq
    ·cases hq
    ·rename_i n1 n2; exact absurd (hs.bY _ _ b hq hr) (by assumption)
   ·split at hq
    ·cases hq
    ·split at hr
     ·cases hr
     ·exact hs.bY _ _ b hq hr
  ·simp only [O', dV] at hq
   split at hq
   ·exact ⟨_, hq⟩
   ·split at hq
    ·cases hq
    ·exact ⟨_, hq⟩
 obtain ⟨g1, g2⟩ := St.write (h := hs) (cs' := (cs.toList.set off v).toArray) (es' := es.set off x) (ea' := fe ea s x.ab) (O' := O') bm hl h1 (by simpa using h2.set hv off) (by
  have bP := hs.bB id _ bm
  simp only [aa.a7] at bP
  rw [a9] at bP ⊢
  intro y hy
  rcases List.mem_or_eq_of_mem_set hy with h' | rfl
  ·exact bP y h'
  ·exact AV.cE (A.k7 (aM bm)) _ nF) PU mL.env (fun t' => by simpa [O', dV] using mL.gH t') (fun j => by
  by_cases hj : j = off
  ·subst hj
   have e1 : ((cs.toList.set j v).toArray)[j]? = some v := by rw [List.getElem?_toArray, List.getElem?_set_self yK]
   have e2 : (es.set j x).getD j .any = x := by rw [List.getD_eq_getElem?_getD, List.getElem?_set_self om]; rfl
   rw [e1, e2]
   have := hs.gH s
   rw [TC, hea] at this
   simpa [O'] using this
  ·have e1 : ((cs.toList.set off v).toArray)[j]? = cs[j]? := by
    simp [List.getElem?_set_ne (fun e => hj e.symm)]
   have e2 : (es.set off x).getD j .any = es.getD j .any := by rw [List.getD_eq_getElem?_getD, List.getElem?_set_ne (fun e => hj e.symm), List.getD_eq_getElem?_getD]
   rw [e1, e2]
   have h0 := hs.gE id j
   have e3 : bJ L w id j = (cs[j]?).getD undef := by unfold bJ; simp [hl, World.cell?, h1]
   have e4 : bp H id j = es.getD j .any := by unfold bp; simp [bm]
   rw [e3, e4] at h0
   simpa [O', dV, hj] using h0) (fun id' j dS => by simp [O', dV, dS])
 exact ⟨_, _, _, bG, hK, g1, g2⟩
theorem jN (P : Program) (g o : Nat) (t : TypeId) (fr : Nat × Nat) : ∀ (vs : List Value) (i : Nat) (cur : Array Value) (w : World), w.heap[g]? = some (.cells cur t fr) → Lv fr cur.size → o + i + vs.length ≤ cur.size → (∀ v ∈ vs, v.oneCell' = true) →
 (storeCells ⟨g, o, none⟩ vs i).run P w = .ok () (w.setRow g (ag cur.toList (o + i) vs).toArray)
 | [], i, cur, w, hg, _, _, _ => by
   simp only [storeCells, ag, List.length_nil, Nat.add_zero, List.nil_append, List.take_append_drop, Array.toArray_toList]
   rw [setRow_self w g cur t fr hg]
   rfl
 | v :: rest, i, cur, w, hg, hf, hl, h1 => by
   have hi : o + i < cur.size := by simp at hl; omega
   have X7 : (⟨g, o, none⟩ : Addr).add i = ⟨g, o + i, none⟩ := Addr.add_lit _ _ _
   have hcell : w.cell? ⟨g, o + i, none⟩ = some cur[o + i] := by simp [World.cell?, hg, hi]
   have X8 : w.frozen? ⟨g, o + i, none⟩ = false := by
    have := hf (o + i) hi
    simp only [World.frozen?, hg]
    cases h : (decide (fr.1 ≤ o + i) && decide (o + i < fr.2)) with
    | false => rfl
    | true => simp at h; exact absurd h this
   have bP : (store ((⟨g, o, none⟩ : Addr).add i) v).run P w = .ok () (w.setRow g (cur.setIfInBounds (o + i) v)) := by
    rw [X7, run_store P w _ v _ (h1 v (by simp)), hcell]
    simp [X8, setCell_eq_setRow w g (o + i) cur t fr v hg]
   have ih := jN P g o t fr rest (i + 1) (cur.setIfInBounds (o + i) v) (w.setRow g (cur.setIfInBounds (o + i) v)) (setRow_heap w g cur _ t _ hg) (by simpa using hf) (by simp at hl ⊢; omega) (fun x hx => h1 x (by simp [hx]))
   simp only [storeCells, Sem.run_bind, bP, Result.andThen_ok, ih, setRow_setRow]
   congr 3
   apply List.ext_getElem?
   intro j
   rw [eK _ _ _ (by simp at hl ⊢; omega), eK _ _ _ (by simpa using hl)]
   simp only [Array.toList_setIfInBounds, List.length_cons]
   by_cases h2 : j = o + i
   ·subst h2
    rw [if_neg (by omega), if_pos (by omega), List.getElem?_set_self (by simpa using hi)]
    simp
   ·by_cases h3 : o + i < j ∧ j < o + i + (rest.length + 1)
    ·rw [if_pos (by omega), if_pos (by omega), show j - (o + i) = (j - (o + (i + 1))) + 1 by omega]
     simp
    ·rw [if_neg (by omega), if_neg (by omega), List.getElem?_set_ne (by omega)]
theorem fJ {t ty e e' : TypeId} {i : TypeInfo} (ht : P.underlying t = some (.slice e)) (hi : P.info? e = some i) (w : World)
 (g o sLen sCap : Nat) (cur : Array Value) (fr : Nat × Nat) (hg : w.heap[g]? = some (.cells cur e' fr)) (CX : Lv fr cur.size)
 (a : Addr) (m c : Nat) (news : List Value) (hl : news.length = m * i.size) (hnews : ∀ j u, news[j]? = some u → w.cell? (a.add j) = some u) (h1 : ∀ u ∈ news, u.oneCell' = true)
 (hroom : sLen + m ≤ sCap) (s9 : o + sLen * i.size + news.length ≤ cur.size) :
 (Builtin.append_ #[t, t] ty #[.slice (some ⟨g, o, none⟩) sLen sCap, .slice (some a) m c]).run P w =
   .ok (.slice (some ⟨g, o, none⟩) (sLen + m) sCap) (w.setRow g (ag cur.toList (o + sLen * i.size) news).toArray) := by
 have hf := run_firstCells_some (P := P) w i.size m a m c news hl hnews
 have bP := jN P g (o + sLen * i.size) e' fr news 0 cur w hg CX (by simpa using s9) h1
 simp only [Nat.add_zero] at bP
 simp [Builtin.append_, run_underlying ht, sizeOf, typeInfo, hi, Builtin.lenOf, hroom, hf, Addr.add_lit, bP]
theorem di {t ty e : TypeId} {i : TypeInfo} (ht : P.underlying t = some (.slice e)) (hi : P.info? e = some i) (w : World) (b : Option Addr) (n c : Nat) (Ow : n ≤ c) (b' : Option Addr) (c' : Nat) :
 (Builtin.append_ #[t, t] ty #[.slice b n c, .slice b' 0 c']).run P w = .ok (.slice b n c) w := by
 have hf : (Builtin.firstCells i.size 0 (.slice b' 0 c')).run P w = .ok #[] w := by
  cases b' with
  | none => exact run_firstCells_none w _ _ _ _
  | some a => exact run_firstCells_some w i.size 0 a 0 c' [] (by simp) (by simp)
 cases b with
 | none => simp [Builtin.append_, run_underlying ht, sizeOf, typeInfo, hi, Builtin.lenOf, Ow, hf]
 | some a => simp [Builtin.append_, run_underlying ht, sizeOf, typeInfo, hi, Builtin.lenOf, Ow, hf, storeCells]
def ma (esz : Nat) : AV → Option (List AV)
 | .ah => some []
 | .ap own xs => if own = esz then some xs else none
 | _ => none
def dz : AV → Option (List AV)
 | .ah => some []
 | .ap _ xs => some xs
 | _ => none
def ta (esz : Nat) (ys : List AV) : Prop := ∀ y ∈ ys, y.cells.length = esz ∧ y.cells.all AV.one = true
def Mem.kz (M : Mem) (b off : Nat) (cs : List Value) : Mem := fun b' o => if b' = b ∧ off ≤ o ∧ o < off + cs.length then cs[o - off]? else M b' o
theorem St.inPlace (hs : St A M L w H ev ea O) {p : Pos} {b : Nat} (hp : O p = some b) {cur : Array Value} {e : TypeId} {fr : Nat × Nat} (hg : w.heap[b]? = some (.cells cur e fr)) {off : Nat} {news : List Value}
 (s9 : off + news.length ≤ cur.size) (hnone : ∀ k, k < news.length → M b (off + k) = none)
 {ea' : Nat → AV} (C4 : ∀ t, aR M L (ev t) (ea' t)) (X9 : ∀ t, bb M w (ev t) (ea' t) (dV O p none (.t t))) (Ya : ∀ id j, bb M w (bJ L w id j) (bp H id j) (dV O p none (.c id j))) :
 St A (M.kz b off news) L (w.setRow b (ag cur.toList off news).toArray) H ev ea' (dV O p none) ∧ Ext A M w (M.kz b off news) (w.setRow b (ag cur.toList off news).toArray) ∧ (M.kz b off news).row b off news := by
 have xe : b ∉ L := hs.cc p b hp
 have cT : (w.setRow b (ag cur.toList off news).toArray).heap.size = w.heap.size := by simp [World.setRow]
 have fH : ∀ k, k ≠ b → (w.setRow b (ag cur.toList off news).toArray).heap[k]? = w.heap[k]? := fun k hk => setRow_other w b k _ hk
 have mh := setRow_heap w b cur (ag cur.toList off news).toArray e fr hg
 have fG : M.sub (M.kz b off news) := by
  intro b' o v hv
  unfold Mem.kz
  split
  ·rename_i h
   obtain ⟨rfl, h1, h2⟩ := h
   have := hnone (o - off) (by omega)
   rw [show off + (o - off) = o by omega, hv] at this
   cases this
  ·exact hv
 have TD : ∀ k, k ≠ b → ∀ o, (M.kz b off news) k o = M k o := by
  intro k hk o
  unfold Mem.kz
  rw [if_neg (fun h => hk h.1)]
 have tb : ∀ q k, dV O p none q = some k → k ≠ b := by
  intro q k hq hk
  subst hk
  simp only [dV] at hq
  split at hq
  ·cases hq
  ·rename_i n; exact n (hs.bY _ _ _ hq hp)
 have hO : ∀ q k, dV O p none q = some k → O q = some k := by
  intro q k hq
  simp only [dV] at hq
  split at hq
  ·cases hq
  ·exact hq
 have Dc : off + news.length ≤ cur.toList.length := by simpa using s9
 refine ⟨{ len := hs.len, nodup := hs.nodup, env := fun t => (C4 t).mono fG (List.prefix_refl _), mem := ?_, obj := ?_, bB := hs.bB, lt := ?_, gH := ?_, gE := ?_, bY := fun q r k hq hr => hs.bY q r k (hO q k hq) (hO r k hr), cc := fun q k hq => hs.cc q k (hO q k hq), eT := ?_, La := hs.La, Oa := fun q k hq => hs.Oa q k (hO q k hq), fresh := ?_ }, ?_, ?_⟩
 ·intro b' o v hv
  by_cases hb : b' = b
  ·subst hb
   simp only [World.cell?, mh]
   have e1 : ((ag cur.toList off news).toArray)[o]? = (ag cur.toList off news)[o]? := by simp
   simp only [Option.isSome_none, Bool.false_eq_true, if_false]
   rw [e1, eK _ _ _ Dc]
   unfold Mem.kz at hv
   split at hv
   ·rename_i h; rw [if_pos h.2]; exact hv
   ·rename_i h
    rw [if_neg (fun h' => h ⟨rfl, h'⟩)]
    have := hs.mem _ o v hv
    simpa [World.cell?, hg] using this
  ·rw [TD b' hb o] at hv
   have := hs.mem b' o v hv
   simp only [World.cell?] at this ⊢
   rw [fH b' hb]; exact this
 ·intro id o k ho hk
  have CW : k ≠ b := by rintro rfl; exact xe (List.mem_of_getElem? hk)
  exact (hs.obj id o k ho hk).mono fG (List.prefix_refl _) (fH k CW) (TD k CW)
 ·intro k hk; rw [cT]; exact hs.lt k hk
 ·intro t
  exact (X9 t).mono fun k hk => ⟨fH k (tb _ k hk), TD k (tb _ k hk)⟩
 ·intro id j
  have e1 : bJ L (w.setRow b (ag cur.toList off news).toArray) id j = bJ L w id j := by
   unfold bJ
   split
   ·rename_i k hk
    have CW : k ≠ b := by rintro rfl; exact xe (List.mem_of_getElem? hk)
    simp only [World.cell?]
    rw [fH k CW]
   ·rfl
  rw [e1]
  exact (Ya id j).mono fun k hk => ⟨fH k (tb _ k hk), TD k (tb _ k hk)⟩
 ·intro q k hq; rw [cT]; exact hs.eT q k (hO q k hq)
 ·intro k hk; rw [cT] at hk; exact hs.fresh k hk
 ·exact ⟨fG, by rw [cT]; exact Nat.le_refl _, rfl, rfl, rfl, fun k hk hA => ⟨fH k (fun e0 => hA (e0 ▸ hs.Oa p b hp)), TD k (fun e0 => hA (e0 ▸ hs.Oa p b hp))⟩, fun k r hk => ⟨r, (fH k (fun e0 => by rw [e0, hg] at hk; cases hk)).trans hk, rfl⟩⟩
 ·intro j v hv
  have hj := aM hv
  show Mem.kz M b off news b (off + j) = some v
  unfold Mem.kz
  rw [if_pos ⟨rfl, by omega, by omega⟩, show off + j - off = j by omega]
  exact hv
theorem St.newRow (hs : St A M L w H ev ea O) (e : TypeId) {esz need cap : Nat} (h0 : 0 < esz) {rw rest : List Value} {zs : List AV} (hl : rw.length = need * esz) (hc : rw.length + rest.length = cap * esz) (cF : cap < 9223372036854775808) (Ow : need ≤ cap) (hn : 0 < need)
 (hz : zs.length = need) (hx : ∀ y ∈ zs, y.cells.length = esz) (hr : aJ M L rw (flat zs)) (cs : Array Value) (xh : cs.toList = rw ++ rest) :
 ∃ M', aR M' L (.slice (some ⟨w.heap.size, 0, none⟩) need cap) (.ap esz zs) ∧ bb M' { w with heap := w.heap.push (.cells cs e) } (.slice (some ⟨w.heap.size, 0, none⟩) need cap) (.ap esz zs) (some w.heap.size) ∧
  St A M' L { w with heap := w.heap.push (.cells cs e) } H ev ea O ∧ Ext A M w M' { w with heap := w.heap.push (.cells cs e) } := by
 obtain ⟨g1, g2, g3⟩ := hs.pA cs e (0, 0) rw (fun j v hv => by
  have : cs.toList[j]? = some v := by rw [xh, List.getElem?_append_left (aM hv)]; exact hv
  simpa using this)
 refine ⟨_, ?_, ?_, g1, g2⟩
 ·subst hz
  exact .ap _ _ _ _ esz rw zs h0 hx hn Ow cF (hr.mono g2.kw (List.prefix_refl _)) g3
 ·unfold bb
  simp only [Nat.ne_of_gt h0, if_false]
  refine ⟨hx, .inr ⟨_, 0, need, cap, cs, e, (0, 0), rfl, rfl, dA w _, nD _, ?_, ?_⟩⟩
  ·have : cs.size = cap * esz := by rw [← Array.length_toList, xh, List.length_append]; exact hc
   omega
  ·intro k hk _
   simp only [Mem.add, if_true, Nat.zero_add]
   exact List.getElem?_eq_none (by omega)
theorem tC {bs : Option Addr} {n c own : Nat} {xs : List AV} (h : aR M L (.slice bs n c) (.ap own xs)) :
 n = xs.length ∧ ((xs = [] ∧ n = 0) ∨ ∃ b off cs, bs = some ⟨b, off, none⟩ ∧ aJ M L cs (flat xs) ∧ M.row b off cs) := by
 generalize hv : Value.slice bs n c = v at h
 cases h with
 | gb a c _ hc => cases hv; exact ⟨rfl, .inl ⟨rfl, rfl⟩⟩
 | ap b off c _ e cs _ he hx hn hle hc hr hm => cases hv; exact ⟨rfl, .inr ⟨b, off, cs, rfl, hr, hm⟩⟩
def bE (esz bytes : Nat) (s x : AV) (φ : List AV → Prop) : Prop :=
 match ma esz s, dz x with
 | some xs, some ys => (xs.length + ys.length) * bytes ≤ 140737488355328 ∧ ta esz ys ∧ φ (xs ++ ys)
 | _, _ => False
def IX.slot : IX → Option Nat
 | .t n => some n
 | .c _ => none
def j3 (ea : Nat → AV) (s : Option Nat) : Nat → AV := match s with | some d => fe ea d (ea d).ab | none => ea
theorem F4 {esz : Nat} {s : AV} {xs : List AV} (hs : ma esz s = some xs) {u : Value} (hu : aR M L u s) : aR M L u (.ap esz xs) ∧ (s = .ah ∧ u = .slice none 0 0 ∨ s = .ap esz xs) := by
 unfold ma at hs
 split at hs
 ·cases hs; cases hu; exact ⟨.gb _ _ _ (by decide), .inl ⟨rfl, rfl⟩⟩
 ·rename_i own ys
  split at hs
  ·rename_i e; cases hs; subst e; exact ⟨hu, .inr rfl⟩
  ·cases hs
 ·cases hs
theorem lj {esz : Nat} {x : AV} {ys : List AV} (hx : dz x = some ys) (jK : ta esz ys) {u : Value} (hu : aR M L u x) :
 (ys = [] ∧ ∃ b c, u = .slice b 0 c) ∨ (0 < ys.length ∧ ∃ b off c news, u = .slice (some ⟨b, off, none⟩) ys.length c ∧ aJ M L news (flat ys) ∧ M.row b off news ∧ news.length = ys.length * esz) := by
 have key : ∀ own, aR M L u (.ap own ys) → (ys = [] ∧ ∃ b c, u = .slice b 0 c) ∨ (0 < ys.length ∧ ∃ b off c news, u = .slice (some ⟨b, off, none⟩) ys.length c ∧ aJ M L news (flat ys) ∧ M.row b off news ∧ news.length = ys.length * esz) := by
  intro own h
  cases h with
  | gb a c _ hc => exact .inl ⟨rfl, _, _, rfl⟩
  | ap b off c _ e cs _ he hx hn hle hc hr hm =>
    refine .inr ⟨hn, b, off, c, cs, rfl, hr, hm, ?_⟩
    rw [hr.length, cB ys esz (fun y hy => (jK y hy).1)]
 unfold dz at hx
 split at hx
 ·cases hx; cases hu; exact .inl ⟨rfl, _, _, rfl⟩
 ·rename_i own zs; cases hx; exact key own hu
 ·cases hx
theorem sv (xs ys : List AV) : flat (xs ++ ys) = flat xs ++ flat ys := by simp [flat]
theorem AQ {ys : List AV} {esz : Nat} (h : ta esz ys) : (flat ys).all AV.one = true := by
 rw [List.all_eq_true]
 intro x hx
 simp only [flat, List.mem_flatMap] at hx
 obtain ⟨y, hy, hxy⟩ := hx
 exact List.all_eq_true.1 (h y hy).2 x hxy
theorem AR (hs : St A M L w H ev ea O) {t ty e : TypeId} {i : TypeInfo} {z : Value} {esz bytes : Nat} (ht : P.underlying t = some (.slice e)) (hi : P.info? e = some i) (hz : i.zero = some z) (cT : i.size = esz) (xi : i.bytes = bytes) (tB : z.cells.size = esz) (h0 : 0 < esz) (uj : 0 < bytes)
 {u v : Value} {s x : AV} {φ : List AV → Prop} (h : bE esz bytes s x φ) (slot : Option Nat) (hu : aR M L u s) (LF : match slot with | some d => ev d = u ∧ ea d = s | none => s = .ah) (hv : aR M L v x) :
 ∃ r w' M' O' ob zs, (Builtin.append_ #[t, t] ty #[u, v]).run P w = .ok r w' ∧ φ zs ∧ aR M' L r (.ap esz zs) ∧ bb M' w' r (.ap esz zs) ob ∧ St A M' L w' H ev (j3 ea slot) O' ∧ Ext A M w M' w' ∧
  (∀ q b, ob = some b → O' q ≠ some b) ∧ (∀ b, ob = some b → b ∉ L ∧ b < w'.heap.size ∧ A b) := by
 unfold bE at h
 split at h <;> try exact h.elim
 rename_i xs ys fp pv
 obtain ⟨hbound, jK, hφ⟩ := h
 obtain ⟨yM, hcase⟩ := F4 fp hu
 have hesz0 : esz ≠ 0 := by omega
 -- the slot forgets what it owned
 have hforget : ∃ O1 ob1, St A M L w H ev (j3 ea slot) O1 ∧ bb M w u (.ap esz xs) ob1 ∧ (∀ q b, ob1 = some b → O1 q ≠ some b) ∧ (∀ b, ob1 = some b → b ∉ L ∧ b < w.heap.size ∧ A b ∧ ∃ d, slot = some d ∧ O (.t d) = some b ∧ O1 = dV O (.t d) none) := by
  have tc : u = .slice none 0 0 → s = .ah → bb M w u (.ap esz xs) none := by
   rintro rfl rfl
   simp [ma] at fp; subst fp
   simp only [bb, hesz0, if_false]
   exact ⟨by simp, .inl ⟨trivial, none, 0, rfl⟩⟩
  cases slot with
  | none =>
    simp only at LF
    subst LF
    cases hu
    exact ⟨O, none, hs, tc rfl rfl, (by intro q b e; cases e), (by intro b e; cases e)⟩
  | some d =>
    simp only at LF
    have mL := hs.ol d (v := u) (x := (ea d).ab) (by rw [LF.2]; exact hu.ab) (AV.bI _)
    have PV : fe ev d u = ev := by funext t'; simp only [fe]; split; rename_i e0; rw [e0, LF.1]; rfl
    rw [PV] at mL
    rcases hcase with ⟨h1, h2⟩ | h1
    ·exact ⟨_, none, mL, tc h2 h1, (by intro q b e; cases e), (by intro b e; cases e)⟩
    ·refine ⟨_, O (.t d), mL, ?_, ?_, ?_⟩
     ·have := hs.gH d
      rwa [LF.1, LF.2, h1] at this
     ·intro q b hb hq
      simp only [dV] at hq
      split at hq
      ·cases hq
      ·rename_i n; exact n (hs.bY _ _ b hq hb)
     ·intro b hb
      exact ⟨hs.cc _ b hb, hs.eT _ b hb, hs.Oa _ b hb, d, rfl, hb, rfl⟩
 obtain ⟨O1, ob1, Oz, LG, Im, F5⟩ := hforget
 have Ik : ∀ y ∈ xs, y.cells.length = esz := by
  have := LG
  simp only [bb, hesz0, if_false] at this
  exact this.1
 have hform : ∃ bs n c, u = .slice bs n c ∧ n = xs.length ∧ n ≤ c ∧ c < 9223372036854775808 := by
  cases yM with
  | gb a c _ hc => exact ⟨a, 0, c, rfl, rfl, Nat.zero_le _, hc⟩
  | ap b off c _ e cs _ he hx hn hle hc hr hm => exact ⟨_, _, c, rfl, rfl, hle, hc⟩
 rcases lj pv jK hv with ⟨rfl, b', c', rfl⟩ | ⟨AS, b2, o2, c2, news, rfl, yN, PW, xj⟩
 ·-- nothing is appended
  obtain ⟨bs, n, c, rfl, hn, Ow, hc⟩ := hform
  refine ⟨_, w, M, O1, ob1, xs ++ [], di ht hi w bs n c Ow b' c', hφ, by simpa using yM, by simpa using LG, Oz, Ext.refl A M w, Im, fun b hb => ⟨(F5 b hb).1, (F5 b hb).2.1, (F5 b hb).2.2.1⟩⟩
 ·have hnews : ∀ j u, news[j]? = some u → w.cell? ((⟨b2, o2, none⟩ : Addr).add j) = some u := gP PW hs.mem
  have jZ := yN.gf (AQ jK)
  have hlen : (xs.length + ys.length) ≤ 140737488355328 := Nat.le_trans (Nat.le_mul_of_pos_right _ uj) hbound
  have iH : ∀ y ∈ xs ++ ys, y.cells.length = esz := by
   intro y hy
   rcases List.mem_append.1 hy with h' | h'
   ·exact Ik y h'
   ·exact (jK y h').1
  -- a new row
  have grow : ∀ (olds : List Value) (oldCap : Nat) (w' : World), aJ M L olds (flat xs) → olds.length = xs.length * esz → w' = w.drew.alloc (.cells (olds.toArray ++ news.toArray ++ Builtin.zeroCells z.cells (grownCap w (xs.length + ys.length) oldCap e - (xs.length + ys.length))) e) →
   (Builtin.append_ #[t, t] ty #[u, .slice (some ⟨b2, o2, none⟩) ys.length c2]).run P w = .ok (.slice (some ⟨w.heap.size, 0, none⟩) (xs.length + ys.length) (grownCap w (xs.length + ys.length) oldCap e)) w' →
   ∃ r w' M' O' ob zs, (Builtin.append_ #[t, t] ty #[u, .slice (some ⟨b2, o2, none⟩) ys.length c2]).run P w = .ok r w' ∧ φ zs ∧ aR M' L r (.ap esz zs) ∧ bb M' w' r (.ap esz zs) ob ∧ St A M' L w' H ev (j3 ea slot) O' ∧ Ext A M w M' w' ∧
    (∀ q b, ob = some b → O' q ≠ some b) ∧ (∀ b, ob = some b → b ∉ L ∧ b < w'.heap.size ∧ A b) := by
   intro olds oldCap w' TE hol Io bG
   have iW := grownCap_ge w (xs.length + ys.length) oldCap e
   have hle := grownCap_le_maxLen w (xs.length + ys.length) oldCap e (by simp only [maxLen]; omega)
   simp only [maxLen] at hle
   have hd := Oz.drew
   obtain ⟨M', k1, k2, k3, k4⟩ := hd.newRow e (need := xs.length + ys.length) (cap := grownCap w (xs.length + ys.length) oldCap e) h0 (rw := olds ++ news) (rest := (Builtin.zeroCells z.cells (grownCap w (xs.length + ys.length) oldCap e - (xs.length + ys.length))).toList) (zs := xs ++ ys)
    (by rw [List.length_append, hol, xj, Nat.add_mul]) (by
      have hzc : (Builtin.zeroCells z.cells (grownCap w (xs.length + ys.length) oldCap e - (xs.length + ys.length))).toList.length = (grownCap w (xs.length + ys.length) oldCap e - (xs.length + ys.length)) * esz := by
       rw [Array.length_toList, size_zeroCells, tB]
      rw [List.length_append, hol, xj, hzc, ← Nat.add_mul, ← Nat.add_mul]
      congr 1; omega) (by omega) iW (by omega) (by simp) iH (by rw [sv]; exact TE.append yN)
    (olds.toArray ++ news.toArray ++ Builtin.zeroCells z.cells (grownCap w (xs.length + ys.length) oldCap e - (xs.length + ys.length))) (by simp)
   have cq : Ext A M w M' { { w with drawn := w.drawn + 1 } with heap := w.heap.push (.cells (olds.toArray ++ news.toArray ++ Builtin.zeroCells z.cells (grownCap w (xs.length + ys.length) oldCap e - (xs.length + ys.length))) e) } := Ext.drew.trans k4
   have Xy : w' = { { w with drawn := w.drawn + 1 } with heap := w.heap.push (.cells (olds.toArray ++ news.toArray ++ Builtin.zeroCells z.cells (grownCap w (xs.length + ys.length) oldCap e - (xs.length + ys.length))) e) } := Io
   refine ⟨_, _, M', O1, some w.heap.size, xs ++ ys, bG, hφ, k1, by rw [Xy]; exact k2, by rw [Xy]; exact k3, by rw [Xy]; exact cq, ?_, ?_⟩
   ·intro q b hb hq
    cases hb
    exact absurd (Oz.eT q _ hq) (Nat.lt_irrefl _)
   ·intro b hb
    cases hb
    refine ⟨fun hm => absurd (hs.lt _ hm) (Nat.lt_irrefl _), by rw [Xy]; simp, hs.fresh _ (Nat.le_refl _)⟩
  obtain ⟨bs, n, c, rfl, hn, Ow, hc⟩ := hform
  subst hn
  by_cases hroom : xs.length + ys.length ≤ c
  ·-- in place
   have Dc := LG
   simp only [bb, hesz0, if_false] at Dc
   rcases Dc.2 with ⟨_, a, n, hn⟩ | ⟨b, off, n, c', cs, e', fr, e1, e2, e3, e4, e5, e6⟩
   ·cases hn; omega
   ·cases e2
    obtain ⟨f1, f2, f3, d, rfl, f5, rfl⟩ := F5 b e1
    have Yb : news.length = ys.length * i.size := by rw [cT]; exact xj
    have wD : (xs.length + ys.length) * esz ≤ c * esz := Nat.mul_le_mul_right _ hroom
    rw [Nat.add_mul] at wD
    have s9 : off + xs.length * esz + news.length ≤ cs.size := by rw [xj]; omega
    have bG := fJ (P := P) (ty := ty) ht hi w b off xs.length c cs fr e3 e4 ⟨b2, o2, none⟩ ys.length c2 news Yb hnews jZ hroom (by rw [cT]; exact s9)
    rw [cT] at bG
    have hnone : ∀ k, k < news.length → M b (off + xs.length * esz + k) = none := by
     intro k hk
     rw [Nat.add_assoc]
     exact e6 _ (by omega) (by rw [xj] at hk; omega)
    have PX : ∀ t', aR M L (ev t') (j3 ea (some d) t') := Oz.env
    obtain ⟨g1, g2, g3⟩ := hs.inPlace (p := .t d) f5 e3 s9 hnone (ea' := j3 ea (some d)) PX Oz.gH (fun id j => by simpa [dV] using hs.gE id j)
    refine ⟨_, _, _, _, some b, xs ++ ys, bG, hφ, ?_, ?_, g1, g2, ?_, ?_⟩
    ·-- what it reads as
     have mh : aJ (M.kz b (off + xs.length * esz) news) L news (flat ys) := yN.mono g2.kw (List.prefix_refl _)
     have hold : ∃ olds, aJ M L olds (flat xs) ∧ M.row b off olds ∧ olds.length = xs.length * esz := by
      rcases (tC yM).2 with ⟨h', _⟩ | ⟨b1, off1, cs1, TF, hr, hm⟩
      ·subst h'; exact ⟨[], .nil, by intro j v hv; simp at hv, by simp⟩
      ·cases TF; exact ⟨cs1, hr, hm, by rw [hr.length, cB xs esz Ik]⟩
     obtain ⟨olds, o1, o2', o3⟩ := hold
     have := aR.ap (M := M.kz b (off + xs.length * esz) news) (L := L) b off c esz esz (olds ++ news) (xs ++ ys) h0 iH (by simp; omega) (by simpa using hroom) hc (by rw [sv]; exact (o1.mono g2.kw (List.prefix_refl _)).append mh) (by
      intro j v hv
      rw [List.getElem?_append] at hv
      split at hv
      ·exact g2.kw _ _ _ (o2' j v hv)
      ·rename_i hj
       have := g3 _ v hv
       rwa [show off + xs.length * esz + (j - olds.length) = off + j by omega] at this)
     simpa using this
    ·simp only [bb, hesz0, if_false]
     refine ⟨iH, .inr ⟨b, off, xs.length + ys.length, c, (ag cs.toList (off + xs.length * esz) news).toArray, e', fr, rfl, by simp, setRow_heap w b cs _ e' fr e3, ?_, ?_, ?_⟩⟩
     ·have : (ag cs.toList (off + xs.length * esz) news).toArray.size = cs.size := by
       rw [List.size_toArray, mI _ _ _ (by simpa using s9)]; simp
      rw [this]; exact e4
     ·rw [List.size_toArray, mI _ _ _ (by simpa using s9)]; simpa using e5
     ·intro k hk PN
      unfold Mem.kz
      rw [Nat.add_mul] at hk
      rw [if_neg (by rw [xj]; omega)]
      exact e6 k (by omega) PN
    ·intro q b' hb hq
     cases hb
     exact Im q b e1 hq
    ·intro b' hb
     cases hb
     refine ⟨f1, ?_, f3⟩
     simpa [World.setRow] using f2
  ·-- a new one
   have hbound' : (xs.length + ys.length) * i.bytes ≤ 140737488355328 := by rw [xi]; exact hbound
   cases bs with
   | none =>
     have Ip : xs.length = 0 := by
      rcases (tC yM).2 with ⟨_, h'⟩ | ⟨b1, off1, cs1, TF, _⟩
      ·exact h'
      ·cases TF
     have LC : c = 0 := by
      have Dc := LG
      simp only [bb, hesz0, if_false] at Dc
      rcases Dc.2 with ⟨_, a, n, hn⟩ | ⟨b, off, n, c', cs, e', fr, e1, e2, _⟩
      ·cases hn; exact Ip
      ·cases e2
     have hxnil : xs = [] := List.eq_nil_of_length_eq_zero Ip
     subst hxnil
     subst LC
     have hr := run_append_nil (P := P) w t ty e i z ht hi hz ⟨b2, o2, none⟩ ys.length c2 news (by rw [cT]; exact xj) hnews AS (by omega) (by simp at hbound'; omega)
     refine grow [] 0 _ (by exact .nil) (by simp) rfl ?_
     simpa using hr
   | some a =>
     have hold : ∃ olds, aJ M L olds (flat xs) ∧ (∀ j v, olds[j]? = some v → w.cell? (a.add j) = some v) ∧ olds.length = xs.length * esz := by
      rcases (tC yM).2 with ⟨h', _⟩ | ⟨b1, off1, cs1, TF, hr, hm⟩
      ·subst h'; exact ⟨[], .nil, by intro j v hv; simp at hv, by simp⟩
      ·cases TF; exact ⟨cs1, hr, gP hm hs.mem, by rw [hr.length, cB xs esz Ik]⟩
     obtain ⟨olds, o1, o2', o3⟩ := hold
     have hr := run_append_grow (P := P) w t ty e i z ht hi hz a xs.length c olds (by rw [cT]; exact o3) o2' ⟨b2, o2, none⟩ ys.length c2 news (by rw [cT]; exact xj) hnews (by omega) (by omega) (growslice_fits (by omega) hbound')
     exact grow olds c _ o1 o3 rfl hr
end
end Go.aK
end
section
namespace Go.aK
open Go
def bN : AV → AV
 | .agg ys => .agg (ys.map AV.drop)
 | z => z
section
variable {P : Program} {w : World} {M : Mem} {L : List Nat} {H : List aa} {A : Perm} {ev : Nat → Value} {ea : Nat → AV} {O : Pos → Option Nat}
theorem iX (z : AV) : (bN z).cells.length = z.cells.length := by cases z <;> simp [bN, AV.cells]
theorem aR.bN {v : Value} {z : AV} (h : aR M L v z) : aR M L v (bN z) := by
 cases z <;> first | exact h | skip
 cases h with
 | agg cs _ hr => exact .agg cs _ hr.map_drop
theorem oO {x : AV} (h : x.val = true) : (Go.aK.bN x).val = true := by
 cases x <;> simp_all [Go.aK.bN, AV.val]
def fK (esz bytes : Nat) (z n : AV) (H : List aa) (K : AV → List aa → Prop) : Prop :=
 match n with
 | .int .i64 n => 0 ≤ n ∧ n.toNat * bytes ≤ 140737488355328 ∧ aj (H.length + 1) (flat (List.replicate n.toNat (bN z))) = true ∧
    K (.bf H.length 0 n.toNat n.toNat) (H ++ [.cells (flat (List.replicate n.toNat (bN z)))])
 | _ => False
theorem run_mk {t e : TypeId} {i : TypeInfo} {z : Value} {esz bytes : Nat} (ht : P.underlying t = some (.slice e)) (hi : P.info? e = some i) (hz : i.zero = some z) (cT : i.size = esz) (xi : i.bytes = bytes) (tB : z.cells.size = esz) (h0 : 0 < esz) (uj : 0 < bytes)
 (l c : Int) (EN : 0 ≤ l) (yK : l ≤ c) (hc : c.toNat * bytes ≤ 140737488355328) (w : World) :
 ∃ cs : Array Value, (Instr.makeSlice t (.int .i64 l) (.int .i64 c)).run P w = .ok (.slice (some ⟨w.heap.size, 0, none⟩) l.toNat c.toNat) { w with heap := w.heap.push (.cells cs e) } ∧ cs = (Array.range (c.toNat * esz)).map (z.cells[· % z.cells.size]!) := by
 have iC : c.toNat ≤ 140737488355328 := Nat.le_trans (Nat.le_mul_of_pos_right _ uj) hc
 have LC : 0 ≤ c := by omega
 have w1 : IntKind.i64.wrap l = l := by
  have : IntKind.i64.bits = 64 := rfl
  have : IntKind.i64.signed = true := rfl
  simp only [IntKind.wrap, *]
  have : l % 2 ^ 64 = l := Int.emod_eq_of_lt EN (by omega)
  rw [this]
  rw [if_neg (by simp; omega)]
 have w2 : IntKind.i64.wrap c = c := by
  have : IntKind.i64.bits = 64 := rfl
  have : IntKind.i64.signed = true := rfl
  simp only [IntKind.wrap, *]
  have : c % 2 ^ 64 = c := Int.emod_eq_of_lt LC (by omega)
  rw [this]
  rw [if_neg (by simp; omega)]
 have Yc : (c.toNat : Int) = c := Int.toNat_of_nonneg LC
 have LH : ¬ ((bytes : Int) * c > 2 ^ 48) := by
  have : (bytes : Int) * c = ((c.toNat * bytes : Nat) : Int) := by rw [Int.natCast_mul, Yc, Int.mul_comm]
  rw [this]; omega
 have wE : ¬ c < 0 := by omega
 have hneg2 : ¬ l < 0 := by omega
 have hgt : ¬ l > c := by omega
 refine ⟨_, ?_, rfl⟩
 simp only [Instr.makeSlice, Sem.run_bind, run_underlying ht, Result.andThen_ok, asInt, asIntOf, Sem.run_pure, typeInfo, run_program, hi, xi, w1, w2, wE, hneg2, hgt, LH, decide_false, Bool.or_self, Bool.false_eq_true, if_false, run_askRoom, sizeOf, cT]
 by_cases hn : c.toNat * esz = 0
 ·simp [hn, newRow]
  congr 2
  apply Array.ext'
  simp
 ·simp [hn, zeroValue, typeInfo, hi, hz, newRow]
theorem Dd (hs : St A M L w H ev ea O) {t e : TypeId} {i : TypeInfo} {zv : Value} {esz bytes : Nat} (ht : P.underlying t = some (.slice e)) (hi : P.info? e = some i) (hz : i.zero = some zv) (cT : i.size = esz) (xi : i.bytes = bytes) (h0 : 0 < esz) (uj : 0 < bytes)
 {z : AV} (K8 : ofValue zv = some z) (so : z.val = true) (iH : z.cells.length = esz) (Iq : ∀ y ∈ z.cells, ∀ own xs, y = .ap own xs → own = 0) {u : Value} {n : AV} {K : AV → List aa → Prop} (h : fK esz bytes z n H K) (hu : aR M L u n) :
 ∃ r x L' w' H', (Instr.makeSlice t u u).run P w = .ok r w' ∧ aR M L' r x ∧ (∀ own xs, x = .ap own xs → own = 0) ∧ K x H' ∧ St A M L' w' H' ev ea O ∧ Ext A M w M w' ∧ L <+: L' := by
 unfold fK at h
 split at h <;> try exact h.elim
 rename_i n
 obtain ⟨LI, TG, nF, hK⟩ := h
 cases hu
 have AO := (cA (M := M) (L := L) K8).bN.fI (oO so)
 have tB : zv.cells.size = esz := by have := AO.length; rw [iX, iH] at this; simpa using this
 obtain ⟨cs, bG, rfl⟩ := run_mk ht hi hz cT xi tB h0 uj n n LI (Int.le_refl _) TG w
 have hcells := jl (M := M) (L := L) zv.cells esz n.toNat tB h0 (bN z) AO
 have Yc : n.toNat ≤ 140737488355328 := Nat.le_trans (Nat.le_mul_of_pos_right _ uj) TG
 obtain ⟨g1, g2⟩ := hs.qS (.cells ((Array.range (n.toNat * esz)).map (zv.cells[· % zv.cells.size]!)) e) (.cells (flat (List.replicate n.toNat (bN z)))) (fun w' hw hM => ⟨_, e, hw, hcells.mono (Mem.bM M) ⟨_, rfl⟩, hM⟩) (by simpa [aa.a7] using nF) (fun j => by
  simp only [mD]
  refine bb.free ?_
  intro own xs hh
  rw [List.getD_eq_getElem?_getD] at hh
  cases hx : (flat (List.replicate n.toNat (bN z)))[j]? with
  | none => simp [hx] at hh
  | some y =>
    simp [hx] at hh
    have hy := List.mem_of_getElem? hx
    simp only [flat, List.mem_flatMap] at hy
    obtain ⟨q, hq, LJ⟩ := hy
    rw [List.eq_of_mem_replicate hq] at LJ
    subst hh
    cases z <;> simp only [bN, AV.cells] at LJ Iq
    case agg ys =>
     obtain ⟨y', _, Yd⟩ := List.mem_map.1 LJ
     exact AV.jc y' own xs Yd
    all_goals exact Iq _ LJ own xs rfl)
 refine ⟨_, .bf H.length 0 n.toNat n.toNat, _, _, _, bG, .bf w.heap.size 0 _ _ H.length ?_ (by omega), (by intro _ _ e; cases e), hK, g1, g2, ⟨_, rfl⟩⟩
 rw [List.getElem?_append_right (by rw [hs.len]; exact Nat.le_refl _), hs.len]; simp
def iI (esz bytes : Nat) (n : AV) (φ : AV → Prop) : Prop :=
 match n with
 | .int .i64 n => 0 ≤ n ∧ n.toNat * bytes ≤ 140737488355328 ∧ φ (.ap esz [])
 | _ => False
theorem De (hs : St A M L w H ev ea O) {t e : TypeId} {i : TypeInfo} {zv : Value} {esz bytes : Nat} (ht : P.underlying t = some (.slice e)) (hi : P.info? e = some i) (hz : i.zero = some zv) (cT : i.size = esz) (xi : i.bytes = bytes) (h0 : 0 < esz) (uj : 0 < bytes)
 (tB : zv.cells.size = esz) {u : Value} {n : AV} {φ : AV → Prop} (h : iI esz bytes n φ) (hu : aR M L u n) :
 ∃ r w' M' b, (Instr.makeSlice t (.int .i64 0) u).run P w = .ok r w' ∧ aR M' L r (.ap esz []) ∧ φ (.ap esz []) ∧ bb M' w' r (.ap esz []) (some b) ∧ St A M' L w' H ev ea O ∧ Ext A M w M' w' ∧
  (∀ q, O q ≠ some b) ∧ b ∉ L ∧ b < w'.heap.size ∧ A b := by
 unfold iI at h
 split at h <;> try exact h.elim
 rename_i n
 obtain ⟨LI, TG, hφ⟩ := h
 cases hu
 obtain ⟨cs, bG, xh⟩ := run_mk ht hi hz cT xi tB h0 uj 0 n (Int.le_refl _) LI TG w
 have Yc : n.toNat ≤ 140737488355328 := Nat.le_trans (Nat.le_mul_of_pos_right _ uj) TG
 obtain ⟨g1, g2, g3⟩ := hs.pA cs e (0, 0) [] (fun j v hv => by simp at hv)
 refine ⟨_, _, _, w.heap.size, bG, .gb _ _ _ (by omega), hφ, ?_, g1, g2, fun q hq => absurd (hs.eT q _ hq) (Nat.lt_irrefl _), fun hm => absurd (hs.lt _ hm) (Nat.lt_irrefl _), by simp, hs.fresh _ (Nat.le_refl _)⟩
 unfold bb
 simp only [Nat.ne_of_gt h0, if_false]
 refine ⟨by simp, .inr ⟨_, 0, 0, n.toNat, cs, e, (0, 0), rfl, by simp, dA w _, nD _, ?_, ?_⟩⟩
 ·rw [xh]; simp
 ·intro k _ _
  simp [Mem.add]
def dG (x : Option AV) (d : Nat) (φ : Nat → Prop) : Prop :=
 match x with
 | none => φ d
 | some (.int _ i) => 0 ≤ i ∧ φ i.toNat
 | _ => False
def eL (esz : Nat) (x : AV) (lo hi mx : Option AV) (φ : AV → Prop) : Prop :=
 match dz x with
 | some xs => dG hi xs.length fun h => dG lo 0 fun l => l ≤ h ∧ h ≤ xs.length ∧
    match mx with
    | none => φ (.ap 0 ((xs.take h).drop l))
    | some m => hi.isSome = true ∧ dG (some m) 0 fun m => m = h ∧ (∀ y ∈ xs, y.cells.length = esz) ∧ φ (.ap esz ((xs.take h).drop l))
 | none => False
theorem xk : ∀ (xs : List AV) (e n : Nat), (∀ y ∈ xs, y.cells.length = e) → flat (xs.take n) = (flat xs).take (n * e)
 | [], e, n, _ => by simp [flat]
 | y :: ys, e, 0, _ => by simp [flat]
 | y :: ys, e, n + 1, hx => by
   have hy := hx y (by simp)
   have ih := xk ys e n (fun z hz => hx z (by simp [hz]))
   simp only [flat] at ih
   simp only [List.take_succ_cons, flat, List.flatMap_cons, ih]
   rw [List.take_append, List.take_of_length_le (l := y.cells) (by rw [hy, Nat.add_mul]; omega), hy, show (n + 1) * e - e = n * e by rw [Nat.add_mul]; omega]
theorem xl : ∀ (xs : List AV) (e n : Nat), (∀ y ∈ xs, y.cells.length = e) → flat (xs.drop n) = (flat xs).drop (n * e)
 | [], e, n, _ => by simp [flat]
 | y :: ys, e, 0, _ => by simp [flat]
 | y :: ys, e, n + 1, hx => by
   have hy := hx y (by simp)
   have ih := xl ys e n (fun z hz => hx z (by simp [hz]))
   simp only [flat] at ih
   simp only [List.drop_succ_cons, flat, List.flatMap_cons]
   rw [ih, List.drop_append, List.drop_eq_nil_of_le (as := y.cells) (by rw [hy, Nat.add_mul]; omega), hy, show (n + 1) * e - e = n * e by rw [Nat.add_mul]; omega]
   rfl
def iJ (M : Mem) (L : List Nat) (x : Option AV) (v : Option Value) : Prop := match x, v with | none, none => True | some x, some v => aR M L v x | _, _ => False
theorem dC {x : Option AV} {v : Option Value} (hx : iJ M L x v) {d : Nat} {φ : Nat → Prop} (h : dG x d φ) :
 ∃ k, φ k ∧ ((x = none ∧ v = none ∧ k = d) ∨ ∃ kd i, v = some (.int kd i) ∧ 0 ≤ i ∧ i.toNat = k) := by
 unfold dG at h
 split at h
 ·cases v with
  | none => exact ⟨d, h, .inl ⟨rfl, rfl, rfl⟩⟩
  | some v => exact hx.elim
 ·rename_i kd i
  cases v with
  | none => exact hx.elim
  | some v =>
    have wo : aR M L v (.int kd i) := hx
    cases wo
    exact ⟨_, h.2, .inr ⟨_, _, rfl, h.1, rfl⟩⟩
 ·exact h.elim
theorem run_sliceBound (w : World) (kd : IntKind) (i : Int) (y : Nat) (code : BoundsCode) (h0 : 0 ≤ i) (h1 : i.toNat ≤ y) : (Instr.sliceBound (.int kd i) y code).run P w = .ok i.toNat w := by
 have : 0 ≤ i ∧ i ≤ (y : Int) := ⟨h0, by omega⟩
 simp [Instr.sliceBound, asIntOf, this]
theorem uk (hs : St A M L w H ev ea O) {t e : TypeId} {esz : Nat} (ht : P.underlying t = some (.slice e)) (he : dB P e = some esz) (h0 : 0 < esz) {u : Value} {x : AV} {lo hi mx : Option AV} {vlo vhi vmx : Option Value} {φ : AV → Prop}
 (h : eL esz x lo hi mx φ) (hu : aR M L u x) (PT : ∀ own xs, x = .ap own xs → ∀ z ∈ xs, z.cells.length = esz)
 (h1 : iJ M L lo vlo) (h2 : iJ M L hi vhi) (h3 : iJ M L mx vmx) :
 ∃ a n c own ys, (Instr.sliceAt t u vlo vhi vmx).run P w = .ok (.slice a n c) w ∧ aR M L (.slice a n c) (.ap own ys) ∧ φ (.ap own ys) ∧ (own ≠ 0 → n = c ∧ ∀ y ∈ ys, y.cells.length = own) := by
 unfold eL at h
 split at h <;> try exact h.elim
 rename_i xs fp
 have cT : (sizeOf e).run P w = .ok esz w := by
  obtain ⟨i, hi, LB⟩ := Option.map_eq_some_iff.1 he
  simp [sizeOf, typeInfo, hi, LB]
 obtain ⟨hh, h, Ir⟩ := dC h2 h
 obtain ⟨ll, h, ui⟩ := dC h1 h
 obtain ⟨hle, Xz, h⟩ := h
 have yM : ∃ own, aR M L u (.ap own xs) := by
  unfold dz at fp
  split at fp
  ·cases fp; cases hu; exact ⟨0, .gb _ _ _ (by decide)⟩
  ·cases fp; exact ⟨_, hu⟩
  ·cases fp
 obtain ⟨own0, yM⟩ := yM
 have Ik : ∀ z ∈ xs, z.cells.length = esz := by
  unfold dz at fp
  split at fp
  ·cases fp; simp
  ·cases fp; exact PT _ _ rfl
  ·cases fp
 have hform : ∃ bs c, u = .slice bs xs.length c ∧ xs.length ≤ c ∧ c < 9223372036854775808 := by
  cases yM with
  | gb a c _ hc => exact ⟨a, c, rfl, Nat.zero_le _, hc⟩
  | ap b off c _ e cs _ he hx hn hle hc hr hm => exact ⟨_, c, rfl, hle, hc⟩
 obtain ⟨bs, c, rfl, Ye, hc⟩ := hform
 have TH : ∀ (own m : Nat), hh ≤ m → m ≤ c → aR M L (.slice (if m = ll then bs else bs.map (·.add (ll * esz))) (hh - ll) (m - ll)) (.ap own ((xs.take hh).drop ll)) := by
  intro own m hm1 hm2
  have hlen : ((xs.take hh).drop ll).length = hh - ll := by simp; omega
  by_cases hz : hh - ll = 0
  ·have : (xs.take hh).drop ll = [] := List.eq_nil_of_length_eq_zero (by omega)
   rw [this, hz]
   exact .gb _ _ _ (by omega)
  ·rcases (tC yM).2 with ⟨h', _⟩ | ⟨b, off, cs, rfl, hr, hm⟩
   ·subst h'; simp at hlen; omega
   ·rw [if_neg (by omega)]
    simp only [Option.map_some, Addr.add_lit]
    have wo : ∀ z ∈ (xs.take hh).drop ll, z.cells.length = esz := fun z hz => Ik z (List.mem_of_mem_take (List.mem_of_mem_drop hz))
    have := aR.ap (M := M) (L := L) b (off + ll * esz) (m - ll) own esz ((cs.take (hh * esz)).drop (ll * esz)) ((xs.take hh).drop ll) h0 wo (by omega) (by omega) (by omega) (by
     rw [xl _ esz ll (fun z hz => Ik z (List.mem_of_mem_take hz)), xk _ esz hh Ik]
     exact (hr.take _).drop _) (by
     intro j v hv
     rw [List.getElem?_drop, List.getElem?_take] at hv
     split at hv
     ·have := hm _ v hv
      rwa [← Nat.add_assoc] at this
     ·cases hv)
    rwa [hlen] at this
 cases mx with
 | none =>
   cases vmx with
   | some v => exact h3.elim
   | none =>
     refine ⟨_, _, _, 0, _, ?_, TH 0 c (by omega) (Nat.le_refl _), h, fun h => absurd rfl h⟩
     have hb : (Instr.sliceBounds true xs.length c vlo vhi none).run P w = .ok (ll, hh, c) w := by
      rcases Ir with ⟨_, rfl, rfl⟩ | ⟨kd, i, rfl, tD, rfl⟩ <;> rcases ui with ⟨_, rfl, rfl⟩ | ⟨kd', i', rfl, td, rfl⟩
      ·rfl
      ·have oP := run_sliceBound (P := P) w kd' i' xs.length .sliceB td hle
       simp [Instr.sliceBounds, oP]
      ·have oP := run_sliceBound (P := P) w kd i c .sliceAcap tD (by omega)
       simp [Instr.sliceBounds, oP]
      ·have oP := run_sliceBound (P := P) w kd i c .sliceAcap tD (by omega)
       have pw := run_sliceBound (P := P) w kd' i' i.toNat .sliceB td hle
       simp [Instr.sliceBounds, oP, pw]
     simp only [Instr.sliceAt, Instr.slice, Sem.run_bind, run_underlying ht, Result.andThen_ok, hb, cT, Sem.run_pure]
 | some m =>
   cases vmx with
   | none => exact h3.elim
   | some vm =>
     obtain ⟨hsome, h⟩ := h
     obtain ⟨mm, ⟨rfl, _, hφ⟩, Ta⟩ := dC (v := some vm) h3 h
     rcases Ta with ⟨hh', _⟩ | ⟨kdm, im, hvm, Yf, Il⟩
     ·cases hh'
     cases hvm
     refine ⟨_, _, _, esz, _, ?_, TH esz mm (Nat.le_refl _) (by omega), hφ, fun _ => ⟨rfl, fun y hy => Ik y (List.mem_of_mem_take (List.mem_of_mem_drop hy))⟩⟩
     have hb : (Instr.sliceBounds true xs.length c vlo vhi (some (.int kdm im))).run P w = .ok (ll, mm, mm) w := by
      have LA := run_sliceBound (P := P) w kdm im c .slice3Acap Yf (by omega)
      rw [Il] at LA
      rcases Ir with ⟨hn, rfl, hd⟩ | ⟨kd, i, rfl, tD, XA⟩
      ·rw [hn] at hsome; cases hsome
      ·have oP := run_sliceBound (P := P) w kd i mm .slice3B tD (by omega)
       rw [XA] at oP
       rcases ui with ⟨_, rfl, rfl⟩ | ⟨kd', i', rfl, td, rfl⟩
       ·simp [Instr.sliceBounds, LA, oP]
       ·have pw := run_sliceBound (P := P) w kd' i' mm .slice3C td hle
        simp [Instr.sliceBounds, LA, oP, pw]
     simp only [Instr.sliceAt, Instr.slice, Sem.run_bind, run_underlying ht, Result.andThen_ok, hb, cT, Sem.run_pure]
def b7 (x : AV) (lo hi : Option AV) (φ : AV → Prop) : Prop :=
 match x with
 | .str s => dG hi s.size fun h => dG lo 0 fun l => l ≤ h ∧ h ≤ s.size ∧ φ (.str (s.extract l h))
 | _ => False
theorem wF {t : TypeId} (ht : P.underlying t = some .string) {u : Value} {x : AV} {lo hi : Option AV} {vlo vhi : Option Value} {φ : AV → Prop}
 (h : b7 x lo hi φ) (hu : aR M L u x) (h1 : iJ M L lo vlo) (h2 : iJ M L hi vhi) :
 ∃ r z, (Instr.sliceAt t u vlo vhi none).run P w = .ok r w ∧ aR M L r z ∧ φ z ∧ ∀ own xs, z = .ap own xs → own = 0 := by
 unfold b7 at h
 split at h <;> try exact h.elim
 rename_i s
 cases hu
 obtain ⟨hh, h, Ir⟩ := dC h2 h
 obtain ⟨ll, h, ui⟩ := dC h1 h
 obtain ⟨hle, Xz, hφ⟩ := h
 refine ⟨_, _, ?_, .str _, hφ, by intro _ _ e; cases e⟩
 have hb : (Instr.sliceBounds false s.size s.size vlo vhi none).run P w = .ok (ll, hh, s.size) w := by
  rcases Ir with ⟨_, rfl, rfl⟩ | ⟨kd, i, rfl, tD, rfl⟩ <;> rcases ui with ⟨_, rfl, rfl⟩ | ⟨kd', i', rfl, td, rfl⟩
  ·rfl
  ·have oP := run_sliceBound (P := P) w kd' i' s.size .sliceB td hle
   simp [Instr.sliceBounds, oP]
  ·have oP := run_sliceBound (P := P) w kd i s.size .sliceAlen tD (by omega)
   simp [Instr.sliceBounds, oP]
  ·have oP := run_sliceBound (P := P) w kd i s.size .sliceAlen tD (by omega)
   have pw := run_sliceBound (P := P) w kd' i' i.toNat .sliceB td hle
   simp [Instr.sliceBounds, oP, pw]
 simp only [Instr.sliceAt, Instr.slice, Sem.run_bind, run_underlying ht, Result.andThen_ok, Option.isSome_none, Bool.false_eq_true, if_false, Sem.run_pure, hb]
def bg (l : List UInt8) : List AV := l.map fun b => .int .u8 b.toNat
def fx (x : AV) (φ : AV → Prop) : Prop := match x with | .str s => φ (.str s) | _ => False
theorem yO {src dst : TypeId} {d : TypeDesc} (hs : P.underlying src = some d) (hd : P.underlying dst = some .string) {u : Value} {x : AV} {φ : AV → Prop} (h : fx x φ) (hu : aR M L u x) :
 ∃ r z, (convert src dst u).run P w = .ok r w ∧ aR M L r z ∧ φ z ∧ ∀ own xs, z = .ap own xs → own = 0 := by
 unfold fx at h
 split at h <;> try exact h.elim
 cases hu
 refine ⟨_, _, ?_, .str _, h, by intro _ _ e; cases e⟩
 simp [convert, run_underlying hs, run_underlying hd]
def jn (x : AV) (φ : AV → Prop) : Prop :=
 match dz x with
 | some ys => ∃ l, ys = bg l ∧ φ (.str ⟨l.toArray⟩)
 | none => False
theorem ul (l : List UInt8) : flat (bg l) = bg l := by
 induction l with
 | nil => rfl
 | cons b l ih => simp only [bg, List.map_cons, flat, List.flatMap_cons, AV.cells] at ih ⊢; rw [ih]; rfl
theorem aJ.bytes : ∀ {cs : List Value} {l : List UInt8}, aJ M L cs (bg l) → cs = l.map fun b => .int .u8 b.toNat
 | [], [], _ => rfl
 | [], b :: l, h => by have := h.length; simp [bg] at this
 | c :: cs, [], h => by have := h.length; simp [bg] at this
 | c :: cs, b :: l, h => by
   simp only [bg, List.map_cons] at h
   cases h with
   | cons _ _ _ _ h t => cases h; simp [aJ.bytes (l := l) t]
theorem Df (hs : St A M L w H ev ea O) {src dst e : TypeId} (h1 : P.underlying src = some (.slice e)) (h2 : P.underlying e = some (.int .u8)) (hd : P.underlying dst = some .string) {u : Value} {x : AV} {φ : AV → Prop} (h : jn x φ) (hu : aR M L u x) :
 ∃ r z, (convert src dst u).run P w = .ok r w ∧ aR M L r z ∧ φ z ∧ ∀ own xs, z = .ap own xs → own = 0 := by
 unfold jn at h
 split at h <;> try exact h.elim
 rename_i ys pv
 obtain ⟨l, rfl, hφ⟩ := h
 have yM : ∃ own, aR M L u (.ap own (bg l)) := by
  unfold dz at pv
  split at pv
  ·cases l with
   | nil => cases hu; exact ⟨0, .gb _ _ _ (by decide)⟩
   | cons b l => simp [bg] at pv
  ·cases pv; exact ⟨_, hu⟩
  ·cases pv
 obtain ⟨own, yM⟩ := yM
 refine ⟨_, _, ?_, .str _, hφ, by intro _ _ e; cases e⟩
 cases l with
 | nil =>
   have : ∃ a c, u = .slice a 0 c := by
    cases yM with
    | gb a c _ hc => exact ⟨a, c, rfl⟩
    | ap b off c _ e cs _ he hx hn => simp [bg] at hn
   obtain ⟨a, c, rfl⟩ := this
   cases a with
   | none => rw [run_convert_bytes_nil w src e h1 h2 0 c dst hd]; rfl
   | some a =>
     simp [convert, run_underlying h1, run_underlying hd, run_underlying h2, Conv.bytesToString, loadCells, loadCellsFrom]
     rfl
 | cons b0 l =>
   have : ∃ b off c cs, u = .slice (some ⟨b, off, none⟩) (bg (b0 :: l)).length c ∧ aJ M L cs (bg (b0 :: l)) ∧ M.row b off cs := by
    generalize hl : bg (b0 :: l) = q at yM
    cases yM with
    | gb => simp [bg] at hl
    | ap b off c _ e cs _ he hx hn hle hc hr hm =>
      subst hl
      rw [ul] at hr
      exact ⟨b, off, c, cs, rfl, hr, hm⟩
   obtain ⟨b, off, c, cs, rfl, hr, hm⟩ := this
   have xh := hr.bytes
   have bG := run_convert_bytes_arg (P := P) w src e h1 h2 b off (bg (b0 :: l)).length c ((b0 :: l).map fun b => (b.toNat : Int)) (by simp [bg]) (fun i hi => by
    have mj : i < (b0 :: l).length := by simpa [bg] using hi
    have := hs.mem _ _ _ (hm i (.int .u8 ((b0 :: l)[i]).toNat) (by rw [xh, List.getElem?_map, List.getElem?_eq_getElem mj]; rfl))
    rw [this, List.getD_eq_getElem?_getD, List.getElem?_map, List.getElem?_eq_getElem mj]
    rfl) dst hd
   rw [bG]
   congr 2
   simp only [strOfNums, List.map_map]
   congr 1
   congr 1
   conv => rhs; rw [← List.map_id (b0 :: l)]
   apply List.map_congr_left
   intro b _
   simp
def eM (own : Nat) (x : AV) (φ : AV → Prop) : Prop :=
 match x with
 | .str s => s.size < 9223372036854775808 ∧ φ (.ap own (bg s.data.toList))
 | _ => False
end
end Go.aK
end
section
namespace Go.aK
open Go
section
variable {P : Program} {w : World} {M : Mem} {L : List Nat} {H : List aa} {A : Perm} {ev : Nat → Value} {ea : Nat → AV} {O : Pos → Option Nat}
theorem AT (w : World) (cs : Array Value) (e : TypeId) :
 ({ w with heap := w.heap.push (.cells cs e) } : World).freeze { block := w.heap.size, off := cs.size } 1 = { w with heap := w.heap.push (.cells cs e (cs.size, cs.size + 1)) } := by
 simp only [World.freeze, Nat.one_ne_zero, if_false]
 congr 1
 apply Array.ext
 ·simp
 ·intro i h1 h2
  rw [Array.getElem_modify]
  by_cases hi : w.heap.size = i
  ·subst hi; simp
  ·simp only [hi, if_false]
   have : i < w.heap.size := by simp at h2; omega
   rw [Array.getElem_push_lt this, Array.getElem_push_lt this]
theorem AU (l : List UInt8) : aJ M L (l.map fun b => Value.int .u8 b.toNat) (bg l) := by
 induction l with
 | nil => exact .nil
 | cons b l ih => exact .cons _ _ _ _ (.int _ _) ih
theorem yP (hs : St A M L w H ev ea O) {src dst e : TypeId} (h1 : P.underlying src = some .string) (hd : P.underlying dst = some (.slice e)) (h2 : P.underlying e = some (.int .u8)) {u : Value} {x : AV} {φ : AV → Prop} (h : eM 1 x φ) (hu : aR M L u x) :
 ∃ r z w' M' ob, (convert src dst u).run P w = .ok r w' ∧ aR M' L r z ∧ φ z ∧ bb M' w' r z ob ∧ St A M' L w' H ev ea O ∧ Ext A M w M' w' ∧
  (∀ q b, ob = some b → O q ≠ some b) ∧ (∀ b, ob = some b → b ∉ L ∧ b < w'.heap.size ∧ A b) := by
 unfold eM at h
 split at h <;> try exact h.elim
 rename_i s
 obtain ⟨cT, hφ⟩ := h
 cases hu
 let cap := (Question.appendCap s.size 0 e).cut (w.tape w.drawn (.appendCap s.size 0 e))
 have OA : s.size ≤ cap := by simp [cap, Question.cut]
 have oo : cap < 9223372036854775808 := by
  have := Nat.mod_lt (w.tape w.drawn (.appendCap s.size 0 e)) (show 0 < 2 ^ 63 - s.size by omega)
  simp only [cap, Question.cut]; omega
 let elems : Array Value := s.data.map fun b => .int .u8 b.toNat
 let cs : Array Value := elems ++ Array.replicate (cap - s.size) (.int .u8 0)
 have xh : cs.size = cap := by
  simp only [cs, elems, Array.size_append, Array.size_map, Array.size_replicate]
  have : s.data.size = s.size := rfl
  omega
 have Tb : elems.toList = s.data.toList.map fun b => Value.int .u8 b.toNat := by simp [elems]
 let W : World := { { w with drawn := w.drawn + 1 } with heap := w.heap.push (.cells cs e (cs.size, cs.size + 1)) }
 have bG : (convert src dst (.string s)).run P w = .ok (.slice (some ⟨w.heap.size, 0, none⟩) s.size cap) W := by
  have CX := AT { w with drawn := w.drawn + 1 } cs e
  have PO : ({ { w with drawn := w.drawn + 1 } with heap := w.heap.push (.cells cs e) } : World).shape? w.heap.size = some (e, cs.size) := by
   simp [World.shape?]
  simp only [convert, Sem.run_bind, run_underlying h1, run_underlying hd, run_underlying h2, Result.andThen_ok, Conv.stringToBytes, run_choose, Question.forced, Bool.false_eq_true, if_false]
  have yN : ∀ W : World, (newRow e cs).run P W = .ok ⟨W.heap.size, 0, none⟩ { W with heap := W.heap.push (.cells cs e) } := fun _ => rfl
  refine Eq.trans (congrArg (fun r => Result.andThen r _) (yN _)) ?_
  simp only [Result.andThen_ok, Sem.run_pure, markStringish, run_shape, Sem.run_bind]
  rw [PO]
  simp only [run_freeze, Result.andThen_ok]
  rw [CX]
 obtain ⟨g1, g2, g3⟩ := hs.drew.pA cs e (cs.size, cs.size + 1) elems.toList (fun j v hv => by
  have : cs.toList[j]? = some v := by
   simp only [cs, Array.toList_append]
   rw [List.getElem?_append_left (aM hv)]; exact hv
  simpa using this)
 have fo : aJ (M.add w.heap.size elems.toList) L elems.toList (bg s.data.toList) := by rw [Tb]; exact AU _
 have hlen : (bg s.data.toList).length = s.size := by simp [bg]
 have hx : ∀ y ∈ bg s.data.toList, y.cells.length = 1 := by
  intro y hy
  simp only [bg, List.mem_map] at hy
  obtain ⟨b, _, rfl⟩ := hy
  rfl
 refine ⟨_, _, W, _, some w.heap.size, bG, ?_, hφ, ?_, g1, Ext.drew.trans g2, ?_, ?_⟩
 ·by_cases h0 : s.size = 0
  ·have : bg s.data.toList = [] := List.eq_nil_of_length_eq_zero (by omega)
   rw [this, h0]
   exact .gb _ _ _ oo
  ·have := aR.ap (M := M.add w.heap.size elems.toList) (L := L) w.heap.size 0 cap 1 1 elems.toList (bg s.data.toList) (by omega) hx (by omega) (by omega) oo (by rw [ul]; exact fo) g3
   rwa [hlen] at this
 ·unfold bb
  simp only [Nat.one_ne_zero, if_false]
  refine ⟨hx, .inr ⟨_, 0, s.size, cap, cs, e, (cs.size, cs.size + 1), rfl, rfl, dA _ _, ?_, by omega, ?_⟩⟩
  ·intro j hj h; simp at h; omega
  ·intro k hk _
   simp only [Mem.add, if_true, Nat.zero_add]
   refine List.getElem?_eq_none ?_
   have : elems.toList.length = s.size := by rw [Tb]; simp
   omega
 ·intro q b hb hq
  cases hb
  exact absurd (hs.eT q _ hq) (Nat.lt_irrefl _)
 ·intro b hb
  cases hb
  exact ⟨fun hm => absurd (hs.lt _ hm) (Nat.lt_irrefl _), by simp [W], hs.fresh _ (Nat.le_refl _)⟩
def cP (kd : Nat) (x y : AV) : Option Bool :=
 match kd, x, y with
 | 0, .int k a, .int k' b => if k = k' then some (decide (a = b)) else none
 | 1, .str a, .str b => some (decide (a = b))
 | 2, .agg [.int k a, .int l b], .agg [.int k' a', .int l' b'] => if k = k' ∧ l = l' then some (decide (a = a' ∧ b = b')) else none
 | _, _, _ => none
def j4 (kd : Nat) (d : TypeDesc) : Prop := match kd, d with | 0, .int _ => True | 1, .string => True | _, _ => False
def Dg (P : Program) (kd : Nat) (d : TypeDesc) : Prop := kd = 2 ∧ ∃ e q, d = .array 2 e ∧ P.underlying e = some (.int q) ∧ (P.info? e).map (·.size) = some 1
theorem yQ (a b : ByteArray) : (a == b) = decide (a = b) := by
 rcases a with ⟨a⟩
 rcases b with ⟨b⟩
 show (a == b) = _
 by_cases h : a = b <;> simp [h]
def nH (P : Program) (t : TypeId) : Option Nat :=
 match P.underlying t with
 | some (.int _) => some 0
 | some .string => some 1
 | some (.array 2 e) => match P.underlying e, (P.info? e).map (·.size) with
   | some (.int _), some 1 => some 2
   | _, _ => none
 | _ => none
def dN (kd : Nat) (k : AV) : List (AV × AV) → Nat → Option (Option (Nat × AV))
 | [], _ => some none
 | (a, v) :: r, i => match cP kd k a with
   | some true => some (some (i, v))
   | some false => dN kd k r (i + 1)
   | none => none
def cb (kd : Nat) (zero m k : AV) (ok : Bool) (H : List aa) (φ : AV → Prop) : Prop :=
 match m with
 | .iD => cP kd k k = some true ∧ φ (if ok then .tuple [aT zero, .bool false] else aT zero)
 | .map id => match H[id]? with
   | some (.map es) => match dN kd k es 0 with
     | some (some (_, v)) => φ (if ok then .tuple [v.drop, .bool true] else v.drop)
     | some none => cP kd k k = some true ∧ φ (if ok then .tuple [aT zero, .bool false] else aT zero)
     | none => False
   | _ => False
 | _ => False
def eZ (kd : Nat) (m k x : AV) (H : List aa) (K : List aa → Prop) : Prop :=
 match m with
 | .map id => match H[id]? with
   | some (.map es) => k.a7 (id + 1) = true ∧ x.a7 (id + 1) = true ∧ x.val = true ∧ match dN kd k es 0 with
     | some (some (i, _)) => K (H.set id (.map (es.set i (k, aT x))))
     | some none => cP kd k k = some true ∧ K (H.set id (.map (es ++ [(k, aT x)])))
     | none => False
   | _ => False
 | _ => False
theorem um {kd : Nat} {d : TypeDesc} (hd : j4 kd d) {k y : AV} {b : Bool} (h : cP kd k y = some b) {u v : Value} (hu : aR M L u k) (hv : aR M L v y) :
 Instr.sameNow d u v = some b ∧ (b = true → v = u) := by
 unfold cP at h
 split at h
 ·rename_i k a k' b'
  cases hu; cases hv
  split at h
  ·rename_i e; subst e
   cases h
   cases d <;> simp only [j4] at hd
   refine ⟨by simp [Instr.sameNow, pC], ?_⟩
   intro h; simp at h; rw [h]
  ·cases h
 ·rename_i a b'
  cases hu; cases hv
  cases h
  cases d <;> simp only [j4] at hd
  refine ⟨by simp only [Instr.sameNow, yQ], ?_⟩
  intro h; simp at h; rw [h]
 ·cases d <;> simp only [j4] at hd
 ·cases h
theorem xm {kd : Nat} {d : TypeDesc} (hd : j4 kd d) {k : AV} {u : Value} (hu : aR M L u k) :
 ∀ (es : List (AV × AV)) (ents : List MapEntry) (i : Nat) (r : Option (Nat × AV)), aJ M L (ents.map (·.key)) (es.map (·.1)) → aJ M L (ents.map (·.val)) (es.map (·.2)) → dN kd k es i = some r →
  match r with
  | none => Instr.findNow d u ents i = some none
  | some (j, x) => i ≤ j ∧ ∃ v, Instr.findNow d u ents i = some (some (j, v)) ∧ aR M L v x ∧ ∃ en, ents[j - i]? = some en ∧ en.key = u ∧ en.val = v ∧ j - i < es.length
 | [], ents, i, r, h1, h2, h => by
   cases ents with
   | nil => simp [dN] at h; subst h; rfl
   | cons a b => have := h1.length; simp at this
 | (a, x) :: es, [], i, r, h1, h2, h => by have := h1.length; simp at this
 | (a, x) :: es, en :: ents, i, r, h1, h2, h => by
   simp only [List.map_cons] at h1 h2
   cases h1 with
   | cons _ _ _ _ hk Dh =>
   cases h2 with
   | cons _ _ _ _ hv wC =>
   unfold dN at h
   split at h
   ·rename_i he
    cases h
    obtain ⟨e1, e2⟩ := um hd he hu hk
    exact ⟨Nat.le_refl _, en.val, by simp [Instr.findNow, e1], hv, en, by simp, e2 rfl, rfl, by simp⟩
   ·rename_i he
    obtain ⟨e1, _⟩ := um hd he hu hk
    have ih := xm hd hu es ents (i + 1) r Dh wC h
    cases r with
    | none => simp only at ih ⊢; simp [Instr.findNow, e1, ih]
    | some jx =>
      obtain ⟨j, y⟩ := jx
      simp only at ih ⊢
      obtain ⟨hij, v, f1, f2, en', f3, f4, f5, f6⟩ := ih
      refine ⟨by omega, v, by simp [Instr.findNow, e1, f1], f2, en', ?_, f4, f5, by simp; omega⟩
      rw [show j - i = (j - (i + 1)) + 1 by omega]
      simpa using f3
   ·cases h
theorem pE {t : TypeId} {kd : Nat} (h : nH P t = some kd) : ∃ d, P.underlying t = some d ∧ (j4 kd d ∨ Dg P kd d) := by
 unfold nH at h
 split at h
 ·rename_i k hu; cases h; exact ⟨_, hu, .inl trivial⟩
 ·rename_i hu; cases h; exact ⟨_, hu, .inl trivial⟩
 ·rename_i e hu
  split at h <;> cases h
  rename_i q h1 h2
  exact ⟨_, hu, .inr ⟨rfl, e, q, rfl, h1, h2⟩⟩
 ·cases h
theorem pF {e : TypeId} {q : IntKind} (h2 : P.underlying e = some (.int q)) {cs : Array Value} {off : Nat} {v : Value} (hv : cs[off]? = some v) (w : World) : (part e cs off).run P w = .ok v w := by
 simp [part, isAgg, run_underlying h2, hv]
theorem F6 {e : TypeId} {q : IntKind} (h2 : P.underlying e = some (.int q)) (d : Nat) (k : IntKind) (a a' : Int) (w : World) : (Op.equalIn (d + 1) e (.int k a) (.int k a')).run P w = .ok (decide (a = a')) w := by
 rw [Op.equalIn]
 simp [run_underlying h2, pC]
theorem xn {kt e : TypeId} {q : IntKind} (h1 : P.underlying kt = some (.array 2 e)) (h2 : P.underlying e = some (.int q)) (h3 : (P.info? e).map (·.size) = some 1) (d : Nat) (k l : IntKind) (a b a' b' : Int) (w : World) :
 (Op.equalIn (d + 1 + 1) kt (.agg #[.int k a, .int l b]) (.agg #[.int k a', .int l b'])).run P w = .ok (decide (a = a' ∧ b = b')) w := by
 obtain ⟨i, hi, hs⟩ := Option.map_eq_some_iff.1 h3
 have hz : (sizeOf e).run P w = .ok 1 w := by simp [sizeOf, typeInfo, hi, hs]
 have p0 : ∀ x y : Value, (part e #[x, y] 0).run P w = .ok x w := fun x y => pF h2 (by simp) w
 have p1 : ∀ x y : Value, (part e #[x, y] 1).run P w = .ok y w := fun x y => pF h2 (by simp) w
 rw [Op.equalIn]
 simp only [Sem.run_bind, run_underlying h1, Result.andThen_ok, hz]
 by_cases ha : a = a' <;> by_cases hb : b = b' <;>
 simp [Std.Legacy.Range.forIn_eq_forIn_range', List.range', p0, p1, F6 h2, ha, hb]
theorem aJ.two {vs : List Value} {x y : AV} (h : aJ M L vs [x, y]) : ∃ u v, vs = [u, v] ∧ aR M L u x ∧ aR M L v y := by
 cases h with
 | cons u x vs xs h1 h2 => obtain ⟨v, rfl, h3⟩ := h2.EI; exact ⟨u, v, rfl, h1, h3⟩
theorem aR.pair {u : Value} {k l : IntKind} {a b : Int} (h : aR M L u (.agg [.int k a, .int l b])) : u = .agg #[.int k a, .int l b] := by
 cases h with
 | agg cs xs hr =>
   obtain ⟨x, y, rfl, h1, h2⟩ := hr.two
   cases h1; cases h2
   rfl
theorem oQ {k y : AV} {b : Bool} (h : cP 2 k y = some b) : ∃ p q i j i' j', k = .agg [.int p i, .int q j] ∧ y = .agg [.int p i', .int q j'] ∧ b = decide (i = i' ∧ j = j') := by
 unfold cP at h
 split at h
 ·have : (2 : Nat) = 0 := by assumption
  omega
 ·have : (2 : Nat) = 1 := by assumption
  omega
 ·split at h <;> cases h
  rename_i e
  obtain ⟨rfl, rfl⟩ := e
  exact ⟨_, _, _, _, _, _, rfl, rfl, rfl⟩
 ·cases h
def found (P : Program) (kt : TypeId) (u : Value) (ents : List MapEntry) (M : Mem) (L : List Nat) (n : Nat) (r : Option (Nat × AV)) : Prop :=
 match r with
 | none => ∀ w, (Instr.findKey kt u ents).run P w = .ok none w
 | some (j, x) => ∃ v, (∀ w, (Instr.findKey kt u ents).run P w = .ok (some (j, v)) w) ∧ aR M L v x ∧ ∃ en, ents[j]? = some en ∧ en.key = u ∧ en.val = v ∧ j < n
theorem uo {kt e : TypeId} {q : IntKind} (h1 : P.underlying kt = some (.array 2 e)) (h2 : P.underlying e = some (.int q)) (h3 : (P.info? e).map (·.size) = some 1) {k : AV} {u : Value} (hu : aR M L u k) :
 ∀ (es : List (AV × AV)) (ents : List MapEntry) (i : Nat) (r : Option (Nat × AV)), aJ M L (ents.map (·.key)) (es.map (·.1)) → aJ M L (ents.map (·.val)) (es.map (·.2)) → dN 2 k es i = some r →
  match r with
  | none => ∀ w, (Instr.findAsking kt u ents i).run P w = .ok none w
  | some (j, x) => i ≤ j ∧ ∃ v, (∀ w, (Instr.findAsking kt u ents i).run P w = .ok (some (j, v)) w) ∧ aR M L v x ∧ ∃ en, ents[j - i]? = some en ∧ en.key = u ∧ en.val = v ∧ j - i < es.length
 | [], ents, i, r, k1, k2, h => by
   cases ents with
   | nil => simp [dN] at h; subst h; exact fun w => rfl
   | cons a b => have := k1.length; simp at this
 | (a, x) :: es, [], i, r, k1, k2, h => by have := k1.length; simp at this
 | (a, x) :: es, en :: ents, i, r, k1, k2, h => by
   simp only [List.map_cons] at k1 k2
   cases k1 with
   | cons _ _ _ _ hk Dh =>
   cases k2 with
   | cons _ _ _ _ hv wC =>
   unfold dN at h
   split at h
   ·rename_i he
    cases h
    obtain ⟨p, q', m, n, m', n', rfl, rfl, hb⟩ := oQ he
    have hd := of_decide_eq_true hb.symm
    have e1 := hu.pair
    have e2 := hk.pair
    refine ⟨Nat.le_refl _, en.val, fun w => ?_, hv, en, by simp, ?_, rfl, by simp⟩
    ·have := xn (P := P) h1 h2 h3 9998 p q' m n m' n' w
     simp only [Instr.findAsking, e1, e2, Sem.run_bind, Op.equal, Op.maxDepth]
     rw [this]
     simp [hd]
    ·rw [e1, e2, hd.1, hd.2]
   ·rename_i he
    obtain ⟨p, q', m, n, m', n', rfl, rfl, hb⟩ := oQ he
    have hd := of_decide_eq_false hb.symm
    have e1 := hu.pair
    have e2 := hk.pair
    have jJ : ∀ w, (Instr.findAsking kt u (en :: ents) i).run P w = (Instr.findAsking kt u ents (i + 1)).run P w := fun w => by
     have := xn (P := P) h1 h2 h3 9998 p q' m n m' n' w
     rw [Instr.findAsking, Sem.run_bind, e1, e2, Op.equal, Op.maxDepth, this]
     simp only [Result.andThen_ok, hd, decide_false]
     rfl
    have ih := uo h1 h2 h3 hu es ents (i + 1) r Dh wC h
    cases r with
    | none => exact fun w => (jJ w).trans (ih w)
    | some jx =>
      obtain ⟨j, y⟩ := jx
      simp only at ih ⊢
      obtain ⟨hij, v, f1, f2, en', f3, f4, f5, f6⟩ := ih
      refine ⟨by omega, v, fun w => (jJ w).trans (f1 w), f2, en', ?_, f4, f5, by simp; omega⟩
      rw [show j - i = (j - (i + 1)) + 1 by omega]
      simpa using f3
   ·cases h
theorem jO {kt : TypeId} {kd : Nat} {d : TypeDesc} (Ig : P.underlying kt = some d) (hd : j4 kd d ∨ Dg P kd d) {k : AV} {u : Value} (hu : aR M L u k) {es : List (AV × AV)} {ents : List MapEntry} {r : Option (Nat × AV)}
 (h1 : aJ M L (ents.map (·.key)) (es.map (·.1))) (h2 : aJ M L (ents.map (·.val)) (es.map (·.2))) (h : dN kd k es 0 = some r) : found P kt u ents M L es.length r := by
 rcases hd with hd | ⟨rfl, e, q, rfl, k1, k2⟩
 ·have := xm hd hu es ents 0 r h1 h2 h
  cases r with
  | none => intro w; simp only at this; simp [Instr.findKey, run_underlying Ig, this]
  | some jx =>
    obtain ⟨j, x⟩ := jx
    simp only [Nat.sub_zero] at this
    obtain ⟨_, v, f1, f2, f3⟩ := this
    exact ⟨v, fun w => by simp [Instr.findKey, run_underlying Ig, f1], f2, f3⟩
 ·have := uo Ig k1 k2 hu es ents 0 r h1 h2 h
  have TI : ∀ en (l : List MapEntry), Instr.findNow (.array 2 e) u (en :: l) 0 = none := fun en l => rfl
  cases ents with
  | nil =>
    have yR : es = [] := by have := h1.length; simpa using this.symm
    subst yR
    simp [dN] at h; subst h
    intro w
    simp [Instr.findKey, run_underlying Ig, Instr.findNow]
  | cons en l =>
    cases r with
    | none => intro w; simp only at this; simp [Instr.findKey, run_underlying Ig, TI, this]
    | some jx =>
      obtain ⟨j, x⟩ := jx
      simp only [Nat.sub_zero] at this
      obtain ⟨_, v, f1, f2, f3⟩ := this
      exact ⟨v, fun w => by simp [Instr.findKey, run_underlying Ig, TI, f1], f2, f3⟩
theorem run_checkKey_plain {t : TypeId} {d : TypeDesc} {kd : Nat} (ht : P.underlying t = some d) (hd : j4 kd d) (w : World) (oh : Bool) (n : Nat) (v : Value) :
 (Instr.checkKey oh (n + 1) t v).run P w = .ok () w := by
 have : d = .string ∨ ∃ k, d = .int k := by
  unfold j4 at hd
  split at hd
  ·exact .inr ⟨_, rfl⟩
  ·exact .inl rfl
  ·exact hd.elim
 rcases this with rfl | ⟨k, rfl⟩ <;> simp [Instr.checkKey, run_underlying ht]
theorem run_checkKey {t : TypeId} {d : TypeDesc} {kd : Nat} (ht : P.underlying t = some d) (hd : j4 kd d ∨ Dg P kd d) (w : World) (oh : Bool) (n : Nat) {v : Value} {k y : AV} {b : Bool} (hv : aR M L v k) (hk : cP kd k y = some b) :
 (Instr.checkKey oh (n + 1 + 1) t v).run P w = .ok () w := by
 rcases hd with hd | ⟨rfl, e, q, rfl, k1, k2⟩
 ·exact run_checkKey_plain ht hd w oh _ v
 ·obtain ⟨p, q', m, n', m', n2, rfl, _⟩ := oQ hk
  have e1 := hv.pair
  obtain ⟨i, hi, hs⟩ := Option.map_eq_some_iff.1 k2
  have hz : (sizeOf e).run P w = .ok 1 w := by simp [sizeOf, typeInfo, hi, hs]
  have p0 : ∀ x y : Value, (part e #[x, y] 0).run P w = .ok x w := fun x y => pF k1 (by simp) w
  have p1 : ∀ x y : Value, (part e #[x, y] 1).run P w = .ok y w := fun x y => pF k1 (by simp) w
  have c : ∀ v, (Instr.checkKey oh (n + 1) e v).run P w = .ok () w := fun v => run_checkKey_plain (kd := 0) k1 trivial w oh n v
  rw [Instr.checkKey, e1]
  simp only [Sem.run_bind, run_underlying ht, Result.andThen_ok]
  simp [Std.Legacy.Range.forIn_eq_forIn_range', List.range', p0, p1, c, hz]
theorem yS {kd : Nat} {k : AV} (hk : ∃ b, cP kd k k = some b) {u : Value} (hu : aR M L u k) (n : Nat) : Instr.sameBits (n + 1) u u = true := by
 obtain ⟨b, hk⟩ := hk
 unfold cP at hk
 split at hk
 ·cases hu; simp [Instr.sameBits]
 ·cases hu; simp [Instr.sameBits, yQ]
 ·rw [hu.pair]; simp [Instr.sameBits]
 ·cases hk
theorem oz {kd : Nat} {k y : AV} {b : Bool} (h : cP kd k y = some b) : ∃ b, cP kd k k = some b := by
 unfold cP at h
 split at h
 ·exact ⟨true, by simp [cP]⟩
 ·exact ⟨true, by simp [cP]⟩
 ·exact ⟨true, by simp [cP]⟩
 ·cases h
theorem qX {kd : Nat} {k : AV} : ∀ (es : List (AV × AV)) (i j : Nat) (x : AV), dN kd k es i = some (some (j, x)) → ∃ b, cP kd k k = some b
 | [], i, j, x, h => by simp [dN] at h
 | (a, v) :: es, i, j, x, h => by
   unfold dN at h
   split at h
   ·rename_i he; exact oz he
   ·rename_i he; exact oz he
   ·cases h
theorem AW (hs : St A M L w H ev ea O) {t kt et : TypeId} {kd : Nat} (ht : P.underlying t = some (.map kt et)) (hk : nH P kt = some kd) {zero : AV} (hz : fw P et = some zero) {u v : Value} {m k : AV} {ok : Bool} {φ : AV → Prop}
 (h : cb kd zero m k ok H φ) (hu : aR M L u m) (hv : aR M L v k) :
 ∃ r z, (Instr.lookup t u v ok).run P w = .ok r w ∧ aR M L r z ∧ φ z ∧ ∀ own xs, z = .ap own xs → own = 0 := by
 obtain ⟨d, Im, F5⟩ := pE hk
 have hzero : ∃ zv, (zeroValue et).run P w = .ok zv w ∧ aR M L zv (aT zero) := by
  unfold fw at hz
  split at hz
  ·rename_i i hi
   split at hz
   ·rename_i zv so
    exact ⟨zv, by simp [zeroValue, typeInfo, hi, so], (cA hz).aT⟩
   ·cases hz
  ·cases hz
 obtain ⟨zv, AO, hzrep⟩ := hzero
 have F7 : (∃ b, cP kd k k = some b) → ∀ oh, (Instr.checkKey oh 10000 kt v).run P w = .ok () w := fun ⟨b, hb⟩ oh => run_checkKey (n := 9998) Im F5 w oh hv hb
 have free : ∀ z own xs, (if ok then AV.tuple [aT z, .bool false] else aT z) = .ap own xs → own = 0 := by
  intro z own xs e
  cases ok
  ·simp at e; exact C7 z own xs e
  ·simp at e
 unfold cb at h
 split at h
 ·obtain ⟨K7, hφ⟩ := h
  have LK := F7 ⟨_, K7⟩
  cases hu
  refine ⟨if ok then .tuple #[zv, .bool false] else zv, _, ?_, ?_, hφ, free zero⟩
  ·have : (Instr.findKey kt v (#[] : Array MapEntry).toList).run P w = .ok none w := by simp [Instr.findKey, run_underlying Im, Instr.findNow]
   simp only [Instr.lookup, Sem.run_bind, run_underlying ht, Result.andThen_ok, Sem.run_pure, LK, this, AO]
  ·cases ok
   ·simpa using hzrep
   ·simpa using aR.tuple [zv, .bool false] _ (.cons _ _ _ _ hzrep (.cons _ _ _ _ (.bool _) .nil))
 ·rename_i id
  cases hu with
  | map b _ hl =>
  split at h <;> try exact h.elim
  rename_i es bm
  obtain ⟨ents, ck, h1, h2, h3⟩ := hs.obj id _ b bm hl
  have ji : (getObj b).run P w = .ok (.map ents ck) w := by simp [getObj, Sem.run, h1]
  split at h
  ·rename_i j x hf
   obtain ⟨y, f1, f2, _⟩ := jO Im F5 hv (ents := ents.toList) (by simpa using h2) (by simpa using h3) hf
   have LK := F7 (qX _ _ _ _ hf)
   refine ⟨if ok then .tuple #[y, .bool true] else y, _, ?_, ?_, h, ?_⟩
   ·simp only [Instr.lookup, Sem.run_bind, run_underlying ht, Result.andThen_ok, Sem.run_pure, ji, LK, f1 w]
   ·cases ok
    ·simpa using f2.drop
    ·simpa using aR.tuple [y, .bool true] _ (.cons _ _ _ _ f2.drop (.cons _ _ _ _ (.bool _) .nil))
   ·intro own xs e
    cases ok
    ·simp at e; exact AV.jc x own xs e
    ·simp at e
  ·rename_i hf
   obtain ⟨K7, hφ⟩ := h
   have LK := F7 ⟨_, K7⟩
   have f1 : ∀ w, (Instr.findKey kt v ents.toList).run P w = .ok none w := jO Im F5 hv (ents := ents.toList) (by simpa using h2) (by simpa using h3) hf
   refine ⟨if ok then .tuple #[zv, .bool false] else zv, _, ?_, ?_, hφ, free zero⟩
   ·simp only [Instr.lookup, Sem.run_bind, run_underlying ht, Result.andThen_ok, Sem.run_pure, ji, LK, f1 w, AO]
   ·cases ok
    ·simpa using hzrep
    ·simpa using aR.tuple [zv, .bool false] _ (.cons _ _ _ _ hzrep (.cons _ _ _ _ (.bool _) .nil))
  ·exact h.elim
 ·exact h.elim
theorem Di (hs : St A M L w H ev ea O) (t : TypeId) :
 ∃ r L' w', (Instr.makeMap t none).run P w = .ok r w' ∧ aR M L' r (.map H.length) ∧ St A M L' w' (H ++ [.map []]) ev ea O ∧ Ext A M w M w' ∧ L <+: L' := by
 obtain ⟨h1, h2⟩ := hs.qS (.map #[] 0) (.map []) (fun w' hw hM => ⟨#[], 0, hw, .nil, .nil⟩) rfl (fun j => rfl)
 refine ⟨_, _, _, rfl, .map _ _ ?_, h1, h2, ⟨_, rfl⟩⟩
 rw [List.getElem?_append_right (by rw [hs.len]; exact Nat.le_refl _), hs.len]; simp
theorem AX (hs : St A M L w H ev ea O) {t kt et : TypeId} {kd : Nat} (ht : P.underlying t = some (.map kt et)) (hk : nH P kt = some kd) {u v y : Value} {m k x : AV} {K : List aa → Prop}
 (h : eZ kd m k x H K) (hu : aR M L u m) (hv : aR M L v k) (hy : aR M L y x) :
 ∃ w' H', (Instr.mapUpdate t u v y).run P w = .ok () w' ∧ K H' ∧ St A M L w' H' ev ea O ∧ Ext A M w M w' := by
 obtain ⟨d, Im, F5⟩ := pE hk
 have F7 : (∃ b, cP kd k k = some b) → (Instr.checkKey false 10000 kt v).run P w = .ok () w := fun ⟨b, hb⟩ => run_checkKey (n := 9998) Im F5 w false hv hb
 unfold eZ at h
 split at h <;> try exact h.elim
 rename_i id
 cases hu with
 | map b _ hl =>
 split at h <;> try exact h.elim
 rename_i es bm
 obtain ⟨oP, pw, lh, h⟩ := h
 obtain ⟨ents, ck, h1, h2, h3⟩ := hs.obj id _ b bm hl
 have hlen : ents.size = es.length := by have := h2.length; simpa using this
 have bP := hs.bB id _ bm
 replace oP := AV.cE (A.k7 (aM bm)) _ oP
 replace pw := AV.cE (A.k7 (aM bm)) _ pw
 simp only [aa.a7, Bool.and_eq_true] at bP
 have ji : (getObj b).run P w = .ok (.map ents ck) w := by simp [getObj, Sem.run, h1]
 have fV : ∀ o, (setObj b o).run P w = .ok () { w with heap := w.heap.setIfInBounds b o } := by intro o; simp [setObj, Sem.run, h1]
 have hcb : (aT x).a7 (A.jb H.length id) = true := by
  have hdrop : ∀ z : AV, z.a7 (A.jb H.length id) = true → z.drop.a7 (A.jb H.length id) = true := by
   intro z hz; cases z <;> simp_all [AV.drop, AV.a7, aj]
  cases x <;> simp only [bh.aT] <;> first | exact hdrop _ pw | skip
  rename_i xs
  simp only [AV.a7, a9, List.mem_map] at pw ⊢
  rintro z ⟨q, hq, rfl⟩
  exact hdrop q (pw q hq)
 split at h
 ·rename_i j z hf
  obtain ⟨v0, f1, f2, en, f3, f4, f5, f6⟩ := jO Im F5 hv (ents := ents.toList) (by simpa using h2) (by simpa using h3) hf
  have LK := F7 (qX _ _ _ _ hf)
  have hj : j < ents.size := by omega
  have hen : ents[j]? = some en := by simpa using f3
  have Yg : ((ents[j]?).map (·.key)).getD v = v := by simp [hen, f4]
  have hstay : (Instr.keyThatStays v v).run P w = .ok v w := by simp [Instr.keyThatStays, yS (qX es 0 j z hf) hv 9999]
  have bG : (Instr.mapUpdate t (.map (some b)) v y).run P w = .ok () { w with heap := w.heap.setIfInBounds b (.map (ents.modify j fun e => { e with key := v, val := y }) ck) } := by
   simp only [Instr.mapUpdate, Sem.run_bind, run_underlying ht, Result.andThen_ok, ji, LK]
   simp only [f1 w, Result.andThen_ok, Sem.run_bind, Yg, hstay, fV]
  have TJ : (ents.modify j fun e => { e with key := v, val := y }).toList.map (·.key) = (ents.toList.map (·.key)).set j v ∧ (ents.modify j fun e => { e with key := v, val := y }).toList.map (·.val) = (ents.toList.map (·.val)).set j y := by
   constructor
   ·apply List.ext_getElem?
    intro q
    simp only [List.getElem?_map, Array.getElem?_toList, Array.getElem?_modify, List.getElem?_set]
    by_cases hq : j = q
    ·subst hq; simp [hj]
    ·simp [hq]
   ·apply List.ext_getElem?
    intro q
    simp only [List.getElem?_map, Array.getElem?_toList, Array.getElem?_modify, List.getElem?_set]
    by_cases hq : j = q
    ·subst hq; simp [hj]
    ·simp [hq]
  obtain ⟨g1, g2⟩ := hs.AH (es' := es.set j (k, aT x)) (o' := .map (ents.modify j fun e => { e with key := v, val := y }) ck) bm hl (by intro _ _ _ e; cases e) (fun w' hw => ⟨_, _, hw, by
   rw [TJ.1]
   have := aJ.set (by simpa using h2) hv j
   rwa [show (es.set j (k, aT x)).map (·.1) = (es.map (·.1)).set j k by rw [List.map_set]], by
   rw [TJ.2]
   have := aJ.set (by simpa using h3) hy.aT j
   rwa [show (es.set j (k, aT x)).map (·.2) = (es.map (·.2)).set j (aT x) by rw [List.map_set]]⟩) (by
   simp only [aa.a7, Bool.and_eq_true, List.map_set]
   rw [a9, a9] at *
   refine ⟨fun q hq => ?_, fun q hq => ?_⟩
   ·rcases List.mem_or_eq_of_mem_set hq with h' | rfl
    ·exact bP.1 q h'
    ·exact oP
   ·rcases List.mem_or_eq_of_mem_set hq with h' | rfl
    ·exact bP.2 q h'
    ·exact hcb)
  exact ⟨_, _, bG, h, g1, g2⟩
 ·rename_i hf
  obtain ⟨K7, hK⟩ := h
  have LK := F7 ⟨_, K7⟩
  have f1 : ∀ w, (Instr.findKey kt v ents.toList).run P w = .ok none w := jO Im F5 hv (ents := ents.toList) (by simpa using h2) (by simpa using h3) hf
  have bG : (Instr.mapUpdate t (.map (some b)) v y).run P w = .ok () { w with heap := w.heap.setIfInBounds b (.map (ents.push { key := v, val := y, born := ck }) (ck + 1)) } := by
   simp only [Instr.mapUpdate, Sem.run_bind, run_underlying ht, Result.andThen_ok, ji, LK]
   simp only [f1 w, Result.andThen_ok, fV]
  obtain ⟨g1, g2⟩ := hs.AH (es' := es ++ [(k, aT x)]) (o' := .map (ents.push { key := v, val := y, born := ck }) (ck + 1)) bm hl (by intro _ _ _ e; cases e) (fun w' hw => ⟨_, _, hw, by
   simpa using h2.append (.one hv), by
   simpa using h3.append (.one hy.aT)⟩) (by
   simp only [aa.a7, Bool.and_eq_true, List.map_append, List.map_cons, List.map_nil]
   exact ⟨bw.2 ⟨bP.1, by simp [aj, oP]⟩, bw.2 ⟨bP.2, by simp [aj, hcb]⟩⟩)
  exact ⟨_, _, bG, hK, g1, g2⟩
 ·exact h.elim
end
end Go.aK
end
section
namespace Go.aK
open Go
def wG (esz : Nat) (s : AV) (H : List aa) : Option (Nat × List AV) :=
 match s with
 | .ah => some (0, [])
 | .ap _ xs => if xs.all (fun y => y.cells.length == esz) = true then some (xs.length, flat xs) else none
 | .bf id off len _ => match H[id]? with
   | some (.cells es) => if off + len * esz ≤ es.length then some (len, es.drop off) else none
   | _ => none
 | _ => none
def jo (esz : Nat) (d s : AV) (H : List aa) (K : AV → List aa → Prop) : Prop :=
 match d, wG esz s H with
 | .bf id off len _, some (n, ys) => match H[id]? with
   | some (.cells es) => (ys.take (min n len * esz)).all AV.one = true ∧ off + min n len * esz ≤ es.length ∧ aj (id + 1) ((ys.take (min n len * esz)).map AV.ab) = true ∧
      K (.int .i64 (min n len : Nat)) (H.set id (.cells (ag es off ((ys.take (min n len * esz)).map AV.ab))))
   | _ => False
 | _, _ => False
def gk (esz : Nat) (x : AV) (lo hi : Option AV) (φ : AV → Prop) : Prop :=
 match x with
 | .bf id off len cap => dG hi len fun h => dG lo 0 fun l => l ≤ h ∧ h ≤ cap ∧ φ (.bf id (if cap = l then off else off + l * esz) (h - l) (cap - l))
 | _ => False
def nI (esz : Nat) (x : AV) (lo hi : Option AV) (m : AV) (φ : AV → Prop) : Prop :=
 match x with
 | .bf id off len cap => hi.isSome = true ∧ dG (some m) 0 fun m => dG hi len fun h => dG lo 0 fun l => l ≤ h ∧ h ≤ m ∧ m ≤ cap ∧ φ (.bf id (if m = l then off else off + l * esz) (h - l) (m - l))
 | _ => False
def bn (esz : Nat) (x : AV) (lo hi mx : Option AV) (φ : AV → Prop) : Prop :=
 match x with
 | .bf a b c d => match mx with
   | none => gk esz (.bf a b c d) lo hi φ
   | some m => nI esz (.bf a b c d) lo hi m φ
 | _ => (∀ own xs, x = .ap own xs → ∀ z ∈ xs, z.cells.length = esz) ∧ eL esz x lo hi mx φ
section
variable {P : Program} {w : World} {M : Mem} {L : List Nat} {H : List aa} {A : Perm} {ev : Nat → Value} {ea : Nat → AV} {O : Pos → Option Nat}
theorem St.yT (hs : St A M L w H ev ea O) {id off b : Nat} {es : List AV} (bm : H[id]? = some (.cells es)) (hl : L[id]? = some b) {cs : Array Value} {e : TypeId} (h1 : w.heap[b]? = some (.cells cs e (0, 0)))
 (h2 : aJ M L cs.toList es) {vs : List Value} {xs : List AV} (hv : aJ M L vs xs) (hle : off + xs.length ≤ es.length) (nF : aj (id + 1) (xs.map AV.ab) = true) :
 ∃ O', St A M L (w.setRow b (ag cs.toList off vs).toArray) (H.set id (.cells (ag es off (xs.map AV.ab)))) ev ea O' ∧ Ext A M w M (w.setRow b (ag cs.toList off vs).toArray) := by
 have pD := hv.length
 have iC := h2.length
 let O' : Pos → Option Nat := fun q => match q with
  | .t t => O (.t t)
  | .c id' j => if id' = id ∧ off ≤ j ∧ j < off + xs.length then none else O (.c id' j)
 have hO : ∀ q b, O' q = some b → O q = some b := by
  intro q b hq
  cases q with
  | t t => exact hq
  | c id' j =>
    simp only [O'] at hq
    split at hq
    ·cases hq
    ·exact hq
 have K6 : off + (xs.map AV.ab).length ≤ es.length := by simp; omega
 have X6 : off + vs.length ≤ cs.toList.length := by omega
 exact ⟨O', hs.write (cs' := (ag cs.toList off vs).toArray) (es' := ag es off (xs.map AV.ab)) (O' := O') bm hl h1
  (by simpa using hv.cU.yG off h2)
  (by
    have bP := hs.bB id _ bm
    simp only [aa.a7] at bP
    unfold ag
    exact bw.2 ⟨sq bP, bw.2 ⟨bF (A.k7 (aM bm)) _ nF, sr bP⟩⟩)
  (ub.sub hs.bY hO) hs.env hs.gH (by
  intro j
  have e1 : ((ag cs.toList off vs).toArray)[j]? = (ag cs.toList off vs)[j]? := by simp
  rw [e1, eK _ _ _ X6, List.getD_eq_getElem?_getD, eK _ _ _ K6]
  simp only [List.length_map]
  rw [pD]
  by_cases hj : off ≤ j ∧ j < off + xs.length
  ·simp only [hj, and_self, if_true]
   have : O' (.c id j) = none := by simp [O', hj]
   rw [this]
   refine bb.free ?_
   intro own ys hh
   rw [List.getElem?_map] at hh
   cases hx : xs[j - off]? with
   | none => simp [hx] at hh
   | some y => simp [hx] at hh; exact AV.bI y own ys hh
  ·simp only [hj, if_false]
   have : O' (.c id j) = O (.c id j) := by simp only [O']; rw [if_neg (by intro h'; exact hj h'.2)]
   rw [this]
   have h0 := hs.gE id j
   have e3 : bJ L w id j = (cs.toList[j]?).getD undef := by
    unfold bJ; simp [hl, World.cell?, h1]
   have e4 : bp H id j = (es[j]?).getD .any := by
    unfold bp; simp [bm, List.getD_eq_getElem?_getD]
   rw [e3, e4] at h0
   exact h0)
  (by intro id' j dS; simp [O', dS])⟩
theorem Is (hs : St A M L w H ev ea O) {esz n m : Nat} {s : AV} {ys : List AV} {v : Value} (h : wG esz s H = some (n, ys)) (hv : aR M L v s) (hm : m ≤ n) :
 (Builtin.lenOf v).run P w = .ok n w ∧ ∃ vs, (Builtin.firstCells esz m v).run P w = .ok vs.toArray w ∧ aJ M L vs (ys.take (m * esz)) := by
 unfold wG at h
 split at h
 ·cases h
  cases hv
  have : m = 0 := by omega
  subst this
  refine ⟨rfl, [], ?_, by simpa using aJ.nil⟩
  simp [Builtin.firstCells]
 ·rename_i own xs
  split at h <;> cases h
  rename_i jm
  have TK : ∀ y ∈ xs, y.cells.length = esz := by
   intro y hy
   have := List.all_eq_true.1 jm y hy
   simpa using this
  cases hv with
  | gb a c _ hc =>
    have : m = 0 := by simpa using hm
    subst this
    refine ⟨rfl, [], ?_, by simpa [flat] using aJ.nil⟩
    cases a with
    | none => simp [Builtin.firstCells]
    | some a => simpa [Builtin.firstCells] using run_loadCells_list (P := P) w a [] (by simp)
  | ap b off c _ e cs _ he hx hn hle hc hr PY =>
    have TL := gP PY hs.mem
    have iC := hr.length
    have LL : (flat xs).length = xs.length * esz := cB xs esz TK
    have Ie := run_loadCells_list (P := P) w ⟨b, off, none⟩ (cs.take (m * esz)) (fun j v hv => TL j v (by
     rw [List.getElem?_take] at hv
     split at hv
     ·exact hv
     ·cases hv))
    have hlen : (cs.take (m * esz)).length = m * esz := by
     have : m * esz ≤ xs.length * esz := Nat.mul_le_mul_right _ hm
     simp; omega
    rw [hlen] at Ie
    exact ⟨rfl, cs.take (m * esz), by simpa [Builtin.firstCells] using Ie, hr.take _⟩
 ·rename_i id off len cap
  split at h <;> try cases h
  rename_i es bm
  split at h <;> cases h
  rename_i s9
  cases hv with
  | bf b _ _ _ _ hl hc =>
  obtain ⟨cs, e, h1, h2, h3⟩ := eX hs bm hl
  have iC := h2.length
  have hlen : ((cs.toList.drop off).take (m * esz)).length = m * esz := by
   have : m * esz ≤ n * esz := Nat.mul_le_mul_right _ hm
   simp at iC ⊢; omega
  have Ie := run_loadCells_list (P := P) w ⟨b, off, none⟩ ((cs.toList.drop off).take (m * esz)) (fun j v hv => by rw [Addr.add_lit]; exact h3 _ _ (dh _ _ _ _ _ hv))
  rw [hlen] at Ie
  exact ⟨rfl, (cs.toList.drop off).take (m * esz), by simpa [Builtin.firstCells] using Ie, (h2.drop off).take _⟩
 ·cases h
theorem F8 (hs : St A M L w H ev ea O) {t e : TypeId} {esz : Nat} (ht : P.underlying t = some (.slice e)) (he : dB P e = some esz) {u v : Value} {d s : AV} {K : AV → List aa → Prop} (h : jo esz d s H K) (hu : aR M L u d) (hv : aR M L v s) (t' ty : TypeId) :
 ∃ r z w' H' O', (Builtin.copy_ #[t, t'] ty #[u, v]).run P w = .ok r w' ∧ aR M L r z ∧ K z H' ∧ St A M L w' H' ev ea O' ∧ Ext A M w M w' ∧ ∀ own xs, z = .ap own xs → own = 0 := by
 unfold jo at h
 split at h <;> try exact h.elim
 rename_i id off len cap n ys wH
 split at h <;> try exact h.elim
 rename_i es bm
 obtain ⟨jZ, hle, nF, hK⟩ := h
 cases hu with
 | bf b _ _ _ _ hl hc =>
 obtain ⟨hlen, vs, hfc, hr⟩ := Is (P := P) hs wH hv (Nat.min_le_left n len)
 obtain ⟨cs, e', h1, h2, h3⟩ := hs.obj id _ b bm hl
 have iC := h2.length
 have pD := hr.length
 have hyl : (ys.take (min n len * esz)).length ≤ min n len * esz := by simp; omega
 have bP := run_storeCells_at P b off e' vs 0 cs w h1 (by simp at iC ⊢; omega) (hr.gf jZ)
 obtain ⟨O', g1, g2⟩ := hs.yT (off := off) bm hl h1 h2 hr (by omega) nF
 obtain ⟨i, hi, Il⟩ := Option.map_eq_some_iff.1 he
 refine ⟨.int .i64 (min n len : Nat), .int .i64 (min n len : Nat), _, _, O', ?_, .int _ _, hK, g1, g2, by intro _ _ e; cases e⟩
 have PZ : Nat.min n len = min n len := rfl
 have lm : (storeCells ⟨b, off, none⟩ vs).run P w = .ok () (w.setRow b (ag cs.toList off vs).toArray) := by simpa [ag] using bP
 simp [Builtin.copy_, run_underlying ht, hlen, sizeOf, typeInfo, hi, Il, PZ, hfc, lm, goInt]
theorem AY {t e : TypeId} {esz : Nat} (ht : P.underlying t = some (.slice e)) (he : dB P e = some esz) {u : Value} {x : AV} {lo hi : Option AV} {vlo vhi : Option Value} {φ : AV → Prop} (h : gk esz x lo hi φ) (hu : aR M L u x) (h1 : iJ M L lo vlo) (h2 : iJ M L hi vhi) :
 ∃ r z, (Instr.sliceAt t u vlo vhi none).run P w = .ok r w ∧ aR M L r z ∧ φ z ∧ ∀ own xs, z = .ap own xs → own = 0 := by
 unfold gk at h
 split at h <;> try exact h.elim
 rename_i id off len cap
 cases hu with
 | bf b _ _ _ _ hl hc =>
 obtain ⟨hh, h, Ir⟩ := dC h2 h
 obtain ⟨ll, h, ui⟩ := dC h1 h
 obtain ⟨hle, Xz, hφ⟩ := h
 obtain ⟨i, iF, Il⟩ := Option.map_eq_some_iff.1 he
 have cT : (sizeOf e).run P w = .ok esz w := by simp [sizeOf, typeInfo, iF, Il]
 refine ⟨_, _, ?_, .bf b (if cap = ll then off else off + ll * esz) (hh - ll) (cap - ll) id hl (by omega), hφ, by intro _ _ e; cases e⟩
 have hb : (Instr.sliceBounds true len cap vlo vhi none).run P w = .ok (ll, hh, cap) w := by
  rcases Ir with ⟨_, rfl, rfl⟩ | ⟨kd, i, rfl, tD, rfl⟩ <;> rcases ui with ⟨_, rfl, rfl⟩ | ⟨kd', i', rfl, td, rfl⟩
  ·rfl
  ·have oP := run_sliceBound (P := P) w kd' i' hh .sliceB td hle
   simp [Instr.sliceBounds, oP]
  ·have oP := run_sliceBound (P := P) w kd i cap .sliceAcap tD (by omega)
   simp [Instr.sliceBounds, oP]
  ·have oP := run_sliceBound (P := P) w kd i cap .sliceAcap tD (by omega)
   have pw := run_sliceBound (P := P) w kd' i' i.toNat .sliceB td hle
   simp [Instr.sliceBounds, oP, pw]
 simp only [Instr.sliceAt, Instr.slice, Sem.run_bind, run_underlying ht, Result.andThen_ok, hb, cT, Sem.run_pure]
 by_cases iC : cap = ll
 ·simp [iC]
 ·simp [iC, Addr.add_lit]
theorem AZ {t e : TypeId} {esz : Nat} (ht : P.underlying t = some (.slice e)) (he : dB P e = some esz) {u : Value} {x m : AV} {lo hi : Option AV} {vlo vhi vm : Option Value} {φ : AV → Prop} (h : nI esz x lo hi m φ) (hu : aR M L u x) (h1 : iJ M L lo vlo) (h2 : iJ M L hi vhi) (h3 : iJ M L (some m) vm) :
 ∃ r z, (Instr.sliceAt t u vlo vhi vm).run P w = .ok r w ∧ aR M L r z ∧ φ z ∧ ∀ own xs, z = .ap own xs → own = 0 := by
 unfold nI at h
 split at h <;> try exact h.elim
 rename_i id off len cap
 cases hu with
 | bf b _ _ _ _ hl hc =>
 obtain ⟨hsome, h⟩ := h
 obtain ⟨mm, h, Tc⟩ := dC h3 h
 obtain ⟨hh, h, Ir⟩ := dC h2 h
 obtain ⟨ll, h, ui⟩ := dC h1 h
 obtain ⟨hle, Xz, hmc, hφ⟩ := h
 obtain ⟨i, iF, Il⟩ := Option.map_eq_some_iff.1 he
 have cT : (sizeOf e).run P w = .ok esz w := by simp [sizeOf, typeInfo, iF, Il]
 refine ⟨_, _, ?_, .bf b (if mm = ll then off else off + ll * esz) (hh - ll) (mm - ll) id hl (by omega), hφ, by intro _ _ e; cases e⟩
 have hb : (Instr.sliceBounds true len cap vlo vhi vm).run P w = .ok (ll, hh, mm) w := by
  rcases Tc with ⟨e0, _⟩ | ⟨kd3, i3, rfl, hi3, rfl⟩
  ·cases e0
  have XB := run_sliceBound (P := P) w kd3 i3 cap .slice3Acap hi3 hmc
  rcases Ir with ⟨rfl, _, _⟩ | ⟨kd, i, rfl, tD, rfl⟩
  ·cases hsome
  have oP := run_sliceBound (P := P) w kd i i3.toNat .slice3B tD Xz
  rcases ui with ⟨_, rfl, rfl⟩ | ⟨kd', i', rfl, td, rfl⟩
  ·simp [Instr.sliceBounds, oP, XB]
  ·have pw := run_sliceBound (P := P) w kd' i' i.toNat .slice3C td hle
   simp [Instr.sliceBounds, oP, pw, XB]
 simp only [Instr.sliceAt, Instr.slice, Sem.run_bind, run_underlying ht, Result.andThen_ok, hb, cT, Sem.run_pure]
 by_cases iC : mm = ll
 ·simp [iC]
 ·simp [iC, Addr.add_lit]
end
end Go.aK
end
section
namespace Go.aK
open Go
def chunks (esz : Nat) : Nat → List AV → List AV
 | 0, _ => []
 | n + 1, es => (if esz = 1 then (es.getD 0 .any).ab else .agg ((es.take esz).map AV.ab)) :: chunks esz n (es.drop esz)
def dD (esz : Nat) (x : AV) (H : List aa) (K : AV → List aa → Prop) : Prop :=
 match x with
 | .bf id off len cap => match H[id]? with
   | some (.cells es) => 0 < esz ∧ len ≤ cap ∧ off + len * esz ≤ es.length ∧ (es.drop off).all AV.one = true ∧ K (.ap 0 (chunks esz len (es.drop off))) (H.set id .dead)
   | _ => False
 | .any => False
 | .oh => K (.ap 0 []) H
 | x => K x.ab H
def jq (esz : Nat) : List AV → List aa → (List AV → List aa → Prop) → Prop
 | [], H, K => K [] H
 | x :: r, H, K => dD esz x H fun y H' => jq esz r H' fun ys H'' => K (y :: ys) H''
def yU (e id c : Nat) (H : List aa) (K : List aa → Prop) : Prop :=
 match H[id]? with
 | some (.cells es) => match es[c]? with
   | some (.bf a1 a2 a3 a4) => dD e (.bf a1 a2 a3 a4) H fun y H' => H'[id]? = some (.cells es) ∧ y.a7 (id + 1) = true ∧ K (H'.set id (.cells (es.set c y)))
   | some .ah => K H
   | _ => False
 | _ => False
def ff (esz : Nat) (x : AV) (H : List aa) (K : AV → List aa → Prop) : Prop :=
 match x with
 | .agg xs => jq esz xs H fun ys H' => K (.agg ys) H'
 | .ptr id off => if 1000 ≤ esz then yU (esz % 1000) id (off + esz / 1000 - 1) H (K (.ptr id off)) else dD esz (.ptr id off) H K
 | x => dD esz x H K
theorem xo {x : AV} (h : x.one = true) : x.cells = [x] := by cases x <;> first | rfl | simp [AV.one] at h
theorem F9 {x : AV} (h : x.one = true) : x.ab.one = true := by cases x <;> first | rfl | exact h
theorem sw (esz : Nat) (h0 : 0 < esz) : ∀ (n : Nat) (es : List AV), n * esz ≤ es.length → es.all AV.one = true →
 flat (chunks esz n es) = (es.take (n * esz)).map AV.ab ∧ (chunks esz n es).length = n ∧ ∀ x ∈ chunks esz n es, x.cells.length = esz
 | 0, es, _, _ => by simp [chunks, flat]
 | n + 1, es, hle, h1 => by
   have TA : n * esz + esz ≤ es.length := by rw [Nat.add_mul] at hle; omega
   obtain ⟨i1, i2, i3⟩ := sw esz h0 n (es.drop esz) (by simp; omega) (by
    rw [List.all_eq_true] at h1 ⊢
    exact fun x hx => h1 x (List.mem_of_mem_drop hx))
   have hhead : (if esz = 1 then (es.getD 0 .any).ab else AV.agg ((es.take esz).map AV.ab)).cells = (es.take esz).map AV.ab := by
    split
    ·rename_i e
     subst e
     cases es with
     | nil => simp at TA
     | cons x r =>
       have hx : x.one = true := List.all_eq_true.1 h1 x (by simp)
       simp [xo (F9 hx)]
    ·rfl
   refine ⟨?_, by simp [chunks, i2], ?_⟩
   ·simp only [flat] at i1
    simp only [chunks, flat, List.flatMap_cons, hhead, i1]
    rw [← List.map_append]
    congr 1
    rw [Nat.add_mul, Nat.one_mul, Nat.add_comm (n * esz) esz, List.take_add]
   ·intro x hx
    simp only [chunks, List.mem_cons] at hx
    rcases hx with rfl | hx
    ·rw [hhead]; simp; omega
    ·exact i3 x hx
section
variable {P : Program} {w : World} {M : Mem} {L : List Nat} {H : List aa} {A : Perm} {ev : Nat → Value} {ea : Nat → AV} {O : Pos → Option Nat}
theorem St.freeze (h : St A M L w H ev ea O) {id b : Nat} {es : List AV} (bm : H[id]? = some (.cells es)) (hl : L[id]? = some b) :
 ∃ (cs : Array Value) (O' : Pos → Option Nat), aJ M L cs.toList es ∧ M.sub (M.add b cs.toList) ∧ (M.add b cs.toList).row b 0 cs.toList ∧ St A (M.add b cs.toList) L w (H.set id .dead) ev ea O' ∧ Ext A M w (M.add b cs.toList) w ∧ (∀ t, O' (.t t) = O (.t t)) := by
 obtain ⟨cs, e, h1, h2, h3⟩ := h.obj id _ b bm hl
 have xe : b ∈ L := List.mem_of_getElem? hl
 have fG : M.sub (M.add b cs.toList) := by
  intro b' o v hv
  have dS : b' ≠ b := by
   rintro rfl
   rw [h3] at hv; cases hv
  simp [Mem.add, dS, hv]
 have hM : ∀ b', b' ≠ b → ∀ o, (M.add b cs.toList) b' o = M b' o := fun b' hb o => by simp [Mem.add, hb]
 let O' : Pos → Option Nat := fun p => match p with | .t t => O (.t t) | .c id' j => if id' = id then none else O (.c id' j)
 have hO : ∀ q b, O' q = some b → O q = some b := by
  intro q b hq
  cases q with
  | t t => exact hq
  | c id' j =>
    simp only [O'] at hq
    split at hq
    ·cases hq
    ·exact hq
 have hOb : ∀ q b', O q = some b' → b' ≠ b := fun q b' hq e => h.cc q b' hq (e ▸ xe)
 refine ⟨cs, O', h2, fG, ?_, ?_, ?_, fun t => rfl⟩
 ·intro j v hv
  simpa [Mem.add] using hv
 ·exact { len := by simp [h.len], nodup := h.nodup, env := fun t => (h.env t).mono fG (List.prefix_refl _)
          mem := by
           intro b' o v hv
           by_cases e0 : b' = b
           ·subst e0
            simp only [Mem.add, if_true] at hv
            simpa [World.cell?, h1] using hv
           ·rw [hM b' e0] at hv
            exact h.mem b' o v hv
          obj := by
           intro id' o b' ho dU
           rw [List.getElem?_set] at ho
           split at ho
           ·split at ho <;> cases ho
            trivial
           ·rename_i dS
            refine (h.obj id' o b' ho dU).mono fG (List.prefix_refl _) rfl (hM b' ?_)
            rintro rfl
            exact dS ((List.getElem?_inj (aM hl) h.nodup).1 (hl.trans dU.symm))
          bB := by
           intro id' o ho
           rw [List.length_set]
           rw [List.getElem?_set] at ho
           split at ho
           ·split at ho <;> cases ho
            rfl
           ·exact h.bB id' o ho
          lt := h.lt
          gH := fun t => (h.gH t).mono fun b' dU => ⟨rfl, hM b' (hOb _ b' dU)⟩
          gE := by
           intro id' j
           by_cases e0 : id' = id
           ·subst e0
            have : bp (H.set id' .dead) id' j = .any := by
             unfold bp
             rw [List.getElem?_set]
             simp
            rw [this]
            simp [O', bb]
           ·have e1 : bp (H.set id .dead) id' j = bp H id' j := by
             unfold bp
             rw [List.getElem?_set, if_neg (Ne.symm e0)]
            rw [e1]
            have : O' (.c id' j) = O (.c id' j) := by simp [O', e0]
            rw [this]
            exact (h.gE id' j).mono fun b' dU => ⟨rfl, hM b' (hOb _ b' dU)⟩
          bY := fun p q b hp hq => h.bY p q b (hO p b hp) (hO q b hq)
          cc := fun p b hp => h.cc p b (hO p b hp)
          eT := fun p b hp => h.eT p b (hO p b hp)
          La := h.La
          Oa := fun p b hp => h.Oa p b (hO p b hp)
          fresh := h.fresh }
 ·exact ⟨fG, Nat.le_refl _, rfl, rfl, rfl, fun b' _ hA => ⟨rfl, hM b' (fun e => hA (e ▸ h.La b xe))⟩, fun k r hk => ⟨r, hk, rfl⟩⟩
theorem ln (hs : St A M L w H ev ea O) {esz : Nat} {u : Value} {x : AV} {K : AV → List aa → Prop} (h : dD esz x H K) (hu : aR M L u x) :
 ∃ z M' H' O', aR M' L u z ∧ K z H' ∧ St A M' L w H' ev ea O' ∧ Ext A M w M' w ∧ ∀ own xs, z = .ap own xs → own = 0 := by
 unfold dD at h
 split at h
 ·rename_i id off len cap
  split at h <;> try exact h.elim
  rename_i es bm
  obtain ⟨h0, cF, hle, h1, hK⟩ := h
  cases hu with
  | bf b _ _ _ _ hl hc =>
  obtain ⟨cs, O', k1, k2, k3, k4, k5, _⟩ := hs.freeze bm hl
  obtain ⟨c1, c2, c3⟩ := sw esz h0 len (es.drop off) (by simp; omega) h1
  refine ⟨_, _, _, O', ?_, hK, k4, k5, by intro own xs e; cases e; rfl⟩
  have iC := k1.length
  by_cases hz : len = 0
  ·subst hz
   simp only [chunks]
   exact .gb _ _ _ hc
  ·have hr : aJ (M.add b cs.toList) L ((cs.toList.drop off).take (len * esz)) (flat (chunks esz len (es.drop off))) := by
    rw [c1]
    exact (((k1.drop off).take _).cU).mono k2 (List.prefix_refl _)
   have PY : (M.add b cs.toList).row b off ((cs.toList.drop off).take (len * esz)) := by
    intro j v hv
    have := k3 (off + j) v (dh _ _ _ _ _ hv)
    simpa using this
   have := aR.ap (M := M.add b cs.toList) (L := L) b off cap 0 esz _ (chunks esz len (es.drop off)) h0 c3 (by omega) (by omega) hc hr PY
   rw [c2] at this
   exact this
 ·exact h.elim
 ·cases hu
  exact ⟨_, M, H, O, .gb _ 0 0 (by decide), h, hs, Ext.refl A M w, by intro _ _ e; cases e; rfl⟩
 ·rename_i ac4 P1
  refine ⟨_, M, H, O, hu.ab, h, hs, Ext.refl A M w, AV.bI x⟩
theorem uq {esz : Nat} : ∀ {xs : List AV} {us : List Value} {M : Mem} {H : List aa} {O : Pos → Option Nat} {K : List AV → List aa → Prop}, St A M L w H ev ea O → jq esz xs H K → aJ M L us xs →
 ∃ zs M' H' O', aJ M' L us zs ∧ K zs H' ∧ St A M' L w H' ev ea O' ∧ Ext A M w M' w
 | [], us, M, H, O, K, hs, h, hu => ⟨[], M, H, O, hu, h, hs, Ext.refl A M w⟩
 | x :: r, us, M, H, O, K, hs, h, hu => by
   cases hu with
   | cons u _ us _ h1 h2 =>
   obtain ⟨z, M1, H1, O1, k1, k2, k3, k4, _⟩ := ln hs h h1
   obtain ⟨zs, M2, H2, O2, g1, g2, g3, g4⟩ := uq k3 k2 (h2.mono k4.kw (List.prefix_refl L))
   exact ⟨z :: zs, M2, H2, O2, .cons _ _ _ _ (k1.mono g4.kw (List.prefix_refl L)) g1, g2, g3, k4.trans g4⟩
theorem setRow_self {b : Nat} {cs : Array Value} {e : TypeId} {f : Nat × Nat} (h : w.heap[b]? = some (.cells cs e f)) : w.setRow b cs = w := by
 have : (w.setRow b cs).heap = w.heap := by
  apply Array.ext
  ·simp [World.setRow]
  ·intro i h1 h2
   simp only [World.setRow, Array.getElem_modify]
   split
   ·rename_i e0
    subst e0
    obtain ⟨_, h'⟩ := Array.getElem?_eq_some_iff.1 h
    rw [h']
   ·rfl
 show ({ w with heap := (w.setRow b cs).heap } : World) = w
 rw [this]
theorem It (hs : St A M L w H ev ea O) {e id c : Nat} {K : List aa → Prop} (h : yU e id c H K) :
 ∃ M' H' O', K H' ∧ St A M' L w H' ev ea O' ∧ Ext A M w M' w := by
 unfold yU at h
 split at h <;> try exact h.elim
 rename_i es bm
 split at h <;> try exact h.elim
 rotate_left
 ·exact ⟨M, H, O, h, hs, .refl A M w⟩
 rename_i a1 a2 a3 a4 hc
 have hb : ∃ b, L[id]? = some b := by
  have := aM bm
  rw [← hs.len] at this
  exact ⟨L[id], by simp [this]⟩
 obtain ⟨b, hl⟩ := hb
 obtain ⟨cs, ty, k1, k2, k3⟩ := hs.obj id _ b bm hl
 obtain ⟨u, hu, hru⟩ := k2.get c _ hc
 obtain ⟨y, M', H1, O1, g1, ⟨g2, g3, g4⟩, g5, g6, g7⟩ := ln hs h hru
 obtain ⟨cs', ty', m1, m2, m3⟩ := g5.obj id _ b g2 hl
 rw [k1] at m1; cases m1
 have bP := g5.bB id _ g2
 have iC : c < es.length := aM hc
 have fV : cs.toList.set c u = cs.toList := by
  apply List.ext_getElem?
  intro j
  rw [List.getElem?_set]
  split
  ·rename_i e0; subst e0
   have : c < cs.toList.length := aM hu
   rw [if_pos this, hu]
  ·rfl
 have qY := m2.set g1 c
 rw [fV] at qY
 have hcv : ∀ j, bJ L w id j = (cs[j]?).getD undef := by
  intro j
  unfold bJ
  rw [hl]
  simp [World.cell?, k1]
 have hO : O1 (.c id c) = none := by
  have := g5.gE id c
  have e1 : bp H1 id c = .bf a1 a2 a3 a4 := by
   unfold bp
   rw [g2]
   simp [List.getD_eq_getElem?_getD, hc]
  rw [e1] at this
  exact this
 obtain ⟨q1, q2⟩ := g5.write (es' := es.set c y) (cs' := cs) (ea' := ea) (O' := O1) g2 hl k1 qY (by
  simp only [aa.a7] at bP
  rw [a9] at bP ⊢
  intro z hz
  rcases List.mem_or_eq_of_mem_set hz with h' | rfl
  ·exact bP z h'
  ·exact AV.cE (A.k7 (aM g2)) _ g3) ⟨fun p q b hp hq => g5.bY p q b hp hq, fun p b hp => ⟨p, hp⟩⟩ g5.env g5.gH (fun j => by
  by_cases e0 : j = c
  ·subst e0
   rw [hO]
   have : (es.set j y).getD j .any = y := by rw [List.getD_eq_getElem?_getD, List.getElem?_set_self iC]; rfl
   rw [this]
   exact bb.free g7
  ·have := g5.gE id j
   rw [hcv j] at this
   have e1 : bp H1 id j = es.getD j .any := by unfold bp; rw [g2]
   rw [e1] at this
   rwa [List.getD_eq_getElem?_getD, List.getElem?_set_ne (fun e => e0 e.symm), ← List.getD_eq_getElem?_getD]) (fun _ _ _ => rfl)
 rw [setRow_self k1] at q1 q2
 exact ⟨M', _, O1, g4, q1, g6.trans q2⟩
theorem qZ (hs : St A M L w H ev ea O) {esz : Nat} {u : Value} {x : AV} {K : AV → List aa → Prop} (h : ff esz x H K) (hu : aR M L u x) :
 ∃ z M' H' O', aR M' L u z ∧ K z H' ∧ St A M' L w H' ev ea O' ∧ Ext A M w M' w ∧ ∀ own xs, z = .ap own xs → own = 0 := by
 unfold ff at h
 split at h
 ·cases hu with
  | agg cs xs hr =>
  obtain ⟨zs, M', H', O', g1, g2, g3, g4⟩ := uq hs h hr
  exact ⟨.agg zs, M', H', O', .agg _ _ g1, g2, g3, g4, by intro own xs e; cases e⟩
 ·rename_i id off
  split at h
  ·obtain ⟨M', H', O', g1, g2, g3⟩ := It hs h
   exact ⟨.ptr id off, M', H', O', hu.mono g3.kw (List.prefix_refl L), g1, g2, g3, by intro own xs e; cases e⟩
  ·exact ln hs h hu
 ·exact ln hs h hu
end
end Go.aK
end
section
namespace Go.aK
open Go
def sx (xs : List AV) (H : List aa) (K : AV → List aa → Prop) : Prop :=
 aj (H.length + 1) ((flat xs).map AV.ab) = true ∧ K (.bf H.length 0 xs.length xs.length) (H ++ [.cells ((flat xs).map AV.ab)])
def da (z : AV) (n : Nat) : List AV := flat (List.replicate n (bN z))
def cG (esz bytes : Nat) (z s x : AV) (H : List aa) (K : AV → List aa → Prop) : Prop :=
 match dz x with
 | none => (match s, wG esz x H with
   | .bf id off len cap, some (n, ys) => match H[id]? with
     | some (.cells es) => n * esz ≤ ys.length ∧ (ys.take (n * esz)).all AV.one = true ∧ len + n ≤ cap ∧ off + cap * esz ≤ es.length ∧ aj (id + 1) ((ys.take (n * esz)).map AV.ab) = true ∧
        K (.bf id off (len + n) cap) (H.set id (.cells (ag es (off + len * esz) ((ys.take (n * esz)).map AV.ab))))
     | _ => False
   | _, _ => False)
 | some ys => ta esz ys ∧ match s with
   | .ah => ys.length * bytes ≤ 140737488355328 ∧ (ys = [] → K .ah H) ∧ (ys ≠ [] → ∀ cap, ys.length ≤ cap → cap < 9223372036854775808 →
      aj (H.length + 1) ((flat ys).map AV.ab ++ da z (cap - ys.length)) = true ∧ K (.bf H.length 0 ys.length cap) (H ++ [.cells ((flat ys).map AV.ab ++ da z (cap - ys.length))]))
   | .oh => ys.length * bytes ≤ 140737488355328 ∧ (ys = [] → K .oh H) ∧ (ys ≠ [] → ∀ cap, ys.length ≤ cap → cap < 9223372036854775808 →
      aj (H.length + 1) ((flat ys).map AV.ab ++ da z (cap - ys.length)) = true ∧ K (.bf H.length 0 ys.length cap) (H ++ [.cells ((flat ys).map AV.ab ++ da z (cap - ys.length))]))
   | .bf id off len cap => match H[id]? with
     | some (.cells es) => (len + ys.length) * bytes ≤ 140737488355328 ∧ len ≤ cap ∧ off + cap * esz ≤ es.length ∧
        (len + ys.length ≤ cap → aj (id + 1) ((flat ys).map AV.ab) = true ∧ K (.bf id off (len + ys.length) cap) (H.set id (.cells (ag es (off + len * esz) ((flat ys).map AV.ab))))) ∧
        (cap < len + ys.length → ∀ fW, len + ys.length ≤ fW → fW < 9223372036854775808 →
          aj (H.length + 1) (((es.drop off).take (len * esz)).map AV.ab ++ (flat ys).map AV.ab ++ da z (fW - (len + ys.length))) = true ∧
          K (.bf H.length 0 (len + ys.length) fW) (H ++ [.cells (((es.drop off).take (len * esz)).map AV.ab ++ (flat ys).map AV.ab ++ da z (fW - (len + ys.length)))]))
     | _ => False
   | _ => False
def gY (esz : Nat) (z x : AV) (H : List aa) (K : List aa → Prop) : Prop :=
 match x with
 | .bf id off len _ => match H[id]? with
   | some (.cells es) => off + len * esz ≤ es.length ∧ (da z len).all AV.one = true ∧ aj (id + 1) ((da z len).map AV.ab) = true ∧ K (H.set id (.cells (ag es off ((da z len).map AV.ab))))
   | _ => False
 | _ => False
section
variable {P : Program} {w : World} {M : Mem} {L : List Nat} {H : List aa} {A : Perm} {ev : Nat → Value} {ea : Nat → AV} {O : Pos → Option Nat}
theorem j5 {α : Type} (es : List α) (off : Nat) : ag es off [] = es := by simp [ag]
theorem St.A0 (hs : St A M L w H ev ea O) (cs : Array Value) (e : TypeId) {xs : List AV} (hr : aJ M L cs.toList xs) (hb : aj (H.length + 1) xs = true) (hf : ∀ y ∈ xs, ∀ own zs, y = .ap own zs → own = 0) :
 St A M (L ++ [w.heap.size]) { w with heap := w.heap.push (.cells cs e) } (H ++ [.cells xs]) ev ea O ∧ Ext A M w M { w with heap := w.heap.push (.cells cs e) } :=
 hs.qS (.cells cs e) (.cells xs) (fun w' hw hM => ⟨_, e, hw, hr.mono (Mem.bM M) ⟨_, rfl⟩, hM⟩) (by simpa [aa.a7] using hb) (fun j => by
  simp only [mD]
  refine bb.free ?_
  intro own zs hh
  rw [List.getD_eq_getElem?_getD] at hh
  cases hx : xs[j]? with
  | none => simp [hx] at hh
  | some y => simp [hx] at hh; exact hf y (List.mem_of_getElem? hx) own zs hh)
theorem mM (xs : List AV) : ∀ y ∈ xs.map AV.ab, ∀ own zs, y = .ap own zs → own = 0 := by
 intro y hy own zs e
 obtain ⟨q, _, rfl⟩ := List.mem_map.1 hy
 exact AV.bI q own zs e
theorem Dj {z : AV} (Iq : ∀ y ∈ z.cells, ∀ own xs, y = .ap own xs → own = 0) (n : Nat) : ∀ y ∈ da z n, ∀ own zs, y = .ap own zs → own = 0 := by
 intro y hy own zs e
 simp only [da, flat, List.mem_flatMap] at hy
 obtain ⟨q, hq, LJ⟩ := hy
 rw [List.eq_of_mem_replicate hq] at LJ
 subst e
 cases z <;> simp only [bN, AV.cells] at LJ Iq
 case agg ys =>
  obtain ⟨y', _, Yd⟩ := List.mem_map.1 LJ
  exact AV.jc y' own zs Yd
 all_goals exact Iq _ LJ own zs rfl
theorem Ga (hs : St A M L w H ev ea O) {t e : TypeId} (ht : P.underlying t = some (.slice e)) {esz : Nat} (he : dB P e = some esz) (h0 : 0 < esz) {z : AV} (hz : fw P e = some z) (iH : z.cells.length = esz) (so : z.val = true)
 {len : Nat} (hlen : len * esz ≤ 16777216) {parts : List (Nat × AV)} {vs : Array (Nat × Value)} (hp : ∀ (j : Nat) (p : Nat × AV), parts[j]? = some p → ∃ v, vs.toList[j]? = some (p.1, v) ∧ aR M L v p.2) (hl : vs.toList.length = parts.length)
 {K : AV → List aa → Prop} (h : bh (List.replicate len (aT z)) esz parts fun xs => sx xs H K) :
 ∃ r x L' w' H', (Instr.buildSlice t len vs).run P w = .ok r w' ∧ aR M L' r x ∧ (∀ own xs, x = .ap own xs → own = 0) ∧ K x H' ∧ St A M L' w' H' ev ea O ∧ Ext A M w M w' ∧ L <+: L' := by
 unfold fw at hz
 obtain ⟨ie, Ij, cT⟩ := Option.map_eq_some_iff.1 he
 simp only [Ij] at hz
 split at hz
 ·rename_i zv uh
  have AO := (cA (M := M) (L := L) hz).aT.fI (qW so)
  have tB : zv.cells.size = esz := by have := AO.length; rw [eJ, iH] at this; simpa using this
  obtain ⟨cs', xs', f1, f2, f3, f4, f5⟩ := mK (M := M) (L := L) esz parts vs.toList hp hl (jl zv.cells esz len tB h0 (aT z) AO) (fun y hy => by rw [List.eq_of_mem_replicate hy, eJ]; exact iH) h
  simp only [List.length_replicate] at f4
  obtain ⟨nF, hK⟩ := f5
  have bG : (Instr.buildSlice t len vs).run P w = .ok (.slice (some ⟨w.heap.size, 0, none⟩) len len) { w with heap := w.heap.push (.cells cs' e) } := by
   by_cases mi : len * ie.size = 0
   ·have EN : len = 0 := by
     rcases Nat.mul_eq_zero.1 mi with h' | h'
     ·exact h'
     ·omega
    subst EN
    have LC : cs' = #[] := by
     have := f2.length
     rw [cB _ esz f3, f4] at this
     simp at this
     exact this
    have TB : vs.toList = [] := by
     cases wC : vs.toList with
     | nil => rfl
     | cons q r =>
       rw [wC] at hl
       cases parts with
       | nil => simp at hl
       | cons p ps => obtain ⟨_, _, h3, _⟩ := h; simp at h3
    subst LC
    have hf : Instr.fill (fun i => some (i * ie.size, ie.size)) #[] vs.toList = some #[] := by rw [TB]; rfl
    simp [Instr.buildSlice, run_underlying ht, sizeOf, typeInfo, Ij, newRow, TB, Instr.fill]
    congr 2
    apply Array.ext'
    simp
   ·rw [run_buildSlice w t e len vs cs' ie zv ht Ij uh (by rw [cT]; omega) mi (by rw [cT]; exact f1)]
    rfl
  obtain ⟨g1, g2⟩ := hs.A0 cs' e f2.cU nF (mM _)
  have hbd : len < 9223372036854775808 := by
   have : len ≤ len * esz := Nat.le_mul_of_pos_right _ h0
   omega
  refine ⟨_, .bf H.length 0 len len, _, _, _, bG, .bf w.heap.size 0 _ _ H.length ?_ hbd, (by intro _ _ e; cases e), by rw [f4] at hK; exact hK, g1, g2, ⟨_, rfl⟩⟩
  rw [List.getElem?_append_right (by rw [hs.len]; exact Nat.le_refl _), hs.len]; simp
 ·cases hz
theorem yV (hs : St A M L w H ev ea O) {t ty e : TypeId} {i : TypeInfo} {zv : Value} {esz bytes : Nat} (ht : P.underlying t = some (.slice e)) (hi : P.info? e = some i) (hz : i.zero = some zv) (cT : i.size = esz) (xi : i.bytes = bytes) (h0 : 0 < esz) (uj : 0 < bytes)
 {z : AV} (K8 : ofValue zv = some z) (so : z.val = true) (iH : z.cells.length = esz) (Iq : ∀ y ∈ z.cells, ∀ own xs, y = .ap own xs → own = 0) {u v : Value} {s x : AV} {K : AV → List aa → Prop} (h : cG esz bytes z s x H K) (hu : aR M L u s) (hv : aR M L v x) :
 ∃ r y L' w' H' O', (Builtin.append_ #[t, t] ty #[u, v]).run P w = .ok r w' ∧ aR M L' r y ∧ (∀ own xs, y = .ap own xs → own = 0) ∧ K y H' ∧ St A M L' w' H' ev ea O' ∧ Ext A M w M w' ∧ L <+: L' := by
 unfold cG at h
 split at h
 ·-- out of an object
  rename_i hnone
  split at h <;> try exact h.elim
  rename_i id off len cap n ys wH
  split at h <;> try exact h.elim
  rename_i es bm
  obtain ⟨hny, jZ, hroom, s9, nF, hK⟩ := h
  cases hu with
  | bf b _ _ _ _ hl hc =>
  obtain ⟨cs, e', h1, h2, h3⟩ := eX hs bm hl
  have iC := h2.length
  have wD : (len + n) * esz ≤ cap * esz := Nat.mul_le_mul_right _ hroom
  rw [Nat.add_mul] at wD
  unfold wG at wH
  split at wH
  ·simp [dz] at hnone
  ·simp [dz] at hnone
  ·rename_i id2 off2 TM TN
   split at wH <;> try cases wH
   rename_i es2 LM
   split at wH <;> cases wH
   rename_i hfit2
   cases hv with
   | bf b2 _ _ _ _ nJ oo =>
   obtain ⟨cs2, e2, k1, k2, k3⟩ := eX hs LM nJ
   have ac8 := k2.length
   by_cases AS : n = 0
   ·subst AS
    simp only [Nat.zero_mul, List.take_zero, List.map_nil, j5, Nat.add_zero] at hK
    have es' : H.set id (.cells es) = H := by
     obtain ⟨mj, e1⟩ := List.getElem?_eq_some_iff.1 bm
     rw [← e1]; simp
    rw [es'] at hK
    exact ⟨_, .bf id off len cap, L, w, H, O, di ht hi w _ len cap (by omega) _ TN, .bf b off len cap id hl hc, (by intro _ _ e; cases e), hK, hs, Ext.refl A M w, List.prefix_refl L⟩
   ·have xj : ((cs2.toList.drop off2).take (n * esz)).length = n * esz := by
     rw [List.length_take, List.length_drop]; omega
    have hnews : ∀ j u, ((cs2.toList.drop off2).take (n * esz))[j]? = some u → w.cell? ((⟨b2, off2, none⟩ : Addr).add j) = some u := fun j u hu => by
     rw [Addr.add_lit]; exact k3 _ _ (dh _ _ _ _ _ hu)
    have yN : aJ M L ((cs2.toList.drop off2).take (n * esz)) ((es2.drop off2).take (n * esz)) := (k2.drop off2).take _
    have TO := yN.gf jZ
    have bG := fJ (P := P) (ty := ty) ht hi w b off len cap cs (0, 0) h1 (nD _) ⟨b2, off2, none⟩ n TN ((cs2.toList.drop off2).take (n * esz)) (by rw [cT]; exact xj) hnews TO hroom (by
     have : es.length = cs.size := by rw [← iC]; simp
     rw [cT, xj]; omega)
    rw [cT] at bG
    obtain ⟨O', g1, g2⟩ := hs.yT (off := off + len * esz) bm hl h1 h2 yN (by rw [List.length_take, List.length_drop]; omega) nF
    exact ⟨_, .bf id off (len + n) cap, L, _, _, O', bG, .bf b off _ cap id hl hc, (by intro _ _ e; cases e), hK, g1, g2, List.prefix_refl L⟩
  ·cases wH
 rename_i ys pv
 obtain ⟨jK, h⟩ := h
 have AO := (cA (M := M) (L := L) K8).bN.fI (oO so)
 have tB : zv.cells.size = esz := by have := AO.length; rw [iX, iH] at this; simpa using this
 have hesz0 : esz ≠ 0 := by omega
 have Iu : ∀ n, aJ M L (Builtin.zeroCells zv.cells n).toList (da z n) := fun n => by
  have := jl (M := M) (L := L) zv.cells esz n tB h0 (bN z) AO
  rw [Builtin.zeroCells, tB]
  rw [tB] at this
  exact this
 -- a new row
 have grow : ∀ (olds news : List Value) (xs : List AV) (k need oldCap : Nat) (w' : World), aJ M L olds xs → aJ M L news (flat ys) → need ≤ maxLen →
  w' = w.drew.alloc (.cells (olds.toArray ++ news.toArray ++ Builtin.zeroCells zv.cells (grownCap w need oldCap e - need)) e) →
  (Builtin.append_ #[t, t] ty #[u, v]).run P w = .ok (.slice (some ⟨w.heap.size, 0, none⟩) need (grownCap w need oldCap e)) w' →
  (∀ fW, need ≤ fW → fW < 9223372036854775808 → aj (H.length + 1) (xs.map AV.ab ++ (flat ys).map AV.ab ++ da z (fW - need)) = true ∧ K (.bf H.length 0 need fW) (H ++ [.cells (xs.map AV.ab ++ (flat ys).map AV.ab ++ da z (fW - need))])) →
  ∃ r y L' w' H' O', (Builtin.append_ #[t, t] ty #[u, v]).run P w = .ok r w' ∧ aR M L' r y ∧ (∀ own xs, y = .ap own xs → own = 0) ∧ K y H' ∧ St A M L' w' H' ev ea O' ∧ Ext A M w M w' ∧ L <+: L' := by
  intro olds news xs k need oldCap w' TE yN hneed Io bG hK
  have iW := grownCap_ge w need oldCap e
  have hle := grownCap_le_maxLen w need oldCap e hneed
  simp only [maxLen] at hle
  obtain ⟨nF, hK⟩ := hK _ iW (by omega)
  obtain ⟨g1, g2⟩ := hs.drew.A0 (olds.toArray ++ news.toArray ++ Builtin.zeroCells zv.cells (grownCap w need oldCap e - need)) e (xs := xs.map AV.ab ++ (flat ys).map AV.ab ++ da z (grownCap w need oldCap e - need))
   (by rw [Array.toList_append, Array.toList_append]; exact (TE.cU.append yN.cU).append (Iu _)) nF (by
     intro y hy
     rcases List.mem_append.1 hy with hy | hy
     ·rcases List.mem_append.1 hy with hy | hy
      ·exact mM _ y hy
      ·exact mM _ y hy
     ·exact Dj Iq _ y hy)
  subst Io
  refine ⟨_, .bf H.length 0 need (grownCap w need oldCap e), L ++ [w.heap.size], _, _, O, bG, .bf w.heap.size 0 _ _ H.length ?_ (by omega), (by intro _ _ e; cases e), hK, g1, Ext.drew.trans g2, ⟨_, rfl⟩⟩
  rw [List.getElem?_append_right (by rw [hs.len]; exact Nat.le_refl _), hs.len]; simp
 split at h <;> try exact h.elim
 ·-- onto nothing
  obtain ⟨hbound, hn, hc⟩ := h
  cases hu
  rcases lj pv jK hv with ⟨rfl, b', c', rfl⟩ | ⟨AS, b2, o2, c2, news, rfl, yN, PW, xj⟩
  ·exact ⟨_, .ah, L, w, H, O, di ht hi w none 0 0 (Nat.le_refl _) b' c', .ah, (by intro _ _ e; cases e), hn rfl, hs, Ext.refl A M w, List.prefix_refl L⟩
  ·have hnews : ∀ j u, news[j]? = some u → w.cell? ((⟨b2, o2, none⟩ : Addr).add j) = some u := gP PW hs.mem
   have hlen : ys.length ≤ 140737488355328 := Nat.le_trans (Nat.le_mul_of_pos_right _ uj) hbound
   have hbound' : ys.length * i.bytes ≤ 140737488355328 := by rw [xi]; exact hbound
   have hr := run_append_nil (P := P) w t ty e i zv ht hi hz ⟨b2, o2, none⟩ ys.length c2 news (by rw [cT]; exact xj) hnews AS (by omega) (by first | omega | (simp at hbound'; omega))
   refine grow [] news [] 0 ys.length 0 _ .nil yN (by simp only [maxLen]; omega) rfl (by simpa using hr) fun fW h1 h2 => ?_
   have := hc (by intro e; rw [e] at AS; simp at AS) fW h1 h2
   simpa using this
 ·-- onto what is empty
  obtain ⟨hbound, hn, hc⟩ := h
  cases hu with
  | oh ad =>
  rcases lj pv jK hv with ⟨rfl, b', c', rfl⟩ | ⟨AS, b2, o2, c2, news, rfl, yN, PW, xj⟩
  ·exact ⟨_, .oh, L, w, H, O, di ht hi w ad 0 0 (Nat.le_refl _) b' c', .oh _, (by intro _ _ e; cases e), hn rfl, hs, Ext.refl A M w, List.prefix_refl L⟩
  ·have hnews : ∀ j u, news[j]? = some u → w.cell? ((⟨b2, o2, none⟩ : Addr).add j) = some u := gP PW hs.mem
   have hlen : ys.length ≤ 140737488355328 := Nat.le_trans (Nat.le_mul_of_pos_right _ uj) hbound
   have hbound' : ys.length * i.bytes ≤ 140737488355328 := by rw [xi]; exact hbound
   have hK : ∀ fW, ys.length ≤ fW → fW < 9223372036854775808 → aj (H.length + 1) (([] : List AV).map AV.ab ++ (flat ys).map AV.ab ++ da z (fW - ys.length)) = true ∧ K (.bf H.length 0 ys.length fW) (H ++ [.cells (([] : List AV).map AV.ab ++ (flat ys).map AV.ab ++ da z (fW - ys.length))]) := fun fW h1 h2 => by
    have := hc (by intro e; rw [e] at AS; simp at AS) fW h1 h2
    simpa using this
   cases ad with
   | none =>
     have hr := run_append_nil (P := P) w t ty e i zv ht hi hz ⟨b2, o2, none⟩ ys.length c2 news (by rw [cT]; exact xj) hnews AS (by omega) (by first | omega | (simp at hbound'; omega))
     exact grow [] news [] 0 ys.length 0 _ .nil yN (by simp only [maxLen]; omega) rfl (by simpa using hr) hK
   | some ad =>
     have hr := run_append_grow (P := P) w t ty e i zv ht hi hz ad 0 0 [] (by simp) (fun j v hv => by simp at hv)
      ⟨b2, o2, none⟩ ys.length c2 news (by rw [cT]; exact xj) hnews (by omega) (by omega) (growslice_fits (by omega) (by simpa using hbound'))
     simp only [Nat.zero_add] at hr
     exact grow [] news [] 0 ys.length 0 _ .nil yN (by simp only [maxLen]; omega) rfl hr hK
 ·rename_i id off len cap
  split at h <;> try exact h.elim
  rename_i es bm
  obtain ⟨hbound, yK, s9, Iv, H8⟩ := h
  cases hu with
  | bf b _ _ _ _ hl hc =>
  obtain ⟨cs, e', h1, h2, h3⟩ := eX hs bm hl
  have iC := h2.length
  rcases lj pv jK hv with ⟨rfl, b', c', rfl⟩ | ⟨AS, b2, o2, c2, news, rfl, yN, PW, xj⟩
  ·obtain ⟨_, hK⟩ := Iv (by simpa using yK)
   simp only [flat, List.flatMap_nil, List.map_nil, j5, List.length_nil, Nat.add_zero] at hK
   have es' : H.set id (.cells es) = H := by
    obtain ⟨mj, e1⟩ := List.getElem?_eq_some_iff.1 bm
    rw [← e1]; simp
   rw [es'] at hK
   exact ⟨_, .bf id off len cap, L, w, H, O, di ht hi w _ len cap yK b' c', .bf b off len cap id hl hc, (by intro _ _ e; cases e), hK, hs, Ext.refl A M w, List.prefix_refl L⟩
  ·have hnews : ∀ j u, news[j]? = some u → w.cell? ((⟨b2, o2, none⟩ : Addr).add j) = some u := gP PW hs.mem
   have jZ := yN.gf (AQ jK)
   have LL : (flat ys).length = ys.length * esz := cB ys esz (fun y hy => (jK y hy).1)
   by_cases hroom : len + ys.length ≤ cap
   ·obtain ⟨nF, hK⟩ := Iv hroom
    have wD : (len + ys.length) * esz ≤ cap * esz := Nat.mul_le_mul_right _ hroom
    rw [Nat.add_mul] at wD
    have ac9 : es.length = cs.size := by rw [← iC]; simp
    have bG := fJ (P := P) (ty := ty) ht hi w b off len cap cs (0, 0) h1 (nD _) ⟨b2, o2, none⟩ ys.length c2 news (by rw [cT]; exact xj) hnews jZ hroom (by rw [cT, xj]; omega)
    rw [cT] at bG
    obtain ⟨O', g1, g2⟩ := hs.yT (off := off + len * esz) bm hl h1 h2 yN (by rw [LL]; omega) nF
    exact ⟨_, .bf id off (len + ys.length) cap, L, _, _, O', bG, .bf b off _ cap id hl hc, (by intro _ _ e; cases e), hK, g1, g2, List.prefix_refl L⟩
   ·have hlen : (len + ys.length) ≤ 140737488355328 := Nat.le_trans (Nat.le_mul_of_pos_right _ uj) hbound
    have hbound' : (len + ys.length) * i.bytes ≤ 140737488355328 := by rw [xi]; exact hbound
    have wD : len * esz ≤ cap * esz := Nat.mul_le_mul_right _ yK
    have Yh : ((cs.toList.drop off).take (len * esz)).length = len * esz := by rw [List.length_take, List.length_drop]; omega
    have hr := run_append_grow (P := P) w t ty e i zv ht hi hz ⟨b, off, none⟩ len cap ((cs.toList.drop off).take (len * esz)) (by rw [cT]; exact Yh) (fun j v hv => by rw [Addr.add_lit]; exact h3 _ _ (dh _ _ _ _ _ hv))
     ⟨b2, o2, none⟩ ys.length c2 news (by rw [cT]; exact xj) hnews (by omega) (by omega) (growslice_fits (by omega) hbound')
    exact grow _ news ((es.drop off).take (len * esz)) 0 (len + ys.length) cap _ ((h2.drop off).take _) yN (by simp only [maxLen]; omega) rfl hr fun fW a b => H8 (by omega) fW a b
theorem A4 (hs : St A M L w H ev ea O) {t e : TypeId} {i : TypeInfo} {zv : Value} {esz : Nat} (ht : P.underlying t = some (.slice e)) (hi : P.info? e = some i) (hz : i.zero = some zv) (h0 : 0 < esz)
 {z : AV} (K8 : ofValue zv = some z) (so : z.val = true) (iH : z.cells.length = esz) {v : Value} {x : AV} {K : List aa → Prop} (h : gY esz z x H K) (hv : aR M L v x) (ty : TypeId) :
 ∃ w' H' O', (Builtin.clear_ #[t] ty #[v]).run P w = .ok (.tuple #[]) w' ∧ K H' ∧ St A M L w' H' ev ea O' ∧ Ext A M w M w' := by
 unfold gY at h
 split at h <;> try exact h.elim
 rename_i id off len cap
 split at h <;> try exact h.elim
 rename_i es bm
 obtain ⟨s9, jZ, nF, hK⟩ := h
 cases hv with
 | bf b _ _ _ _ hl hc =>
 have AO := (cA (M := M) (L := L) K8).bN.fI (oO so)
 have tB : zv.cells.size = esz := by have := AO.length; rw [iX, iH] at this; simpa using this
 have Iu : aJ M L (Builtin.zeroCells zv.cells len).toList (da z len) := by
  have := jl (M := M) (L := L) zv.cells esz len tB h0 (bN z) AO
  rw [Builtin.zeroCells, tB]
  rw [tB] at this
  exact this
 obtain ⟨cs, e', h1, h2, h3⟩ := hs.obj id _ b bm hl
 have iC := h2.length
 have wm : (da z len).length = len * esz := by
  unfold da
  rw [cB _ esz (fun y hy => by rw [List.eq_of_mem_replicate hy, iX]; exact iH), List.length_replicate]
 have pD := Iu.length
 by_cases EN : len = 0
 ·subst EN
  have e0 : da z 0 = [] := rfl
  rw [e0] at hK
  simp only [List.map_nil, j5] at hK
  have es' : H.set id (.cells es) = H := by
   obtain ⟨mj, e1⟩ := List.getElem?_eq_some_iff.1 bm
   rw [← e1]; simp
  rw [es'] at hK
  refine ⟨w, H, O, ?_, hK, hs, Ext.refl A M w⟩
  simp [Builtin.clear_, run_underlying ht]
 ·have bP := run_storeCells_at P b off e' (Builtin.zeroCells zv.cells len).toList 0 cs w h1 (by simp at iC ⊢; simp at pD; omega) (Iu.gf jZ)
  obtain ⟨O', g1, g2⟩ := hs.yT (off := off) bm hl h1 h2 Iu (by omega) nF
  refine ⟨_, _, O', ?_, hK, g1, g2⟩
  have lm : (storeCells ⟨b, off, none⟩ (Builtin.zeroCells zv.cells len).toList).run P w = .ok () (w.setRow b (ag cs.toList off (Builtin.zeroCells zv.cells len).toList).toArray) := by simpa [ag] using bP
  have hzero : (zeroValue e).run P w = .ok zv w := by simp [zeroValue, typeInfo, hi, hz]
  have mi : ∃ m, len = m + 1 := ⟨len - 1, by omega⟩
  obtain ⟨m, rfl⟩ := mi
  simp [Builtin.clear_, run_underlying ht, hzero, lm]
end
end Go.aK
end
