/- Part 1 of 18 of the proof. -/
import Derived.WalkKit
import Derived.Laws.AppendOwn
import Derived.Laws.Cells
import Derived.Deep.Quiet
import Derived.RowKit
import Derived.RangeFuncLeaves
import Derived.RangeFuncRecord
import Derived.OrdersIn
import Derived.Laws.Strings
import Derived.Laws.Entries
import Derived.Laws.CopyRow
import Derived.Great.BuildSlice
import Derived.Laws.BytesArg
set_option linter.unusedVariables false
set_option linter.unusedSimpArgs false
set_option linter.defProp false
set_option linter.unusedSectionVars false
section
namespace Go.aK
open Go
inductive AV where
 | any
 | bool (b : Bool)
 | int (k : IntKind) (n : Int)
 | str (s : ByteArray)
 | ah
 | ap (own : Nat) (xs : List AV)
 | bf (id off len cap : Nat)
 | agg (xs : List AV)
 | tuple (xs : List AV)
 | ptr (id off : Nat)
 | ai (x : AV)
 | qU
 | map (id : Nat)
 | iJ
 | fn (f : Fn) (first captured : List AV)
 | fy
 | iface (t : TypeId) (x : AV)
 | wx
 | mM (id : Nat)
 | ou
 deriving Inhabited
def AV.cells : AV → List AV
 | .agg xs => xs
 | x => [x]
def flat (xs : List AV) : List AV := xs.flatMap AV.cells
abbrev Mem := Nat → Nat → Option Value
def Mem.sub (M M' : Mem) : Prop := ∀ b o v, M b o = some v → M' b o = some v
theorem Mem.bN (M : Mem) : M.sub M := fun _ _ _ h => h
theorem Mem.Ga {M1 M2 M3 : Mem} (h : M1.sub M2) (k : M2.sub M3) : M1.sub M3 := fun b o v hv => k b o v (h b o v hv)
def Mem.row (M : Mem) (b o : Nat) (cs : List Value) : Prop := ∀ j v, cs[j]? = some v → M b (o + j) = some v
mutual
inductive aR (M : Mem) (L : List Nat) : Value → AV → Prop
 | any (v : Value) : aR M L v .any
 | bool (b : Bool) : aR M L (.bool b) (.bool b)
 | int (k : IntKind) (n : Int) : aR M L (.int k n) (.int k n)
 | str (s : ByteArray) : aR M L (.string s) (.str s)
 | ah : aR M L (.slice none 0 0) .ah
 | gh (a : Option Addr) (c own : Nat) (hc : c < 9223372036854775808) : aR M L (.slice a 0 c) (.ap own [])
 | ap (b off c own e : Nat) (cs : List Value) (xs : List AV) (he : 0 < e) (hx : ∀ x ∈ xs, x.cells.length = e) (hn : 0 < xs.length) (hle : xs.length ≤ c) (hc : c < 9223372036854775808)
    (hr : aJ M L cs (flat xs)) (hm : M.row b off cs) : aR M L (.slice (some ⟨b, off, none⟩) xs.length c) (.ap own xs)
 | bf (b off len cap id : Nat) (hl : L[id]? = some b) (hc : cap < 9223372036854775808) : aR M L (.slice (some ⟨b, off, none⟩) len cap) (.bf id off len cap)
 | agg (cs : List Value) (xs : List AV) (hr : aJ M L cs xs) : aR M L (.agg cs.toArray) (.agg xs)
 | tuple (cs : List Value) (xs : List AV) (hr : aJ M L cs xs) : aR M L (.tuple cs.toArray) (.tuple xs)
 | ptr (b off id : Nat) (hl : L[id]? = some b) : aR M L (.pointer (some ⟨b, off, none⟩)) (.ptr id off)
 | ai (b off : Nat) (cs : List Value) (x : AV) (hr : aJ M L cs x.cells) (hm : M.row b off cs) : aR M L (.pointer (some ⟨b, off, none⟩)) (.ai x)
 | qU : aR M L (.pointer none) .qU
 | map (b id : Nat) (hl : L[id]? = some b) : aR M L (.map (some b)) (.map id)
 | iJ : aR M L (.map none) .iJ
 | fn (f : Fn) (fs cs : List Value) (xs ys : List AV) (h1 : aJ M L fs xs) (h2 : aJ M L cs ys) : aR M L (.func f fs.toArray cs.toArray) (.fn f xs ys)
 | fy : aR M L .nilFunc .fy
 | iface (t : TypeId) (v : Value) (x : AV) (h : aR M L v x) : aR M L (.iface t v) (.iface t x)
 | wx : aR M L .nilIface .wx
 | mM (b id : Nat) (hl : L[id]? = some b) : aR M L (.func (.yield b) #[] #[]) (.mM id)
 | ou (a : Option Addr) : aR M L (.slice a 0 0) .ou
inductive aJ (M : Mem) (L : List Nat) : List Value → List AV → Prop
 | nil : aJ M L [] []
 | cons (v : Value) (x : AV) (vs : List Value) (xs : List AV) (h : aR M L v x) (t : aJ M L vs xs) : aJ M L (v :: vs) (x :: xs)
end
theorem fL {L L' : List Nat} (h : L <+: L') {id b : Nat} (hb : L[id]? = some b) : L'[id]? = some b := by
 obtain ⟨r, rfl⟩ := h
 rw [List.getElem?_append_left]
 ·exact hb
 ·exact (List.getElem?_eq_some_iff.1 hb).1
theorem Mem.row.mono {M M' : Mem} (hs : M.sub M') {b o : Nat} {cs : List Value} (h : M.row b o cs) : M'.row b o cs := fun j v hv => hs _ _ _ (h j v hv)
mutual
theorem aR.mono {M M' : Mem} {L L' : List Nat} (hs : M.sub M') (hL : L <+: L') : ∀ {v : Value} {x : AV}, aR M L v x → aR M' L' v x
 | _, _, .any v => .any v
 | _, _, .bool b => .bool b
 | _, _, .int k n => .int k n
 | _, _, .str s => .str s
 | _, _, .ah => .ah
 | _, _, .gh a c o h => .gh a c o h
 | _, _, .ap b off c own e cs xs he hx hn hle hc hr hm => .ap b off c own e cs xs he hx hn hle hc (hr.mono hs hL) (hm.mono hs)
 | _, _, .bf b off len cap id hl hc => .bf b off len cap id (fL hL hl) hc
 | _, _, .agg cs xs hr => .agg cs xs (hr.mono hs hL)
 | _, _, .tuple cs xs hr => .tuple cs xs (hr.mono hs hL)
 | _, _, .ptr b off id hl => .ptr b off id (fL hL hl)
 | _, _, .ai b off cs x hr hm => .ai b off cs x (hr.mono hs hL) (hm.mono hs)
 | _, _, .qU => .qU
 | _, _, .map b id hl => .map b id (fL hL hl)
 | _, _, .iJ => .iJ
 | _, _, .fn f fs cs xs ys h1 h2 => .fn f fs cs xs ys (h1.mono hs hL) (h2.mono hs hL)
 | _, _, .fy => .fy
 | _, _, .iface t v x h => .iface t v x (h.mono hs hL)
 | _, _, .wx => .wx
 | _, _, .mM b id hl => .mM b id (fL hL hl)
 | _, _, .ou a => .ou a
theorem aJ.mono {M M' : Mem} {L L' : List Nat} (hs : M.sub M') (hL : L <+: L') : ∀ {vs : List Value} {xs : List AV}, aJ M L vs xs → aJ M' L' vs xs
 | _, _, .nil => .nil
 | _, _, .cons v x vs xs h t => .cons v x vs xs (h.mono hs hL) (t.mono hs hL)
end
section
variable {M : Mem} {L : List Nat}
theorem aJ.length : ∀ {vs : List Value} {xs : List AV}, aJ M L vs xs → vs.length = xs.length
 | _, _, .nil => rfl
 | _, _, .cons _ _ _ _ _ t => by simp [t.length]
theorem aJ.get : ∀ {vs : List Value} {xs : List AV}, aJ M L vs xs → ∀ (j : Nat) (x : AV), xs[j]? = some x → ∃ v, vs[j]? = some v ∧ aR M L v x
 | _, _, .nil, j, x, h => by simp at h
 | _, _, .cons v y vs xs h t, 0, x, hx => by simp at hx; subst hx; exact ⟨v, by simp, h⟩
 | _, _, .cons v y vs xs h t, j + 1, x, hx => by
   obtain ⟨u, hu, hr⟩ := t.get j x (by simpa using hx)
   exact ⟨u, by simpa using hu, hr⟩
theorem aJ.append : ∀ {vs : List Value} {xs : List AV}, aJ M L vs xs → ∀ {us : List Value} {ys : List AV}, aJ M L us ys → aJ M L (vs ++ us) (xs ++ ys)
 | _, _, .nil, _, _, h2 => h2
 | _, _, .cons v x vs xs h t, _, _, h2 => .cons v x _ _ h (t.append h2)
theorem aJ.take : ∀ {vs : List Value} {xs : List AV}, aJ M L vs xs → ∀ n, aJ M L (vs.take n) (xs.take n)
 | _, _, .nil, n => by simp; exact .nil
 | _, _, .cons v x vs xs h t, 0 => .nil
 | _, _, .cons v x vs xs h t, n + 1 => .cons v x _ _ h (t.take n)
theorem aJ.drop : ∀ {vs : List Value} {xs : List AV}, aJ M L vs xs → ∀ n, aJ M L (vs.drop n) (xs.drop n)
 | _, _, .nil, n => by simp; exact .nil
 | _, _, .cons v x vs xs h t, 0 => .cons v x _ _ h t
 | _, _, .cons v x vs xs h t, n + 1 => t.drop n
theorem aJ.set : ∀ {vs : List Value} {xs : List AV}, aJ M L vs xs → ∀ {u : Value} {y : AV}, aR M L u y → ∀ n, aJ M L (vs.set n u) (xs.set n y)
 | _, _, .nil, _, _, _, n => by simp; exact .nil
 | _, _, .cons v x vs xs h t, u, y, hu, 0 => .cons u y _ _ hu t
 | _, _, .cons v x vs xs h t, u, y, hu, n + 1 => .cons v x _ _ h (t.set hu n)
theorem aJ.yC : ∀ {vs : List Value} {xs : List AV}, vs.length = xs.length → (∀ (j : Nat) (x : AV), xs[j]? = some x → ∃ v, vs[j]? = some v ∧ aR M L v x) → aJ M L vs xs
 | [], [], _, _ => .nil
 | [], _ :: _, h, _ => by simp at h
 | _ :: _, [], h, _ => by simp at h
 | v :: vs, x :: xs, h, H => by
   obtain ⟨u, hu, hr⟩ := H 0 x rfl
   simp at hu; subst hu
   exact .cons v x vs xs hr (.yC (by simpa using h) (fun j y hy => by obtain ⟨u, hu, hr⟩ := H (j + 1) y (by simpa using hy); exact ⟨u, by simpa using hu, hr⟩))
theorem aJ.one {v : Value} {x : AV} (h : aR M L v x) : aJ M L [v] [x] := .cons _ _ _ _ h .nil
theorem aJ.ER {vs : List Value} {x : AV} (h : aJ M L vs [x]) : ∃ v, vs = [v] ∧ aR M L v x := by
 cases h with
 | cons v x vs xs h t => cases t with | nil => exact ⟨v, rfl, h⟩
theorem aJ.getD {vs : List Value} {xs : List AV} (h : aJ M L vs xs) (j : Nat) : aR M L (vs.getD j undef) (xs.getD j .any) := by
 rcases Nat.lt_or_ge j xs.length with hj | hj
 ·obtain ⟨v, hv, hr⟩ := h.get j xs[j] (by simp [hj])
  rw [List.getD_eq_getElem?_getD, List.getD_eq_getElem?_getD, hv]
  simpa [hj] using hr
 ·rw [List.getD_eq_getElem?_getD, List.getD_eq_getElem?_getD, List.getElem?_eq_none hj]
  exact .any _
end
def AV.ab : AV → AV
 | .ap _ xs => .ap 0 xs
 | x => x
def AV.drop : AV → AV
 | .ap _ xs => .ap 0 xs
 | .ah => .ap 0 []
 | x => x
theorem aR.C7 {M : Mem} {L : List Nat} {v : Value} {o o' : Nat} {xs : List AV} (h : aR M L v (.ap o xs)) : aR M L v (.ap o' xs) := by
 cases h with
 | gh a c _ hc => exact .gh a c o' hc
 | ap b off c _ e cs _ he hx hn hle hc hr hm => exact .ap b off c o' e cs xs he hx hn hle hc hr hm
theorem aR.ab {M : Mem} {L : List Nat} {v : Value} {x : AV} (h : aR M L v x) : aR M L v x.ab := by
 cases x <;> first | exact h | exact h.C7
theorem aR.drop {M : Mem} {L : List Nat} {v : Value} {x : AV} (h : aR M L v x) : aR M L v x.drop := by
 cases x <;> first | exact h | exact h.C7 | (cases h; exact .gh _ _ _ (by decide))
theorem aJ.map_drop {M : Mem} {L : List Nat} : ∀ {vs : List Value} {xs : List AV}, aJ M L vs xs → aJ M L vs (xs.map AV.drop)
 | _, _, .nil => .nil
 | _, _, .cons v x vs xs h t => .cons v _ _ _ h.drop t.map_drop
def AV.one : AV → Bool
 | .any => false
 | .agg _ => false
 | .tuple _ => false
 | _ => true
theorem aR.gk {M : Mem} {L : List Nat} {v : Value} {x : AV} (h : aR M L v x) (h1 : x.one = true) : v.oneCell' = true := by
 cases h <;> first | rfl | simp [AV.one] at h1
theorem aJ.gk {M : Mem} {L : List Nat} : ∀ {vs : List Value} {xs : List AV}, aJ M L vs xs → xs.all AV.one = true → ∀ v ∈ vs, v.oneCell' = true
 | _, _, .nil, _, v, hv => by simp at hv
 | _, _, .cons u x vs xs h t, h1, v, hv => by
   simp only [List.all_cons, Bool.and_eq_true] at h1
   rcases List.mem_cons.1 hv with rfl | hv
   ·exact h.gk h1.1
   ·exact t.gk h1.2 v hv
mutual
def AV.a7 (n : Nat) : AV → Bool
 | .bf id _ _ _ => id < n
 | .ptr id _ => id < n
 | .map id => id < n
 | .mM id => id < n
 | .ap _ xs => aj n xs
 | .agg xs => aj n xs
 | .tuple xs => aj n xs
 | .ai x => x.a7 n
 | .fn _ xs ys => aj n xs && aj n ys
 | .iface _ x => x.a7 n
 | _ => true
def aj (n : Nat) : List AV → Bool
 | [] => true
 | x :: xs => x.a7 n && aj n xs
end
theorem a9 (n : Nat) : ∀ xs : List AV, aj n xs = true ↔ ∀ x ∈ xs, x.a7 n = true
 | [] => by simp [aj]
 | x :: xs => by simp [aj, a9 n xs]
theorem jU {L : List Nat} {id n b : Nat} (h : L[id]? = some b) (hn : id < n) : (L.take n)[id]? = some b := by
 rw [List.getElem?_take]; simp [hn, h]
theorem cq {n : Nat} {x : AV} (h : x.a7 n = true) : aj n x.cells = true := by
 cases x <;> simp_all [AV.cells, AV.a7, aj]
theorem sj {n : Nat} : ∀ {xs : List AV}, aj n xs = true → aj n (flat xs) = true
 | [], _ => rfl
 | x :: xs, h => by
   simp only [aj, Bool.and_eq_true] at h
   have h1 := cq h.1
   have h2 := sj h.2
   rw [a9] at *
   intro y hy
   simp only [flat, List.flatMap_cons, List.mem_append] at hy
   rcases hy with hy | hy
   ·exact h1 y hy
   ·exact h2 y hy
mutual
theorem aR.fV {M : Mem} {L : List Nat} {n : Nat} : ∀ {v : Value} {x : AV}, aR M L v x → x.a7 n = true → aR M (L.take n) v x
 | _, _, .any v, _ => .any v
 | _, _, .bool b, _ => .bool b
 | _, _, .int k n, _ => .int k n
 | _, _, .str s, _ => .str s
 | _, _, .ah, _ => .ah
 | _, _, .gh a c o h, _ => .gh a c o h
 | _, _, .ap b off c own e cs xs he hx hn hle hc hr hm, h => .ap b off c own e cs xs he hx hn hle hc (hr.fV (sj (by simpa [AV.a7] using h))) hm
 | _, _, .bf b off len cap id hl hc, h => .bf b off len cap id (jU hl (by simpa [AV.a7] using h)) hc
 | _, _, .agg cs xs hr, h => .agg cs xs (hr.fV (by simpa [AV.a7] using h))
 | _, _, .tuple cs xs hr, h => .tuple cs xs (hr.fV (by simpa [AV.a7] using h))
 | _, _, .ptr b off id hl, h => .ptr b off id (jU hl (by simpa [AV.a7] using h))
 | _, _, .ai b off cs x hr hm, h => .ai b off cs x (hr.fV (cq (by simpa [AV.a7] using h))) hm
 | _, _, .qU, _ => .qU
 | _, _, .map b id hl, h => .map b id (jU hl (by simpa [AV.a7] using h))
 | _, _, .iJ, _ => .iJ
 | _, _, .fn f fs cs xs ys h1 h2, h => by
   simp only [AV.a7, Bool.and_eq_true] at h
   exact .fn f fs cs xs ys (h1.fV h.1) (h2.fV h.2)
 | _, _, .fy, _ => .fy
 | _, _, .iface t v x h, hb => .iface t v x (h.fV (by simpa [AV.a7] using hb))
 | _, _, .wx, _ => .wx
 | _, _, .mM b id hl, h => .mM b id (jU hl (by simpa [AV.a7] using h))
 | _, _, .ou a, _ => .ou a
theorem aJ.fV {M : Mem} {L : List Nat} {n : Nat} : ∀ {vs : List Value} {xs : List AV}, aJ M L vs xs → aj n xs = true → aJ M (L.take n) vs xs
 | _, _, .nil, _ => .nil
 | _, _, .cons v x vs xs h t, hb => by
   simp only [aj, Bool.and_eq_true] at hb
   exact .cons v x vs xs (h.fV hb.1) (t.fV hb.2)
end
theorem aN {α : Type} {L : List α} {id : Nat} {b : α} (h : L[id]? = some b) : id < L.length := (List.getElem?_eq_some_iff.1 h).1
mutual
theorem AV.cH {m k : Nat} (h : m ≤ k) : ∀ (x : AV), x.a7 m = true → x.a7 k = true
 | .any, _ => rfl
 | .bool _, _ => rfl
 | .int _ _, _ => rfl
 | .str _, _ => rfl
 | .ah, _ => rfl
 | .ap _ xs, hb => by simp only [AV.a7] at hb ⊢; exact bF h xs hb
 | .bf _ _ _ _, hb => by simp only [AV.a7, decide_eq_true_eq] at hb ⊢; omega
 | .agg xs, hb => by simp only [AV.a7] at hb ⊢; exact bF h xs hb
 | .tuple xs, hb => by simp only [AV.a7] at hb ⊢; exact bF h xs hb
 | .ptr _ _, hb => by simp only [AV.a7, decide_eq_true_eq] at hb ⊢; omega
 | .ai x, hb => by simp only [AV.a7] at hb ⊢; exact AV.cH h x hb
 | .qU, _ => rfl
 | .map _, hb => by simp only [AV.a7, decide_eq_true_eq] at hb ⊢; omega
 | .iJ, _ => rfl
 | .fn _ xs ys, hb => by
   simp only [AV.a7, Bool.and_eq_true] at hb ⊢
   exact ⟨bF h xs hb.1, bF h ys hb.2⟩
 | .fy, _ => rfl
 | .iface _ x, hb => by simp only [AV.a7] at hb ⊢; exact AV.cH h x hb
 | .wx, _ => rfl
 | .mM _, hb => by simp only [AV.a7, decide_eq_true_eq] at hb ⊢; omega
 | .ou, _ => rfl
theorem bF {m k : Nat} (h : m ≤ k) : ∀ (xs : List AV), aj m xs = true → aj k xs = true
 | [], _ => rfl
 | x :: xs, hb => by
   simp only [aj, Bool.and_eq_true] at hb ⊢
   exact ⟨AV.cH h x hb.1, bF h xs hb.2⟩
end
abbrev AG := List (Nat × Nat × Nat)
abbrev mj := List (Nat × List Nat)
inductive wy where
 | done
 | take (i : Nat) (st : Bool) (r : wy)
 | br (i : Nat) (t rest : wy)
 | nil
 deriving Inhabited
abbrev mn := List (Nat × wy)
structure iz where
 n : Nat
 ps : List Nat
 as : Code
 bd : Code
 an : AG
 lv : mj
 pl : mn
inductive Tn where
 | ready
 | busy
 | jump (c : Code)
 | eD
def Tn.ok (st : Tn) (r : Loop) : Prop :=
 match st with
 | .ready => r.state = .ready ∧ r.pending = none
 | .busy => r.state = .busy
 | .jump c => r.state = .done ∧ r.pending = some c
 | .eD => True
inductive aa where
 | dead
 | cells (es : List AV)
 | map (es : List (AV × AV))
 | Ig (s : ByteArray) (pos : Nat)
 | loop (st : Tn) (lc : iz) (es : List AV)
 deriving Inhabited
def aa.a7 (n : Nat) : aa → Bool
 | .cells es => aj n es
 | .map es => aj n (es.map (·.1)) && aj n (es.map (·.2))
 | .loop _ _ es => aj n es
 | _ => true
theorem aa.cH {m k : Nat} (h : m ≤ k) (o : aa) (ho : o.a7 m = true) : o.a7 k = true := by
 cases o <;> simp only [aa.a7, Bool.and_eq_true] at ho ⊢
 ·exact bF h _ ho
 ·exact ⟨bF h _ ho.1, bF h _ ho.2⟩
 ·exact bF h _ ho
def yD (M : Mem) (L : List Nat) (w : World) (b : Nat) : aa → Prop
 | .dead => True
 | .cells es => ∃ cs e, w.heap[b]? = some (.cells cs e (0, 0)) ∧ aJ M L cs.toList es ∧ ∀ o, M b o = none
 | .map es => ∃ ents ck, w.heap[b]? = some (.map ents ck) ∧ aJ M L (ents.toList.map (·.key)) (es.map (·.1)) ∧ aJ M L (ents.toList.map (·.val)) (es.map (·.2))
 | .Ig s pos => w.heap[b]? = some (.stringIter s pos)
 | .loop st lc es => ∃ r, w.heap[b]? = some (.loop r) ∧ r.params = lc.ps.toArray ∧ r.assign = lc.as ∧ r.body = lc.bd ∧ aJ M L r.tmps.toList es ∧ st.ok r
theorem yD.mono {M M' : Mem} {L L' : List Nat} {w w' : World} {b : Nat} {o : aa} (h : yD M L w b o) (hs : M.sub M') (hL : L <+: L')
 (hw : w'.heap[b]? = w.heap[b]?) (hM : ∀ o, M' b o = M b o) : yD M' L' w' b o := by
 cases o with
 | dead => trivial
 | cells es =>
   obtain ⟨cs, e, h1, h2, h3⟩ := h
   exact ⟨cs, e, hw.trans h1, h2.mono hs hL, fun o => (hM o).trans (h3 o)⟩
 | map es =>
   obtain ⟨ents, ck, h1, h2, h3⟩ := h
   exact ⟨ents, ck, hw.trans h1, h2.mono hs hL, h3.mono hs hL⟩
 | Ig s pos => exact hw.trans h
 | loop st lc es =>
   obtain ⟨r, h1, h2, h3, h4, h5, h6⟩ := h
   exact ⟨r, hw.trans h1, h2, h3, h4, h5.mono hs hL, h6⟩
theorem yD.fV {M : Mem} {L : List Nat} {w : World} {b n : Nat} {o : aa} (h : yD M L w b o) (hb : o.a7 n = true) : yD M (L.take n) w b o := by
 cases o with
 | dead => trivial
 | cells es =>
   obtain ⟨cs, e, h1, h2, h3⟩ := h
   exact ⟨cs, e, h1, h2.fV (by simpa [aa.a7] using hb), h3⟩
 | map es =>
   obtain ⟨ents, ck, h1, h2, h3⟩ := h
   simp only [aa.a7, Bool.and_eq_true] at hb
   exact ⟨ents, ck, h1, h2.fV hb.1, h3.fV hb.2⟩
 | Ig s pos => exact h
 | loop st lc es =>
   obtain ⟨r, h1, h2, h3, h4, h5, h6⟩ := h
   exact ⟨r, h1, h2, h3, h4, h5.fV (by simpa [aa.a7] using hb), h6⟩
inductive Pos where
 | t (i : Nat)
 | c (id j : Nat)
 deriving DecidableEq
def LH (fr : Nat × Nat) (n : Nat) : Prop := ∀ j, j < n → ¬ (fr.1 ≤ j ∧ j < fr.2)
theorem nK (n : Nat) : LH (0, 0) n := fun j _ h => by simp at h
def bb (M : Mem) (w : World) (v : Value) (x : AV) (ob : Option Nat) : Prop :=
 match x with
 | .ap own xs => if own = 0 then ob = none else
    (∀ y ∈ xs, y.cells.length = own) ∧ ((ob = none ∧ ∃ a n, v = .slice a n n) ∨
    ∃ b off n c cs e fr, ob = some b ∧ v = .slice (some ⟨b, off, none⟩) n c ∧ w.heap[b]? = some (.cells cs e fr) ∧ LH fr cs.size ∧ off + c * own ≤ cs.size ∧ ∀ k, n * own ≤ k → k < c * own → M b (off + k) = none)
 | _ => ob = none
theorem bb.mono {M M' : Mem} {w w' : World} {v : Value} {x : AV} {ob : Option Nat} (h : bb M w v x ob)
 (hw : ∀ b, ob = some b → w'.heap[b]? = w.heap[b]? ∧ ∀ o, M' b o = M b o) : bb M' w' v x ob := by
 cases x <;> first | exact h | skip
 rename_i own xs
 unfold bb at *
 simp only at *
 split
 ·rename_i h0; simp only [h0, if_true] at h; exact h
 ·rename_i h0
  simp only [h0, if_false] at h
  refine ⟨h.1, ?_⟩
  rcases h.2 with h | ⟨b, off, n, c, cs, e, fr, h1, h2, h3, h4, h5, h6⟩
  ·exact .inl h
  ·obtain ⟨hb, hm⟩ := hw b h1
   exact .inr ⟨b, off, n, c, cs, e, fr, h1, h2, hb.trans h3, h4, h5, fun k hk P5 => (hm _).trans (h6 k hk P5)⟩
def bK (L : List Nat) (w : World) (id j : Nat) : Value :=
 match L[id]? with
 | some b => (w.cell? ⟨b, j, none⟩).getD undef
 | none => undef
def bo (H : List aa) (id j : Nat) : AV :=
 match H[id]? with
 | some (.cells es) => es.getD j .any
 | _ => .any
structure Perm where
 wr : Nat → Prop
 top : Nat → Option Nat
 ok : ∀ id n, top id = some n → id < n
 base : Nat := 0
instance : CoeFun Perm fun _ => Nat → Prop := ⟨Perm.wr⟩
def Perm.jg (A : Perm) (len id : Nat) : Nat := match A.top id with | some n => min n len | none => len
theorem Perm.tZ (A : Perm) (len id : Nat) : A.jg len id ≤ len := by unfold Perm.jg; split <;> omega
theorem Perm.lm (A : Perm) {len id : Nat} (h : id < len) : id + 1 ≤ A.jg len id := by
 unfold Perm.jg
 split
 ·rename_i n hn; have := A.ok _ _ hn; omega
 ·omega
theorem Perm.AH (A : Perm) {len len' : Nat} (h : len ≤ len') (id : Nat) : A.jg len id ≤ A.jg len' id := by unfold Perm.jg; split <;> omega
theorem Perm.LI (A : Perm) (len : Nat) : A.jg (len + 1) len = len + 1 := by
 have h1 := A.lm (len := len + 1) (id := len) (by omega)
 have h2 := A.tZ (len + 1) len
 omega
structure St (A : Perm) (M : Mem) (L : List Nat) (w : World) (H : List aa) (ev : Nat → Value) (ea : Nat → AV) (O : Pos → Option Nat) : Prop where
 len : L.length = H.length
 nodup : L.Nodup
 env : ∀ t, aR M L (ev t) (ea t)
 mem : ∀ b o v, M b o = some v → w.cell? ⟨b, o, none⟩ = some v
 obj : ∀ (id : Nat) (o : aa) (b : Nat), H[id]? = some o → L[id]? = some b → yD M L w b o
 bB : ∀ (id : Nat) (o : aa), H[id]? = some o → o.a7 (A.jg H.length id) = true
 lt : ∀ b ∈ L, b < w.heap.size
 gN : ∀ t, bb M w (ev t) (ea t) (O (.t t))
 gK : ∀ id j, bb M w (bK L w id j) (bo H id j) (O (.c id j))
 bZ : ∀ p q b, O p = some b → O q = some b → p = q
 cj : ∀ p b, O p = some b → b ∉ L
 eV : ∀ p b, O p = some b → b < w.heap.size
 La : ∀ b ∈ L, A b
 Oa : ∀ p b, O p = some b → A b
 fresh : ∀ b, w.heap.size ≤ b → A b
structure Ext (A : Perm) (M : Mem) (w : World) (M' : Mem) (w' : World) : Prop where
 kG : M.sub M'
 size : w.heap.size ≤ w'.heap.size
 os : w'.os = w.os
 tape : w'.tape = w.tape
 output : w'.output = w.output
 kh : ∀ b, b < w.heap.size → ¬ A b → w'.heap[b]? = w.heap[b]? ∧ ∀ o, M' b o = M b o
 loops : ∀ (b : Nat) (r : Loop), w.heap[b]? = some (.loop r) → ∃ r', w'.heap[b]? = some (.loop r') ∧ r'.defers = r.defers
theorem Ext.refl (A : Perm) (M : Mem) (w : World) : Ext A M w M w := ⟨Mem.bN M, Nat.le_refl _, rfl, rfl, rfl, fun _ _ _ => ⟨rfl, fun _ => rfl⟩, fun b r h => ⟨r, h, rfl⟩⟩
theorem Ext.trans {A : Perm} {M M1 M2 : Mem} {w w1 w2 : World} (h : Ext A M w M1 w1) (k : Ext A M1 w1 M2 w2) : Ext A M w M2 w2 :=
 ⟨Mem.Ga h.kG k.kG, Nat.le_trans h.size k.size, k.os.trans h.os, k.tape.trans h.tape, k.output.trans h.output, fun b hb hA => by
   obtain ⟨h1, h2⟩ := h.kh b hb hA
   obtain ⟨k1, k2⟩ := k.kh b (Nat.lt_of_lt_of_le hb h.size) hA
   exact ⟨k1.trans h1, fun o => (k2 o).trans (h2 o)⟩, fun b r hr => by
   obtain ⟨r1, h1, e1⟩ := h.loops b r hr
   obtain ⟨r2, h2, e2⟩ := k.loops b r1 h1
   exact ⟨r2, h2, e2.trans e1⟩⟩
end Go.aK
end
section
namespace Go.aK
open Go
def fg {α : Type} (f : Nat → α) (d : Nat) (v : α) : Nat → α := fun t => if t = d then v else f t
def dX (O : Pos → Option Nat) (p : Pos) (ob : Option Nat) : Pos → Option Nat := fun q => if q = p then ob else O q
theorem Ih {α : Type} (f : Nat → α) (d : Nat) (v : α) : fg f d v d = v := by simp [fg]
section
variable {A : Perm} {M : Mem} {L : List Nat} {w : World} {H : List aa} {ev : Nat → Value} {ea : Nat → AV} {O : Pos → Option Nat}
theorem St.put (h : St A M L w H ev ea O) (d : Nat) {v : Value} {x : AV} (hr : aR M L v x) (ob : Option Nat) (hs : bb M w v x ob)
 (h1 : ∀ p b, ob = some b → O p = some b → p = .t d) (h2 : ∀ b, ob = some b → b ∉ L ∧ b < w.heap.size ∧ A b) :
 St A M L w H (fg ev d v) (fg ea d x) (dX O (.t d) ob) where
 len := h.len
 nodup := h.nodup
 env t := by
  by_cases e : t = d
  ·subst e; simpa [fg] using hr
  ·simpa [fg, e] using h.env t
 mem := h.mem
 obj := h.obj
 bB := h.bB
 lt := h.lt
 gN t := by
  by_cases e : t = d
  ·subst e; simpa [fg, dX] using hs
  ·simpa [fg, dX, e] using h.gN t
 gK id j := by simpa [dX] using h.gK id j
 bZ p q b hp hq := by
  simp only [dX] at hp hq
  split at hp <;> split at hq
  ·simp_all
  ·rename_i e1 e2; exact absurd (h1 q b hp hq) e2
  ·rename_i e1 e2; exact absurd (h1 p b hq hp) e1
  ·exact h.bZ p q b hp hq
 cj p b hp := by
  simp only [dX] at hp
  split at hp
  ·exact (h2 b hp).1
  ·exact h.cj p b hp
 eV p b hp := by
  simp only [dX] at hp
  split at hp
  ·exact (h2 b hp).2.1
  ·exact h.eV p b hp
 La := h.La
 Oa p b hp := by
  simp only [dX] at hp
  split at hp
  ·exact (h2 b hp).2.2
  ·exact h.Oa p b hp
 fresh := h.fresh
theorem bb.free {v : Value} {x : AV} (hx : ∀ own xs, x = .ap own xs → own = 0) : bb M w v x none := by
 cases x <;> first | rfl | skip
 rename_i own xs
 have := hx own xs rfl
 simp [bb, this]
theorem AV.bI (x : AV) : ∀ own xs, x.ab = .ap own xs → own = 0 := by
 intro own xs h
 cases x <;> simp_all [AV.ab]
theorem AV.jh (x : AV) : ∀ own xs, x.drop = .ap own xs → own = 0 := by
 intro own xs h
 cases x <;> simp_all [AV.drop]
theorem St.ow (h : St A M L w H ev ea O) (d : Nat) {v : Value} {x : AV} (hr : aR M L v x) (hx : ∀ own xs, x = .ap own xs → own = 0) :
 St A M L w H (fg ev d v) (fg ea d x) (dX O (.t d) none) :=
 h.put d hr none (bb.free hx) (fun p b e => by cases e) (fun b e => by cases e)
theorem St.congr (h : St A M L w H ev ea O) {ev' : Nat → Value} {ea' : Nat → AV} (h1 : ∀ t, ev' t = ev t) (h2 : ∀ t, ea' t = ea t) : St A M L w H ev' ea' O := by
 rw [show ev' = ev from funext h1, show ea' = ea from funext h2]; exact h
theorem St.grow (h : St A M L w H ev ea O) {M' : Mem} {w' : World} (hs : M.sub M') (iK : ∀ b o v, M' b o = some v → w'.cell? ⟨b, o, none⟩ = some v)
 (c9 : w.heap.size ≤ w'.heap.size) (hw : ∀ b, b < w.heap.size → w'.heap[b]? = w.heap[b]?) (hM : ∀ b, b < w.heap.size → ∀ o, M' b o = M b o) : St A M' L w' H ev ea O where
 len := h.len
 nodup := h.nodup
 env t := (h.env t).mono hs (List.prefix_refl _)
 mem := iK
 obj id o b ho hb := by
  have aW := h.lt b (List.mem_of_getElem? hb)
  exact (h.obj id o b ho hb).mono hs (List.prefix_refl _) (hw b aW) (hM b aW)
 bB := h.bB
 lt b hb := Nat.lt_of_lt_of_le (h.lt b hb) c9
 gN t := (h.gN t).mono fun b hb => ⟨hw b (h.eV _ b hb), hM b (h.eV _ b hb)⟩
 gK id j := by
  have e : bK L w' id j = bK L w id j := by
   unfold bK
   split
   ·rename_i b hb
    have aW := h.lt b (List.mem_of_getElem? hb)
    simp [World.cell?, hw b aW]
   ·rfl
  rw [e]
  exact (h.gK id j).mono fun b hb => ⟨hw b (h.eV _ b hb), hM b (h.eV _ b hb)⟩
 bZ := h.bZ
 cj := h.cj
 eV p b hp := Nat.lt_of_lt_of_le (h.eV p b hp) c9
 La := h.La
 Oa := h.Oa
 fresh b hb := h.fresh b (Nat.le_trans c9 hb)
theorem Ext.grow {M' : Mem} {w' : World} (hs : M.sub M') (c9 : w.heap.size ≤ w'.heap.size) (hos : w'.os = w.os) (htape : w'.tape = w.tape) (Ii : w'.output = w.output)
 (hw : ∀ b, b < w.heap.size → w'.heap[b]? = w.heap[b]?) (hM : ∀ b, b < w.heap.size → ∀ o, M' b o = M b o) : Ext A M w M' w' :=
 ⟨hs, c9, hos, htape, Ii, fun b hb _ => ⟨hw b hb, hM b hb⟩, fun b r h => ⟨r, (hw b (Array.getElem?_eq_some_iff.1 h).1).trans h, rfl⟩⟩
theorem St.drew (h : St A M L w H ev ea O) : St A M L { w with drawn := w.drawn + 1 } H ev ea O :=
 h.grow (Mem.bN M) (fun b o v hv => h.mem b o v hv) (Nat.le_refl _) (fun _ _ => rfl) (fun _ _ _ => rfl)
theorem Ext.drew : Ext A M w M { w with drawn := w.drawn + 1 } := Ext.grow (Mem.bN M) (Nat.le_refl _) rfl rfl rfl (fun _ _ => rfl) (fun _ _ _ => rfl)
theorem nL (h : St A M L w H ev ea O) {b : Nat} (hb : w.heap.size ≤ b) (o : Nat) : M b o = none := by
 cases hm : M b o with
 | none => rfl
 | some v =>
   have := h.mem b o v hm
   simp [World.cell?, Array.getElem?_eq_none hb] at this
def Mem.add (M : Mem) (b : Nat) (cs : List Value) : Mem := fun b' o => if b' = b then cs[o]? else M b' o
theorem dY (w : World) (o : Obj) {b : Nat} (hb : b < w.heap.size) : (w.heap.push o)[b]? = w.heap[b]? := by
 rw [Array.getElem?_push, if_neg (by omega)]
theorem dC (w : World) (o : Obj) : (w.heap.push o)[w.heap.size]? = some o := by simp
theorem St.pH (h : St A M L w H ev ea O) (cs : Array Value) (e : TypeId) (fr : Nat × Nat) (rw : List Value) (hrw : ∀ (j : Nat) (v : Value), rw[j]? = some v → cs[j]? = some v) :
 St A (M.add w.heap.size rw) L { w with heap := w.heap.push (.cells cs e fr) } H ev ea O ∧ Ext A M w (M.add w.heap.size rw) { w with heap := w.heap.push (.cells cs e fr) } ∧
 (M.add w.heap.size rw).row w.heap.size 0 rw := by
 have fM : M.sub (M.add w.heap.size rw) := by
  intro b o v hv
  have ep : b ≠ w.heap.size := by
   rintro rfl
   rw [nL h (Nat.le_refl _)] at hv; cases hv
  simp [Mem.add, ep, hv]
 have hM : ∀ b, b < w.heap.size → ∀ o, (M.add w.heap.size rw) b o = M b o := fun b hb o => by simp [Mem.add, show b ≠ w.heap.size by omega]
 refine ⟨h.grow fM ?_ (by simp) (fun b hb => dY w _ hb) hM, Ext.grow fM (by simp) rfl rfl rfl (fun b hb => dY w _ hb) hM, ?_⟩
 ·intro b o v hv
  by_cases e0 : b = w.heap.size
  ·subst e0
   simp only [Mem.add, if_true] at hv
   simp only [World.cell?, dC]
   simpa using hrw o v hv
  ·simp only [Mem.add, e0, if_false] at hv
   have := h.mem b o v hv
   have aW : b < w.heap.size := by
    rcases Nat.lt_or_ge b w.heap.size with h' | h'
    ·exact h'
    ·rw [nL h h'] at hv; cases hv
   simp only [World.cell?] at this ⊢
   rw [dY w _ aW]; exact this
 ·intro j v hv
  simpa [Mem.add] using hv
theorem St.C8 (h : St A M L w H ev ea O) (cs : Array Value) (e : TypeId) :
 St A (M.add w.heap.size cs.toList) L { w with heap := w.heap.push (.cells cs e) } H ev ea O ∧ Ext A M w (M.add w.heap.size cs.toList) { w with heap := w.heap.push (.cells cs e) } ∧
 (M.add w.heap.size cs.toList).row w.heap.size 0 cs.toList :=
 h.pH cs e (0, 0) cs.toList (fun j v hv => by simpa using hv)
def yE (ob : Obj) (j : Nat) : Value := match ob with | .cells cs _ _ => (cs[j]?).getD undef | _ => undef
def mN (ao : aa) (j : Nat) : AV := match ao with | .cells es => es.getD j .any | _ => .any
theorem St.qV (h : St A M L w H ev ea O) (ob : Obj) (ao : aa) (P6 : ∀ w', w'.heap[w.heap.size]? = some ob → (∀ o, M w.heap.size o = none) → yD M (L ++ [w.heap.size]) w' w.heap.size ao)
 (hb : ao.a7 (H.length + 1) = true) (Li : ∀ j, bb M w (yE ob j) (mN ao j) none) :
 St A M (L ++ [w.heap.size]) { w with heap := w.heap.push ob } (H ++ [ao]) ev ea O ∧ Ext A M w M { w with heap := w.heap.push ob } := by
 have ln : L <+: L ++ [w.heap.size] := ⟨_, rfl⟩
 have hO : ∀ j, O (.c H.length j) = none := by
  intro j
  have := h.gK H.length j
  simp only [bo, List.getElem?_eq_none (Nat.le_refl _)] at this
  exact this
 have hkeep : ∀ b, b < w.heap.size → (w.heap.push ob)[b]? = w.heap[b]? := fun b hb => dY w _ hb
 refine ⟨?_, Ext.grow (Mem.bN M) (by simp) rfl rfl rfl hkeep (fun _ _ _ => rfl)⟩
 refine { len := by simp [h.len], nodup := ?_, env := fun t => (h.env t).mono (Mem.bN M) ln, mem := ?_, obj := ?_, bB := ?_, lt := ?_, gN := ?_, gK := ?_, bZ := h.bZ, cj := ?_, eV := ?_, La := ?_, Oa := h.Oa, fresh := ?_ }
 ·rw [List.nodup_append]
  refine ⟨h.nodup, by simp, ?_⟩
  intro a ha b dW
  simp at dW
  subst dW
  exact Nat.ne_of_lt (h.lt a ha)
 ·intro b o v hv
  have := h.mem b o v hv
  have aW : b < w.heap.size := by
   rcases Nat.lt_or_ge b w.heap.size with h' | h'
   ·exact h'
   ·rw [nL h h'] at hv; cases hv
  simp only [World.cell?] at this ⊢
  rw [hkeep b aW]; exact this
 ·intro id o b ho dW
  by_cases e : id < H.length
  ·rw [List.getElem?_append_left e] at ho
   rw [List.getElem?_append_left (by rw [h.len]; exact e)] at dW
   exact (h.obj id o b ho dW).mono (Mem.bN M) ln (hkeep b (h.lt b (List.mem_of_getElem? dW))) (fun _ => rfl)
  ·rw [List.getElem?_append_right (by omega)] at ho
   rw [List.getElem?_append_right (by rw [h.len]; omega)] at dW
   have e0 : id - H.length = 0 := by
    have := (List.getElem?_eq_some_iff.1 ho).1
    simp at this; omega
   rw [e0] at ho
   rw [h.len, e0] at dW
   simp at ho dW
   subst ho; subst dW
   exact P6 _ (dC w ob) (fun o => nL h (Nat.le_refl _) o)
 ·intro id o ho
  rw [List.length_append, List.length_singleton]
  by_cases e : id < H.length
  ·rw [List.getElem?_append_left e] at ho
   exact aa.cH (A.AH (Nat.le_succ _) id) o (h.bB id o ho)
  ·rw [List.getElem?_append_right (by omega)] at ho
   have e0 : id - H.length = 0 := by
    have := (List.getElem?_eq_some_iff.1 ho).1
    simp at this; omega
   rw [e0] at ho
   simp at ho
   subst ho
   rw [show id = H.length by omega, A.LI]; exact hb
 ·intro b dW
  simp at dW ⊢
  rcases dW with dW | rfl
  ·have := h.lt b dW; omega
  ·omega
 ·intro t
  exact (h.gN t).mono fun b dW => ⟨hkeep b (h.eV _ b dW), fun _ => rfl⟩
 ·intro id j
  by_cases e : id < H.length
  ·have e1 : bK (L ++ [w.heap.size]) { w with heap := w.heap.push ob } id j = bK L w id j := by
    unfold bK
    rw [List.getElem?_append_left (by rw [h.len]; exact e)]
    split
    ·rename_i b dW
     simp only [World.cell?]
     rw [hkeep b (h.lt b (List.mem_of_getElem? dW))]
    ·rfl
   have e2 : bo (H ++ [ao]) id j = bo H id j := by
    unfold bo
    rw [List.getElem?_append_left e]
   rw [e1, e2]
   exact (h.gK id j).mono fun b dW => ⟨hkeep b (h.eV _ b dW), fun _ => rfl⟩
  ·by_cases e0 : id = H.length
   ·subst e0
    rw [hO j]
    have e1 : bK (L ++ [w.heap.size]) { w with heap := w.heap.push ob } H.length j = yE ob j := by
     unfold bK
     rw [List.getElem?_append_right (by rw [h.len]; omega), h.len]
     simp only [Nat.sub_self, List.getElem?_cons_zero, World.cell?, dC]
     cases ob <;> simp [yE]
    have e2 : bo (H ++ [ao]) H.length j = mN ao j := by
     unfold bo
     rw [List.getElem?_append_right (Nat.le_refl _)]
     simp only [Nat.sub_self, List.getElem?_cons_zero]
     cases ao <;> rfl
    rw [e1, e2]
    exact (Li j).mono fun b dW => by cases dW
   ·have hn : O (.c id j) = none := by
     have := h.gK id j
     simp only [bo, List.getElem?_eq_none (show H.length ≤ id by omega)] at this
     exact this
    rw [hn]
    have e2 : bo (H ++ [ao]) id j = .any := by
     unfold bo
     rw [List.getElem?_eq_none (by simp; omega)]
    rw [e2]; rfl
 ·intro p b hp iK
  simp at iK
  rcases iK with iK | rfl
  ·exact h.cj p b hp iK
  ·exact absurd (h.eV p _ hp) (Nat.lt_irrefl _)
 ·intro p b hp
  have := h.eV p b hp
  simp; omega
 ·intro b dW
  simp at dW
  rcases dW with dW | rfl
  ·exact h.La b dW
  ·exact h.fresh _ (Nat.le_refl _)
 ·intro b dW
  simp at dW
  exact h.fresh b (by omega)
structure ua (O O' : Pos → Option Nat) : Prop where
 inj : ∀ p q b, O' p = some b → O' q = some b → p = q
 OI : ∀ p b, O' p = some b → ∃ q, O q = some b
theorem St.write (h : St A M L w H ev ea O) {id b : Nat} {es es' : List AV} {cs cs' : Array Value} {e : TypeId} {ea' : Nat → AV} {O' : Pos → Option Nat} (bm : H[id]? = some (.cells es)) (hL : L[id]? = some b)
 (hc : w.heap[b]? = some (.cells cs e (0, 0))) (hr : aJ M L cs'.toList es') (nM : aj (A.jg H.length id) es' = true) (hm : ua O O') (C9 : ∀ t, aR M L (ev t) (ea' t))
 (gN : ∀ t, bb M w (ev t) (ea' t) (O' (.t t))) (gK : ∀ j, bb M w ((cs'[j]?).getD undef) (es'.getD j .any) (O' (.c id j))) (spo : ∀ id' j, id' ≠ id → O' (.c id' j) = O (.c id' j)) :
 St A M L (w.setRow b cs') (H.set id (.cells es')) ev ea' O' ∧ Ext A M w M (w.setRow b cs') := by
 have xf : b ∈ L := List.mem_of_getElem? hL
 have c9 : (w.setRow b cs').heap.size = w.heap.size := by simp [World.setRow]
 have fN : ∀ k, k ≠ b → (w.setRow b cs').heap[k]? = w.heap[k]? := by
  intro k hk
  simp only [World.setRow, Array.getElem?_modify]
  rw [if_neg (fun e => hk e.symm)]
 have mB : (w.setRow b cs').heap[b]? = some (.cells cs' e (0, 0)) := by
  simp only [World.setRow, Array.getElem?_modify, if_true, hc, Option.map_some]
 obtain ⟨_, _, _, _, To⟩ := h.obj id _ b bm hL
 have pI : id < H.length := aN bm
 have howns : ∀ p k, O' p = some k → (w.setRow b cs').heap[k]? = w.heap[k]? := by
  intro p k hp
  obtain ⟨q, hq⟩ := hm.OI p k hp
  exact fN k (fun e0 => h.cj q k hq (e0 ▸ xf))
 refine ⟨{ len := by simp [h.len], nodup := h.nodup, env := C9, mem := ?_, obj := ?_, bB := ?_, lt := ?_, gN := ?_, gK := ?_, bZ := hm.inj, cj := ?_, eV := ?_, La := h.La, Oa := ?_, fresh := ?_ }, ?_⟩
 ·intro k o v hv
  have hk : k ≠ b := by rintro rfl; rw [To o] at hv; cases hv
  have := h.mem k o v hv
  simp only [World.cell?] at this ⊢
  rw [fN k hk]; exact this
 ·intro id' o k ho hk
  by_cases e0 : id' = id
  ·subst e0
   rw [hL] at hk; cases hk
   rw [List.getElem?_set_self pI] at ho
   cases ho
   exact ⟨cs', e, mB, hr, To⟩
  ·rw [List.getElem?_set_ne (fun h' => e0 h'.symm)] at ho
   have C2 : k ≠ b := by
    rintro rfl
    exact e0 ((List.getElem?_inj (aN hk) h.nodup).1 (hk.trans hL.symm))
   exact (h.obj id' o k ho hk).mono (Mem.bN M) (List.prefix_refl _) (fN k C2) (fun _ => rfl)
 ·intro id' o ho
  rw [List.length_set]
  by_cases e0 : id' = id
  ·subst e0
   rw [List.getElem?_set_self pI] at ho
   cases ho
   simpa [aa.a7] using nM
  ·rw [List.getElem?_set_ne (fun h' => e0 h'.symm)] at ho
   exact h.bB id' o ho
 ·intro k hk; rw [c9]; exact h.lt k hk
 ·intro t
  exact (gN t).mono fun k hk => ⟨howns _ k hk, fun _ => rfl⟩
 ·intro id' j
  by_cases e0 : id' = id
  ·subst e0
   have e1 : bK L (w.setRow b cs') id' j = (cs'[j]?).getD undef := by
    unfold bK
    simp only [hL, World.cell?, mB]
    simp
   have e2 : bo (H.set id' (.cells es')) id' j = es'.getD j .any := by
    unfold bo
    rw [List.getElem?_set_self pI]
   rw [e1, e2]
   exact (gK j).mono fun k hk => ⟨howns _ k hk, fun _ => rfl⟩
  ·have e1 : bK L (w.setRow b cs') id' j = bK L w id' j := by
    unfold bK
    split
    ·rename_i k hk
     have C2 : k ≠ b := by
      rintro rfl
      exact e0 ((List.getElem?_inj (aN hk) h.nodup).1 (hk.trans hL.symm))
     simp only [World.cell?]
     rw [fN k C2]
    ·rfl
   have e2 : bo (H.set id (.cells es')) id' j = bo H id' j := by
    unfold bo
    rw [List.getElem?_set_ne (fun h' => e0 h'.symm)]
   rw [e1, e2, spo id' j e0]
   exact (h.gK id' j).mono fun k hk => ⟨fN k (fun e3 => h.cj _ k hk (e3 ▸ xf)), fun _ => rfl⟩
 ·intro p k hp
  obtain ⟨q, hq⟩ := hm.OI p k hp
  exact h.cj q k hq
 ·intro p k hp
  obtain ⟨q, hq⟩ := hm.OI p k hp
  rw [c9]; exact h.eV q k hq
 ·intro p k hp
  obtain ⟨q, hq⟩ := hm.OI p k hp
  exact h.Oa q k hq
 ·intro k hk; rw [c9] at hk; exact h.fresh k hk
 ·exact ⟨Mem.bN M, by rw [c9]; exact Nat.le_refl _, rfl, rfl, rfl, fun k hk hA => ⟨fN k (fun e0 => hA (e0 ▸ h.La b xf)), fun _ => rfl⟩, fun k r hk => ⟨r, (fN k (fun e0 => by rw [e0, hc] at hk; cases hk)).trans hk, rfl⟩⟩
theorem St.AI (h : St A M L w H ev ea O) {id b : Nat} {es es' : List (AV × AV)} {o' : Obj} (bm : H[id]? = some (.map es)) (hL : L[id]? = some b)
 (OJ : ∀ cs e f, o' ≠ .cells cs e f) (hr : ∀ w', w'.heap[b]? = some o' → yD M L w' b (.map es')) (nM : (aa.map es').a7 (A.jg H.length id) = true) :
 St A M L { w with heap := w.heap.setIfInBounds b o' } (H.set id (.map es')) ev ea O ∧ Ext A M w M { w with heap := w.heap.setIfInBounds b o' } := by
 have xf : b ∈ L := List.mem_of_getElem? hL
 have P7 := h.lt b xf
 obtain ⟨ents, ck, hc, _, _⟩ := h.obj id _ b bm hL
 have fN : ∀ k, k ≠ b → (w.heap.setIfInBounds b o')[k]? = w.heap[k]? := fun k hk => by rw [Array.getElem?_setIfInBounds_ne (fun e => hk e.symm)]
 have mB : (w.heap.setIfInBounds b o')[b]? = some o' := by simp [P7]
 have To : ∀ o, M b o = none := by
  intro o
  cases hm : M b o with
  | none => rfl
  | some v =>
    have := h.mem b o v hm
    simp [World.cell?, hc] at this
 have pI : id < H.length := aN bm
 refine ⟨{ len := by simp [h.len], nodup := h.nodup, env := h.env, mem := ?_, obj := ?_, bB := ?_, lt := ?_, gN := ?_, gK := ?_, bZ := h.bZ, cj := h.cj, eV := ?_, La := h.La, Oa := h.Oa, fresh := ?_ }, ?_⟩
 ·intro k o v hv
  have hk : k ≠ b := by rintro rfl; rw [To o] at hv; cases hv
  have := h.mem k o v hv
  simp only [World.cell?] at this ⊢
  rw [fN k hk]; exact this
 ·intro id' o k ho hk
  by_cases e0 : id' = id
  ·subst e0
   rw [hL] at hk; cases hk
   rw [List.getElem?_set_self pI] at ho
   cases ho
   exact hr _ mB
  ·rw [List.getElem?_set_ne (fun h' => e0 h'.symm)] at ho
   have C2 : k ≠ b := by
    rintro rfl
    exact e0 ((List.getElem?_inj (aN hk) h.nodup).1 (hk.trans hL.symm))
   exact (h.obj id' o k ho hk).mono (Mem.bN M) (List.prefix_refl _) (fN k C2) (fun _ => rfl)
 ·intro id' o ho
  rw [List.length_set]
  by_cases e0 : id' = id
  ·subst e0
   rw [List.getElem?_set_self pI] at ho
   cases ho
   exact nM
  ·rw [List.getElem?_set_ne (fun h' => e0 h'.symm)] at ho
   exact h.bB id' o ho
 ·intro k hk; simpa using h.lt k hk
 ·intro t
  exact (h.gN t).mono fun k hk => ⟨fN k (fun e3 => h.cj _ k hk (e3 ▸ xf)), fun _ => rfl⟩
 ·intro id' j
  by_cases e0 : id' = id
  ·subst e0
   have hn : O (.c id' j) = none := by
    have := h.gK id' j
    simp only [bo, bm] at this
    exact this
   have e2 : bo (H.set id' (.map es')) id' j = .any := by
    unfold bo
    rw [List.getElem?_set_self pI]
   rw [e2, hn]; rfl
  ·have e1 : bK L { w with heap := w.heap.setIfInBounds b o' } id' j = bK L w id' j := by
    unfold bK
    split
    ·rename_i k hk
     have C2 : k ≠ b := by
      rintro rfl
      exact e0 ((List.getElem?_inj (aN hk) h.nodup).1 (hk.trans hL.symm))
     simp only [World.cell?]
     rw [fN k C2]
    ·rfl
   have e2 : bo (H.set id (.map es')) id' j = bo H id' j := by
    unfold bo
    rw [List.getElem?_set_ne (fun h' => e0 h'.symm)]
   rw [e1, e2]
   exact (h.gK id' j).mono fun k hk => ⟨fN k (fun e3 => h.cj _ k hk (e3 ▸ xf)), fun _ => rfl⟩
 ·intro p k hp; simpa using h.eV p k hp
 ·intro k hk; simp at hk; exact h.fresh k hk
 ·exact ⟨Mem.bN M, by simp, rfl, rfl, rfl, fun k hk hA => ⟨fN k (fun e0 => hA (e0 ▸ h.La b xf)), fun _ => rfl⟩, fun k r hk => ⟨r, (fN k (fun e0 => by rw [e0, hc] at hk; cases hk)).trans hk, rfl⟩⟩
def AV.le (x y : AV) : Prop := y = x ∨ y = .any ∨ (∃ o xs, x = .ap o xs ∧ y = .ap 0 xs) ∨ (x = .ah ∧ ∃ o, y = .ap o []) ∨ (∃ xs, x = .agg xs ∧ y = .agg (xs.map AV.drop))
theorem aR.le {v : Value} {x y : AV} (h : aR M L v x) (hl : x.le y) : aR M L v y := by
 rcases hl with rfl | rfl | ⟨o, xs, rfl, rfl⟩ | ⟨rfl, o, rfl⟩ | ⟨xs, rfl, rfl⟩
 ·exact h
 ·exact .any _
 ·exact h.C7
 ·cases h; exact .gh _ _ _ (by decide)
 ·cases h with
  | agg cs _ hr => exact .agg cs _ hr.map_drop
theorem bb.le {v : Value} {x y : AV} {ob : Option Nat} (h : aR M L v x) (hs : bb M w v x ob) (hl : x.le y) : ∃ ob', bb M w v y ob' ∧ (ob' = none ∨ ob' = ob) := by
 rcases hl with rfl | rfl | ⟨o, xs, rfl, rfl⟩ | ⟨rfl, o, rfl⟩ | ⟨xs, rfl, rfl⟩
 ·exact ⟨ob, hs, .inr rfl⟩
 ·exact ⟨none, rfl, .inl rfl⟩
 ·exact ⟨none, by simp [bb], .inl rfl⟩
 ·cases h
  refine ⟨none, ?_, .inl rfl⟩
  by_cases e : o = 0
  ·simp [bb, e]
  ·simp only [bb, e, if_false]; exact ⟨by simp, .inl ⟨trivial, none, 0, rfl⟩⟩
 ·exact ⟨none, rfl, .inl rfl⟩
theorem St.ES (h : St A M L w H ev ea O) {ea' : Nat → AV} (hl : ∀ t, (ea t).le (ea' t)) : ∃ O', St A M L w H ev ea' O' ∧ ∀ p b, O' p = some b → O p = some b := by
 have hx : ∀ t, ∃ ob', bb M w (ev t) (ea' t) ob' ∧ (ob' = none ∨ ob' = O (.t t)) := fun t => (h.gN t).le (h.env t) (hl t)
 let f : Nat → Option Nat := fun t => Classical.choose (hx t)
 have hf : ∀ t, bb M w (ev t) (ea' t) (f t) ∧ (f t = none ∨ f t = O (.t t)) := fun t => Classical.choose_spec (hx t)
 let O' : Pos → Option Nat := fun p => match p with | .t t => f t | .c id j => O (.c id j)
 have hO : ∀ p b, O' p = some b → O p = some b := by
  intro p b hp
  cases p with
  | t t =>
    rcases (hf t).2 with h0 | h0
    ·simp only [O', h0] at hp; cases hp
    ·simpa only [O', h0] using hp
  | c id j => exact hp
 exact ⟨O', { len := h.len, nodup := h.nodup, env := fun t => (h.env t).le (hl t), mem := h.mem, obj := h.obj, bB := h.bB, lt := h.lt, gN := fun t => (hf t).1, gK := h.gK, bZ := fun p q b hp hq => h.bZ p q b (hO p b hp) (hO q b hq), cj := fun p b hp => h.cj p b (hO p b hp), eV := fun p b hp => h.eV p b (hO p b hp), La := h.La, Oa := fun p b hp => h.Oa p b (hO p b hp), fresh := h.fresh }, hO⟩
theorem St.weaken (h : St A M L w H ev ea O) {ea' : Nat → AV} (hl : ∀ t, (ea t).le (ea' t)) : ∃ O', St A M L w H ev ea' O' :=
 let ⟨O', h1, _⟩ := h.ES hl
 ⟨O', h1⟩
theorem St.cut (h : St A M L w H ev ea O) (n : Nat) (hc : ∀ id o, id < n → H[id]? = some o → o.a7 n = true) (hb : ∀ t, (ea t).a7 n = true) : ∃ O', St A M (L.take n) w (H.take n) ev ea O' := by
 let O' : Pos → Option Nat := fun p => match p with | .t t => O (.t t) | .c id j => if id < n then O (.c id j) else none
 have hO : ∀ p b, O' p = some b → O p = some b := by
  intro p b hp
  cases p with
  | t t => exact hp
  | c id j =>
    simp only [O'] at hp
    split at hp
    ·exact hp
    ·cases hp
 have jo : ∀ {α : Type} {l : List α} {i : Nat} {a : α}, (l.take n)[i]? = some a → i < n ∧ l[i]? = some a := by
  intro α l i a hi
  rw [List.getElem?_take] at hi
  split at hi
  ·exact ⟨by assumption, hi⟩
  ·cases hi
 have iK : ∀ b, b ∈ L.take n → b ∈ L := fun b hb => List.mem_of_mem_take hb
 have LJ : ∀ {m k : Nat} {o : aa}, m ≤ k → o.a7 m = true → o.a7 k = true := fun hmk ho => aa.cH hmk _ ho
 refine ⟨O', { len := by simp [h.len], nodup := (List.take_sublist n L).nodup h.nodup, env := fun t => (h.env t).fV (hb t), mem := h.mem, obj := ?_, bB := ?_, lt := fun b hb => h.lt b (iK b hb), gN := h.gN, gK := ?_, bZ := fun p q b hp hq => h.bZ p q b (hO p b hp) (hO q b hq), cj := fun p b hp hm => h.cj p b (hO p b hp) (iK b hm), eV := fun p b hp => h.eV p b (hO p b hp), La := fun b hb => h.La b (iK b hb), Oa := fun p b hp => h.Oa p b (hO p b hp), fresh := h.fresh }⟩
 ·intro id o b ho dW
  obtain ⟨hn, ho⟩ := jo ho
  obtain ⟨_, dW⟩ := jo dW
  exact (h.obj id o b ho dW).fV (hc id o hn ho)
 ·intro id o ho
  obtain ⟨hn, ho⟩ := jo ho
  have h1 := h.bB id o ho
  have h2 := hc id o hn ho
  have hl := aN ho
  rw [List.length_take]
  have e : A.jg (min n H.length) id = min n (A.jg H.length id) := by unfold Perm.jg; split <;> omega
  rw [e]
  rcases Nat.le_total n (A.jg H.length id) with h' | h'
  ·rw [Nat.min_eq_left h']; exact h2
  ·rw [Nat.min_eq_right h']; exact h1
 ·intro id j
  by_cases e : id < n
  ·have e1 : bK (L.take n) w id j = bK L w id j := by
    unfold bK
    rw [List.getElem?_take, if_pos e]
   have e2 : bo (H.take n) id j = bo H id j := by
    unfold bo
    rw [List.getElem?_take, if_pos e]
   rw [e1, e2]
   simpa [O', e] using h.gK id j
  ·have e2 : bo (H.take n) id j = .any := by
    unfold bo
    rw [List.getElem?_take, if_neg e]
   rw [e2]
   simp [O', e, bb]
end
end Go.aK
end
section
namespace Go.aK
open Go
abbrev Env := List (Nat × AV)
def get : Env → Nat → AV
 | [], _ => .any
 | (k, v) :: r, t => if t = k then v else get r t
inductive IX where
 | t (n : Nat)
 | c (v : AV)
 deriving Inhabited
def al (env : Env) : IX → AV
 | .t n => get env n
 | .c v => v
inductive bX where
 | set (x : IX) (take : Bool)
 | pick (c a b : IX)
 | bin (op : BinOp) (x y : IX)
 | shift (op : BinOp) (x y : IX)
 | gU (neq : Bool) (x y : IX)
 | iZ (kd : Nat) (neq : Bool) (x : IX)
 | un (op : UnOp) (x : IX)
 | box (x : IX)
 | lq (x : IX)
 | qW (m : Nat) (x : IX)
 | alloc (zero : AV)
 | build (zero : AV) (parts : List (Nat × Nat × IX))
 | buildSlice (own esz : Nat) (zero : AV) (len : Nat) (parts : List (Nat × IX))
 | load (sz : Option Nat) (a : IX)
 | sk (sz : Option Nat) (esz : Nat) (a : IX)
 | eu (a : IX)
 | store (n : Nat) (a x : IX)
 | mO (n : Nat) (a x : IX)
 | eX (a : IX) (s : Nat)
 | nilCheck (x : IX)
 | fieldAddr (off : Nat) (sz : Option Nat) (x : IX)
 | field (off : Nat) (sz : Option Nat) (x : IX)
 | indexAddr (esz : Nat) (x i : IX)
 | da (x i : IX)
 | dK (n : Nat) (x i : IX)
 | oS (esz : Nat) (x : IX) (lo hi mx : Option IX)
 | slice (esz : Nat) (x : IX) (lo hi max : Option IX)
 | dL (x : IX) (lo hi : Option IX)
 | len (kd : Nat) (x : IX)
 | append (esz bytes : Nat) (s x : IX)
 | sl (esz bytes : Nat) (zero : AV) (n : IX)
 | mP (esz bytes : Nat) (n : IX)
 | mQ
 | lookup (kd : Nat) (zero : AV) (m k : IX) (ok : Bool)
 | kj (kd : Nat) (m k x : IX)
 | fn (f : Fn) (first captured : List IX)
 | extract (x : IX) (i : Nat)
 | call (f : IX) (args : List IX) (pass : Option Nat)
 | eG (k : IntKind) (x : IX)
 | gl (x : IX)
 | bytesOf (x : IX)
 | strOf (x : IX)
 | mx (big : Bool) (a b : IX)
 | copy (esz : Nat) (d s : IX)
 | yF (esz : Nat) (x : IX)
 | AJ (esz : Nat) (zero : AV) (len : Nat) (parts : List (Nat × IX))
 | jb (esz bytes : Nat) (zero : AV) (s x : IX)
 | mR (esz : Nat) (zero : AV) (x : IX)
 | never
 deriving Inhabited
def TP : Value → Option AV
 | .bool b => some (.bool b)
 | .int k n => some (.int k n)
 | .string s => some (.str s)
 | .pointer none => some .qU
 | .map none => some .iJ
 | .nilFunc => some .fy
 | .nilIface => some .wx
 | .slice none 0 0 => some .ah
 | _ => none
def Ij : List Value → Option (List AV)
 | [] => some []
 | v :: vs => match TP v, Ij vs with
   | some x, some xs => some (x :: xs)
   | _, _ => none
def ofValue : Value → Option AV
 | .agg cs => (Ij cs.toList).map .agg
 | v => TP v
section
variable {M : Mem} {L : List Nat}
theorem ET {v : Value} {x : AV} (h : TP v = some x) : aR M L v x := by
 unfold TP at h
 split at h <;> first | (cases h; constructor) | cases h
theorem AK : ∀ {vs : List Value} {xs : List AV}, Ij vs = some xs → aJ M L vs xs
 | [], xs, h => by simp [Ij] at h; subst h; exact .nil
 | v :: vs, xs, h => by
   unfold Ij at h
   split at h
   ·rename_i x ys h1 h2
    cases h
    exact .cons _ _ _ _ (ET h1) (AK h2)
   ·cases h
theorem cC {v : Value} {x : AV} (h : ofValue v = some x) : aR M L v x := by
 unfold ofValue at h
 split at h
 ·rename_i cs
  obtain ⟨xs, h1, rfl⟩ := Option.map_eq_some_iff.1 h
  have := aR.agg cs.toList xs (AK (M := M) (L := L) h1)
  simpa using this
 ·exact ET h
end
def aP : Operand → Option IX
 | .tmp t => some (.t t)
 | .const v => (ofValue v).map .c
 | .func f => some (.c (.fn (.func f) [] []))
 | .global _ => none
def fp : List Operand → Option (List IX)
 | [] => some []
 | x :: xs => match aP x, fp xs with
   | some i, some is => some (i :: is)
   | _, _ => none
def HY (P : Program) (t : TypeId) : Option (Option Nat) :=
 match P.info? t, P.underlying t with
 | some i, some (.struct _) => some (some i.size)
 | some i, some (.array _ _) => some (some i.size)
 | some i, some _ => if i.size = 1 then some none else none
 | _, _ => none
def fz (P : Program) (t : TypeId) : Option AV :=
 match P.info? t with
 | some i => match i.zero with
   | some v => ofValue v
   | none => none
 | none => none
def dD (P : Program) (t : TypeId) : Option Nat := (P.info? t).map (·.size)
def OK (A : Perm) (w : World) (ds : List Deferred) : Prop := A.base ≤ w.heap.size ∧ ds.Nodup ∧ ∀ d ∈ ds, ∃ D, d = { target := .collected D, args := #[] } ∧ w.heap[D]? = some (.deferred (some [])) ∧ ¬ A D ∧ A.base ≤ D
theorem OK.ext {A : Perm} {M M' : Mem} {w w' : World} {ds : List Deferred} (h : OK A w ds) (hx : Ext A M w M' w') : OK A w' ds :=
 ⟨Nat.le_trans h.1 hx.size, h.2.1, fun d hd => by
   obtain ⟨D, h1, h2, h3⟩ := h.2.2 d hd
   exact ⟨D, h1, (hx.kh D (Array.getElem?_eq_some_iff.1 h2).1 h3.1).1.trans h2, h3⟩⟩
def wf (ro : Option Nat) : Fence := { Fence.wide with round := ro }
theorem Ik {o : Oper} {ρ : Operand → Value} {P : Program} {w w' : World} {x : Next} (ro : Option Nat) (h : (execOp ρ o).run P w = .ok x w') (hx : ∀ d, x ≠ .defer d) : (o.semAt (wf ro).round ρ).run P w = .ok x w' := by
 rw [Oper.semAt_eq]
 ·exact h
 ·intro c hc
  simp only [execOp, hc, Sem.run_bind] at h
  cases hr : (resolve ρ c o.type).run P w with
  | ok d w1 => rw [hr] at h; simp only [Result.andThen_ok, Sem.run_pure] at h; cases h; exact hx _ rfl
  | halt e w1 => rw [hr] at h; cases h
theorem kH {o : Oper} {P : Program} {a : Act} {w w' : World} {x : Next} {ro : Option Nat} {N : Act → World → Prop} {Q : Exit → Act → World → Prop} (h : (execOp a.eval o).run P w = .ok x w') (hx : ∀ d, x ≠ .defer d)
 (hu : o.uponIn (wf ro) 0 P a N Q (.ok x w')) : o.wpIn (wf ro) 0 P a w N Q := by
 refine ⟨fun _ _ => trivial, ?_⟩
 rw [Ik ro h hx]
 exact hu
structure Fr (A : Perm) (n : Nat) (M : Mem) (L : List Nat) (w : World) (H : List aa) (env : Env) (O : Pos → Option Nat) (a : Act) : Prop where
 st : St A M L w H (fun t => a.tmps.getD t undef) (get env) O
 size : a.tmps.size = n
 defers : OK A w a.defers
def mK (A : Perm) (n : Nat) (M : Mem) (L : List Nat) (w : World) (K : Env → List aa → Prop) (a' : Act) (w' : World) : Prop :=
 ∃ M' L' H' aC O', K aC H' ∧ Fr A n M' L' w' H' aC O' a' ∧ Ext A M w M' w' ∧ L <+: L'
def put (dst : Option Nat) (x : AV) (env : Env) : Env := match dst with | some d => (d, x) :: env | none => env
section
variable {ro : Option Nat} {A : Perm} {n : Nat} {M : Mem} {L : List Nat} {w : World} {H : List aa} {env : Env} {O : Pos → Option Nat} {a : Act}
theorem Il (d : Nat) (x : AV) (env : Env) : get ((d, x) :: env) = fg (get env) d x := rfl
theorem Fr.eval (h : Fr A n M L w H env O a) {x : Operand} {i : IX} (hc : aP x = some i) : aR M L (a.eval x) (al env i) := by
 cases x with
 | tmp t => simp [aP] at hc; subst hc; exact h.st.env t
 | const v =>
   simp only [aP] at hc
   obtain ⟨y, h1, rfl⟩ := Option.map_eq_some_iff.1 hc
   exact cC h1
 | func f => simp [aP] at hc; subst hc; exact .fn _ [] [] [] [] .nil .nil
 | global g => simp [aP] at hc
theorem Fr.OL (h : Fr A n M L w H env O a) : ∀ {xs : List Operand} {is : List IX}, fp xs = some is → aJ M L (xs.map a.eval) (is.map (al env))
 | [], is, hc => by simp [fp] at hc; subst hc; exact .nil
 | x :: xs, is, hc => by
   unfold fp at hc
   split at hc
   ·rename_i i is' h1 h2
    cases hc
    exact .cons _ _ _ _ (h.eval h1) (h.OL h2)
   ·cases hc
theorem ub (a : Act) (d : Nat) (v : Value) (hd : d < a.tmps.size) (t : Nat) : (a.put (some d) v).tmps.getD t undef = fg (fun t => a.tmps.getD t undef) d v t := by
 simp only [Act.put, fg, Array.getD_eq_getD_getElem?, Array.getElem?_setIfInBounds]
 by_cases e : t = d
 ·subst e; simp [hd]
 ·simp [e, show ¬ d = t from fun h => e h.symm]
theorem Fr.Da (h : Fr A n M L w H env O a) {d : Nat} (hd : d < n) {v : Value} {x : AV} (hr : aR M L v x) (ob : Option Nat) (hs : bb M w v x ob)
 (h1 : ∀ p b, ob = some b → O p = some b → p = .t d) (h2 : ∀ b, ob = some b → b ∉ L ∧ b < w.heap.size ∧ A b) :
 Fr A n M L w H ((d, x) :: env) (dX O (.t d) ob) (a.put (some d) v) := by
 refine ⟨(h.st.put d hr ob hs h1 h2).congr (fun t => ub a d v (by rw [h.size]; exact hd) t) (fun t => rfl), ?_, h.defers⟩
 simp [Act.put, h.size]
theorem Fr.ow (h : Fr A n M L w H env O a) {dst : Option Nat} (hd : ∀ d, dst = some d → d < n) {v : Value} {x : AV} (hr : aR M L v x) (hx : ∀ own xs, x = .ap own xs → own = 0) :
 ∃ O', Fr A n M L w H (put dst x env) O' (a.put dst v) := by
 cases dst with
 | none => exact ⟨O, h⟩
 | some d => exact ⟨_, h.Da (hd d rfl) hr none (bb.free hx) (fun p b e => by cases e) (fun b e => by cases e)⟩
theorem Fr.EU (h : Fr A n M L w H env O a) {dst : Option Nat} (hd : ∀ d, dst = some d → d < n) {ad : Option Addr} {m : Nat} {own : Nat} {xs : List AV} (hr : aR M L (.slice ad m m) (.ap own xs)) (hx : own ≠ 0 → ∀ y ∈ xs, y.cells.length = own) :
 ∃ O', Fr A n M L w H (put dst (.ap own xs) env) O' (a.put dst (.slice ad m m)) := by
 cases dst with
 | none => exact ⟨O, h⟩
 | some d =>
   refine ⟨_, h.Da (hd d rfl) hr none ?_ (fun p b e => by cases e) (fun b e => by cases e)⟩
   by_cases e : own = 0
   ·simp [bb, e]
   ·simp only [bb, e, if_false]; exact ⟨hx e, .inl ⟨trivial, ad, m, rfl⟩⟩
theorem Fr.mono (h : Fr A n M L w H env O a) {M' : Mem} {w' : World} {L' : List Nat} {H' : List aa} {O' : Pos → Option Nat} (bQ : St A M' L' w' H' (fun t => a.tmps.getD t undef) (get env) O') (hx : Ext A M w M' w') : Fr A n M' L' w' H' env O' a :=
 ⟨bQ, h.size, h.defers.ext hx⟩
theorem db {P : Program} {o : Oper} {Q : Exit → Act → World → Prop} {K : Env → List aa → Prop} {v : Value} {w' : World} (bG : (execOp a.eval o).run P w = .ok (.value v) w')
 (h : mK A n M L w K (a.put o.dst v) w') : o.wpIn (wf ro) 0 P a w (mK A n M L w K) Q := by
 exact kH bG (by intro d e; cases e) h
theorem lr {P : Program} {o : Oper} {Q : Exit → Act → World → Prop} {K : Env → List aa → Prop} {w' : World} (bG : (execOp a.eval o).run P w = .ok .skip w')
 (h : mK A n M L w K (a.put o.dst undef) w') : o.wpIn (wf ro) 0 P a w (mK A n M L w K) Q := by
 exact kH bG (by intro d e; cases e) h
theorem wp_pure {P : Program} {o : Oper} {Q : Exit → Act → World → Prop} {K : Env → List aa → Prop} {v : Value} {x : AV} (h : Fr A n M L w H env O a) (hd : ∀ d, o.dst = some d → d < n)
 (bG : (execOp a.eval o).run P w = .ok (.value v) w) (hr : aR M L v x) (hx : ∀ own xs, x = .ap own xs → own = 0) (hK : K (put o.dst x env) H) : o.wpIn (wf ro) 0 P a w (mK A n M L w K) Q := by
 obtain ⟨O', hf⟩ := h.ow hd hr hx
 exact db bG ⟨M, L, H, _, O', hK, hf, Ext.refl A M w, List.prefix_refl L⟩
end
def s7 (env : Env) (d : Nat) (x : IX) (take : Bool) : Env :=
 match x, take with
 | .t s, true => (d, get env s) :: (s, (get env s).ab) :: env
 | x, _ => (d, (al env x).ab) :: env
def eL (x : AV) (φ : Bool → Prop) : Prop := match x with | .bool b => φ b | _ => False
end Go.aK
end
section
namespace Go.aK
open Go
def AV.val : AV → Bool
 | .any => false
 | .tuple _ => false
 | _ => true
def ag {α : Type} (zs : List α) (off : Nat) (xs : List α) : List α := zs.take off ++ (xs ++ zs.drop (off + xs.length))
section
variable {M : Mem} {L : List Nat}
theorem aR.fO {v : Value} {x : AV} (h : aR M L v x) (hv : x.val = true) : aJ M L v.cells.toList x.cells := by
 cases h with
 | agg cs xs hr => simpa [Value.cells, AV.cells] using hr
 | any v => simp [AV.val] at hv
 | tuple => simp [AV.val] at hv
 | ap b off c own e cs xs he hx hn hle hc hr hm => exact .one (.ap b off c own e cs xs he hx hn hle hc hr hm)
 | _ => (simp only [Value.cells, AV.cells]; exact .one (by constructor <;> assumption))
theorem aJ.yG {cs : List Value} {xs : List AV} (h : aJ M L cs xs) {zs : List Value} {ys : List AV} (off : Nat) (hz : aJ M L zs ys) : aJ M L (ag zs off cs) (ag ys off xs) := by
 unfold ag
 rw [h.length]
 exact (hz.take off).append (h.append (hz.drop _))
theorem aJ.cV : ∀ {vs : List Value} {xs : List AV}, aJ M L vs xs → aJ M L vs (xs.map AV.ab)
 | _, _, .nil => .nil
 | _, _, .cons v x vs xs h t => .cons v _ _ _ h.ab t.cV
end
theorem mS {α : Type} (zs : List α) (off : Nat) (xs : List α) (h : off + xs.length ≤ zs.length) : (ag zs off xs).length = zs.length := by
 unfold ag; simp; omega
def cW (op : BinOp) (x y : AV) (φ : AV → Prop) : Prop :=
 match x, y with
 | .int k a, .int k' b => k = k' ∧
   match op with
   | .add => φ (.int k (k.wrap (a + b)))
   | .sub => φ (.int k (k.wrap (a - b)))
   | .mul => φ (.int k (k.wrap (a * b)))
   | .quo => b ≠ 0 ∧ φ (.int k (k.wrap (a.tdiv b)))
   | .rem => b ≠ 0 ∧ φ (.int k (a.tmod b))
   | .and => φ (.int k (k.wrap (BitVec.ofInt k.bits a &&& BitVec.ofInt k.bits b).toNat))
   | .or => φ (.int k (k.wrap (BitVec.ofInt k.bits a ||| BitVec.ofInt k.bits b).toNat))
   | .xor => φ (.int k (k.wrap (BitVec.ofInt k.bits a ^^^ BitVec.ofInt k.bits b).toNat))
   | .andNot => φ (.int k (k.wrap (BitVec.ofInt k.bits a &&& ~~~ BitVec.ofInt k.bits b).toNat))
   | .eql => φ (.bool (decide (a = b)))
   | .neq => φ (.bool (decide (a ≠ b)))
   | .lss => φ (.bool (decide (a < b)))
   | .leq => φ (.bool (decide (a ≤ b)))
   | .gtr => φ (.bool (decide (b < a)))
   | .geq => φ (.bool (decide (b ≤ a)))
   | _ => False
 | .str a, .str b =>
   match op with
   | .add => a.size + b.size < 9223372036854775808 ∧ φ (.str (a ++ b))
   | .eql => φ (.bool (decide (a = b)))
   | .neq => φ (.bool (decide (a ≠ b)))
   | .lss => φ (.bool (Op.bytesLess a.data.toList b.data.toList))
   | .geq => φ (.bool (!Op.bytesLess a.data.toList b.data.toList))
   | .leq => φ (.bool (!Op.bytesLess b.data.toList a.data.toList))
   | .gtr => φ (.bool (Op.bytesLess b.data.toList a.data.toList))
   | _ => False
 | _, _ => False
def dM (op : BinOp) (x y : AV) (φ : AV → Prop) : Prop :=
 match x, y with
 | .int k a, .int _ b => 0 ≤ b ∧
   match op with
   | .shl => φ (.int k (k.wrap (a * 2 ^ (min b.toNat k.bits))))
   | .shr => φ (.int k (a.fdiv (2 ^ (min b.toNat k.bits))))
   | _ => False
 | _, _ => False
def cP (neq : Bool) (x y : AV) (φ : AV → Prop) : Prop :=
 match x, y with
 | .bool a, .bool b => φ (.bool (if neq then decide (a ≠ b) else decide (a = b)))
 | _, _ => False
def isNil (kd : Nat) (x : AV) : Option Bool :=
 match kd, x with
 | 0, .ah => some true
 | 0, .ap _ (_ :: _) => some false
 | 0, .bf _ _ _ _ => some false
 | 1, .qU => some true
 | 1, .ptr _ _ => some false
 | 1, .ai _ => some false
 | 2, .iJ => some true
 | 2, .map _ => some false
 | 3, .fy => some true
 | 3, .fn _ _ _ => some false
 | _, _ => none
def de (kd : Nat) (neq : Bool) (x : AV) (φ : AV → Prop) : Prop :=
 match isNil kd x with
 | some b => φ (.bool (if neq then !b else b))
 | none => match kd, x with
   | 0, .ap _ [] => φ (.bool true) ∧ φ (.bool false)
   | _, _ => False
def yH (op : UnOp) (x : AV) (φ : AV → Prop) : Prop :=
 match op, x with
 | .not, .bool b => φ (.bool (!b))
 | .neg, .int k n => φ (.int k (k.wrap (0 - n)))
 | _, _ => False
def gO (zs : List AV) : List (Nat × Nat × AV) → (List AV → Prop) → Prop
 | [], φ => φ zs
 | (off, sz, x) :: r, φ => x.val = true ∧ x.cells.length = sz ∧ off + sz ≤ zs.length ∧ gO (ag zs off (x.cells.map AV.ab)) r φ
def aS (sz : Option Nat) (x : AV) (H : List aa) (φ : AV → Prop) : Prop :=
 match x with
 | .ptr id off => match H[id]? with
   | some (.cells es) => match sz with
     | some m => off + m ≤ es.length ∧ φ (.agg (((es.drop off).take m).map AV.drop))
     | none => off < es.length ∧ φ (es.getD off .any).ab
   | _ => False
 | .ai y => match sz with
   | some m => y.cells.length = m ∧ φ (.agg y.cells)
   | none => y.one = true ∧ φ y.ab
 | _ => False
def apart (off : Nat) (sz : Option Nat) (xs : List AV) (φ : AV → Prop) : Prop :=
 match sz with
 | some m => off + m ≤ xs.length ∧ φ (.agg ((xs.drop off).take m))
 | none => off < xs.length ∧ (xs.getD off .any).one = true ∧ φ (xs.getD off .any)
def ak (off : Nat) (sz : Option Nat) (x : AV) (φ : AV → Prop) : Prop :=
 match x with
 | .ptr id o => φ (.ptr id (o + off))
 | .ai y => apart off sz y.cells fun z => φ (.ai z)
 | _ => False
def eM (off : Nat) (sz : Option Nat) (x : AV) (φ : AV → Prop) : Prop :=
 match x with
 | .agg xs => apart off sz xs fun z => φ z.drop
 | _ => False
def ay (esz : Nat) (x i : AV) (φ : AV → Prop) : Prop :=
 match x, i with
 | .ap _ xs, .int _ i => 0 ≤ i ∧ i.toNat < xs.length ∧ φ (.ai (xs.getD i.toNat .any))
 | .bf id off len _, .int _ i => 0 ≤ i ∧ i.toNat < len ∧ φ (.ptr id (off + i.toNat * esz))
 | _, _ => False
def bR (n : Nat) (x i : AV) (φ : AV → Prop) : Prop :=
 match x, i with
 | .agg xs, .int _ i => xs.length = n ∧ 0 ≤ i ∧ i.toNat < n ∧ φ (xs.getD i.toNat .any).drop
 | _, _ => False
def bH (x i : AV) (φ : AV → Prop) : Prop :=
 match x, i with
 | .str s, .int _ i => 0 ≤ i ∧ i.toNat < s.size ∧ φ (.int .u8 (s.data.toList.getD i.toNat 0).toNat)
 | _, _ => False
def eY (x : AV) (H : List aa) (φ : AV → Prop) : Prop :=
 match x with
 | .str s => φ (.int .i64 s.size)
 | .ah => φ (.int .i64 0)
 | .ap _ xs => xs.length < 9223372036854775808 → φ (.int .i64 xs.length)
 | .bf _ _ len _ => φ (.int .i64 len)
 | .ou => φ (.int .i64 0)
 | .iJ => φ (.int .i64 0)
 | .map id => match H[id]? with
   | some (.map es) => φ (.int .i64 es.length)
   | _ => False
 | _ => False
def bC (x : AV) (i : Nat) (φ : AV → Prop) : Prop :=
 match x with
 | .tuple xs => i < xs.length ∧ φ (xs.getD i .any).ab
 | _ => False
def bS (x : AV) (φ : AV → Prop) : Prop :=
 match x with
 | .ptr .. | .ai _ => φ x
 | .fn (.func _) _ _ => φ x
 | _ => False
def cr (k : IntKind) (x : AV) (φ : AV → Prop) : Prop :=
 match x with
 | .int _ n => φ (.int k (k.wrap n))
 | _ => False
def wz (big : Bool) (x y : AV) (φ : AV → Prop) : Prop :=
 match x, y with
 | .int k a, .int _ b => φ (.int k (if big then (if b > a then b else a) else (if b < a then b else a)))
 | _, _ => False
section
variable {P : Program} {w : World} {M : Mem} {L : List Nat} {H : List aa}
theorem lz : ∀ x y : List UInt8, (Op.bytesLess x y || x == y) = !Op.bytesLess y x
 | [], [] => rfl
 | [], b :: y => by simp [Op.bytesLess]
 | a :: x, [] => by simp [Op.bytesLess]
 | a :: x, b :: y => by
   have ih := lz x y
   simp only [Op.bytesLess, List.cons_beq_cons]
   rcases Nat.lt_trichotomy a.toNat b.toNat with h | h | h
   ·have h1 : a < b := UInt8.lt_iff_toNat_lt.2 h
    have h2 : ¬ b < a := fun h' => by have := UInt8.lt_iff_toNat_lt.1 h'; omega
    have h3 : (b == a) = false := by
     rw [beq_eq_false_iff_ne]; rintro rfl; omega
    simp [h1, h2, h3]
   ·have h0 : a = b := UInt8.toNat_inj.1 h
    subst h0
    simp [ih]
   ·have h1 : b < a := UInt8.lt_iff_toNat_lt.2 h
    have h2 : ¬ a < b := fun h' => by have := UInt8.lt_iff_toNat_lt.1 h'; omega
    have h3 : (a == b) = false := by
     rw [beq_eq_false_iff_ne]; rintro rfl; omega
    simp [h1, h2, h3]
theorem AL (a b : ByteArray) : (a.toList == b.toList) = decide (a = b) := by
 rw [ByteArray.toList_eq, ByteArray.toList_eq]
 by_cases e : a = b
 ·subst e; simp
 ·have h0 : ¬ a.data.toList = b.data.toList := fun h => e (by cases a; cases b; simp_all [Array.toList_inj])
  rw [show (a.data.toList == b.data.toList) = false from beq_eq_false_iff_ne.2 h0]
  simp [e]
theorem pJ {α : Type} [DecidableEq α] (a b : α) : (a == b) = decide (a = b) := by
 by_cases h : a = b <;> simp [h]
theorem Im {op : BinOp} {t : TypeId} {u v : Value} {x y : AV} {φ : AV → Prop} (h : cW op x y φ) (hu : aR M L u x) (hv : aR M L v y) (X Y : Operand) :
 ∃ r z, (do eqGuard op t X Y u v; binOp op t u v : Sem Value).run P w = .ok r w ∧ aR M L r z ∧ φ z ∧ ∀ own xs, z = .ap own xs → own = 0 := by
 have guard_int : ∀ (k k' : IntKind) (a b : Int), (eqGuard op t X Y (.int k a) (.int k' b)).run P w = .ok () w := by
  intro k k' a b; unfold eqGuard; cases op <;> rfl
 have guard_str : ∀ (a b : ByteArray), (eqGuard op t X Y (.string a) (.string b)).run P w = .ok () w := by
  intro a b; unfold eqGuard; cases op <;> rfl
 unfold cW at h
 split at h
 ·rename_i k a k' b
  cases hu; cases hv
  obtain ⟨rfl, h⟩ := h
  simp only [Sem.run_bind, guard_int, Result.andThen_ok]
  cases op <;> simp only at h <;> first
   | exact h.elim
   | exact ⟨_, _, rfl, .int _ _, h, by intro _ _ e; cases e⟩
   | (obtain ⟨h0, h⟩ := h
      refine ⟨_, _, ?_, .int _ _, h, by intro _ _ e; cases e⟩
      simp [binOp, Op.intDiv, h0]; done)
   | skip
  all_goals first
   | (refine ⟨_, _, ?_, .int _ _, h, by intro _ _ e; cases e⟩
      simp [binOp, Op.intArith, Op.intBits]; done)
   | (refine ⟨_, _, ?_, .bool _, h, by intro _ _ e; cases e⟩
      simp [binOp, Op.intCmp]; done)
   | skip
  all_goals
   refine ⟨_, _, ?_, .bool _, h, by intro _ _ e; cases e⟩
   simp [binOp, Op.intCmp, bne, pJ]
 ·rename_i a b
  cases hu; cases hv
  simp only [Sem.run_bind, guard_str, Result.andThen_ok]
  cases op <;> simp only at h <;> first
   | exact h.elim
   | skip
  ·obtain ⟨h0, h⟩ := h
   refine ⟨_, _, ?_, .str _, h, by intro _ _ e; cases e⟩
   have : ¬ ((a.size + b.size : Nat) : Int) > IntKind.i64.max := by
    have : IntKind.i64.max = 9223372036854775807 := rfl
    rw [this]; omega
   simp only [binOp, Op.stringOp, this, if_false, Sem.run_pure]
  ·exact ⟨_, _, rfl, .bool _, by rw [AL]; exact h, by intro _ _ e; cases e⟩
  ·exact ⟨_, _, rfl, .bool _, by rw [AL]; simpa using h, by intro _ _ e; cases e⟩
  ·exact ⟨_, _, rfl, .bool _, by rw [ByteArray.toList_eq, ByteArray.toList_eq]; exact h, by intro _ _ e; cases e⟩
  ·exact ⟨_, _, rfl, .bool _, by rw [ByteArray.toList_eq, ByteArray.toList_eq, lz]; exact h, by intro _ _ e; cases e⟩
  ·exact ⟨_, _, rfl, .bool _, by rw [ByteArray.toList_eq, ByteArray.toList_eq, lz, Bool.not_not]; exact h, by intro _ _ e; cases e⟩
  ·exact ⟨_, _, rfl, .bool _, by rw [ByteArray.toList_eq, ByteArray.toList_eq]; exact h, by intro _ _ e; cases e⟩
 ·exact h.elim
theorem uc {op : BinOp} {t : TypeId} {u v : Value} {x y : AV} {φ : AV → Prop} (h : dM op x y φ) (hu : aR M L u x) (hv : aR M L v y) (X Y : Operand) :
 ∃ r z, (do eqGuard op t X Y u v; binOp op t u v : Sem Value).run P w = .ok r w ∧ aR M L r z ∧ φ z ∧ ∀ own xs, z = .ap own xs → own = 0 := by
 unfold dM at h
 split at h
 ·rename_i k a k' b
  cases hu; cases hv
  obtain ⟨h0, h⟩ := h
  have guard_int : (eqGuard op t X Y (.int k a) (.int k' b)).run P w = .ok () w := by
   unfold eqGuard; cases op <;> rfl
  simp only [Sem.run_bind, guard_int, Result.andThen_ok]
  have hn : ¬ b < 0 := by omega
  cases op <;> simp only at h <;> first
   | exact h.elim
   | (refine ⟨_, _, ?_, .int _ _, h, by intro _ _ e; cases e⟩
      simp [binOp, Op.shift, hn]; done)
 ·exact h.elim
theorem run_equalIn_bool (d : Nat) {t : TypeId} (ht : P.underlying t = some .bool) (a b : Bool) : (Op.equalIn (d + 1) t (.bool a) (.bool b)).run P w = .ok (a == b) w := by
 simp only [Op.equalIn, Sem.run_bind, run_underlying ht, Result.andThen_ok, Sem.run_pure]
theorem run_equal_bool {t : TypeId} (ht : P.underlying t = some .bool) (a b : Bool) : (Op.equal t (.bool a) (.bool b)).run P w = .ok (a == b) w := run_equalIn_bool 9999 ht a b
theorem sm {neq : Bool} {t : TypeId} (ht : P.underlying t = some .bool) {u v : Value} {x y : AV} {φ : AV → Prop} (h : cP neq x y φ) (hu : aR M L u x) (hv : aR M L v y) (X Y : Operand) :
 ∃ r z, (do eqGuard (if neq then .neq else .eql) t X Y u v; binOp (if neq then .neq else .eql) t u v : Sem Value).run P w = .ok r w ∧ aR M L r z ∧ φ z ∧ ∀ own xs, z = .ap own xs → own = 0 := by
 unfold cP at h
 split at h
 ·rename_i a b
  cases hu; cases hv
  cases neq
  ·refine ⟨_, .bool (a == b), ?_, .bool (a == b), ?_, by intro _ _ e; cases e⟩
   ·simp only [Bool.false_eq_true, if_false, Sem.run_bind, eqGuard, Sem.run_pure, Result.andThen_ok, binOp, run_equal_bool ht]; rfl
   ·rw [pJ]; exact h
  ·refine ⟨_, .bool (!(a == b)), ?_, .bool (!(a == b)), ?_, by intro _ _ e; cases e⟩
   ·simp only [if_true, Sem.run_bind, eqGuard, Sem.run_pure, Result.andThen_ok, binOp, run_equal_bool ht]; rfl
   ·rw [pJ]; simpa using h
 ·exact h.elim
theorem LK {op : UnOp} {u : Value} {x : AV} {φ : AV → Prop} (h : yH op x φ) (hu : aR M L u x) :
 ∃ r z, (Op.unary op u).run P w = .ok r w ∧ aR M L r z ∧ φ z ∧ ∀ own xs, z = .ap own xs → own = 0 := by
 unfold yH at h
 split at h
 ·cases hu; exact ⟨_, _, rfl, .bool _, h, by intro _ _ e; cases e⟩
 ·cases hu; exact ⟨_, _, rfl, .int _ _, h, by intro _ _ e; cases e⟩
 ·exact h.elim
theorem gV {cs : List Value} {b off : Nat} (hm : M.row b off cs) (iK : ∀ b o v, M b o = some v → w.cell? ⟨b, o, none⟩ = some v) :
 ∀ j v, cs[j]? = some v → w.cell? ((⟨b, off, none⟩ : Addr).add j) = some v := by
 intro j v hv
 rw [Addr.add_lit]
 exact iK _ _ _ (hm j v hv)
theorem ew {t : TypeId} {m : Nat} (h : HY P t = some none) : (isAgg t).run P w = .ok false w ∧ (P.info? t).map (·.size) = some 1 := by
 unfold HY at h
 split at h <;> try cases h
 rename_i i d h1 h2 hi hd
 split at h
 ·rename_i h3
  refine ⟨?_, by simp [hi, h3]⟩
  simp only [isAgg, Sem.run_bind, run_underlying hd, Result.andThen_ok]
  cases d <;> first | rfl | (exact absurd rfl (h1 _)) | (exact absurd rfl (h2 _ _))
 ·cases h
theorem jq {t : TypeId} {m : Nat} (h : HY P t = some (some m)) : (isAgg t).run P w = .ok true w ∧ (sizeOf t).run P w = .ok m w := by
 unfold HY at h
 split at h <;> try cases h
 ·rename_i i f hi hd
  refine ⟨?_, ?_⟩
  ·simp only [isAgg, Sem.run_bind, run_underlying hd, Result.andThen_ok]; rfl
  ·simp [sizeOf, typeInfo, hi]
 ·rename_i i l e hi hd
  refine ⟨?_, ?_⟩
  ·simp only [isAgg, Sem.run_bind, run_underlying hd, Result.andThen_ok]; rfl
  ·simp [sizeOf, typeInfo, hi]
 ·split at h <;> cases h
end
end Go.aK
end
section
namespace Go.aK
open Go
section
variable {P : Program} {w : World} {M : Mem} {L : List Nat} {H : List aa} {A : Perm} {ev : Nat → Value} {ea : Nat → AV} {O : Pos → Option Nat}
theorem eZ (hs : St A M L w H ev ea O) {id b : Nat} {es : List AV} (bm : H[id]? = some (.cells es)) (hL : L[id]? = some b) :
 ∃ cs e, w.heap[b]? = some (.cells cs e (0, 0)) ∧ aJ M L cs.toList es ∧ ∀ j v, cs.toList[j]? = some v → w.cell? ⟨b, j, none⟩ = some v := by
 obtain ⟨cs, e, h1, h2, _⟩ := hs.obj id _ b bm hL
 exact ⟨cs, e, h1, h2, fun j v hv => by simpa [World.cell?, h1] using hv⟩
theorem dk {α : Type} (l : List α) (off m j : Nat) (v : α) (h : ((l.drop off).take m)[j]? = some v) : l[off + j]? = some v := by
 rw [List.getElem?_take] at h
 split at h
 ·rwa [List.getElem?_drop] at h
 ·cases h
theorem qX {sz : Option Nat} {t : TypeId} (ht : HY P t = some sz) {u : Value} {x : AV} {φ : AV → Prop} (hs : St A M L w H ev ea O) (h : aS sz x H φ) (hu : aR M L u x) :
 ∃ r z, (Instr.loadAt t u).run P w = .ok r w ∧ aR M L r z ∧ φ z ∧ ∀ own xs, z = .ap own xs → own = 0 := by
 unfold aS at h
 split at h
 ·rename_i id off
  cases hu with
  | ptr b _ _ hl =>
  split at h
  ·rename_i es bm
   obtain ⟨cs, e, h1, h2, h3⟩ := eZ hs bm hl
   have hlen := h2.length
   cases sz with
   | some m =>
     obtain ⟨hm, hφ⟩ := h
     obtain ⟨r1, r2⟩ := jq (w := w) ht
     have iI : ((cs.toList.drop off).take m).length = m := by simp at hlen ⊢; omega
     have Io := run_loadCells_list (P := P) w ⟨b, off, none⟩ ((cs.toList.drop off).take m) (fun j v hv => by rw [Addr.add_lit]; exact h3 _ _ (dk _ _ _ _ _ hv))
     rw [iI] at Io
     refine ⟨.agg ((cs.toList.drop off).take m).toArray, .agg (((es.drop off).take m).map AV.drop), ?_, ?_, hφ, by intro _ _ e; cases e⟩
     ·simp only [Instr.loadAt, Instr.sureAddr, loadVar, Sem.run_bind, Sem.run_pure, Result.andThen_ok, r1, if_true, r2, Io]
     ·have := aR.agg _ _ (((h2.drop off).take m).map_drop)
      simpa using this
   | none =>
     obtain ⟨hm, hφ⟩ := h
     obtain ⟨r1, r2⟩ := ew (w := w) (m := 0) ht
     have ox : off < cs.toList.length := by omega
     have hcell := h3 off cs.toList[off] (by simp)
     have fq := h2.getD off
     refine ⟨cs.toList[off], _, ?_, ?_, hφ, AV.bI _⟩
     ·simp only [Instr.loadAt, Instr.sureAddr, loadVar, Sem.run_bind, Sem.run_pure, Result.andThen_ok, r1, Bool.false_eq_true, if_false, run_load, hcell]
     ·have e0 : cs.toList.getD off undef = cs.toList[off] := by rw [List.getD_eq_getElem?_getD, List.getElem?_eq_getElem ox]; rfl
      rw [e0] at fq
      exact fq.ab
  ·exact h.elim
 ·rename_i y
  cases hu with
  | ai b off cs _ hr hm =>
  have hcells := gV hm hs.mem
  cases sz with
  | some m =>
    obtain ⟨LL, hφ⟩ := h
    obtain ⟨r1, r2⟩ := jq (w := w) ht
    have iI : cs.length = m := hr.length.trans LL
    have Io := run_loadCells_list (P := P) w ⟨b, off, none⟩ cs hcells
    rw [iI] at Io
    refine ⟨.agg cs.toArray, .agg y.cells, ?_, .agg cs y.cells hr, hφ, by intro _ _ e; cases e⟩
    simp only [Instr.loadAt, Instr.sureAddr, loadVar, Sem.run_bind, Sem.run_pure, Result.andThen_ok, r1, if_true, r2, Io]
  | none =>
    obtain ⟨LL, hφ⟩ := h
    obtain ⟨r1, r2⟩ := ew (w := w) (m := 0) ht
    have hy : y.cells = [y] := by cases y <;> first | rfl | simp [AV.one] at LL
    rw [hy] at hr
    obtain ⟨v, rfl, hv⟩ := hr.ER
    have hcell := hcells 0 v (by simp)
    rw [Addr.add_lit, Nat.add_zero] at hcell
    refine ⟨v, _, ?_, hv.ab, hφ, AV.bI _⟩
    simp only [Instr.loadAt, Instr.sureAddr, loadVar, Sem.run_bind, Sem.run_pure, Result.andThen_ok, r1, Bool.false_eq_true, if_false, run_load, hcell]
 ·exact h.elim
def qY (P : Program) (s : TypeId) (f : Nat) : Option (Nat × Option Nat) :=
 match P.underlying s with
 | some (.struct fields) => match fields[f]? with
   | some fd => match HY P fd.type, dD P fd.type with
     | some sz, some k => if k = 0 then none else some (fd.offset, sz)
     | _, _ => none
   | none => none
 | _ => none
theorem sn {s : TypeId} {f off : Nat} {sz : Option Nat} (h : qY P s f = some (off, sz)) :
 ∃ fields fd k, P.underlying s = some (.struct fields) ∧ fields[f]? = some fd ∧ fd.offset = off ∧ HY P fd.type = some sz ∧ (P.info? fd.type).map (·.size) = some k ∧ k ≠ 0 := by
 unfold qY at h
 split at h <;> try cases h
 rename_i fields hu
 split at h <;> try cases h
 rename_i fd hf
 split at h <;> try cases h
 rename_i sz' k hs hk
 split at h <;> cases h
 rename_i Lj
 exact ⟨fields, fd, k, hu, hf, rfl, hs, hk, Lj⟩
theorem ud {s : TypeId} {f off : Nat} {sz : Option Nat} (ht : qY P s f = some (off, sz)) {u : Value} {x : AV} {φ : AV → Prop} (h : ak off sz x φ) (hu : aR M L u x) :
 ∃ r z, (Instr.fieldAt s u f).run P w = .ok r w ∧ aR M L r z ∧ φ z ∧ ∀ own xs, z = .ap own xs → own = 0 := by
 obtain ⟨fields, fd, k, Ip, hf, rfl, hs, hk, Lj⟩ := sn ht
 have bG : ∀ b o, (Instr.fieldAt s (.pointer (some ⟨b, o, none⟩)) f).run P w = .ok (.pointer (some ⟨b, o + fd.offset, none⟩)) w := by
  intro b o
  obtain ⟨i, hi, LM⟩ := Option.map_eq_some_iff.1 hk
  have c9 : (sizeOf fd.type).run P w = .ok k w := by simp [sizeOf, typeInfo, hi, LM]
  simp only [Instr.fieldAt, Instr.sureAddr, Sem.run_bind, run_underlying Ip, Result.andThen_ok, hf, Sem.run_pure, fieldPlace, c9, Lj, if_false, Addr.add_lit]
 unfold ak at h
 split at h
 ·rename_i id o
  cases hu with
  | ptr b _ _ hl => exact ⟨_, _, bG b o, .ptr b (o + fd.offset) id hl, h, by intro _ _ e; cases e⟩
 ·rename_i y
  cases hu with
  | ai b o cs _ hr hm =>
  refine ⟨.pointer (some ⟨b, o + fd.offset, none⟩), ?_⟩
  unfold apart at h
  cases sz with
  | some m =>
    obtain ⟨hle, hφ⟩ := h
    refine ⟨_, bG b o, .ai b (o + fd.offset) ((cs.drop fd.offset).take m) _ (by simpa [AV.cells] using (hr.drop fd.offset).take m) ?_, hφ, by intro _ _ e; cases e⟩
    intro j v hv
    have := hm _ _ (dk _ _ _ _ _ hv)
    rwa [← Nat.add_assoc] at this
  | none =>
    obtain ⟨hle, h1, hφ⟩ := h
    have hl := hr.length
    have ox : fd.offset < cs.length := by omega
    have hx : ∃ z, y.cells[fd.offset]? = some z := ⟨_, List.getElem?_eq_getElem hle⟩
    obtain ⟨z, hz⟩ := hx
    obtain ⟨v, hv, fq⟩ := hr.get _ z hz
    have e0 : y.cells.getD fd.offset .any = z := by rw [List.getD_eq_getElem?_getD, hz]; rfl
    rw [e0] at hφ h1
    have hag : z.cells = [z] := by cases z <;> first | rfl | simp [AV.one] at h1
    refine ⟨_, bG b o, .ai b (o + fd.offset) [v] z (by rw [hag]; exact .one fq) ?_, hφ, by intro _ _ e; cases e⟩
    intro j u' Gb
    cases j with
    | zero => simp at Gb; subst Gb; simpa using hm _ _ hv
    | succ j => simp at Gb
 ·exact h.elim
theorem Db {s : TypeId} {f off : Nat} {sz : Option Nat} (ht : qY P s f = some (off, sz)) {u : Value} {x : AV} {φ : AV → Prop} (h : eM off sz x φ) (hu : aR M L u x) :
 ∃ r z, (Instr.field s u f).run P w = .ok r w ∧ aR M L r z ∧ φ z ∧ ∀ own xs, z = .ap own xs → own = 0 := by
 obtain ⟨fields, fd, k, Ip, hf, rfl, hs, hk, Lj⟩ := sn ht
 unfold eM at h
 split at h
 ·rename_i xs
  cases hu with
  | agg cs _ hr =>
  unfold apart at h
  cases sz with
  | some m =>
    obtain ⟨hle, hφ⟩ := h
    obtain ⟨r1, r2⟩ := jq (w := w) hs
    refine ⟨.agg ((cs.drop fd.offset).take m).toArray, _, ?_, (aR.agg _ _ ((hr.drop fd.offset).take m)).drop, hφ, AV.jh _⟩
    simp only [Instr.field, Sem.run_bind, run_underlying Ip, Result.andThen_ok, hf, part, r1, if_true, asAgg, Sem.run_pure, r2]
    congr 2
    apply Array.ext'
    simp []
  | none =>
    obtain ⟨hle, h1, hφ⟩ := h
    obtain ⟨r1, r2⟩ := ew (w := w) (m := 0) hs
    have ox : fd.offset < cs.length := by have := hr.length; omega
    have fq := hr.getD fd.offset
    have e0 : cs.getD fd.offset undef = cs[fd.offset] := by rw [List.getD_eq_getElem?_getD, List.getElem?_eq_getElem ox]; rfl
    rw [e0] at fq
    refine ⟨cs[fd.offset], _, ?_, fq.drop, hφ, AV.jh _⟩
    simp [Instr.field, run_underlying Ip, hf, part, r1, asAgg, ox]
 ·exact h.elim
theorem flat_get : ∀ (xs : List AV) (e : Nat), (∀ x ∈ xs, x.cells.length = e) → ∀ i j x, xs[i]? = some x → j < e → (flat xs)[i * e + j]? = x.cells[j]?
 | [], e, _, i, j, x, h, _ => by simp at h
 | y :: ys, e, hx, 0, j, x, h, hj => by
   simp at h; subst h
   have := hx y (by simp)
   simp only [flat, List.flatMap_cons, Nat.zero_mul, Nat.zero_add]
   rw [List.getElem?_append_left (by omega)]
 | y :: ys, e, hx, i + 1, j, x, h, hj => by
   have hy := hx y (by simp)
   have ih := flat_get ys e (fun x h => hx x (by simp [h])) i j x (by simpa using h) hj
   simp only [flat, List.flatMap_cons]
   rw [List.getElem?_append_right (by rw [hy, Nat.add_mul]; omega), hy, show (i + 1) * e + j - e = i * e + j by rw [Nat.add_mul]; omega]
   exact ih
theorem Iq {b off e : Nat} {cs : List Value} {xs : List AV} (hx : ∀ x ∈ xs, x.cells.length = e) (hr : aJ M L cs (flat xs)) (hm : M.row b off cs) {i : Nat} {x : AV} (hi : xs[i]? = some x) :
 aR M L (.pointer (some ⟨b, off + i * e, none⟩)) (.ai x) := by
 have hlen := hx x (List.mem_of_getElem? hi)
 refine .ai b (off + i * e) ((cs.drop (i * e)).take e) x ?_ ?_
 ·have h2 := (hr.drop (i * e)).take e
  have : ((flat xs).drop (i * e)).take e = x.cells := by
   apply List.ext_getElem?
   intro j
   rw [List.getElem?_take]
   split
   ·rename_i hj
    rw [List.getElem?_drop, flat_get xs e hx i j x hi hj]
   ·rename_i hj
    rw [List.getElem?_eq_none (by omega)]
  rwa [this] at h2
 ·intro j v hv
  have := hm _ _ (dk _ _ _ _ _ hv)
  rwa [← Nat.add_assoc] at this
theorem ue {t e esz : Nat} (ht : P.underlying t = some (.slice e)) (hz : dD P e = some esz) {u v : Value} {x y : AV} {φ : AV → Prop} (h : ay esz x y φ)
 (P8 : ∀ own xs, x = .ap own xs → ∀ z ∈ xs, z.cells.length = esz) (hu : aR M L u x) (hv : aR M L v y) :
 ∃ r z, (Instr.indexAt t u v).run P w = .ok r w ∧ aR M L r z ∧ φ z ∧ ∀ own xs, z = .ap own xs → own = 0 := by
 have c9 : (sizeOf e).run P w = .ok esz w := by
  obtain ⟨i, hi, LM⟩ := Option.map_eq_some_iff.1 hz
  simp [sizeOf, typeInfo, hi, LM]
 have bG : ∀ (b o len cap : Nat) (k : IntKind) (i : Int), 0 ≤ i → i.toNat < len → (Instr.indexAt t (.slice (some ⟨b, o, none⟩) len cap) (.int k i)).run P w = .ok (.pointer (some ⟨b, o + i.toNat * esz, none⟩)) w := by
  intro b o len cap k i h0 h1
  have hc : 0 ≤ i ∧ i < (len : Int) := ⟨h0, by omega⟩
  simp only [Instr.indexAt, asIntOf, Sem.run_bind, Sem.run_pure, Result.andThen_ok, run_underlying ht, hc, and_self, if_true, c9, Addr.add_lit]
 unfold ay at h
 split at h
 ·rename_i own xs k i
  obtain ⟨h0, h1, hφ⟩ := h
  cases hv
  have hi : xs[i.toNat]? = some (xs.getD i.toNat .any) := by rw [List.getD_eq_getElem?_getD, List.getElem?_eq_getElem h1]; rfl
  cases hu with
  | gh => simp at h1
  | ap b off c _ e' cs _ he hx hn hle hc hr hm =>
    have e0 : e' = esz := by
     have h2 := hx _ (List.mem_of_getElem? hi)
     have h3 := P8 own xs rfl _ (List.mem_of_getElem? hi)
     omega
    subst e0
    exact ⟨_, _, bG b off _ c _ i h0 h1, Iq hx hr hm hi, hφ, by intro _ _ e; cases e⟩
 ·rename_i id off len cap k i
  obtain ⟨h0, h1, hφ⟩ := h
  cases hv
  cases hu with
  | bf b _ _ _ _ hl hc => exact ⟨_, _, bG b off len cap _ i h0 h1, .ptr b _ id hl, hφ, by intro _ _ e; cases e⟩
 ·exact h.elim
theorem wA {t e : TypeId} {n : Nat} (ht : P.underlying t = some (.array n e)) (he : HY P e = some none) {u v : Value} {x y : AV} {φ : AV → Prop} (h : bR n x y φ) (hu : aR M L u x) (hv : aR M L v y) :
 ∃ r z, (Instr.index t u v).run P w = .ok r w ∧ aR M L r z ∧ φ z ∧ ∀ own xs, z = .ap own xs → own = 0 := by
 unfold bR at h
 split at h
 ·rename_i xs k i
  obtain ⟨hn, h0, h1, hφ⟩ := h
  cases hv
  cases hu with
  | agg cs _ hr =>
  obtain ⟨r1, r2⟩ := ew (w := w) (m := 1) he
  have Az : i.toNat < cs.length := by have := hr.length; omega
  have fq := hr.getD i.toNat
  have e0 : cs.getD i.toNat undef = cs[i.toNat] := by rw [List.getD_eq_getElem?_getD, List.getElem?_eq_getElem Az]; rfl
  rw [e0] at fq
  refine ⟨cs[i.toNat], _, ?_, fq.drop, hφ, AV.jh _⟩
  have aW : i < (n : Int) := by omega
  obtain ⟨inf, iL, c9⟩ := Option.map_eq_some_iff.1 r2
  have rz : (sizeOf e).run P w = .ok 1 w := by simp [sizeOf, typeInfo, iL, c9]
  simp [Instr.index, asIntOf, run_underlying ht, h0, aW, part, r1, rz, Az]
 ·exact h.elim
theorem wB {t : TypeId} (ht : P.underlying t = some .string) {u v : Value} {x y : AV} {φ : AV → Prop} (h : bH x y φ) (hu : aR M L u x) (hv : aR M L v y) :
 ∃ r z, (Instr.index t u v).run P w = .ok r w ∧ aR M L r z ∧ φ z ∧ ∀ own xs, z = .ap own xs → own = 0 := by
 unfold bH at h
 split at h
 ·rename_i s k i
  obtain ⟨h0, h1, hφ⟩ := h
  cases hu; cases hv
  have e1 : s[i.toNat]? = some s[i.toNat] := by simp [h1]
  have e2 : s.data.toList.getD i.toNat 0 = s[i.toNat] := by
   have : i.toNat < s.data.size := h1
   rw [List.getD_eq_getElem?_getD, Array.getElem?_toList, Array.getElem?_eq_getElem this]; rfl
  rw [e2] at hφ
  refine ⟨_, _, ?_, .int _ _, hφ, by intro _ _ e; cases e⟩
  simp only [Instr.index, asIntOf, Sem.run_bind, Sem.run_pure, Result.andThen_ok, run_underlying ht, h0, if_true, e1]
 ·exact h.elim
def iM (d : TypeDesc) (x : AV) : Bool :=
 match d, x with
 | .string, .str _ => true
 | .slice _, .ah => true
 | .slice _, .ap _ _ => true
 | .slice _, .bf _ _ _ _ => true
 | .slice _, .ou => true
 | .map _ _, .iJ => true
 | .map _ _, .map _ => true
 | _, _ => false
theorem Ir {t : TypeId} {d : TypeDesc} (ht : P.underlying t = some d) {u : Value} {x : AV} {φ : AV → Prop} (hs : St A M L w H ev ea O)
 (hk : iM d x = true)
 (h : eY x H φ) (hu : aR M L u x) (ty : TypeId) :
 ∃ r z, (Builtin.len_ #[t] ty #[u]).run P w = .ok r w ∧ aR M L r z ∧ φ z ∧ ∀ own xs, z = .ap own xs → own = 0 := by
 unfold eY at h
 split at h
 ·cases hu
  cases d <;> simp [iM] at hk
  exact ⟨_, _, by simp [Builtin.len_, run_underlying ht, goInt], .int _ _, h, by intro _ _ e; cases e⟩
 ·cases hu
  cases d <;> simp [iM] at hk
  exact ⟨_, _, by simp [Builtin.len_, run_underlying ht, goInt], .int _ _, h, by intro _ _ e; cases e⟩
 ·rename_i own xs
  cases d <;> simp [iM] at hk
  cases hu with
  | gh a c _ hc => exact ⟨_, _, by simp [Builtin.len_, run_underlying ht, goInt], .int _ _, h (by decide), by intro _ _ e; cases e⟩
  | ap b off c _ e' cs _ he hx hn hle hc hr hm => exact ⟨_, _, by simp [Builtin.len_, run_underlying ht, goInt], .int _ _, h (by omega), by intro _ _ e; cases e⟩
 ·cases d <;> simp [iM] at hk
  cases hu with
  | bf b off len cap id hl hc => exact ⟨_, _, by simp [Builtin.len_, run_underlying ht, goInt], .int _ _, h, by intro _ _ e; cases e⟩
 ·cases d <;> simp [iM] at hk
  cases hu with
  | ou a => exact ⟨_, _, by simp [Builtin.len_, run_underlying ht, goInt], .int _ _, h, by intro _ _ e; cases e⟩
 ·cases d <;> simp [iM] at hk
  cases hu
  exact ⟨_, _, by simp [Builtin.len_, run_underlying ht, goInt], .int _ _, h, by intro _ _ e; cases e⟩
 ·rename_i id
  cases d <;> simp [iM] at hk
  cases hu with
  | map b _ hl =>
  split at h
  ·rename_i es bm
   obtain ⟨ents, ck, h1, h2, h3⟩ := hs.obj id _ b bm hl
   have hlen : ents.size = es.length := by have := h2.length; simpa using this
   refine ⟨_, _, ?_, .int _ _, h, by intro _ _ e; cases e⟩
   simp [Builtin.len_, run_underlying ht, goInt, getObj, Sem.run, h1, hlen]
  ·exact h.elim
 ·exact h.elim
theorem yI {i : Nat} {u : Value} {x : AV} {φ : AV → Prop} (h : bC x i φ) (hu : aR M L u x) :
 ∃ r z, (Instr.extract u i).run P w = .ok r w ∧ aR M L r z ∧ φ z ∧ ∀ own xs, z = .ap own xs → own = 0 := by
 unfold bC at h
 split at h
 ·rename_i xs
  obtain ⟨hi, hφ⟩ := h
  cases hu with
  | tuple cs _ hr =>
  have hl := hr.length
  have fq := hr.getD i
  have e0 : cs.getD i undef = cs[i] := by rw [List.getD_eq_getElem?_getD, List.getElem?_eq_getElem (by omega)]; rfl
  rw [e0] at fq
  exact ⟨_, _, by simp [Instr.extract, show i < cs.length by omega], fq.ab, hφ, AV.bI _⟩
 ·exact h.elim
theorem wC {o : Oper} {X : Operand} {ρ : Operand → Value} (ho : o.op = .nilCheck X) {x : AV} {φ : AV → Prop} (h : bS x φ) (hu : aR M L (ρ X) x) :
 ∃ r z, (execOp ρ o).run P w = .ok (.value r) w ∧ aR M L r z ∧ φ z ∧ ∀ own xs, z = .ap own xs → own = 0 := by
 unfold bS at h
 simp only [execOp, ho]
 generalize hρ : ρ X = u at hu
 split at h
 ·cases hu; exact ⟨_, _, rfl, .ptr _ _ _ (by assumption), h, by intro _ _ e; cases e⟩
 ·cases hu; exact ⟨_, _, rfl, .ai _ _ _ _ (by assumption) (by assumption), h, by intro _ _ e; cases e⟩
 ·cases hu; exact ⟨_, _, rfl, .fn _ _ _ _ _ (by assumption) (by assumption), h, by intro _ _ e; cases e⟩
 ·exact h.elim
theorem yJ {src dst : TypeId} {d : TypeDesc} {k : IntKind} (hs : P.underlying src = some d) (hd : P.underlying dst = some (.int k)) {u : Value} {x : AV} {φ : AV → Prop} (h : cr k x φ) (hu : aR M L u x) :
 ∃ r z, (convert src dst u).run P w = .ok r w ∧ aR M L r z ∧ φ z ∧ ∀ own xs, z = .ap own xs → own = 0 := by
 unfold cr at h
 split at h
 ·rename_i k' n'
  cases hu
  refine ⟨_, _, ?_, .int _ _, h, by intro _ _ e; cases e⟩
  simp [convert, run_underlying hs, run_underlying hd, Conv.intToInt]
 ·exact h.elim
theorem EV {big : Bool} {u v : Value} {x y : AV} {φ : AV → Prop} (h : wz big x y φ) (hu : aR M L u x) (hv : aR M L v y) (ts : Array TypeId) (ty : TypeId) :
 ∃ r z, (if big then Builtin.max_ ts ty #[u, v] else Builtin.min_ ts ty #[u, v]).run P w = .ok r w ∧ aR M L r z ∧ φ z ∧ ∀ own xs, z = .ap own xs → own = 0 := by
 unfold wz at h
 split at h
 ·cases hu; cases hv
  cases big
  ·exact ⟨_, _, rfl, .int _ _, h, by intro _ _ e; cases e⟩
  ·exact ⟨_, _, rfl, .int _ _, h, by intro _ _ e; cases e⟩
 ·exact h.elim
end
end Go.aK
end
section
namespace Go.aK
open Go
def cE (zero : List AV) (parts : List (Nat × Nat × AV)) (φ : AV → Prop) : Prop := gO zero parts fun xs => φ (.agg xs)
def bh (xs : List AV) (esz : Nat) : List (Nat × AV) → (List AV → Prop) → Prop
 | [], φ => φ xs
 | (i, x) :: r, φ => x.val = true ∧ x.cells.length = esz ∧ i < xs.length ∧ bh (xs.set i (aQ x)) esz r φ
where aQ : AV → AV
 | .agg ys => .agg (ys.map AV.drop)
 | x => x.drop
abbrev aQ := bh.aQ
section
variable {M : Mem} {L : List Nat}
theorem aR.aQ {v : Value} {x : AV} (h : aR M L v x) : aR M L v (aQ x) := by
 cases x <;> first | exact h.drop | skip
 cases h with
 | agg cs _ hr => exact .agg cs _ hr.map_drop
theorem eN (x : AV) : (aQ x).cells.length = x.cells.length := by
 cases x <;> simp [bh.aQ, AV.cells, AV.drop]
theorem qZ {x : AV} (h : x.val = true) : (aQ x).val = true := by
 cases x <;> simp_all [bh.aQ, AV.val, AV.drop]
theorem Dc (x : AV) : ∀ own xs, aQ x = .ap own xs → own = 0 := by
 intro own xs h
 cases x <;> simp_all [bh.aQ, AV.drop]
end
section
variable {P : Program} {w : World} {M : Mem} {L : List Nat} {H : List aa} {A : Perm} {ev : Nat → Value} {ea : Nat → AV} {O : Pos → Option Nat}
theorem Gc (hs : St A M L w H ev ea O) (e : TypeId) {u : Value} {x : AV} (hu : aR M L u x) (hv : x.val = true) :
 ∃ r M' w', (Instr.box e u).run P w = .ok r w' ∧ aR M' L r (.ai x) ∧ St A M' L w' H ev ea O ∧ Ext A M w M' w' := by
 obtain ⟨h1, h2, h3⟩ := hs.C8 u.cells e
 exact ⟨_, _, _, rfl, .ai _ _ _ _ ((hu.fO hv).mono h2.kG (List.prefix_refl _)) h3, h1, h2⟩
theorem AM (hs : St A M L w H ev ea O) (e : TypeId) {u : Value} {x : AV} (hu : aR M L u x) (hv : x.val = true) (hb : aj (H.length + 1) (x.cells.map AV.ab) = true) :
 ∃ r L' w', (Instr.box e u).run P w = .ok r w' ∧ aR M L' r (.ptr H.length 0) ∧ St A M L' w' (H ++ [.cells (x.cells.map AV.ab)]) ev ea O ∧ Ext A M w M w' ∧ L <+: L' := by
 obtain ⟨h1, h2⟩ := hs.qV (.cells u.cells e) (.cells (x.cells.map AV.ab)) (fun w' hw hM => ⟨u.cells, e, hw, ((hu.fO hv).cV).mono (Mem.bN M) ⟨_, rfl⟩, hM⟩) hb (fun j => by
  simp only [mN]
  refine bb.free ?_
  intro own xs h
  rw [List.getD_eq_getElem?_getD, List.getElem?_map] at h
  cases hx : x.cells[j]? with
  | none => simp [hx] at h
  | some y => simp [hx] at h; exact AV.bI y own xs h)
 refine ⟨_, _, _, rfl, .ptr _ _ _ ?_, h1, h2, ⟨_, rfl⟩⟩
 rw [List.getElem?_append_right (by rw [hs.len]; exact Nat.le_refl _), hs.len]; simp
theorem Dd (hs : St A M L w H ev ea O) {e : TypeId} {z : AV} (hz : fz P e = some z) (hv : z.val = true) (hb : aj (H.length + 1) (z.cells.map AV.ab) = true) :
 ∃ r L' w', (Instr.alloc e true (.tuple #[])).run P w = .ok r w' ∧ aR M L' r (.ptr H.length 0) ∧ St A M L' w' (H ++ [.cells (z.cells.map AV.ab)]) ev ea O ∧ Ext A M w M w' ∧ L <+: L' := by
 unfold fz at hz
 split at hz
 ·rename_i i hi
  split at hz
  ·rename_i v so
   obtain ⟨r, L', w', h1, h2⟩ := AM (P := P) hs e (cC hz) hv hb
   refine ⟨r, L', w', ?_, h2⟩
   rw [← h1]
   simp only [Instr.alloc, Instr.box, zeroValue, typeInfo, Sem.run_bind, run_program, Result.andThen_ok, hi, Sem.run_pure, so]
  ·cases hz
 ·cases hz
theorem uf (vs : List Value) : ∀ (off k : Nat) (cs : Array Value), off + k + vs.length ≤ cs.size →
 ((vs.zipIdx k).foldl (fun cs (x : Value × Nat) => cs.setIfInBounds (off + x.2) x.1) cs).toList = ag cs.toList (off + k) vs := by
 induction vs with
 | nil => intro off k cs h; simp [ag]
 | cons v vs ih =>
   intro off k cs h
   simp only [List.zipIdx_cons, List.foldl_cons]
   rw [ih off (k + 1) _ (by simp at h ⊢; omega)]
   simp only [Array.toList_setIfInBounds, ag]
   simp only [List.length_cons] at h
   apply List.ext_getElem?
   intro j
   simp only [List.getElem?_append, List.getElem?_take, List.length_take, List.length_set, Array.length_toList, List.getElem?_drop, List.length_cons]
   by_cases h1 : j < off + k
   ·have : j < min (off + k) cs.size := by omega
    have : j < min (off + (k + 1)) cs.size := by omega
    simp only [*, if_true]
    rw [if_pos (by omega), List.getElem?_set_ne (by omega)]
   ·by_cases h2 : j = off + k
    ·subst h2
     have : off + k < min (off + (k + 1)) cs.size := by omega
     simp only [this, if_true]
     rw [if_pos (by omega), List.getElem?_set_self (by simp; omega), if_neg (by omega)]
     rw [show off + k - min (off + k) cs.size = 0 by omega]
     simp
    ·have n1 : ¬ j < min (off + (k + 1)) cs.size := by omega
     have n2 : ¬ j < min (off + k) cs.size := by omega
     simp only [n1, n2, if_false]
     rw [show j - min (off + k) cs.size = (j - min (off + (k + 1)) cs.size) + 1 by omega]
     simp only [Nat.add_lt_add_iff_right, List.getElem?_cons_succ]
     split
     ·rfl
     ·rw [List.getElem?_set_ne (by omega)]
      congr 1
      omega
theorem xg {place : Nat → Option (Nat × Nat)} : ∀ (parts : List (Nat × Nat × AV)) (vs : List (Nat × Value)) {cs : Array Value} {zs : List AV} {φ : List AV → Prop},
 (∀ (j : Nat) (p : Nat × Nat × AV), parts[j]? = some p → ∃ i v, vs[j]? = some (i, v) ∧ place i = some (p.1, p.2.1) ∧ aR M L v p.2.2) → vs.length = parts.length → aJ M L cs.toList zs → gO zs parts φ →
 ∃ cs' zs', Instr.fill place cs vs = some cs' ∧ aJ M L cs'.toList zs' ∧ φ zs'
 | [], [], cs, zs, φ, _, _, hr, h => ⟨cs, zs, rfl, hr, h⟩
 | [], _ :: _, _, _, _, _, hl, _, _ => by simp at hl
 | _ :: _, [], _, _, _, _, hl, _, _ => by simp at hl
 | (off, sz, x) :: r, (i, v) :: vs, cs, zs, φ, H, hl, hr, h => by
   obtain ⟨hv, c9, hle, h⟩ := h
   obtain ⟨i', v', e1, e2, e3⟩ := H 0 _ rfl
   simp at e1
   obtain ⟨rfl, rfl⟩ := e1
   have hlen := hr.length
   have hc := e3.fO hv
   have iI : v.cells.size = sz := by have := hc.length; simp at this; rw [this]; exact c9
   have mB : aJ M L (v.cells.zipIdx.foldl (fun cs (x : Value × Nat) => cs.setIfInBounds (off + x.2) x.1) cs).toList (ag zs off (x.cells.map AV.ab)) := by
    have h0 := uf v.cells.toList off 0 cs (by simp at hlen ⊢; omega)
    have h1 : v.cells.zipIdx.foldl (fun cs (x : Value × Nat) => cs.setIfInBounds (off + x.2) x.1) cs = (v.cells.toList.zipIdx 0).foldl (fun cs (x : Value × Nat) => cs.setIfInBounds (off + x.2) x.1) cs := by
     rw [← Array.foldl_toList, Array.toList_zipIdx]
    rw [h1, h0]
    exact hc.cV.yG off hr
   obtain ⟨cs', zs', f1, f2, f3⟩ := xg r vs (fun j p hp => by
    obtain ⟨i, v, a1, a2⟩ := H (j + 1) p (by simpa using hp)
    exact ⟨i, v, by simpa using a1, a2⟩) (by simpa using hl) mB h
   refine ⟨cs', zs', ?_, f2, f3⟩
   unfold Instr.fill
   simp only [e2]
   have TQ : off + v.cells.size ≤ cs.size := by simp at hlen; omega
   simp only [iI, ne_eq, not_true_eq_false, decide_false, Bool.false_or]
   rw [if_neg (by simp; omega)]
   exact f1
def De (P : Program) (t : TypeId) : Option (AV × List (Nat × Nat)) :=
 match P.info? t, P.underlying t, fz P t with
 | some _, some (.struct fields), some z => match fields.toList.mapM (fun f => (P.info? f.type).map fun i => (f.offset, i.size)) with
   | some places => some (z, places)
   | none => none
 | some _, some (.array n e), some z => match P.info? e with
   | some ie => some (z, (List.range n).map fun i => (i * ie.size, ie.size))
   | none => none
 | _, _, _ => none
def fa (places : List (Nat × Nat)) : List (Nat × Operand) → Option (List (Nat × Nat × IX))
 | [] => some []
 | (i, x) :: r => match places[i]?, aP x, fa places r with
   | some (off, sz), some ix, some rest => some ((off, sz, ix) :: rest)
   | _, _, _ => none
theorem mT {n : Nat} {env : Env} {a : Act} (hf : Fr A n M L w H env O a) {places : List (Nat × Nat)} {place : Nat → Option (Nat × Nat)} (hp : ∀ i q, places[i]? = some q → place i = some q) :
 ∀ (parts : List (Nat × Operand)) (ps : List (Nat × Nat × IX)), fa places parts = some ps →
  ∀ (j : Nat) (p : Nat × Nat × AV), (ps.map fun q => (q.1, q.2.1, al env q.2.2))[j]? = some p → ∃ i v, (parts.map fun q => (q.1, a.eval q.2))[j]? = some (i, v) ∧ place i = some (p.1, p.2.1) ∧ aR M L v p.2.2
 | [], ps, h, j, p, hj => by simp [fa] at h; subst h; simp at hj
 | (i, x) :: r, ps, h, j, p, hj => by
   unfold fa at h
   split at h
   ·rename_i off sz ix rest h1 h2 h3
    cases h
    cases j with
    | zero =>
      simp at hj; subst hj
      exact ⟨i, a.eval x, by simp, hp _ _ h1, hf.eval h2⟩
    | succ j =>
      obtain ⟨i', v', a1, a2⟩ := mT hf hp r rest h3 j p (by simpa using hj)
      exact ⟨i', v', by simpa using a1, a2⟩
   ·cases h
theorem kI {places : List (Nat × Nat)} : ∀ (parts : List (Nat × Operand)) (ps : List (Nat × Nat × IX)), fa places parts = some ps → ps.length = parts.length
 | [], ps, h => by simp [fa] at h; subst h; rfl
 | (i, x) :: r, ps, h => by
   unfold fa at h
   split at h
   ·rename_i off sz ix rest h1 h2 h3
    cases h
    simp [kI r rest h3]
   ·cases h
theorem Df {n : Nat} {env : Env} {a : Act} (hf : Fr A n M L w H env O a) {t : TypeId} {z : AV} {places : List (Nat × Nat)} (ht : De P t = some (z, places)) {parts : Array (Nat × Operand)} {ps : List (Nat × Nat × IX)}
 (hc : fa places parts.toList = some ps) {φ : AV → Prop} (h : cE z.cells (ps.map fun q => (q.1, q.2.1, al env q.2.2)) φ) (so : z.val = true) :
 ∃ r x, (Instr.build t (parts.map fun (i, x) => (i, a.eval x))).run P w = .ok r w ∧ aR M L r x ∧ φ x ∧ ∀ own xs, x = .ap own xs → own = 0 := by
 have hparts : (parts.map fun (i, x) => (i, a.eval x)).toList = parts.toList.map fun q => (q.1, a.eval q.2) := by simp
 have key : ∀ (place : Nat → Option (Nat × Nat)) (v : Value), (∀ i q, places[i]? = some q → place i = some q) → ofValue v = some z →
  ∃ cs' x, Instr.fill place v.cells (parts.toList.map fun q => (q.1, a.eval q.2)) = some cs' ∧ aR M L (.agg cs') x ∧ φ x ∧ ∀ own xs, x = .ap own xs → own = 0 := by
  intro place v hp hv
  obtain ⟨cs', zs', f1, f2, f3⟩ := xg (M := M) (L := L) (place := place) _ (parts.toList.map fun q => (q.1, a.eval q.2)) (mT hf hp _ _ hc) (by simp [kI _ _ hc]) ((cC hv).fO so) h
  exact ⟨cs', _, f1, by simpa using aR.agg cs'.toList zs' f2, f3, by intro _ _ e; cases e⟩
 unfold De at ht
 split at ht
 ·rename_i it fields z' hi hu hz
  split at ht
  ·rename_i pl wm
   cases ht
   unfold fz at hz
   simp only [hi] at hz
   split at hz
   ·rename_i v hv
    obtain ⟨cs', x, f1, f2, f3, f4⟩ := key (places.toArray[·]?) v (fun i q h => by simpa using h) hz
    refine ⟨_, x, run_build w t _ cs' ?_, f2, f3, f4⟩
    rw [hparts]
    unfold Program.built
    simp only [hi, hu, hv, wm]
    exact f1
   ·cases hz
  ·cases ht
 ·rename_i it m e z' hi hu hz
  split at ht
  ·rename_i ie Is
   cases ht
   unfold fz at hz
   simp only [hi] at hz
   split at hz
   ·rename_i v hv
    obtain ⟨cs', x, f1, f2, f3, f4⟩ := key (fun i => some (i * ie.size, ie.size)) v (fun i q h => by
     rw [List.getElem?_map] at h
     obtain ⟨k, hk, rfl⟩ := Option.map_eq_some_iff.1 h
     rw [List.getElem?_range (by rcases Nat.lt_or_ge i m with h' | h'; exact h'; rw [List.getElem?_eq_none (by simpa using h')] at hk; cases hk)] at hk
     cases hk; rfl) hz
    refine ⟨_, x, run_build w t _ cs' ?_, f2, f3, f4⟩
    rw [hparts]
    unfold Program.built
    simp only [hi, hu, hv, Is]
    exact f1
   ·cases hz
  ·cases ht
 ·cases ht
theorem AN : ∀ (xs : List AV) (e i : Nat) (x : AV), (∀ y ∈ xs, y.cells.length = e) → x.cells.length = e → i < xs.length → flat (xs.set i x) = ag (flat xs) (i * e) x.cells
 | [], _, _, _, _, _, h => by simp at h
 | y :: ys, e, 0, x, hx, hc, _ => by
   have := hx y (by simp)
   simp [flat, ag, hc, this]
 | y :: ys, e, i + 1, x, hx, hc, h => by
   have hy := hx y (by simp)
   have ih := AN ys e i x (fun z hz => hx z (by simp [hz])) hc (by simpa using h)
   simp only [flat] at ih
   simp only [List.set_cons_succ, flat, List.flatMap_cons, ih, ag]
   rw [List.take_append, List.take_of_length_le (l := y.cells) (by rw [hy, Nat.add_mul]; omega), List.drop_append, List.drop_eq_nil_of_le (as := y.cells) (by rw [hy, Nat.add_mul]; omega), hy]
   simp only [List.nil_append, List.append_assoc]
   rw [show (i + 1) * e - e = i * e by rw [Nat.add_mul]; omega, show (i + 1) * e + x.cells.length - e = i * e + x.cells.length by rw [Nat.add_mul]; omega]
theorem cD : ∀ (xs : List AV) (e : Nat), (∀ y ∈ xs, y.cells.length = e) → (flat xs).length = xs.length * e
 | [], e, _ => by simp [flat]
 | y :: ys, e, hx => by
   have hy := hx y (by simp)
   have ih := cD ys e (fun z hz => hx z (by simp [hz]))
   simp only [flat] at ih
   simp only [flat, List.flatMap_cons, List.length_append, hy, ih, List.length_cons, Nat.add_mul, Nat.one_mul]
   omega
theorem AO {place : Nat → Option (Nat × Nat)} {i off : Nat} {v : Value} {vs : List (Nat × Value)} {cs : Array Value} (hp : place i = some (off, v.cells.size)) (hle : off + v.cells.size ≤ cs.size) :
 Instr.fill place cs ((i, v) :: vs) = Instr.fill place (ag cs.toList off v.cells.toList).toArray vs := by
 have h0 := uf v.cells.toList off 0 cs (by simpa using hle)
 have h1 : v.cells.zipIdx.foldl (fun cs (x : Value × Nat) => cs.setIfInBounds (off + x.2) x.1) cs = (v.cells.toList.zipIdx 0).foldl (fun cs (x : Value × Nat) => cs.setIfInBounds (off + x.2) x.1) cs := by
  rw [← Array.foldl_toList, Array.toList_zipIdx]
 rw [← h1] at h0
 conv => lhs; unfold Instr.fill
 simp only [hp, ne_eq, not_true_eq_false, decide_false, Bool.false_or]
 rw [if_neg (by simp; omega)]
 congr 1
 apply Array.ext'
 simpa using h0
theorem mU (e : Nat) : ∀ (parts : List (Nat × AV)) (vs : List (Nat × Value)) {cs : Array Value} {xs : List AV} {φ : List AV → Prop},
 (∀ (j : Nat) (p : Nat × AV), parts[j]? = some p → ∃ v, vs[j]? = some (p.1, v) ∧ aR M L v p.2) → vs.length = parts.length → aJ M L cs.toList (flat xs) → (∀ y ∈ xs, y.cells.length = e) → bh xs e parts φ →
 ∃ cs' xs', Instr.fill (fun i => some (i * e, e)) cs vs = some cs' ∧ aJ M L cs'.toList (flat xs') ∧ (∀ y ∈ xs', y.cells.length = e) ∧ xs'.length = xs.length ∧ φ xs'
 | [], [], cs, xs, φ, _, _, hr, hx, h => ⟨cs, xs, rfl, hr, hx, rfl, h⟩
 | [], _ :: _, _, _, _, _, hl, _, _, _ => by simp at hl
 | _ :: _, [], _, _, _, _, hl, _, _, _ => by simp at hl
 | (i, x) :: r, (i', v) :: vs, cs, xs, φ, H, hl, hr, hx, h => by
   obtain ⟨hv, c9, hi, h⟩ := h
   obtain ⟨v', e1, e3⟩ := H 0 _ rfl
   simp at e1
   obtain ⟨rfl, rfl⟩ := e1
   have hc := (e3.aQ).fO (qZ hv)
   have iI : v.cells.size = e := by have := hc.length; simp at this; rw [this, eN]; exact c9
   have hlen := hr.length
   rw [cD xs e hx] at hlen
   simp only [Array.length_toList] at hlen
   have hle : i' * e + v.cells.size ≤ cs.size := by
    rw [iI, hlen]
    calc i' * e + e = (i' + 1) * e := by rw [Nat.add_mul]; omega
     _ ≤ xs.length * e := Nat.mul_le_mul_right _ hi
   rw [AO (place := fun i => some (i * e, e)) (by rw [iI]) hle]
   have wo : ∀ y ∈ xs.set i' (aQ x), y.cells.length = e := by
    intro y hy
    rcases List.mem_or_eq_of_mem_set hy with h' | rfl
    ·exact hx y h'
    ·rw [eN]; exact c9
   have mB : aJ M L (ag cs.toList (i' * e) v.cells.toList).toArray.toList (flat (xs.set i' (aQ x))) := by
    rw [AN xs e i' _ hx (by rw [eN]; exact c9) hi]
    exact hc.yG _ hr
   obtain ⟨cs', xs', f1, f2, f3, f4, f5⟩ := mU e r vs (fun j p hp => by
    obtain ⟨v, a1, a2⟩ := H (j + 1) p (by simpa using hp)
    exact ⟨v, by simpa using a1, a2⟩) (by simpa using hl) mB wo h
   exact ⟨cs', xs', f1, f2, f3, by simpa using f4, f5⟩
def jr : List (Nat × Operand) → Option (List (Nat × IX))
 | [] => some []
 | (i, x) :: r => match aP x, jr r with
   | some ix, some rest => some ((i, ix) :: rest)
   | _, _ => none
theorem mq {n : Nat} {env : Env} {a : Act} (hf : Fr A n M L w H env O a) :
 ∀ (parts : List (Nat × Operand)) (ps : List (Nat × IX)), jr parts = some ps →
  (∀ (j : Nat) (p : Nat × AV), (ps.map fun q => (q.1, al env q.2))[j]? = some p → ∃ v, (parts.map fun q => (q.1, a.eval q.2))[j]? = some (p.1, v) ∧ aR M L v p.2) ∧ ps.length = parts.length
 | [], ps, h => by simp [jr] at h; subst h; simp
 | (i, x) :: r, ps, h => by
   unfold jr at h
   split at h
   ·rename_i ix rest h2 h3
    cases h
    obtain ⟨i1, i2⟩ := mq hf r rest h3
    refine ⟨fun j p hj => ?_, by simp [i2]⟩
    cases j with
    | zero =>
      simp at hj; subst hj
      exact ⟨a.eval x, by simp, hf.eval h2⟩
    | succ j =>
      obtain ⟨v', a1, a2⟩ := i1 j p (by simpa using hj)
      exact ⟨v', by simpa using a1, a2⟩
   ·cases h
theorem jt (z : Array Value) (e len : Nat) (hz : z.size = e) (he : 0 < e) (x : AV) (hr : aJ M L z.toList x.cells) :
 aJ M L (((Array.range (len * e)).map (z[· % z.size]!)).toList) (flat (List.replicate len x)) := by
 have It : x.cells.length = e := by rw [← hr.length]; simpa using hz
 have ju : ∀ y ∈ List.replicate len x, y.cells.length = e := fun y hy => by rw [List.eq_of_mem_replicate hy]; exact It
 apply aJ.yC
 ·rw [cD _ e ju]; simp
 ·intro j y hj
  have pD : j < len * e := by have := aN hj; rw [cD _ e ju] at this; simpa using this
  have hq : j / e < len := Nat.div_lt_of_lt_mul (by rw [Nat.mul_comm]; exact pD)
  have hm : j % e < e := Nat.mod_lt _ he
  have h1 := flat_get (List.replicate len x) e ju (j / e) (j % e) x (by simp [hq]) hm
  rw [show j / e * e + j % e = j from Nat.div_add_mod' j e] at h1
  rw [h1] at hj
  obtain ⟨v, hv, fq⟩ := hr.get _ _ hj
  refine ⟨v, ?_, fq⟩
  have iN : j % e < z.size := by omega
  simp only [Array.toList_map, Array.toList_range, List.getElem?_map, List.getElem?_range pD, Option.map_some, hz]
  simp only [Array.getElem?_toList] at hv
  simp [getElem!_pos, iN] at hv ⊢
  exact hv
theorem s8 (hs : St A M L w H ev ea O) {t e : TypeId} (ht : P.underlying t = some (.slice e)) {esz : Nat} (he : dD P e = some esz) (h0 : 0 < esz) {z : AV} (hz : fz P e = some z) (iN : z.cells.length = esz) (so : z.val = true) (own : Nat)
 {len : Nat} (hlen : len * esz ≤ 16777216) {parts : List (Nat × AV)} {vs : Array (Nat × Value)} (hp : ∀ (j : Nat) (p : Nat × AV), parts[j]? = some p → ∃ v, vs.toList[j]? = some (p.1, v) ∧ aR M L v p.2) (hl : vs.toList.length = parts.length)
 {φ : List AV → Prop} (h : bh (List.replicate len (aQ z)) esz parts φ) :
 ∃ m xs M' w' ad, (Instr.buildSlice t len vs).run P w = .ok (.slice ad m m) w' ∧ aR M' L (.slice ad m m) (.ap own xs) ∧ (∀ y ∈ xs, y.cells.length = esz) ∧ φ xs ∧ St A M' L w' H ev ea O ∧ Ext A M w M' w' := by
 unfold fz at hz
 obtain ⟨ie, Is, c9⟩ := Option.map_eq_some_iff.1 he
 simp only [Is] at hz
 split at hz
 ·rename_i zv ug
  have AP := (cC (M := M) (L := L) hz).aQ.fO (qZ so)
  have tx : zv.cells.size = esz := by have := AP.length; rw [eN, iN] at this; simpa using this
  obtain ⟨cs', xs', f1, f2, f3, f4, f5⟩ := mU (M := M) (L := L) esz parts vs.toList hp hl (jt zv.cells esz len tx h0 (aQ z) AP) (fun y hy => by rw [List.eq_of_mem_replicate hy, eN]; exact iN) h
  simp only [List.length_replicate] at f4
  obtain ⟨g1, g2, g3⟩ := hs.C8 cs' e
  have bG : (Instr.buildSlice t len vs).run P w = .ok (.slice (some ⟨w.heap.size, 0, none⟩) len len) { w with heap := w.heap.push (.cells cs' e) } := by
   by_cases mC : len * ie.size = 0
   ·have EW : len = 0 := by
     rcases Nat.mul_eq_zero.1 mC with h' | h'
     ·exact h'
     ·omega
    subst EW
    have LN : cs' = #[] := by
     have := f2.length
     rw [cD _ esz f3, f4] at this
     simp at this
     exact this
    have TR : vs.toList = [] := by
     cases wD : vs.toList with
     | nil => rfl
     | cons q r =>
       rw [wD] at hl
       cases parts with
       | nil => simp at hl
       | cons p ps => obtain ⟨_, _, h3, _⟩ := h; simp at h3
    subst LN
    have hf : Instr.fill (fun i => some (i * ie.size, ie.size)) #[] vs.toList = some #[] := by rw [TR]; rfl
    simp [Instr.buildSlice, run_underlying ht, sizeOf, typeInfo, Is, newRow, TR, Instr.fill]
    congr 2
    apply Array.ext'
    simp
   ·rw [run_buildSlice w t e len vs cs' ie zv ht Is ug (by rw [c9]; omega) mC (by rw [c9]; exact f1)]
    rfl
  refine ⟨len, xs', _, _, _, bG, ?_, f3, f5, g1, g2⟩
  by_cases EW : len = 0
  ·subst EW
   have : xs' = [] := List.eq_nil_of_length_eq_zero f4
   subst this
   exact .gh _ _ _ (by decide)
  ·have := aR.ap (M := M.add w.heap.size cs'.toList) (L := L) w.heap.size 0 len own esz cs'.toList xs' h0 f3 (by omega) (by omega) (by
    have : len ≤ len * esz := Nat.le_mul_of_pos_right _ h0
    omega) (f2.mono g2.kG (List.prefix_refl _)) g3
   rw [f4] at this
   exact this
 ·cases hz
end
end Go.aK
end
section
namespace Go.aK
open Go
def gW (m : Nat) (p x : AV) (H : List aa) (K : List aa → Prop) : Prop :=
 match p with
 | .ptr id off => match H[id]? with
   | some (.cells es) => x.val = true ∧ x.cells.length = m ∧ off + m ≤ es.length ∧ x.cells.all AV.one = true ∧ aj (id + 1) (x.cells.map AV.ab) = true ∧
      K (H.set id (.cells (ag es off (x.cells.map AV.ab))))
   | _ => False
 | _ => False
theorem bu {n : Nat} {xs ys : List AV} : aj n (xs ++ ys) = true ↔ aj n xs = true ∧ aj n ys = true := by
 simp only [a9, List.mem_append]
 constructor
 ·intro h; exact ⟨fun x hx => h x (.inl hx), fun x hx => h x (.inr hx)⟩
 ·rintro ⟨h1, h2⟩ x (hx | hx)
  ·exact h1 x hx
  ·exact h2 x hx
theorem sq {n m : Nat} {xs : List AV} (h : aj n xs = true) : aj n (xs.take m) = true := by
 rw [a9] at *; exact fun x hx => h x (List.mem_of_mem_take hx)
theorem sr {n m : Nat} {xs : List AV} (h : aj n xs = true) : aj n (xs.drop m) = true := by
 rw [a9] at *; exact fun x hx => h x (List.mem_of_mem_drop hx)
theorem eO {α : Type} (zs : List α) (off : Nat) (xs : List α) (h : off + xs.length ≤ zs.length) (j : Nat) :
 (ag zs off xs)[j]? = if off ≤ j ∧ j < off + xs.length then xs[j - off]? else zs[j]? := by
 unfold ag
 simp only [List.getElem?_append, List.length_take, List.getElem?_take, List.getElem?_drop]
 by_cases h1 : j < off
 ·rw [if_pos (by omega), if_pos h1, if_neg (by omega)]
 ·rw [if_neg (by omega), show j - min off zs.length = j - off by omega]
  by_cases h2 : j < off + xs.length
  ·rw [if_pos (by omega), if_pos ⟨by omega, h2⟩]
  ·rw [if_neg (by omega), if_neg (by omega)]
   congr 1; omega
section
variable {P : Program} {w : World} {M : Mem} {L : List Nat} {H : List aa} {A : Perm} {ev : Nat → Value} {ea : Nat → AV} {O : Pos → Option Nat}
theorem ua.sub {O O' : Pos → Option Nat} (P9 : ∀ p q b, O p = some b → O q = some b → p = q) (h : ∀ p b, O' p = some b → O p = some b) : ua O O' :=
 ⟨fun p q b hp hq => P9 p q b (h p b hp) (h q b hq), fun p b hp => ⟨p, h p b hp⟩⟩
theorem xh (hs : St A M L w H ev ea O) {t : TypeId} {m : Nat} (ht : dD P t = some m) {v : Value} {x : AV} {id off b : Nat} {es : List AV} (hl : L[id]? = some b) (bm : H[id]? = some (.cells es)) (hv : aR M L v x)
 (kJ : x.val = true) (hlen : x.cells.length = m) (hle : off + m ≤ es.length) (km : x.cells.all AV.one = true) (nM : aj (A.jg H.length id) (x.cells.map AV.ab) = true) :
 ∃ w' O', (Instr.storeAt t (.pointer (some ⟨b, off, none⟩)) v).run P w = .ok () w' ∧ St A M L w' (H.set id (.cells (ag es off (x.cells.map AV.ab)))) ev ea O' ∧ Ext A M w M w' := by
 obtain ⟨cs, e, h1, h2, h3⟩ := hs.obj id _ b bm hl
 have LO := hv.fO kJ
 have pK := LO.length
 have iI := h2.length
 obtain ⟨i, hi, Iu⟩ := Option.map_eq_some_iff.1 ht
 have c9 : (sizeOf t).run P w = .ok m w := by simp [sizeOf, typeInfo, hi, Iu]
 have bQ := run_storeCells_at P b off e v.cells.toList 0 cs w h1 (by simp at iI ⊢; simp at pK; omega) (LO.gk km)
 have bG : (Instr.storeAt t (.pointer (some ⟨b, off, none⟩)) v).run P w = .ok () (w.setRow b (ag cs.toList off v.cells.toList).toArray) := by
  simp only [Instr.storeAt, Instr.sureAddr, storeVar, Sem.run_bind, Sem.run_pure, Result.andThen_ok, c9, ne_eq]
  rw [if_neg (by simp at pK; omega)]
  simpa [ag] using bQ
 let O' : Pos → Option Nat := fun q => match q with
  | .t t => O (.t t)
  | .c id' j => if id' = id ∧ off ≤ j ∧ j < off + m then none else O (.c id' j)
 have hO : ∀ q b, O' q = some b → O q = some b := by
  intro q b hq
  cases q with
  | t t => exact hq
  | c id' j =>
    simp only [O'] at hq
    split at hq
    ·cases hq
    ·exact hq
 have Li : off + (x.cells.map AV.ab).length ≤ es.length := by simp; omega
 have Yl : off + v.cells.toList.length ≤ cs.toList.length := by omega
 obtain ⟨g1, g2⟩ := hs.write (cs' := (ag cs.toList off v.cells.toList).toArray) (es' := ag es off (x.cells.map AV.ab)) (O' := O') bm hl h1
  (by simpa using LO.cV.yG off h2)
  (by
    have bQ := hs.bB id _ bm
    simp only [aa.a7] at bQ
    unfold ag
    exact bu.2 ⟨sq bQ, bu.2 ⟨nM, sr bQ⟩⟩)
  (ua.sub hs.bZ hO) hs.env hs.gN (by
  intro j
  have e1 : ((ag cs.toList off v.cells.toList).toArray)[j]? = (ag cs.toList off v.cells.toList)[j]? := by simp
  rw [e1, eO _ _ _ Yl, List.getD_eq_getElem?_getD, eO _ _ _ Li]
  simp only [List.length_map]
  have e2 : v.cells.toList.length = x.cells.length := pK
  rw [e2, hlen]
  by_cases hj : off ≤ j ∧ j < off + m
  ·simp only [hj, and_self, if_true]
   have : O' (.c id j) = none := by simp [O', hj]
   rw [this]
   refine bb.free ?_
   intro own xs hh
   rw [List.getElem?_map] at hh
   cases hx : x.cells[j - off]? with
   | none => simp [hx] at hh
   | some y => simp [hx] at hh; exact AV.bI y own xs hh
  ·simp only [hj, if_false]
   have : O' (.c id j) = O (.c id j) := by simp only [O']; rw [if_neg (by intro h'; exact hj h'.2)]
   rw [this]
   have h0 := hs.gK id j
   have e3 : bK L w id j = (cs.toList[j]?).getD undef := by
    unfold bK; simp [hl, World.cell?, h1]
   have e4 : bo H id j = (es[j]?).getD .any := by
    unfold bo; simp [bm, List.getD_eq_getElem?_getD]
   rw [e3, e4] at h0
   exact h0)
  (by intro id' j ep; simp [O', ep])
 exact ⟨_, _, bG, g1, g2⟩
theorem Dg (hs : St A M L w H ev ea O) {t : TypeId} {m : Nat} (ht : dD P t = some m) {u v : Value} {p x : AV} {K : List aa → Prop} (h : gW m p x H K) (hu : aR M L u p) (hv : aR M L v x) :
 ∃ w' H' O', (Instr.storeAt t u v).run P w = .ok () w' ∧ K H' ∧ St A M L w' H' ev ea O' ∧ Ext A M w M w' := by
 unfold gW at h
 split at h <;> try exact h.elim
 rename_i id off
 cases hu with
 | ptr b _ _ hl =>
 split at h <;> try exact h.elim
 rename_i es bm
 obtain ⟨kJ, hlen, hle, km, nM, hK⟩ := h
 obtain ⟨w', O', h1, h2, h3⟩ := xh hs ht hl bm hv kJ hlen hle km (bF (A.lm (aN bm)) _ nM)
 exact ⟨w', _, O', h1, hK, h2, h3⟩
def gn (lo m : Nat) (p x : AV) (H : List aa) (K : List aa → Prop) : Prop :=
 match p with
 | .ptr id off => match H[id]? with
   | some (.cells es) => lo ≤ id ∧ x.val = true ∧ x.cells.length = m ∧ off + m ≤ es.length ∧ x.cells.all AV.one = true ∧ aj H.length (x.cells.map AV.ab) = true ∧
      K (H.set id (.cells (ag es off (x.cells.map AV.ab))))
   | _ => False
 | _ => False
theorem AQ (hs : St A M L w H ev ea O) {t : TypeId} {m lo : Nat} (uh : ∀ id, lo ≤ id → A.top id = none) (ht : dD P t = some m) {u v : Value} {p x : AV} {K : List aa → Prop} (h : gn lo m p x H K) (hu : aR M L u p) (hv : aR M L v x) :
 ∃ w' H' O', (Instr.storeAt t u v).run P w = .ok () w' ∧ K H' ∧ St A M L w' H' ev ea O' ∧ Ext A M w M w' := by
 unfold gn at h
 split at h <;> try exact h.elim
 rename_i id off
 cases hu with
 | ptr b _ _ hl =>
 split at h <;> try exact h.elim
 rename_i es bm
 obtain ⟨hi, kJ, hlen, hle, km, nM, hK⟩ := h
 have e : A.jg H.length id = H.length := by unfold Perm.jg; rw [uh id hi]
 obtain ⟨w', O', h1, h2, h3⟩ := xh hs ht hl bm hv kJ hlen hle km (by rw [e]; exact nM)
 exact ⟨w', _, O', h1, hK, h2, h3⟩
theorem St.Ge (hs : St A M L w H ev ea O) {id b off : Nat} {es : List AV} (bm : H[id]? = some (.cells es)) (hl : L[id]? = some b) (ox : off < es.length) :
 St A M L w (H.set id (.cells (es.set off (es.getD off .any).ab))) ev ea (dX O (.c id off) none) := by
 obtain ⟨cs, e, h1, h2, h3⟩ := hs.obj id _ b bm hl
 have iI := h2.length
 have hO : ∀ q b, dX O (.c id off) none q = some b → O q = some b := by
  intro q b hq
  simp only [dX] at hq
  split at hq
  ·cases hq
  ·exact hq
 have hgetD : es.getD off .any = es[off] := by rw [List.getD_eq_getElem?_getD, List.getElem?_eq_getElem ox]; rfl
 have fq : aJ M L cs.toList (es.set off (es.getD off .any).ab) := by
  have hg := (h2.getD off).ab
  have := h2.set hg off
  have yK : off < cs.toList.length := by omega
  have e0 : cs.toList.set off (cs.toList.getD off undef) = cs.toList := by
   rw [List.getD_eq_getElem?_getD, List.getElem?_eq_getElem yK]
   exact List.set_getElem_self yK
  rwa [e0] at this
 obtain ⟨g1, g2⟩ := hs.write (cs' := cs) (es' := es.set off (es.getD off .any).ab) (O' := dX O (.c id off) none) bm hl h1 fq (by
  have bQ := hs.bB id _ bm
  simp only [aa.a7] at bQ
  rw [a9] at bQ ⊢
  intro y hy
  rcases List.mem_or_eq_of_mem_set hy with h' | rfl
  ·exact bQ y h'
  ·have hb := bQ es[off] (List.getElem_mem ox)
   rw [hgetD]
   revert hb
   cases es[off] <;> simp [AV.ab, AV.a7]) (ua.sub hs.bZ hO) hs.env (fun t => by simpa [dX] using hs.gN t) (fun j => by
  by_cases hj : j = off
  ·subst hj
   have e1 : (es.set j (es.getD j .any).ab).getD j .any = (es.getD j .any).ab := by
    rw [List.getD_eq_getElem?_getD, List.getElem?_set_self ox]; rfl
   rw [e1]
   simp only [dX, if_true]
   exact bb.free (AV.bI _)
  ·have e1 : (es.set off (es.getD off .any).ab).getD j .any = es.getD j .any := by
    rw [List.getD_eq_getElem?_getD, List.getElem?_set_ne (fun e => hj e.symm), List.getD_eq_getElem?_getD]
   rw [e1]
   have h0 := hs.gK id j
   have e3 : bK L w id j = (cs[j]?).getD undef := by unfold bK; simp [hl, World.cell?, h1]
   have e4 : bo H id j = es.getD j .any := by unfold bo; simp [bm]
   rw [e3, e4] at h0
   simpa [dX, hj] using h0) (fun id' j ep => by simp [dX, ep])
 rwa [setRow_self w b cs e (0, 0) h1] at g1
def dN (p x : AV) (H : List aa) (K : List aa → Prop) : Prop :=
 match p with
 | .ptr id off => match H[id]? with
   | some (.cells es) => off < es.length ∧ x.one = true ∧ x.a7 (id + 1) = true ∧ K (H.set id (.cells (es.set off x)))
   | _ => False
 | _ => False
theorem yL (hs : St A M L w H ev ea O) {t : TypeId} (ht : dD P t = some 1) {u v : Value} {p x : AV} {K : List aa → Prop} (h : dN p x H K) (hu : aR M L u p) (s : Nat) (TS : ev s = v) (hea : ea s = x) :
 ∃ w' H' O', (Instr.storeAt t u v).run P w = .ok () w' ∧ K H' ∧ St A M L w' H' ev (fg ea s x.ab) O' ∧ Ext A M w M w' := by
 unfold dN at h
 split at h <;> try exact h.elim
 rename_i id off
 cases hu with
 | ptr b _ _ hl =>
 split at h <;> try exact h.elim
 rename_i es bm
 obtain ⟨ox, km, nM, hK⟩ := h
 obtain ⟨cs, e, h1, h2, h3⟩ := hs.obj id _ b bm hl
 have hv : aR M L v x := by have := hs.env s; rwa [TS, hea] at this
 have iI := h2.length
 have hv1 : v.oneCell' = true := hv.gk km
 have LO : v.cells = #[v] := by cases v <;> first | rfl | simp [Value.oneCell'] at hv1
 obtain ⟨i, hi, Iu⟩ := Option.map_eq_some_iff.1 ht
 have c9 : (sizeOf t).run P w = .ok 1 w := by simp [sizeOf, typeInfo, hi, Iu]
 have yK : off < cs.toList.length := by omega
 have bQ := run_storeCells_at P b off e [v] 0 cs w h1 (by simp at yK ⊢; omega) (by simpa using hv1)
 have fY : cs.toList.take off ++ [v] ++ cs.toList.drop (off + 1) = cs.toList.set off v := by
  rw [List.set_eq_take_append_cons_drop, if_pos yK]; simp
 have bG : (Instr.storeAt t (.pointer (some ⟨b, off, none⟩)) v).run P w = .ok () (w.setRow b (cs.toList.set off v).toArray) := by
  simp only [Instr.storeAt, Instr.sureAddr, storeVar, Sem.run_bind, Sem.run_pure, Result.andThen_ok, c9, ne_eq, LO]
  rw [if_neg (by simp)]
  rw [← fY]
  simpa using bQ
 -- the slot forgets, the cell takes over
 have mV := hs.ow s (v := v) (x := x.ab) hv.ab (AV.bI x)
 have Qa : fg ev s v = ev := by funext t'; simp only [fg]; split; rename_i e0; rw [e0, TS]; rfl
 rw [Qa] at mV
 let O' : Pos → Option Nat := fun q => if q = .c id off then O (.t s) else dX O (.t s) none q
 have P9 : ua O O' := by
  refine ⟨fun q r b hq hr => ?_, fun q b hq => ?_⟩
  ·simp only [O', dX] at hq hr
   split at hq <;> split at hr
   ·simp_all
   ·split at hr
    ·cases hr
    ·rename_i n1 n2; exact absurd (hs.bZ _ _ b hr hq) n2
   ·split at hq
    ·cases hq
    ·rename_i n1 n2; exact absurd (hs.bZ _ _ b hq hr) (by assumption)
   ·split at hq
    ·cases hq
    ·split at hr
     ·cases hr
     ·exact hs.bZ _ _ b hq hr
  ·simp only [O', dX] at hq
   split at hq
   ·exact ⟨_, hq⟩
   ·split at hq
    ·cases hq
    ·exact ⟨_, hq⟩
 obtain ⟨g1, g2⟩ := St.write (h := hs) (cs' := (cs.toList.set off v).toArray) (es' := es.set off x) (ea' := fg ea s x.ab) (O' := O') bm hl h1 (by simpa using h2.set hv off) (by
  have bQ := hs.bB id _ bm
  simp only [aa.a7] at bQ
  rw [a9] at bQ ⊢
  intro y hy
  rcases List.mem_or_eq_of_mem_set hy with h' | rfl
  ·exact bQ y h'
  ·exact AV.cH (A.lm (aN bm)) _ nM) P9 mV.env (fun t' => by simpa [O', dX] using mV.gN t') (fun j => by
  by_cases hj : j = off
  ·subst hj
   have e1 : ((cs.toList.set j v).toArray)[j]? = some v := by rw [List.getElem?_toArray, List.getElem?_set_self yK]
   have e2 : (es.set j x).getD j .any = x := by rw [List.getD_eq_getElem?_getD, List.getElem?_set_self ox]; rfl
   rw [e1, e2]
   have := hs.gN s
   rw [TS, hea] at this
   simpa [O'] using this
  ·have e1 : ((cs.toList.set off v).toArray)[j]? = cs[j]? := by
    simp [List.getElem?_set_ne (fun e => hj e.symm)]
   have e2 : (es.set off x).getD j .any = es.getD j .any := by rw [List.getD_eq_getElem?_getD, List.getElem?_set_ne (fun e => hj e.symm), List.getD_eq_getElem?_getD]
   rw [e1, e2]
   have h0 := hs.gK id j
   have e3 : bK L w id j = (cs[j]?).getD undef := by unfold bK; simp [hl, World.cell?, h1]
   have e4 : bo H id j = es.getD j .any := by unfold bo; simp [bm]
   rw [e3, e4] at h0
   simpa [O', dX, hj] using h0) (fun id' j ep => by simp [O', dX, ep])
 exact ⟨_, _, _, bG, hK, g1, g2⟩
theorem jV (P : Program) (g o : Nat) (t : TypeId) (fr : Nat × Nat) : ∀ (vs : List Value) (i : Nat) (cur : Array Value) (w : World), w.heap[g]? = some (.cells cur t fr) → LH fr cur.size → o + i + vs.length ≤ cur.size → (∀ v ∈ vs, v.oneCell' = true) →
 (storeCells ⟨g, o, none⟩ vs i).run P w = .ok () (w.setRow g (ag cur.toList (o + i) vs).toArray)
 | [], i, cur, w, hg, _, _, _ => by
   simp only [storeCells, ag, List.length_nil, Nat.add_zero, List.nil_append, List.take_append_drop, Array.toArray_toList]
   rw [setRow_self w g cur t fr hg]
   rfl
 | v :: rest, i, cur, w, hg, hf, hl, h1 => by
   have hi : o + i < cur.size := by simp at hl; omega
   have Ym : (⟨g, o, none⟩ : Addr).add i = ⟨g, o + i, none⟩ := Addr.add_lit _ _ _
   have hcell : w.cell? ⟨g, o + i, none⟩ = some cur[o + i] := by simp [World.cell?, hg, hi]
   have Yn : w.frozen? ⟨g, o + i, none⟩ = false := by
    have := hf (o + i) hi
    simp only [World.frozen?, hg]
    cases h : (decide (fr.1 ≤ o + i) && decide (o + i < fr.2)) with
    | false => rfl
    | true => simp at h; exact absurd h this
   have bQ : (store ((⟨g, o, none⟩ : Addr).add i) v).run P w = .ok () (w.setRow g (cur.setIfInBounds (o + i) v)) := by
    rw [Ym, run_store P w _ v _ (h1 v (by simp)), hcell]
    simp [Yn, setCell_eq_setRow w g (o + i) cur t fr v hg]
   have ih := jV P g o t fr rest (i + 1) (cur.setIfInBounds (o + i) v) (w.setRow g (cur.setIfInBounds (o + i) v)) (setRow_heap w g cur _ t _ hg) (by simpa using hf) (by simp at hl ⊢; omega) (fun x hx => h1 x (by simp [hx]))
   simp only [storeCells, Sem.run_bind, bQ, Result.andThen_ok, ih, setRow_setRow]
   congr 3
   apply List.ext_getElem?
   intro j
   rw [eO _ _ _ (by simp at hl ⊢; omega), eO _ _ _ (by simpa using hl)]
   simp only [Array.toList_setIfInBounds, List.length_cons]
   by_cases h2 : j = o + i
   ·subst h2
    rw [if_neg (by omega), if_pos (by omega), List.getElem?_set_self (by simpa using hi)]
    simp
   ·by_cases h3 : o + i < j ∧ j < o + i + (rest.length + 1)
    ·rw [if_pos (by omega), if_pos (by omega), show j - (o + i) = (j - (o + (i + 1))) + 1 by omega]
     simp
    ·rw [if_neg (by omega), if_neg (by omega), List.getElem?_set_ne (by omega)]
theorem fP {t ty e e' : TypeId} {i : TypeInfo} (ht : P.underlying t = some (.slice e)) (hi : P.info? e = some i) (w : World)
 (g o sLen sCap : Nat) (cur : Array Value) (fr : Nat × Nat) (hg : w.heap[g]? = some (.cells cur e' fr)) (C3 : LH fr cur.size)
 (a : Addr) (m c : Nat) (news : List Value) (hl : news.length = m * i.size) (hnews : ∀ j u, news[j]? = some u → w.cell? (a.add j) = some u) (h1 : ∀ u ∈ news, u.oneCell' = true)
 (hroom : sLen + m ≤ sCap) (s9 : o + sLen * i.size + news.length ≤ cur.size) :
 (Builtin.append_ #[t, t] ty #[.slice (some ⟨g, o, none⟩) sLen sCap, .slice (some a) m c]).run P w =
   .ok (.slice (some ⟨g, o, none⟩) (sLen + m) sCap) (w.setRow g (ag cur.toList (o + sLen * i.size) news).toArray) := by
 have hf := run_firstCells_some (P := P) w i.size m a m c news hl hnews
 have bQ := jV P g (o + sLen * i.size) e' fr news 0 cur w hg C3 (by simpa using s9) h1
 simp only [Nat.add_zero] at bQ
 simp [Builtin.append_, run_underlying ht, sizeOf, typeInfo, hi, Builtin.lenOf, hroom, hf, Addr.add_lit, bQ]
theorem dl {t ty e : TypeId} {i : TypeInfo} (ht : P.underlying t = some (.slice e)) (hi : P.info? e = some i) (w : World) (b : Option Addr) (n c : Nat) (OJ : n ≤ c) (b' : Option Addr) (c' : Nat) :
 (Builtin.append_ #[t, t] ty #[.slice b n c, .slice b' 0 c']).run P w = .ok (.slice b n c) w := by
 have hf : (Builtin.firstCells i.size 0 (.slice b' 0 c')).run P w = .ok #[] w := by
  cases b' with
  | none => exact run_firstCells_none w _ _ _ _
  | some a => exact run_firstCells_some w i.size 0 a 0 c' [] (by simp) (by simp)
 cases b with
 | none => simp [Builtin.append_, run_underlying ht, sizeOf, typeInfo, hi, Builtin.lenOf, OJ, hf]
 | some a => simp [Builtin.append_, run_underlying ht, sizeOf, typeInfo, hi, Builtin.lenOf, OJ, hf, storeCells]
def mr (esz : Nat) : AV → Option (List AV)
 | .ah => some []
 | .ap own xs => if own = esz then some xs else none
 | _ => none
def dI : AV → Option (List AV)
 | .ah => some []
 | .ap _ xs => some xs
 | _ => none
def ta (esz : Nat) (ys : List AV) : Prop := ∀ y ∈ ys, y.cells.length = esz ∧ y.cells.all AV.one = true
def Mem.kK (M : Mem) (b off : Nat) (cs : List Value) : Mem := fun b' o => if b' = b ∧ off ≤ o ∧ o < off + cs.length then cs[o - off]? else M b' o
theorem St.inPlace (hs : St A M L w H ev ea O) {p : Pos} {b : Nat} (hp : O p = some b) {cur : Array Value} {e : TypeId} {fr : Nat × Nat} (hg : w.heap[b]? = some (.cells cur e fr)) {off : Nat} {news : List Value}
 (s9 : off + news.length ≤ cur.size) (hnone : ∀ k, k < news.length → M b (off + k) = none)
 {ea' : Nat → AV} (C9 : ∀ t, aR M L (ev t) (ea' t)) (Yo : ∀ t, bb M w (ev t) (ea' t) (dX O p none (.t t))) (Yp : ∀ id j, bb M w (bK L w id j) (bo H id j) (dX O p none (.c id j))) :
 St A (M.kK b off news) L (w.setRow b (ag cur.toList off news).toArray) H ev ea' (dX O p none) ∧ Ext A M w (M.kK b off news) (w.setRow b (ag cur.toList off news).toArray) ∧ (M.kK b off news).row b off news := by
 have xf : b ∉ L := hs.cj p b hp
 have c9 : (w.setRow b (ag cur.toList off news).toArray).heap.size = w.heap.size := by simp [World.setRow]
 have fN : ∀ k, k ≠ b → (w.setRow b (ag cur.toList off news).toArray).heap[k]? = w.heap[k]? := fun k hk => setRow_other w b k _ hk
 have mB := setRow_heap w b cur (ag cur.toList off news).toArray e fr hg
 have fM : M.sub (M.kK b off news) := by
  intro b' o v hv
  unfold Mem.kK
  split
  ·rename_i h
   obtain ⟨rfl, h1, h2⟩ := h
   have := hnone (o - off) (by omega)
   rw [show off + (o - off) = o by omega, hv] at this
   cases this
  ·exact hv
 have TT : ∀ k, k ≠ b → ∀ o, (M.kK b off news) k o = M k o := by
  intro k hk o
  unfold Mem.kK
  rw [if_neg (fun h => hk h.1)]
 have tb : ∀ q k, dX O p none q = some k → k ≠ b := by
  intro q k hq hk
  subst hk
  simp only [dX] at hq
  split at hq
  ·cases hq
  ·rename_i n; exact n (hs.bZ _ _ _ hq hp)
 have hO : ∀ q k, dX O p none q = some k → O q = some k := by
  intro q k hq
  simp only [dX] at hq
  split at hq
  ·cases hq
  ·exact hq
 have Dh : off + news.length ≤ cur.toList.length := by simpa using s9
 refine ⟨{ len := hs.len, nodup := hs.nodup, env := fun t => (C9 t).mono fM (List.prefix_refl _), mem := ?_, obj := ?_, bB := hs.bB, lt := ?_, gN := ?_, gK := ?_, bZ := fun q r k hq hr => hs.bZ q r k (hO q k hq) (hO r k hr), cj := fun q k hq => hs.cj q k (hO q k hq), eV := ?_, La := hs.La, Oa := fun q k hq => hs.Oa q k (hO q k hq), fresh := ?_ }, ?_, ?_⟩
 ·intro b' o v hv
  by_cases hb : b' = b
  ·subst hb
   simp only [World.cell?, mB]
   have e1 : ((ag cur.toList off news).toArray)[o]? = (ag cur.toList off news)[o]? := by simp
   simp only [Option.isSome_none, Bool.false_eq_true, if_false]
   rw [e1, eO _ _ _ Dh]
   unfold Mem.kK at hv
   split at hv
   ·rename_i h; rw [if_pos h.2]; exact hv
   ·rename_i h
    rw [if_neg (fun h' => h ⟨rfl, h'⟩)]
    have := hs.mem _ o v hv
    simpa [World.cell?, hg] using this
  ·rw [TT b' hb o] at hv
   have := hs.mem b' o v hv
   simp only [World.cell?] at this ⊢
   rw [fN b' hb]; exact this
 ·intro id o k ho hk
  have C2 : k ≠ b := by rintro rfl; exact xf (List.mem_of_getElem? hk)
  exact (hs.obj id o k ho hk).mono fM (List.prefix_refl _) (fN k C2) (TT k C2)
 ·intro k hk; rw [c9]; exact hs.lt k hk
 ·intro t
  exact (Yo t).mono fun k hk => ⟨fN k (tb _ k hk), TT k (tb _ k hk)⟩
 ·intro id j
  have e1 : bK L (w.setRow b (ag cur.toList off news).toArray) id j = bK L w id j := by
   unfold bK
   split
   ·rename_i k hk
    have C2 : k ≠ b := by rintro rfl; exact xf (List.mem_of_getElem? hk)
    simp only [World.cell?]
    rw [fN k C2]
   ·rfl
  rw [e1]
  exact (Yp id j).mono fun k hk => ⟨fN k (tb _ k hk), TT k (tb _ k hk)⟩
 ·intro q k hq; rw [c9]; exact hs.eV q k (hO q k hq)
 ·intro k hk; rw [c9] at hk; exact hs.fresh k hk
 ·exact ⟨fM, by rw [c9]; exact Nat.le_refl _, rfl, rfl, rfl, fun k hk hA => ⟨fN k (fun e0 => hA (e0 ▸ hs.Oa p b hp)), TT k (fun e0 => hA (e0 ▸ hs.Oa p b hp))⟩, fun k r hk => ⟨r, (fN k (fun e0 => by rw [e0, hg] at hk; cases hk)).trans hk, rfl⟩⟩
 ·intro j v hv
  have hj := aN hv
  show Mem.kK M b off news b (off + j) = some v
  unfold Mem.kK
  rw [if_pos ⟨rfl, by omega, by omega⟩, show off + j - off = j by omega]
  exact hv
theorem St.newRow (hs : St A M L w H ev ea O) (e : TypeId) {esz need cap : Nat} (h0 : 0 < esz) {rw rest : List Value} {zs : List AV} (hl : rw.length = need * esz) (hc : rw.length + rest.length = cap * esz) (cI : cap < 9223372036854775808) (OJ : need ≤ cap) (hn : 0 < need)
 (hz : zs.length = need) (hx : ∀ y ∈ zs, y.cells.length = esz) (hr : aJ M L rw (flat zs)) (cs : Array Value) (xi : cs.toList = rw ++ rest) :
 ∃ M', aR M' L (.slice (some ⟨w.heap.size, 0, none⟩) need cap) (.ap esz zs) ∧ bb M' { w with heap := w.heap.push (.cells cs e) } (.slice (some ⟨w.heap.size, 0, none⟩) need cap) (.ap esz zs) (some w.heap.size) ∧
  St A M' L { w with heap := w.heap.push (.cells cs e) } H ev ea O ∧ Ext A M w M' { w with heap := w.heap.push (.cells cs e) } := by
 obtain ⟨g1, g2, g3⟩ := hs.pH cs e (0, 0) rw (fun j v hv => by
  have : cs.toList[j]? = some v := by rw [xi, List.getElem?_append_left (aN hv)]; exact hv
  simpa using this)
 refine ⟨_, ?_, ?_, g1, g2⟩
 ·subst hz
  exact .ap _ _ _ _ esz rw zs h0 hx hn OJ cI (hr.mono g2.kG (List.prefix_refl _)) g3
 ·unfold bb
  simp only [Nat.ne_of_gt h0, if_false]
  refine ⟨hx, .inr ⟨_, 0, need, cap, cs, e, (0, 0), rfl, rfl, dC w _, nK _, ?_, ?_⟩⟩
  ·have : cs.size = cap * esz := by rw [← Array.length_toList, xi, List.length_append]; exact hc
   omega
  ·intro k hk _
   simp only [Mem.add, if_true, Nat.zero_add]
   exact List.getElem?_eq_none (by omega)
theorem tA {bs : Option Addr} {n c own : Nat} {xs : List AV} (h : aR M L (.slice bs n c) (.ap own xs)) :
 n = xs.length ∧ ((xs = [] ∧ n = 0) ∨ ∃ b off cs, bs = some ⟨b, off, none⟩ ∧ aJ M L cs (flat xs) ∧ M.row b off cs) := by
 generalize hv : Value.slice bs n c = v at h
 cases h with
 | gh a c _ hc => cases hv; exact ⟨rfl, .inl ⟨rfl, rfl⟩⟩
 | ap b off c _ e cs _ he hx hn hle hc hr hm => cases hv; exact ⟨rfl, .inr ⟨b, off, cs, rfl, hr, hm⟩⟩
def bE (esz bytes : Nat) (s x : AV) (φ : List AV → Prop) : Prop :=
 match mr esz s, dI x with
 | some xs, some ys => (xs.length + ys.length) * bytes ≤ 140737488355328 ∧ ta esz ys ∧ φ (xs ++ ys)
 | _, _ => False
def IX.slot : IX → Option Nat
 | .t n => some n
 | .c _ => none
def ko (ea : Nat → AV) (s : Option Nat) : Nat → AV := match s with | some d => fg ea d (ea d).ab | none => ea
theorem Gf {esz : Nat} {s : AV} {xs : List AV} (hs : mr esz s = some xs) {u : Value} (hu : aR M L u s) : aR M L u (.ap esz xs) ∧ (s = .ah ∧ u = .slice none 0 0 ∨ s = .ap esz xs) := by
 unfold mr at hs
 split at hs
 ·cases hs; cases hu; exact ⟨.gh _ _ _ (by decide), .inl ⟨rfl, rfl⟩⟩
 ·rename_i own ys
  split at hs
  ·rename_i e; cases hs; subst e; exact ⟨hu, .inr rfl⟩
  ·cases hs
 ·cases hs
theorem lA {esz : Nat} {x : AV} {ys : List AV} (hx : dI x = some ys) (jS : ta esz ys) {u : Value} (hu : aR M L u x) :
 (ys = [] ∧ ∃ b c, u = .slice b 0 c) ∨ (0 < ys.length ∧ ∃ b off c news, u = .slice (some ⟨b, off, none⟩) ys.length c ∧ aJ M L news (flat ys) ∧ M.row b off news ∧ news.length = ys.length * esz) := by
 have key : ∀ own, aR M L u (.ap own ys) → (ys = [] ∧ ∃ b c, u = .slice b 0 c) ∨ (0 < ys.length ∧ ∃ b off c news, u = .slice (some ⟨b, off, none⟩) ys.length c ∧ aJ M L news (flat ys) ∧ M.row b off news ∧ news.length = ys.length * esz) := by
  intro own h
  cases h with
  | gh a c _ hc => exact .inl ⟨rfl, _, _, rfl⟩
  | ap b off c _ e cs _ he hx hn hle hc hr hm =>
    refine .inr ⟨hn, b, off, c, cs, rfl, hr, hm, ?_⟩
    rw [hr.length, cD ys esz (fun y hy => (jS y hy).1)]
 unfold dI at hx
 split at hx
 ·cases hx; cases hu; exact .inl ⟨rfl, _, _, rfl⟩
 ·rename_i own zs; cases hx; exact key own hu
 ·cases hx
theorem sv (xs ys : List AV) : flat (xs ++ ys) = flat xs ++ flat ys := by simp [flat]
theorem AR {ys : List AV} {esz : Nat} (h : ta esz ys) : (flat ys).all AV.one = true := by
 rw [List.all_eq_true]
 intro x hx
 simp only [flat, List.mem_flatMap] at hx
 obtain ⟨y, hy, hxy⟩ := hx
 exact List.all_eq_true.1 (h y hy).2 x hxy
theorem AS (hs : St A M L w H ev ea O) {t ty e : TypeId} {i : TypeInfo} {z : Value} {esz bytes : Nat} (ht : P.underlying t = some (.slice e)) (hi : P.info? e = some i) (hz : i.zero = some z) (c9 : i.size = esz) (xj : i.bytes = bytes) (tx : z.cells.size = esz) (h0 : 0 < esz) (ui : 0 < bytes)
 {u v : Value} {s x : AV} {φ : List AV → Prop} (h : bE esz bytes s x φ) (slot : Option Nat) (hu : aR M L u s) (LP : match slot with | some d => ev d = u ∧ ea d = s | none => s = .ah) (hv : aR M L v x) :
 ∃ r w' M' O' ob zs, (Builtin.append_ #[t, t] ty #[u, v]).run P w = .ok r w' ∧ φ zs ∧ aR M' L r (.ap esz zs) ∧ bb M' w' r (.ap esz zs) ob ∧ St A M' L w' H ev (ko ea slot) O' ∧ Ext A M w M' w' ∧
  (∀ q b, ob = some b → O' q ≠ some b) ∧ (∀ b, ob = some b → b ∉ L ∧ b < w'.heap.size ∧ A b) := by
 unfold bE at h
 split at h <;> try exact h.elim
 rename_i xs ys fx pE
 obtain ⟨hbound, jS, hφ⟩ := h
 obtain ⟨yM, hcase⟩ := Gf fx hu
 have hesz0 : esz ≠ 0 := by omega
 -- the slot forgets what it owned
 have hforget : ∃ O1 ob1, St A M L w H ev (ko ea slot) O1 ∧ bb M w u (.ap esz xs) ob1 ∧ (∀ q b, ob1 = some b → O1 q ≠ some b) ∧ (∀ b, ob1 = some b → b ∉ L ∧ b < w.heap.size ∧ A b ∧ ∃ d, slot = some d ∧ O (.t d) = some b ∧ O1 = dX O (.t d) none) := by
  have tc : u = .slice none 0 0 → s = .ah → bb M w u (.ap esz xs) none := by
   rintro rfl rfl
   simp [mr] at fx; subst fx
   simp only [bb, hesz0, if_false]
   exact ⟨by simp, .inl ⟨trivial, none, 0, rfl⟩⟩
  cases slot with
  | none =>
    simp only at LP
    subst LP
    cases hu
    exact ⟨O, none, hs, tc rfl rfl, (by intro q b e; cases e), (by intro b e; cases e)⟩
  | some d =>
    simp only at LP
    have mV := hs.ow d (v := u) (x := (ea d).ab) (by rw [LP.2]; exact hu.ab) (AV.bI _)
    have Qa : fg ev d u = ev := by funext t'; simp only [fg]; split; rename_i e0; rw [e0, LP.1]; rfl
    rw [Qa] at mV
    rcases hcase with ⟨h1, h2⟩ | h1
    ·exact ⟨_, none, mV, tc h2 h1, (by intro q b e; cases e), (by intro b e; cases e)⟩
    ·refine ⟨_, O (.t d), mV, ?_, ?_, ?_⟩
     ·have := hs.gN d
      rwa [LP.1, LP.2, h1] at this
     ·intro q b hb hq
      simp only [dX] at hq
      split at hq
      ·cases hq
      ·rename_i n; exact n (hs.bZ _ _ b hq hb)
     ·intro b hb
      exact ⟨hs.cj _ b hb, hs.eV _ b hb, hs.Oa _ b hb, d, rfl, hb, rfl⟩
 obtain ⟨O1, ob1, OM, LQ, Iv, Gg⟩ := hforget
 have It : ∀ y ∈ xs, y.cells.length = esz := by
  have := LQ
  simp only [bb, hesz0, if_false] at this
  exact this.1
 have hform : ∃ bs n c, u = .slice bs n c ∧ n = xs.length ∧ n ≤ c ∧ c < 9223372036854775808 := by
  cases yM with
  | gh a c _ hc => exact ⟨a, 0, c, rfl, rfl, Nat.zero_le _, hc⟩
  | ap b off c _ e cs _ he hx hn hle hc hr hm => exact ⟨_, _, c, rfl, rfl, hle, hc⟩
 rcases lA pE jS hv with ⟨rfl, b', c', rfl⟩ | ⟨AT, b2, o2, c2, news, rfl, yN, Qb, xk⟩
 ·-- nothing is appended
  obtain ⟨bs, n, c, rfl, hn, OJ, hc⟩ := hform
  refine ⟨_, w, M, O1, ob1, xs ++ [], dl ht hi w bs n c OJ b' c', hφ, by simpa using yM, by simpa using LQ, OM, Ext.refl A M w, Iv, fun b hb => ⟨(Gg b hb).1, (Gg b hb).2.1, (Gg b hb).2.2.1⟩⟩
 ·have hnews : ∀ j u, news[j]? = some u → w.cell? ((⟨b2, o2, none⟩ : Addr).add j) = some u := gV Qb hs.mem
  have km := yN.gk (AR jS)
  have hlen : (xs.length + ys.length) ≤ 140737488355328 := Nat.le_trans (Nat.le_mul_of_pos_right _ ui) hbound
  have iN : ∀ y ∈ xs ++ ys, y.cells.length = esz := by
   intro y hy
   rcases List.mem_append.1 hy with h' | h'
   ·exact It y h'
   ·exact (jS y h').1
  -- a new row
  have grow : ∀ (olds : List Value) (oldCap : Nat) (w' : World), aJ M L olds (flat xs) → olds.length = xs.length * esz → w' = w.drew.alloc (.cells (olds.toArray ++ news.toArray ++ Builtin.zeroCells z.cells (grownCap w (xs.length + ys.length) oldCap e - (xs.length + ys.length))) e) →
   (Builtin.append_ #[t, t] ty #[u, .slice (some ⟨b2, o2, none⟩) ys.length c2]).run P w = .ok (.slice (some ⟨w.heap.size, 0, none⟩) (xs.length + ys.length) (grownCap w (xs.length + ys.length) oldCap e)) w' →
   ∃ r w' M' O' ob zs, (Builtin.append_ #[t, t] ty #[u, .slice (some ⟨b2, o2, none⟩) ys.length c2]).run P w = .ok r w' ∧ φ zs ∧ aR M' L r (.ap esz zs) ∧ bb M' w' r (.ap esz zs) ob ∧ St A M' L w' H ev (ko ea slot) O' ∧ Ext A M w M' w' ∧
    (∀ q b, ob = some b → O' q ≠ some b) ∧ (∀ b, ob = some b → b ∉ L ∧ b < w'.heap.size ∧ A b) := by
   intro olds oldCap w' TU hol Iw bG
   have ji := grownCap_ge w (xs.length + ys.length) oldCap e
   have hle := grownCap_le_maxLen w (xs.length + ys.length) oldCap e (by simp only [maxLen]; omega)
   simp only [maxLen] at hle
   have hd := OM.drew
   obtain ⟨M', k1, k2, k3, k4⟩ := hd.newRow e (need := xs.length + ys.length) (cap := grownCap w (xs.length + ys.length) oldCap e) h0 (rw := olds ++ news) (rest := (Builtin.zeroCells z.cells (grownCap w (xs.length + ys.length) oldCap e - (xs.length + ys.length))).toList) (zs := xs ++ ys)
    (by rw [List.length_append, hol, xk, Nat.add_mul]) (by
      have hzc : (Builtin.zeroCells z.cells (grownCap w (xs.length + ys.length) oldCap e - (xs.length + ys.length))).toList.length = (grownCap w (xs.length + ys.length) oldCap e - (xs.length + ys.length)) * esz := by
       rw [Array.length_toList, size_zeroCells, tx]
      rw [List.length_append, hol, xk, hzc, ← Nat.add_mul, ← Nat.add_mul]
      congr 1; omega) (by omega) ji (by omega) (by simp) iN (by rw [sv]; exact TU.append yN)
    (olds.toArray ++ news.toArray ++ Builtin.zeroCells z.cells (grownCap w (xs.length + ys.length) oldCap e - (xs.length + ys.length))) (by simp)
   have cu : Ext A M w M' { { w with drawn := w.drawn + 1 } with heap := w.heap.push (.cells (olds.toArray ++ news.toArray ++ Builtin.zeroCells z.cells (grownCap w (xs.length + ys.length) oldCap e - (xs.length + ys.length))) e) } := Ext.drew.trans k4
   have XM : w' = { { w with drawn := w.drawn + 1 } with heap := w.heap.push (.cells (olds.toArray ++ news.toArray ++ Builtin.zeroCells z.cells (grownCap w (xs.length + ys.length) oldCap e - (xs.length + ys.length))) e) } := Iw
   refine ⟨_, _, M', O1, some w.heap.size, xs ++ ys, bG, hφ, k1, by rw [XM]; exact k2, by rw [XM]; exact k3, by rw [XM]; exact cu, ?_, ?_⟩
   ·intro q b hb hq
    cases hb
    exact absurd (OM.eV q _ hq) (Nat.lt_irrefl _)
   ·intro b hb
    cases hb
    refine ⟨fun hm => absurd (hs.lt _ hm) (Nat.lt_irrefl _), by rw [XM]; simp, hs.fresh _ (Nat.le_refl _)⟩
  obtain ⟨bs, n, c, rfl, hn, OJ, hc⟩ := hform
  subst hn
  by_cases hroom : xs.length + ys.length ≤ c
  ·-- in place
   have Dh := LQ
   simp only [bb, hesz0, if_false] at Dh
   rcases Dh.2 with ⟨_, a, n, hn⟩ | ⟨b, off, n, c', cs, e', fr, e1, e2, e3, e4, e5, e6⟩
   ·cases hn; omega
   ·cases e2
    obtain ⟨f1, f2, f3, d, rfl, f5, rfl⟩ := Gg b e1
    have Yq : news.length = ys.length * i.size := by rw [c9]; exact xk
    have wE : (xs.length + ys.length) * esz ≤ c * esz := Nat.mul_le_mul_right _ hroom
    rw [Nat.add_mul] at wE
    have s9 : off + xs.length * esz + news.length ≤ cs.size := by rw [xk]; omega
    have bG := fP (P := P) (ty := ty) ht hi w b off xs.length c cs fr e3 e4 ⟨b2, o2, none⟩ ys.length c2 news Yq hnews km hroom (by rw [c9]; exact s9)
    rw [c9] at bG
    have hnone : ∀ k, k < news.length → M b (off + xs.length * esz + k) = none := by
     intro k hk
     rw [Nat.add_assoc]
     exact e6 _ (by omega) (by rw [xk] at hk; omega)
    have Qc : ∀ t', aR M L (ev t') (ko ea (some d) t') := OM.env
    obtain ⟨g1, g2, g3⟩ := hs.inPlace (p := .t d) f5 e3 s9 hnone (ea' := ko ea (some d)) Qc OM.gN (fun id j => by simpa [dX] using hs.gK id j)
    refine ⟨_, _, _, _, some b, xs ++ ys, bG, hφ, ?_, ?_, g1, g2, ?_, ?_⟩
    ·-- what it reads as
     have mB : aJ (M.kK b (off + xs.length * esz) news) L news (flat ys) := yN.mono g2.kG (List.prefix_refl _)
     have hold : ∃ olds, aJ M L olds (flat xs) ∧ M.row b off olds ∧ olds.length = xs.length * esz := by
      rcases (tA yM).2 with ⟨h', _⟩ | ⟨b1, off1, cs1, TV, hr, hm⟩
      ·subst h'; exact ⟨[], .nil, by intro j v hv; simp at hv, by simp⟩
      ·cases TV; exact ⟨cs1, hr, hm, by rw [hr.length, cD xs esz It]⟩
     obtain ⟨olds, o1, o2', o3⟩ := hold
     have := aR.ap (M := M.kK b (off + xs.length * esz) news) (L := L) b off c esz esz (olds ++ news) (xs ++ ys) h0 iN (by simp; omega) (by simpa using hroom) hc (by rw [sv]; exact (o1.mono g2.kG (List.prefix_refl _)).append mB) (by
      intro j v hv
      rw [List.getElem?_append] at hv
      split at hv
      ·exact g2.kG _ _ _ (o2' j v hv)
      ·rename_i hj
       have := g3 _ v hv
       rwa [show off + xs.length * esz + (j - olds.length) = off + j by omega] at this)
     simpa using this
    ·simp only [bb, hesz0, if_false]
     refine ⟨iN, .inr ⟨b, off, xs.length + ys.length, c, (ag cs.toList (off + xs.length * esz) news).toArray, e', fr, rfl, by simp, setRow_heap w b cs _ e' fr e3, ?_, ?_, ?_⟩⟩
     ·have : (ag cs.toList (off + xs.length * esz) news).toArray.size = cs.size := by
       rw [List.size_toArray, mS _ _ _ (by simpa using s9)]; simp
      rw [this]; exact e4
     ·rw [List.size_toArray, mS _ _ _ (by simpa using s9)]; simpa using e5
     ·intro k hk P5
      unfold Mem.kK
      rw [Nat.add_mul] at hk
      rw [if_neg (by rw [xk]; omega)]
      exact e6 k (by omega) P5
    ·intro q b' hb hq
     cases hb
     exact Iv q b e1 hq
    ·intro b' hb
     cases hb
     refine ⟨f1, ?_, f3⟩
     simpa [World.setRow] using f2
  ·-- a new one
   have hbound' : (xs.length + ys.length) * i.bytes ≤ 140737488355328 := by rw [xj]; exact hbound
   cases bs with
   | none =>
     have Ix : xs.length = 0 := by
      rcases (tA yM).2 with ⟨_, h'⟩ | ⟨b1, off1, cs1, TV, _⟩
      ·exact h'
      ·cases TV
     have LN : c = 0 := by
      have Dh := LQ
      simp only [bb, hesz0, if_false] at Dh
      rcases Dh.2 with ⟨_, a, n, hn⟩ | ⟨b, off, n, c', cs, e', fr, e1, e2, _⟩
      ·cases hn; exact Ix
      ·cases e2
     have hxnil : xs = [] := List.eq_nil_of_length_eq_zero Ix
     subst hxnil
     subst LN
     have hr := run_append_nil (P := P) w t ty e i z ht hi hz ⟨b2, o2, none⟩ ys.length c2 news (by rw [c9]; exact xk) hnews AT (by omega) (by simp at hbound'; omega)
     refine grow [] 0 _ (by exact .nil) (by simp) rfl ?_
     simpa using hr
   | some a =>
     have hold : ∃ olds, aJ M L olds (flat xs) ∧ (∀ j v, olds[j]? = some v → w.cell? (a.add j) = some v) ∧ olds.length = xs.length * esz := by
      rcases (tA yM).2 with ⟨h', _⟩ | ⟨b1, off1, cs1, TV, hr, hm⟩
      ·subst h'; exact ⟨[], .nil, by intro j v hv; simp at hv, by simp⟩
      ·cases TV; exact ⟨cs1, hr, gV hm hs.mem, by rw [hr.length, cD xs esz It]⟩
     obtain ⟨olds, o1, o2', o3⟩ := hold
     have hr := run_append_grow (P := P) w t ty e i z ht hi hz a xs.length c olds (by rw [c9]; exact o3) o2' ⟨b2, o2, none⟩ ys.length c2 news (by rw [c9]; exact xk) hnews (by omega) (by omega) (growslice_fits (by omega) hbound')
     exact grow olds c _ o1 o3 rfl hr
end
end Go.aK
end
section
namespace Go.aK
open Go
def bO : AV → AV
 | .agg ys => .agg (ys.map AV.drop)
 | z => z
section
variable {P : Program} {w : World} {M : Mem} {L : List Nat} {H : List aa} {A : Perm} {ev : Nat → Value} {ea : Nat → AV} {O : Pos → Option Nat}
theorem jc (z : AV) : (bO z).cells.length = z.cells.length := by cases z <;> simp [bO, AV.cells]
theorem aR.bO {v : Value} {z : AV} (h : aR M L v z) : aR M L v (bO z) := by
 cases z <;> first | exact h | skip
 cases h with
 | agg cs _ hr => exact .agg cs _ hr.map_drop
theorem oU {x : AV} (h : x.val = true) : (Go.aK.bO x).val = true := by
 cases x <;> simp_all [Go.aK.bO, AV.val]
def fQ (esz bytes : Nat) (z n : AV) (H : List aa) (K : AV → List aa → Prop) : Prop :=
 match n with
 | .int .i64 n => 0 ≤ n ∧ n.toNat * bytes ≤ 140737488355328 ∧ aj (H.length + 1) (flat (List.replicate n.toNat (bO z))) = true ∧
    K (.bf H.length 0 n.toNat n.toNat) (H ++ [.cells (flat (List.replicate n.toNat (bO z)))])
 | _ => False
theorem run_mk {t e : TypeId} {i : TypeInfo} {z : Value} {esz bytes : Nat} (ht : P.underlying t = some (.slice e)) (hi : P.info? e = some i) (hz : i.zero = some z) (c9 : i.size = esz) (xj : i.bytes = bytes) (tx : z.cells.size = esz) (h0 : 0 < esz) (ui : 0 < bytes)
 (l c : Int) (EW : 0 ≤ l) (yK : l ≤ c) (hc : c.toNat * bytes ≤ 140737488355328) (w : World) :
 ∃ cs : Array Value, (Instr.makeSlice t (.int .i64 l) (.int .i64 c)).run P w = .ok (.slice (some ⟨w.heap.size, 0, none⟩) l.toNat c.toNat) { w with heap := w.heap.push (.cells cs e) } ∧ cs = (Array.range (c.toNat * esz)).map (z.cells[· % z.cells.size]!) := by
 have iI : c.toNat ≤ 140737488355328 := Nat.le_trans (Nat.le_mul_of_pos_right _ ui) hc
 have LN : 0 ≤ c := by omega
 have w1 : IntKind.i64.wrap l = l := by
  have : IntKind.i64.bits = 64 := rfl
  have : IntKind.i64.signed = true := rfl
  simp only [IntKind.wrap, *]
  have : l % 2 ^ 64 = l := Int.emod_eq_of_lt EW (by omega)
  rw [this]
  rw [if_neg (by simp; omega)]
 have w2 : IntKind.i64.wrap c = c := by
  have : IntKind.i64.bits = 64 := rfl
  have : IntKind.i64.signed = true := rfl
  simp only [IntKind.wrap, *]
  have : c % 2 ^ 64 = c := Int.emod_eq_of_lt LN (by omega)
  rw [this]
  rw [if_neg (by simp; omega)]
 have Yr : (c.toNat : Int) = c := Int.toNat_of_nonneg LN
 have LR : ¬ ((bytes : Int) * c > 2 ^ 48) := by
  have : (bytes : Int) * c = ((c.toNat * bytes : Nat) : Int) := by rw [Int.natCast_mul, Yr, Int.mul_comm]
  rw [this]; omega
 have wF : ¬ c < 0 := by omega
 have hneg2 : ¬ l < 0 := by omega
 have hgt : ¬ l > c := by omega
 refine ⟨_, ?_, rfl⟩
 simp only [Instr.makeSlice, Sem.run_bind, run_underlying ht, Result.andThen_ok, asInt, asIntOf, Sem.run_pure, typeInfo, run_program, hi, xj, w1, w2, wF, hneg2, hgt, LR, decide_false, Bool.or_self, Bool.false_eq_true, if_false, run_askRoom, sizeOf, c9]
 by_cases hn : c.toNat * esz = 0
 ·simp [hn, newRow]
  congr 2
  apply Array.ext'
  simp
 ·simp [hn, zeroValue, typeInfo, hi, hz, newRow]
theorem Di (hs : St A M L w H ev ea O) {t e : TypeId} {i : TypeInfo} {zv : Value} {esz bytes : Nat} (ht : P.underlying t = some (.slice e)) (hi : P.info? e = some i) (hz : i.zero = some zv) (c9 : i.size = esz) (xj : i.bytes = bytes) (h0 : 0 < esz) (ui : 0 < bytes)
 {z : AV} (Lk : ofValue zv = some z) (so : z.val = true) (iN : z.cells.length = esz) (Iy : ∀ y ∈ z.cells, ∀ own xs, y = .ap own xs → own = 0) {u : Value} {n : AV} {K : AV → List aa → Prop} (h : fQ esz bytes z n H K) (hu : aR M L u n) :
 ∃ r x L' w' H', (Instr.makeSlice t u u).run P w = .ok r w' ∧ aR M L' r x ∧ (∀ own xs, x = .ap own xs → own = 0) ∧ K x H' ∧ St A M L' w' H' ev ea O ∧ Ext A M w M w' ∧ L <+: L' := by
 unfold fQ at h
 split at h <;> try exact h.elim
 rename_i n
 obtain ⟨LS, TW, nM, hK⟩ := h
 cases hu
 have AP := (cC (M := M) (L := L) Lk).bO.fO (oU so)
 have tx : zv.cells.size = esz := by have := AP.length; rw [jc, iN] at this; simpa using this
 obtain ⟨cs, bG, rfl⟩ := run_mk ht hi hz c9 xj tx h0 ui n n LS (Int.le_refl _) TW w
 have hcells := jt (M := M) (L := L) zv.cells esz n.toNat tx h0 (bO z) AP
 have Yr : n.toNat ≤ 140737488355328 := Nat.le_trans (Nat.le_mul_of_pos_right _ ui) TW
 obtain ⟨g1, g2⟩ := hs.qV (.cells ((Array.range (n.toNat * esz)).map (zv.cells[· % zv.cells.size]!)) e) (.cells (flat (List.replicate n.toNat (bO z)))) (fun w' hw hM => ⟨_, e, hw, hcells.mono (Mem.bN M) ⟨_, rfl⟩, hM⟩) (by simpa [aa.a7] using nM) (fun j => by
  simp only [mN]
  refine bb.free ?_
  intro own xs hh
  rw [List.getD_eq_getElem?_getD] at hh
  cases hx : (flat (List.replicate n.toNat (bO z)))[j]? with
  | none => simp [hx] at hh
  | some y =>
    simp [hx] at hh
    have hy := List.mem_of_getElem? hx
    simp only [flat, List.mem_flatMap] at hy
    obtain ⟨q, hq, LU⟩ := hy
    rw [List.eq_of_mem_replicate hq] at LU
    subst hh
    cases z <;> simp only [bO, AV.cells] at LU Iy
    case agg ys =>
     obtain ⟨y', _, Ys⟩ := List.mem_map.1 LU
     exact AV.jh y' own xs Ys
    all_goals exact Iy _ LU own xs rfl)
 refine ⟨_, .bf H.length 0 n.toNat n.toNat, _, _, _, bG, .bf w.heap.size 0 _ _ H.length ?_ (by omega), (by intro _ _ e; cases e), hK, g1, g2, ⟨_, rfl⟩⟩
 rw [List.getElem?_append_right (by rw [hs.len]; exact Nat.le_refl _), hs.len]; simp
def iO (esz bytes : Nat) (n : AV) (φ : AV → Prop) : Prop :=
 match n with
 | .int .i64 n => 0 ≤ n ∧ n.toNat * bytes ≤ 140737488355328 ∧ φ (.ap esz [])
 | _ => False
theorem Dj (hs : St A M L w H ev ea O) {t e : TypeId} {i : TypeInfo} {zv : Value} {esz bytes : Nat} (ht : P.underlying t = some (.slice e)) (hi : P.info? e = some i) (hz : i.zero = some zv) (c9 : i.size = esz) (xj : i.bytes = bytes) (h0 : 0 < esz) (ui : 0 < bytes)
 (tx : zv.cells.size = esz) {u : Value} {n : AV} {φ : AV → Prop} (h : iO esz bytes n φ) (hu : aR M L u n) :
 ∃ r w' M' b, (Instr.makeSlice t (.int .i64 0) u).run P w = .ok r w' ∧ aR M' L r (.ap esz []) ∧ φ (.ap esz []) ∧ bb M' w' r (.ap esz []) (some b) ∧ St A M' L w' H ev ea O ∧ Ext A M w M' w' ∧
  (∀ q, O q ≠ some b) ∧ b ∉ L ∧ b < w'.heap.size ∧ A b := by
 unfold iO at h
 split at h <;> try exact h.elim
 rename_i n
 obtain ⟨LS, TW, hφ⟩ := h
 cases hu
 obtain ⟨cs, bG, xi⟩ := run_mk ht hi hz c9 xj tx h0 ui 0 n (Int.le_refl _) LS TW w
 have Yr : n.toNat ≤ 140737488355328 := Nat.le_trans (Nat.le_mul_of_pos_right _ ui) TW
 obtain ⟨g1, g2, g3⟩ := hs.pH cs e (0, 0) [] (fun j v hv => by simp at hv)
 refine ⟨_, _, _, w.heap.size, bG, .gh _ _ _ (by omega), hφ, ?_, g1, g2, fun q hq => absurd (hs.eV q _ hq) (Nat.lt_irrefl _), fun hm => absurd (hs.lt _ hm) (Nat.lt_irrefl _), by simp, hs.fresh _ (Nat.le_refl _)⟩
 unfold bb
 simp only [Nat.ne_of_gt h0, if_false]
 refine ⟨by simp, .inr ⟨_, 0, 0, n.toNat, cs, e, (0, 0), rfl, by simp, dC w _, nK _, ?_, ?_⟩⟩
 ·rw [xi]; simp
 ·intro k _ _
  simp [Mem.add]
def dO (x : Option AV) (d : Nat) (φ : Nat → Prop) : Prop :=
 match x with
 | none => φ d
 | some (.int _ i) => 0 ≤ i ∧ φ i.toNat
 | _ => False
def ft (esz : Nat) (x : AV) (lo hi mx : Option AV) (φ : AV → Prop) : Prop :=
 match dI x with
 | some xs => dO hi xs.length fun h => dO lo 0 fun l => l ≤ h ∧ h ≤ xs.length ∧
    match mx with
    | none => φ (.ap 0 ((xs.take h).drop l))
    | some m => hi.isSome = true ∧ dO (some m) 0 fun m => m = h ∧ (∀ y ∈ xs, y.cells.length = esz) ∧ φ (.ap esz ((xs.take h).drop l))
 | none => False
theorem xl : ∀ (xs : List AV) (e n : Nat), (∀ y ∈ xs, y.cells.length = e) → flat (xs.take n) = (flat xs).take (n * e)
 | [], e, n, _ => by simp [flat]
 | y :: ys, e, 0, _ => by simp [flat]
 | y :: ys, e, n + 1, hx => by
   have hy := hx y (by simp)
   have ih := xl ys e n (fun z hz => hx z (by simp [hz]))
   simp only [flat] at ih
   simp only [List.take_succ_cons, flat, List.flatMap_cons, ih]
   rw [List.take_append, List.take_of_length_le (l := y.cells) (by rw [hy, Nat.add_mul]; omega), hy, show (n + 1) * e - e = n * e by rw [Nat.add_mul]; omega]
theorem xm : ∀ (xs : List AV) (e n : Nat), (∀ y ∈ xs, y.cells.length = e) → flat (xs.drop n) = (flat xs).drop (n * e)
 | [], e, n, _ => by simp [flat]
 | y :: ys, e, 0, _ => by simp [flat]
 | y :: ys, e, n + 1, hx => by
   have hy := hx y (by simp)
   have ih := xm ys e n (fun z hz => hx z (by simp [hz]))
   simp only [flat] at ih
   simp only [List.drop_succ_cons, flat, List.flatMap_cons]
   rw [ih, List.drop_append, List.drop_eq_nil_of_le (as := y.cells) (by rw [hy, Nat.add_mul]; omega), hy, show (n + 1) * e - e = n * e by rw [Nat.add_mul]; omega]
   rfl
def iP (M : Mem) (L : List Nat) (x : Option AV) (v : Option Value) : Prop := match x, v with | none, none => True | some x, some v => aR M L v x | _, _ => False
theorem dE {x : Option AV} {v : Option Value} (hx : iP M L x v) {d : Nat} {φ : Nat → Prop} (h : dO x d φ) :
 ∃ k, φ k ∧ ((x = none ∧ v = none ∧ k = d) ∨ ∃ kd i, v = some (.int kd i) ∧ 0 ≤ i ∧ i.toNat = k) := by
 unfold dO at h
 split at h
 ·cases v with
  | none => exact ⟨d, h, .inl ⟨rfl, rfl, rfl⟩⟩
  | some v => exact hx.elim
 ·rename_i kd i
  cases v with
  | none => exact hx.elim
  | some v =>
    have wo : aR M L v (.int kd i) := hx
    cases wo
    exact ⟨_, h.2, .inr ⟨_, _, rfl, h.1, rfl⟩⟩
 ·exact h.elim
theorem run_sliceBound (w : World) (kd : IntKind) (i : Int) (y : Nat) (code : BoundsCode) (h0 : 0 ≤ i) (h1 : i.toNat ≤ y) : (Instr.sliceBound (.int kd i) y code).run P w = .ok i.toNat w := by
 have : 0 ≤ i ∧ i ≤ (y : Int) := ⟨h0, by omega⟩
 simp [Instr.sliceBound, asIntOf, this]
theorem uj (hs : St A M L w H ev ea O) {t e : TypeId} {esz : Nat} (ht : P.underlying t = some (.slice e)) (he : dD P e = some esz) (h0 : 0 < esz) {u : Value} {x : AV} {lo hi mx : Option AV} {vlo vhi vmx : Option Value} {φ : AV → Prop}
 (h : ft esz x lo hi mx φ) (hu : aR M L u x) (P8 : ∀ own xs, x = .ap own xs → ∀ z ∈ xs, z.cells.length = esz)
 (h1 : iP M L lo vlo) (h2 : iP M L hi vhi) (h3 : iP M L mx vmx) :
 ∃ a n c own ys, (Instr.sliceAt t u vlo vhi vmx).run P w = .ok (.slice a n c) w ∧ aR M L (.slice a n c) (.ap own ys) ∧ φ (.ap own ys) ∧ (own ≠ 0 → n = c ∧ ∀ y ∈ ys, y.cells.length = own) := by
 unfold ft at h
 split at h <;> try exact h.elim
 rename_i xs fx
 have c9 : (sizeOf e).run P w = .ok esz w := by
  obtain ⟨i, hi, LM⟩ := Option.map_eq_some_iff.1 he
  simp [sizeOf, typeInfo, hi, LM]
 obtain ⟨hh, h, Iz⟩ := dE h2 h
 obtain ⟨ll, h, uh⟩ := dE h1 h
 obtain ⟨hle, XN, h⟩ := h
 have yM : ∃ own, aR M L u (.ap own xs) := by
  unfold dI at fx
  split at fx
  ·cases fx; cases hu; exact ⟨0, .gh _ _ _ (by decide)⟩
  ·cases fx; exact ⟨_, hu⟩
  ·cases fx
 obtain ⟨own0, yM⟩ := yM
 have It : ∀ z ∈ xs, z.cells.length = esz := by
  unfold dI at fx
  split at fx
  ·cases fx; simp
  ·cases fx; exact P8 _ _ rfl
  ·cases fx
 have hform : ∃ bs c, u = .slice bs xs.length c ∧ xs.length ≤ c ∧ c < 9223372036854775808 := by
  cases yM with
  | gh a c _ hc => exact ⟨a, c, rfl, Nat.zero_le _, hc⟩
  | ap b off c _ e cs _ he hx hn hle hc hr hm => exact ⟨_, c, rfl, hle, hc⟩
 obtain ⟨bs, c, rfl, Yt, hc⟩ := hform
 have XO : ∀ (own m : Nat), hh ≤ m → m ≤ c → aR M L (.slice (if m = ll then bs else bs.map (·.add (ll * esz))) (hh - ll) (m - ll)) (.ap own ((xs.take hh).drop ll)) := by
  intro own m hm1 hm2
  have hlen : ((xs.take hh).drop ll).length = hh - ll := by simp; omega
  by_cases hz : hh - ll = 0
  ·have : (xs.take hh).drop ll = [] := List.eq_nil_of_length_eq_zero (by omega)
   rw [this, hz]
   exact .gh _ _ _ (by omega)
  ·rcases (tA yM).2 with ⟨h', _⟩ | ⟨b, off, cs, rfl, hr, hm⟩
   ·subst h'; simp at hlen; omega
   ·rw [if_neg (by omega)]
    simp only [Option.map_some, Addr.add_lit]
    have wo : ∀ z ∈ (xs.take hh).drop ll, z.cells.length = esz := fun z hz => It z (List.mem_of_mem_take (List.mem_of_mem_drop hz))
    have := aR.ap (M := M) (L := L) b (off + ll * esz) (m - ll) own esz ((cs.take (hh * esz)).drop (ll * esz)) ((xs.take hh).drop ll) h0 wo (by omega) (by omega) (by omega) (by
     rw [xm _ esz ll (fun z hz => It z (List.mem_of_mem_take hz)), xl _ esz hh It]
     exact (hr.take _).drop _) (by
     intro j v hv
     rw [List.getElem?_drop, List.getElem?_take] at hv
     split at hv
     ·have := hm _ v hv
      rwa [← Nat.add_assoc] at this
     ·cases hv)
    rwa [hlen] at this
 cases mx with
 | none =>
   cases vmx with
   | some v => exact h3.elim
   | none =>
     refine ⟨_, _, _, 0, _, ?_, XO 0 c (by omega) (Nat.le_refl _), h, fun h => absurd rfl h⟩
     have hb : (Instr.sliceBounds true xs.length c vlo vhi none).run P w = .ok (ll, hh, c) w := by
      rcases Iz with ⟨_, rfl, rfl⟩ | ⟨kd, i, rfl, tB, rfl⟩ <;> rcases uh with ⟨_, rfl, rfl⟩ | ⟨kd', i', rfl, td, rfl⟩
      ·rfl
      ·have oV := run_sliceBound (P := P) w kd' i' xs.length .sliceB td hle
       simp [Instr.sliceBounds, oV]
      ·have oV := run_sliceBound (P := P) w kd i c .sliceAcap tB (by omega)
       simp [Instr.sliceBounds, oV]
      ·have oV := run_sliceBound (P := P) w kd i c .sliceAcap tB (by omega)
       have pF := run_sliceBound (P := P) w kd' i' i.toNat .sliceB td hle
       simp [Instr.sliceBounds, oV, pF]
     simp only [Instr.sliceAt, Instr.slice, Sem.run_bind, run_underlying ht, Result.andThen_ok, hb, c9, Sem.run_pure]
 | some m =>
   cases vmx with
   | none => exact h3.elim
   | some vm =>
     obtain ⟨hsome, h⟩ := h
     obtain ⟨mm, ⟨rfl, _, hφ⟩, Tp⟩ := dE (v := some vm) h3 h
     rcases Tp with ⟨hh', _⟩ | ⟨kdm, im, hvm, Yu, Iu⟩
     ·cases hh'
     cases hvm
     refine ⟨_, _, _, esz, _, ?_, XO esz mm (Nat.le_refl _) (by omega), hφ, fun _ => ⟨rfl, fun y hy => It y (List.mem_of_mem_take (List.mem_of_mem_drop hy))⟩⟩
     have hb : (Instr.sliceBounds true xs.length c vlo vhi (some (.int kdm im))).run P w = .ok (ll, mm, mm) w := by
      have LL := run_sliceBound (P := P) w kdm im c .slice3Acap Yu (by omega)
      rw [Iu] at LL
      rcases Iz with ⟨hn, rfl, hd⟩ | ⟨kd, i, rfl, tB, XP⟩
      ·rw [hn] at hsome; cases hsome
      ·have oV := run_sliceBound (P := P) w kd i mm .slice3B tB (by omega)
       rw [XP] at oV
       rcases uh with ⟨_, rfl, rfl⟩ | ⟨kd', i', rfl, td, rfl⟩
       ·simp [Instr.sliceBounds, LL, oV]
       ·have pF := run_sliceBound (P := P) w kd' i' mm .slice3C td hle
        simp [Instr.sliceBounds, LL, oV, pF]
     simp only [Instr.sliceAt, Instr.slice, Sem.run_bind, run_underlying ht, Result.andThen_ok, hb, c9, Sem.run_pure]
def b7 (x : AV) (lo hi : Option AV) (φ : AV → Prop) : Prop :=
 match x with
 | .str s => dO hi s.size fun h => dO lo 0 fun l => l ≤ h ∧ h ≤ s.size ∧ φ (.str (s.extract l h))
 | _ => False
theorem wG {t : TypeId} (ht : P.underlying t = some .string) {u : Value} {x : AV} {lo hi : Option AV} {vlo vhi : Option Value} {φ : AV → Prop}
 (h : b7 x lo hi φ) (hu : aR M L u x) (h1 : iP M L lo vlo) (h2 : iP M L hi vhi) :
 ∃ r z, (Instr.sliceAt t u vlo vhi none).run P w = .ok r w ∧ aR M L r z ∧ φ z ∧ ∀ own xs, z = .ap own xs → own = 0 := by
 unfold b7 at h
 split at h <;> try exact h.elim
 rename_i s
 cases hu
 obtain ⟨hh, h, Iz⟩ := dE h2 h
 obtain ⟨ll, h, uh⟩ := dE h1 h
 obtain ⟨hle, XN, hφ⟩ := h
 refine ⟨_, _, ?_, .str _, hφ, by intro _ _ e; cases e⟩
 have hb : (Instr.sliceBounds false s.size s.size vlo vhi none).run P w = .ok (ll, hh, s.size) w := by
  rcases Iz with ⟨_, rfl, rfl⟩ | ⟨kd, i, rfl, tB, rfl⟩ <;> rcases uh with ⟨_, rfl, rfl⟩ | ⟨kd', i', rfl, td, rfl⟩
  ·rfl
  ·have oV := run_sliceBound (P := P) w kd' i' s.size .sliceB td hle
   simp [Instr.sliceBounds, oV]
  ·have oV := run_sliceBound (P := P) w kd i s.size .sliceAlen tB (by omega)
   simp [Instr.sliceBounds, oV]
  ·have oV := run_sliceBound (P := P) w kd i s.size .sliceAlen tB (by omega)
   have pF := run_sliceBound (P := P) w kd' i' i.toNat .sliceB td hle
   simp [Instr.sliceBounds, oV, pF]
 simp only [Instr.sliceAt, Instr.slice, Sem.run_bind, run_underlying ht, Result.andThen_ok, Option.isSome_none, Bool.false_eq_true, if_false, Sem.run_pure, hb]
def bg (l : List UInt8) : List AV := l.map fun b => .int .u8 b.toNat
def fA (x : AV) (φ : AV → Prop) : Prop := match x with | .str s => φ (.str s) | _ => False
theorem yO {src dst : TypeId} {d : TypeDesc} (hs : P.underlying src = some d) (hd : P.underlying dst = some .string) {u : Value} {x : AV} {φ : AV → Prop} (h : fA x φ) (hu : aR M L u x) :
 ∃ r z, (convert src dst u).run P w = .ok r w ∧ aR M L r z ∧ φ z ∧ ∀ own xs, z = .ap own xs → own = 0 := by
 unfold fA at h
 split at h <;> try exact h.elim
 cases hu
 refine ⟨_, _, ?_, .str _, h, by intro _ _ e; cases e⟩
 simp [convert, run_underlying hs, run_underlying hd]
def jv (x : AV) (φ : AV → Prop) : Prop :=
 match dI x with
 | some ys => ∃ l, ys = bg l ∧ φ (.str ⟨l.toArray⟩)
 | none => False
theorem uk (l : List UInt8) : flat (bg l) = bg l := by
 induction l with
 | nil => rfl
 | cons b l ih => simp only [bg, List.map_cons, flat, List.flatMap_cons, AV.cells] at ih ⊢; rw [ih]; rfl
theorem aJ.bytes : ∀ {cs : List Value} {l : List UInt8}, aJ M L cs (bg l) → cs = l.map fun b => .int .u8 b.toNat
 | [], [], _ => rfl
 | [], b :: l, h => by have := h.length; simp [bg] at this
 | c :: cs, [], h => by have := h.length; simp [bg] at this
 | c :: cs, b :: l, h => by
   simp only [bg, List.map_cons] at h
   cases h with
   | cons _ _ _ _ h t => cases h; simp [aJ.bytes (l := l) t]
theorem Dk (hs : St A M L w H ev ea O) {src dst e : TypeId} (h1 : P.underlying src = some (.slice e)) (h2 : P.underlying e = some (.int .u8)) (hd : P.underlying dst = some .string) {u : Value} {x : AV} {φ : AV → Prop} (h : jv x φ) (hu : aR M L u x) :
 ∃ r z, (convert src dst u).run P w = .ok r w ∧ aR M L r z ∧ φ z ∧ ∀ own xs, z = .ap own xs → own = 0 := by
 unfold jv at h
 split at h <;> try exact h.elim
 rename_i ys pE
 obtain ⟨l, rfl, hφ⟩ := h
 have yM : ∃ own, aR M L u (.ap own (bg l)) := by
  unfold dI at pE
  split at pE
  ·cases l with
   | nil => cases hu; exact ⟨0, .gh _ _ _ (by decide)⟩
   | cons b l => simp [bg] at pE
  ·cases pE; exact ⟨_, hu⟩
  ·cases pE
 obtain ⟨own, yM⟩ := yM
 refine ⟨_, _, ?_, .str _, hφ, by intro _ _ e; cases e⟩
 cases l with
 | nil =>
   have : ∃ a c, u = .slice a 0 c := by
    cases yM with
    | gh a c _ hc => exact ⟨a, c, rfl⟩
    | ap b off c _ e cs _ he hx hn => simp [bg] at hn
   obtain ⟨a, c, rfl⟩ := this
   cases a with
   | none => rw [run_convert_bytes_nil w src e h1 h2 0 c dst hd]; rfl
   | some a =>
     simp [convert, run_underlying h1, run_underlying hd, run_underlying h2, Conv.bytesToString, loadCells, loadCellsFrom]
     rfl
 | cons b0 l =>
   have : ∃ b off c cs, u = .slice (some ⟨b, off, none⟩) (bg (b0 :: l)).length c ∧ aJ M L cs (bg (b0 :: l)) ∧ M.row b off cs := by
    generalize hl : bg (b0 :: l) = q at yM
    cases yM with
    | gh => simp [bg] at hl
    | ap b off c _ e cs _ he hx hn hle hc hr hm =>
      subst hl
      rw [uk] at hr
      exact ⟨b, off, c, cs, rfl, hr, hm⟩
   obtain ⟨b, off, c, cs, rfl, hr, hm⟩ := this
   have xi := hr.bytes
   have bG := run_convert_bytes_arg (P := P) w src e h1 h2 b off (bg (b0 :: l)).length c ((b0 :: l).map fun b => (b.toNat : Int)) (by simp [bg]) (fun i hi => by
    have mD : i < (b0 :: l).length := by simpa [bg] using hi
    have := hs.mem _ _ _ (hm i (.int .u8 ((b0 :: l)[i]).toNat) (by rw [xi, List.getElem?_map, List.getElem?_eq_getElem mD]; rfl))
    rw [this, List.getD_eq_getElem?_getD, List.getElem?_map, List.getElem?_eq_getElem mD]
    rfl) dst hd
   rw [bG]
   congr 2
   simp only [strOfNums, List.map_map]
   congr 1
   congr 1
   conv => rhs; rw [← List.map_id (b0 :: l)]
   apply List.map_congr_left
   intro b _
   simp
def eR (own : Nat) (x : AV) (φ : AV → Prop) : Prop :=
 match x with
 | .str s => s.size < 9223372036854775808 ∧ φ (.ap own (bg s.data.toList))
 | _ => False
end
end Go.aK
end
section
namespace Go.aK
open Go
section
variable {P : Program} {w : World} {M : Mem} {L : List Nat} {H : List aa} {A : Perm} {ev : Nat → Value} {ea : Nat → AV} {O : Pos → Option Nat}
theorem AU (w : World) (cs : Array Value) (e : TypeId) :
 ({ w with heap := w.heap.push (.cells cs e) } : World).freeze { block := w.heap.size, off := cs.size } 1 = { w with heap := w.heap.push (.cells cs e (cs.size, cs.size + 1)) } := by
 simp only [World.freeze, Nat.one_ne_zero, if_false]
 congr 1
 apply Array.ext
 ·simp
 ·intro i h1 h2
  rw [Array.getElem_modify]
  by_cases hi : w.heap.size = i
  ·subst hi; simp
  ·simp only [hi, if_false]
   have : i < w.heap.size := by simp at h2; omega
   rw [Array.getElem_push_lt this, Array.getElem_push_lt this]
theorem AW (l : List UInt8) : aJ M L (l.map fun b => Value.int .u8 b.toNat) (bg l) := by
 induction l with
 | nil => exact .nil
 | cons b l ih => exact .cons _ _ _ _ (.int _ _) ih
theorem yP (hs : St A M L w H ev ea O) {src dst e : TypeId} (h1 : P.underlying src = some .string) (hd : P.underlying dst = some (.slice e)) (h2 : P.underlying e = some (.int .u8)) {u : Value} {x : AV} {φ : AV → Prop} (h : eR 1 x φ) (hu : aR M L u x) :
 ∃ r z w' M' ob, (convert src dst u).run P w = .ok r w' ∧ aR M' L r z ∧ φ z ∧ bb M' w' r z ob ∧ St A M' L w' H ev ea O ∧ Ext A M w M' w' ∧
  (∀ q b, ob = some b → O q ≠ some b) ∧ (∀ b, ob = some b → b ∉ L ∧ b < w'.heap.size ∧ A b) := by
 unfold eR at h
 split at h <;> try exact h.elim
 rename_i s
 obtain ⟨c9, hφ⟩ := h
 cases hu
 let cap := (Question.appendCap s.size 0 e).cut (w.tape w.drawn (.appendCap s.size 0 e))
 have ON : s.size ≤ cap := by simp [cap, Question.cut]
 have oz : cap < 9223372036854775808 := by
  have := Nat.mod_lt (w.tape w.drawn (.appendCap s.size 0 e)) (show 0 < 2 ^ 63 - s.size by omega)
  simp only [cap, Question.cut]; omega
 let elems : Array Value := s.data.map fun b => .int .u8 b.toNat
 let cs : Array Value := elems ++ Array.replicate (cap - s.size) (.int .u8 0)
 have xi : cs.size = cap := by
  simp only [cs, elems, Array.size_append, Array.size_map, Array.size_replicate]
  have : s.data.size = s.size := rfl
  omega
 have Tq : elems.toList = s.data.toList.map fun b => Value.int .u8 b.toNat := by simp [elems]
 let W : World := { { w with drawn := w.drawn + 1 } with heap := w.heap.push (.cells cs e (cs.size, cs.size + 1)) }
 have bG : (convert src dst (.string s)).run P w = .ok (.slice (some ⟨w.heap.size, 0, none⟩) s.size cap) W := by
  have C3 := AU { w with drawn := w.drawn + 1 } cs e
  have P6 : ({ { w with drawn := w.drawn + 1 } with heap := w.heap.push (.cells cs e) } : World).shape? w.heap.size = some (e, cs.size) := by
   simp [World.shape?]
  simp only [convert, Sem.run_bind, run_underlying h1, run_underlying hd, run_underlying h2, Result.andThen_ok, Conv.stringToBytes, run_choose, Question.forced, Bool.false_eq_true, if_false]
  have yN : ∀ W : World, (newRow e cs).run P W = .ok ⟨W.heap.size, 0, none⟩ { W with heap := W.heap.push (.cells cs e) } := fun _ => rfl
  refine Eq.trans (congrArg (fun r => Result.andThen r _) (yN _)) ?_
  simp only [Result.andThen_ok, Sem.run_pure, markStringish, run_shape, Sem.run_bind]
  rw [P6]
  simp only [run_freeze, Result.andThen_ok]
  rw [C3]
 obtain ⟨g1, g2, g3⟩ := hs.drew.pH cs e (cs.size, cs.size + 1) elems.toList (fun j v hv => by
  have : cs.toList[j]? = some v := by
   simp only [cs, Array.toList_append]
   rw [List.getElem?_append_left (aN hv)]; exact hv
  simpa using this)
 have fq : aJ (M.add w.heap.size elems.toList) L elems.toList (bg s.data.toList) := by rw [Tq]; exact AW _
 have hlen : (bg s.data.toList).length = s.size := by simp [bg]
 have hx : ∀ y ∈ bg s.data.toList, y.cells.length = 1 := by
  intro y hy
  simp only [bg, List.mem_map] at hy
  obtain ⟨b, _, rfl⟩ := hy
  rfl
 refine ⟨_, _, W, _, some w.heap.size, bG, ?_, hφ, ?_, g1, Ext.drew.trans g2, ?_, ?_⟩
 ·by_cases h0 : s.size = 0
  ·have : bg s.data.toList = [] := List.eq_nil_of_length_eq_zero (by omega)
   rw [this, h0]
   exact .gh _ _ _ oz
  ·have := aR.ap (M := M.add w.heap.size elems.toList) (L := L) w.heap.size 0 cap 1 1 elems.toList (bg s.data.toList) (by omega) hx (by omega) (by omega) oz (by rw [uk]; exact fq) g3
   rwa [hlen] at this
 ·unfold bb
  simp only [Nat.one_ne_zero, if_false]
  refine ⟨hx, .inr ⟨_, 0, s.size, cap, cs, e, (cs.size, cs.size + 1), rfl, rfl, dC _ _, ?_, by omega, ?_⟩⟩
  ·intro j hj h; simp at h; omega
  ·intro k hk _
   simp only [Mem.add, if_true, Nat.zero_add]
   refine List.getElem?_eq_none ?_
   have : elems.toList.length = s.size := by rw [Tq]; simp
   omega
 ·intro q b hb hq
  cases hb
  exact absurd (hs.eV q _ hq) (Nat.lt_irrefl _)
 ·intro b hb
  cases hb
  exact ⟨fun hm => absurd (hs.lt _ hm) (Nat.lt_irrefl _), by simp [W], hs.fresh _ (Nat.le_refl _)⟩
def cR (kd : Nat) (x y : AV) : Option Bool :=
 match kd, x, y with
 | 0, .int k a, .int k' b => if k = k' then some (decide (a = b)) else none
 | 1, .str a, .str b => some (decide (a = b))
 | 2, .agg [.int k a, .int l b], .agg [.int k' a', .int l' b'] => if k = k' ∧ l = l' then some (decide (a = a' ∧ b = b')) else none
 | _, _, _ => none
def kq (kd : Nat) (d : TypeDesc) : Prop := match kd, d with | 0, .int _ => True | 1, .string => True | _, _ => False
def Dl (P : Program) (kd : Nat) (d : TypeDesc) : Prop := kd = 2 ∧ ∃ e q, d = .array 2 e ∧ P.underlying e = some (.int q) ∧ (P.info? e).map (·.size) = some 1
theorem yQ (a b : ByteArray) : (a == b) = decide (a = b) := by
 rcases a with ⟨a⟩
 rcases b with ⟨b⟩
 show (a == b) = _
 by_cases h : a = b <;> simp [h]
def nN (P : Program) (t : TypeId) : Option Nat :=
 match P.underlying t with
 | some (.int _) => some 0
 | some .string => some 1
 | some (.array 2 e) => match P.underlying e, (P.info? e).map (·.size) with
   | some (.int _), some 1 => some 2
   | _, _ => none
 | _ => none
def dP (kd : Nat) (k : AV) : List (AV × AV) → Nat → Option (Option (Nat × AV))
 | [], _ => some none
 | (a, v) :: r, i => match cR kd k a with
   | some true => some (some (i, v))
   | some false => dP kd k r (i + 1)
   | none => none
def ch (kd : Nat) (zero m k : AV) (ok : Bool) (H : List aa) (φ : AV → Prop) : Prop :=
 match m with
 | .iJ => cR kd k k = some true ∧ φ (if ok then .tuple [aQ zero, .bool false] else aQ zero)
 | .map id => match H[id]? with
   | some (.map es) => match dP kd k es 0 with
     | some (some (_, v)) => φ (if ok then .tuple [v.drop, .bool true] else v.drop)
     | some none => cR kd k k = some true ∧ φ (if ok then .tuple [aQ zero, .bool false] else aQ zero)
     | none => False
   | _ => False
 | _ => False
def fc (kd : Nat) (m k x : AV) (H : List aa) (K : List aa → Prop) : Prop :=
 match m with
 | .map id => match H[id]? with
   | some (.map es) => k.a7 (id + 1) = true ∧ x.a7 (id + 1) = true ∧ x.val = true ∧ match dP kd k es 0 with
     | some (some (i, _)) => K (H.set id (.map (es.set i (k, aQ x))))
     | some none => cR kd k k = some true ∧ K (H.set id (.map (es ++ [(k, aQ x)])))
     | none => False
   | _ => False
 | _ => False
theorem ul {kd : Nat} {d : TypeDesc} (hd : kq kd d) {k y : AV} {b : Bool} (h : cR kd k y = some b) {u v : Value} (hu : aR M L u k) (hv : aR M L v y) :
 Instr.sameNow d u v = some b ∧ (b = true → v = u) := by
 unfold cR at h
 split at h
 ·rename_i k a k' b'
  cases hu; cases hv
  split at h
  ·rename_i e; subst e
   cases h
   cases d <;> simp only [kq] at hd
   refine ⟨by simp [Instr.sameNow, pJ], ?_⟩
   intro h; simp at h; rw [h]
  ·cases h
 ·rename_i a b'
  cases hu; cases hv
  cases h
  cases d <;> simp only [kq] at hd
  refine ⟨by simp only [Instr.sameNow, yQ], ?_⟩
  intro h; simp at h; rw [h]
 ·cases d <;> simp only [kq] at hd
 ·cases h
theorem xn {kd : Nat} {d : TypeDesc} (hd : kq kd d) {k : AV} {u : Value} (hu : aR M L u k) :
 ∀ (es : List (AV × AV)) (ents : List MapEntry) (i : Nat) (r : Option (Nat × AV)), aJ M L (ents.map (·.key)) (es.map (·.1)) → aJ M L (ents.map (·.val)) (es.map (·.2)) → dP kd k es i = some r →
  match r with
  | none => Instr.findNow d u ents i = some none
  | some (j, x) => i ≤ j ∧ ∃ v, Instr.findNow d u ents i = some (some (j, v)) ∧ aR M L v x ∧ ∃ en, ents[j - i]? = some en ∧ en.key = u ∧ en.val = v ∧ j - i < es.length
 | [], ents, i, r, h1, h2, h => by
   cases ents with
   | nil => simp [dP] at h; subst h; rfl
   | cons a b => have := h1.length; simp at this
 | (a, x) :: es, [], i, r, h1, h2, h => by have := h1.length; simp at this
 | (a, x) :: es, en :: ents, i, r, h1, h2, h => by
   simp only [List.map_cons] at h1 h2
   cases h1 with
   | cons _ _ _ _ hk Dm =>
   cases h2 with
   | cons _ _ _ _ hv wD =>
   unfold dP at h
   split at h
   ·rename_i he
    cases h
    obtain ⟨e1, e2⟩ := ul hd he hu hk
    exact ⟨Nat.le_refl _, en.val, by simp [Instr.findNow, e1], hv, en, by simp, e2 rfl, rfl, by simp⟩
   ·rename_i he
    obtain ⟨e1, _⟩ := ul hd he hu hk
    have ih := xn hd hu es ents (i + 1) r Dm wD h
    cases r with
    | none => simp only at ih ⊢; simp [Instr.findNow, e1, ih]
    | some jx =>
      obtain ⟨j, y⟩ := jx
      simp only at ih ⊢
      obtain ⟨hij, v, f1, f2, en', f3, f4, f5, f6⟩ := ih
      refine ⟨by omega, v, by simp [Instr.findNow, e1, f1], f2, en', ?_, f4, f5, by simp; omega⟩
      rw [show j - i = (j - (i + 1)) + 1 by omega]
      simpa using f3
   ·cases h
theorem pL {t : TypeId} {kd : Nat} (h : nN P t = some kd) : ∃ d, P.underlying t = some d ∧ (kq kd d ∨ Dl P kd d) := by
 unfold nN at h
 split at h
 ·rename_i k hu; cases h; exact ⟨_, hu, .inl trivial⟩
 ·rename_i hu; cases h; exact ⟨_, hu, .inl trivial⟩
 ·rename_i e hu
  split at h <;> cases h
  rename_i q h1 h2
  exact ⟨_, hu, .inr ⟨rfl, e, q, rfl, h1, h2⟩⟩
 ·cases h
theorem pM {e : TypeId} {q : IntKind} (h2 : P.underlying e = some (.int q)) {cs : Array Value} {off : Nat} {v : Value} (hv : cs[off]? = some v) (w : World) : (part e cs off).run P w = .ok v w := by
 simp [part, isAgg, run_underlying h2, hv]
theorem Gh {e : TypeId} {q : IntKind} (h2 : P.underlying e = some (.int q)) (d : Nat) (k : IntKind) (a a' : Int) (w : World) : (Op.equalIn (d + 1) e (.int k a) (.int k a')).run P w = .ok (decide (a = a')) w := by
 rw [Op.equalIn]
 simp [run_underlying h2, pJ]
theorem xo {kt e : TypeId} {q : IntKind} (h1 : P.underlying kt = some (.array 2 e)) (h2 : P.underlying e = some (.int q)) (h3 : (P.info? e).map (·.size) = some 1) (d : Nat) (k l : IntKind) (a b a' b' : Int) (w : World) :
 (Op.equalIn (d + 1 + 1) kt (.agg #[.int k a, .int l b]) (.agg #[.int k a', .int l b'])).run P w = .ok (decide (a = a' ∧ b = b')) w := by
 obtain ⟨i, hi, hs⟩ := Option.map_eq_some_iff.1 h3
 have hz : (sizeOf e).run P w = .ok 1 w := by simp [sizeOf, typeInfo, hi, hs]
 have p0 : ∀ x y : Value, (part e #[x, y] 0).run P w = .ok x w := fun x y => pM h2 (by simp) w
 have p1 : ∀ x y : Value, (part e #[x, y] 1).run P w = .ok y w := fun x y => pM h2 (by simp) w
 rw [Op.equalIn]
 simp only [Sem.run_bind, run_underlying h1, Result.andThen_ok, hz]
 by_cases ha : a = a' <;> by_cases hb : b = b' <;>
 simp [Std.Legacy.Range.forIn_eq_forIn_range', List.range', p0, p1, Gh h2, ha, hb]
theorem aJ.two {vs : List Value} {x y : AV} (h : aJ M L vs [x, y]) : ∃ u v, vs = [u, v] ∧ aR M L u x ∧ aR M L v y := by
 cases h with
 | cons u x vs xs h1 h2 => obtain ⟨v, rfl, h3⟩ := h2.ER; exact ⟨u, v, rfl, h1, h3⟩
theorem aR.pair {u : Value} {k l : IntKind} {a b : Int} (h : aR M L u (.agg [.int k a, .int l b])) : u = .agg #[.int k a, .int l b] := by
 cases h with
 | agg cs xs hr =>
   obtain ⟨x, y, rfl, h1, h2⟩ := hr.two
   cases h1; cases h2
   rfl
theorem oW {k y : AV} {b : Bool} (h : cR 2 k y = some b) : ∃ p q i j i' j', k = .agg [.int p i, .int q j] ∧ y = .agg [.int p i', .int q j'] ∧ b = decide (i = i' ∧ j = j') := by
 unfold cR at h
 split at h
 ·have : (2 : Nat) = 0 := by assumption
  omega
 ·have : (2 : Nat) = 1 := by assumption
  omega
 ·split at h <;> cases h
  rename_i e
  obtain ⟨rfl, rfl⟩ := e
  exact ⟨_, _, _, _, _, _, rfl, rfl, rfl⟩
 ·cases h
def found (P : Program) (kt : TypeId) (u : Value) (ents : List MapEntry) (M : Mem) (L : List Nat) (n : Nat) (r : Option (Nat × AV)) : Prop :=
 match r with
 | none => ∀ w, (Instr.findKey kt u ents).run P w = .ok none w
 | some (j, x) => ∃ v, (∀ w, (Instr.findKey kt u ents).run P w = .ok (some (j, v)) w) ∧ aR M L v x ∧ ∃ en, ents[j]? = some en ∧ en.key = u ∧ en.val = v ∧ j < n
theorem um {kt e : TypeId} {q : IntKind} (h1 : P.underlying kt = some (.array 2 e)) (h2 : P.underlying e = some (.int q)) (h3 : (P.info? e).map (·.size) = some 1) {k : AV} {u : Value} (hu : aR M L u k) :
 ∀ (es : List (AV × AV)) (ents : List MapEntry) (i : Nat) (r : Option (Nat × AV)), aJ M L (ents.map (·.key)) (es.map (·.1)) → aJ M L (ents.map (·.val)) (es.map (·.2)) → dP 2 k es i = some r →
  match r with
  | none => ∀ w, (Instr.findAsking kt u ents i).run P w = .ok none w
  | some (j, x) => i ≤ j ∧ ∃ v, (∀ w, (Instr.findAsking kt u ents i).run P w = .ok (some (j, v)) w) ∧ aR M L v x ∧ ∃ en, ents[j - i]? = some en ∧ en.key = u ∧ en.val = v ∧ j - i < es.length
 | [], ents, i, r, k1, k2, h => by
   cases ents with
   | nil => simp [dP] at h; subst h; exact fun w => rfl
   | cons a b => have := k1.length; simp at this
 | (a, x) :: es, [], i, r, k1, k2, h => by have := k1.length; simp at this
 | (a, x) :: es, en :: ents, i, r, k1, k2, h => by
   simp only [List.map_cons] at k1 k2
   cases k1 with
   | cons _ _ _ _ hk Dm =>
   cases k2 with
   | cons _ _ _ _ hv wD =>
   unfold dP at h
   split at h
   ·rename_i he
    cases h
    obtain ⟨p, q', m, n, m', n', rfl, rfl, hb⟩ := oW he
    have hd := of_decide_eq_true hb.symm
    have e1 := hu.pair
    have e2 := hk.pair
    refine ⟨Nat.le_refl _, en.val, fun w => ?_, hv, en, by simp, ?_, rfl, by simp⟩
    ·have := xo (P := P) h1 h2 h3 9998 p q' m n m' n' w
     simp only [Instr.findAsking, e1, e2, Sem.run_bind, Op.equal, Op.maxDepth]
     rw [this]
     simp [hd]
    ·rw [e1, e2, hd.1, hd.2]
   ·rename_i he
    obtain ⟨p, q', m, n, m', n', rfl, rfl, hb⟩ := oW he
    have hd := of_decide_eq_false hb.symm
    have e1 := hu.pair
    have e2 := hk.pair
    have jR : ∀ w, (Instr.findAsking kt u (en :: ents) i).run P w = (Instr.findAsking kt u ents (i + 1)).run P w := fun w => by
     have := xo (P := P) h1 h2 h3 9998 p q' m n m' n' w
     rw [Instr.findAsking, Sem.run_bind, e1, e2, Op.equal, Op.maxDepth, this]
     simp only [Result.andThen_ok, hd, decide_false]
     rfl
    have ih := um h1 h2 h3 hu es ents (i + 1) r Dm wD h
    cases r with
    | none => exact fun w => (jR w).trans (ih w)
    | some jx =>
      obtain ⟨j, y⟩ := jx
      simp only at ih ⊢
      obtain ⟨hij, v, f1, f2, en', f3, f4, f5, f6⟩ := ih
      refine ⟨by omega, v, fun w => (jR w).trans (f1 w), f2, en', ?_, f4, f5, by simp; omega⟩
      rw [show j - i = (j - (i + 1)) + 1 by omega]
      simpa using f3
   ·cases h
theorem jW {kt : TypeId} {kd : Nat} {d : TypeDesc} (Ip : P.underlying kt = some d) (hd : kq kd d ∨ Dl P kd d) {k : AV} {u : Value} (hu : aR M L u k) {es : List (AV × AV)} {ents : List MapEntry} {r : Option (Nat × AV)}
 (h1 : aJ M L (ents.map (·.key)) (es.map (·.1))) (h2 : aJ M L (ents.map (·.val)) (es.map (·.2))) (h : dP kd k es 0 = some r) : found P kt u ents M L es.length r := by
 rcases hd with hd | ⟨rfl, e, q, rfl, k1, k2⟩
 ·have := xn hd hu es ents 0 r h1 h2 h
  cases r with
  | none => intro w; simp only at this; simp [Instr.findKey, run_underlying Ip, this]
  | some jx =>
    obtain ⟨j, x⟩ := jx
    simp only [Nat.sub_zero] at this
    obtain ⟨_, v, f1, f2, f3⟩ := this
    exact ⟨v, fun w => by simp [Instr.findKey, run_underlying Ip, f1], f2, f3⟩
 ·have := um Ip k1 k2 hu es ents 0 r h1 h2 h
  have TX : ∀ en (l : List MapEntry), Instr.findNow (.array 2 e) u (en :: l) 0 = none := fun en l => rfl
  cases ents with
  | nil =>
    have yR : es = [] := by have := h1.length; simpa using this.symm
    subst yR
    simp [dP] at h; subst h
    intro w
    simp [Instr.findKey, run_underlying Ip, Instr.findNow]
  | cons en l =>
    cases r with
    | none => intro w; simp only at this; simp [Instr.findKey, run_underlying Ip, TX, this]
    | some jx =>
      obtain ⟨j, x⟩ := jx
      simp only [Nat.sub_zero] at this
      obtain ⟨_, v, f1, f2, f3⟩ := this
      exact ⟨v, fun w => by simp [Instr.findKey, run_underlying Ip, TX, f1], f2, f3⟩
theorem run_checkKey_plain {t : TypeId} {d : TypeDesc} {kd : Nat} (ht : P.underlying t = some d) (hd : kq kd d) (w : World) (ou : Bool) (n : Nat) (v : Value) :
 (Instr.checkKey ou (n + 1) t v).run P w = .ok () w := by
 have : d = .string ∨ ∃ k, d = .int k := by
  unfold kq at hd
  split at hd
  ·exact .inr ⟨_, rfl⟩
  ·exact .inl rfl
  ·exact hd.elim
 rcases this with rfl | ⟨k, rfl⟩ <;> simp [Instr.checkKey, run_underlying ht]
theorem run_checkKey {t : TypeId} {d : TypeDesc} {kd : Nat} (ht : P.underlying t = some d) (hd : kq kd d ∨ Dl P kd d) (w : World) (ou : Bool) (n : Nat) {v : Value} {k y : AV} {b : Bool} (hv : aR M L v k) (hk : cR kd k y = some b) :
 (Instr.checkKey ou (n + 1 + 1) t v).run P w = .ok () w := by
 rcases hd with hd | ⟨rfl, e, q, rfl, k1, k2⟩
 ·exact run_checkKey_plain ht hd w ou _ v
 ·obtain ⟨p, q', m, n', m', n2, rfl, _⟩ := oW hk
  have e1 := hv.pair
  obtain ⟨i, hi, hs⟩ := Option.map_eq_some_iff.1 k2
  have hz : (sizeOf e).run P w = .ok 1 w := by simp [sizeOf, typeInfo, hi, hs]
  have p0 : ∀ x y : Value, (part e #[x, y] 0).run P w = .ok x w := fun x y => pM k1 (by simp) w
  have p1 : ∀ x y : Value, (part e #[x, y] 1).run P w = .ok y w := fun x y => pM k1 (by simp) w
  have c : ∀ v, (Instr.checkKey ou (n + 1) e v).run P w = .ok () w := fun v => run_checkKey_plain (kd := 0) k1 trivial w ou n v
  rw [Instr.checkKey, e1]
  simp only [Sem.run_bind, run_underlying ht, Result.andThen_ok]
  simp [Std.Legacy.Range.forIn_eq_forIn_range', List.range', p0, p1, c, hz]
theorem yS {kd : Nat} {k : AV} (hk : ∃ b, cR kd k k = some b) {u : Value} (hu : aR M L u k) (n : Nat) : Instr.sameBits (n + 1) u u = true := by
 obtain ⟨b, hk⟩ := hk
 unfold cR at hk
 split at hk
 ·cases hu; simp [Instr.sameBits]
 ·cases hu; simp [Instr.sameBits, yQ]
 ·rw [hu.pair]; simp [Instr.sameBits]
 ·cases hk
theorem oE {kd : Nat} {k y : AV} {b : Bool} (h : cR kd k y = some b) : ∃ b, cR kd k k = some b := by
 unfold cR at h
 split at h
 ·exact ⟨true, by simp [cR]⟩
 ·exact ⟨true, by simp [cR]⟩
 ·exact ⟨true, by simp [cR]⟩
 ·cases h
theorem ra {kd : Nat} {k : AV} : ∀ (es : List (AV × AV)) (i j : Nat) (x : AV), dP kd k es i = some (some (j, x)) → ∃ b, cR kd k k = some b
 | [], i, j, x, h => by simp [dP] at h
 | (a, v) :: es, i, j, x, h => by
   unfold dP at h
   split at h
   ·rename_i he; exact oE he
   ·rename_i he; exact oE he
   ·cases h
theorem AX (hs : St A M L w H ev ea O) {t kt et : TypeId} {kd : Nat} (ht : P.underlying t = some (.map kt et)) (hk : nN P kt = some kd) {zero : AV} (hz : fz P et = some zero) {u v : Value} {m k : AV} {ok : Bool} {φ : AV → Prop}
 (h : ch kd zero m k ok H φ) (hu : aR M L u m) (hv : aR M L v k) :
 ∃ r z, (Instr.lookup t u v ok).run P w = .ok r w ∧ aR M L r z ∧ φ z ∧ ∀ own xs, z = .ap own xs → own = 0 := by
 obtain ⟨d, Iv, Gg⟩ := pL hk
 have hzero : ∃ zv, (zeroValue et).run P w = .ok zv w ∧ aR M L zv (aQ zero) := by
  unfold fz at hz
  split at hz
  ·rename_i i hi
   split at hz
   ·rename_i zv so
    exact ⟨zv, by simp [zeroValue, typeInfo, hi, so], (cC hz).aQ⟩
   ·cases hz
  ·cases hz
 obtain ⟨zv, AP, hzrep⟩ := hzero
 have Gi : (∃ b, cR kd k k = some b) → ∀ ou, (Instr.checkKey ou 10000 kt v).run P w = .ok () w := fun ⟨b, hb⟩ ou => run_checkKey (n := 9998) Iv Gg w ou hv hb
 have free : ∀ z own xs, (if ok then AV.tuple [aQ z, .bool false] else aQ z) = .ap own xs → own = 0 := by
  intro z own xs e
  cases ok
  ·simp at e; exact Dc z own xs e
  ·simp at e
 unfold ch at h
 split at h
 ·obtain ⟨Lj, hφ⟩ := h
  have LV := Gi ⟨_, Lj⟩
  cases hu
  refine ⟨if ok then .tuple #[zv, .bool false] else zv, _, ?_, ?_, hφ, free zero⟩
  ·have : (Instr.findKey kt v (#[] : Array MapEntry).toList).run P w = .ok none w := by simp [Instr.findKey, run_underlying Iv, Instr.findNow]
   simp only [Instr.lookup, Sem.run_bind, run_underlying ht, Result.andThen_ok, Sem.run_pure, LV, this, AP]
  ·cases ok
   ·simpa using hzrep
   ·simpa using aR.tuple [zv, .bool false] _ (.cons _ _ _ _ hzrep (.cons _ _ _ _ (.bool _) .nil))
 ·rename_i id
  cases hu with
  | map b _ hl =>
  split at h <;> try exact h.elim
  rename_i es bm
  obtain ⟨ents, ck, h1, h2, h3⟩ := hs.obj id _ b bm hl
  have jo : (getObj b).run P w = .ok (.map ents ck) w := by simp [getObj, Sem.run, h1]
  split at h
  ·rename_i j x hf
   obtain ⟨y, f1, f2, _⟩ := jW Iv Gg hv (ents := ents.toList) (by simpa using h2) (by simpa using h3) hf
   have LV := Gi (ra _ _ _ _ hf)
   refine ⟨if ok then .tuple #[y, .bool true] else y, _, ?_, ?_, h, ?_⟩
   ·simp only [Instr.lookup, Sem.run_bind, run_underlying ht, Result.andThen_ok, Sem.run_pure, jo, LV, f1 w]
   ·cases ok
    ·simpa using f2.drop
    ·simpa using aR.tuple [y, .bool true] _ (.cons _ _ _ _ f2.drop (.cons _ _ _ _ (.bool _) .nil))
   ·intro own xs e
    cases ok
    ·simp at e; exact AV.jh x own xs e
    ·simp at e
  ·rename_i hf
   obtain ⟨Lj, hφ⟩ := h
   have LV := Gi ⟨_, Lj⟩
   have f1 : ∀ w, (Instr.findKey kt v ents.toList).run P w = .ok none w := jW Iv Gg hv (ents := ents.toList) (by simpa using h2) (by simpa using h3) hf
   refine ⟨if ok then .tuple #[zv, .bool false] else zv, _, ?_, ?_, hφ, free zero⟩
   ·simp only [Instr.lookup, Sem.run_bind, run_underlying ht, Result.andThen_ok, Sem.run_pure, jo, LV, f1 w, AP]
   ·cases ok
    ·simpa using hzrep
    ·simpa using aR.tuple [zv, .bool false] _ (.cons _ _ _ _ hzrep (.cons _ _ _ _ (.bool _) .nil))
  ·exact h.elim
 ·exact h.elim
theorem Dn (hs : St A M L w H ev ea O) (t : TypeId) :
 ∃ r L' w', (Instr.makeMap t none).run P w = .ok r w' ∧ aR M L' r (.map H.length) ∧ St A M L' w' (H ++ [.map []]) ev ea O ∧ Ext A M w M w' ∧ L <+: L' := by
 obtain ⟨h1, h2⟩ := hs.qV (.map #[] 0) (.map []) (fun w' hw hM => ⟨#[], 0, hw, .nil, .nil⟩) rfl (fun j => rfl)
 refine ⟨_, _, _, rfl, .map _ _ ?_, h1, h2, ⟨_, rfl⟩⟩
 rw [List.getElem?_append_right (by rw [hs.len]; exact Nat.le_refl _), hs.len]; simp
theorem AY (hs : St A M L w H ev ea O) {t kt et : TypeId} {kd : Nat} (ht : P.underlying t = some (.map kt et)) (hk : nN P kt = some kd) {u v y : Value} {m k x : AV} {K : List aa → Prop}
 (h : fc kd m k x H K) (hu : aR M L u m) (hv : aR M L v k) (hy : aR M L y x) :
 ∃ w' H', (Instr.mapUpdate t u v y).run P w = .ok () w' ∧ K H' ∧ St A M L w' H' ev ea O ∧ Ext A M w M w' := by
 obtain ⟨d, Iv, Gg⟩ := pL hk
 have Gi : (∃ b, cR kd k k = some b) → (Instr.checkKey false 10000 kt v).run P w = .ok () w := fun ⟨b, hb⟩ => run_checkKey (n := 9998) Iv Gg w false hv hb
 unfold fc at h
 split at h <;> try exact h.elim
 rename_i id
 cases hu with
 | map b _ hl =>
 split at h <;> try exact h.elim
 rename_i es bm
 obtain ⟨oV, pF, kJ, h⟩ := h
 obtain ⟨ents, ck, h1, h2, h3⟩ := hs.obj id _ b bm hl
 have hlen : ents.size = es.length := by have := h2.length; simpa using this
 have bQ := hs.bB id _ bm
 replace oV := AV.cH (A.lm (aN bm)) _ oV
 replace pF := AV.cH (A.lm (aN bm)) _ pF
 simp only [aa.a7, Bool.and_eq_true] at bQ
 have jo : (getObj b).run P w = .ok (.map ents ck) w := by simp [getObj, Sem.run, h1]
 have fY : ∀ o, (setObj b o).run P w = .ok () { w with heap := w.heap.setIfInBounds b o } := by intro o; simp [setObj, Sem.run, h1]
 have hcb : (aQ x).a7 (A.jg H.length id) = true := by
  have hdrop : ∀ z : AV, z.a7 (A.jg H.length id) = true → z.drop.a7 (A.jg H.length id) = true := by
   intro z hz; cases z <;> simp_all [AV.drop, AV.a7, aj]
  cases x <;> simp only [bh.aQ] <;> first | exact hdrop _ pF | skip
  rename_i xs
  simp only [AV.a7, a9, List.mem_map] at pF ⊢
  rintro z ⟨q, hq, rfl⟩
  exact hdrop q (pF q hq)
 split at h
 ·rename_i j z hf
  obtain ⟨v0, f1, f2, en, f3, f4, f5, f6⟩ := jW Iv Gg hv (ents := ents.toList) (by simpa using h2) (by simpa using h3) hf
  have LV := Gi (ra _ _ _ _ hf)
  have hj : j < ents.size := by omega
  have hen : ents[j]? = some en := by simpa using f3
  have Yv : ((ents[j]?).map (·.key)).getD v = v := by simp [hen, f4]
  have hstay : (Instr.keyThatStays v v).run P w = .ok v w := by simp [Instr.keyThatStays, yS (ra es 0 j z hf) hv 9999]
  have bG : (Instr.mapUpdate t (.map (some b)) v y).run P w = .ok () { w with heap := w.heap.setIfInBounds b (.map (ents.modify j fun e => { e with key := v, val := y }) ck) } := by
   simp only [Instr.mapUpdate, Sem.run_bind, run_underlying ht, Result.andThen_ok, jo, LV]
   simp only [f1 w, Result.andThen_ok, Sem.run_bind, Yv, hstay, fY]
  have TY : (ents.modify j fun e => { e with key := v, val := y }).toList.map (·.key) = (ents.toList.map (·.key)).set j v ∧ (ents.modify j fun e => { e with key := v, val := y }).toList.map (·.val) = (ents.toList.map (·.val)).set j y := by
   constructor
   ·apply List.ext_getElem?
    intro q
    simp only [List.getElem?_map, Array.getElem?_toList, Array.getElem?_modify, List.getElem?_set]
    by_cases hq : j = q
    ·subst hq; simp [hj]
    ·simp [hq]
   ·apply List.ext_getElem?
    intro q
    simp only [List.getElem?_map, Array.getElem?_toList, Array.getElem?_modify, List.getElem?_set]
    by_cases hq : j = q
    ·subst hq; simp [hj]
    ·simp [hq]
  obtain ⟨g1, g2⟩ := hs.AI (es' := es.set j (k, aQ x)) (o' := .map (ents.modify j fun e => { e with key := v, val := y }) ck) bm hl (by intro _ _ _ e; cases e) (fun w' hw => ⟨_, _, hw, by
   rw [TY.1]
   have := aJ.set (by simpa using h2) hv j
   rwa [show (es.set j (k, aQ x)).map (·.1) = (es.map (·.1)).set j k by rw [List.map_set]], by
   rw [TY.2]
   have := aJ.set (by simpa using h3) hy.aQ j
   rwa [show (es.set j (k, aQ x)).map (·.2) = (es.map (·.2)).set j (aQ x) by rw [List.map_set]]⟩) (by
   simp only [aa.a7, Bool.and_eq_true, List.map_set]
   rw [a9, a9] at *
   refine ⟨fun q hq => ?_, fun q hq => ?_⟩
   ·rcases List.mem_or_eq_of_mem_set hq with h' | rfl
    ·exact bQ.1 q h'
    ·exact oV
   ·rcases List.mem_or_eq_of_mem_set hq with h' | rfl
    ·exact bQ.2 q h'
    ·exact hcb)
  exact ⟨_, _, bG, h, g1, g2⟩
 ·rename_i hf
  obtain ⟨Lj, hK⟩ := h
  have LV := Gi ⟨_, Lj⟩
  have f1 : ∀ w, (Instr.findKey kt v ents.toList).run P w = .ok none w := jW Iv Gg hv (ents := ents.toList) (by simpa using h2) (by simpa using h3) hf
  have bG : (Instr.mapUpdate t (.map (some b)) v y).run P w = .ok () { w with heap := w.heap.setIfInBounds b (.map (ents.push { key := v, val := y, born := ck }) (ck + 1)) } := by
   simp only [Instr.mapUpdate, Sem.run_bind, run_underlying ht, Result.andThen_ok, jo, LV]
   simp only [f1 w, Result.andThen_ok, fY]
  obtain ⟨g1, g2⟩ := hs.AI (es' := es ++ [(k, aQ x)]) (o' := .map (ents.push { key := v, val := y, born := ck }) (ck + 1)) bm hl (by intro _ _ _ e; cases e) (fun w' hw => ⟨_, _, hw, by
   simpa using h2.append (.one hv), by
   simpa using h3.append (.one hy.aQ)⟩) (by
   simp only [aa.a7, Bool.and_eq_true, List.map_append, List.map_cons, List.map_nil]
   exact ⟨bu.2 ⟨bQ.1, by simp [aj, oV]⟩, bu.2 ⟨bQ.2, by simp [aj, hcb]⟩⟩)
  exact ⟨_, _, bG, hK, g1, g2⟩
 ·exact h.elim
end
end Go.aK
end
section
namespace Go.aK
open Go
def wH (esz : Nat) (s : AV) (H : List aa) : Option (Nat × List AV) :=
 match s with
 | .ah => some (0, [])
 | .ap _ xs => if xs.all (fun y => y.cells.length == esz) = true then some (xs.length, flat xs) else none
 | .bf id off len _ => match H[id]? with
   | some (.cells es) => if off + len * esz ≤ es.length then some (len, es.drop off) else none
   | _ => none
 | _ => none
def jw (esz : Nat) (d s : AV) (H : List aa) (K : AV → List aa → Prop) : Prop :=
 match d, wH esz s H with
 | .bf id off len _, some (n, ys) => match H[id]? with
   | some (.cells es) => (ys.take (min n len * esz)).all AV.one = true ∧ off + min n len * esz ≤ es.length ∧ aj (id + 1) ((ys.take (min n len * esz)).map AV.ab) = true ∧
      K (.int .i64 (min n len : Nat)) (H.set id (.cells (ag es off ((ys.take (min n len * esz)).map AV.ab))))
   | _ => False
 | _, _ => False
def gr (esz : Nat) (x : AV) (lo hi : Option AV) (φ : AV → Prop) : Prop :=
 match x with
 | .bf id off len cap => dO hi len fun h => dO lo 0 fun l => l ≤ h ∧ h ≤ cap ∧ φ (.bf id (if cap = l then off else off + l * esz) (h - l) (cap - l))
 | _ => False
def nO (esz : Nat) (x : AV) (lo hi : Option AV) (m : AV) (φ : AV → Prop) : Prop :=
 match x with
 | .bf id off len cap => hi.isSome = true ∧ dO (some m) 0 fun m => dO hi len fun h => dO lo 0 fun l => l ≤ h ∧ h ≤ m ∧ m ≤ cap ∧ φ (.bf id (if m = l then off else off + l * esz) (h - l) (m - l))
 | _ => False
def bA (esz : Nat) (x : AV) (lo hi mx : Option AV) (φ : AV → Prop) : Prop :=
 match x with
 | .bf a b c d => match mx with
   | none => gr esz (.bf a b c d) lo hi φ
   | some m => nO esz (.bf a b c d) lo hi m φ
 | _ => (∀ own xs, x = .ap own xs → ∀ z ∈ xs, z.cells.length = esz) ∧ ft esz x lo hi mx φ
section
variable {P : Program} {w : World} {M : Mem} {L : List Nat} {H : List aa} {A : Perm} {ev : Nat → Value} {ea : Nat → AV} {O : Pos → Option Nat}
theorem St.yT (hs : St A M L w H ev ea O) {id off b : Nat} {es : List AV} (bm : H[id]? = some (.cells es)) (hl : L[id]? = some b) {cs : Array Value} {e : TypeId} (h1 : w.heap[b]? = some (.cells cs e (0, 0)))
 (h2 : aJ M L cs.toList es) {vs : List Value} {xs : List AV} (hv : aJ M L vs xs) (hle : off + xs.length ≤ es.length) (nM : aj (id + 1) (xs.map AV.ab) = true) :
 ∃ O', St A M L (w.setRow b (ag cs.toList off vs).toArray) (H.set id (.cells (ag es off (xs.map AV.ab)))) ev ea O' ∧ Ext A M w M (w.setRow b (ag cs.toList off vs).toArray) := by
 have pK := hv.length
 have iI := h2.length
 let O' : Pos → Option Nat := fun q => match q with
  | .t t => O (.t t)
  | .c id' j => if id' = id ∧ off ≤ j ∧ j < off + xs.length then none else O (.c id' j)
 have hO : ∀ q b, O' q = some b → O q = some b := by
  intro q b hq
  cases q with
  | t t => exact hq
  | c id' j =>
    simp only [O'] at hq
    split at hq
    ·cases hq
    ·exact hq
 have Li : off + (xs.map AV.ab).length ≤ es.length := by simp; omega
 have Yl : off + vs.length ≤ cs.toList.length := by omega
 exact ⟨O', hs.write (cs' := (ag cs.toList off vs).toArray) (es' := ag es off (xs.map AV.ab)) (O' := O') bm hl h1
  (by simpa using hv.cV.yG off h2)
  (by
    have bQ := hs.bB id _ bm
    simp only [aa.a7] at bQ
    unfold ag
    exact bu.2 ⟨sq bQ, bu.2 ⟨bF (A.lm (aN bm)) _ nM, sr bQ⟩⟩)
  (ua.sub hs.bZ hO) hs.env hs.gN (by
  intro j
  have e1 : ((ag cs.toList off vs).toArray)[j]? = (ag cs.toList off vs)[j]? := by simp
  rw [e1, eO _ _ _ Yl, List.getD_eq_getElem?_getD, eO _ _ _ Li]
  simp only [List.length_map]
  rw [pK]
  by_cases hj : off ≤ j ∧ j < off + xs.length
  ·simp only [hj, and_self, if_true]
   have : O' (.c id j) = none := by simp [O', hj]
   rw [this]
   refine bb.free ?_
   intro own ys hh
   rw [List.getElem?_map] at hh
   cases hx : xs[j - off]? with
   | none => simp [hx] at hh
   | some y => simp [hx] at hh; exact AV.bI y own ys hh
  ·simp only [hj, if_false]
   have : O' (.c id j) = O (.c id j) := by simp only [O']; rw [if_neg (by intro h'; exact hj h'.2)]
   rw [this]
   have h0 := hs.gK id j
   have e3 : bK L w id j = (cs.toList[j]?).getD undef := by
    unfold bK; simp [hl, World.cell?, h1]
   have e4 : bo H id j = (es[j]?).getD .any := by
    unfold bo; simp [bm, List.getD_eq_getElem?_getD]
   rw [e3, e4] at h0
   exact h0)
  (by intro id' j ep; simp [O', ep])⟩
theorem IA (hs : St A M L w H ev ea O) {esz n m : Nat} {s : AV} {ys : List AV} {v : Value} (h : wH esz s H = some (n, ys)) (hv : aR M L v s) (hm : m ≤ n) :
 (Builtin.lenOf v).run P w = .ok n w ∧ ∃ vs, (Builtin.firstCells esz m v).run P w = .ok vs.toArray w ∧ aJ M L vs (ys.take (m * esz)) := by
 unfold wH at h
 split at h
 ·cases h
  cases hv
  have : m = 0 := by omega
  subst this
  refine ⟨rfl, [], ?_, by simpa using aJ.nil⟩
  simp [Builtin.firstCells]
 ·rename_i own xs
  split at h <;> cases h
  rename_i ju
  have TZ : ∀ y ∈ xs, y.cells.length = esz := by
   intro y hy
   have := List.all_eq_true.1 ju y hy
   simpa using this
  cases hv with
  | gh a c _ hc =>
    have : m = 0 := by simpa using hm
    subst this
    refine ⟨rfl, [], ?_, by simpa [flat] using aJ.nil⟩
    cases a with
    | none => simp [Builtin.firstCells]
    | some a => simpa [Builtin.firstCells] using run_loadCells_list (P := P) w a [] (by simp)
  | ap b off c _ e cs _ he hx hn hle hc hr Qd =>
    have T1 := gV Qd hs.mem
    have iI := hr.length
    have LW : (flat xs).length = xs.length * esz := cD xs esz TZ
    have Io := run_loadCells_list (P := P) w ⟨b, off, none⟩ (cs.take (m * esz)) (fun j v hv => T1 j v (by
     rw [List.getElem?_take] at hv
     split at hv
     ·exact hv
     ·cases hv))
    have hlen : (cs.take (m * esz)).length = m * esz := by
     have : m * esz ≤ xs.length * esz := Nat.mul_le_mul_right _ hm
     simp; omega
    rw [hlen] at Io
    exact ⟨rfl, cs.take (m * esz), by simpa [Builtin.firstCells] using Io, hr.take _⟩
 ·rename_i id off len cap
  split at h <;> try cases h
  rename_i es bm
  split at h <;> cases h
  rename_i s9
  cases hv with
  | bf b _ _ _ _ hl hc =>
  obtain ⟨cs, e, h1, h2, h3⟩ := eZ hs bm hl
  have iI := h2.length
  have hlen : ((cs.toList.drop off).take (m * esz)).length = m * esz := by
   have : m * esz ≤ n * esz := Nat.mul_le_mul_right _ hm
   simp at iI ⊢; omega
  have Io := run_loadCells_list (P := P) w ⟨b, off, none⟩ ((cs.toList.drop off).take (m * esz)) (fun j v hv => by rw [Addr.add_lit]; exact h3 _ _ (dk _ _ _ _ _ hv))
  rw [hlen] at Io
  exact ⟨rfl, (cs.toList.drop off).take (m * esz), by simpa [Builtin.firstCells] using Io, (h2.drop off).take _⟩
 ·cases h
theorem Gj (hs : St A M L w H ev ea O) {t e : TypeId} {esz : Nat} (ht : P.underlying t = some (.slice e)) (he : dD P e = some esz) {u v : Value} {d s : AV} {K : AV → List aa → Prop} (h : jw esz d s H K) (hu : aR M L u d) (hv : aR M L v s) (t' ty : TypeId) :
 ∃ r z w' H' O', (Builtin.copy_ #[t, t'] ty #[u, v]).run P w = .ok r w' ∧ aR M L r z ∧ K z H' ∧ St A M L w' H' ev ea O' ∧ Ext A M w M w' ∧ ∀ own xs, z = .ap own xs → own = 0 := by
 unfold jw at h
 split at h <;> try exact h.elim
 rename_i id off len cap n ys wI
 split at h <;> try exact h.elim
 rename_i es bm
 obtain ⟨km, hle, nM, hK⟩ := h
 cases hu with
 | bf b _ _ _ _ hl hc =>
 obtain ⟨hlen, vs, hfc, hr⟩ := IA (P := P) hs wI hv (Nat.min_le_left n len)
 obtain ⟨cs, e', h1, h2, h3⟩ := hs.obj id _ b bm hl
 have iI := h2.length
 have pK := hr.length
 have hyl : (ys.take (min n len * esz)).length ≤ min n len * esz := by simp; omega
 have bQ := run_storeCells_at P b off e' vs 0 cs w h1 (by simp at iI ⊢; omega) (hr.gk km)
 obtain ⟨O', g1, g2⟩ := hs.yT (off := off) bm hl h1 h2 hr (by omega) nM
 obtain ⟨i, hi, Iu⟩ := Option.map_eq_some_iff.1 he
 refine ⟨.int .i64 (min n len : Nat), .int .i64 (min n len : Nat), _, _, O', ?_, .int _ _, hK, g1, g2, by intro _ _ e; cases e⟩
 have Qe : Nat.min n len = min n len := rfl
 have lB : (storeCells ⟨b, off, none⟩ vs).run P w = .ok () (w.setRow b (ag cs.toList off vs).toArray) := by simpa [ag] using bQ
 simp [Builtin.copy_, run_underlying ht, hlen, sizeOf, typeInfo, hi, Iu, Qe, hfc, lB, goInt]
theorem AZ {t e : TypeId} {esz : Nat} (ht : P.underlying t = some (.slice e)) (he : dD P e = some esz) {u : Value} {x : AV} {lo hi : Option AV} {vlo vhi : Option Value} {φ : AV → Prop} (h : gr esz x lo hi φ) (hu : aR M L u x) (h1 : iP M L lo vlo) (h2 : iP M L hi vhi) :
 ∃ r z, (Instr.sliceAt t u vlo vhi none).run P w = .ok r w ∧ aR M L r z ∧ φ z ∧ ∀ own xs, z = .ap own xs → own = 0 := by
 unfold gr at h
 split at h <;> try exact h.elim
 rename_i id off len cap
 cases hu with
 | bf b _ _ _ _ hl hc =>
 obtain ⟨hh, h, Iz⟩ := dE h2 h
 obtain ⟨ll, h, uh⟩ := dE h1 h
 obtain ⟨hle, XN, hφ⟩ := h
 obtain ⟨i, iL, Iu⟩ := Option.map_eq_some_iff.1 he
 have c9 : (sizeOf e).run P w = .ok esz w := by simp [sizeOf, typeInfo, iL, Iu]
 refine ⟨_, _, ?_, .bf b (if cap = ll then off else off + ll * esz) (hh - ll) (cap - ll) id hl (by omega), hφ, by intro _ _ e; cases e⟩
 have hb : (Instr.sliceBounds true len cap vlo vhi none).run P w = .ok (ll, hh, cap) w := by
  rcases Iz with ⟨_, rfl, rfl⟩ | ⟨kd, i, rfl, tB, rfl⟩ <;> rcases uh with ⟨_, rfl, rfl⟩ | ⟨kd', i', rfl, td, rfl⟩
  ·rfl
  ·have oV := run_sliceBound (P := P) w kd' i' hh .sliceB td hle
   simp [Instr.sliceBounds, oV]
  ·have oV := run_sliceBound (P := P) w kd i cap .sliceAcap tB (by omega)
   simp [Instr.sliceBounds, oV]
  ·have oV := run_sliceBound (P := P) w kd i cap .sliceAcap tB (by omega)
   have pF := run_sliceBound (P := P) w kd' i' i.toNat .sliceB td hle
   simp [Instr.sliceBounds, oV, pF]
 simp only [Instr.sliceAt, Instr.slice, Sem.run_bind, run_underlying ht, Result.andThen_ok, hb, c9, Sem.run_pure]
 by_cases iI : cap = ll
 ·simp [iI]
 ·simp [iI, Addr.add_lit]
theorem A0 {t e : TypeId} {esz : Nat} (ht : P.underlying t = some (.slice e)) (he : dD P e = some esz) {u : Value} {x m : AV} {lo hi : Option AV} {vlo vhi vm : Option Value} {φ : AV → Prop} (h : nO esz x lo hi m φ) (hu : aR M L u x) (h1 : iP M L lo vlo) (h2 : iP M L hi vhi) (h3 : iP M L (some m) vm) :
 ∃ r z, (Instr.sliceAt t u vlo vhi vm).run P w = .ok r w ∧ aR M L r z ∧ φ z ∧ ∀ own xs, z = .ap own xs → own = 0 := by
 unfold nO at h
 split at h <;> try exact h.elim
 rename_i id off len cap
 cases hu with
 | bf b _ _ _ _ hl hc =>
 obtain ⟨hsome, h⟩ := h
 obtain ⟨mm, h, Tr⟩ := dE h3 h
 obtain ⟨hh, h, Iz⟩ := dE h2 h
 obtain ⟨ll, h, uh⟩ := dE h1 h
 obtain ⟨hle, XN, hmc, hφ⟩ := h
 obtain ⟨i, iL, Iu⟩ := Option.map_eq_some_iff.1 he
 have c9 : (sizeOf e).run P w = .ok esz w := by simp [sizeOf, typeInfo, iL, Iu]
 refine ⟨_, _, ?_, .bf b (if mm = ll then off else off + ll * esz) (hh - ll) (mm - ll) id hl (by omega), hφ, by intro _ _ e; cases e⟩
 have hb : (Instr.sliceBounds true len cap vlo vhi vm).run P w = .ok (ll, hh, mm) w := by
  rcases Tr with ⟨e0, _⟩ | ⟨kd3, i3, rfl, hi3, rfl⟩
  ·cases e0
  have XQ := run_sliceBound (P := P) w kd3 i3 cap .slice3Acap hi3 hmc
  rcases Iz with ⟨rfl, _, _⟩ | ⟨kd, i, rfl, tB, rfl⟩
  ·cases hsome
  have oV := run_sliceBound (P := P) w kd i i3.toNat .slice3B tB XN
  rcases uh with ⟨_, rfl, rfl⟩ | ⟨kd', i', rfl, td, rfl⟩
  ·simp [Instr.sliceBounds, oV, XQ]
  ·have pF := run_sliceBound (P := P) w kd' i' i.toNat .slice3C td hle
   simp [Instr.sliceBounds, oV, pF, XQ]
 simp only [Instr.sliceAt, Instr.slice, Sem.run_bind, run_underlying ht, Result.andThen_ok, hb, c9, Sem.run_pure]
 by_cases iI : mm = ll
 ·simp [iI]
 ·simp [iI, Addr.add_lit]
end
end Go.aK
end
section
namespace Go.aK
open Go
def chunks (esz : Nat) : Nat → List AV → List AV
 | 0, _ => []
 | n + 1, es => (if esz = 1 then (es.getD 0 .any).ab else .agg ((es.take esz).map AV.ab)) :: chunks esz n (es.drop esz)
def dF (esz : Nat) (x : AV) (H : List aa) (K : AV → List aa → Prop) : Prop :=
 match x with
 | .bf id off len cap => match H[id]? with
   | some (.cells es) => 0 < esz ∧ len ≤ cap ∧ off + len * esz ≤ es.length ∧ (es.drop off).all AV.one = true ∧ K (.ap 0 (chunks esz len (es.drop off))) (H.set id .dead)
   | _ => False
 | .any => False
 | .ou => K (.ap 0 []) H
 | x => K x.ab H
def jy (esz : Nat) : List AV → List aa → (List AV → List aa → Prop) → Prop
 | [], H, K => K [] H
 | x :: r, H, K => dF esz x H fun y H' => jy esz r H' fun ys H'' => K (y :: ys) H''
def yU (e id c : Nat) (H : List aa) (K : List aa → Prop) : Prop :=
 match H[id]? with
 | some (.cells es) => match es[c]? with
   | some (.bf a1 a2 a3 a4) => dF e (.bf a1 a2 a3 a4) H fun y H' => H'[id]? = some (.cells es) ∧ y.a7 (id + 1) = true ∧ K (H'.set id (.cells (es.set c y)))
   | some .ah => K H
   | _ => False
 | _ => False
def fh (esz : Nat) (x : AV) (H : List aa) (K : AV → List aa → Prop) : Prop :=
 match x with
 | .agg xs => jy esz xs H fun ys H' => K (.agg ys) H'
 | .ptr id off => if 1000 ≤ esz then yU (esz % 1000) id (off + esz / 1000 - 1) H (K (.ptr id off)) else dF esz (.ptr id off) H K
 | x => dF esz x H K
theorem xp {x : AV} (h : x.one = true) : x.cells = [x] := by cases x <;> first | rfl | simp [AV.one] at h
theorem Gk {x : AV} (h : x.one = true) : x.ab.one = true := by cases x <;> first | rfl | exact h
theorem sw (esz : Nat) (h0 : 0 < esz) : ∀ (n : Nat) (es : List AV), n * esz ≤ es.length → es.all AV.one = true →
 flat (chunks esz n es) = (es.take (n * esz)).map AV.ab ∧ (chunks esz n es).length = n ∧ ∀ x ∈ chunks esz n es, x.cells.length = esz
 | 0, es, _, _ => by simp [chunks, flat]
 | n + 1, es, hle, h1 => by
   have TQ : n * esz + esz ≤ es.length := by rw [Nat.add_mul] at hle; omega
   obtain ⟨i1, i2, i3⟩ := sw esz h0 n (es.drop esz) (by simp; omega) (by
    rw [List.all_eq_true] at h1 ⊢
    exact fun x hx => h1 x (List.mem_of_mem_drop hx))
   have hhead : (if esz = 1 then (es.getD 0 .any).ab else AV.agg ((es.take esz).map AV.ab)).cells = (es.take esz).map AV.ab := by
    split
    ·rename_i e
     subst e
     cases es with
     | nil => simp at TQ
     | cons x r =>
       have hx : x.one = true := List.all_eq_true.1 h1 x (by simp)
       simp [xp (Gk hx)]
    ·rfl
   refine ⟨?_, by simp [chunks, i2], ?_⟩
   ·simp only [flat] at i1
    simp only [chunks, flat, List.flatMap_cons, hhead, i1]
    rw [← List.map_append]
    congr 1
    rw [Nat.add_mul, Nat.one_mul, Nat.add_comm (n * esz) esz, List.take_add]
   ·intro x hx
    simp only [chunks, List.mem_cons] at hx
    rcases hx with rfl | hx
    ·rw [hhead]; simp; omega
    ·exact i3 x hx
section
variable {P : Program} {w : World} {M : Mem} {L : List Nat} {H : List aa} {A : Perm} {ev : Nat → Value} {ea : Nat → AV} {O : Pos → Option Nat}
theorem St.freeze (h : St A M L w H ev ea O) {id b : Nat} {es : List AV} (bm : H[id]? = some (.cells es)) (hl : L[id]? = some b) :
 ∃ (cs : Array Value) (O' : Pos → Option Nat), aJ M L cs.toList es ∧ M.sub (M.add b cs.toList) ∧ (M.add b cs.toList).row b 0 cs.toList ∧ St A (M.add b cs.toList) L w (H.set id .dead) ev ea O' ∧ Ext A M w (M.add b cs.toList) w ∧ (∀ t, O' (.t t) = O (.t t)) := by
 obtain ⟨cs, e, h1, h2, h3⟩ := h.obj id _ b bm hl
 have xf : b ∈ L := List.mem_of_getElem? hl
 have fM : M.sub (M.add b cs.toList) := by
  intro b' o v hv
  have ep : b' ≠ b := by
   rintro rfl
   rw [h3] at hv; cases hv
  simp [Mem.add, ep, hv]
 have hM : ∀ b', b' ≠ b → ∀ o, (M.add b cs.toList) b' o = M b' o := fun b' hb o => by simp [Mem.add, hb]
 let O' : Pos → Option Nat := fun p => match p with | .t t => O (.t t) | .c id' j => if id' = id then none else O (.c id' j)
 have hO : ∀ q b, O' q = some b → O q = some b := by
  intro q b hq
  cases q with
  | t t => exact hq
  | c id' j =>
    simp only [O'] at hq
    split at hq
    ·cases hq
    ·exact hq
 have hOb : ∀ q b', O q = some b' → b' ≠ b := fun q b' hq e => h.cj q b' hq (e ▸ xf)
 refine ⟨cs, O', h2, fM, ?_, ?_, ?_, fun t => rfl⟩
 ·intro j v hv
  simpa [Mem.add] using hv
 ·exact { len := by simp [h.len], nodup := h.nodup, env := fun t => (h.env t).mono fM (List.prefix_refl _)
          mem := by
           intro b' o v hv
           by_cases e0 : b' = b
           ·subst e0
            simp only [Mem.add, if_true] at hv
            simpa [World.cell?, h1] using hv
           ·rw [hM b' e0] at hv
            exact h.mem b' o v hv
          obj := by
           intro id' o b' ho dW
           rw [List.getElem?_set] at ho
           split at ho
           ·split at ho <;> cases ho
            trivial
           ·rename_i ep
            refine (h.obj id' o b' ho dW).mono fM (List.prefix_refl _) rfl (hM b' ?_)
            rintro rfl
            exact ep ((List.getElem?_inj (aN hl) h.nodup).1 (hl.trans dW.symm))
          bB := by
           intro id' o ho
           rw [List.length_set]
           rw [List.getElem?_set] at ho
           split at ho
           ·split at ho <;> cases ho
            rfl
           ·exact h.bB id' o ho
          lt := h.lt
          gN := fun t => (h.gN t).mono fun b' dW => ⟨rfl, hM b' (hOb _ b' dW)⟩
          gK := by
           intro id' j
           by_cases e0 : id' = id
           ·subst e0
            have : bo (H.set id' .dead) id' j = .any := by
             unfold bo
             rw [List.getElem?_set]
             simp
            rw [this]
            simp [O', bb]
           ·have e1 : bo (H.set id .dead) id' j = bo H id' j := by
             unfold bo
             rw [List.getElem?_set, if_neg (Ne.symm e0)]
            rw [e1]
            have : O' (.c id' j) = O (.c id' j) := by simp [O', e0]
            rw [this]
            exact (h.gK id' j).mono fun b' dW => ⟨rfl, hM b' (hOb _ b' dW)⟩
          bZ := fun p q b hp hq => h.bZ p q b (hO p b hp) (hO q b hq)
          cj := fun p b hp => h.cj p b (hO p b hp)
          eV := fun p b hp => h.eV p b (hO p b hp)
          La := h.La
          Oa := fun p b hp => h.Oa p b (hO p b hp)
          fresh := h.fresh }
 ·exact ⟨fM, Nat.le_refl _, rfl, rfl, rfl, fun b' _ hA => ⟨rfl, hM b' (fun e => hA (e ▸ h.La b xf))⟩, fun k r hk => ⟨r, hk, rfl⟩⟩
theorem lC (hs : St A M L w H ev ea O) {esz : Nat} {u : Value} {x : AV} {K : AV → List aa → Prop} (h : dF esz x H K) (hu : aR M L u x) :
 ∃ z M' H' O', aR M' L u z ∧ K z H' ∧ St A M' L w H' ev ea O' ∧ Ext A M w M' w ∧ ∀ own xs, z = .ap own xs → own = 0 := by
 unfold dF at h
 split at h
 ·rename_i id off len cap
  split at h <;> try exact h.elim
  rename_i es bm
  obtain ⟨h0, cI, hle, h1, hK⟩ := h
  cases hu with
  | bf b _ _ _ _ hl hc =>
  obtain ⟨cs, O', k1, k2, k3, k4, k5, _⟩ := hs.freeze bm hl
  obtain ⟨c1, c2, c3⟩ := sw esz h0 len (es.drop off) (by simp; omega) h1
  refine ⟨_, _, _, O', ?_, hK, k4, k5, by intro own xs e; cases e; rfl⟩
  have iI := k1.length
  by_cases hz : len = 0
  ·subst hz
   simp only [chunks]
   exact .gh _ _ _ hc
  ·have hr : aJ (M.add b cs.toList) L ((cs.toList.drop off).take (len * esz)) (flat (chunks esz len (es.drop off))) := by
    rw [c1]
    exact (((k1.drop off).take _).cV).mono k2 (List.prefix_refl _)
   have Qd : (M.add b cs.toList).row b off ((cs.toList.drop off).take (len * esz)) := by
    intro j v hv
    have := k3 (off + j) v (dk _ _ _ _ _ hv)
    simpa using this
   have := aR.ap (M := M.add b cs.toList) (L := L) b off cap 0 esz _ (chunks esz len (es.drop off)) h0 c3 (by omega) (by omega) hc hr Qd
   rw [c2] at this
   exact this
 ·exact h.elim
 ·cases hu
  exact ⟨_, M, H, O, .gh _ 0 0 (by decide), h, hs, Ext.refl A M w, by intro _ _ e; cases e; rfl⟩
 ·rename_i ade Qf
  refine ⟨_, M, H, O, hu.ab, h, hs, Ext.refl A M w, AV.bI x⟩
theorem uo {esz : Nat} : ∀ {xs : List AV} {us : List Value} {M : Mem} {H : List aa} {O : Pos → Option Nat} {K : List AV → List aa → Prop}, St A M L w H ev ea O → jy esz xs H K → aJ M L us xs →
 ∃ zs M' H' O', aJ M' L us zs ∧ K zs H' ∧ St A M' L w H' ev ea O' ∧ Ext A M w M' w
 | [], us, M, H, O, K, hs, h, hu => ⟨[], M, H, O, hu, h, hs, Ext.refl A M w⟩
 | x :: r, us, M, H, O, K, hs, h, hu => by
   cases hu with
   | cons u _ us _ h1 h2 =>
   obtain ⟨z, M1, H1, O1, k1, k2, k3, k4, _⟩ := lC hs h h1
   obtain ⟨zs, M2, H2, O2, g1, g2, g3, g4⟩ := uo k3 k2 (h2.mono k4.kG (List.prefix_refl L))
   exact ⟨z :: zs, M2, H2, O2, .cons _ _ _ _ (k1.mono g4.kG (List.prefix_refl L)) g1, g2, g3, k4.trans g4⟩
theorem setRow_self {b : Nat} {cs : Array Value} {e : TypeId} {f : Nat × Nat} (h : w.heap[b]? = some (.cells cs e f)) : w.setRow b cs = w := by
 have : (w.setRow b cs).heap = w.heap := by
  apply Array.ext
  ·simp [World.setRow]
  ·intro i h1 h2
   simp only [World.setRow, Array.getElem_modify]
   split
   ·rename_i e0
    subst e0
    obtain ⟨_, h'⟩ := Array.getElem?_eq_some_iff.1 h
    rw [h']
   ·rfl
 show ({ w with heap := (w.setRow b cs).heap } : World) = w
 rw [this]
theorem IB (hs : St A M L w H ev ea O) {e id c : Nat} {K : List aa → Prop} (h : yU e id c H K) :
 ∃ M' H' O', K H' ∧ St A M' L w H' ev ea O' ∧ Ext A M w M' w := by
 unfold yU at h
 split at h <;> try exact h.elim
 rename_i es bm
 split at h <;> try exact h.elim
 rotate_left
 ·exact ⟨M, H, O, h, hs, .refl A M w⟩
 rename_i a1 a2 a3 a4 hc
 have hb : ∃ b, L[id]? = some b := by
  have := aN bm
  rw [← hs.len] at this
  exact ⟨L[id], by simp [this]⟩
 obtain ⟨b, hl⟩ := hb
 obtain ⟨cs, ty, k1, k2, k3⟩ := hs.obj id _ b bm hl
 obtain ⟨u, hu, hru⟩ := k2.get c _ hc
 obtain ⟨y, M', H1, O1, g1, ⟨g2, g3, g4⟩, g5, g6, g7⟩ := lC hs h hru
 obtain ⟨cs', ty', m1, m2, m3⟩ := g5.obj id _ b g2 hl
 rw [k1] at m1; cases m1
 have bQ := g5.bB id _ g2
 have iI : c < es.length := aN hc
 have fY : cs.toList.set c u = cs.toList := by
  apply List.ext_getElem?
  intro j
  rw [List.getElem?_set]
  split
  ·rename_i e0; subst e0
   have : c < cs.toList.length := aN hu
   rw [if_pos this, hu]
  ·rfl
 have rb := m2.set g1 c
 rw [fY] at rb
 have hcv : ∀ j, bK L w id j = (cs[j]?).getD undef := by
  intro j
  unfold bK
  rw [hl]
  simp [World.cell?, k1]
 have hO : O1 (.c id c) = none := by
  have := g5.gK id c
  have e1 : bo H1 id c = .bf a1 a2 a3 a4 := by
   unfold bo
   rw [g2]
   simp [List.getD_eq_getElem?_getD, hc]
  rw [e1] at this
  exact this
 obtain ⟨q1, q2⟩ := g5.write (es' := es.set c y) (cs' := cs) (ea' := ea) (O' := O1) g2 hl k1 rb (by
  simp only [aa.a7] at bQ
  rw [a9] at bQ ⊢
  intro z hz
  rcases List.mem_or_eq_of_mem_set hz with h' | rfl
  ·exact bQ z h'
  ·exact AV.cH (A.lm (aN g2)) _ g3) ⟨fun p q b hp hq => g5.bZ p q b hp hq, fun p b hp => ⟨p, hp⟩⟩ g5.env g5.gN (fun j => by
  by_cases e0 : j = c
  ·subst e0
   rw [hO]
   have : (es.set j y).getD j .any = y := by rw [List.getD_eq_getElem?_getD, List.getElem?_set_self iI]; rfl
   rw [this]
   exact bb.free g7
  ·have := g5.gK id j
   rw [hcv j] at this
   have e1 : bo H1 id j = es.getD j .any := by unfold bo; rw [g2]
   rw [e1] at this
   rwa [List.getD_eq_getElem?_getD, List.getElem?_set_ne (fun e => e0 e.symm), ← List.getD_eq_getElem?_getD]) (fun _ _ _ => rfl)
 rw [setRow_self k1] at q1 q2
 exact ⟨M', _, O1, g4, q1, g6.trans q2⟩
theorem rc (hs : St A M L w H ev ea O) {esz : Nat} {u : Value} {x : AV} {K : AV → List aa → Prop} (h : fh esz x H K) (hu : aR M L u x) :
 ∃ z M' H' O', aR M' L u z ∧ K z H' ∧ St A M' L w H' ev ea O' ∧ Ext A M w M' w ∧ ∀ own xs, z = .ap own xs → own = 0 := by
 unfold fh at h
 split at h
 ·cases hu with
  | agg cs xs hr =>
  obtain ⟨zs, M', H', O', g1, g2, g3, g4⟩ := uo hs h hr
  exact ⟨.agg zs, M', H', O', .agg _ _ g1, g2, g3, g4, by intro own xs e; cases e⟩
 ·rename_i id off
  split at h
  ·obtain ⟨M', H', O', g1, g2, g3⟩ := IB hs h
   exact ⟨.ptr id off, M', H', O', hu.mono g3.kG (List.prefix_refl L), g1, g2, g3, by intro own xs e; cases e⟩
  ·exact lC hs h hu
 ·exact lC hs h hu
end
end Go.aK
end
section
namespace Go.aK
open Go
def sx (xs : List AV) (H : List aa) (K : AV → List aa → Prop) : Prop :=
 aj (H.length + 1) ((flat xs).map AV.ab) = true ∧ K (.bf H.length 0 xs.length xs.length) (H ++ [.cells ((flat xs).map AV.ab)])
def dc (z : AV) (n : Nat) : List AV := flat (List.replicate n (bO z))
def cJ (esz bytes : Nat) (z s x : AV) (H : List aa) (K : AV → List aa → Prop) : Prop :=
 match dI x with
 | none => (match s, wH esz x H with
   | .bf id off len cap, some (n, ys) => match H[id]? with
     | some (.cells es) => n * esz ≤ ys.length ∧ (ys.take (n * esz)).all AV.one = true ∧ len + n ≤ cap ∧ off + cap * esz ≤ es.length ∧ aj (id + 1) ((ys.take (n * esz)).map AV.ab) = true ∧
        K (.bf id off (len + n) cap) (H.set id (.cells (ag es (off + len * esz) ((ys.take (n * esz)).map AV.ab))))
     | _ => False
   | _, _ => False)
 | some ys => ta esz ys ∧ match s with
   | .ah => ys.length * bytes ≤ 140737488355328 ∧ (ys = [] → K .ah H) ∧ (ys ≠ [] → ∀ cap, ys.length ≤ cap → cap < 9223372036854775808 →
      aj (H.length + 1) ((flat ys).map AV.ab ++ dc z (cap - ys.length)) = true ∧ K (.bf H.length 0 ys.length cap) (H ++ [.cells ((flat ys).map AV.ab ++ dc z (cap - ys.length))]))
   | .ou => ys.length * bytes ≤ 140737488355328 ∧ (ys = [] → K .ou H) ∧ (ys ≠ [] → ∀ cap, ys.length ≤ cap → cap < 9223372036854775808 →
      aj (H.length + 1) ((flat ys).map AV.ab ++ dc z (cap - ys.length)) = true ∧ K (.bf H.length 0 ys.length cap) (H ++ [.cells ((flat ys).map AV.ab ++ dc z (cap - ys.length))]))
   | .bf id off len cap => match H[id]? with
     | some (.cells es) => (len + ys.length) * bytes ≤ 140737488355328 ∧ len ≤ cap ∧ off + cap * esz ≤ es.length ∧
        (len + ys.length ≤ cap → aj (id + 1) ((flat ys).map AV.ab) = true ∧ K (.bf id off (len + ys.length) cap) (H.set id (.cells (ag es (off + len * esz) ((flat ys).map AV.ab))))) ∧
        (cap < len + ys.length → ∀ fZ, len + ys.length ≤ fZ → fZ < 9223372036854775808 →
          aj (H.length + 1) (((es.drop off).take (len * esz)).map AV.ab ++ (flat ys).map AV.ab ++ dc z (fZ - (len + ys.length))) = true ∧
          K (.bf H.length 0 (len + ys.length) fZ) (H ++ [.cells (((es.drop off).take (len * esz)).map AV.ab ++ (flat ys).map AV.ab ++ dc z (fZ - (len + ys.length)))]))
     | _ => False
   | _ => False
def ig (esz : Nat) (z x : AV) (H : List aa) (K : List aa → Prop) : Prop :=
 match x with
 | .bf id off len _ => match H[id]? with
   | some (.cells es) => off + len * esz ≤ es.length ∧ (dc z len).all AV.one = true ∧ aj (id + 1) ((dc z len).map AV.ab) = true ∧ K (H.set id (.cells (ag es off ((dc z len).map AV.ab))))
   | _ => False
 | _ => False
section
variable {P : Program} {w : World} {M : Mem} {L : List Nat} {H : List aa} {A : Perm} {ev : Nat → Value} {ea : Nat → AV} {O : Pos → Option Nat}
theorem kr {α : Type} (es : List α) (off : Nat) : ag es off [] = es := by simp [ag]
theorem St.A4 (hs : St A M L w H ev ea O) (cs : Array Value) (e : TypeId) {xs : List AV} (hr : aJ M L cs.toList xs) (hb : aj (H.length + 1) xs = true) (hf : ∀ y ∈ xs, ∀ own zs, y = .ap own zs → own = 0) :
 St A M (L ++ [w.heap.size]) { w with heap := w.heap.push (.cells cs e) } (H ++ [.cells xs]) ev ea O ∧ Ext A M w M { w with heap := w.heap.push (.cells cs e) } :=
 hs.qV (.cells cs e) (.cells xs) (fun w' hw hM => ⟨_, e, hw, hr.mono (Mem.bN M) ⟨_, rfl⟩, hM⟩) (by simpa [aa.a7] using hb) (fun j => by
  simp only [mN]
  refine bb.free ?_
  intro own zs hh
  rw [List.getD_eq_getElem?_getD] at hh
  cases hx : xs[j]? with
  | none => simp [hx] at hh
  | some y => simp [hx] at hh; exact hf y (List.mem_of_getElem? hx) own zs hh)
theorem mW (xs : List AV) : ∀ y ∈ xs.map AV.ab, ∀ own zs, y = .ap own zs → own = 0 := by
 intro y hy own zs e
 obtain ⟨q, _, rfl⟩ := List.mem_map.1 hy
 exact AV.bI q own zs e
theorem Dp {z : AV} (Iy : ∀ y ∈ z.cells, ∀ own xs, y = .ap own xs → own = 0) (n : Nat) : ∀ y ∈ dc z n, ∀ own zs, y = .ap own zs → own = 0 := by
 intro y hy own zs e
 simp only [dc, flat, List.mem_flatMap] at hy
 obtain ⟨q, hq, LU⟩ := hy
 rw [List.eq_of_mem_replicate hq] at LU
 subst e
 cases z <;> simp only [bO, AV.cells] at LU Iy
 case agg ys =>
  obtain ⟨y', _, Ys⟩ := List.mem_map.1 LU
  exact AV.jh y' own zs Ys
 all_goals exact Iy _ LU own zs rfl
theorem Gl (hs : St A M L w H ev ea O) {t e : TypeId} (ht : P.underlying t = some (.slice e)) {esz : Nat} (he : dD P e = some esz) (h0 : 0 < esz) {z : AV} (hz : fz P e = some z) (iN : z.cells.length = esz) (so : z.val = true)
 {len : Nat} (hlen : len * esz ≤ 16777216) {parts : List (Nat × AV)} {vs : Array (Nat × Value)} (hp : ∀ (j : Nat) (p : Nat × AV), parts[j]? = some p → ∃ v, vs.toList[j]? = some (p.1, v) ∧ aR M L v p.2) (hl : vs.toList.length = parts.length)
 {K : AV → List aa → Prop} (h : bh (List.replicate len (aQ z)) esz parts fun xs => sx xs H K) :
 ∃ r x L' w' H', (Instr.buildSlice t len vs).run P w = .ok r w' ∧ aR M L' r x ∧ (∀ own xs, x = .ap own xs → own = 0) ∧ K x H' ∧ St A M L' w' H' ev ea O ∧ Ext A M w M w' ∧ L <+: L' := by
 unfold fz at hz
 obtain ⟨ie, Is, c9⟩ := Option.map_eq_some_iff.1 he
 simp only [Is] at hz
 split at hz
 ·rename_i zv ug
  have AP := (cC (M := M) (L := L) hz).aQ.fO (qZ so)
  have tx : zv.cells.size = esz := by have := AP.length; rw [eN, iN] at this; simpa using this
  obtain ⟨cs', xs', f1, f2, f3, f4, f5⟩ := mU (M := M) (L := L) esz parts vs.toList hp hl (jt zv.cells esz len tx h0 (aQ z) AP) (fun y hy => by rw [List.eq_of_mem_replicate hy, eN]; exact iN) h
  simp only [List.length_replicate] at f4
  obtain ⟨nM, hK⟩ := f5
  have bG : (Instr.buildSlice t len vs).run P w = .ok (.slice (some ⟨w.heap.size, 0, none⟩) len len) { w with heap := w.heap.push (.cells cs' e) } := by
   by_cases mC : len * ie.size = 0
   ·have EW : len = 0 := by
     rcases Nat.mul_eq_zero.1 mC with h' | h'
     ·exact h'
     ·omega
    subst EW
    have LN : cs' = #[] := by
     have := f2.length
     rw [cD _ esz f3, f4] at this
     simp at this
     exact this
    have TR : vs.toList = [] := by
     cases wD : vs.toList with
     | nil => rfl
     | cons q r =>
       rw [wD] at hl
       cases parts with
       | nil => simp at hl
       | cons p ps => obtain ⟨_, _, h3, _⟩ := h; simp at h3
    subst LN
    have hf : Instr.fill (fun i => some (i * ie.size, ie.size)) #[] vs.toList = some #[] := by rw [TR]; rfl
    simp [Instr.buildSlice, run_underlying ht, sizeOf, typeInfo, Is, newRow, TR, Instr.fill]
    congr 2
    apply Array.ext'
    simp
   ·rw [run_buildSlice w t e len vs cs' ie zv ht Is ug (by rw [c9]; omega) mC (by rw [c9]; exact f1)]
    rfl
  obtain ⟨g1, g2⟩ := hs.A4 cs' e f2.cV nM (mW _)
  have hbd : len < 9223372036854775808 := by
   have : len ≤ len * esz := Nat.le_mul_of_pos_right _ h0
   omega
  refine ⟨_, .bf H.length 0 len len, _, _, _, bG, .bf w.heap.size 0 _ _ H.length ?_ hbd, (by intro _ _ e; cases e), by rw [f4] at hK; exact hK, g1, g2, ⟨_, rfl⟩⟩
  rw [List.getElem?_append_right (by rw [hs.len]; exact Nat.le_refl _), hs.len]; simp
 ·cases hz
theorem yV (hs : St A M L w H ev ea O) {t ty e : TypeId} {i : TypeInfo} {zv : Value} {esz bytes : Nat} (ht : P.underlying t = some (.slice e)) (hi : P.info? e = some i) (hz : i.zero = some zv) (c9 : i.size = esz) (xj : i.bytes = bytes) (h0 : 0 < esz) (ui : 0 < bytes)
 {z : AV} (Lk : ofValue zv = some z) (so : z.val = true) (iN : z.cells.length = esz) (Iy : ∀ y ∈ z.cells, ∀ own xs, y = .ap own xs → own = 0) {u v : Value} {s x : AV} {K : AV → List aa → Prop} (h : cJ esz bytes z s x H K) (hu : aR M L u s) (hv : aR M L v x) :
 ∃ r y L' w' H' O', (Builtin.append_ #[t, t] ty #[u, v]).run P w = .ok r w' ∧ aR M L' r y ∧ (∀ own xs, y = .ap own xs → own = 0) ∧ K y H' ∧ St A M L' w' H' ev ea O' ∧ Ext A M w M w' ∧ L <+: L' := by
 unfold cJ at h
 split at h
 ·-- out of an object
  rename_i hnone
  split at h <;> try exact h.elim
  rename_i id off len cap n ys wI
  split at h <;> try exact h.elim
  rename_i es bm
  obtain ⟨hny, km, hroom, s9, nM, hK⟩ := h
  cases hu with
  | bf b _ _ _ _ hl hc =>
  obtain ⟨cs, e', h1, h2, h3⟩ := eZ hs bm hl
  have iI := h2.length
  have wE : (len + n) * esz ≤ cap * esz := Nat.mul_le_mul_right _ hroom
  rw [Nat.add_mul] at wE
  unfold wH at wI
  split at wI
  ·simp [dI] at hnone
  ·simp [dI] at hnone
  ·rename_i id2 off2 T2 T3
   split at wI <;> try cases wI
   rename_i es2 LX
   split at wI <;> cases wI
   rename_i hfit2
   cases hv with
   | bf b2 _ _ _ _ nP oz =>
   obtain ⟨cs2, e2, k1, k2, k3⟩ := eZ hs LX nP
   have adi := k2.length
   by_cases AT : n = 0
   ·subst AT
    simp only [Nat.zero_mul, List.take_zero, List.map_nil, kr, Nat.add_zero] at hK
    have es' : H.set id (.cells es) = H := by
     obtain ⟨mD, e1⟩ := List.getElem?_eq_some_iff.1 bm
     rw [← e1]; simp
    rw [es'] at hK
    exact ⟨_, .bf id off len cap, L, w, H, O, dl ht hi w _ len cap (by omega) _ T3, .bf b off len cap id hl hc, (by intro _ _ e; cases e), hK, hs, Ext.refl A M w, List.prefix_refl L⟩
   ·have xk : ((cs2.toList.drop off2).take (n * esz)).length = n * esz := by
     rw [List.length_take, List.length_drop]; omega
    have hnews : ∀ j u, ((cs2.toList.drop off2).take (n * esz))[j]? = some u → w.cell? ((⟨b2, off2, none⟩ : Addr).add j) = some u := fun j u hu => by
     rw [Addr.add_lit]; exact k3 _ _ (dk _ _ _ _ _ hu)
    have yN : aJ M L ((cs2.toList.drop off2).take (n * esz)) ((es2.drop off2).take (n * esz)) := (k2.drop off2).take _
    have T4 := yN.gk km
    have bG := fP (P := P) (ty := ty) ht hi w b off len cap cs (0, 0) h1 (nK _) ⟨b2, off2, none⟩ n T3 ((cs2.toList.drop off2).take (n * esz)) (by rw [c9]; exact xk) hnews T4 hroom (by
     have : es.length = cs.size := by rw [← iI]; simp
     rw [c9, xk]; omega)
    rw [c9] at bG
    obtain ⟨O', g1, g2⟩ := hs.yT (off := off + len * esz) bm hl h1 h2 yN (by rw [List.length_take, List.length_drop]; omega) nM
    exact ⟨_, .bf id off (len + n) cap, L, _, _, O', bG, .bf b off _ cap id hl hc, (by intro _ _ e; cases e), hK, g1, g2, List.prefix_refl L⟩
  ·cases wI
 rename_i ys pE
 obtain ⟨jS, h⟩ := h
 have AP := (cC (M := M) (L := L) Lk).bO.fO (oU so)
 have tx : zv.cells.size = esz := by have := AP.length; rw [jc, iN] at this; simpa using this
 have hesz0 : esz ≠ 0 := by omega
 have IC : ∀ n, aJ M L (Builtin.zeroCells zv.cells n).toList (dc z n) := fun n => by
  have := jt (M := M) (L := L) zv.cells esz n tx h0 (bO z) AP
  rw [Builtin.zeroCells, tx]
  rw [tx] at this
  exact this
 -- a new row
 have grow : ∀ (olds news : List Value) (xs : List AV) (k need oldCap : Nat) (w' : World), aJ M L olds xs → aJ M L news (flat ys) → need ≤ maxLen →
  w' = w.drew.alloc (.cells (olds.toArray ++ news.toArray ++ Builtin.zeroCells zv.cells (grownCap w need oldCap e - need)) e) →
  (Builtin.append_ #[t, t] ty #[u, v]).run P w = .ok (.slice (some ⟨w.heap.size, 0, none⟩) need (grownCap w need oldCap e)) w' →
  (∀ fZ, need ≤ fZ → fZ < 9223372036854775808 → aj (H.length + 1) (xs.map AV.ab ++ (flat ys).map AV.ab ++ dc z (fZ - need)) = true ∧ K (.bf H.length 0 need fZ) (H ++ [.cells (xs.map AV.ab ++ (flat ys).map AV.ab ++ dc z (fZ - need))])) →
  ∃ r y L' w' H' O', (Builtin.append_ #[t, t] ty #[u, v]).run P w = .ok r w' ∧ aR M L' r y ∧ (∀ own xs, y = .ap own xs → own = 0) ∧ K y H' ∧ St A M L' w' H' ev ea O' ∧ Ext A M w M w' ∧ L <+: L' := by
  intro olds news xs k need oldCap w' TU yN hneed Iw bG hK
  have ji := grownCap_ge w need oldCap e
  have hle := grownCap_le_maxLen w need oldCap e hneed
  simp only [maxLen] at hle
  obtain ⟨nM, hK⟩ := hK _ ji (by omega)
  obtain ⟨g1, g2⟩ := hs.drew.A4 (olds.toArray ++ news.toArray ++ Builtin.zeroCells zv.cells (grownCap w need oldCap e - need)) e (xs := xs.map AV.ab ++ (flat ys).map AV.ab ++ dc z (grownCap w need oldCap e - need))
   (by rw [Array.toList_append, Array.toList_append]; exact (TU.cV.append yN.cV).append (IC _)) nM (by
     intro y hy
     rcases List.mem_append.1 hy with hy | hy
     ·rcases List.mem_append.1 hy with hy | hy
      ·exact mW _ y hy
      ·exact mW _ y hy
     ·exact Dp Iy _ y hy)
  subst Iw
  refine ⟨_, .bf H.length 0 need (grownCap w need oldCap e), L ++ [w.heap.size], _, _, O, bG, .bf w.heap.size 0 _ _ H.length ?_ (by omega), (by intro _ _ e; cases e), hK, g1, Ext.drew.trans g2, ⟨_, rfl⟩⟩
  rw [List.getElem?_append_right (by rw [hs.len]; exact Nat.le_refl _), hs.len]; simp
 split at h <;> try exact h.elim
 ·-- onto nothing
  obtain ⟨hbound, hn, hc⟩ := h
  cases hu
  rcases lA pE jS hv with ⟨rfl, b', c', rfl⟩ | ⟨AT, b2, o2, c2, news, rfl, yN, Qb, xk⟩
  ·exact ⟨_, .ah, L, w, H, O, dl ht hi w none 0 0 (Nat.le_refl _) b' c', .ah, (by intro _ _ e; cases e), hn rfl, hs, Ext.refl A M w, List.prefix_refl L⟩
  ·have hnews : ∀ j u, news[j]? = some u → w.cell? ((⟨b2, o2, none⟩ : Addr).add j) = some u := gV Qb hs.mem
   have hlen : ys.length ≤ 140737488355328 := Nat.le_trans (Nat.le_mul_of_pos_right _ ui) hbound
   have hbound' : ys.length * i.bytes ≤ 140737488355328 := by rw [xj]; exact hbound
   have hr := run_append_nil (P := P) w t ty e i zv ht hi hz ⟨b2, o2, none⟩ ys.length c2 news (by rw [c9]; exact xk) hnews AT (by omega) (by first | omega | (simp at hbound'; omega))
   refine grow [] news [] 0 ys.length 0 _ .nil yN (by simp only [maxLen]; omega) rfl (by simpa using hr) fun fZ h1 h2 => ?_
   have := hc (by intro e; rw [e] at AT; simp at AT) fZ h1 h2
   simpa using this
 ·-- onto what is empty
  obtain ⟨hbound, hn, hc⟩ := h
  cases hu with
  | ou ad =>
  rcases lA pE jS hv with ⟨rfl, b', c', rfl⟩ | ⟨AT, b2, o2, c2, news, rfl, yN, Qb, xk⟩
  ·exact ⟨_, .ou, L, w, H, O, dl ht hi w ad 0 0 (Nat.le_refl _) b' c', .ou _, (by intro _ _ e; cases e), hn rfl, hs, Ext.refl A M w, List.prefix_refl L⟩
  ·have hnews : ∀ j u, news[j]? = some u → w.cell? ((⟨b2, o2, none⟩ : Addr).add j) = some u := gV Qb hs.mem
   have hlen : ys.length ≤ 140737488355328 := Nat.le_trans (Nat.le_mul_of_pos_right _ ui) hbound
   have hbound' : ys.length * i.bytes ≤ 140737488355328 := by rw [xj]; exact hbound
   have hK : ∀ fZ, ys.length ≤ fZ → fZ < 9223372036854775808 → aj (H.length + 1) (([] : List AV).map AV.ab ++ (flat ys).map AV.ab ++ dc z (fZ - ys.length)) = true ∧ K (.bf H.length 0 ys.length fZ) (H ++ [.cells (([] : List AV).map AV.ab ++ (flat ys).map AV.ab ++ dc z (fZ - ys.length))]) := fun fZ h1 h2 => by
    have := hc (by intro e; rw [e] at AT; simp at AT) fZ h1 h2
    simpa using this
   cases ad with
   | none =>
     have hr := run_append_nil (P := P) w t ty e i zv ht hi hz ⟨b2, o2, none⟩ ys.length c2 news (by rw [c9]; exact xk) hnews AT (by omega) (by first | omega | (simp at hbound'; omega))
     exact grow [] news [] 0 ys.length 0 _ .nil yN (by simp only [maxLen]; omega) rfl (by simpa using hr) hK
   | some ad =>
     have hr := run_append_grow (P := P) w t ty e i zv ht hi hz ad 0 0 [] (by simp) (fun j v hv => by simp at hv)
      ⟨b2, o2, none⟩ ys.length c2 news (by rw [c9]; exact xk) hnews (by omega) (by omega) (growslice_fits (by omega) (by simpa using hbound'))
     simp only [Nat.zero_add] at hr
     exact grow [] news [] 0 ys.length 0 _ .nil yN (by simp only [maxLen]; omega) rfl hr hK
 ·rename_i id off len cap
  split at h <;> try exact h.elim
  rename_i es bm
  obtain ⟨hbound, yK, s9, ID, Ii⟩ := h
  cases hu with
  | bf b _ _ _ _ hl hc =>
  obtain ⟨cs, e', h1, h2, h3⟩ := eZ hs bm hl
  have iI := h2.length
  rcases lA pE jS hv with ⟨rfl, b', c', rfl⟩ | ⟨AT, b2, o2, c2, news, rfl, yN, Qb, xk⟩
  ·obtain ⟨_, hK⟩ := ID (by simpa using yK)
   simp only [flat, List.flatMap_nil, List.map_nil, kr, List.length_nil, Nat.add_zero] at hK
   have es' : H.set id (.cells es) = H := by
    obtain ⟨mD, e1⟩ := List.getElem?_eq_some_iff.1 bm
    rw [← e1]; simp
   rw [es'] at hK
   exact ⟨_, .bf id off len cap, L, w, H, O, dl ht hi w _ len cap yK b' c', .bf b off len cap id hl hc, (by intro _ _ e; cases e), hK, hs, Ext.refl A M w, List.prefix_refl L⟩
  ·have hnews : ∀ j u, news[j]? = some u → w.cell? ((⟨b2, o2, none⟩ : Addr).add j) = some u := gV Qb hs.mem
   have km := yN.gk (AR jS)
   have LW : (flat ys).length = ys.length * esz := cD ys esz (fun y hy => (jS y hy).1)
   by_cases hroom : len + ys.length ≤ cap
   ·obtain ⟨nM, hK⟩ := ID hroom
    have wE : (len + ys.length) * esz ≤ cap * esz := Nat.mul_le_mul_right _ hroom
    rw [Nat.add_mul] at wE
    have adj : es.length = cs.size := by rw [← iI]; simp
    have bG := fP (P := P) (ty := ty) ht hi w b off len cap cs (0, 0) h1 (nK _) ⟨b2, o2, none⟩ ys.length c2 news (by rw [c9]; exact xk) hnews km hroom (by rw [c9, xk]; omega)
    rw [c9] at bG
    obtain ⟨O', g1, g2⟩ := hs.yT (off := off + len * esz) bm hl h1 h2 yN (by rw [LW]; omega) nM
    exact ⟨_, .bf id off (len + ys.length) cap, L, _, _, O', bG, .bf b off _ cap id hl hc, (by intro _ _ e; cases e), hK, g1, g2, List.prefix_refl L⟩
   ·have hlen : (len + ys.length) ≤ 140737488355328 := Nat.le_trans (Nat.le_mul_of_pos_right _ ui) hbound
    have hbound' : (len + ys.length) * i.bytes ≤ 140737488355328 := by rw [xj]; exact hbound
    have wE : len * esz ≤ cap * esz := Nat.mul_le_mul_right _ yK
    have Yw : ((cs.toList.drop off).take (len * esz)).length = len * esz := by rw [List.length_take, List.length_drop]; omega
    have hr := run_append_grow (P := P) w t ty e i zv ht hi hz ⟨b, off, none⟩ len cap ((cs.toList.drop off).take (len * esz)) (by rw [c9]; exact Yw) (fun j v hv => by rw [Addr.add_lit]; exact h3 _ _ (dk _ _ _ _ _ hv))
     ⟨b2, o2, none⟩ ys.length c2 news (by rw [c9]; exact xk) hnews (by omega) (by omega) (growslice_fits (by omega) hbound')
    exact grow _ news ((es.drop off).take (len * esz)) 0 (len + ys.length) cap _ ((h2.drop off).take _) yN (by simp only [maxLen]; omega) rfl hr fun fZ a b => Ii (by omega) fZ a b
theorem A5 (hs : St A M L w H ev ea O) {t e : TypeId} {i : TypeInfo} {zv : Value} {esz : Nat} (ht : P.underlying t = some (.slice e)) (hi : P.info? e = some i) (hz : i.zero = some zv) (h0 : 0 < esz)
 {z : AV} (Lk : ofValue zv = some z) (so : z.val = true) (iN : z.cells.length = esz) {v : Value} {x : AV} {K : List aa → Prop} (h : ig esz z x H K) (hv : aR M L v x) (ty : TypeId) :
 ∃ w' H' O', (Builtin.clear_ #[t] ty #[v]).run P w = .ok (.tuple #[]) w' ∧ K H' ∧ St A M L w' H' ev ea O' ∧ Ext A M w M w' := by
 unfold ig at h
 split at h <;> try exact h.elim
 rename_i id off len cap
 split at h <;> try exact h.elim
 rename_i es bm
 obtain ⟨s9, km, nM, hK⟩ := h
 cases hv with
 | bf b _ _ _ _ hl hc =>
 have AP := (cC (M := M) (L := L) Lk).bO.fO (oU so)
 have tx : zv.cells.size = esz := by have := AP.length; rw [jc, iN] at this; simpa using this
 have IC : aJ M L (Builtin.zeroCells zv.cells len).toList (dc z len) := by
  have := jt (M := M) (L := L) zv.cells esz len tx h0 (bO z) AP
  rw [Builtin.zeroCells, tx]
  rw [tx] at this
  exact this
 obtain ⟨cs, e', h1, h2, h3⟩ := hs.obj id _ b bm hl
 have iI := h2.length
 have wm : (dc z len).length = len * esz := by
  unfold dc
  rw [cD _ esz (fun y hy => by rw [List.eq_of_mem_replicate hy, jc]; exact iN), List.length_replicate]
 have pK := IC.length
 by_cases EW : len = 0
 ·subst EW
  have e0 : dc z 0 = [] := rfl
  rw [e0] at hK
  simp only [List.map_nil, kr] at hK
  have es' : H.set id (.cells es) = H := by
   obtain ⟨mD, e1⟩ := List.getElem?_eq_some_iff.1 bm
   rw [← e1]; simp
  rw [es'] at hK
  refine ⟨w, H, O, ?_, hK, hs, Ext.refl A M w⟩
  simp [Builtin.clear_, run_underlying ht]
 ·have bQ := run_storeCells_at P b off e' (Builtin.zeroCells zv.cells len).toList 0 cs w h1 (by simp at iI ⊢; simp at pK; omega) (IC.gk km)
  obtain ⟨O', g1, g2⟩ := hs.yT (off := off) bm hl h1 h2 IC (by omega) nM
  refine ⟨_, _, O', ?_, hK, g1, g2⟩
  have lB : (storeCells ⟨b, off, none⟩ (Builtin.zeroCells zv.cells len).toList).run P w = .ok () (w.setRow b (ag cs.toList off (Builtin.zeroCells zv.cells len).toList).toArray) := by simpa [ag] using bQ
  have hzero : (zeroValue e).run P w = .ok zv w := by simp [zeroValue, typeInfo, hi, hz]
  have mC : ∃ m, len = m + 1 := ⟨len - 1, by omega⟩
  obtain ⟨m, rfl⟩ := mC
  simp [Builtin.clear_, run_underlying ht, hzero, lB]
end
end Go.aK
end
