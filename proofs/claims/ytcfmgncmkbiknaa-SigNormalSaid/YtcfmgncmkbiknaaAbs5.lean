/- A memory-free reading of the model's values (part 5): reading memory. -/
import Derived.Test.YtcfmgncmkbiknaaAbs4
set_option linter.unusedVariables false
set_option linter.unusedSimpArgs false
namespace Go.Abs
open Go

section
variable {P : Program} {w : World} {M : Mem} {L : List Nat} {H : List AObj} {A : Nat → Prop} {ev : Nat → Value} {ea : Nat → AV} {O : Pos → Option Nat}

theorem no_free {z : AV} (h : z.one = true ∨ True) (x : AV) (e : z = x.unown) : ∀ own xs, z = .lst own xs → own = 0 := by subst e; exact AV.unown_free x

/-- A pointer that may be read. -/
theorem cells_of_obj (hs : St A M L w H ev ea O) {id b : Nat} {es : List AV} (hid : H[id]? = some (.cells es)) (hL : L[id]? = some b) :
    ∃ cs e, w.heap[b]? = some (.cells cs e (0, 0)) ∧ RepL M L cs.toList es ∧ ∀ j v, cs.toList[j]? = some v → w.cell? ⟨b, j, none⟩ = some v := by
  obtain ⟨cs, e, h1, h2, _⟩ := hs.obj id _ b hid hL
  exact ⟨cs, e, h1, h2, fun j v hv => by simpa [World.cell?, h1] using hv⟩

theorem list_drop_take {α : Type} (l : List α) (off m j : Nat) (v : α) (h : ((l.drop off).take m)[j]? = some v) : l[off + j]? = some v := by
  rw [List.getElem?_take] at h
  split at h
  · rwa [List.getElem?_drop] at h
  · cases h

theorem aload_run {sz : Option Nat} {t : TypeId} (ht : tsz P t = some sz) {u : Value} {x : AV} {φ : AV → Prop} (hs : St A M L w H ev ea O) (h : aload sz x H φ) (hu : Rep M L u x) :
    ∃ r z, (Instr.loadAt t u).run P w = .ok r w ∧ Rep M L r z ∧ φ z ∧ ∀ own xs, z = .lst own xs → own = 0 := by
  unfold aload at h
  split at h
  · rename_i id off
    cases hu with
    | ptr b _ _ hl =>
    split at h
    · rename_i es hid
      obtain ⟨cs, e, h1, h2, h3⟩ := cells_of_obj hs hid hl
      have hlen := h2.length
      cases sz with
      | some m =>
        obtain ⟨hm, hφ⟩ := h
        obtain ⟨r1, r2⟩ := run_isAgg_true (w := w) ht
        have hcl : ((cs.toList.drop off).take m).length = m := by simp at hlen ⊢; omega
        have hld := run_loadCells_list (P := P) w ⟨b, off, none⟩ ((cs.toList.drop off).take m) (fun j v hv => by rw [Addr.add_lit]; exact h3 _ _ (list_drop_take _ _ _ _ _ hv))
        rw [hcl] at hld
        refine ⟨.agg ((cs.toList.drop off).take m).toArray, .agg (((es.drop off).take m).map AV.drop), ?_, ?_, hφ, by intro _ _ e; cases e⟩
        · simp only [Instr.loadAt, Instr.sureAddr, loadVar, Sem.run_bind, Sem.run_pure, Result.andThen_ok, r1, if_true, r2, hld]
        · have := Rep.agg _ _ (((h2.drop off).take m).map_drop)
          simpa using this
      | none =>
        obtain ⟨hm, hφ⟩ := h
        obtain ⟨r1, r2⟩ := run_isAgg_false (w := w) (m := 0) ht
        have hoff : off < cs.toList.length := by omega
        have hcell := h3 off cs.toList[off] (by simp)
        have hrep := h2.getD off
        refine ⟨cs.toList[off], _, ?_, ?_, hφ, AV.unown_free _⟩
        · simp only [Instr.loadAt, Instr.sureAddr, loadVar, Sem.run_bind, Sem.run_pure, Result.andThen_ok, r1, Bool.false_eq_true, if_false, run_load, hcell]
        · have e0 : cs.toList.getD off undef = cs.toList[off] := by rw [List.getD_eq_getElem?_getD, List.getElem?_eq_getElem hoff]; rfl
          rw [e0] at hrep
          exact hrep.unown
    · exact h.elim
  · rename_i y
    cases hu with
    | iptr b off cs _ hr hm =>
    have hcells := row_cells hm hs.mem
    cases sz with
    | some m =>
      obtain ⟨hm', hφ⟩ := h
      obtain ⟨r1, r2⟩ := run_isAgg_true (w := w) ht
      have hcl : cs.length = m := hr.length.trans hm'
      have hld := run_loadCells_list (P := P) w ⟨b, off, none⟩ cs hcells
      rw [hcl] at hld
      refine ⟨.agg cs.toArray, .agg y.cells, ?_, .agg cs y.cells hr, hφ, by intro _ _ e; cases e⟩
      simp only [Instr.loadAt, Instr.sureAddr, loadVar, Sem.run_bind, Sem.run_pure, Result.andThen_ok, r1, if_true, r2, hld]
    | none =>
      obtain ⟨hm', hφ⟩ := h
      obtain ⟨r1, r2⟩ := run_isAgg_false (w := w) (m := 0) ht
      have hy : y.cells = [y] := by cases y <;> first | rfl | simp [AV.one] at hm'
      rw [hy] at hr
      obtain ⟨v, rfl, hv⟩ := hr.one_inv
      have hcell := hcells 0 v (by simp)
      rw [Addr.add_lit, Nat.add_zero] at hcell
      refine ⟨v, _, ?_, hv.unown, hφ, AV.unown_free _⟩
      simp only [Instr.loadAt, Instr.sureAddr, loadVar, Sem.run_bind, Sem.run_pure, Result.andThen_ok, r1, Bool.false_eq_true, if_false, run_load, hcell]
  · exact h.elim

/-- A field's place in a struct type. -/
def tfield (P : Program) (s : TypeId) (f : Nat) : Option (Nat × Option Nat) :=
  match P.underlying s with
  | some (.struct fields) => match fields[f]? with
    | some fd => match tsz P fd.type, tcells P fd.type with
      | some sz, some k => if k = 0 then none else some (fd.offset, sz)
      | _, _ => none
    | none => none
  | _ => none

theorem tfield_spec {s : TypeId} {f off : Nat} {sz : Option Nat} (h : tfield P s f = some (off, sz)) :
    ∃ fields fd k, P.underlying s = some (.struct fields) ∧ fields[f]? = some fd ∧ fd.offset = off ∧ tsz P fd.type = some sz ∧ (P.info? fd.type).map (·.size) = some k ∧ k ≠ 0 := by
  unfold tfield at h
  split at h <;> try cases h
  rename_i fields hu
  split at h <;> try cases h
  rename_i fd hf
  split at h <;> try cases h
  rename_i sz' k hs hk
  split at h <;> cases h
  rename_i hk0
  exact ⟨fields, fd, k, hu, hf, rfl, hs, hk, hk0⟩

theorem afieldAddr_run {s : TypeId} {f off : Nat} {sz : Option Nat} (ht : tfield P s f = some (off, sz)) {u : Value} {x : AV} {φ : AV → Prop} (h : afieldAddr off sz x φ) (hu : Rep M L u x) :
    ∃ r z, (Instr.fieldAt s u f).run P w = .ok r w ∧ Rep M L r z ∧ φ z ∧ ∀ own xs, z = .lst own xs → own = 0 := by
  obtain ⟨fields, fd, k, hu1, hf, rfl, hs, hk, hk0⟩ := tfield_spec ht
  have hrun : ∀ b o, (Instr.fieldAt s (.pointer (some ⟨b, o, none⟩)) f).run P w = .ok (.pointer (some ⟨b, o + fd.offset, none⟩)) w := by
    intro b o
    obtain ⟨i, hi, hik⟩ := Option.map_eq_some_iff.1 hk
    have hsz : (sizeOf fd.type).run P w = .ok k w := by simp [sizeOf, typeInfo, hi, hik]
    simp only [Instr.fieldAt, Instr.sureAddr, Sem.run_bind, run_underlying hu1, Result.andThen_ok, hf, Sem.run_pure, fieldPlace, hsz, hk0, if_false, Addr.add_lit]
  unfold afieldAddr at h
  split at h
  · rename_i id o
    cases hu with
    | ptr b _ _ hl => exact ⟨_, _, hrun b o, .ptr b (o + fd.offset) id hl, h, by intro _ _ e; cases e⟩
  · rename_i y
    cases hu with
    | iptr b o cs _ hr hm =>
    refine ⟨.pointer (some ⟨b, o + fd.offset, none⟩), ?_⟩
    unfold apart at h
    cases sz with
    | some m =>
      obtain ⟨hle, hφ⟩ := h
      refine ⟨_, hrun b o, .iptr b (o + fd.offset) ((cs.drop fd.offset).take m) _ (by simpa [AV.cells] using (hr.drop fd.offset).take m) ?_, hφ, by intro _ _ e; cases e⟩
      intro j v hv
      have := hm _ _ (list_drop_take _ _ _ _ _ hv)
      rwa [← Nat.add_assoc] at this
    | none =>
      obtain ⟨hle, h1, hφ⟩ := h
      have hl := hr.length
      have hoff : fd.offset < cs.length := by omega
      have hx : ∃ z, y.cells[fd.offset]? = some z := ⟨_, List.getElem?_eq_getElem hle⟩
      obtain ⟨z, hz⟩ := hx
      obtain ⟨v, hv, hrep⟩ := hr.get _ z hz
      have e0 : y.cells.getD fd.offset .any = z := by rw [List.getD_eq_getElem?_getD, hz]; rfl
      rw [e0] at hφ h1
      have hag : z.cells = [z] := by cases z <;> first | rfl | simp [AV.one] at h1
      refine ⟨_, hrun b o, .iptr b (o + fd.offset) [v] z (by rw [hag]; exact .one hrep) ?_, hφ, by intro _ _ e; cases e⟩
      intro j u' hu'
      cases j with
      | zero => simp at hu'; subst hu'; simpa using hm _ _ hv
      | succ j => simp at hu'
  · exact h.elim

theorem afield_run {s : TypeId} {f off : Nat} {sz : Option Nat} (ht : tfield P s f = some (off, sz)) {u : Value} {x : AV} {φ : AV → Prop} (h : afield off sz x φ) (hu : Rep M L u x) :
    ∃ r z, (Instr.field s u f).run P w = .ok r w ∧ Rep M L r z ∧ φ z ∧ ∀ own xs, z = .lst own xs → own = 0 := by
  obtain ⟨fields, fd, k, hu1, hf, rfl, hs, hk, hk0⟩ := tfield_spec ht
  unfold afield at h
  split at h
  · rename_i xs
    cases hu with
    | agg cs _ hr =>
    unfold apart at h
    cases sz with
    | some m =>
      obtain ⟨hle, hφ⟩ := h
      obtain ⟨r1, r2⟩ := run_isAgg_true (w := w) hs
      refine ⟨.agg ((cs.drop fd.offset).take m).toArray, _, ?_, (Rep.agg _ _ ((hr.drop fd.offset).take m)).drop, hφ, AV.drop_free _⟩
      simp only [Instr.field, Sem.run_bind, run_underlying hu1, Result.andThen_ok, hf, part, r1, if_true, asAgg, Sem.run_pure, r2]
      congr 2
      apply Array.ext'
      simp [List.drop_take]
    | none =>
      obtain ⟨hle, h1, hφ⟩ := h
      obtain ⟨r1, r2⟩ := run_isAgg_false (w := w) (m := 0) hs
      have hoff : fd.offset < cs.length := by have := hr.length; omega
      have hrep := hr.getD fd.offset
      have e0 : cs.getD fd.offset undef = cs[fd.offset] := by rw [List.getD_eq_getElem?_getD, List.getElem?_eq_getElem hoff]; rfl
      rw [e0] at hrep
      refine ⟨cs[fd.offset], _, ?_, hrep.drop, hφ, AV.drop_free _⟩
      simp [Instr.field, run_underlying hu1, hf, part, r1, asAgg, hoff]
  · exact h.elim

theorem flat_get : ∀ (xs : List AV) (e : Nat), (∀ x ∈ xs, x.cells.length = e) → ∀ i j x, xs[i]? = some x → j < e → (flat xs)[i * e + j]? = x.cells[j]?
  | [], e, _, i, j, x, h, _ => by simp at h
  | y :: ys, e, hx, 0, j, x, h, hj => by
    simp at h; subst h
    have := hx y (by simp)
    simp only [flat, List.flatMap_cons, Nat.zero_mul, Nat.zero_add]
    rw [List.getElem?_append_left (by omega)]
  | y :: ys, e, hx, i + 1, j, x, h, hj => by
    have hy := hx y (by simp)
    have ih := flat_get ys e (fun x h => hx x (by simp [h])) i j x (by simpa using h) hj
    simp only [flat, List.flatMap_cons]
    rw [List.getElem?_append_right (by rw [hy, Nat.add_mul]; omega), hy, show (i + 1) * e + j - e = i * e + j by rw [Nat.add_mul]; omega]
    exact ih

/-- An element's cells lie where they should. -/
theorem elem_rep {b off e : Nat} {cs : List Value} {xs : List AV} (hx : ∀ x ∈ xs, x.cells.length = e) (hr : RepL M L cs (flat xs)) (hm : M.row b off cs) {i : Nat} {x : AV} (hi : xs[i]? = some x) :
    Rep M L (.pointer (some ⟨b, off + i * e, none⟩)) (.iptr x) := by
  have hlen := hx x (List.mem_of_getElem? hi)
  refine .iptr b (off + i * e) ((cs.drop (i * e)).take e) x ?_ ?_
  · have h2 := (hr.drop (i * e)).take e
    have : ((flat xs).drop (i * e)).take e = x.cells := by
      apply List.ext_getElem?
      intro j
      rw [List.getElem?_take]
      split
      · rename_i hj
        rw [List.getElem?_drop, flat_get xs e hx i j x hi hj]
      · rename_i hj
        rw [List.getElem?_eq_none (by omega)]
    rwa [this] at h2
  · intro j v hv
    have := hm _ _ (list_drop_take _ _ _ _ _ hv)
    rwa [← Nat.add_assoc] at this

theorem aindexAddr_run {t e esz : Nat} (ht : P.underlying t = some (.slice e)) (hz : tcells P e = some esz) {u v : Value} {x y : AV} {φ : AV → Prop} (h : aindexAddr esz x y φ)
    (hesz : ∀ own xs, x = .lst own xs → ∀ z ∈ xs, z.cells.length = esz) (hu : Rep M L u x) (hv : Rep M L v y) :
    ∃ r z, (Instr.indexAt t u v).run P w = .ok r w ∧ Rep M L r z ∧ φ z ∧ ∀ own xs, z = .lst own xs → own = 0 := by
  have hsz : (sizeOf e).run P w = .ok esz w := by
    obtain ⟨i, hi, hik⟩ := Option.map_eq_some_iff.1 hz
    simp [sizeOf, typeInfo, hi, hik]
  have hrun : ∀ (b o len cap : Nat) (k : IntKind) (i : Int), 0 ≤ i → i.toNat < len → (Instr.indexAt t (.slice (some ⟨b, o, none⟩) len cap) (.int k i)).run P w = .ok (.pointer (some ⟨b, o + i.toNat * esz, none⟩)) w := by
    intro b o len cap k i h0 h1
    have hc : 0 ≤ i ∧ i < (len : Int) := ⟨h0, by omega⟩
    simp only [Instr.indexAt, asIntOf, Sem.run_bind, Sem.run_pure, Result.andThen_ok, run_underlying ht, hc, and_self, if_true, hsz, Addr.add_lit]
  unfold aindexAddr at h
  split at h
  · rename_i own xs k i
    obtain ⟨h0, h1, hφ⟩ := h
    cases hv
    have hi : xs[i.toNat]? = some (xs.getD i.toNat .any) := by rw [List.getD_eq_getElem?_getD, List.getElem?_eq_getElem h1]; rfl
    cases hu with
    | lst0 => simp at h1
    | lst b off c _ e' cs _ he hx hn hle hc hr hm =>
      have e0 : e' = esz := by
        have h2 := hx _ (List.mem_of_getElem? hi)
        have h3 := hesz own xs rfl _ (List.mem_of_getElem? hi)
        omega
      subst e0
      exact ⟨_, _, hrun b off _ c _ i h0 h1, elem_rep hx hr hm hi, hφ, by intro _ _ e; cases e⟩
  · rename_i id off len cap k i
    obtain ⟨h0, h1, hφ⟩ := h
    cases hv
    cases hu with
    | arr b _ _ _ _ hl hc => exact ⟨_, _, hrun b off len cap _ i h0 h1, .ptr b _ id hl, hφ, by intro _ _ e; cases e⟩
  · exact h.elim

theorem aindexStr_run {t : TypeId} (ht : P.underlying t = some .string) {u v : Value} {x y : AV} {φ : AV → Prop} (h : aindexStr x y φ) (hu : Rep M L u x) (hv : Rep M L v y) :
    ∃ r z, (Instr.index t u v).run P w = .ok r w ∧ Rep M L r z ∧ φ z ∧ ∀ own xs, z = .lst own xs → own = 0 := by
  unfold aindexStr at h
  split at h
  · rename_i s k i
    obtain ⟨h0, h1, hφ⟩ := h
    cases hu; cases hv
    have e1 : s[i.toNat]? = some s[i.toNat] := by simp [h1]
    have e2 : s.data.toList.getD i.toNat 0 = s[i.toNat] := by
      have : i.toNat < s.data.size := h1
      rw [List.getD_eq_getElem?_getD, Array.getElem?_toList, Array.getElem?_eq_getElem this]; rfl
    rw [e2] at hφ
    refine ⟨_, _, ?_, .int _ _, hφ, by intro _ _ e; cases e⟩
    simp only [Instr.index, asIntOf, Sem.run_bind, Sem.run_pure, Result.andThen_ok, run_underlying ht, h0, if_true, e1]
  · exact h.elim

def lenFit (d : TypeDesc) (x : AV) : Bool :=
  match d, x with
  | .string, .str _ => true
  | .slice _, .nils => true
  | .slice _, .lst _ _ => true
  | .slice _, .arr _ _ _ _ => true
  | .map _ _, .nilm => true
  | .map _ _, .map _ => true
  | _, _ => false

theorem alen_run {t : TypeId} {d : TypeDesc} (ht : P.underlying t = some d) {u : Value} {x : AV} {φ : AV → Prop} (hs : St A M L w H ev ea O)
    (hk : lenFit d x = true)
    (h : alen x H φ) (hu : Rep M L u x) (ty : TypeId) :
    ∃ r z, (Builtin.len_ #[t] ty #[u]).run P w = .ok r w ∧ Rep M L r z ∧ φ z ∧ ∀ own xs, z = .lst own xs → own = 0 := by
  unfold alen at h
  split at h
  · cases hu
    cases d <;> simp [lenFit] at hk
    exact ⟨_, _, by simp [Builtin.len_, run_underlying ht, goInt], .int _ _, h, by intro _ _ e; cases e⟩
  · cases hu
    cases d <;> simp [lenFit] at hk
    exact ⟨_, _, by simp [Builtin.len_, run_underlying ht, goInt], .int _ _, h, by intro _ _ e; cases e⟩
  · rename_i own xs
    cases d <;> simp [lenFit] at hk
    cases hu with
    | lst0 a c _ hc => exact ⟨_, _, by simp [Builtin.len_, run_underlying ht, goInt], .int _ _, h (by decide), by intro _ _ e; cases e⟩
    | lst b off c _ e' cs _ he hx hn hle hc hr hm => exact ⟨_, _, by simp [Builtin.len_, run_underlying ht, goInt], .int _ _, h (by omega), by intro _ _ e; cases e⟩
  · cases d <;> simp [lenFit] at hk
    cases hu with
    | arr b off len cap id hl hc => exact ⟨_, _, by simp [Builtin.len_, run_underlying ht, goInt], .int _ _, h, by intro _ _ e; cases e⟩
  · cases d <;> simp [lenFit] at hk
    cases hu
    exact ⟨_, _, by simp [Builtin.len_, run_underlying ht, goInt], .int _ _, h, by intro _ _ e; cases e⟩
  · rename_i id
    cases d <;> simp [lenFit] at hk
    cases hu with
    | map b _ hl =>
    split at h
    · rename_i es hid
      obtain ⟨ents, ck, h1, h2, h3⟩ := hs.obj id _ b hid hl
      have hlen : ents.size = es.length := by have := h2.length; simpa using this
      refine ⟨_, _, ?_, .int _ _, h, by intro _ _ e; cases e⟩
      simp [Builtin.len_, run_underlying ht, goInt, getObj, Sem.run, h1, hlen]
    · exact h.elim
  · exact h.elim

theorem aextract_run {i : Nat} {u : Value} {x : AV} {φ : AV → Prop} (h : aextract x i φ) (hu : Rep M L u x) :
    ∃ r z, (Instr.extract u i).run P w = .ok r w ∧ Rep M L r z ∧ φ z ∧ ∀ own xs, z = .lst own xs → own = 0 := by
  unfold aextract at h
  split at h
  · rename_i xs
    obtain ⟨hi, hφ⟩ := h
    cases hu with
    | tuple cs _ hr =>
    have hl := hr.length
    have hrep := hr.getD i
    have e0 : cs.getD i undef = cs[i] := by rw [List.getD_eq_getElem?_getD, List.getElem?_eq_getElem (by omega)]; rfl
    rw [e0] at hrep
    exact ⟨_, _, by simp [Instr.extract, show i < cs.length by omega], hrep.unown, hφ, AV.unown_free _⟩
  · exact h.elim

theorem anilCheck_run {o : Oper} {X : Operand} {ρ : Operand → Value} (ho : o.op = .nilCheck X) {x : AV} {φ : AV → Prop} (h : anilCheck x φ) (hu : Rep M L (ρ X) x) :
    ∃ r z, (execOp ρ o).run P w = .ok (.value r) w ∧ Rep M L r z ∧ φ z ∧ ∀ own xs, z = .lst own xs → own = 0 := by
  unfold anilCheck at h
  simp only [execOp, ho]
  generalize hρ : ρ X = u at hu
  split at h
  · cases hu; exact ⟨_, _, rfl, .ptr _ _ _ (by assumption), h, by intro _ _ e; cases e⟩
  · cases hu; exact ⟨_, _, rfl, .iptr _ _ _ _ (by assumption) (by assumption), h, by intro _ _ e; cases e⟩
  · cases hu; exact ⟨_, _, rfl, .fn _ _ _ _ _ (by assumption) (by assumption), h, by intro _ _ e; cases e⟩
  · exact h.elim

theorem aconvInt_run {src dst : TypeId} {d : TypeDesc} {k : IntKind} (hs : P.underlying src = some d) (hd : P.underlying dst = some (.int k)) {u : Value} {x : AV} {φ : AV → Prop} (h : aconvInt k x φ) (hu : Rep M L u x) :
    ∃ r z, (convert src dst u).run P w = .ok r w ∧ Rep M L r z ∧ φ z ∧ ∀ own xs, z = .lst own xs → own = 0 := by
  unfold aconvInt at h
  split at h
  · rename_i k' n'
    cases hu
    refine ⟨_, _, ?_, .int _ _, h, by intro _ _ e; cases e⟩
    simp [convert, run_underlying hs, run_underlying hd, Conv.intToInt]
  · exact h.elim

theorem amx_run {big : Bool} {u v : Value} {x y : AV} {φ : AV → Prop} (h : amx big x y φ) (hu : Rep M L u x) (hv : Rep M L v y) (ts : Array TypeId) (ty : TypeId) :
    ∃ r z, (if big then Builtin.max_ ts ty #[u, v] else Builtin.min_ ts ty #[u, v]).run P w = .ok r w ∧ Rep M L r z ∧ φ z ∧ ∀ own xs, z = .lst own xs → own = 0 := by
  unfold amx at h
  split at h
  · cases hu; cases hv
    cases big
    · exact ⟨_, _, rfl, .int _ _, h, by intro _ _ e; cases e⟩
    · exact ⟨_, _, rfl, .int _ _, h, by intro _ _ e; cases e⟩
  · exact h.elim
end
end Go.Abs
