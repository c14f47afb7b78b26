/- A memory-free reading of the model's values (part 8): new slices, parts of slices, texts, maps. -/
import Derived.Test.YtcfmgncmkbiknaaAbs7
set_option linter.unusedVariables false
set_option linter.unusedSimpArgs false
namespace Go.Abs
open Go

def zcanon : AV → AV
  | .agg ys => .agg (ys.map AV.drop)
  | z => z

section
variable {P : Program} {w : World} {M : Mem} {L : List Nat} {H : List AObj} {A : Nat → Prop} {ev : Nat → Value} {ea : Nat → AV} {O : Pos → Option Nat}

theorem zcanon_cells (z : AV) : (zcanon z).cells.length = z.cells.length := by cases z <;> simp [zcanon, AV.cells]
theorem Rep.zcanon {v : Value} {z : AV} (h : Rep M L v z) : Rep M L v (zcanon z) := by
  cases z <;> first | exact h | skip
  cases h with
  | agg cs _ hr => exact .agg cs _ hr.map_drop
theorem zcanon_val {x : AV} (h : x.val = true) : (Go.Abs.zcanon x).val = true := by
  cases x <;> simp_all [Go.Abs.zcanon, AV.val]

/-- make([]T, n). -/
def amkarr (esz bytes : Nat) (z n : AV) (H : List AObj) (K : AV → List AObj → Prop) : Prop :=
  match n with
  | .int .i64 n => 0 ≤ n ∧ n.toNat * bytes ≤ 140737488355328 ∧ belowL (H.length + 1) (flat (List.replicate n.toNat (zcanon z))) = true ∧
      K (.arr H.length 0 n.toNat n.toNat) (H ++ [.cells (flat (List.replicate n.toNat (zcanon z)))])
  | _ => False

theorem run_mk {t e : TypeId} {i : TypeInfo} {z : Value} {esz bytes : Nat} (ht : P.underlying t = some (.slice e)) (hi : P.info? e = some i) (hz : i.zero = some z) (hsz : i.size = esz) (hby : i.bytes = bytes) (hzs : z.cells.size = esz) (h0 : 0 < esz) (hb0 : 0 < bytes)
    (l c : Int) (hl0 : 0 ≤ l) (hlc : l ≤ c) (hc : c.toNat * bytes ≤ 140737488355328) (w : World) :
    ∃ cs : Array Value, (Instr.makeSlice t (.int .i64 l) (.int .i64 c)).run P w = .ok (.slice (some ⟨w.heap.size, 0, none⟩) l.toNat c.toNat) { w with heap := w.heap.push (.cells cs e) } ∧ cs = (Array.range (c.toNat * esz)).map (z.cells[· % z.cells.size]!) := by
  have hcl : c.toNat ≤ 140737488355328 := Nat.le_trans (Nat.le_mul_of_pos_right _ hb0) hc
  have hc0 : 0 ≤ c := by omega
  have w1 : IntKind.i64.wrap l = l := by
    have : IntKind.i64.bits = 64 := rfl
    have : IntKind.i64.signed = true := rfl
    simp only [IntKind.wrap, *]
    have : l % 2 ^ 64 = l := Int.emod_eq_of_lt hl0 (by omega)
    rw [this]
    rw [if_neg (by simp; omega)]
  have w2 : IntKind.i64.wrap c = c := by
    have : IntKind.i64.bits = 64 := rfl
    have : IntKind.i64.signed = true := rfl
    simp only [IntKind.wrap, *]
    have : c % 2 ^ 64 = c := Int.emod_eq_of_lt hc0 (by omega)
    rw [this]
    rw [if_neg (by simp; omega)]
  have hcn : (c.toNat : Int) = c := Int.toNat_of_nonneg hc0
  have hbig : ¬ ((bytes : Int) * c > 2 ^ 48) := by
    have : (bytes : Int) * c = ((c.toNat * bytes : Nat) : Int) := by rw [Int.natCast_mul, hcn, Int.mul_comm]
    rw [this]; omega
  have hneg : ¬ c < 0 := by omega
  have hneg2 : ¬ l < 0 := by omega
  have hgt : ¬ l > c := by omega
  refine ⟨_, ?_, rfl⟩
  simp only [Instr.makeSlice, Sem.run_bind, run_underlying ht, Result.andThen_ok, asInt, asIntOf, Sem.run_pure, typeInfo, run_program, hi, hby, w1, w2, hneg, hneg2, hgt, hbig, decide_false, Bool.or_self, Bool.false_eq_true, or_self, if_false, run_askRoom, sizeOf, hsz]
  by_cases hn : c.toNat * esz = 0
  · simp [hn, newRow]
    congr 2
    apply Array.ext'
    simp
  · simp [hn, zeroValue, typeInfo, hi, hz, newRow]

theorem amkarr_run (hs : St A M L w H ev ea O) {t e : TypeId} {i : TypeInfo} {zv : Value} {esz bytes : Nat} (ht : P.underlying t = some (.slice e)) (hi : P.info? e = some i) (hz : i.zero = some zv) (hsz : i.size = esz) (hby : i.bytes = bytes) (h0 : 0 < esz) (hb0 : 0 < bytes)
    {z : AV} (hza : ofValue zv = some z) (hzv : z.val = true) (hzl : z.cells.length = esz) (hzf : ∀ y ∈ z.cells, ∀ own xs, y = .lst own xs → own = 0) {u : Value} {n : AV} {K : AV → List AObj → Prop} (h : amkarr esz bytes z n H K) (hu : Rep M L u n) :
    ∃ r x L' w' H', (Instr.makeSlice t u u).run P w = .ok r w' ∧ Rep M L' r x ∧ (∀ own xs, x = .lst own xs → own = 0) ∧ K x H' ∧ St A M L' w' H' ev ea O ∧ Ext A M w M w' ∧ L <+: L' := by
  unfold amkarr at h
  split at h <;> try exact h.elim
  rename_i n
  obtain ⟨hn0, hnb, hbl, hK⟩ := h
  cases hu
  have hzr := (ofValue_rep (M := M) (L := L) hza).zcanon.vcells (zcanon_val hzv)
  have hzs : zv.cells.size = esz := by have := hzr.length; rw [zcanon_cells, hzl] at this; simpa using this
  obtain ⟨cs, hrun, rfl⟩ := run_mk ht hi hz hsz hby hzs h0 hb0 n n hn0 (Int.le_refl _) hnb w
  have hcells := zero_cells (M := M) (L := L) zv.cells esz n.toNat hzs h0 (zcanon z) hzr
  have hcn : n.toNat ≤ 140737488355328 := Nat.le_trans (Nat.le_mul_of_pos_right _ hb0) hnb
  obtain ⟨g1, g2⟩ := hs.addObj (.cells ((Array.range (n.toNat * esz)).map (zv.cells[· % zv.cells.size]!)) e) (.cells (flat (List.replicate n.toNat (zcanon z)))) (fun w' hw hM => ⟨_, e, hw, hcells.mono (Mem.sub_refl M) ⟨_, rfl⟩, hM⟩) (by simpa [AObj.blw] using hbl) (fun j => by
    simp only [aobjCell]
    refine Spare.free ?_
    intro own xs hh
    rw [List.getD_eq_getElem?_getD] at hh
    cases hx : (flat (List.replicate n.toNat (zcanon z)))[j]? with
    | none => simp [hx] at hh
    | some y =>
      simp [hx] at hh
      have hy := List.mem_of_getElem? hx
      simp only [flat, List.mem_flatMap] at hy
      obtain ⟨q, hq, hyq⟩ := hy
      rw [List.eq_of_mem_replicate hq] at hyq
      subst hh
      cases z <;> simp only [zcanon, AV.cells] at hyq hzf
      case agg ys =>
        obtain ⟨y', _, hy'⟩ := List.mem_map.1 hyq
        exact AV.drop_free y' own xs hy'
      all_goals exact hzf _ hyq own xs rfl)
  refine ⟨_, .arr H.length 0 n.toNat n.toNat, _, _, _, hrun, .arr w.heap.size 0 _ _ H.length ?_ (by omega), (by intro _ _ e; cases e), hK, g1, g2, ⟨_, rfl⟩⟩
  rw [List.getElem?_append_right (by rw [hs.len]; exact Nat.le_refl _), hs.len]; simp

/-- make([]T, 0, n). -/
def amkbuf (esz bytes : Nat) (n : AV) (φ : AV → Prop) : Prop :=
  match n with
  | .int .i64 n => 0 ≤ n ∧ n.toNat * bytes ≤ 140737488355328 ∧ φ (.lst esz [])
  | _ => False

theorem amkbuf_run (hs : St A M L w H ev ea O) {t e : TypeId} {i : TypeInfo} {zv : Value} {esz bytes : Nat} (ht : P.underlying t = some (.slice e)) (hi : P.info? e = some i) (hz : i.zero = some zv) (hsz : i.size = esz) (hby : i.bytes = bytes) (h0 : 0 < esz) (hb0 : 0 < bytes)
    (hzs : zv.cells.size = esz) {u : Value} {n : AV} {φ : AV → Prop} (h : amkbuf esz bytes n φ) (hu : Rep M L u n) :
    ∃ r w' M' b, (Instr.makeSlice t (.int .i64 0) u).run P w = .ok r w' ∧ Rep M' L r (.lst esz []) ∧ φ (.lst esz []) ∧ Spare M' w' r (.lst esz []) (some b) ∧ St A M' L w' H ev ea O ∧ Ext A M w M' w' ∧
      (∀ q, O q ≠ some b) ∧ b ∉ L ∧ b < w'.heap.size ∧ A b := by
  unfold amkbuf at h
  split at h <;> try exact h.elim
  rename_i n
  obtain ⟨hn0, hnb, hφ⟩ := h
  cases hu
  obtain ⟨cs, hrun, hcs⟩ := run_mk ht hi hz hsz hby hzs h0 hb0 0 n (Int.le_refl _) hn0 hnb w
  have hcn : n.toNat ≤ 140737488355328 := Nat.le_trans (Nat.le_mul_of_pos_right _ hb0) hnb
  obtain ⟨g1, g2, g3⟩ := hs.addBlock cs e (0, 0) [] (fun j v hv => by simp at hv)
  refine ⟨_, _, _, w.heap.size, hrun, .lst0 _ _ _ (by omega), hφ, ?_, g1, g2, fun q hq => absurd (hs.olt q _ hq) (Nat.lt_irrefl _), fun hm => absurd (hs.lt _ hm) (Nat.lt_irrefl _), by simp, hs.fresh _ (Nat.le_refl _)⟩
  unfold Spare
  simp only [Nat.ne_of_gt h0, if_false]
  refine ⟨by simp, .inr ⟨_, 0, 0, n.toNat, cs, e, (0, 0), rfl, by simp, heap_push_new w _, okfr_zero _, ?_, ?_⟩⟩
  · rw [hcs]; simp
  · intro k _ _
    simp [Mem.add]

/-! ### Parts of slices and texts -/
def aidx (x : Option AV) (d : Nat) (φ : Nat → Prop) : Prop :=
  match x with
  | none => φ d
  | some (.int _ i) => 0 ≤ i ∧ φ i.toNat
  | _ => False

/-- x[l:h], x[l:h:h]. -/
def aslice (esz : Nat) (x : AV) (lo hi mx : Option AV) (φ : AV → Prop) : Prop :=
  match rlist x with
  | some xs => aidx hi xs.length fun h => aidx lo 0 fun l => l ≤ h ∧ h ≤ xs.length ∧
      match mx with
      | none => φ (.lst 0 ((xs.take h).drop l))
      | some m => hi.isSome = true ∧ aidx (some m) 0 fun m => m = h ∧ (∀ y ∈ xs, y.cells.length = esz) ∧ φ (.lst esz ((xs.take h).drop l))
  | none => False

theorem flat_take : ∀ (xs : List AV) (e n : Nat), (∀ y ∈ xs, y.cells.length = e) → flat (xs.take n) = (flat xs).take (n * e)
  | [], e, n, _ => by simp [flat]
  | y :: ys, e, 0, _ => by simp [flat]
  | y :: ys, e, n + 1, hx => by
    have hy := hx y (by simp)
    have ih := flat_take ys e n (fun z hz => hx z (by simp [hz]))
    simp only [flat] at ih
    simp only [List.take_succ_cons, flat, List.flatMap_cons, ih]
    rw [List.take_append, List.take_of_length_le (l := y.cells) (by rw [hy, Nat.add_mul]; omega), hy, show (n + 1) * e - e = n * e by rw [Nat.add_mul]; omega]
theorem flat_drop : ∀ (xs : List AV) (e n : Nat), (∀ y ∈ xs, y.cells.length = e) → flat (xs.drop n) = (flat xs).drop (n * e)
  | [], e, n, _ => by simp [flat]
  | y :: ys, e, 0, _ => by simp [flat]
  | y :: ys, e, n + 1, hx => by
    have hy := hx y (by simp)
    have ih := flat_drop ys e n (fun z hz => hx z (by simp [hz]))
    simp only [flat] at ih
    simp only [List.drop_succ_cons, flat, List.flatMap_cons]
    rw [ih, List.drop_append, List.drop_eq_nil_of_le (as := y.cells) (by rw [hy, Nat.add_mul]; omega), hy, show (n + 1) * e - e = n * e by rw [Nat.add_mul]; omega]
    rfl

def optRep (M : Mem) (L : List Nat) (x : Option AV) (v : Option Value) : Prop := match x, v with | none, none => True | some x, some v => Rep M L v x | _, _ => False

theorem aidx_bound {x : Option AV} {v : Option Value} (hx : optRep M L x v) {d : Nat} {φ : Nat → Prop} (h : aidx x d φ) :
    ∃ k, φ k ∧ ((x = none ∧ v = none ∧ k = d) ∨ ∃ kd i, v = some (.int kd i) ∧ 0 ≤ i ∧ i.toNat = k) := by
  unfold aidx at h
  split at h
  · cases v with
    | none => exact ⟨d, h, .inl ⟨rfl, rfl, rfl⟩⟩
    | some v => exact hx.elim
  · rename_i kd i
    cases v with
    | none => exact hx.elim
    | some v =>
      have hx' : Rep M L v (.int kd i) := hx
      cases hx'
      exact ⟨_, h.2, .inr ⟨_, _, rfl, h.1, rfl⟩⟩
  · exact h.elim

theorem run_sliceBound (w : World) (kd : IntKind) (i : Int) (y : Nat) (code : BoundsCode) (h0 : 0 ≤ i) (h1 : i.toNat ≤ y) : (Instr.sliceBound (.int kd i) y code).run P w = .ok i.toNat w := by
  have : 0 ≤ i ∧ i ≤ (y : Int) := ⟨h0, by omega⟩
  simp [Instr.sliceBound, asIntOf, this]

theorem aslice_run (hs : St A M L w H ev ea O) {t e : TypeId} {esz : Nat} (ht : P.underlying t = some (.slice e)) (he : tcells P e = some esz) (h0 : 0 < esz) {u : Value} {x : AV} {lo hi mx : Option AV} {vlo vhi vmx : Option Value} {φ : AV → Prop}
    (h : aslice esz x lo hi mx φ) (hu : Rep M L u x) (hesz : ∀ own xs, x = .lst own xs → ∀ z ∈ xs, z.cells.length = esz)
    (h1 : optRep M L lo vlo) (h2 : optRep M L hi vhi) (h3 : optRep M L mx vmx) :
    ∃ a n c own ys, (Instr.sliceAt t u vlo vhi vmx).run P w = .ok (.slice a n c) w ∧ Rep M L (.slice a n c) (.lst own ys) ∧ φ (.lst own ys) ∧ (own ≠ 0 → n = c ∧ ∀ y ∈ ys, y.cells.length = own) := by
  unfold aslice at h
  split at h <;> try exact h.elim
  rename_i xs hxs
  have hsz : (sizeOf e).run P w = .ok esz w := by
    obtain ⟨i, hi, hik⟩ := Option.map_eq_some_iff.1 he
    simp [sizeOf, typeInfo, hi, hik]
  obtain ⟨hh, h, hhi⟩ := aidx_bound h2 h
  obtain ⟨ll, h, hlo⟩ := aidx_bound h1 h
  obtain ⟨hle, hhl, h⟩ := h
  have hul : ∃ own, Rep M L u (.lst own xs) := by
    unfold rlist at hxs
    split at hxs
    · cases hxs; cases hu; exact ⟨0, .lst0 _ _ _ (by decide)⟩
    · cases hxs; exact ⟨_, hu⟩
    · cases hxs
  obtain ⟨own0, hul⟩ := hul
  have hxl : ∀ z ∈ xs, z.cells.length = esz := by
    unfold rlist at hxs
    split at hxs
    · cases hxs; simp
    · cases hxs; exact hesz _ _ rfl
    · cases hxs
  have hform : ∃ bs c, u = .slice bs xs.length c ∧ xs.length ≤ c ∧ c < 9223372036854775808 := by
    cases hul with
    | lst0 a c _ hc => exact ⟨a, c, rfl, Nat.zero_le _, hc⟩
    | lst b off c _ e cs _ he hx hn hle hc hr hm => exact ⟨_, c, rfl, hle, hc⟩
  obtain ⟨bs, c, rfl, hxc, hc⟩ := hform
  have rep : ∀ (own m : Nat), hh ≤ m → m ≤ c → Rep M L (.slice (if m = ll then bs else bs.map (·.add (ll * esz))) (hh - ll) (m - ll)) (.lst own ((xs.take hh).drop ll)) := by
    intro own m hm1 hm2
    have hlen : ((xs.take hh).drop ll).length = hh - ll := by simp; omega
    by_cases hz : hh - ll = 0
    · have : (xs.take hh).drop ll = [] := List.eq_nil_of_length_eq_zero (by omega)
      rw [this, hz]
      exact .lst0 _ _ _ (by omega)
    · rcases (lst_inv hul).2 with ⟨h', _⟩ | ⟨b, off, cs, rfl, hr, hm⟩
      · subst h'; simp at hlen; omega
      · rw [if_neg (by omega)]
        simp only [Option.map_some, Addr.add_lit]
        have hx' : ∀ z ∈ (xs.take hh).drop ll, z.cells.length = esz := fun z hz => hxl z (List.mem_of_mem_take (List.mem_of_mem_drop hz))
        have := Rep.lst (M := M) (L := L) b (off + ll * esz) (m - ll) own esz ((cs.take (hh * esz)).drop (ll * esz)) ((xs.take hh).drop ll) h0 hx' (by omega) (by omega) (by omega) (by
          rw [flat_drop _ esz ll (fun z hz => hxl z (List.mem_of_mem_take hz)), flat_take _ esz hh hxl]
          exact (hr.take _).drop _) (by
          intro j v hv
          rw [List.getElem?_drop, List.getElem?_take] at hv
          split at hv
          · have := hm _ v hv
            rwa [← Nat.add_assoc] at this
          · cases hv)
        rwa [hlen] at this
  cases mx with
  | none =>
    cases vmx with
    | some v => exact h3.elim
    | none =>
      refine ⟨_, _, _, 0, _, ?_, rep 0 c (by omega) (Nat.le_refl _), h, fun h => absurd rfl h⟩
      have hb : (Instr.sliceBounds true xs.length c vlo vhi none).run P w = .ok (ll, hh, c) w := by
        rcases hhi with ⟨_, rfl, rfl⟩ | ⟨kd, i, rfl, hi0, rfl⟩ <;> rcases hlo with ⟨_, rfl, rfl⟩ | ⟨kd', i', rfl, hi0', rfl⟩
        · rfl
        · have hb1 := run_sliceBound (P := P) w kd' i' xs.length .sliceB hi0' hle
          simp [Instr.sliceBounds, hb1]
        · have hb1 := run_sliceBound (P := P) w kd i c .sliceAcap hi0 (by omega)
          simp [Instr.sliceBounds, hb1]
        · have hb1 := run_sliceBound (P := P) w kd i c .sliceAcap hi0 (by omega)
          have hb2 := run_sliceBound (P := P) w kd' i' i.toNat .sliceB hi0' hle
          simp [Instr.sliceBounds, hb1, hb2]
      simp only [Instr.sliceAt, Instr.slice, Sem.run_bind, run_underlying ht, Result.andThen_ok, hb, hsz, Sem.run_pure]
  | some m =>
    cases vmx with
    | none => exact h3.elim
    | some vm =>
      obtain ⟨hsome, h⟩ := h
      obtain ⟨mm, ⟨rfl, _, hφ⟩, hmx⟩ := aidx_bound (v := some vm) h3 h
      rcases hmx with ⟨hh', _⟩ | ⟨kdm, im, hvm, him0, him⟩
      · cases hh'
      cases hvm
      refine ⟨_, _, _, esz, _, ?_, rep esz mm (Nat.le_refl _) (by omega), hφ, fun _ => ⟨rfl, fun y hy => hxl y (List.mem_of_mem_take (List.mem_of_mem_drop hy))⟩⟩
      have hb : (Instr.sliceBounds true xs.length c vlo vhi (some (.int kdm im))).run P w = .ok (ll, mm, mm) w := by
        have hm' := run_sliceBound (P := P) w kdm im c .slice3Acap him0 (by omega)
        rw [him] at hm'
        rcases hhi with ⟨hn, rfl, hd⟩ | ⟨kd, i, rfl, hi0, hi1⟩
        · rw [hn] at hsome; cases hsome
        · have hb1 := run_sliceBound (P := P) w kd i mm .slice3B hi0 (by omega)
          rw [hi1] at hb1
          rcases hlo with ⟨_, rfl, rfl⟩ | ⟨kd', i', rfl, hi0', rfl⟩
          · simp [Instr.sliceBounds, hm', hb1]
          · have hb2 := run_sliceBound (P := P) w kd' i' mm .slice3C hi0' hle
            simp [Instr.sliceBounds, hm', hb1, hb2]
      simp only [Instr.sliceAt, Instr.slice, Sem.run_bind, run_underlying ht, Result.andThen_ok, hb, hsz, Sem.run_pure]

def asliceStr (x : AV) (lo hi : Option AV) (φ : AV → Prop) : Prop :=
  match x with
  | .str s => aidx hi s.size fun h => aidx lo 0 fun l => l ≤ h ∧ h ≤ s.size ∧ φ (.str (s.extract l h))
  | _ => False

theorem asliceStr_run {t : TypeId} (ht : P.underlying t = some .string) {u : Value} {x : AV} {lo hi : Option AV} {vlo vhi : Option Value} {φ : AV → Prop}
    (h : asliceStr x lo hi φ) (hu : Rep M L u x) (h1 : optRep M L lo vlo) (h2 : optRep M L hi vhi) :
    ∃ r z, (Instr.sliceAt t u vlo vhi none).run P w = .ok r w ∧ Rep M L r z ∧ φ z ∧ ∀ own xs, z = .lst own xs → own = 0 := by
  unfold asliceStr at h
  split at h <;> try exact h.elim
  rename_i s
  cases hu
  obtain ⟨hh, h, hhi⟩ := aidx_bound h2 h
  obtain ⟨ll, h, hlo⟩ := aidx_bound h1 h
  obtain ⟨hle, hhl, hφ⟩ := h
  refine ⟨_, _, ?_, .str _, hφ, by intro _ _ e; cases e⟩
  have hb : (Instr.sliceBounds false s.size s.size vlo vhi none).run P w = .ok (ll, hh, s.size) w := by
    rcases hhi with ⟨_, rfl, rfl⟩ | ⟨kd, i, rfl, hi0, rfl⟩ <;> rcases hlo with ⟨_, rfl, rfl⟩ | ⟨kd', i', rfl, hi0', rfl⟩
    · rfl
    · have hb1 := run_sliceBound (P := P) w kd' i' s.size .sliceB hi0' hle
      simp [Instr.sliceBounds, hb1]
    · have hb1 := run_sliceBound (P := P) w kd i s.size .sliceAlen hi0 (by omega)
      simp [Instr.sliceBounds, hb1]
    · have hb1 := run_sliceBound (P := P) w kd i s.size .sliceAlen hi0 (by omega)
      have hb2 := run_sliceBound (P := P) w kd' i' i.toNat .sliceB hi0' hle
      simp [Instr.sliceBounds, hb1, hb2]
  simp only [Instr.sliceAt, Instr.slice, Sem.run_bind, run_underlying ht, Result.andThen_ok, Option.isSome_none, Bool.false_eq_true, if_false, Sem.run_pure, hb]

/-! ### Texts and bytes -/
def byteAVs (l : List UInt8) : List AV := l.map fun b => .int .u8 b.toNat

def aconvStr (x : AV) (φ : AV → Prop) : Prop := match x with | .str s => φ (.str s) | _ => False
theorem aconvStr_run {src dst : TypeId} {d : TypeDesc} (hs : P.underlying src = some d) (hd : P.underlying dst = some .string) {u : Value} {x : AV} {φ : AV → Prop} (h : aconvStr x φ) (hu : Rep M L u x) :
    ∃ r z, (convert src dst u).run P w = .ok r w ∧ Rep M L r z ∧ φ z ∧ ∀ own xs, z = .lst own xs → own = 0 := by
  unfold aconvStr at h
  split at h <;> try exact h.elim
  cases hu
  refine ⟨_, _, ?_, .str _, h, by intro _ _ e; cases e⟩
  simp [convert, run_underlying hs, run_underlying hd]

/-- string(b). -/
def astrOf (x : AV) (φ : AV → Prop) : Prop :=
  match rlist x with
  | some ys => ∃ l, ys = byteAVs l ∧ φ (.str ⟨l.toArray⟩)
  | none => False

theorem flat_bytes (l : List UInt8) : flat (byteAVs l) = byteAVs l := by
  induction l with
  | nil => rfl
  | cons b l ih => simp only [byteAVs, List.map_cons, flat, List.flatMap_cons, AV.cells] at ih ⊢; rw [ih]; rfl

theorem RepL.bytes : ∀ {cs : List Value} {l : List UInt8}, RepL M L cs (byteAVs l) → cs = l.map fun b => .int .u8 b.toNat
  | [], [], _ => rfl
  | [], b :: l, h => by have := h.length; simp [byteAVs] at this
  | c :: cs, [], h => by have := h.length; simp [byteAVs] at this
  | c :: cs, b :: l, h => by
    simp only [byteAVs, List.map_cons] at h
    cases h with
    | cons _ _ _ _ h t => cases h; simp [RepL.bytes (l := l) t]

theorem astrOf_run (hs : St A M L w H ev ea O) {src dst e : TypeId} (h1 : P.underlying src = some (.slice e)) (h2 : P.underlying e = some (.int .u8)) (hd : P.underlying dst = some .string) {u : Value} {x : AV} {φ : AV → Prop} (h : astrOf x φ) (hu : Rep M L u x) :
    ∃ r z, (convert src dst u).run P w = .ok r w ∧ Rep M L r z ∧ φ z ∧ ∀ own xs, z = .lst own xs → own = 0 := by
  unfold astrOf at h
  split at h <;> try exact h.elim
  rename_i ys hys
  obtain ⟨l, rfl, hφ⟩ := h
  have hul : ∃ own, Rep M L u (.lst own (byteAVs l)) := by
    unfold rlist at hys
    split at hys
    · cases l with
      | nil => cases hu; exact ⟨0, .lst0 _ _ _ (by decide)⟩
      | cons b l => simp [byteAVs] at hys
    · cases hys; exact ⟨_, hu⟩
    · cases hys
  obtain ⟨own, hul⟩ := hul
  refine ⟨_, _, ?_, .str _, hφ, by intro _ _ e; cases e⟩
  cases l with
  | nil =>
    have : ∃ a c, u = .slice a 0 c := by
      cases hul with
      | lst0 a c _ hc => exact ⟨a, c, rfl⟩
      | lst b off c _ e cs _ he hx hn => simp [byteAVs] at hn
    obtain ⟨a, c, rfl⟩ := this
    cases a with
    | none => rw [run_convert_bytes_nil w src e h1 h2 0 c dst hd]; rfl
    | some a =>
      simp [convert, run_underlying h1, run_underlying hd, run_underlying h2, Conv.bytesToString, loadCells, loadCellsFrom]
      rfl
  | cons b0 l =>
    have : ∃ b off c cs, u = .slice (some ⟨b, off, none⟩) (byteAVs (b0 :: l)).length c ∧ RepL M L cs (byteAVs (b0 :: l)) ∧ M.row b off cs := by
      generalize hl : byteAVs (b0 :: l) = q at hul
      cases hul with
      | lst0 => simp [byteAVs] at hl
      | lst b off c _ e cs _ he hx hn hle hc hr hm =>
        subst hl
        rw [flat_bytes] at hr
        exact ⟨b, off, c, cs, rfl, hr, hm⟩
    obtain ⟨b, off, c, cs, rfl, hr, hm⟩ := this
    have hcs := hr.bytes
    have hrun := run_convert_bytes_arg (P := P) w src e h1 h2 b off (byteAVs (b0 :: l)).length c ((b0 :: l).map fun b => (b.toNat : Int)) (by simp [byteAVs]) (fun i hi => by
      have hi' : i < (b0 :: l).length := by simpa [byteAVs] using hi
      have := hs.mem _ _ _ (hm i (.int .u8 ((b0 :: l)[i]).toNat) (by rw [hcs, List.getElem?_map, List.getElem?_eq_getElem hi']; rfl))
      rw [this, List.getD_eq_getElem?_getD, List.getElem?_map, List.getElem?_eq_getElem hi']
      rfl) dst hd
    rw [hrun]
    congr 2
    simp only [strOfNums, List.map_map]
    congr 1
    congr 1
    conv => rhs; rw [← List.map_id (b0 :: l)]
    apply List.map_congr_left
    intro b _
    simp

/-- []byte(s). -/
def abytesOf (own : Nat) (x : AV) (φ : AV → Prop) : Prop :=
  match x with
  | .str s => s.size < 9223372036854775808 ∧ φ (.lst own (byteAVs s.data.toList))
  | _ => False
end
end Go.Abs
