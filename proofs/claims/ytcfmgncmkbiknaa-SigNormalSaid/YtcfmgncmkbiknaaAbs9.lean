/- A memory-free reading of the model's values (part 9): bytes of a text, maps, function values. -/
import Derived.Test.YtcfmgncmkbiknaaAbs8
set_option linter.unusedVariables false
set_option linter.unusedSimpArgs false
namespace Go.Abs
open Go

section
variable {P : Program} {w : World} {M : Mem} {L : List Nat} {H : List AObj} {A : Nat → Prop} {ev : Nat → Value} {ea : Nat → AV} {O : Pos → Option Nat}

theorem freeze_push (w : World) (cs : Array Value) (e : TypeId) :
    ({ w with heap := w.heap.push (.cells cs e) } : World).freeze { block := w.heap.size, off := cs.size } 1 = { w with heap := w.heap.push (.cells cs e (cs.size, cs.size + 1)) } := by
  simp only [World.freeze, Nat.one_ne_zero, if_false]
  congr 1
  apply Array.ext
  · simp
  · intro i h1 h2
    rw [Array.getElem_modify]
    by_cases hi : w.heap.size = i
    · subst hi; simp
    · simp only [hi, if_false]
      have : i < w.heap.size := by simp at h2; omega
      rw [Array.getElem_push_lt this, Array.getElem_push_lt this]

theorem byteAVs_rep (l : List UInt8) : RepL M L (l.map fun b => Value.int .u8 b.toNat) (byteAVs l) := by
  induction l with
  | nil => exact .nil
  | cons b l ih => exact .cons _ _ _ _ (.int _ _) ih

theorem abytesOf_run (hs : St A M L w H ev ea O) {src dst e : TypeId} (h1 : P.underlying src = some .string) (hd : P.underlying dst = some (.slice e)) (h2 : P.underlying e = some (.int .u8)) {u : Value} {x : AV} {φ : AV → Prop} (h : abytesOf 1 x φ) (hu : Rep M L u x) :
    ∃ r z w' M' ob, (convert src dst u).run P w = .ok r w' ∧ Rep M' L r z ∧ φ z ∧ Spare M' w' r z ob ∧ St A M' L w' H ev ea O ∧ Ext A M w M' w' ∧
      (∀ q b, ob = some b → O q ≠ some b) ∧ (∀ b, ob = some b → b ∉ L ∧ b < w'.heap.size ∧ A b) := by
  unfold abytesOf at h
  split at h <;> try exact h.elim
  rename_i s
  obtain ⟨hsz, hφ⟩ := h
  cases hu
  let cap := (Question.appendCap s.size 0 e).cut (w.tape w.drawn (.appendCap s.size 0 e))
  have hc1 : s.size ≤ cap := by simp [cap, Question.cut]
  have hc2 : cap < 9223372036854775808 := by
    have := Nat.mod_lt (w.tape w.drawn (.appendCap s.size 0 e)) (show 0 < 2 ^ 63 - s.size by omega)
    simp only [cap, Question.cut]; omega
  let elems : Array Value := s.data.map fun b => .int .u8 b.toNat
  let cs : Array Value := elems ++ Array.replicate (cap - s.size) (.int .u8 0)
  have hcs : cs.size = cap := by
    simp only [cs, elems, Array.size_append, Array.size_map, Array.size_replicate]
    have : s.data.size = s.size := rfl
    omega
  have hel : elems.toList = s.data.toList.map fun b => Value.int .u8 b.toNat := by simp [elems]
  let W : World := { { w with drawn := w.drawn + 1 } with heap := w.heap.push (.cells cs e (cs.size, cs.size + 1)) }
  have hrun : (convert src dst (.string s)).run P w = .ok (.slice (some ⟨w.heap.size, 0, none⟩) s.size cap) W := by
    have hfr := freeze_push { w with drawn := w.drawn + 1 } cs e
    have hsh : ({ { w with drawn := w.drawn + 1 } with heap := w.heap.push (.cells cs e) } : World).shape? w.heap.size = some (e, cs.size) := by
      simp [World.shape?]
    simp only [convert, Sem.run_bind, run_underlying h1, run_underlying hd, run_underlying h2, Result.andThen_ok, Conv.stringToBytes, run_choose, Question.forced, Bool.false_eq_true, if_false]
    have hnr : ∀ W : World, (newRow e cs).run P W = .ok ⟨W.heap.size, 0, none⟩ { W with heap := W.heap.push (.cells cs e) } := fun _ => rfl
    refine Eq.trans (congrArg (fun r => Result.andThen r _) (hnr _)) ?_
    simp only [Result.andThen_ok, Sem.run_pure, markStringish, run_shape, Sem.run_bind]
    rw [hsh]
    simp only [run_freeze, Result.andThen_ok]
    rw [hfr]
  obtain ⟨g1, g2, g3⟩ := hs.drew.addBlock cs e (cs.size, cs.size + 1) elems.toList (fun j v hv => by
    have : cs.toList[j]? = some v := by
      simp only [cs, Array.toList_append]
      rw [List.getElem?_append_left (get_lt hv)]; exact hv
    simpa using this)
  have hrep : RepL (M.add w.heap.size elems.toList) L elems.toList (byteAVs s.data.toList) := by rw [hel]; exact byteAVs_rep _
  have hlen : (byteAVs s.data.toList).length = s.size := by simp [byteAVs]
  have hx : ∀ y ∈ byteAVs s.data.toList, y.cells.length = 1 := by
    intro y hy
    simp only [byteAVs, List.mem_map] at hy
    obtain ⟨b, _, rfl⟩ := hy
    rfl
  refine ⟨_, _, W, _, some w.heap.size, hrun, ?_, hφ, ?_, g1, Ext.drew.trans g2, ?_, ?_⟩
  · by_cases h0 : s.size = 0
    · have : byteAVs s.data.toList = [] := List.eq_nil_of_length_eq_zero (by omega)
      rw [this, h0]
      exact .lst0 _ _ _ hc2
    · have := Rep.lst (M := M.add w.heap.size elems.toList) (L := L) w.heap.size 0 cap 1 1 elems.toList (byteAVs s.data.toList) (by omega) hx (by omega) (by omega) hc2 (by rw [flat_bytes]; exact hrep) g3
      rwa [hlen] at this
  · unfold Spare
    simp only [Nat.one_ne_zero, if_false]
    refine ⟨hx, .inr ⟨_, 0, s.size, cap, cs, e, (cs.size, cs.size + 1), rfl, rfl, heap_push_new _ _, ?_, by omega, ?_⟩⟩
    · intro j hj h; simp at h; omega
    · intro k hk _
      simp only [Mem.add, if_true, Nat.zero_add]
      refine List.getElem?_eq_none ?_
      have : elems.toList.length = s.size := by rw [hel]; simp
      omega
  · intro q b hb hq
    cases hb
    exact absurd (hs.olt q _ hq) (Nat.lt_irrefl _)
  · intro b hb
    cases hb
    exact ⟨fun hm => absurd (hs.lt _ hm) (Nat.lt_irrefl _), by simp [W], hs.fresh _ (Nat.le_refl _)⟩

/-! ### Maps whose keys are numbers, texts or truth values -/
/-- Are two keys equal? (none: not of one kind) -/
def keyEq (kd : Nat) (x y : AV) : Option Bool :=
  match kd, x, y with
  | 0, .int k a, .int k' b => if k = k' then some (decide (a = b)) else none
  | 1, .str a, .str b => some (decide (a = b))
  | _, _, _ => none

def kdFits (kd : Nat) (d : TypeDesc) : Prop := match kd, d with | 0, .int _ => True | 1, .string => True | _, _ => False
theorem ba_beq (a b : ByteArray) : (a == b) = decide (a = b) := by
  rcases a with ⟨a⟩
  rcases b with ⟨b⟩
  show (a == b) = _
  by_cases h : a = b <;> simp [h]

def keyKind (P : Program) (t : TypeId) : Option Nat :=
  match P.underlying t with
  | some (.int _) => some 0
  | some .string => some 1
  | _ => none

/-- The entry of a key. -/
def afind (kd : Nat) (k : AV) : List (AV × AV) → Nat → Option (Option (Nat × AV))
  | [], _ => some none
  | (a, v) :: r, i => match keyEq kd k a with
    | some true => some (some (i, v))
    | some false => afind kd k r (i + 1)
    | none => none

def alookup (kd : Nat) (zero m k : AV) (ok : Bool) (H : List AObj) (φ : AV → Prop) : Prop :=
  match m with
  | .nilm => keyEq kd k k = some true ∧ φ (if ok then .tuple [canon zero, .bool false] else canon zero)
  | .map id => match H[id]? with
    | some (.map es) => match afind kd k es 0 with
      | some (some (_, v)) => φ (if ok then .tuple [v.drop, .bool true] else v.drop)
      | some none => keyEq kd k k = some true ∧ φ (if ok then .tuple [canon zero, .bool false] else canon zero)
      | none => False
    | _ => False
  | _ => False

def amapset (kd : Nat) (m k x : AV) (H : List AObj) (K : List AObj → Prop) : Prop :=
  match m with
  | .map id => match H[id]? with
    | some (.map es) => k.blw (id + 1) = true ∧ x.blw (id + 1) = true ∧ x.val = true ∧ match afind kd k es 0 with
      | some (some (i, _)) => K (H.set id (.map (es.set i (k, canon x))))
      | some none => keyEq kd k k = some true ∧ K (H.set id (.map (es ++ [(k, canon x)])))
      | none => False
    | _ => False
  | _ => False

theorem keyEq_same {kd : Nat} {d : TypeDesc} (hd : kdFits kd d) {k y : AV} {b : Bool} (h : keyEq kd k y = some b) {u v : Value} (hu : Rep M L u k) (hv : Rep M L v y) :
    Instr.sameNow d u v = some b ∧ (b = true → v = u) := by
  unfold keyEq at h
  split at h
  · rename_i k a k' b'
    cases hu; cases hv
    split at h
    · rename_i e; subst e
      cases h
      cases d <;> simp only [kdFits] at hd
      refine ⟨by simp [Instr.sameNow, dec_beq], ?_⟩
      intro h; simp at h; rw [h]
    · cases h
  · rename_i a b'
    cases hu; cases hv
    cases h
    cases d <;> simp only [kdFits] at hd
    refine ⟨by simp only [Instr.sameNow, ba_beq], ?_⟩
    intro h; simp at h; rw [h]
  · cases h

theorem afind_run {kd : Nat} {d : TypeDesc} (hd : kdFits kd d) {k : AV} {u : Value} (hu : Rep M L u k) :
    ∀ (es : List (AV × AV)) (ents : List MapEntry) (i : Nat) (r : Option (Nat × AV)), RepL M L (ents.map (·.key)) (es.map (·.1)) → RepL M L (ents.map (·.val)) (es.map (·.2)) → afind kd k es i = some r →
      match r with
      | none => Instr.findNow d u ents i = some none
      | some (j, x) => i ≤ j ∧ ∃ v, Instr.findNow d u ents i = some (some (j, v)) ∧ Rep M L v x ∧ ∃ en, ents[j - i]? = some en ∧ en.key = u ∧ en.val = v ∧ j - i < es.length
  | [], ents, i, r, h1, h2, h => by
    cases ents with
    | nil => simp [afind] at h; subst h; rfl
    | cons a b => have := h1.length; simp at this
  | (a, x) :: es, [], i, r, h1, h2, h => by have := h1.length; simp at this
  | (a, x) :: es, en :: ents, i, r, h1, h2, h => by
    simp only [List.map_cons] at h1 h2
    cases h1 with
    | cons _ _ _ _ hk hks =>
    cases h2 with
    | cons _ _ _ _ hv hvs =>
    unfold afind at h
    split at h
    · rename_i he
      cases h
      obtain ⟨e1, e2⟩ := keyEq_same hd he hu hk
      exact ⟨Nat.le_refl _, en.val, by simp [Instr.findNow, e1], hv, en, by simp, e2 rfl, rfl, by simp⟩
    · rename_i he
      obtain ⟨e1, _⟩ := keyEq_same hd he hu hk
      have ih := afind_run hd hu es ents (i + 1) r hks hvs h
      cases r with
      | none => simp only at ih ⊢; simp [Instr.findNow, e1, ih]
      | some jx =>
        obtain ⟨j, y⟩ := jx
        simp only at ih ⊢
        obtain ⟨hij, v, f1, f2, en', f3, f4, f5, f6⟩ := ih
        refine ⟨by omega, v, by simp [Instr.findNow, e1, f1], f2, en', ?_, f4, f5, by simp; omega⟩
        rw [show j - i = (j - (i + 1)) + 1 by omega]
        simpa using f3
    · cases h

theorem keyKind_spec {t : TypeId} {kd : Nat} (h : keyKind P t = some kd) : ∃ d, P.underlying t = some d ∧ kdFits kd d := by
  unfold keyKind at h
  split at h
  · rename_i k hu; cases h; exact ⟨_, hu, trivial⟩
  · rename_i hu; cases h; exact ⟨_, hu, trivial⟩
  · cases h

theorem run_checkKey_plain {t : TypeId} {d : TypeDesc} {kd : Nat} (ht : P.underlying t = some d) (hd : kdFits kd d) (w : World) (emp : Bool) (n : Nat) (v : Value) :
    (Instr.checkKey emp (n + 1) t v).run P w = .ok () w := by
  have : d = .string ∨ ∃ k, d = .int k := by
    unfold kdFits at hd
    split at hd
    · exact .inr ⟨_, rfl⟩
    · exact .inl rfl
    · exact hd.elim
  rcases this with rfl | ⟨k, rfl⟩ <;> simp [Instr.checkKey, run_underlying ht]

theorem alookup_run (hs : St A M L w H ev ea O) {t kt et : TypeId} {kd : Nat} (ht : P.underlying t = some (.map kt et)) (hk : keyKind P kt = some kd) {zero : AV} (hz : tzero P et = some zero) {u v : Value} {m k : AV} {ok : Bool} {φ : AV → Prop}
    (h : alookup kd zero m k ok H φ) (hu : Rep M L u m) (hv : Rep M L v k) :
    ∃ r z, (Instr.lookup t u v ok).run P w = .ok r w ∧ Rep M L r z ∧ φ z ∧ ∀ own xs, z = .lst own xs → own = 0 := by
  obtain ⟨d, hd1, hd2⟩ := keyKind_spec hk
  have hzero : ∃ zv, (zeroValue et).run P w = .ok zv w ∧ Rep M L zv (canon zero) := by
    unfold tzero at hz
    split at hz
    · rename_i i hi
      split at hz
      · rename_i zv hzv
        exact ⟨zv, by simp [zeroValue, typeInfo, hi, hzv], (ofValue_rep hz).canon⟩
      · cases hz
    · cases hz
  obtain ⟨zv, hzr, hzrep⟩ := hzero
  have hck : ∀ emp, (Instr.checkKey emp 10000 kt v).run P w = .ok () w := fun emp => run_checkKey_plain (n := 9999) hd1 hd2 w emp v
  have miss : ∀ es : Array MapEntry, Instr.findNow d v es.toList 0 = some none → (Instr.findKey kt v es.toList).run P w = .ok none w := by
    intro es he; simp [Instr.findKey, run_underlying hd1, he]
  have hit : ∀ (es : Array MapEntry) q, Instr.findNow d v es.toList 0 = some (some q) → (Instr.findKey kt v es.toList).run P w = .ok (some q) w := by
    intro es q he; simp [Instr.findKey, run_underlying hd1, he]
  have free : ∀ z own xs, (if ok then AV.tuple [canon z, .bool false] else canon z) = .lst own xs → own = 0 := by
    intro z own xs e
    cases ok
    · simp at e; exact canon_free z own xs e
    · simp at e
  unfold alookup at h
  split at h
  · obtain ⟨_, hφ⟩ := h
    cases hu
    refine ⟨if ok then .tuple #[zv, .bool false] else zv, _, ?_, ?_, hφ, free zero⟩
    · have := miss #[] rfl
      simp only [Instr.lookup, Sem.run_bind, run_underlying ht, Result.andThen_ok, Sem.run_pure, hck, this, hzr]
    · cases ok
      · simpa using hzrep
      · simpa using Rep.tuple [zv, .bool false] _ (.cons _ _ _ _ hzrep (.cons _ _ _ _ (.bool _) .nil))
  · rename_i id
    cases hu with
    | map b _ hl =>
    split at h <;> try exact h.elim
    rename_i es hid
    obtain ⟨ents, ck, h1, h2, h3⟩ := hs.obj id _ b hid hl
    have hget : (getObj b).run P w = .ok (.map ents ck) w := by simp [getObj, Sem.run, h1]
    split at h
    · rename_i j x hf
      obtain ⟨_, y, f1, f2, _⟩ := afind_run hd2 hv es ents.toList 0 _ (by simpa using h2) (by simpa using h3) hf
      refine ⟨if ok then .tuple #[y, .bool true] else y, _, ?_, ?_, h, ?_⟩
      · simp only [Instr.lookup, Sem.run_bind, run_underlying ht, Result.andThen_ok, Sem.run_pure, hget, hck, hit ents _ f1]
      · cases ok
        · simpa using f2.drop
        · simpa using Rep.tuple [y, .bool true] _ (.cons _ _ _ _ f2.drop (.cons _ _ _ _ (.bool _) .nil))
      · intro own xs e
        cases ok
        · simp at e; exact AV.drop_free x own xs e
        · simp at e
    · rename_i hf
      obtain ⟨_, hφ⟩ := h
      have f1 := afind_run hd2 hv es ents.toList 0 _ (by simpa using h2) (by simpa using h3) hf
      refine ⟨if ok then .tuple #[zv, .bool false] else zv, _, ?_, ?_, hφ, free zero⟩
      · simp only [Instr.lookup, Sem.run_bind, run_underlying ht, Result.andThen_ok, Sem.run_pure, hget, hck, miss ents f1, hzr]
      · cases ok
        · simpa using hzrep
        · simpa using Rep.tuple [zv, .bool false] _ (.cons _ _ _ _ hzrep (.cons _ _ _ _ (.bool _) .nil))
    · exact h.elim
  · exact h.elim

theorem amkmap_run (hs : St A M L w H ev ea O) (t : TypeId) :
    ∃ r L' w', (Instr.makeMap t none).run P w = .ok r w' ∧ Rep M L' r (.map H.length) ∧ St A M L' w' (H ++ [.map []]) ev ea O ∧ Ext A M w M w' ∧ L <+: L' := by
  obtain ⟨h1, h2⟩ := hs.addObj (.map #[] 0) (.map []) (fun w' hw hM => ⟨#[], 0, hw, .nil, .nil⟩) rfl (fun j => rfl)
  refine ⟨_, _, _, rfl, .map _ _ ?_, h1, h2, ⟨_, rfl⟩⟩
  rw [List.getElem?_append_right (by rw [hs.len]; exact Nat.le_refl _), hs.len]; simp

theorem sameBits_key {kd : Nat} {k : AV} (hk : ∃ b, keyEq kd k k = some b) {u : Value} (hu : Rep M L u k) (n : Nat) : Instr.sameBits n u u = true := by
  obtain ⟨b, hk⟩ := hk
  unfold keyEq at hk
  split at hk
  · cases hu; simp [Instr.sameBits]
  · cases hu; simp [Instr.sameBits, ba_beq]
  · cases hk
theorem keyEq_refl_of {kd : Nat} {k y : AV} {b : Bool} (h : keyEq kd k y = some b) : ∃ b, keyEq kd k k = some b := by
  unfold keyEq at h
  split at h
  · exact ⟨true, by simp [keyEq]⟩
  · exact ⟨true, by simp [keyEq]⟩
  · cases h

theorem afind_key {kd : Nat} {k : AV} : ∀ (es : List (AV × AV)) (i j : Nat) (x : AV), afind kd k es i = some (some (j, x)) → ∃ b, keyEq kd k k = some b
  | [], i, j, x, h => by simp [afind] at h
  | (a, v) :: es, i, j, x, h => by
    unfold afind at h
    split at h
    · rename_i he; exact keyEq_refl_of he
    · rename_i he; exact keyEq_refl_of he
    · cases h

theorem amapset_run (hs : St A M L w H ev ea O) {t kt et : TypeId} {kd : Nat} (ht : P.underlying t = some (.map kt et)) (hk : keyKind P kt = some kd) {u v y : Value} {m k x : AV} {K : List AObj → Prop}
    (h : amapset kd m k x H K) (hu : Rep M L u m) (hv : Rep M L v k) (hy : Rep M L y x) :
    ∃ w' H', (Instr.mapUpdate t u v y).run P w = .ok () w' ∧ K H' ∧ St A M L w' H' ev ea O ∧ Ext A M w M w' := by
  obtain ⟨d, hd1, hd2⟩ := keyKind_spec hk
  have hck : (Instr.checkKey false 10000 kt v).run P w = .ok () w := run_checkKey_plain (n := 9999) hd1 hd2 w false v
  unfold amapset at h
  split at h <;> try exact h.elim
  rename_i id
  cases hu with
  | map b _ hl =>
  split at h <;> try exact h.elim
  rename_i es hid
  obtain ⟨hb1, hb2, hval, h⟩ := h
  obtain ⟨ents, ck, h1, h2, h3⟩ := hs.obj id _ b hid hl
  have hlen : ents.size = es.length := by have := h2.length; simpa using this
  have hst := hs.strat id _ hid
  simp only [AObj.blw, Bool.and_eq_true] at hst
  have hget : (getObj b).run P w = .ok (.map ents ck) w := by simp [getObj, Sem.run, h1]
  have hset : ∀ o, (setObj b o).run P w = .ok () { w with heap := w.heap.setIfInBounds b o } := by intro o; simp [setObj, Sem.run, h1]
  have hcb : (canon x).blw (id + 1) = true := by
    have hdrop : ∀ z : AV, z.blw (id + 1) = true → z.drop.blw (id + 1) = true := by
      intro z hz; cases z <;> simp_all [AV.drop, AV.blw, belowL]
    cases x <;> simp only [abslice.canon] <;> first | exact hdrop _ hb2 | skip
    rename_i xs
    simp only [AV.blw, belowL_iff, List.mem_map] at hb2 ⊢
    rintro z ⟨q, hq, rfl⟩
    exact hdrop q (hb2 q hq)
  split at h
  · rename_i j z hf
    obtain ⟨_, v0, f1, f2, en, f3, f4, f5, f6⟩ := afind_run hd2 hv es ents.toList 0 _ (by simpa using h2) (by simpa using h3) hf
    simp only [Nat.sub_zero] at f3 f6
    have hj : j < ents.size := by omega
    have hen : ents[j]? = some en := by simpa using f3
    have hkey : ((ents[j]?).map (·.key)).getD v = v := by simp [hen, f4]
    have hstay : (Instr.keyThatStays v v).run P w = .ok v w := by simp [Instr.keyThatStays, sameBits_key (afind_key es 0 j z hf) hv]
    have hrun : (Instr.mapUpdate t (.map (some b)) v y).run P w = .ok () { w with heap := w.heap.setIfInBounds b (.map (ents.modify j fun e => { e with key := v, val := y }) ck) } := by
      simp only [Instr.mapUpdate, Sem.run_bind, run_underlying ht, Result.andThen_ok, hget, hck]
      have hfk : (Instr.findKey kt v ents.toList).run P w = .ok (some (j, v0)) w := by simp [Instr.findKey, run_underlying hd1, f1]
      simp only [hfk, Result.andThen_ok, Sem.run_bind, hkey, hstay, hset]
    have hmod : (ents.modify j fun e => { e with key := v, val := y }).toList.map (·.key) = (ents.toList.map (·.key)).set j v ∧ (ents.modify j fun e => { e with key := v, val := y }).toList.map (·.val) = (ents.toList.map (·.val)).set j y := by
      constructor
      · apply List.ext_getElem?
        intro q
        simp only [List.getElem?_map, Array.getElem?_toList, Array.getElem?_modify, List.getElem?_set]
        by_cases hq : j = q
        · subst hq; simp [hen, hj]
        · simp [hq]
      · apply List.ext_getElem?
        intro q
        simp only [List.getElem?_map, Array.getElem?_toList, Array.getElem?_modify, List.getElem?_set]
        by_cases hq : j = q
        · subst hq; simp [hen, hj]
        · simp [hq]
    obtain ⟨g1, g2⟩ := hs.writeMap (es' := es.set j (k, canon x)) (o' := .map (ents.modify j fun e => { e with key := v, val := y }) ck) hid hl (by intro _ _ _ e; cases e) (fun w' hw => ⟨_, _, hw, by
        rw [hmod.1]
        have := RepL.set (by simpa using h2) hv j
        rwa [show (es.set j (k, canon x)).map (·.1) = (es.map (·.1)).set j k by rw [List.map_set]], by
        rw [hmod.2]
        have := RepL.set (by simpa using h3) hy.canon j
        rwa [show (es.set j (k, canon x)).map (·.2) = (es.map (·.2)).set j (canon x) by rw [List.map_set]]⟩) (by
      simp only [AObj.blw, Bool.and_eq_true, List.map_set]
      rw [belowL_iff, belowL_iff] at *
      refine ⟨fun q hq => ?_, fun q hq => ?_⟩
      · rcases List.mem_or_eq_of_mem_set hq with h' | rfl
        · exact hst.1 q h'
        · exact hb1
      · rcases List.mem_or_eq_of_mem_set hq with h' | rfl
        · exact hst.2 q h'
        · exact hcb)
    exact ⟨_, _, hrun, h, g1, g2⟩
  · rename_i hf
    obtain ⟨_, hK⟩ := h
    have f1 := afind_run hd2 hv es ents.toList 0 _ (by simpa using h2) (by simpa using h3) hf
    have hrun : (Instr.mapUpdate t (.map (some b)) v y).run P w = .ok () { w with heap := w.heap.setIfInBounds b (.map (ents.push { key := v, val := y, born := ck }) (ck + 1)) } := by
      simp only [Instr.mapUpdate, Sem.run_bind, run_underlying ht, Result.andThen_ok, hget, hck]
      have hfk : (Instr.findKey kt v ents.toList).run P w = .ok none w := by simp [Instr.findKey, run_underlying hd1, f1]
      simp only [hfk, Result.andThen_ok, hset]
    obtain ⟨g1, g2⟩ := hs.writeMap (es' := es ++ [(k, canon x)]) (o' := .map (ents.push { key := v, val := y, born := ck }) (ck + 1)) hid hl (by intro _ _ _ e; cases e) (fun w' hw => ⟨_, _, hw, by
        simpa using h2.append (.one hv), by
        simpa using h3.append (.one hy.canon)⟩) (by
      simp only [AObj.blw, Bool.and_eq_true, List.map_append, List.map_cons, List.map_nil]
      exact ⟨belowL_append.2 ⟨hst.1, by simp [belowL, hb1]⟩, belowL_append.2 ⟨hst.2, by simp [belowL, hcb]⟩⟩)
    exact ⟨_, _, hrun, hK, g1, g2⟩
  · exact h.elim
end
end Go.Abs
