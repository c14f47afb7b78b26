/- A memory-free reading of the model's values (part 11): the operations are what they are told to be. -/
import Derived.Test.YtcfmgncmkbiknaaAbs10
set_option linter.unusedVariables false
set_option linter.unusedSimpArgs false
namespace Go.Abs
open Go

section
variable {P : Program} {A : Nat → Prop} {n : Nat} {M : Mem} {L : List Nat} {w : World} {H : List AObj} {env : Env} {O : Pos → Option Nat} {a : Act} {Q : Exit → Act → World → Prop} {K : Env → List AObj → Prop}

/-- What reads or reckons only. -/
theorem wp_read {o : Oper} (hf : Fr A n M L w H env O a) (hd : ∀ d, o.dst = some d → d < n)
    (h : ∃ r z, (execOp a.eval o).run P w = .ok (.value r) w ∧ Rep M L r z ∧ K (put o.dst z env) H ∧ ∀ own xs, z = .lst own xs → own = 0) : o.wp P a w (Aft A n M L w K) Q := by
  obtain ⟨r, z, h1, h2, h3, h4⟩ := h
  exact wp_pure hf hd h1 h2 h4 h3

theorem value_of {s : Sem Value} {r : Value} {w' : World} (h : s.run P w = .ok r w') : (do pure (Next.value (← s)) : Sem Next).run P w = .ok (.value r) w' := by
  simp only [Sem.run_bind, h, Result.andThen_ok, Sem.run_pure]
theorem skip_of {s : Sem Unit} {w' : World} (h : s.run P w = .ok () w') : (do s; pure Next.skip : Sem Next).run P w = .ok .skip w' := by
  simp only [Sem.run_bind, h, Result.andThen_ok, Sem.run_pure]

/-- What makes a block that will not change, or draws. -/
theorem wp_made {o : Oper} (hf : Fr A n M L w H env O a) (hd : ∀ d, o.dst = some d → d < n) {r : Value} {z : AV} {w' : World} {M' : Mem} {L' : List Nat} {H' : List AObj} (hrun : (execOp a.eval o).run P w = .ok (.value r) w')
    (hr : Rep M' L' r z) (hz : ∀ own xs, z = .lst own xs → own = 0) (hst : St A M' L' w' H' (fun t => a.tmps.getD t undef) (get env) O) (hext : Ext A M w M' w') (hL : L <+: L') (hK : K (put o.dst z env) H') : o.wp P a w (Aft A n M L w K) Q := by
  obtain ⟨O', hf'⟩ := (hf.mono hst).put0 hd hr hz
  exact wp_value hrun ⟨M', L', H', _, O', hK, hf', hext, hL⟩

/-- The same where the slot owns what it gets. -/
theorem wp_owned {o : Oper} {env' : Env} {O' : Pos → Option Nat} (hf : Fr A n M L w H env O a) (hd : ∀ d, o.dst = some d → d < n) {r : Value} {z : AV} {w' : World} {M' : Mem} {ob : Option Nat} (hrun : (execOp a.eval o).run P w = .ok (.value r) w')
    (hr : Rep M' L r z) (hsp : Spare M' w' r z ob) (hst : St A M' L w' H (fun t => a.tmps.getD t undef) (get env') O') (hext : Ext A M w M' w') (h1 : ∀ q b, ob = some b → O' q ≠ some b) (h2 : ∀ b, ob = some b → b ∉ L ∧ b < w'.heap.size ∧ A b) (hK : K (put o.dst z env') H) : o.wp P a w (Aft A n M L w K) Q := by
  have hf' : Fr A n M' L w' H env' O' a := ⟨hst, hf.size, hf.defers⟩
  refine wp_value hrun ?_
  cases hdst : o.dst with
  | none => rw [hdst] at hK; exact ⟨M', L, H, _, O', hK, hf', hext, List.prefix_refl L⟩
  | some d =>
    rw [hdst] at hK
    exact ⟨M', L, H, _, _, hK, hf'.putO (hd d hdst) hr ob hsp (fun q b hb hq => absurd hq (h1 q b hb)) h2, hext, List.prefix_refl L⟩

/-! #### move -/
theorem set_sound {o : Oper} {x : Operand} (ho : o.op = .move x ∨ o.op = .assign x) {i : IX} (hc : compX x = some i) {take : Bool} (hf : Fr A n M L w H env O a) (hd : ∀ d, o.dst = some d → d < n)
    (h : aop P (.set i take) o.dst env H K) : o.wp P a w (Aft A n M L w K) Q := by
  have hrun : (execOp a.eval o).run P w = .ok (.value (a.eval x)) w := by
    rcases ho with ho | ho <;> simp [execOp, ho]
  have hr := hf.eval hc
  simp only [aop] at h
  cases hdst : o.dst with
  | none =>
    rw [hdst] at h
    refine wp_value hrun ⟨M, L, H, env, O, h, ?_, Ext.refl A M w, List.prefix_refl L⟩
    rw [hdst]; exact hf
  | some d =>
    rw [hdst] at h
    have hdn := hd d hdst
    have h : K (setE env d i take) H := h
    unfold setE at h
    split at h
    · rename_i s _
      -- the list moves
      cases x with
      | tmp t =>
        have hts : t = s := by simpa [compX] using hc
        subst hts
        have hput := hf.st.put0 t (v := a.tmps.getD t undef) (x := (get env t).unown) (hf.st.env t).unown (AV.unown_free _)
        have hev : upd (fun t => a.tmps.getD t undef) t (a.tmps.getD t undef) = fun t => a.tmps.getD t undef := by funext t'; simp only [upd]; split; rename_i e0; rw [e0]; rfl
        rw [hev] at hput
        have hf1 : Fr A n M L w H ((t, (get env t).unown) :: env) (updP O (.t t) none) a := ⟨hput, hf.size, hf.defers⟩
        have hf2 := hf1.putO hdn (v := a.tmps.getD t undef) (x := get env t) (hf.st.env t) (O (.t t)) (hf.st.spt t) (fun p b hb hp => by
          simp only [updP] at hp
          split at hp
          · cases hp
          · rename_i n'; exact absurd (hf.st.oinj _ _ b hp hb) n') (fun b hb => ⟨hf.st.osep _ b hb, hf.st.olt _ b hb, hf.st.Oa _ b hb⟩)
        rw [← hdst] at hf2
        exact wp_value hrun ⟨M, L, H, _, _, h, hf2, Ext.refl A M w, List.prefix_refl L⟩
      | const v => simp only [compX] at hc; obtain ⟨y, _, hy⟩ := Option.map_eq_some_iff.1 hc; cases hy
      | func f => simp [compX] at hc
      | global g => simp [compX] at hc
    · have hf2 := hf.putO hdn hr.unown none (Spare.free (AV.unown_free _)) (fun p b e => by cases e) (fun b e => by cases e)
      rw [← hdst] at hf2
      exact wp_value hrun ⟨M, L, H, _, _, h, hf2, Ext.refl A M w, List.prefix_refl L⟩

/-! #### A cell's list comes into a slot, a slot's into a cell -/
theorem takeCell_sound {o : Oper} {t : TypeId} {x : Operand} (ho : o.op = .load t x) (ht : tsz P t = some none) {i : IX} (hc : compX x = some i) (hf : Fr A n M L w H env O a) (hd : ∀ d, o.dst = some d → d < n)
    (h : aop P (.takeCell i) o.dst env H K) : o.wp P a w (Aft A n M L w K) Q := by
  have hr := hf.eval hc
  simp only [aop] at h
  split at h <;> try exact h.elim
  rename_i d id off hdst hx
  split at h <;> try exact h.elim
  rename_i es hid
  obtain ⟨hoff, hK⟩ := h
  rw [hx] at hr
  generalize hu : a.eval x = u at hr
  cases hr with
  | ptr b _ _ hl =>
  obtain ⟨cs, e, h1, h2, h3⟩ := cells_of_obj hf.st hid hl
  have hlen := h2.length
  obtain ⟨r1, r2⟩ := run_isAgg_false (w := w) (m := 0) ht
  have hlc : off < cs.toList.length := by omega
  have hcell := h3 off cs.toList[off] (by simp)
  have hrep := h2.getD off
  have e0 : cs.toList.getD off undef = cs.toList[off] := by rw [List.getD_eq_getElem?_getD, List.getElem?_eq_getElem hlc]; rfl
  rw [e0] at hrep
  have hrun : (execOp a.eval o).run P w = .ok (.value cs.toList[off]) w := by
    simp only [execOp, ho, hu]
    exact value_of (by simp only [Instr.loadAt, Instr.sureAddr, loadVar, Sem.run_bind, Sem.run_pure, Result.andThen_ok, r1, Bool.false_eq_true, if_false, run_load, hcell])
  have hst := hf.st.unownCell hid hl hoff
  have hf1 : Fr A n M L w (H.set id (.cells (es.set off (es.getD off .any).unown))) env (updP O (.c id off) none) a := ⟨hst, hf.size, hf.defers⟩
  have hsp : Spare M w cs.toList[off] (es.getD off .any) (O (.c id off)) := by
    have h0 := hf.st.spc id off
    have e3 : cellV L w id off = cs.toList[off] := by unfold cellV; simp only [hl, hcell]; rfl
    have e4 : cellA H id off = es.getD off .any := by unfold cellA; simp [hid]
    rwa [e3, e4] at h0
  have hf2 := hf1.putO (hd d hdst) hrep (O (.c id off)) hsp (fun p b hb hp => by
    simp only [updP] at hp
    split at hp
    · cases hp
    · rename_i n'; exact absurd (hf.st.oinj _ _ b hp hb) n') (fun b hb => ⟨hf.st.osep _ b hb, hf.st.olt _ b hb, hf.st.Oa _ b hb⟩)
  rw [← hdst] at hf2
  exact wp_value hrun ⟨M, L, _, _, _, hK, hf2, Ext.refl A M w, List.prefix_refl L⟩

theorem putCell_sound {o : Oper} {t : TypeId} {x y : Operand} (ho : o.op = .store t x y) (ht : tcells P t = some 1) {i : IX} {s : Nat} (hc : compX x = some i) (hy : compX y = some (.t s)) (hf : Fr A n M L w H env O a)
    (hdst : o.dst = none) (h : aop P (.putCell i s) o.dst env H K) : o.wp P a w (Aft A n M L w K) Q := by
  have hr := hf.eval hc
  simp only [aop] at h
  have hys : y = .tmp s := by
    cases y with
    | tmp t => simp [compX] at hy; rw [hy]
    | const v => simp only [compX] at hy; obtain ⟨z, _, hz⟩ := Option.map_eq_some_iff.1 hy; cases hz
    | func f => simp [compX] at hy
    | global g => simp [compX] at hy
  subst hys
  obtain ⟨w', H', O', h1, h2, h3, h4⟩ := aputCell_run (P := P) hf.st ht h hr s rfl rfl
  have hrun : (execOp a.eval o).run P w = .ok .skip w' := by
    simp only [execOp, ho]
    exact skip_of h1
  have hf2 : Fr A n M L w' H' ((s, (get env s).unown) :: env) O' (a.put o.dst undef) := by
    rw [hdst]; exact ⟨h3, hf.size, hf.defers⟩
  exact wp_skipped hrun ⟨M, L, H', _, O', h2, hf2, h4, List.prefix_refl L⟩

/-! #### append -/
theorem append_sound {o : Oper} {t e : TypeId} {s x : Operand} (ho : o.op = .call { callee := .builtin .append, args := #[s, x], argTypes := #[t, t] }) (ht : P.underlying t = some (.slice e)) {esz bytes : Nat} {z : AV} (hz : compPartsOk P e = some (esz, z)) (hb : tbytes P e = some bytes) (hb0 : 0 < bytes)
    {i j : IX} (hi : compX s = some i) (hj : compX x = some j) (hf : Fr A n M L w H env O a) (hd : ∀ d, o.dst = some d → d < n)
    (h : aop P (.append esz bytes i j) o.dst env H K) : o.wp P a w (Aft A n M L w K) Q := by
  simp only [aop] at h
  have hrs := hf.eval hi
  have hrx := hf.eval hj
  unfold compPartsOk at hz
  split at hz <;> try cases hz
  rename_i esz' z' hc1 hc2
  split at hz <;> cases hz
  rename_i hcond
  obtain ⟨h0, hzl, hzv⟩ := hcond
  obtain ⟨inf, hinf, hsz⟩ := Option.map_eq_some_iff.1 hc1
  obtain ⟨inf', hinf', hby⟩ := Option.map_eq_some_iff.1 hb
  rw [hinf] at hinf'; cases hinf'
  unfold tzero at hc2
  simp only [hinf] at hc2
  split at hc2 <;> try cases hc2
  rename_i zv hzv'
  have hzs : zv.cells.size = esz := by have := ((ofValue_rep (M := M) (L := L) hc2).vcells hzv).length; rw [hzl] at this; simpa using this
  have hsl : match i.slot with | some d => (fun t => a.tmps.getD t undef) d = a.eval s ∧ get env d = aval env i | none => aval env i = .nils := by
    cases s with
    | tmp t => simp [compX] at hi; subst hi; exact ⟨rfl, rfl⟩
    | const v =>
      simp only [compX] at hi
      obtain ⟨y, hy, rfl⟩ := Option.map_eq_some_iff.1 hi
      simp only [IX.slot, aval]
      have h2 := h
      simp only [aval, aappend] at h2
      split at h2 <;> try exact h2.elim
      rename_i hxs _
      unfold alist at hxs
      split at hxs
      · rfl
      · -- a constant is never an owned list
        exfalso
        unfold ofValue at hy
        split at hy
        · obtain ⟨_, _, hq⟩ := Option.map_eq_some_iff.1 hy; cases hq
        · unfold ofV at hy; split at hy <;> cases hy
      · cases hxs
    | func f =>
      simp [compX] at hi; subst hi
      simp only [aval, aappend, alist] at h
    | global g => simp [compX] at hi
  obtain ⟨r, w', M', O', ob, zs, g1, g2, g3, g4, g5, g6, g7, g8⟩ := aappend_run (P := P) (ty := o.type) hf.st ht hinf hzv' hsz hby hzs h0 hb0 h i.slot hrs hsl hrx
  have hrun : (execOp a.eval o).run P w = .ok (.value r) w' := by
    simp only [execOp, ho, resolve, invoke, builtin, Sem.run_bind, Sem.run_pure, Result.andThen_ok, List.map_toArray, List.map_cons, List.map_nil, g1]
  have henv : unslot (get env) i.slot = get (unslotE env i.slot) := by
    cases i.slot with
    | none => rfl
    | some d => rfl
  rw [henv] at g5
  exact wp_owned hf hd hrun g3 g4 g5 g6 g7 g8 g2

/-! #### Calls -/
theorem LeL_get : ∀ {xs ys : List AV}, LeL xs ys → xs.length = ys.length ∧ ∀ t, (xs.getD t .any).le (ys.getD t .any)
  | [], [], _ => ⟨rfl, fun t => .inl rfl⟩
  | [], _ :: _, h => h.elim
  | _ :: _, [], h => h.elim
  | x :: xs, y :: ys, h => by
    obtain ⟨h1, h2⟩ := h
    obtain ⟨i1, i2⟩ := LeL_get h2
    refine ⟨by simp [i1], fun t => ?_⟩
    cases t with
    | zero => simpa using h1
    | succ t => simpa using i2 t

theorem baseArgs_length (env : Env) (pass : Option Nat) : ∀ (j : Nat) (xs : List IX), (baseArgs env pass j xs).length = xs.length
  | _, [] => rfl
  | j, .t s :: xs => by simp [baseArgs, baseArgs_length env pass (j + 1) xs]
  | j, .c v :: xs => by simp [baseArgs, baseArgs_length env pass (j + 1) xs]

theorem baseArgs_rep (hf : Fr A n M L w H env O a) (pass : Option Nat) : ∀ {xs : List Operand} {is : List IX} (j : Nat), compXs xs = some is → RepL M L (xs.map a.eval) (baseArgs env pass j is)
  | [], is, j, hc => by simp [compXs] at hc; subst hc; exact .nil
  | x :: xs, is, j, hc => by
    unfold compXs at hc
    split at hc
    · rename_i i is' h1 h2
      cases hc
      have hr := hf.eval h1
      cases i with
      | t s =>
        refine .cons _ _ _ _ ?_ (baseArgs_rep hf pass (j + 1) h2)
        split
        · exact hr
        · exact hr.unown
      | c v => exact .cons _ _ _ _ hr.unown (baseArgs_rep hf pass (j + 1) h2)
    · cases hc

/-- Which blocks a callee may write. -/
def calleeA (L : List Nat) (O : Pos → Option Nat) (w : World) : Nat → Prop := fun b => b ∈ L ∨ (∃ p, O p = some b) ∨ w.heap.size ≤ b

theorem St.narrow {ev : Nat → Value} {ea : Nat → AV} (h : St A M L w H ev ea O) : St (calleeA L O w) M L w H ev ea O :=
  { len := h.len, nodup := h.nodup, env := h.env, mem := h.mem, obj := h.obj, strat := h.strat, lt := h.lt, spt := h.spt, spc := h.spc, oinj := h.oinj, osep := h.osep, olt := h.olt,
    La := fun b hb => .inl hb, Oa := fun p b hp => .inr (.inl ⟨p, hp⟩), fresh := fun b hb => .inr (.inr hb) }

/-- The callee's state out of the caller's: nothing is handed over. -/
theorem St.forArgs {ev : Nat → Value} {ea : Nat → AV} (h : St A M L w H ev ea O) (ev' : Nat → Value) (ea' : Nat → AV) (hr : ∀ t, Rep M L (ev' t) (ea' t)) (hx : ∀ t own xs, ea' t = .lst own xs → own = 0) :
    St A M L w H ev' ea' (fun p => match p with | .t _ => none | .c id j => O (.c id j)) := by
  have hO : ∀ (p : Pos) (b : Nat), (match p with | .t _ => none | .c id j => O (.c id j)) = some b → O p = some b := by
    intro p b hp
    cases p with
    | t t => cases hp
    | c id j => exact hp
  exact { len := h.len, nodup := h.nodup, env := hr, mem := h.mem, obj := h.obj, strat := h.strat, lt := h.lt, spt := fun t => Spare.free (hx t), spc := h.spc, oinj := fun p q b hp hq => h.oinj p q b (hO p b hp) (hO q b hq),
          osep := fun p b hp => h.osep p b (hO p b hp), olt := fun p b hp => h.olt p b (hO p b hp), La := h.La, Oa := fun p b hp => h.Oa p b (hO p b hp), fresh := h.fresh }

/-- The caller's state behind the call. pt: the slot whose list was handed over. -/
theorem St.afterCall {ev : Nat → Value} {ea : Nat → AV} (h : St A M L w H ev ea O) {Oc : Pos → Option Nat} (pt : Option Nat) (hOc : ∀ b, (∃ p, Oc p = some b) → (∃ id j, O (.c id j) = some b) ∨ ∃ s, pt = some s ∧ O (.t s) = some b)
    {M' : Mem} {L' : List Nat} {w' : World} {H' : List AObj} {v : Value} {r : AV} {O' : Pos → Option Nat}
    (h' : St (calleeA L Oc w) M' L' w' H' (upd (fun _ => undef) 0 v) (upd (fun _ => .any) 0 r) O') (hext : Ext (calleeA L Oc w) M w M' w') (hL : L <+: L') :
    ∃ O'', St A M' L' w' H' ev (unslot ea pt) O'' ∧ Ext A M w M' w' ∧ Rep M' L' v r ∧ Spare M' w' v r (O' (.t 0)) ∧ (∀ q b, O' (.t 0) = some b → O'' q ≠ some b) ∧ (∀ b, O' (.t 0) = some b → b ∉ L' ∧ b < w'.heap.size ∧ A b) := by
  have hAc : ∀ b, calleeA L Oc w b → A b := by
    rintro b (hb | hb | hb)
    · exact h.La b hb
    · rcases hOc b hb with ⟨id, j, hq⟩ | ⟨s, _, hq⟩
      · exact h.Oa _ b hq
      · exact h.Oa _ b hq
    · exact h.fresh b hb
  let O'' : Pos → Option Nat := fun p => match p with
    | .t i => if pt = some i then none else O (.t i)
    | .c id j => O' (.c id j)
  -- what the caller keeps is not the callee's to write
  have keep : ∀ i b, pt ≠ some i → O (.t i) = some b → ¬ calleeA L Oc w b := by
    rintro i b hi hb (hc | hc | hc)
    · exact h.osep _ b hb hc
    · rcases hOc b hc with ⟨id, j, hq⟩ | ⟨s, hs, hq⟩
      · have := h.oinj _ _ b hb hq; cases this
      · have := h.oinj _ _ b hb hq; cases this; exact hi hs
    · have := h.olt _ b hb; omega
  have hkt : ∀ i b, O'' (.t i) = some b → pt ≠ some i ∧ O (.t i) = some b := by
    intro i b hb
    simp only [O''] at hb
    split at hb
    · cases hb
    · rename_i hi; exact ⟨hi, hb⟩
  have hdis : ∀ i b p, O'' (.t i) = some b → O' p ≠ some b := by
    intro i b p hb hp
    obtain ⟨h1, h2⟩ := hkt i b hb
    exact keep i b h1 h2 (h'.Oa p b hp)
  refine ⟨O'', { len := h'.len, nodup := h'.nodup, env := ?_, mem := h'.mem, obj := h'.obj, strat := h'.strat, lt := h'.lt, spt := ?_, spc := h'.spc, oinj := ?_, osep := ?_, olt := ?_, La := fun b hb => hAc b (h'.La b hb), Oa := ?_, fresh := fun b hb => h.fresh b (Nat.le_trans hext.size hb) }, ?_, ?_, ?_, ?_, ?_⟩
  · intro t
    have := (h.env t).mono hext.msub hL
    cases pt with
    | none => exact this
    | some d =>
      simp only [unslot, upd]
      split
      · rename_i e0; subst e0; exact this.unown
      · exact this
  · intro t
    have h1 := h.spt t
    cases pt with
    | none =>
      exact h1.mono fun b hb => hext.keep b (h.olt _ b hb) (keep t b (by simp) hb)
    | some d =>
      simp only [unslot, upd, O'']
      by_cases e0 : t = d
      · subst e0
        simp only [if_true]
        exact Spare.free (AV.unown_free _)
      · have : ¬ (some d = some t) := fun e => e0 (by cases e; rfl)
        simp only [e0, this, if_false]
        exact h1.mono fun b hb => hext.keep b (h.olt _ b hb) (keep t b this hb)
  · intro p q b hp hq
    cases p with
    | t i =>
      cases q with
      | t j => exact h.oinj _ _ b (hkt i b hp).2 (hkt j b hq).2
      | c id j => exact absurd hq (hdis i b _ hp)
    | c id j =>
      cases q with
      | t i => exact absurd hp (hdis i b _ hq)
      | c id' j' => exact h'.oinj _ _ b hp hq
  · intro p b hp hm
    cases p with
    | t i => exact keep i b (hkt i b hp).1 (hkt i b hp).2 (h'.La b hm)
    | c id j => exact h'.osep _ b hp hm
  · intro p b hp
    cases p with
    | t i => exact Nat.lt_of_lt_of_le (h.olt _ b (hkt i b hp).2) hext.size
    | c id j => exact h'.olt _ b hp
  · intro p b hp
    cases p with
    | t i => exact h.Oa _ b (hkt i b hp).2
    | c id j => exact hAc b (h'.Oa _ b hp)
  · exact ⟨hext.msub, hext.size, hext.os, hext.tape, hext.output, fun b hb hA => hext.keep b hb (fun hc => hA (hAc b hc))⟩
  · simpa [upd] using h'.env 0
  · simpa [upd] using h'.spt 0
  · intro q b hb hq
    cases q with
    | t i => exact hdis i b _ hq hb
    | c id j => have := h'.oinj _ _ b hb hq; cases this
  · intro b hb
    exact ⟨h'.osep _ b hb, h'.olt _ b hb, hAc b (h'.Oa _ b hb)⟩

theorem baseArgs_none (env : Env) : ∀ (xs : List IX) (j t : Nat), (baseArgs env none j xs).getD t .any = (match xs[t]? with | some x => (aval env x).unown | none => .any)
  | [], j, t => by simp [baseArgs]
  | .t s :: xs, j, 0 => by simp [baseArgs, aval]
  | .c v :: xs, j, 0 => by simp [baseArgs, aval]
  | .t s :: xs, j, t + 1 => by
    simp only [baseArgs, List.getD_cons_succ, List.getElem?_cons_succ]
    exact baseArgs_none env xs (j + 1) t
  | .c v :: xs, j, t + 1 => by
    simp only [baseArgs, List.getD_cons_succ, List.getElem?_cons_succ]
    exact baseArgs_none env xs (j + 1) t
theorem baseArgs_some (env : Env) (k : Nat) : ∀ (xs : List IX) (j t : Nat), (baseArgs env (some k) j xs).getD t .any = (match xs[t]? with | some (.t s) => if k = j + t then get env s else (get env s).unown | some (.c v) => v.unown | none => .any)
  | [], j, t => by simp [baseArgs]
  | .t s :: xs, j, 0 => by simp [baseArgs]
  | .c v :: xs, j, 0 => by simp [baseArgs]
  | .t s :: xs, j, t + 1 => by
    simp only [baseArgs, List.getD_cons_succ, List.getElem?_cons_succ]
    rw [baseArgs_some env k xs (j + 1) t, show j + 1 + t = j + (t + 1) by omega]
  | .c v :: xs, j, t + 1 => by
    simp only [baseArgs, List.getD_cons_succ, List.getElem?_cons_succ]
    rw [baseArgs_some env k xs (j + 1) t, show j + 1 + t = j + (t + 1) by omega]

theorem getD_toArray (vs : List Value) (t : Nat) : vs.toArray.getD t undef = vs.getD t undef := by
  simp [List.getD_eq_getElem?_getD]

theorem getD_app3 (xs ys zs : List AV) (t : Nat) : (xs ++ ys ++ zs).getD t .any = if t < xs.length then xs.getD t .any else if t < xs.length + ys.length then ys.getD (t - xs.length) .any else zs.getD (t - xs.length - ys.length) .any := by
  simp only [List.getD_eq_getElem?_getD, List.getElem?_append, List.length_append]
  by_cases h1 : t < xs.length
  · rw [if_pos (by omega), if_pos h1, if_pos h1]
  · by_cases h2 : t < xs.length + ys.length
    · rw [if_pos h2, if_neg h1, if_neg h1, if_pos h2]
    · rw [if_neg h2, if_neg h1, if_neg h2, Nat.sub_sub]

theorem call_sound {o : Oper} {c : Call} (ho : o.op = .call c) {f : Operand} (hcal : c.callee = .value f) {i : IX} {js : List IX} (hci : compX f = some i) (hcj : compXs c.args.toList = some js) {pass : Option Nat}
    (hf : Fr A n M L w H env O a) (hd : ∀ d, o.dst = some d → d < n) (h : aop P (.call i js pass) o.dst env H K) : o.wp P a w (Aft A n M L w K) Q := by
  simp only [aop] at h
  have hrf := hf.eval hci
  unfold acall at h
  split at h <;> try exact h.elim
  rename_i g first cap hfx
  obtain ⟨args', hle, hcall⟩ := h
  rw [hfx] at hrf
  generalize hu : a.eval f = u at hrf
  cases hrf with
  | fn _ fs cs _ _ hr1 hr2 =>
  have hrb := baseArgs_rep hf pass 0 hcj
  have hrb0 := baseArgs_rep hf none 0 hcj
  obtain ⟨hlen, hleg⟩ := LeL_get hle
  let vs : List Value := fs ++ c.args.toList.map a.eval ++ cs
  have hrv : RepL M L vs (first.map AV.unown ++ baseArgs env pass 0 js ++ cap.map AV.unown) := (hr1.map_unown.append hrb).append hr2.map_unown
  have hrv0 : RepL M L vs (first.map AV.unown ++ baseArgs env none 0 js ++ cap.map AV.unown) := (hr1.map_unown.append hrb0).append hr2.map_unown
  have hvl : vs.length = args'.length := by rw [hrv.length]; exact hlen
  -- the callee's state
  have hstc : ∃ Oc, St A M L w H (fun t => vs.toArray.getD t undef) (fun t => args'.getD t .any) Oc ∧ (∀ b, (∃ p, Oc p = some b) → (∃ id j, O (.c id j) = some b) ∨ ∃ s, passSlot js pass = some s ∧ O (.t s) = some b) := by
    have hfree : ∀ t own zs, (first.map AV.unown ++ baseArgs env none 0 js ++ cap.map AV.unown).getD t .any = .lst own zs → own = 0 := by
      intro t own zs he
      have hm : ∀ (l : List AV) q, (l.map AV.unown).getD q .any = .lst own zs → own = 0 := by
        intro l q hq
        rw [List.getD_eq_getElem?_getD, List.getElem?_map] at hq
        cases hx : l[q]? with
        | none => simp [hx] at hq
        | some y => simp [hx] at hq; exact AV.unown_free y own zs hq
      rw [getD_app3] at he
      split at he
      · exact hm _ _ he
      · split at he
        · rw [baseArgs_none] at he
          split at he
          · exact AV.unown_free _ own zs he
          · cases he
        · exact hm _ _ he
    have h0 := hf.st.forArgs (fun t => vs.toArray.getD t undef) (fun t => (first.map AV.unown ++ baseArgs env none 0 js ++ cap.map AV.unown).getD t .any) (fun t => by rw [getD_toArray]; exact hrv0.getD t) hfree
    -- then the one that is handed over
    have h1 : ∃ O1, St A M L w H (fun t => vs.toArray.getD t undef) (fun t => (first.map AV.unown ++ baseArgs env pass 0 js ++ cap.map AV.unown).getD t .any) O1 ∧ (∀ b, (∃ p, O1 p = some b) → (∃ id j, O (.c id j) = some b) ∨ ∃ s, passSlot js pass = some s ∧ O (.t s) = some b) := by
      cases hps : passSlot js pass with
      | none =>
        refine ⟨_, h0.congr (fun _ => rfl) (fun t => ?_), ?_⟩
        · rw [getD_app3, getD_app3, baseArgs_length, baseArgs_length]
          split
          · rfl
          · split
            · cases pass with
              | none => rfl
              | some k =>
                rw [baseArgs_none, baseArgs_some]
                unfold passSlot at hps
                simp only at hps
                cases hx : js[t - (first.map AV.unown).length]? with
                | none => rfl
                | some x =>
                  cases x with
                  | c v => rfl
                  | t s =>
                    simp only
                    rw [if_neg]
                    · rfl
                    · intro e
                      rw [Nat.zero_add] at e
                      rw [e, hx] at hps
                      simp at hps
            · rfl
        · rintro b ⟨p, hp⟩
          cases p with
          | t t => cases hp
          | c id j => exact .inl ⟨id, j, hp⟩
      | some s =>
        -- where it stands
        obtain ⟨k, rfl, hjk⟩ : ∃ k, pass = some k ∧ js[k]? = some (.t s) := by
          unfold passSlot at hps
          split at hps
          · rename_i k
            split at hps
            · rename_i s' hs'; cases hps; exact ⟨k, rfl, hs'⟩
            · cases hps
          · cases hps
        have hkl : k < js.length := get_lt hjk
        have hargs : ∀ (xs : List Operand) (is : List IX), compXs xs = some is → ∀ (q s : Nat), is[q]? = some (IX.t s) → xs[q]? = some (Operand.tmp s) := by
          intro xs
          induction xs with
          | nil => intro is hc q s hq; simp [compXs] at hc; subst hc; simp at hq
          | cons x xs ih =>
            intro is hc q s hq
            unfold compXs at hc
            split at hc
            · rename_i i is' e1 e2
              cases hc
              cases q with
              | zero =>
                simp at hq; subst hq
                cases x with
                | tmp t => simp [compX] at e1; simp [e1]
                | const v => simp only [compX] at e1; obtain ⟨_, _, hz⟩ := Option.map_eq_some_iff.1 e1; cases hz
                | func f => simp [compX] at e1
                | global g => simp [compX] at e1
              | succ q => simpa using ih is' e2 q s (by simpa using hq)
            · cases hc
        have hop := hargs _ _ hcj k s hjk
        have hpos : vs[first.length + k]? = some (a.tmps.getD s undef) := by
          have hfl : fs.length = first.length := hr1.length
          simp only [vs]
          rw [List.append_assoc, List.getElem?_append_right (by omega), hfl, show first.length + k - first.length = k by omega, List.getElem?_append_left (by simpa using get_lt hop), List.getElem?_map, hop]
          rfl
        have hput := h0.put (first.length + k) (v := a.tmps.getD s undef) (x := get env s) (hf.st.env s) (O (.t s)) (hf.st.spt s) (fun p b hb hp => by
          cases p with
          | t t => cases hp
          | c id j => have := hf.st.oinj _ _ b hb hp; cases this) (fun b hb => ⟨hf.st.osep _ b hb, hf.st.olt _ b hb, hf.st.Oa _ b hb⟩)
        refine ⟨_, hput.congr (fun t => ?_) (fun t => ?_), ?_⟩
        · simp only [upd]
          split
          · rename_i e; subst e
            rw [getD_toArray, List.getD_eq_getElem?_getD, hpos]; rfl
          · rfl
        · simp only [upd]
          rw [getD_app3, getD_app3, baseArgs_length, baseArgs_length]
          simp only [List.length_map]
          by_cases e : t = first.length + k
          · subst e
            rw [if_pos rfl, if_neg (by omega), if_pos (by omega), show first.length + k - first.length = k by omega, baseArgs_some, hjk]
            simp
          · rw [if_neg e]
            split
            · rfl
            · split
              · rw [baseArgs_none, baseArgs_some]
                cases hx : js[t - first.length]? with
                | none => rfl
                | some x =>
                  cases x with
                  | c v => rfl
                  | t s =>
                    simp only
                    rw [if_neg (by omega)]
                    rfl
              · rfl
        · rintro b ⟨p, hp⟩
          simp only [updP] at hp
          split at hp
          · exact .inr ⟨s, rfl, hp⟩
          · cases p with
            | t t => cases hp
            | c id j => exact .inl ⟨id, j, hp⟩
    obtain ⟨O1, g1, g2⟩ := h1
    obtain ⟨O2, g3, g4⟩ := g1.weaken' (ea' := fun t => args'.getD t .any) hleg
    exact ⟨O2, g3, fun b ⟨p, hp⟩ => g2 b ⟨p, g4 p b hp⟩⟩
  obtain ⟨Oc, hst, hOc⟩ := hstc
  have hrun : (execOp a.eval o).run P w = (callFunc g vs.toArray).run P w := by
    simp only [execOp, ho, resolve, hcal, Deferred.ofValue, hu, invoke, Sem.run_bind, Sem.run_pure, Result.andThen_ok]
    have e1 : (fs.toArray ++ c.args.map a.eval ++ cs.toArray) = vs.toArray := by
      apply Array.ext'; simp [vs]
    rw [e1]
  have fin : ∀ (v : Value) (r : AV) (H' : List AObj) (M' : Mem) (L' : List Nat) (O' : Pos → Option Nat) (w' : World), K (put o.dst r (unslotE env (passSlot js pass))) H' → St (calleeA L Oc w) M' L' w' H' (upd (fun _ => undef) 0 v) (upd (fun _ => .any) 0 r) O' → Ext (calleeA L Oc w) M w M' w' → L <+: L' →
      Aft A n M L w K (a.put o.dst v) w' := by
    intro v r H' M' L' O' w' hK hst' hext hL
    obtain ⟨O'', k1, k2, k3, k4, k5, k6⟩ := hf.st.afterCall (passSlot js pass) hOc hst' hext hL
    have henv : unslot (get env) (passSlot js pass) = get (unslotE env (passSlot js pass)) := by
      cases passSlot js pass <;> rfl
    rw [henv] at k1
    have hf' : Fr A n M' L' w' H' (unslotE env (passSlot js pass)) O'' a := ⟨k1, hf.size, hf.defers⟩
    show Aft A n M L w K (a.put o.dst v) w'
    cases hdst : o.dst with
    | none => rw [hdst] at hK; exact ⟨M', L', H', _, O'', hK, hf', k2, hL⟩
    | some d =>
      rw [hdst] at hK
      exact ⟨M', L', H', _, _, hK, hf'.putO (hd d hdst) k3 (O' (.t 0)) k4 (fun q b hb hq => absurd hq (k5 q b hb)) k6, k2, hL⟩
  rcases hcall (calleeA L Oc w) M L w vs.toArray Oc (by simpa using hvl) hst.narrow with ⟨h1, hc⟩ | ⟨v, w', r, H', M', L', O', h1, hK, hst', hext, hL⟩
  · unfold Oper.wp
    rw [hrun, h1, Oper.upon_enter]
    refine hc.mono fun e w' he => ?_
    obtain ⟨v, r, H', M', L', O', rfl, hK, hst', hext, hL⟩ := he
    exact fin v r H' M' L' O' w' hK hst' hext hL
  · exact wp_value (hrun.trans h1) (fin v r H' M' L' O' w' hK hst' hext hL)
end
end Go.Abs
