/- A memory-free reading of the model's values (part 16): statements whose order is open, told without memory. -/
import Derived.Test.YtcfmgncmkbiknaaAbs15
set_option linter.unusedVariables false
set_option linter.unusedSimpArgs false
namespace Go.Abs
open Go

theorem get_append_congr {env1 env2 : Env} (h : get env1 = get env2) : ∀ mods : List (Nat × AV), get (mods ++ env1) = get (mods ++ env2)
  | [] => h
  | (k, v) :: r => by
    funext t
    simp only [List.cons_append, get]
    split
    · rfl
    · rw [get_append_congr h r]

theorem get_append_at {env1 env2 : Env} {t : Nat} (h : get env1 t = get env2 t) : ∀ mods : List (Nat × AV), get (mods ++ env1) t = get (mods ++ env2) t
  | [] => h
  | (k, v) :: r => by
    simp only [List.cons_append, get]
    split
    · rfl
    · rw [get_append_at h r]

theorem get_append_ne {env : Env} {t : Nat} : ∀ {mods : List (Nat × AV)}, (∀ p ∈ mods, p.1 ≠ t) → get (mods ++ env) t = get env t
  | [], _ => rfl
  | (k, v) :: r, h => by
    simp only [List.cons_append, get]
    rw [if_neg (fun e => h (k, v) (by simp) e.symm), get_append_ne (fun p hp => h p (by simp [hp]))]

theorem mem_slots {l : List IX} {s : Nat} (h : IX.t s ∈ l) : s ∈ IX.slots l := List.mem_filterMap.2 ⟨_, h, rfl⟩

theorem lk_all {o : IOper} {env1 env2 : Env} (hl : ∀ s ∈ o.lk, get env2 s = get env1 s) : ∀ i ∈ o.op.all, aval env2 i = aval env1 i := by
  intro i hi
  cases i with
  | c v => rfl
  | t s => exact hl s (List.mem_append_left _ (mem_slots hi))

theorem get_guard {env : Env} {g : Nat} {b : Bool} (h : get env g = .bool b) : get ((g, AV.bool b) :: env) = get env := by
  funext t
  simp only [get]
  split
  · rename_i e; rw [e, h]
  · rfl

theorem agd_frame {P : Program} {o : IOper} {env1 env2 : Env} {H : List AObj} {K1 K2 : Env → List AObj → Prop} (hl : ∀ s ∈ o.lk, get env2 s = get env1 s) (h : agd P o env1 H K1)
    (hK : ∀ e1 e2 H', (∃ mods : List (Nat × AV), (∀ p ∈ mods, o.dst = some p.1 ∨ p.1 ∈ o.op.kill) ∧ get e1 = get (mods ++ env1) ∧ get e2 = get (mods ++ env2)) → (o.op.chg = false → H' = H) → (o.op.grows = true → ∃ e, H' = H ++ e) → K1 e1 H' → K2 e2 H') : agd P o env2 H K2 := by
  unfold agd at *
  cases hg : o.g with
  | none =>
    simp only [hg] at h ⊢
    exact aop_frame (lk_all hl) h fun mods H' hm hc hg hk => hK _ _ H' ⟨mods, hm, rfl, rfl⟩ hc hg hk
  | some p =>
    obtain ⟨g, want⟩ := p
    simp only [hg] at h ⊢
    unfold aguard at *
    have hgl : get env2 g = get env1 g := hl g (by simp [IOper.lk, hg])
    rw [hgl]
    split at h
    rotate_left
    · rename_i hb
      refine hK _ _ H ⟨(match o.dst with | some d => [(d, .tuple [])] | none => []), ?_, ?_, ?_⟩ (fun _ => rfl) (fun _ => ⟨[], by simp⟩) h
      · cases hd : o.dst <;> simp
      · cases hd : o.dst <;> rfl
      · cases hd : o.dst <;> rfl
    · exact h.elim
    rename_i b hb
    have hb2 : get env2 g = .bool b := by rw [hgl, hb]
    refine ⟨fun e => ?_, fun e => ?_⟩
    · subst e
      refine aop_frame (env1 := (g, .bool b) :: env1) (lk_all (o := o) fun s hs => ?_) (h.1 rfl) fun mods H' hm hc hg hk => hK _ _ H' ⟨mods, hm, get_append_congr (get_guard hb) mods, get_append_congr (get_guard hb2) mods⟩ hc hg hk
      rw [get_guard hb, get_guard hb2]
      exact hl s hs
    · have h2 := h.2 e
      subst e
      refine hK _ _ H ⟨(match o.dst with | some d => [(d, .tuple [])] | none => []), ?_, ?_, ?_⟩ (fun _ => rfl) (fun _ => ⟨[], by simp⟩) h2
      · cases hd : o.dst <;> simp
      · cases hd : o.dst with
        | none => exact get_guard hb
        | some d => exact get_append_congr (get_guard hb) [(d, .tuple [])]
      · cases hd : o.dst with
        | none => exact get_guard hb2
        | some d => exact get_append_congr (get_guard hb2) [(d, .tuple [])]

theorem agd_mono {P : Program} {o : IOper} {env : Env} {H : List AObj} {K1 K2 : Env → List AObj → Prop} (h : agd P o env H K1)
    (hK : ∀ e1 e2 H', get e1 = get e2 → K1 e1 H' → K2 e2 H') : agd P o env H K2 :=
  agd_frame (fun _ _ => rfl) h fun e1 e2 H' ⟨mods, _, h1, h2⟩ _ _ hk => hK e1 e2 H' (h1.trans h2.symm) hk

section
variable {P : Program} {ops : Array Oper} {il : List IOper} {K : Env → List AObj → Prop}

def qA (P : Program) (il : List IOper) (i : Nat) (env : Env) (H : List AObj) (K : Env → List AObj → Prop) : Prop :=
  match il[i]? with
  | none => K env H
  | some o => agd P o env H K

def AAny (P : Program) (ops : Array Oper) (il : List IOper) (K : Env → List AObj → Prop) : Nat → Array Bool → Env → List AObj → Prop
  | 0, listed, env, H => Region.ready .any ops listed = [] ∧ K env H
  | f + 1, listed, env, H => (Region.ready .any ops listed = [] → K env H) ∧ ∀ i ∈ Region.ready .any ops listed, qA P il i env H (AAny P ops il K f (listed.setIfInBounds i true))

def Inv (K : Env → List AObj → Prop) : Prop := ∀ e1 e2 H, get e1 = get e2 → K e1 H → K e2 H

theorem AAny_congr (hK : Inv K) : ∀ (f : Nat) (listed : Array Bool) {e1 e2 : Env} {H : List AObj}, get e1 = get e2 → AAny P ops il K f listed e1 H → AAny P ops il K f listed e2 H
  | 0, _, _, _, _, he, h => ⟨h.1, hK _ _ _ he h.2⟩
  | f + 1, listed, e1, e2, H, he, h => by
    refine ⟨fun h0 => hK _ _ _ he (h.1 h0), fun i hi => ?_⟩
    have hq := h.2 i hi
    unfold qA at *
    split
    · rename_i hn; simp only [hn] at hq; exact AAny_congr hK f _ he hq
    · rename_i o ho
      simp only [ho] at hq
      exact agd_frame (fun s _ => by rw [he]) hq fun a b H' ⟨mods, _, h1, h2⟩ _ _ hk => AAny_congr hK f _ (by rw [h1, h2, get_append_congr he]) hk

/-- The value that is taken ahead. -/
def tkv (P : Program) (st : Bool) (o : IOper) (env : Env) (H : List AObj) (x : AV) : Prop :=
  ∃ ρ : IX → AV, (∀ i ∈ o.op.all, aval env i = ρ i) ∧ match o.g with
    | none => dv P st o.op ρ H x
    | some (g, want) => (∃ b, get env g = .bool b ∧ (b = want → dv P st o.op ρ H x) ∧ (b ≠ want → x = .tuple [])) ∨ (get env g = .tuple [] ∧ x = .tuple [])

theorem dv_dval {st : Bool} {o : IOp} {ρ : IX → AV} {H : List AObj} {x : AV} (h : dv P st o ρ H x) : dval P o ρ H x := by
  cases st
  · exact h H
  · exact h

theorem get_grow {H e : List AObj} {id : Nat} {o : AObj} (h : H[id]? = some o) : (H ++ e)[id]? = some o := by
  rw [List.getElem?_append_left (List.getElem?_eq_some_iff.1 h).1, h]
theorem aload_grow {sz : Option Nat} {x : AV} {H e : List AObj} {φ : AV → Prop} (h : aload sz x H φ) : aload sz x (H ++ e) φ := by
  unfold aload at *
  split at h
  · split at h
    · rename_i hid; rw [get_grow hid]; exact h
    · exact h.elim
  · exact h
  · exact h.elim
theorem alen_grow {x : AV} {H e : List AObj} {φ : AV → Prop} (h : alen x H φ) : alen x (H ++ e) φ := by
  unfold alen at *
  split at h <;> (try exact h)
  split at h
  · rename_i hid; rw [get_grow hid]; exact h
  · exact h.elim
theorem alookup_grow {kd : Nat} {z m k : AV} {ok : Bool} {H e : List AObj} {φ : AV → Prop} (h : alookup kd z m k ok H φ) : alookup kd z m k ok (H ++ e) φ := by
  unfold alookup at *
  split at h <;> (try exact h)
  split at h
  · rename_i hid; rw [get_grow hid]; exact h
  · exact h.elim
theorem dval_grow {o : IOp} {ρ : IX → AV} {H e : List AObj} {x : AV} (hs : o.stays = true) (h : dval P o ρ H x) : dval P o ρ (H ++ e) x := by
  cases o with
  | call f args pass => cases hs
  | load sz i =>
    unfold dval at h ⊢
    exact aload_grow h
  | len kd i =>
    unfold dval at h ⊢
    exact ⟨h.1, alen_grow h.2⟩
  | lookup kd z m k ok =>
    unfold dval at h ⊢
    exact alookup_grow h
  | set i t => cases t <;> exact h
  | _ => exact h
theorem dv_other {st : Bool} {o : IOp} {ρ : IX → AV} {H H' : List AObj} {x : AV} (hH : st = true → H' = H ∨ (o.stays = true ∧ ∃ e, H' = H ++ e)) (h : dv P st o ρ H x) : dv P st o ρ H' x := by
  cases st
  · exact h
  · rcases hH rfl with e | ⟨h1, e, he⟩
    · rw [e]; exact h
    · rw [he]; exact dval_grow h1 h

theorem tkv_frame {st : Bool} {o : IOper} {env1 env2 : Env} {H1 H2 : List AObj} {x : AV} (hl : ∀ s ∈ o.lk, get env2 s = get env1 s) (hH : st = true → H2 = H1 ∨ (o.op.stays = true ∧ ∃ e, H2 = H1 ++ e)) (h : tkv P st o env1 H1 x) : tkv P st o env2 H2 x := by
  obtain ⟨ρ, h1, h2⟩ := h
  refine ⟨ρ, fun i hi => (lk_all hl i hi).trans (h1 i hi), ?_⟩
  cases hg : o.g with
  | none => simp only [hg] at h2 ⊢; exact dv_other hH h2
  | some p =>
    obtain ⟨g, want⟩ := p
    simp only [hg] at h2 ⊢
    rcases h2 with ⟨b, k1, k2, k3⟩ | ⟨k1, k2⟩
    · exact .inl ⟨b, (hl g (by simp [IOper.lk, hg])).trans k1, fun e => dv_other hH (k2 e), k3⟩
    · exact .inr ⟨(hl g (by simp [IOper.lk, hg])).trans k1, k2⟩

theorem tkv_agd {st : Bool} {o : IOper} {env : Env} {H : List AObj} {x : AV} (h : tkv P st o env H x) : agd P o env H fun e H' => H' = H ∧ get e = get (put o.dst x env) := by
  obtain ⟨ρ, h1, h2⟩ := h
  unfold agd
  cases hg : o.g with
  | none => simp only [hg] at h2 ⊢; exact dval_aop (dv_dval h2) h1
  | some p =>
    obtain ⟨g, want⟩ := p
    simp only [hg] at h2 ⊢
    rcases h2 with ⟨b, k1, k2, k3⟩ | ⟨k1, k2⟩
    rotate_left
    · unfold aguard
      rw [k1]
      subst k2
      exact ⟨by simp, rfl⟩
    unfold aguard
    rw [k1]
    refine ⟨fun e => ?_, fun e => ?_⟩
    · subst e
      have hgd := get_guard k1
      have := dval_aop (dst := o.dst) (env := (g, .bool b) :: env) (dv_dval (k2 rfl)) (fun i hi => by
        rw [← h1 i hi]
        cases i with
        | c v => rfl
        | t s => show get _ s = get _ s; rw [hgd])
      refine aop_frame (fun _ _ => rfl) this ?_
      intro mods H' _ _ _ hk
      refine ⟨hk.1, hk.2.trans ?_⟩
      rw [get_put, get_put, hgd]
    · have hne : b ≠ want := by intro e2; subst e2; cases b <;> cases e
      have hx := k3 hne
      subst hx
      subst e
      exact ⟨by simp, by rw [get_put, get_put, get_guard k1]⟩

/-! ### What must come behind -/
def closed (ops : Array Oper) (listed : Array Bool) : Prop := ∀ k o, ops[k]? = some o → listed.getD k false = true → ∀ e ∈ o.after, Region.binds .any e = true → listed.getD e.on false = true

theorem mustAfter_listed {listed : Array Bool} (hc : closed ops listed) {i : Nat} : ∀ (f j : Nat) (oj : Oper), ops[j]? = some oj → (∀ e ∈ oj.after, Region.binds .any e = true → listed.getD e.on false = true) → mustAfter ops f j i = true → listed.getD i false = true
  | 0, _, _, _, _, h => by simp [mustAfter] at h
  | f + 1, j, oj, hj, hall, h => by
    simp only [mustAfter, hj] at h
    obtain ⟨k, hk, he⟩ := Array.any_eq_true.1 h
    simp only [Bool.and_eq_true, Bool.or_eq_true, beq_iff_eq] at he
    have hmem : oj.after[k] ∈ oj.after := Array.getElem_mem hk
    have hl := hall _ hmem he.1
    rcases he.2 with e | e
    · rw [← e]; exact hl
    · have hso : ∃ o', ops[(oj.after[k]).on]? = some o' := by
        cases f with
        | zero => simp [mustAfter] at e
        | succ f =>
          cases ho : ops[(oj.after[k]).on]? with
          | none => simp [mustAfter, ho] at e
          | some o' => exact ⟨o', rfl⟩
      obtain ⟨o', ho'⟩ := hso
      exact mustAfter_listed hc f _ o' ho' (hc _ _ ho' hl) e

theorem getD_true_of_ready {listed : Array Bool} {i : Nat} (h : listed.getD i true = false) : listed.getD i false = false := by
  simp only [Array.getD_eq_getD_getElem?] at *
  cases hx : listed[i]? with
  | none => rfl
  | some b => rw [hx] at h; simpa using h

theorem closed_set {listed : Array Bool} (hc : closed ops listed) {j : Nat} (hj : j ∈ Region.ready .any ops listed) : closed ops (listed.setIfInBounds j true) := by
  obtain ⟨_, oj, hoj, hall⟩ := mem_ready.1 hj
  intro k o ho hk e he hb
  refine getD_set_true ?_
  by_cases hkj : k = j
  · subst hkj
    rw [hoj] at ho
    cases ho
    exact hall e he hb
  · rw [getD_set_ne false (Ne.symm hkj)] at hk
    exact hc k o ho hk e he hb

theorem freeAt_spec {listed : Array Bool} {i j : Nat} {st : Bool} (h : freeAt ops il listed i st = true) (hj : j < ops.size) (hji : j ≠ i) (hun : listed.getD j true = false) (hno : mustAfter ops ops.size j i = false) : apartI st (il.getD i default) (il.getD j default) = true := by
  unfold freeAt at h
  have := List.all_eq_true.1 h j (List.mem_range.2 hj)
  simp only [Bool.or_eq_true, beq_iff_eq, hun, hno, Bool.false_eq_true, or_false] at this
  rcases this with e | e
  · exact absurd e hji
  · exact e

theorem freeAt_mono {listed : Array Bool} {i j : Nat} {st : Bool} (h : freeAt ops il listed i st = true) : freeAt ops il (listed.setIfInBounds j true) i st = true := by
  unfold freeAt at *
  refine List.all_eq_true.2 fun k hk => ?_
  have := List.all_eq_true.1 h k hk
  simp only [Bool.or_eq_true] at this ⊢
  rcases this with ((e | e) | e) | e
  · exact .inl (.inl (.inl e))
  · refine .inl (.inl (.inr ?_))
    by_cases hjk : j = k
    · subst hjk
      simp only [Array.getD_eq_getD_getElem?, Array.getElem?_setIfInBounds]
      split
      · split <;> simp
      · rename_i hne; exact absurd trivial hne
    · rw [getD_set_ne true hjk]; exact e
  · exact .inl (.inr e)
  · exact .inr e

theorem apartI_spec {st : Bool} {oi oj : IOper} (h : apartI st oi oj = true) :
    (∀ d, oi.dst = some d → d ∉ oj.lk ∧ oj.dst ≠ some d ∧ d ∉ oj.op.kill) ∧ (∀ d, oj.dst = some d → d ∉ oi.lk) ∧ (∀ s ∈ oj.op.kill, s ∉ oi.lk) ∧ (st = true → oj.op.chg = false ∨ (oj.op.grows = true ∧ oi.op.stays = true)) := by
  unfold apartI at h
  simp only [Bool.and_eq_true, Bool.or_eq_true, Bool.not_eq_true'] at h
  obtain ⟨⟨⟨h1, h2⟩, h3⟩, h4⟩ := h
  refine ⟨fun d hd => ?_, fun d hd => ?_, fun s hs => ?_, fun e => ?_⟩
  · rw [hd] at h1
    simpa [and_assoc] using h1
  · rw [hd] at h2
    simpa using h2
  · have := List.all_eq_true.1 h3 s hs
    simpa using this
  · rcases h4 with (e2 | e2) | e2
    · rw [e] at e2; cases e2
    · exact .inl e2
    · exact .inr e2

theorem getD_of_get? {l : List IOper} {i : Nat} {o : IOper} (h : l[i]? = some o) : l.getD i default = o := by
  rw [List.getD_eq_getElem?_getD, h]; rfl

theorem AAny_take (hK : Inv K) (hsz : il.length = ops.size) {i : Nat} {oi : IOper} {x : AV} {st : Bool} (hi : il[i]? = some oi) : ∀ (f : Nat) (listed : Array Bool) {env : Env} {H : List AObj}, closed ops listed → freeAt ops il listed i st = true → i ∈ Region.ready .any ops listed →
    tkv P st oi env H x → AAny P ops il K f (listed.setIfInBounds i true) (put oi.dst x env) H → AAny P ops il K (f + 1) listed env H := by
  intro f
  induction f with
  | zero =>
    intro listed env H hcl hfr hr ht hD
    refine ⟨fun h => (by rw [h] at hr; cases hr), fun j hj => ?_⟩
    by_cases hji : j = i
    · subst hji
      unfold qA
      simp only [hi]
      exact agd_mono (tkv_agd ht) fun e1 e2 H' he ⟨h1, h2⟩ => by
        subst h1
        exact AAny_congr hK 0 _ (h2.symm.trans he) hD
    · have := ready_mono hj hji
      rw [hD.1] at this
      cases this
  | succ f ih =>
    intro listed env H hcl hfr hr ht hD
    refine ⟨fun h => (by rw [h] at hr; cases hr), fun j hj => ?_⟩
    by_cases hji : j = i
    · subst hji
      unfold qA
      simp only [hi]
      exact agd_mono (tkv_agd ht) fun e1 e2 H' he ⟨h1, h2⟩ => by
        subst h1
        exact AAny_congr hK (f + 1) _ (h2.symm.trans he) hD
    · have h1 := hD.2 j (ready_mono hj hji)
      obtain ⟨hjun, oj', hoj', hall⟩ := mem_ready.1 hj
      have hjs : j < ops.size := (Array.getElem?_eq_some_iff.1 hoj').1
      have hno : mustAfter ops ops.size j i = false := by
        cases hma : mustAfter ops ops.size j i with
        | false => rfl
        | true =>
          have := mustAfter_listed hcl _ j oj' hoj' hall hma
          rw [getD_true_of_ready (mem_ready.1 hr).1] at this
          cases this
      have hap := freeAt_spec hfr hjs hji hjun hno
      rw [getD_of_get? hi] at hap
      unfold qA at *
      cases hoj : il[j]? with
      | none =>
        rw [List.getElem?_eq_none_iff] at hoj
        omega
      | some oj =>
        rw [getD_of_get? hoj] at hap
        obtain ⟨a1, a2, a3, a4⟩ := apartI_spec hap
        simp only [hoj] at h1 ⊢
        refine agd_frame (env1 := put oi.dst x env) (fun s hs => ?_) h1 fun e1 e2 H' ⟨mods, hm, g1, g2⟩ hch hgr hk => ?_
        · rw [get_put]
          cases hd : oi.dst with
          | none => rfl
          | some d =>
            simp only [updO, upd]
            rw [if_neg]
            intro e
            exact (a1 d hd).1 (e ▸ hs)
        · have hmi : ∀ s ∈ oi.lk, ∀ p ∈ mods, p.1 ≠ s := by
            intro s hs p hp e
            rcases hm p hp with h | h
            · exact a2 _ h (e ▸ hs)
            · exact a3 _ h (e ▸ hs)
          have hmd : ∀ d, oi.dst = some d → ∀ p ∈ mods, p.1 ≠ d := by
            intro d hd p hp e
            rcases hm p hp with h | h
            · exact (a1 d hd).2.1 (e ▸ h)
            · exact (a1 d hd).2.2 (e ▸ h)
          refine ih (listed.setIfInBounds j true) (closed_set hcl hj) (freeAt_mono hfr) (ready_mono hr (Ne.symm hji)) ?_ ?_
          · refine tkv_frame (fun s hs => ?_) (fun e => (a4 e).imp hch fun ⟨q1, q2⟩ => ⟨q2, hgr q1⟩) ht
            rw [g2]
            exact get_append_ne (hmi s hs)
          · rw [Array.setIfInBounds_comm _ _ hji]
            refine AAny_congr hK f _ ?_ hk
            rw [g1, get_put, g2]
            cases hd : oi.dst with
            | none => rfl
            | some d =>
              funext t
              simp only [updO, upd, put]
              by_cases htd : t = d
              · subst htd
                rw [if_pos rfl, get_append_ne (hmd t hd)]
                simp [get]
              · rw [if_neg htd]
                refine get_append_at ?_ mods
                simp [get, htd]

theorem pok_any (hK : Inv K) (hsz : il.length = ops.size) : ∀ (p : Plan) (f : Nat) (listed : Array Bool) {env : Env} {H : List AObj}, closed ops listed →
    (pok ops il f listed none p = true → adt P (inst il p) env H K → AAny P ops il K f listed env H) ∧
    (∀ ks, (∀ i ∈ ks, i ∈ Region.ready .any ops listed) → pok ops il (f + 1) listed (some ks) p = true → adt P (inst il p) env H K → ∀ i ∈ ks, qA P il i env H (AAny P ops il K f (listed.setIfInBounds i true))) := by
  intro p
  induction p with
  | done =>
    intro f listed env H hcl
    refine ⟨fun h hd => ?_, fun ks _ h _ i hi => ?_⟩
    · have : Region.ready .any ops listed = [] := by
        cases f <;> simpa [pok, List.isEmpty_iff] using h
      simp only [inst, adt] at hd
      cases f with
      | zero => exact ⟨this, hd⟩
      | succ f => exact ⟨fun _ => hd, fun i hi => by rw [this] at hi; cases hi⟩
    · cases ks with
      | nil => cases hi
      | cons k ks => simp [pok] at h
  | nil =>
    intro f listed env H hcl
    refine ⟨fun h _ => by cases f <;> simp [pok] at h, fun ks _ h _ i hi => ?_⟩
    cases ks with
    | nil => cases hi
    | cons k ks => simp [pok] at h
  | take k st r ih =>
    intro f listed env H hcl
    refine ⟨fun h hd => ?_, fun ks _ h _ i hi => ?_⟩
    · cases f with
      | zero => simp [pok] at h
      | succ f =>
        simp only [pok, Bool.and_eq_true, List.contains_iff_mem] at h
        obtain ⟨⟨⟨hr, hapt⟩, hfr⟩, hp⟩ := h
        obtain ⟨_, ok, hok, _⟩ := mem_ready.1 hr
        have hks : k < il.length := by rw [hsz]; exact (Array.getElem?_eq_some_iff.1 hok).1
        have hik : il[k]? = some (il.getD k default) := by rw [List.getD_eq_getElem?_getD, List.getElem?_eq_getElem hks]; rfl
        simp only [inst, adt, atake] at hd
        have fin : ∀ x, tkv P st (il.getD k default) env H x → adt P (inst il r) (put (il.getD k default).dst x env) H K → AAny P ops il K (f + 1) listed env H := by
          intro x hx hrest
          exact AAny_take hK hsz hik f listed hcl hfr hr hx ((ih f _ (closed_set hcl hr)).1 hp hrest)
        cases hg : (il.getD k default).g with
        | none =>
          simp only [hg] at hd
          obtain ⟨x, hx, hrest⟩ := hd
          exact fin x ⟨aval env, fun _ _ => rfl, by simp only [hg]; exact hx⟩ hrest
        | some gw =>
          obtain ⟨g, want⟩ := gw
          simp only [hg, aguard] at hd
          split at hd
          rotate_left
          · rename_i hb
            exact fin (.tuple []) ⟨aval env, fun _ _ => rfl, by simp only [hg]; exact .inr ⟨hb, by trivial⟩⟩ hd
          · exact hd.elim
          rename_i b hb
          by_cases hbw : b = want
          · obtain ⟨x, hx, hrest⟩ := hd.1 hbw
            exact fin x ⟨aval env, fun _ _ => rfl, by simp only [hg]; exact .inl ⟨b, hb, fun _ => hx, fun e => absurd hbw e⟩⟩ hrest
          · have hrest := hd.2 (by cases b <;> cases want <;> first | rfl | exact absurd rfl hbw)
            exact fin (.tuple []) ⟨aval env, fun _ _ => rfl, by simp only [hg]; exact .inl ⟨b, hb, fun e => absurd e hbw, fun _ => by trivial⟩⟩ hrest
    · cases ks with
      | nil => cases hi
      | cons k ks => simp [pok] at h
  | br k t rest iht ihr =>
    intro f listed env H hcl
    have key : ∀ (f : Nat) (ks : List Nat), (∀ i ∈ k :: ks, i ∈ Region.ready .any ops listed) → pok ops il f (listed.setIfInBounds k true) none t = true → pok ops il (f + 1) listed (some ks) rest = true → adt P (inst il (.br k t rest)) env H K →
        ∀ i ∈ k :: ks, qA P il i env H (AAny P ops il K f (listed.setIfInBounds i true)) := by
      intro f ks hks h1 h2 hd i hi
      simp only [inst, adt] at hd
      rcases List.mem_cons.1 hi with rfl | hi
      · have hr := hks i (by simp)
        obtain ⟨_, ok, hok, _⟩ := mem_ready.1 hr
        have hlt : i < il.length := by rw [hsz]; exact (Array.getElem?_eq_some_iff.1 hok).1
        have hik : il[i]? = some (il.getD i default) := by rw [List.getD_eq_getElem?_getD, List.getElem?_eq_getElem hlt]; rfl
        unfold qA
        rw [hik]
        exact agd_mono hd.1 fun e1 e2 H' he hk => AAny_congr hK f _ he ((iht f _ (closed_set hcl hr)).1 h1 hk)
      · exact (ihr f listed hcl).2 ks (fun j hj => hks j (by simp [hj])) h2 hd.2 i hi
    refine ⟨fun h hd => ?_, fun ks hks h hd i hi => ?_⟩
    · cases f with
      | zero => simp [pok] at h
      | succ f =>
        simp only [pok] at h
        split at h
        · rename_i k' ks hrd
          simp only [Bool.and_eq_true, beq_iff_eq] at h
          obtain ⟨⟨rfl, h1⟩, h2⟩ := h
          have := key f ks (fun i hi => by rw [hrd]; exact hi) h1 h2 hd
          exact ⟨(fun e => by rw [e] at hrd; cases hrd), fun i hi => this i (by rw [hrd] at hi; exact hi)⟩
        · cases h
    · cases ks with
      | nil => cases hi
      | cons k' ks =>
        simp only [pok, Bool.and_eq_true, beq_iff_eq] at h
        obtain ⟨⟨rfl, h1⟩, h2⟩ := h
        exact key f ks hks h1 h2 hd i hi
end
end Go.Abs
