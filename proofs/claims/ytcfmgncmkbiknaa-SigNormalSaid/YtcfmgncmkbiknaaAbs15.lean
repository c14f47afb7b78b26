/- A memory-free reading of the model's values (part 15): an operation looks at its own slots alone. -/
import Derived.Test.YtcfmgncmkbiknaaAbs14
set_option linter.unusedVariables false
set_option linter.unusedSimpArgs false
namespace Go.Abs
open Go

theorem astore_mono {m : Nat} {p x : AV} {H : List AObj} {K K' : List AObj → Prop} (hm : ∀ H', K H' → K' H') (h : astore m p x H K) : astore m p x H K' := by
  unfold astore at *
  split at h <;> (try exact h.elim)
  split at h <;> (try exact h.elim)
  exact ⟨h.1, h.2.1, h.2.2.1, h.2.2.2.1, h.2.2.2.2.1, hm _ h.2.2.2.2.2⟩
theorem aputCell_mono {p x : AV} {H : List AObj} {K K' : List AObj → Prop} (hm : ∀ H', K H' → K' H') (h : aputCell p x H K) : aputCell p x H K' := by
  unfold aputCell at *
  split at h <;> (try exact h.elim)
  split at h <;> (try exact h.elim)
  exact ⟨h.1, h.2.1, h.2.2.1, hm _ h.2.2.2⟩
theorem aappend_mono {esz bytes : Nat} {s x : AV} {φ ψ : List AV → Prop} (hm : ∀ z, φ z → ψ z) (h : aappend esz bytes s x φ) : aappend esz bytes s x ψ := by
  unfold aappend at *
  split at h <;> (try exact h.elim)
  exact ⟨h.1, h.2.1, hm _ h.2.2⟩
theorem amkarr_mono {esz bytes : Nat} {z n : AV} {H : List AObj} {K K' : AV → List AObj → Prop} (hm : ∀ v H', K v H' → K' v H') (h : amkarr esz bytes z n H K) : amkarr esz bytes z n H K' := by
  unfold amkarr at *
  split at h <;> (try exact h.elim)
  exact ⟨h.1, h.2.1, h.2.2.1, hm _ _ h.2.2.2⟩
theorem amapset_mono {kd : Nat} {m k x : AV} {H : List AObj} {K K' : List AObj → Prop} (hm : ∀ H', K H' → K' H') (h : amapset kd m k x H K) : amapset kd m k x H K' := by
  unfold amapset at *
  split at h <;> (try exact h.elim)
  split at h <;> (try exact h.elim)
  refine ⟨h.1, h.2.1, h.2.2.1, ?_⟩
  obtain ⟨_, _, _, h⟩ := h
  split at h
  · exact hm _ h
  · exact ⟨h.1, hm _ h.2⟩
  · exact h.elim
theorem acopy_mono {esz : Nat} {d s : AV} {H : List AObj} {K K' : AV → List AObj → Prop} (hm : ∀ v H', K v H' → K' v H') (h : acopy esz d s H K) : acopy esz d s H K' := by
  unfold acopy at *
  split at h <;> (try exact h.elim)
  split at h <;> (try exact h.elim)
  exact ⟨h.1, h.2.1, h.2.2.1, hm _ _ h.2.2.2⟩

theorem asetf_mono {esz : Nat} {x : AV} {H : List AObj} {K K' : AV → List AObj → Prop} (hm : ∀ v H', K v H' → K' v H') (h : asetf esz x H K) : asetf esz x H K' := by
  unfold asetf at *
  split at h
  · split at h <;> (try exact h.elim)
    exact ⟨h.1, h.2.1, h.2.2.1, h.2.2.2.1, hm _ _ h.2.2.2.2⟩
  · exact h.elim
  · exact hm _ _ h

theorem baseArgs_eq {env1 env2 : Env} {pass : Option Nat} : ∀ {is : List IX} {j : Nat}, (∀ i ∈ is, aval env2 i = aval env1 i) → baseArgs env2 pass j is = baseArgs env1 pass j is
  | [], _, _ => rfl
  | .t s :: r, j, h => by
    have h1 : get env2 s = get env1 s := h (.t s) (by simp)
    simp only [baseArgs, h1, baseArgs_eq (fun i hi => h i (List.mem_cons_of_mem _ hi))]
  | .c v :: r, j, h => by
    simp only [baseArgs, baseArgs_eq (fun i hi => h i (List.mem_cons_of_mem _ hi))]

theorem opt_look2 {lo : Option IX} {env1 env2 : Env} (h : ∀ i ∈ lo.toList, aval env2 i = aval env1 i) : optX env2 lo = optX env1 lo := by
  cases lo with
  | none => rfl
  | some i => simp [optX, h i (by simp)]

theorem aop_frame {P : Program} {o : IOp} {dst : Option Nat} {env1 env2 : Env} {H : List AObj} {K1 K2 : Env → List AObj → Prop} (hl : ∀ i ∈ o.all, aval env2 i = aval env1 i) (h : aop P o dst env1 H K1)
    (hK : ∀ (mods : List (Nat × AV)) H', (∀ p ∈ mods, dst = some p.1 ∨ p.1 ∈ o.kill) → (o.chg = false → H' = H) → (o.grows = true → ∃ e, H' = H ++ e) → K1 (mods ++ env1) H' → K2 (mods ++ env2) H') : aop P o dst env2 H K2 := by
  have kput : ∀ z H', (o.chg = false → H' = H) → (o.grows = true → ∃ e, H' = H ++ e) → K1 (put dst z env1) H' → K2 (put dst z env2) H' := by
    intro z H' hc hg
    cases hd : dst with
    | none => exact hK [] H' (by simp) hc hg
    | some d => exact hK [(d, z)] H' (by simp [hd]) hc hg
  have kput0 : ∀ z, K1 (put dst z env1) H → K2 (put dst z env2) H := fun z => kput z H (fun _ => rfl) (fun _ => ⟨[], by simp⟩)
  have kenv : ∀ H', (o.chg = false → H' = H) → (o.grows = true → ∃ e, H' = H ++ e) → K1 env1 H' → K2 env2 H' := fun H' hc hg => hK [] H' (by simp) hc hg
  cases o with
  | set i take =>
    simp only [IOp.all, List.mem_singleton, forall_eq] at hl
    simp only [aop] at h ⊢
    cases dst with
    | none => exact kenv H (fun _ => rfl) (fun _ => ⟨[], by simp⟩) h
    | some d =>
      simp only at h ⊢
      cases i with
      | c v => cases take <;> exact kput0 _ h
      | t s =>
        have hs : get env2 s = get env1 s := hl
        cases take with
        | false =>
          have e1 : setE env1 d (.t s) false = put (some d) (get env1 s).unown env1 := rfl
          have e2 : setE env2 d (.t s) false = put (some d) (get env1 s).unown env2 := by simp only [setE, put, aval, hs]
          rw [e2]; rw [e1] at h
          exact kput0 _ h
        | true =>
          have e1 : setE env1 d (.t s) true = [(d, get env1 s), (s, (get env1 s).unown)] ++ env1 := rfl
          have e2 : setE env2 d (.t s) true = [(d, get env1 s), (s, (get env1 s).unown)] ++ env2 := by simp only [setE, hs]; rfl
          rw [e2]; rw [e1] at h
          exact hK _ H (by simp [IOp.kill]) (fun _ => rfl) (fun _ => ⟨[], by simp⟩) h
  | pick c a b =>
    simp only [IOp.all, List.mem_cons, List.not_mem_nil, or_false, forall_eq_or_imp, forall_eq] at hl
    obtain ⟨h1, h2, h3⟩ := hl
    simp only [aop] at h ⊢
    rw [h1, h2, h3]
    obtain ⟨q, hq, h⟩ := boolP_inv h
    rw [hq]
    exact ⟨fun e => kput0 _ (h.1 e), fun e => kput0 _ (h.2 e)⟩
  | bin op i j =>
    simp only [IOp.all, List.mem_cons, List.not_mem_nil, or_false, forall_eq_or_imp, forall_eq] at hl
    simp only [aop] at h ⊢
    rw [hl.1, hl.2]
    exact abin_mono kput0 h
  | shift op i j =>
    simp only [IOp.all, List.mem_cons, List.not_mem_nil, or_false, forall_eq_or_imp, forall_eq] at hl
    simp only [aop] at h ⊢
    rw [hl.1, hl.2]
    exact ashift_mono kput0 h
  | eqBool neq i j =>
    simp only [IOp.all, List.mem_cons, List.not_mem_nil, or_false, forall_eq_or_imp, forall_eq] at hl
    simp only [aop] at h ⊢
    rw [hl.1, hl.2]
    exact aeqBool_mono kput0 h
  | indexAddr esz i j =>
    simp only [IOp.all, List.mem_cons, List.not_mem_nil, or_false, forall_eq_or_imp, forall_eq] at hl
    simp only [aop] at h ⊢
    rw [hl.1, hl.2]
    exact ⟨h.1, aindexAddr_mono kput0 h.2⟩
  | indexStr i j =>
    simp only [IOp.all, List.mem_cons, List.not_mem_nil, or_false, forall_eq_or_imp, forall_eq] at hl
    simp only [aop] at h ⊢
    rw [hl.1, hl.2]
    exact aindexStr_mono kput0 h
  | lookup kd z i j ok =>
    simp only [IOp.all, List.mem_cons, List.not_mem_nil, or_false, forall_eq_or_imp, forall_eq] at hl
    simp only [aop] at h ⊢
    rw [hl.1, hl.2]
    exact alookup_mono kput0 h
  | mx big i j =>
    simp only [IOp.all, List.mem_cons, List.not_mem_nil, or_false, forall_eq_or_imp, forall_eq] at hl
    simp only [aop] at h ⊢
    rw [hl.1, hl.2]
    exact amx_mono kput0 h
  | store m i j =>
    simp only [IOp.all, List.mem_cons, List.not_mem_nil, or_false, forall_eq_or_imp, forall_eq] at hl
    simp only [aop] at h ⊢
    rw [hl.1, hl.2]
    exact astore_mono (fun H' hk => kenv H' (fun e => by cases e) (fun e => by cases e) hk) h
  | append esz bytes i j =>
    simp only [IOp.all, List.mem_cons, List.not_mem_nil, or_false, forall_eq_or_imp, forall_eq] at hl
    simp only [aop] at h ⊢
    rw [hl.1, hl.2]
    refine aappend_mono (fun zs hk => ?_) h
    cases i with
    | c v => exact kput0 _ hk
    | t s =>
      have hs : get env2 s = get env1 s := hl.1
      have e : ∀ env : Env, get env s = get env1 s → put dst (.lst esz zs) (unslotE env (IX.t s).slot) = (put dst (.lst esz zs) [(s, (get env1 s).unown)]) ++ env := by
        intro env he
        cases dst <;> simp [put, unslotE, IX.slot, he]
      rw [e env1 rfl] at hk
      rw [e env2 hs]
      refine hK _ H ?_ (fun _ => rfl) (fun _ => ⟨[], by simp⟩) hk
      intro p hp
      cases dst with
      | none => simp [put] at hp; subst hp; right; simp [IOp.kill]
      | some d =>
        simp [put] at hp
        rcases hp with rfl | rfl
        · left; rfl
        · right; simp [IOp.kill]
  | copy esz i j =>
    simp only [IOp.all, List.mem_cons, List.not_mem_nil, or_false, forall_eq_or_imp, forall_eq] at hl
    simp only [aop] at h ⊢
    rw [hl.1, hl.2]
    exact acopy_mono (fun v H' hk => kput v H' (fun e => by cases e) (fun e => by cases e) hk) h
  | mapset kd i j k =>
    simp only [IOp.all, List.mem_cons, List.not_mem_nil, or_false, forall_eq_or_imp, forall_eq] at hl
    simp only [aop] at h ⊢
    rw [hl.1, hl.2.1, hl.2.2]
    exact amapset_mono (fun H' hk => kenv H' (fun e => by cases e) (fun e => by cases e) hk) h
  | putCell i s =>
    simp only [IOp.all, List.mem_cons, List.not_mem_nil, or_false, forall_eq_or_imp, forall_eq] at hl
    simp only [aop] at h ⊢
    have hs : get env2 s = get env1 s := hl.2
    rw [hl.1, hs]
    exact aputCell_mono (fun H' hk => hK [(s, (get env1 s).unown)] H' (by simp [IOp.kill]) (fun e => by cases e) (fun e => by cases e) hk) h
  | eqNil kd neq i =>
    simp only [IOp.all, List.mem_singleton, forall_eq] at hl
    simp only [aop] at h ⊢
    rw [hl]
    exact aeqNil_mono kput0 h
  | un op i =>
    simp only [IOp.all, List.mem_singleton, forall_eq] at hl
    simp only [aop] at h ⊢
    rw [hl]
    exact aun_mono kput0 h
  | box i =>
    simp only [IOp.all, List.mem_singleton, forall_eq] at hl
    simp only [aop] at h ⊢
    rw [hl]
    exact ⟨h.1, h.2.1, kput _ _ (fun e => by cases e) (fun _ => ⟨_, rfl⟩) h.2.2⟩
  | boxi i =>
    simp only [IOp.all, List.mem_singleton, forall_eq] at hl
    simp only [aop] at h ⊢
    rw [hl]
    exact ⟨h.1, kput0 _ h.2⟩
  | boxs m i =>
    simp only [IOp.all, List.mem_singleton, forall_eq] at hl
    simp only [aop] at h ⊢
    rw [hl]
    exact ⟨h.1, h.2.1, h.2.2.1, kput0 _ h.2.2.2⟩
  | alloc z =>
    simp only [aop] at h ⊢
    exact ⟨h.1, kput _ _ (fun e => by cases e) (fun _ => ⟨_, rfl⟩) h.2⟩
  | mkmap =>
    simp only [aop] at h ⊢
    exact kput _ _ (fun e => by cases e) (fun _ => ⟨_, rfl⟩) h
  | load sz i =>
    simp only [IOp.all, List.mem_singleton, forall_eq] at hl
    simp only [aop] at h ⊢
    rw [hl]
    exact aload_mono kput0 h
  | takeCell i =>
    simp only [IOp.all, List.mem_singleton, forall_eq] at hl
    simp only [aop] at h ⊢
    rw [hl]
    cases dst with
    | none => exact h.elim
    | some d =>
      cases hv : aval env1 i with
      | ptr id off =>
        rw [hv] at h
        simp only at h ⊢
        cases hid : H[id]? with
        | none => rw [hid] at h; exact h.elim
        | some ob =>
          rw [hid] at h
          cases ob with
          | cells es => exact ⟨h.1, hK [(d, es.getD off .any)] _ (by simp) (fun e => by cases e) (fun e => by cases e) h.2⟩
          | _ => exact h.elim
      | _ => rw [hv] at h; exact h.elim
  | setf esz i =>
    simp only [IOp.all, List.mem_singleton, forall_eq] at hl
    simp only [aop] at h ⊢
    rw [hl]
    exact asetf_mono (fun v H' hk => kput v H' (fun e => by cases e) (fun e => by cases e) hk) h
  | nilCheck i =>
    simp only [IOp.all, List.mem_singleton, forall_eq] at hl
    simp only [aop] at h ⊢
    rw [hl]
    exact anilCheck_mono kput0 h
  | fieldAddr off sz i =>
    simp only [IOp.all, List.mem_singleton, forall_eq] at hl
    simp only [aop] at h ⊢
    rw [hl]
    exact afieldAddr_mono kput0 h
  | field off sz i =>
    simp only [IOp.all, List.mem_singleton, forall_eq] at hl
    simp only [aop] at h ⊢
    rw [hl]
    exact afield_mono kput0 h
  | len kd i =>
    simp only [IOp.all, List.mem_singleton, forall_eq] at hl
    simp only [aop] at h ⊢
    rw [hl]
    exact ⟨h.1, alen_mono kput0 h.2⟩
  | mkarr esz bytes z i =>
    simp only [IOp.all, List.mem_singleton, forall_eq] at hl
    simp only [aop] at h ⊢
    rw [hl]
    exact amkarr_mono (fun v H' hk => kput v H' (fun e => by cases e) (fun e => by cases e) hk) h
  | mkbuf esz bytes i =>
    simp only [IOp.all, List.mem_singleton, forall_eq] at hl
    simp only [aop] at h ⊢
    rw [hl]
    exact amkbuf_mono kput0 h
  | extract i k =>
    simp only [IOp.all, List.mem_singleton, forall_eq] at hl
    simp only [aop] at h ⊢
    rw [hl]
    exact aextract_mono kput0 h
  | convInt k i =>
    simp only [IOp.all, List.mem_singleton, forall_eq] at hl
    simp only [aop] at h ⊢
    rw [hl]
    exact aconvInt_mono kput0 h
  | convStr i =>
    simp only [IOp.all, List.mem_singleton, forall_eq] at hl
    simp only [aop] at h ⊢
    rw [hl]
    exact aconvStr_mono kput0 h
  | bytesOf i =>
    simp only [IOp.all, List.mem_singleton, forall_eq] at hl
    simp only [aop] at h ⊢
    rw [hl]
    exact abytesOf_mono kput0 h
  | strOf i =>
    simp only [IOp.all, List.mem_singleton, forall_eq] at hl
    simp only [aop] at h ⊢
    rw [hl]
    exact astrOf_mono kput0 h
  | build z ps =>
    simp only [IOp.all] at hl
    simp only [aop] at h ⊢
    have : (ps.map fun q => (q.1, q.2.1, aval env2 q.2.2)) = ps.map fun q => (q.1, q.2.1, aval env1 q.2.2) :=
      List.map_congr_left fun q hq => by rw [hl _ (List.mem_map.2 ⟨q, hq, rfl⟩)]
    rw [this]
    exact afill_mono (fun v hk => kput0 _ hk) h
  | buildSlice own esz z len ps =>
    simp only [IOp.all] at hl
    simp only [aop] at h ⊢
    have : (ps.map fun q => (q.1, aval env2 q.2)) = ps.map fun q => (q.1, aval env1 q.2) :=
      List.map_congr_left fun q hq => by rw [hl _ (List.mem_map.2 ⟨q, hq, rfl⟩)]
    rw [this]
    exact abslice_mono (fun v hk => kput0 _ hk) h
  | slice esz i lo hi m =>
    simp only [IOp.all, List.mem_cons, List.mem_append, forall_eq_or_imp] at hl
    obtain ⟨h1, h2⟩ := hl
    simp only [aop] at h ⊢
    rw [h1, opt_look2 (fun i hi => h2 i (.inl (.inl hi))), opt_look2 (fun i hi => h2 i (.inl (.inr hi))), opt_look2 (fun i hi => h2 i (.inr hi))]
    exact asliceX_mono kput0 h
  | sliceStr i lo hi =>
    simp only [IOp.all, List.mem_cons, List.mem_append, forall_eq_or_imp] at hl
    obtain ⟨h1, h2⟩ := hl
    simp only [aop] at h ⊢
    rw [h1, opt_look2 (fun i hi => h2 i (.inl hi)), opt_look2 (fun i hi => h2 i (.inr hi))]
    exact asliceStr_mono kput0 h
  | fn f first cap =>
    simp only [IOp.all, List.mem_append] at hl
    simp only [aop] at h ⊢
    rw [map_look (fun i hi => hl i (.inl hi)) AV.unown, map_look (fun i hi => hl i (.inr hi)) AV.unown]
    exact kput0 _ h
  | call f args pass =>
    simp only [IOp.all, List.mem_cons, forall_eq_or_imp] at hl
    obtain ⟨h1, h2⟩ := hl
    simp only [aop, acall] at h ⊢
    rw [h1]
    split at h <;> try exact h.elim
    rename_i g first cap hg
    obtain ⟨args', hle, hcall⟩ := h
    refine ⟨args', ?_, hcall.mono fun r H' hk => ?_⟩
    · rw [baseArgs_eq h2]; exact hle
    · cases hp : passSlot args pass with
      | none =>
        rw [hp] at hk
        exact kput r H' (fun e => by cases e) (fun e => by cases e) hk
      | some s =>
        rw [hp] at hk
        have hmem : IX.t s ∈ args ∧ s ∈ (IOp.call f args pass).kill := by
          unfold passSlot at hp
          simp only [IOp.kill]
          split at hp
          · rename_i j
            split at hp <;> cases hp
            rename_i hj
            simp only [hj]
            exact ⟨List.mem_of_getElem? hj, by simp⟩
          · cases hp
        have hs : get env2 s = get env1 s := h2 _ hmem.1
        have e : ∀ env : Env, get env s = get env1 s → put dst r (unslotE env (some s)) = (put dst r [(s, (get env1 s).unown)]) ++ env := by
          intro env he
          cases dst <;> simp [put, unslotE, he]
        rw [e env1 rfl] at hk
        rw [e env2 hs]
        refine hK _ H' ?_ (fun e => by cases e) (fun e => by cases e) hk
        intro p hpm
        cases dst with
        | none => simp [put] at hpm; subst hpm; exact .inr hmem.2
        | some d =>
          simp [put] at hpm
          rcases hpm with rfl | rfl
          · left; rfl
          · exact .inr hmem.2
  | never => exact h.elim
end Go.Abs
