/- A memory-free reading of the model's values (part 17): statements whose order is open are right. -/
import Derived.Test.YtcfmgncmkbiknaaAbs16
set_option linter.unusedVariables false
set_option linter.unusedSimpArgs false
namespace Go.Abs
open Go

section
variable {P : Program} {A : Nat → Prop} {n : Nat}

theorem compOps_get {ops : Array Oper} {an : Ann} {rid : Nat} : ∀ (fuel k : Nat) (l : List Oper) (il : List IOper), compOps P ops an n rid false fuel k l = some il →
    il.length = l.length ∧ ∀ (j : Nat) (o : Oper), l[j]? = some o → ∃ g, compG ops o = some g ∧ dstOk n o = true ∧ il[j]? = some ⟨g, o.dst, comp1 P o (an.at_ rid (k + j))⟩
  | _, _, [], il, hc => by
    unfold compOps at hc
    cases hc
    exact ⟨rfl, fun j o h => by simp at h⟩
  | 0, _, o :: r, il, hc => by simp [compOps] at hc
  | fuel + 1, k, o :: r, il, hc => by
    unfold compOps at hc
    simp only [Bool.false_eq_true, and_false, if_false] at hc
    split at hc <;> try cases hc
    rename_i g xs hg hxs
    split at hc <;> cases hc
    rename_i hdst
    obtain ⟨h1, h2⟩ := compOps_get fuel (k + 1) r xs hxs
    refine ⟨by simp [h1], fun j o' hj => ?_⟩
    cases j with
    | zero =>
      simp at hj
      subst hj
      exact ⟨g, hg, hdst, by simp⟩
    | succ j =>
      simp at hj
      obtain ⟨g', e1, e2, e3⟩ := h2 j o' hj
      exact ⟨g', e1, e2, by simp [e3, Nat.add_assoc, Nat.add_comm 1 j]⟩

theorem any_of_AAny {ops : Array Oper} {il : List IOper} {an : Ann} {rid : Nat} {L0 : List Nat} {M0 : Mem} {w0 : World} {K : Env → List AObj → Prop} {Q : Exit → Act → World → Prop}
    (hc : compOps P ops an n rid false (ops.size + 1) 0 ops.toList = some il)
    (hF : ∀ (M : Mem) (L : List Nat) (w : World) (H : List AObj) (env : Env) (O : Pos → Option Nat) (a : Act), K env H → Fr A n M L w H env O a → Ext A M0 w0 M w → L0 <+: L → Q .normal a w) :
    ∀ (f : Nat) (listed : Array Bool) {M : Mem} {L : List Nat} {w : World} {H : List AObj} {env : Env} {O : Pos → Option Nat} {a : Act}, Fr A n M L w H env O a → Ext A M0 w0 M w → L0 <+: L → AAny P ops il K f listed env H → wpAny P .any ops Q f listed a w
  | 0, _, _, _, _, _, _, _, _, hf, hext, hL, h => ⟨h.1, hF _ _ _ _ _ _ _ h.2 hf hext hL⟩
  | f + 1, listed, M, L, w, H, env, O, a, hf, hext, hL, h => by
    refine ⟨fun h0 => hF _ _ _ _ _ _ _ (h.1 h0) hf hext hL, fun i hi => ?_⟩
    have hq := h.2 i hi
    unfold wpOp
    cases ho : ops[i]? with
    | none =>
      obtain ⟨_, o, ho', _⟩ := mem_ready.1 hi
      rw [ho] at ho'; cases ho'
    | some o =>
      obtain ⟨g, hg, hdst, hil⟩ := (compOps_get _ _ _ _ hc).2 i o (by simpa using ho)
      unfold qA at hq
      rw [hil] at hq
      have hs := agd_sound (ops := ops) hg hdst hf hq Q
      have hrest : ∀ a' w', Aft A n M L w (AAny P ops il K f (listed.setIfInBounds i true)) a' w' → wpAny P .any ops Q f (listed.setIfInBounds i true) a' w' := by
        rintro a' w' ⟨M', L', H', env', O', k1, k2, k3, k4⟩
        exact any_of_AAny hc hF f _ k2 (hext.trans k3) (hL.trans k4) k1
      simp only
      split
      · rename_i hw
        rw [if_pos hw] at hs
        exact .inl (Oper.wp_mono hrest hs)
      · rename_i hw
        rw [if_neg hw] at hs
        exact hrest _ _ hs

theorem drawSound (L0 : List Nat) : DrawSound P A n L0 := by
  intro id ops il p live an M L w H env O a M0 w0 Q hm hB hc h hf hext hL
  simp only [awp] at h
  have hK : Inv (fun (env' : Env) (H' : List AObj) => ∃ e, get e = get env' ∧ Q .normal (prune live e) H') := fun e1 e2 H he ⟨e, h1, h2⟩ => ⟨e, h1.trans he, h2⟩
  have hsz : il.length = ops.size := by simpa using (compOps_get _ _ _ _ hc).1
  have hB := pokM_pok hsz p _ _ _ _ (bits_none _) (by simp) hB
  have hcl : closed ops (Array.replicate ops.size false) := by
    intro k o _ hk
    simp only [Array.getD_eq_getD_getElem?, Array.getElem?_replicate] at hk
    split at hk <;> cases hk
  have hd : adt P (inst il p) env H (fun (env' : Env) (H' : List AObj) => ∃ e, get e = get env' ∧ Q .normal (prune live e) H') := by
    have mono : ∀ (t : DT) (env : Env) (H : List AObj) (K1 K2 : Env → List AObj → Prop), (∀ e H, K1 e H → K2 e H) → Inv K2 → adt P t env H K1 → adt P t env H K2 := by
      intro t
      induction t with
      | done => intro env H K1 K2 hk _ h; exact hk _ _ h
      | nil => intro _ _ _ _ _ _ _; trivial
      | take st o r ih =>
        intro env H K1 K2 hk hi h
        simp only [adt, atake] at h ⊢
        cases hg : o.g with
        | none =>
          simp only [hg] at h ⊢
          obtain ⟨x, hx, h⟩ := h
          exact ⟨x, hx, ih _ _ _ _ hk hi h⟩
        | some gw =>
          obtain ⟨g, want⟩ := gw
          simp only [hg, aguard] at h ⊢
          split at h
          rotate_left
          · exact ih _ _ _ _ hk hi h
          · exact h.elim
          exact ⟨fun e => let ⟨x, hx, h⟩ := h.1 e; ⟨x, hx, ih _ _ _ _ hk hi h⟩, fun e => ih _ _ _ _ hk hi (h.2 e)⟩
      | br o t rest iht ihr =>
        intro env H K1 K2 hk hi h
        have hinv : ∀ K : Env → List AObj → Prop, Inv K → ∀ t, Inv fun env H => adt P t env H K := by
          intro K hK t
          induction t with
          | done => exact hK
          | nil => intro _ _ _ _ _; trivial
          | take st o r ih =>
            intro e1 e2 H he h
            simp only [adt, atake] at h ⊢
            have hav : aval e2 = aval e1 := by
              funext i
              cases i with
              | c v => rfl
              | t s => show get e2 s = get e1 s; rw [he]
            have hput : ∀ x, get (put o.dst x e1) = get (put o.dst x e2) := fun x => by rw [get_put, get_put, he]
            cases hg : o.g with
            | none =>
              simp only [hg] at h ⊢
              obtain ⟨x, hx, h⟩ := h
              exact ⟨x, by rw [hav]; exact hx, ih _ _ _ (hput x) h⟩
            | some gw =>
              obtain ⟨g, want⟩ := gw
              simp only [hg, aguard] at h ⊢
              rw [← he]
              split at h
              rotate_left
              · exact ih _ _ _ (hput _) h
              · exact h.elim
              exact ⟨fun e => let ⟨x, hx, h⟩ := h.1 e; ⟨x, by rw [hav]; exact hx, ih _ _ _ (hput x) h⟩, fun e => ih _ _ _ (hput _) (h.2 e)⟩
          | br o t rest iht ihr =>
            intro e1 e2 H he h
            exact ⟨agd_frame (fun s _ => by rw [he]) h.1 fun a b H' ⟨mods, _, g1, g2⟩ _ _ hk => iht _ _ _ (by rw [g1, g2, get_append_congr he]) hk, ihr _ _ _ he h.2⟩
        exact ⟨agd_mono h.1 fun e1 e2 H' he hk2 => hinv K2 hi t _ _ _ he (iht _ _ _ _ hk hi hk2), ihr _ _ _ _ hk hi h.2⟩
    exact mono _ _ _ _ _ (fun e H hq => ⟨e, rfl, hq⟩) hK h
  have hA := (pok_any (P := P) hK hsz p ops.size (Array.replicate ops.size false) (env := env) (H := H) hcl).1 hB hd
  refine wp_region_any hm (any_of_AAny (M0 := M0) (w0 := w0) (L0 := L0) hc ?_ ops.size _ (M := M) (L := L) (H := H) (env := env) (O := O) ⟨hf.st.drew, hf.size, hf.defers⟩ (hext.trans Ext.drew) hL hA)
  rintro M' L' w' H' env' O' a' ⟨e, he, hq⟩ h2 h3 h4
  obtain ⟨O'', h5⟩ := (h2.env_eq he).weaken (get_prune live e)
  exact ⟨M', L', H', _, O'', hq, h5, h3, h4⟩

theorem sound' {L0 : List Nat} {an : Ann} {lv : Lives} {pl : Plans} (c : Code) (ir : IR) (hc : comp P an lv pl n c = some ir) {M : Mem} {L : List Nat} {w : World} {H : List AObj} {env : Env} {O : Pos → Option Nat} {a : Act} {M0 : Mem} {w0 : World} {Q : Exit → Env → List AObj → Prop}
    (h : awp P L0.length ir env H Q) (hf : Fr A n M L w H env O a) (hext : Ext A M0 w0 M w) (hL : L0 <+: L) : c.wp P (Post A n M0 L0 w0 Q) a w :=
  sound (drawSound L0) c ir hc h hf hext hL
end
end Go.Abs
