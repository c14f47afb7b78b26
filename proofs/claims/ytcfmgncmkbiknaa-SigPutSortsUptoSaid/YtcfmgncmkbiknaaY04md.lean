/- Match, in one's head. -/
import Derived.Test.YtcfmgncmkbiknaaY04mc
set_option maxRecDepth 100000
set_option linter.unusedSimpArgs false
set_option linter.unusedVariables false
namespace Go.Abs
open Go Go.Proofs
/-- What is there stays. -/
def keeps (l l' : List T) : Prop := ∀ i, (l.getD i default).k ≠ 0 → l'.getD i default = l.getD i default
theorem keeps.refl (l : List T) : keeps l l := fun i _ => rfl
theorem keeps.trans {a b c : List T} (h1 : keeps a b) (h2 : keeps b c) : keeps a c := fun i h => by
  rw [h2 i (by rw [h1 i h]; exact h), h1 i h]
theorem getD_set {l : List T} {i j : Nat} {x : T} (h : i < l.length) : (l.set i x).getD j default = if i = j then x else l.getD j default := by
  rw [List.getD_eq_getElem?_getD, List.getElem?_set]
  split
  · rename_i e
    subst e
    simp [h]
  · rw [List.getD_eq_getElem?_getD]
theorem keeps_set {l : List T} {i : Nat} {x : T} (h : i < l.length) (h0 : (l.getD i default).k = 0) : keeps l (l.set i x) := fun j hj => by
  rw [getD_set h, if_neg (fun e : i = j => hj (e ▸ h0))]
theorem sub_mk {l : List T} {k n : Int} {ps : List T} (hk : ¬ k = 1) : sub l (.mk k n ps) = .mk k n (subs l ps) := by
  show mapT _ _ = _
  simp only [mapT, if_neg hk]
  rfl
theorem sub_var {l : List T} {n : Int} {ps : List T} : sub l (.mk 1 n ps) = l.getD n.toNat default := by
  show mapT _ _ = _
  simp only [mapT, if_true]
mutual
theorem mtc_keeps : ∀ (p t : T) (l : List T), (p.k = 1 → p.shaped = true → True) → p.shaped = true → (∀ v ∈ p.fv, v < (l.length : Int)) → keeps l (mtc p t l).2
  | .mk k n ps, t, l, _, hs, hv => by
    simp only [mtc]
    by_cases hk : k = 1
    · rw [if_pos hk]
      have hn : n ∈ (T.mk k n ps).fv := by simp [T.fv, hk]
      have h0 := fv_shaped _ hs n hn
      have h1 := hv n hn
      simp only
      split
      · rename_i hz; exact keeps_set (by omega) hz
      · exact keeps.refl _
    · rw [if_neg hk]
      split
      · simp only [T.fv, if_neg hk] at hv
        exact mtcs_keeps ps t.l l (shaped_sub hs) hv
      · exact keeps.refl _
theorem mtcs_keeps : ∀ (ps ts l : List T), shapeds ps = true → (∀ v ∈ fvs ps, v < (l.length : Int)) → keeps l (mtcs ps ts l).2
  | [], _, l, _, _ => by simp only [mtcs]; exact keeps.refl _
  | _ :: _, [], l, _, _ => by simp only [mtcs]; exact keeps.refl _
  | p :: ps, t :: ts, l, hs, hv => by
    simp only [shapeds, Bool.and_eq_true] at hs
    simp only [fvs, List.mem_append] at hv
    have h1 := mtc_keeps p t l (fun _ _ => trivial) hs.1 (fun v h => hv v (.inl h))
    simp only [mtcs]
    split
    · exact h1.trans (mtcs_keeps ps ts _ hs.2 (fun v h => by rw [mtc_len]; exact hv v (.inr h)))
    · exact h1
end
theorem shaped_k {t : T} (h : t.shaped = true) : t.k = 1 ∨ t.k = 2 := by
  rw [T.shaped_eq] at h
  simp only [Bool.and_eq_true, Bool.not_eq_true', Bool.or_eq_false_iff, decide_eq_false_iff_not, Bool.and_eq_false_iff] at h
  cases t with
  | mk k n l =>
    simp only [T.k] at h ⊢
    have h1 := h.1.1.2
    simp at h1
    omega
theorem sub_keeps {l l' : List T} (hk : keeps l l') : ∀ {p : T}, (∀ v ∈ p.fv, (l.getD v.toNat default).k ≠ 0) → sub l' p = sub l p := by
  intro p h
  exact map_ext p fun v hv => hk _ (h v hv)
theorem subs_keeps {l l' : List T} (hk : keeps l l') {ps : List T} (h : ∀ v ∈ fvs ps, (l.getD v.toNat default).k ≠ 0) : subs l' ps = subs l ps :=
  maps_ext ps fun v hv => hk _ (h v hv)
mutual
theorem mtc_sound : ∀ (p t : T) (l : List T), p.shaped = true → t.shaped = true → (∀ v ∈ p.fv, v < (l.length : Int)) → (mtc p t l).1 = true →
    sub (mtc p t l).2 p = t ∧ ∀ v ∈ p.fv, ((mtc p t l).2.getD v.toNat default).k ≠ 0
  | .mk k n ps, t, l, hs, ht, hv, h => by
    have htk := shaped_k ht
    simp only [mtc] at h ⊢
    by_cases hk : k = 1
    · rw [if_pos hk] at h ⊢
      have hps := shaped_var hs hk
      subst hps
      simp only at h ⊢
      generalize (if (l.getD n.toNat default).k = 0 then l.set n.toNat t else l) = l' at *
      have e : l'.getD n.toNat default = t := (T.same_iff _ _).1 h
      refine ⟨?_, ?_⟩
      · rw [hk, sub_var]; exact e
      · intro v hv'
        simp only [T.fv, hk, if_true, fvs, List.mem_singleton] at hv'
        subst hv'
        rw [e]; omega
    · rw [if_neg hk] at h ⊢
      simp only [T.fv, if_neg hk] at hv ⊢
      split at h
      · rename_i hc
        rw [if_pos hc]
        have := mtcs_sound ps t.l l (shaped_sub hs) (shaped_kids ht).2 hv hc.2.2 h
        refine ⟨?_, this.2⟩
        have hk2 := (shaped_k hs).resolve_left hk
        simp only [T.k] at hk2
        rw [sub_mk hk, this.1, hk2, hc.2.1, ← hc.1]
        cases t; rfl
      · cases h
theorem mtcs_sound : ∀ (ps ts l : List T), shapeds ps = true → (∀ y ∈ ts, y.shaped = true) → (∀ v ∈ fvs ps, v < (l.length : Int)) → ps.length = ts.length → (mtcs ps ts l).1 = true →
    subs (mtcs ps ts l).2 ps = ts ∧ ∀ v ∈ fvs ps, ((mtcs ps ts l).2.getD v.toNat default).k ≠ 0
  | [], [], l, _, _, _, _, _ => by simp [mtcs, subs, mapTs, fvs]
  | [], _ :: _, l, _, _, _, hl, _ => by simp at hl
  | _ :: _, [], l, _, _, _, hl, _ => by simp at hl
  | p :: ps, t :: ts, l, hs, ht, hv, hl, h => by
    simp only [shapeds, Bool.and_eq_true] at hs
    simp only [fvs, List.mem_append] at hv ⊢
    have h1 := mtc_sound p t l hs.1 (ht t (by simp)) (fun v h => hv v (.inl h))
    simp only [mtcs] at h ⊢
    split at h
    · rename_i hc
      rw [if_pos hc]
      obtain ⟨a1, a2⟩ := h1 hc
      have hv2 : ∀ v ∈ fvs ps, v < ((mtc p t l).2.length : Int) := fun v h => by rw [mtc_len]; exact hv v (.inr h)
      have h2 := mtcs_sound ps ts (mtc p t l).2 hs.2 (fun y hy => ht y (List.mem_cons_of_mem _ hy)) hv2 (by simpa using hl) h
      have hk := mtcs_keeps ps ts (mtc p t l).2 hs.2 hv2
      refine ⟨?_, ?_⟩
      · show mapTs _ (p :: ps) = _
        simp only [mapTs]
        have e1 : sub (mtcs ps ts (mtc p t l).2).2 p = t := by rw [sub_keeps hk a2]; exact a1
        rw [show mapT (fun n => (mtcs ps ts (mtc p t l).2).2.getD n.toNat default) p = t from e1]
        rw [show mapTs (fun n => (mtcs ps ts (mtc p t l).2).2.getD n.toNat default) ps = ts from h2.1]
      · rintro v (hv' | hv')
        · rw [hk _ (a2 v hv')]; exact a2 v hv'
        · exact h2.2 v hv'
    · cases h
end
/-- What is there is what a substitution says. -/
def fits (σ : Int → T) (l : List T) : Prop := ∀ i, (l.getD i default).k ≠ 0 → l.getD i default = σ i
theorem fits_rep (σ : Int → T) (n : Nat) : fits σ (List.replicate n T0) := by
  intro i h
  exfalso
  apply h
  rw [List.getD_eq_getElem?_getD, List.getElem?_replicate]
  split <;> rfl
mutual
theorem mtc_comp {σ : Int → T} : ∀ (p : T) (l : List T), p.shaped = true → (∀ v ∈ p.fv, v < (l.length : Int)) → fits σ l → (mtc p (mapT σ p) l).1 = true ∧ fits σ (mtc p (mapT σ p) l).2
  | .mk k n ps, l, hs, hv, hf => by
    simp only [mtc]
    by_cases hk : k = 1
    · rw [if_pos hk]
      have hn : n ∈ (T.mk k n ps).fv := by simp [T.fv, hk]
      have h0 := fv_shaped _ hs n hn
      have h1 := hv n hn
      have hlt : n.toNat < l.length := by omega
      have em : mapT σ (T.mk k n ps) = σ n := by simp only [mapT, if_pos hk]
      rw [em]
      simp only
      by_cases hz : (l.getD n.toNat default).k = 0
      · rw [if_pos hz]
        refine ⟨by rw [getD_set hlt, if_pos rfl]; exact (T.same_iff _ _).2 rfl, fun i hi => ?_⟩
        rw [getD_set hlt] at hi ⊢
        split at hi
        · rename_i e; rw [if_pos e]; rw [show (i : Int) = n by omega]
        · rename_i e; rw [if_neg e]; exact hf i hi
      · rw [if_neg hz]
        have := hf _ hz
        refine ⟨by rw [this, show ((n.toNat : Nat) : Int) = n by omega]; exact (T.same_iff _ _).2 rfl, hf⟩
    · rw [if_neg hk]
      have em : mapT σ (T.mk k n ps) = .mk k n (mapTs σ ps) := by simp only [mapT, if_neg hk]
      have hk2 := (shaped_k hs).resolve_left hk
      simp only [T.k] at hk2
      simp only [T.fv, if_neg hk] at hv
      rw [em, if_pos ⟨hk2, rfl, by simp only [T.l]; rw [mapTs_map]; simp⟩]
      exact mtcs_comp ps l (shaped_sub hs) hv hf
theorem mtcs_comp {σ : Int → T} : ∀ (ps l : List T), shapeds ps = true → (∀ v ∈ fvs ps, v < (l.length : Int)) → fits σ l → (mtcs ps (mapTs σ ps) l).1 = true ∧ fits σ (mtcs ps (mapTs σ ps) l).2
  | [], l, _, _, hf => by simp only [mapTs, mtcs]; exact ⟨trivial, hf⟩
  | p :: ps, l, hs, hv, hf => by
    simp only [shapeds, Bool.and_eq_true] at hs
    simp only [fvs, List.mem_append] at hv
    have h1 := mtc_comp (σ := σ) p l hs.1 (fun v h => hv v (.inl h)) hf
    simp only [mapTs, mtcs]
    rw [if_pos h1.1]
    exact mtcs_comp ps _ hs.2 (fun v h => by rw [mtc_len]; exact hv v (.inr h)) h1.2
end
mutual
theorem map_fix {f : Int → T} : ∀ (p : T), p.shaped = true → mapT f p = p → ∀ v ∈ p.fv, f v = .mk 1 v []
  | .mk k n l, hs, h, v, hv => by
    simp only [mapT] at h
    simp only [T.fv] at hv
    by_cases hk : k = 1
    · have hl := shaped_var hs hk
      subst hl
      rw [if_pos hk] at h hv
      simp only [fvs, List.mem_singleton] at hv
      subst hv
      rw [h, hk]
    · rw [if_neg hk] at h hv
      exact maps_fix l (shaped_sub hs) (by injection h) v hv
theorem maps_fix {f : Int → T} : ∀ (l : List T), shapeds l = true → mapTs f l = l → ∀ v ∈ fvs l, f v = .mk 1 v []
  | [], _, _, v, hv => by cases hv
  | x :: r, hs, h, v, hv => by
    simp only [shapeds, Bool.and_eq_true] at hs
    simp only [mapTs, List.cons.injEq] at h
    simp only [fvs, List.mem_append] at hv
    rcases hv with hv | hv
    · exact map_fix x hs.1 h.1 v hv
    · exact maps_fix r hs.2 h.2 v hv
end
theorem trees1 {p : T} (h : p.tree = true) : treesB [p] = true := by simp [treesB, h]
/-- Of two trees that are instances of each other: the same but for names. -/
theorem both_ways {p t : T} {m m' : List T} (hp : p.tree = true) (hm : ∀ v ∈ p.fv, (m.getD v.toNat default).shaped = true) (h1 : sub m p = t) (h2 : sub m' t = p) : (nrmS [p]).1 = (nrmS [t]).1 := by
  have hsh := ((T.tree_iff p).1 hp).2.2
  have hf : mapT (fun n => sub m' (m.getD n.toNat default)) p = p := by
    rw [← h1] at h2
    unfold sub at h2 ⊢
    rw [map_map] at h2
    exact h2
  have hx := map_fix p hsh hf
  have hvar : ∀ v ∈ p.fv, m.getD v.toNat default = .mk 1 (m.getD v.toNat default).n [] := by
    intro v hv
    have h3 := hx v hv
    have h4 := hm v hv
    cases hmv : m.getD v.toNat default with
    | mk k n l =>
      rw [hmv] at h3 h4
      by_cases hk : k = 1
      · rw [shaped_var h4 hk, hk]; rfl
      · rw [sub_mk hk] at h3
        injection h3 with e1 e2 e3
        exact absurd e1 hk
  let g : Int → Int := fun v => (m.getD v.toNat default).n
  have ht : t = ren g p := by
    rw [← h1]
    exact map_ext p fun v hv => hvar v hv
  have hinv : ∀ v ∈ p.fv, m'.getD (g v).toNat default = .mk 1 v [] := by
    intro v hv
    have h3 := hx v hv
    rw [hvar v hv, sub_var] at h3
    exact h3
  have hg : ∀ u v, u ∈ fvs [p] → v ∈ fvs [p] → g u = g v → u = v := by
    intro u v hu hv e
    simp only [fvs, List.append_nil] at hu hv
    have a := hinv u hu
    have b := hinv v hv
    rw [e, b] at a
    injection a with _ a2 _
    exact a2.symm
  have htr : t.tree = true ∨ t.tree = false := by cases t.tree <;> simp
  have hb := trees1 hp
  have hw := walk_ren (g := g) hb hg
  simp only [List.map] at hw
  rw [← ht] at hw
  have htt : t.tree = true := by
    rw [ht]
    refine ren_tree hp fun v hv => ?_
    have h4 := hm v hv
    rw [hvar v hv] at h4
    have := fv_shaped _ h4 (m.getD v.toNat default).n (by simp [T.fv])
    exact this
  rw [nrmS_ok hb, nrmS_ok (trees1 htt), hw]
  simp only [List.map, List.cons.injEq, and_true]
  rw [ht]
  unfold posT
  rw [ren_ren]
  refine (map_ext p fun v hv => ?_).symm
  show T.mk 1 (pos 0 ((walkVs [p] []).map g) (g v)) [] = _
  rw [pos_map (p := fun v => v ∈ fvs [p]) hg _ 0 v (fun u hu => (mem_walk0 [p] u).1 hu) (by simpa [fvs] using hv)]
/-- Of two trees whose normal ones are the same. -/
theorem norm_inst {p t : T} (hp : p.tree = true) (ht : t.tree = true) (h : (nrmS [p]).1 = (nrmS [t]).1) : ∃ σ : Int → T, t = mapT σ p := by
  rw [nrmS_ok (trees1 hp), nrmS_ok (trees1 ht)] at h
  simp only [List.map, List.cons.injEq, and_true] at h
  have hsh := ((T.tree_iff t).1 ht).2.2
  refine ⟨fun v => .mk 1 ((walkVs [t] []).getD (pos 0 (walkVs [p] []) v).toNat 0) [], ?_⟩
  have e : t = ren (fun i => (walkVs [t] []).getD i.toNat 0) (posT (walkVs [t] []) t) := by
    unfold posT
    rw [ren_ren]
    refine ((ren_id t hsh).symm).trans (map_ext t fun v hv => ?_)
    have h3 := (pos_spec (walkVs [t] []) 0 v (fv_walk (trees1 ht) (by simp) hv)).2.2
    rw [show pos 0 (walkVs [t] []) v - 0 = pos 0 (walkVs [t] []) v by omega] at h3
    simp only [h3]
  rw [← h] at e
  unfold posT at e
  rw [ren_ren] at e
  exact e
end Go.Abs
