/- Normal, in one's head. -/
import Derived.Test.YtcfmgncmkbiknaaY04n
set_option maxRecDepth 100000
set_option linter.unusedSimpArgs false
set_option linter.unusedVariables false
set_option linter.unusedSectionVars false
namespace Go.Abs
open Go Go.Proofs
theorem mem_map_inj {g : Int → Int} {p : Int → Prop} (hg : ∀ u v, p u → p v → g u = g v → u = v) {vs : List Int} (hp : ∀ v ∈ vs, p v) {n : Int} (hn : p n) : g n ∈ vs.map g ↔ n ∈ vs := by
  constructor
  · intro h
    obtain ⟨u, hu, e⟩ := List.mem_map.1 h
    have := hg u n (hp u hu) hn e
    subst this; exact hu
  · exact fun h => List.mem_map.2 ⟨n, h, rfl⟩
theorem one_inj {g : Int → Int} {p : Int → Prop} (hg : ∀ u v, p u → p v → g u = g v → u = v) {vs : List Int} (hp : ∀ v ∈ vs, p v) {n : Int} (hn : p n) :
    (if g n ∉ vs.map g then vs.map g ++ [g n] else vs.map g) = (if n ∉ vs then vs ++ [n] else vs).map g := by
  have h := mem_map_inj hg hp hn
  by_cases hm : n ∈ vs
  · rw [if_neg (by simpa using h.2 hm), if_neg (by simpa using hm)]
  · rw [if_pos (fun k => hm (h.1 k)), if_pos hm]; simp
mutual
theorem walkV_ren {g : Int → Int} {p : Int → Prop} (hg : ∀ u v, p u → p v → g u = g v → u = v) : ∀ (x : T) (vs : List Int), x.shaped = true → (∀ v ∈ vs, p v) → (∀ v ∈ x.fv, p v) → walkV (ren g x) (vs.map g) = (walkV x vs).map g
  | .mk k n l, vs, hs, hp, hx => by
    simp only [ren, mapT]
    simp only [T.fv] at hx
    by_cases hk : k = 1
    · rw [if_pos hk] at hx
      have hl := shaped_var hs hk
      subst hl
      rw [if_pos hk]
      simp only [walkV, walkVs, hk, true_and]
      exact one_inj hg hp (hx n (by simp))
    · rw [if_neg hk] at hx
      rw [if_neg hk]
      simp only [walkV, hk, false_and, if_false]
      exact walkVs_ren hg l vs (shaped_sub hs) hp hx
theorem walkVs_ren {g : Int → Int} {p : Int → Prop} (hg : ∀ u v, p u → p v → g u = g v → u = v) : ∀ (l : List T) (vs : List Int), shapeds l = true → (∀ v ∈ vs, p v) → (∀ v ∈ fvs l, p v) → walkVs (mapTs (fun n => .mk 1 (g n) []) l) (vs.map g) = (walkVs l vs).map g
  | [], vs, _, _, _ => rfl
  | x :: r, vs, hs, hp, hx => by
    simp only [shapeds, Bool.and_eq_true] at hs
    simp only [fvs, List.mem_append] at hx
    simp only [mapTs, walkVs]
    have h1 := walkV_ren hg x vs hs.1 hp (fun v hv => hx v (.inl hv))
    unfold ren at h1
    rw [h1]
    refine walkVs_ren hg r _ hs.2 (fun v hv => ?_) (fun v hv => hx v (.inr hv))
    rcases (mem_walkV x vs v).1 hv with h | h
    · exact hp v h
    · exact hx v (.inl h)
end
theorem trees_shapeds {l : List T} (h : treesB l = true) : shapeds l = true := by
  rw [shapeds_all, List.all_eq_true]
  exact fun x hx => ((T.tree_iff x).1 (List.all_eq_true.1 h x hx)).2.2
theorem fvs_of {l : List T} {x : T} (hx : x ∈ l) {v : Int} (hv : v ∈ x.fv) : v ∈ fvs l := by
  induction l with
  | nil => cases hx
  | cons y r ih =>
    simp only [fvs, List.mem_append]
    rcases List.mem_cons.1 hx with rfl | hx
    · exact .inl hv
    · exact .inr (ih hx)
/-- With other names, of which no two fall together. -/
theorem walk_ren {g : Int → Int} {l : List T} (hb : treesB l = true) (hg : ∀ u v, u ∈ fvs l → v ∈ fvs l → g u = g v → u = v) : walkVs (l.map (ren g)) [] = (walkVs l []).map g := by
  have h := walkVs_ren (p := fun v => v ∈ fvs l) hg l [] (trees_shapeds hb) (fun v hv => by cases hv) (fun v hv => hv)
  rw [mapTs_map] at h
  exact h
theorem mem_walk0 (l : List T) (v : Int) : v ∈ walkVs l [] ↔ v ∈ fvs l := by rw [mem_walkVs]; simp
/-! ### Where a number stands -/
theorem pos_spec : ∀ (vs : List Int) (k n : Int), n ∈ vs → k ≤ pos k vs n ∧ pos k vs n < k + vs.length ∧ vs.getD (pos k vs n - k).toNat 0 = n
  | [], _, _, h => by cases h
  | v :: r, k, n, h => by
    simp only [pos, List.length_cons]
    by_cases hv : n = v
    · rw [if_pos hv]
      refine ⟨by omega, by omega, ?_⟩
      rw [show (k - k).toNat = 0 by omega]; simp [hv]
    · rw [if_neg hv]
      have := pos_spec r (k + 1) n ((List.mem_cons.1 h).resolve_left hv)
      refine ⟨by omega, by omega, ?_⟩
      rw [show (pos (k + 1) r n - k).toNat = (pos (k + 1) r n - (k + 1)).toNat + 1 by omega, List.getD_cons_succ]
      exact this.2.2
theorem pos_inj {vs : List Int} {u v : Int} (hu : u ∈ vs) (hv : v ∈ vs) (h : pos 0 vs u = pos 0 vs v) : u = v := by
  rw [← (pos_spec vs 0 u hu).2.2, ← (pos_spec vs 0 v hv).2.2, h]
def iota : Int → Nat → List Int
  | _, 0 => []
  | k, n + 1 => k :: iota (k + 1) n
theorem iota_len : ∀ (n : Nat) (k : Int), (iota k n).length = n
  | 0, _ => rfl
  | n + 1, k => by simp [iota, iota_len n]
theorem iota_get : ∀ (n : Nat) (k : Int) (i : Nat), i < n → (iota k n).getD i 0 = k + i
  | 0, _, _, h => by omega
  | n + 1, k, 0, _ => by simp [iota]
  | n + 1, k, i + 1, h => by
    simp only [iota, List.getD_cons_succ]
    rw [iota_get n (k + 1) i (by omega)]; omega
theorem pos_iota : ∀ (n : Nat) (k j : Int), k ≤ j → j < k + n → pos k (iota k n) j = j
  | 0, k, j, h1, h2 => by omega
  | n + 1, k, j, h1, h2 => by
    simp only [iota, pos]
    by_cases hj : j = k
    · rw [if_pos hj]; exact hj.symm
    · rw [if_neg hj]; exact pos_iota n (k + 1) j (by omega) (by omega)
theorem map_pos : ∀ (vs : List Int) (k : Int), vs.Nodup → vs.map (pos k vs) = iota k vs.length
  | [], _, _ => rfl
  | v :: r, k, h => by
    rw [List.nodup_cons] at h
    have ih := map_pos r (k + 1) h.2
    simp only [List.map_cons, List.length_cons, iota]
    rw [← ih]
    congr 1
    · simp [pos]
    · refine List.map_congr_left fun n hn => ?_
      have : n ≠ v := fun e => h.1 (e ▸ hn)
      simp [pos, this]
theorem pos_map {g : Int → Int} {p : Int → Prop} (hg : ∀ u v, p u → p v → g u = g v → u = v) : ∀ (vs : List Int) (k n : Int), (∀ v ∈ vs, p v) → p n → pos k (vs.map g) (g n) = pos k vs n
  | [], _, _, _, _ => rfl
  | v :: r, k, n, h, hn => by
    simp only [List.map_cons, pos]
    by_cases hv : n = v
    · rw [if_pos (by rw [hv]), if_pos hv]
    · rw [if_neg (fun e => hv (hg n v hn (h v (by simp)) e)), if_neg hv]
      exact pos_map hg r (k + 1) n (fun v hv => h v (List.mem_cons_of_mem _ hv)) hn
/-! ### Normal -/
section
variable {l : List T} (hb : treesB l = true)
include hb
theorem nrmS_ok : nrmS l = (l.map (posT (walkVs l [])), walkVs l [], 0) := by rw [nrmS, if_pos hb]
theorem fv_walk {t : T} (ht : t ∈ l) {v : Int} (hv : v ∈ t.fv) : v ∈ walkVs l [] := (mem_walk0 l v).2 (fvs_of ht hv)
theorem tree_of {t : T} (ht : t ∈ l) : t.tree = true := List.all_eq_true.1 hb t ht
theorem pos_tree {t : T} (ht : t ∈ l) : (posT (walkVs l []) t).tree = true :=
  ren_tree (tree_of hb ht) fun v hv => (pos_spec _ 0 v (fv_walk hb ht hv)).1
theorem nrm_trees : treesB (l.map (posT (walkVs l []))) = true := by
  unfold treesB
  rw [List.all_eq_true]
  intro x hx
  obtain ⟨t, ht, rfl⟩ := List.mem_map.1 hx
  exact pos_tree hb ht
theorem walk_nrm : walkVs (l.map (posT (walkVs l []))) [] = iota 0 (walkVs l []).length := by
  have h := walk_ren (g := pos 0 (walkVs l [])) hb fun u v hu hv h => pos_inj ((mem_walk0 l u).2 hu) ((mem_walk0 l v).2 hv) h
  rw [map_pos _ 0 (walkVs_nodup l [] List.nodup_nil)] at h
  exact h
/-- Normal trees stay. -/
theorem nrm_again : nrmS (l.map (posT (walkVs l []))) = (l.map (posT (walkVs l [])), iota 0 (walkVs l []).length, 0) := by
  rw [nrmS_ok (nrm_trees hb), walk_nrm hb]
  congr 1
  rw [List.map_map]
  refine List.map_congr_left fun t ht => ?_
  simp only [Function.comp]
  unfold posT
  rw [ren_ren]
  refine map_ext t fun v hv => ?_
  have h := pos_spec _ 0 v (fv_walk hb ht hv)
  show T.mk 1 (pos 0 (iota 0 (walkVs l []).length) (pos 0 (walkVs l []) v)) [] = _
  rw [pos_iota _ 0 _ (by omega) (by omega)]
theorem nrm_szs : szs (l.map (posT (walkVs l []))) = szs l := by
  have h := (rens_sz (g := pos 0 (walkVs l [])) l (trees_shapeds hb)).1
  rw [mapTs_map] at h
  exact h
/-- Put back. -/
theorem nrm_back {t : T} (ht : t ∈ l) : substS (posT (walkVs l []) t) ((walkVs l []).map fun v => .mk 1 v []) = (t, 0) := by
  have hsh := ((T.tree_iff t).1 (tree_of hb ht)).2.2
  have e : sub ((walkVs l []).map fun v => .mk 1 v []) (posT (walkVs l []) t) = t := by
    unfold sub posT ren
    rw [map_map]
    refine Eq.trans ?_ (ren_id t hsh)
    refine map_ext t fun v hv => ?_
    have h := pos_spec _ 0 v (fv_walk hb ht hv)
    simp only [mapT, if_true]
    have hlt : (pos 0 (walkVs l []) v).toNat < (walkVs l []).length := by omega
    have h3 := h.2.2
    rw [show pos 0 (walkVs l []) v - 0 = pos 0 (walkVs l []) v by omega] at h3
    rw [List.getD_eq_getElem?_getD, List.getElem?_map, List.getElem?_eq_getElem hlt]
    rw [List.getD_eq_getElem?_getD, List.getElem?_eq_getElem hlt] at h3
    simp only [Option.getD_some] at h3
    simp [h3]
  have h1 : treesB ((walkVs l []).map fun v => T.mk 1 v []) = true := by
    unfold treesB
    rw [List.all_eq_true]
    intro x hx
    obtain ⟨v, hv, rfl⟩ := List.mem_map.1 hx
    have h0 := fvs_shaped l (trees_shapeds hb) v ((mem_walk0 l v).1 hv)
    rw [T.tree_iff]
    refine ⟨by simp [T.sz, szs], by simp [T.dp, dps], ?_⟩
    rw [T.shaped_eq]
    simp [T.k, T.n, T.l, shapeds, Int.not_lt.2 h0]
  have h2 : gts [posT (walkVs l []) t] < (((walkVs l []).map fun v => T.mk 1 v []).length : Int) := by
    rw [gts1 _ _ (by omega)]
    unfold posT
    rw [ren_fv t hsh]
    intro u hu
    obtain ⟨v, hv, rfl⟩ := List.mem_map.1 hu
    have h := pos_spec _ 0 v (fv_walk hb ht hv)
    rw [List.length_map]
    omega
  rw [substS, if_pos ⟨pos_tree hb ht, h1⟩, if_pos h2, e, if_pos (tree_of hb ht)]
/-- Of moved trees. -/
theorem nrm_moved (hw : ∀ v ∈ fvs l, v ≤ 9223372036854775807) {b : Int} (hb0 : -9223372036854775808 ≤ b) (h : ∀ t ∈ l, (shiftS t 0 b).2 = 0) :
    (nrmS (l.map fun t => (shiftS t 0 b).1)).1 = l.map (posT (walkVs l [])) ∧ (nrmS (l.map fun t => (shiftS t 0 b).1)).2.2 = 0 ∧ szs (l.map fun t => (shiftS t 0 b).1) = szs l := by
  have ok : ∀ t ∈ l, ∀ v ∈ t.fv, shN 0 b v = v + b ∧ 0 ≤ v + b := by
    intro t ht v hv
    have h1 := shift_ok.1 (h t ht)
    have h0 := fvs_shaped l (trees_shapeds hb) v (fvs_of ht hv)
    have := (shN_ok (h1.2.2 v hv) (by omega) h0 (hw v (fvs_of ht hv)) hb0).1 h0
    omega
  have hmem : ∀ v ∈ fvs l, ∃ t ∈ l, v ∈ t.fv := by
    intro v
    have : ∀ (l : List T), v ∈ fvs l → ∃ t ∈ l, v ∈ t.fv := by
      intro l
      induction l with
      | nil => intro h; cases h
      | cons x r ih =>
        simp only [fvs, List.mem_append]
        rintro (h | h)
        · exact ⟨x, by simp, h⟩
        · obtain ⟨t, h1, h2⟩ := ih h; exact ⟨t, List.mem_cons_of_mem _ h1, h2⟩
    exact this l
  have inj : ∀ u v, u ∈ fvs l → v ∈ fvs l → shN 0 b u = shN 0 b v → u = v := by
    intro u v hu hv e
    obtain ⟨t, ht, htv⟩ := hmem u hu
    obtain ⟨s, hs, hsv⟩ := hmem v hv
    rw [(ok t ht u htv).1, (ok s hs v hsv).1] at e
    omega
  have em : (l.map fun t => (shiftS t 0 b).1) = l.map (ren (shN 0 b)) := List.map_congr_left fun t ht => shift_res (h t ht)
  rw [em]
  have ht : treesB (l.map (ren (shN 0 b))) = true := by
    unfold treesB
    rw [List.all_eq_true]
    intro x hx
    obtain ⟨t, ht, rfl⟩ := List.mem_map.1 hx
    exact ren_tree (tree_of hb ht) fun v hv => by rw [(ok t ht v hv).1]; exact (ok t ht v hv).2
  rw [nrmS_ok ht, walk_ren hb inj]
  refine ⟨?_, rfl, ?_⟩
  · simp only
    rw [List.map_map]
    refine List.map_congr_left fun t ht => ?_
    simp only [Function.comp]
    unfold posT
    rw [ren_ren]
    refine map_ext t fun v hv => ?_
    show T.mk 1 (pos 0 ((walkVs l []).map (shN 0 b)) (shN 0 b v)) [] = _
    rw [pos_map (p := fun v => v ∈ fvs l) inj _ 0 v (fun u hu => (mem_walk0 l u).1 hu) (fvs_of ht hv)]
  · have h := (rens_sz (g := shN 0 b) l (trees_shapeds hb)).1
    rw [mapTs_map] at h
    exact h
end
theorem shift_err1 {t : T} {b : Int} (ht : t.tree = true) (h : ¬ (shiftS t 0 b).2 = 0) : (shiftS t 0 b).2 = 1 := by
  unfold shiftS at h ⊢
  rw [if_pos ht, if_neg (by omega)] at h ⊢
  split at h
  · rename_i h1; rw [if_pos h1]
  · exact absurd rfl h
end Go.Abs
