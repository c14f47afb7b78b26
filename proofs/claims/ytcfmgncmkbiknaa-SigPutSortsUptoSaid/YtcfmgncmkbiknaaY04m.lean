/- SigBehind's walk. -/
import Derived.Test.YtcfmgncmkbiknaaY04l
set_option maxRecDepth 100000
set_option linter.unusedSimpArgs false
set_option linter.unusedVariables false
namespace Go.Abs
open Go Go.Proofs
mutual
theorem map_map {f g : Int → T} : ∀ (x : T), mapT f (mapT g x) = mapT (fun n => mapT f (g n)) x
  | .mk k n l => by
    simp only [mapT]
    by_cases hk : k = 1
    · rw [if_pos hk, if_pos hk]
    · rw [if_neg hk, if_neg hk]; simp only [mapT, if_neg hk]
      rw [maps_maps l]
theorem maps_maps {f g : Int → T} : ∀ (l : List T), mapTs f (mapTs g l) = mapTs (fun n => mapT f (g n)) l
  | [] => rfl
  | x :: r => by simp only [mapTs]; rw [map_map x, maps_maps r]
end
mutual
theorem map_fv {g : Int → T} {v : Int} : ∀ (x : T), v ∈ (mapT g x).fv → ∃ u ∈ x.fv, v ∈ (g u).fv
  | .mk k n l, h => by
    simp only [mapT] at h
    simp only [T.fv]
    by_cases hk : k = 1
    · rw [if_pos hk] at h
      rw [if_pos hk]
      exact ⟨n, by simp, h⟩
    · rw [if_neg hk] at h
      simp only [T.fv, if_neg hk] at h
      rw [if_neg hk]
      exact maps_fv l h
theorem maps_fv {g : Int → T} {v : Int} : ∀ (l : List T), v ∈ fvs (mapTs g l) → ∃ u ∈ fvs l, v ∈ (g u).fv
  | [], h => by cases h
  | x :: r, h => by
    simp only [mapTs, fvs, List.mem_append] at h
    simp only [fvs, List.mem_append]
    rcases h with h | h
    · obtain ⟨u, h1, h2⟩ := map_fv x h; exact ⟨u, .inl h1, h2⟩
    · obtain ⟨u, h1, h2⟩ := maps_fv r h; exact ⟨u, .inr h1, h2⟩
end
theorem tree_fv {t : T} (h : t.tree = true) : ∀ v ∈ t.fv, 0 ≤ v := fv_shaped t ((T.tree_iff t).1 h).2.2
theorem sub_sub {t : T} {l m : List T} (ht : t.tree = true) (hv : ∀ v ∈ t.fv, v < (l.length : Int)) : sub m (sub l t) = sub (l.map (sub m)) t := by
  unfold sub
  rw [map_map]
  refine map_ext t fun v h => ?_
  have h0 := tree_fv ht v h
  have h1 := hv v h
  have h2 : v.toNat < l.length := by omega
  simp [h2]
theorem sub_fv {t : T} {l : List T} {v : Int} (ht : t.tree = true) (hv : ∀ v ∈ t.fv, v < (l.length : Int)) (h : v ∈ (sub l t).fv) : ∃ y ∈ l, v ∈ y.fv := by
  obtain ⟨u, h1, h2⟩ := map_fv t h
  have h3 := tree_fv ht u h1
  have h4 := hv u h1
  exact ⟨_, mem_getD (by omega), h2⟩
theorem gts1 (t : T) (n : Int) (hn : 0 ≤ n) : gts [t] < n ↔ ∀ v ∈ t.fv, v < n := by
  rw [gts_lt n hn]; simp only [fvs, List.append_nil]
/-- A substitution behind another one. -/
theorem behind {t : T} {l m : List T} (hm0 : treesB m = true) (h1 : (substS t l).2 = 0) (h2 : ∀ y ∈ l, (substS y m).2 = 0) :
    substS (substS t l).1 m = substS t (l.map fun y => (substS y m).1) := by
  have key : ∀ {t : T} {l : List T}, (substS t l).2 = 0 → t.tree = true ∧ treesB l = true ∧ gts [t] < l.length ∧ (sub l t).tree = true ∧ (substS t l).1 = sub l t := by
    intro t l h
    unfold substS at h ⊢
    split at h
    · rename_i c1
      split at h
      · rename_i c2
        split at h
        · rename_i c3
          exact ⟨c1.1, c1.2, c2, c3, by rw [if_pos c1, if_pos c2, if_pos c3]⟩
        · cases h
      · cases h
    · cases h
  obtain ⟨a1, a2, a3, a4, a5⟩ := key h1
  have b := fun y hy => key (h2 y hy)
  have hv := (gts1 t l.length (by omega)).1 a3
  rw [a5]
  have e : (l.map fun y => (substS y m).1) = l.map (sub m) := List.map_congr_left fun y hy => (b y hy).2.2.2.2
  rw [e]
  have hm : treesB (l.map (sub m)) = true := by
    unfold treesB
    rw [List.all_eq_true]
    intro z hz
    obtain ⟨y, hy, rfl⟩ := List.mem_map.1 hz
    exact (b y hy).2.2.2.1
  have hlen : gts [t] < ((l.map (sub m)).length : Int) := by rw [List.length_map]; exact a3
  have es := sub_sub (m := m) a1 hv
  have hr : substS t (l.map (sub m)) = if (sub m (sub l t)).tree = true then (sub m (sub l t), 0) else (T0, 2) := by
    rw [substS, if_pos ⟨a1, hm⟩, if_pos hlen, es]
  rw [hr]
  have hg : gts [sub l t] < (m.length : Int) := by
    rw [gts1 _ _ (by omega)]
    intro v hv'
    obtain ⟨z, hz, hzv⟩ := sub_fv a1 hv hv'
    exact (gts1 z _ (by omega)).1 (b z hz).2.2.1 v hzv
  rw [substS, if_pos ⟨a4, hm0⟩, if_pos hg]
theorem sp_TT (x y : T) : asplice x.av.cells 0 y.av.cells = y.av.cells := by
  cases x; cases y; simp [T.av, AV.cells, asplice]
end Go.Abs
