/- SigShifts: what Shift does, and the law. -/
import Derived.Test.YtcfmgncmkbiknaaY04g
import Derived.Test.YtcfmgncmkbiknaaY04o
import Derived.Test.YtcfmgncmkbiknaaY04y
set_option maxRecDepth 100000
set_option linter.unusedSimpArgs false
set_option linter.unusedVariables false
namespace Go.Abs
open Go Go.Proofs
mutual
/-- The numbers of its variables. -/
def T.fv : T → List Int
  | .mk k n l => if k = 1 then n :: fvs l else fvs l
def fvs : List T → List Int
  | [] => []
  | x :: r => x.fv ++ fvs r
end
mutual
theorem mem_walkV : ∀ (x : T) (vs : List Int) (v : Int), v ∈ walkV x vs ↔ v ∈ vs ∨ v ∈ x.fv
  | .mk k n l, vs, v => by
    simp only [walkV, T.fv]
    rw [mem_walkVs l _ v]
    by_cases hk : k = 1
    · by_cases hn : n ∈ vs
      · simp only [hk, hn, not_true_eq_false, and_false, if_false, if_true, List.mem_cons]
        constructor
        · rintro (h | h)
          · exact .inl h
          · exact .inr (.inr h)
        · rintro (h | h | h)
          · exact .inl h
          · subst h; exact .inl hn
          · exact .inr h
      · simp only [hk, hn, not_false_eq_true, and_self, if_true, List.mem_append, List.mem_cons, List.not_mem_nil, or_false, or_assoc]
    · simp only [hk, false_and, if_false]
theorem mem_walkVs : ∀ (l : List T) (vs : List Int) (v : Int), v ∈ walkVs l vs ↔ v ∈ vs ∨ v ∈ fvs l
  | [], vs, v => by simp [walkVs, fvs]
  | x :: r, vs, v => by
    simp only [walkVs, fvs, List.mem_append]
    rw [mem_walkVs r _ v, mem_walkV x vs v, or_assoc]
end
theorem mem_vars (t : T) (v : Int) : v ∈ walkVs [t] [] ↔ v ∈ t.fv := by
  rw [mem_walkVs]; simp [fvs]
mutual
theorem fv_shaped : ∀ (x : T), x.shaped = true → ∀ v ∈ x.fv, 0 ≤ v
  | .mk k n l, h, v, hv => by
    rw [T.shaped_eq] at h
    simp only [T.k, T.n, T.l, Bool.and_eq_true, Bool.not_eq_true', Bool.or_eq_false_iff, decide_eq_false_iff_not] at h
    simp only [T.fv] at hv
    split at hv
    · rcases List.mem_cons.1 hv with rfl | hv
      · have h9 := h.1.1.1.1
        exact Int.not_lt.1 (of_decide_eq_false h9)
      · exact fvs_shaped l h.2 v hv
    · exact fvs_shaped l h.2 v hv
theorem fvs_shaped : ∀ (l : List T), shapeds l = true → ∀ v ∈ fvs l, 0 ≤ v
  | [], _, v, hv => by cases hv
  | x :: r, h, v, hv => by
    simp only [shapeds, Bool.and_eq_true] at h
    simp only [fvs, List.mem_append] at hv
    rcases hv with hv | hv
    · exact fv_shaped x h.1 v hv
    · exact fvs_shaped r h.2 v hv
end
mutual
theorem fv_wf : ∀ (x : T), x.wf → ∀ v ∈ x.fv, v ≤ 9223372036854775807
  | .mk k n l, h, v, hv => by
    simp only [T.wf] at h
    simp only [T.fv] at hv
    split at hv
    · rcases List.mem_cons.1 hv with rfl | hv
      · omega
      · exact fvs_wf l h.2.2.2 v hv
    · exact fvs_wf l h.2.2.2 v hv
theorem fvs_wf : ∀ (l : List T), wfs l → ∀ v ∈ fvs l, v ≤ 9223372036854775807
  | [], _, v, hv => by cases hv
  | x :: r, h, v, hv => by
    simp only [wfs] at h
    simp only [fvs, List.mem_append] at hv
    rcases hv with hv | hv
    · exact fv_wf x h.1 v hv
    · exact fvs_wf r h.2 v hv
end
/-- A variable has nothing below it. -/
theorem shaped_var {k n : Int} {l : List T} (h : (T.mk k n l).shaped = true) (hk : k = 1) : l = [] := by
  rw [T.shaped_eq] at h
  simp only [T.k, T.n, T.l, Bool.and_eq_true, Bool.not_eq_true', Bool.or_eq_false_iff, decide_eq_false_iff_not, Bool.and_eq_false_iff] at h
  cases l with
  | nil => rfl
  | cons x r =>
    rcases h.1.1.1.2 with h2 | h2
    · simp [hk] at h2
    · simp at h2
theorem shaped_sub {k n : Int} {l : List T} (h : (T.mk k n l).shaped = true) : shapeds l = true := by
  rw [T.shaped_eq, Bool.and_eq_true] at h
  exact h.2
def ren (g : Int → Int) (t : T) : T := mapT (fun n => .mk 1 (g n) []) t
mutual
theorem map_ext {f g : Int → T} : ∀ (x : T), (∀ v ∈ x.fv, f v = g v) → mapT f x = mapT g x
  | .mk k n l, h => by
    simp only [mapT]
    simp only [T.fv] at h
    by_cases hk : k = 1
    · rw [if_pos hk, if_pos hk]
      rw [if_pos hk] at h
      exact h n (by simp)
    · rw [if_neg hk, if_neg hk]
      rw [if_neg hk] at h
      rw [maps_ext l h]
theorem maps_ext {f g : Int → T} : ∀ (l : List T), (∀ v ∈ fvs l, f v = g v) → mapTs f l = mapTs g l
  | [], _ => rfl
  | x :: r, h => by
    simp only [fvs, List.mem_append] at h
    simp only [mapTs]
    rw [map_ext x (fun v hv => h v (.inl hv)), maps_ext r (fun v hv => h v (.inr hv))]
end
mutual
theorem ren_ren {g h : Int → Int} : ∀ (x : T), ren h (ren g x) = ren (fun n => h (g n)) x
  | .mk k n l => by
    simp only [ren, mapT]
    by_cases hk : k = 1
    · rw [if_pos hk, if_pos hk]; simp only [mapT, if_true]
    · rw [if_neg hk, if_neg hk]; simp only [mapT, if_neg hk]
      have := rens_rens (g := g) (h := h) l
      rw [this]
theorem rens_rens {g h : Int → Int} : ∀ (l : List T), mapTs (fun n => .mk 1 (h n) []) (mapTs (fun n => .mk 1 (g n) []) l) = mapTs (fun n => .mk 1 (h (g n)) []) l
  | [] => rfl
  | x :: r => by
    simp only [mapTs]
    have h1 := ren_ren (g := g) (h := h) x
    have h2 := rens_rens (g := g) (h := h) r
    unfold ren at h1
    rw [h1, h2]
end
mutual
theorem ren_id : ∀ (x : T), x.shaped = true → ren (fun n => n) x = x
  | .mk k n l, h => by
    simp only [ren, mapT]
    by_cases hk : k = 1
    · rw [if_pos hk, shaped_var h hk, hk]
    · rw [if_neg hk, rens_id l (shaped_sub h)]
theorem rens_id : ∀ (l : List T), shapeds l = true → mapTs (fun n => .mk 1 n []) l = l
  | [], _ => rfl
  | x :: r, h => by
    simp only [shapeds, Bool.and_eq_true] at h
    simp only [mapTs]
    have h1 := ren_id x h.1
    unfold ren at h1
    rw [h1, rens_id r h.2]
end
mutual
theorem ren_fv {g : Int → Int} : ∀ (x : T), x.shaped = true → (ren g x).fv = x.fv.map g
  | .mk k n l, h => by
    simp only [ren, mapT]
    by_cases hk : k = 1
    · rw [if_pos hk]
      have hl := shaped_var h hk
      subst hl
      simp [T.fv, hk, fvs]
    · rw [if_neg hk]
      simp only [T.fv, if_neg hk]
      exact rens_fv l (shaped_sub h)
theorem rens_fv {g : Int → Int} : ∀ (l : List T), shapeds l = true → fvs (mapTs (fun n => .mk 1 (g n) []) l) = (fvs l).map g
  | [], _ => rfl
  | x :: r, h => by
    simp only [shapeds, Bool.and_eq_true] at h
    simp only [mapTs, fvs, List.map_append]
    have h1 := ren_fv (g := g) x h.1
    unfold ren at h1
    rw [h1, rens_fv r h.2]
end
mutual
theorem ren_sz {g : Int → Int} : ∀ (x : T), x.shaped = true → (ren g x).sz = x.sz ∧ (ren g x).dp = x.dp
  | .mk k n l, h => by
    simp only [ren, mapT]
    by_cases hk : k = 1
    · rw [if_pos hk]
      have hl := shaped_var h hk
      subst hl
      simp [T.sz, T.dp]
    · rw [if_neg hk]
      have := rens_sz (g := g) l (shaped_sub h)
      simp only [T.sz, T.dp, this.1, this.2, and_self]
theorem rens_sz {g : Int → Int} : ∀ (l : List T), shapeds l = true → szs (mapTs (fun n => .mk 1 (g n) []) l) = szs l ∧ dps (mapTs (fun n => .mk 1 (g n) []) l) = dps l
  | [], _ => ⟨rfl, rfl⟩
  | x :: r, h => by
    simp only [shapeds, Bool.and_eq_true] at h
    have h1 := ren_sz (g := g) x h.1
    unfold ren at h1
    have h2 := rens_sz (g := g) r h.2
    simp only [mapTs, szs, dps, h1.1, h1.2, h2.1, h2.2, and_self]
end
mutual
theorem ren_shaped {g : Int → Int} : ∀ (x : T), x.shaped = true → (∀ v ∈ x.fv, 0 ≤ g v) → (ren g x).shaped = true
  | .mk k n l, h, hg => by
    have h0 := h
    simp only [ren, mapT]
    simp only [T.fv] at hg
    by_cases hk : k = 1
    · rw [if_pos hk]
      rw [if_pos hk] at hg
      have := hg n (by simp)
      rw [T.shaped_eq]
      simp [T.k, T.n, T.l, shapeds, Int.not_lt.2 this]
    · rw [if_neg hk]
      rw [if_neg hk] at hg
      have h2 := rens_shaped (g := g) l (shaped_sub h) hg
      rw [T.shaped_eq] at h ⊢
      have el : (mapTs (fun n => T.mk 1 (g n) []) l).length = l.length := by rw [mapTs_map]; simp
      simp only [T.k, T.n, T.l, h2, el, Bool.and_true] at h ⊢
      simp only [Bool.and_eq_true] at h
      exact h.1
theorem rens_shaped {g : Int → Int} : ∀ (l : List T), shapeds l = true → (∀ v ∈ fvs l, 0 ≤ g v) → shapeds (mapTs (fun n => .mk 1 (g n) []) l) = true
  | [], _, _ => rfl
  | x :: r, h, hg => by
    simp only [shapeds, Bool.and_eq_true] at h
    simp only [fvs, List.mem_append] at hg
    simp only [mapTs, shapeds, Bool.and_eq_true]
    have h1 := ren_shaped (g := g) x h.1 (fun v hv => hg v (.inl hv))
    unfold ren at h1
    exact ⟨h1, rens_shaped r h.2 (fun v hv => hg v (.inr hv))⟩
end
theorem ren_tree {g : Int → Int} {t : T} (h : t.tree = true) (hg : ∀ v ∈ t.fv, 0 ≤ g v) : (ren g t).tree = true := by
  rw [T.tree_iff] at h ⊢
  have h1 := ren_sz (g := g) t h.2.2
  exact ⟨by rw [h1.1]; exact h.1, by rw [h1.2]; exact h.2.1, ren_shaped t h.2.2 hg⟩
theorem shT_ren (f b : Int) (t : T) : shT f b t = ren (shN f b) t := rfl

/-! ### Shift, in one's head -/
theorem any_bad {t : T} {f b : Int} : (walkVs [t] []).any (badV f b) = false ↔ ∀ v ∈ t.fv, badV f b v = false := by
  rw [List.any_eq_false]
  constructor
  · intro h v hv; have := h v ((mem_vars t v).2 hv); simpa using this
  · intro h v hv; rw [h v ((mem_vars t v).1 hv)]; simp
theorem shift_ok {t : T} {f b : Int} : (shiftS t f b).2 = 0 ↔ t.tree = true ∧ 0 ≤ f ∧ ∀ v ∈ t.fv, badV f b v = false := by
  unfold shiftS
  by_cases h1 : t.tree = true
  · rw [if_pos h1]
    by_cases h2 : f < 0
    · rw [if_pos h2]; constructor
      · intro h; cases h
      · intro h; omega
    · rw [if_neg h2]
      cases h3 : (walkVs [t] []).any (badV f b) with
      | true =>
        rw [if_pos rfl]; constructor
        · intro h; cases h
        · intro h
          rw [any_bad.2 h.2.2] at h3; cases h3
      | false =>
        rw [if_neg (by simp)]
        exact ⟨fun _ => ⟨h1, by omega, any_bad.1 h3⟩, fun _ => rfl⟩
  · rw [if_neg h1]
    constructor
    · intro h; cases h
    · intro h; exact absurd h.1 h1
theorem shift_res {t : T} {f b : Int} (h : (shiftS t f b).2 = 0) : (shiftS t f b).1 = ren (shN f b) t := by
  have := shift_ok.1 h
  unfold shiftS
  rw [if_pos this.1, if_neg (by omega), if_neg (by rw [any_bad.2 this.2.2]; simp)]
  rfl
theorem shift_err {t : T} {f b : Int} (h : (shiftS t f b).2 ≠ 0) : (shiftS t f b).1 = T0 := by
  unfold shiftS at h ⊢
  split
  · split
    · rfl
    · split
      · rfl
      · rename_i h1 h2 h3
        rw [if_pos h1, if_neg h2, if_neg h3] at h
        exact absurd rfl h
  · rfl
theorem bad_iff {f b v : Int} : badV f b v = false ↔ ¬ (f ≤ v ∧ ((1000000 < v ∧ 0 ≤ b) ∨ (1000000 - min v 1000000 < b ∧ 0 < b) ∨ (b < 0 ∧ (b < f - v ∨ 1000000 < v + b)))) := by
  unfold badV; rw [decide_eq_false_iff_not]
/-- Behind a Shift that was let: no number goes round, and stays where it was of from. -/
theorem shN_ok {f b v : Int} (h : badV f b v = false) (hf : 0 ≤ f) (hv0 : 0 ≤ v) (hv : v ≤ 9223372036854775807) (hb : -9223372036854775808 ≤ b) :
    (f ≤ v → shN f b v = v + b ∧ f ≤ v + b ∧ v + b ≤ 1000000) ∧ (v < f → shN f b v = v) := by
  rw [bad_iff] at h
  refine ⟨fun hfv => ?_, fun hfv => by rw [shN, if_neg (by omega)]⟩
  have : IntKind.i64.wrap (v + b) = v + b := wrap_in _ (by omega)
  rw [shN, if_pos hfv, this]
  omega
theorem c33' (t : T) (f b : Int) (hf1 : f ≤ 9223372036854775807) (hb0 : -9223372036854775808 ≤ b) (hb1 : b ≤ 9223372036854775807)
    (hv : t.tree = true → ∀ v ∈ t.fv, v ≤ 9223372036854775807) : Pure Try.prog 33 [t.av, .int .i64 f, .int .i64 b] (.tuple [(shiftS t f b).1.av, .int .i64 (shiftS t f b).2]) := by
  by_cases ht : t.tree = true
  · exact c33 t f b hf1 hb0 hb1 fun v hv' => ⟨fv_shaped t ((T.tree_iff t).1 ht).2.2 v ((mem_vars t v).1 hv'), hv ht v ((mem_vars t v).1 hv')⟩
  · exact c33n t f b (by simpa using ht)
/-- The law. -/
theorem shift_law {t : T} {f a b : Int} (hw : ∀ v ∈ t.fv, v ≤ 9223372036854775807) (ha : -2000000 ≤ a ∧ a ≤ 2000000) (hb : -2000000 ≤ b ∧ b ≤ 2000000) (h : (shiftS t f a).2 = 0) :
    (0 ≤ a → (shiftS (shiftS t f a).1 f (-a)).2 = 0 ∧ (shiftS (shiftS t f a).1 f (-a)).1 = t) ∧
    ((shiftS (shiftS t f a).1 f b).2 = 0 → (shiftS t f (a + b)).2 = 0 ∧ (shiftS t f (a + b)).1 = (shiftS (shiftS t f a).1 f b).1) ∧ (∀ v ∈ (shiftS t f a).1.fv, v ≤ 9223372036854775807) := by
  have h1 := shift_ok.1 h
  have hsh := ((T.tree_iff t).1 h1.1).2.2
  have h0 := fv_shaped t hsh
  have ok := fun v (hv : v ∈ t.fv) => shN_ok (h1.2.2 v hv) h1.2.1 (h0 v hv) (hw v hv) (by omega : -9223372036854775808 ≤ a)
  have hx : (shiftS t f a).1 = ren (shN f a) t := shift_res h
  have hfv : (ren (shN f a) t).fv = t.fv.map (shN f a) := ren_fv t hsh
  have hpos : ∀ v ∈ t.fv, 0 ≤ shN f a v := fun v hv => by
    have := ok v hv
    have := h0 v hv
    by_cases hfv : f ≤ v
    · rw [((ok v hv).1 hfv).1]; have := (ok v hv).1 hfv; omega
    · rw [(ok v hv).2 (by omega)]; omega
  have htr : (ren (shN f a) t).tree = true := ren_tree h1.1 hpos
  rw [hx]
  refine ⟨fun ha0 => ?_, fun h2 => ?_, ?_⟩
  · have hbad : ∀ v ∈ (ren (shN f a) t).fv, badV f (-a) v = false := by
      rw [hfv]
      intro v' hv'
      obtain ⟨v, hv, rfl⟩ := List.mem_map.1 hv'
      have hb1 := h1.2.2 v hv
      have h0v := h0 v hv
      by_cases hle : f ≤ v
      · have := (ok v hv).1 hle
        rw [this.1]
        rw [bad_iff] at hb1 ⊢
        omega
      · rw [(ok v hv).2 (by omega)]
        rw [bad_iff]
        omega
    have h3 : (shiftS (ren (shN f a) t) f (-a)).2 = 0 := shift_ok.2 ⟨htr, h1.2.1, hbad⟩
    refine ⟨h3, ?_⟩
    rw [shift_res h3, ren_ren]
    have : ren (fun n => shN f (-a) (shN f a n)) t = ren (fun n => n) t := by
      refine map_ext t fun v hv => ?_
      have h0v := h0 v hv
      have hwv := hw v hv
      have e : shN f (-a) (shN f a v) = v := by
        by_cases hle : f ≤ v
        · have k := (ok v hv).1 hle
          have w : IntKind.i64.wrap (v + a + -a) = v := by rw [wrap_in _ (by omega)]; omega
          rw [k.1, shN, if_pos k.2.1, w]
        · rw [(ok v hv).2 (by omega), shN, if_neg hle]
      show T.mk 1 (shN f (-a) (shN f a v)) [] = T.mk 1 v []
      rw [e]
    rw [this, ren_id t hsh]
  · have h3 := shift_ok.1 h2
    have key : ∀ v ∈ t.fv, badV f (a + b) v = false ∧ shN f b (shN f a v) = shN f (a + b) v := by
      intro v hv
      have hb1 := h1.2.2 v hv
      have h0v := h0 v hv
      have hwv := hw v hv
      have hb2 := h3.2.2 (shN f a v) (by rw [hfv]; exact List.mem_map.2 ⟨v, hv, rfl⟩)
      by_cases hle : f ≤ v
      · have k := (ok v hv).1 hle
        rw [k.1] at hb2 ⊢
        rw [bad_iff] at hb1 hb2 ⊢
        refine ⟨by omega, ?_⟩
        have w : IntKind.i64.wrap (v + a + b) = v + a + b := wrap_in _ (by omega)
        have w2 : IntKind.i64.wrap (v + (a + b)) = v + a + b := by rw [wrap_in _ (by omega)]; omega
        rw [shN, if_pos k.2.1, w, shN, if_pos hle, w2]
      · rw [(ok v hv).2 (by omega)]
        rw [bad_iff]
        exact ⟨by omega, by rw [shN, if_neg hle, shN, if_neg hle]⟩
    have h4 : (shiftS t f (a + b)).2 = 0 := shift_ok.2 ⟨h1.1, h1.2.1, fun v hv => (key v hv).1⟩
    refine ⟨h4, ?_⟩
    rw [shift_res h4, shift_res h2, ren_ren]
    exact (map_ext t fun v hv => by show T.mk 1 (shN f b (shN f a v)) [] = _; rw [(key v hv).2]).symm
  · rw [hfv]
    intro v' hv'
    obtain ⟨v, hv, rfl⟩ := List.mem_map.1 hv'
    have := hw v hv
    by_cases hle : f ≤ v
    · have k := (ok v hv).1 hle
      omega
    · rw [(ok v hv).2 (by omega)]; exact hw v hv
mutual
theorem lookT_sz : ∀ (x : T) (d left : Int), 0 ≤ left → (lookT x d left).1 = true → (lookT x d left).2 = left - x.sz
  | .mk k n l, d, left, h0, h => by
    simp only [lookT, T.sz] at h ⊢
    split at h
    · cases h
    · rename_i hn
      rw [if_neg hn]
      rw [looks_sz l (d + 1) (left - 1) (by omega) h]
      omega
theorem looks_sz : ∀ (l : List T) (d left : Int), 0 ≤ left → (looks l d left).1 = true → (looks l d left).2 = left - szs l
  | [], d, left, h0, h => by simp [looks, szs]
  | x :: r, d, left, h0, h => by
    simp only [looks, szs] at h ⊢
    split at h
    · rename_i hb
      rw [if_pos hb]
      have h1 := lookT_sz x d left h0 hb
      have h2 := lookT_le x d left
      rw [looks_sz r d _ ((h2.2 h0).2 hb) h, h1]
      omega
    · cases h
end
theorem few_sz {l : List T} (h : fewL l = true) : szs l ≤ 6000 := by
  have h1 := looks_sz l 1 6000 (by omega) h
  have h2 := (looks_le l 1 6000).2 (by omega)
  have := h2.2 h
  omega
end Go.Abs
