/- Unify: what it finds makes both the same, and where it finds nothing, nothing does. -/
import Derived.Test.YtcfmgncmkbiknaaY04nc
set_option maxRecDepth 100000
set_option linter.unusedSimpArgs false
set_option linter.unusedVariables false
namespace Go.Abs
open Go Go.Proofs
/-- A substitution goes with what was found. -/
def fitsU (θ : Int → T) (l : List T) : Prop := ∀ i : Nat, (l.getD i default).k ≠ 0 → θ i = mapT θ (l.getD i default)
theorem mapT_var (θ : Int → T) {t : T} (h : t.k = 1) : mapT θ t = θ t.n := by rw [mapT_eq, if_pos h]
theorem mapT_op (θ : Int → T) {t : T} (h : t.k ≠ 1) : mapT θ t = .mk t.k t.n (mapTs θ t.l) := by rw [mapT_eq, if_neg h]
theorem look_ind {l : List T} {N : Nat} (w : Wf l N) {P : T → T → Prop} (hs : ∀ t, fine N t → ¬ (t.k = 1 ∧ (l.getD t.n.toNat default).k ≠ 0) → P t t)
    (hn : ∀ t s, fine N t → t.k = 1 → (l.getD t.n.toNat default).k ≠ 0 → P (l.getD t.n.toNat default) s → P t s) : ∀ {t : T}, fine N t → P t (look l t) := by
  have key : ∀ (m : Nat) (t : T), far t ≤ m → fine N t → P t (look l t) := by
    intro m
    induction m with
    | zero =>
      intro t hm h
      have : ¬ (t.k = 1 ∧ (l.getD t.n.toNat default).k ≠ 0) := fun hc => by simp [far, hc.1] at hm
      rw [look_stop this]; exact hs t h this
    | succ m ih =>
      intro t hm h
      by_cases hc : t.k = 1 ∧ (l.getD t.n.toNat default).k ≠ 0
      · have hl := look_step w hc.1 (fine_n h hc.1).1 hc.2
        rw [hl.1]
        exact hn t _ h hc.1 hc.2 (ih _ (by omega) (fine_get w hc.2))
      · rw [look_stop hc]; exact hs t h hc
  exact fun {t} h => key _ t (Nat.le_refl _) h
theorem fine_toNat {N : Nat} {t : T} (h : fine N t) (hk : t.k = 1) : ((t.n.toNat : Nat) : Int) = t.n := by have := fine_n h hk; omega
theorem look_map {l : List T} {N : Nat} (w : Wf l N) {θ : Int → T} (hf : fitsU θ l) {t : T} (h : fine N t) : mapT θ (look l t) = mapT θ t := by
  refine look_ind w (P := fun t s => mapT θ s = mapT θ t) (fun _ _ _ => rfl) (fun t s h hk hz hp => ?_) h
  rw [hp, mapT_var θ hk, ← hf _ hz, fine_toNat h hk]
mutual
theorem wT_sz {l : List T} {N : Nat} {θ : Int → T} (w : Wf l N) (hf : fitsU θ l) {v : Int} {rec : T → List Int → Bool × List Int} (hr : ∀ t seen, fine N t → (rec t seen).1 = true → (θ v).sz ≤ (mapT θ t).sz) :
    ∀ (t : T) (seen : List Int), fine N t → (wT l v rec t seen).1 = true → (θ v).sz ≤ (mapT θ t).sz ∧ (t.k ≠ 1 → (θ v).sz < (mapT θ t).sz)
  | .mk k n ts, seen, h, hw => by
    simp only [wT] at hw
    by_cases hk : k = 1
    · rw [if_pos hk] at hw
      refine ⟨?_, fun h => absurd hk h⟩
      have hm : mapT θ (.mk k n ts) = θ n := mapT_var θ hk
      rw [hm]
      split at hw
      · rename_i e; rw [e]; exact Int.le_refl _
      · split at hw
        · cases hw
        · rename_i hc
          have hz : (l.getD n.toNat default).k ≠ 0 := fun e => hc (.inr e)
          have h1 := hr _ _ (fine_get w hz) hw
          rw [← hf _ hz] at h1
          have := fine_toNat h hk
          simp only [T.n] at this
          rwa [this] at h1
    · rw [if_neg hk] at hw
      have h1 := wTs_sz w hf hr ts seen (kids_fine h) hw
      have e : (mapT θ (.mk k n ts)).sz = 1 + szs (mapTs θ ts) := by rw [mapT_op θ (t := .mk k n ts) hk]; rfl
      rw [e]
      exact ⟨by omega, fun _ => by omega⟩
theorem wTs_sz {l : List T} {N : Nat} {θ : Int → T} (w : Wf l N) (hf : fitsU θ l) {v : Int} {rec : T → List Int → Bool × List Int} (hr : ∀ t seen, fine N t → (rec t seen).1 = true → (θ v).sz ≤ (mapT θ t).sz) :
    ∀ (ts : List T) (seen : List Int), (∀ t ∈ ts, fine N t) → (wTs l v rec ts seen).1 = true → (θ v).sz ≤ szs (mapTs θ ts)
  | [], seen, _, hw => by simp only [wTs] at hw; cases hw
  | t :: ts, seen, h, hw => by
    simp only [wTs] at hw
    simp only [mapTs, szs]
    have h0 := szs_pos (mapTs θ ts)
    have h9 := T.sz_pos (mapT θ t)
    by_cases hc : (wT l v rec t seen).1 = true
    · have := (wT_sz w hf hr t seen (h t (by simp)) hc).1
      omega
    · rw [if_neg hc] at hw
      have := wTs_sz w hf hr ts _ (fun y hy => h y (List.mem_cons_of_mem _ hy)) hw
      omega
end
theorem wF_sz {l : List T} {N : Nat} {θ : Int → T} (w : Wf l N) (hf : fitsU θ l) (v : Int) : ∀ (f : Nat) (t : T) (seen : List Int), fine N t → (wF l v f t seen).1 = true → (θ v).sz ≤ (mapT θ t).sz ∧ (t.k ≠ 1 → (θ v).sz < (mapT θ t).sz)
  | 0, _, _, _, h => by cases h
  | f + 1, t, seen, h, hw => wT_sz w hf (fun t seen h hw => (wF_sz w hf v f t seen h hw).1) t seen h hw
theorem fits_set {l : List T} {N : Nat} (w : Wf l N) {θ : Int → T} {x y : T} (hx : fine N x) (hk : x.k = 1) (hz : (l.getD x.n.toNat default).k = 0) (hy : y.k ≠ 0) :
    fitsU θ (l.set x.n.toNat y) ↔ fitsU θ l ∧ θ x.n = mapT θ y := by
  have hn := fine_n hx hk
  have hlt : x.n.toNat < l.length := by rw [w.len]; omega
  have ht := fine_toNat hx hk
  constructor
  · intro h
    refine ⟨fun i hi => ?_, ?_⟩
    · have h1 := h i
      rw [getD_set hlt] at h1
      by_cases e : x.n.toNat = i
      · rw [← e] at hi; exact absurd hz hi
      · rw [if_neg e] at h1; exact h1 hi
    · have h1 := h x.n.toNat
      rw [getD_set hlt, if_pos rfl, ht] at h1
      exact h1 hy
  · rintro ⟨h, he⟩ i
    rw [getD_set hlt]
    split
    · rename_i e; intro _; rw [← e, ht]; exact he
    · exact h i
theorem fine_k {N : Nat} {t : T} (h : fine N t) : t.k = 1 ∨ t.k = 2 := by
  have := h.1
  rw [T.shaped_eq] at this
  simp only [Bool.and_eq_true, Bool.not_eq_true', Bool.or_eq_false_iff, decide_eq_false_iff_not, Bool.and_eq_false_iff] at this
  omega
theorem prS_sound {N : Nat} {θ : Int → T} {rec : T → T → U → Bool × U} (hg : ∀ a b u, Wf u.1 N → u.2.1 ≤ 20000 → fine N a → fine N b → good N u (rec a b u))
    (hr : ∀ a b u, Wf u.1 N → u.2.1 ≤ 20000 → fine N a → fine N b → (rec a b u).1 = true → fitsU θ (rec a b u).2.1 → fitsU θ u.1 ∧ mapT θ a = mapT θ b) :
    ∀ (xs ys : List T) (u : U), xs.length = ys.length → Wf u.1 N → u.2.1 ≤ 20000 → (∀ a ∈ xs, fine N a) → (∀ b ∈ ys, fine N b) → (prS rec xs ys u).1 = true → fitsU θ (prS rec xs ys u).2.1 → fitsU θ u.1 ∧ mapTs θ xs = mapTs θ ys
  | [], [], u, _, w, hc, _, _, h, hf => by simp only [prS] at hf; exact ⟨hf, rfl⟩
  | a :: xs, [], u, hl, w, hc, _, _, h, hf => by simp at hl
  | [], b :: ys, u, hl, w, hc, _, _, h, hf => by simp at hl
  | a :: xs, b :: ys, u, hl, w, hc, ha, hb, h, hf => by
    have h1 := hg a b u w hc (ha a (by simp)) (hb b (by simp))
    simp only [prS] at h hf
    by_cases ht : (rec a b u).1 = true
    · rw [if_pos ht] at h hf
      have h2 := prS_sound hg hr xs ys (rec a b u).2 (by simpa using hl) h1.1 (h1.2.2 ht) (fun y hy => ha y (List.mem_cons_of_mem _ hy)) (fun y hy => hb y (List.mem_cons_of_mem _ hy)) h hf
      have h3 := hr a b u w hc (ha a (by simp)) (hb b (by simp)) ht h2.1
      refine ⟨h3.1, ?_⟩
      simp only [mapTs]
      rw [h3.2, h2.2]
    · rw [if_neg ht] at h; cases h
theorem prF_sound {N : Nat} {θ : Int → T} : ∀ (f : Nat) (a b : T) (u : U), Wf u.1 N → u.2.1 ≤ 20000 → fine N a → fine N b → (prF N f a b u).1 = true → fitsU θ (prF N f a b u).2.1 → fitsU θ u.1 ∧ mapT θ a = mapT θ b
  | 0, a, b, u, w, hc, _, _, h, _ => by cases h
  | f + 1, a, b, u, w, hc, ha, hb, h, hf => by
    simp only [prF] at h hf
    split at h
    · cases h
    · rename_i hlt
      rw [if_neg hlt] at hf
      have la := look_fine w ha
      have lb := look_fine w hb
      have za := look_end w ha
      have zb := look_end w hb
      suffices hh : fitsU θ u.1 ∧ mapT θ (look u.1 a) = mapT θ (look u.1 b) from by
        refine ⟨hh.1, ?_⟩
        rw [← look_map w hh.1 ha, ← look_map w hh.1 hb]; exact hh.2
      generalize look u.1 a = A at *
      generalize look u.1 b = B at *
      unfold prB at h hf
      split at h
      · rename_i he
        rw [if_pos he] at hf
        exact ⟨hf, by rw [mapT_var θ he.1, mapT_var θ he.2.1, he.2.2]⟩
      · rename_i hne
        rw [if_neg hne] at hf
        split at h
        · rename_i hv
          rw [if_pos hv] at hf
          have hs := sw_k hv hne
          have hfn := sw_fine la lb
          have hz : (u.1.getD (sw A B).1.n.toNat default).k = 0 := by
            have := hs.1
            unfold sw at this ⊢
            split
            · rename_i hc; rw [if_pos hc] at this; exact zb this
            · rename_i hc; rw [if_neg hc] at this; exact za this
          unfold bindP at h hf
          split at h
          · cases h
          · rename_i hw
            rw [if_neg hw] at hf
            have h1 := (fits_set w hfn.1 hs.1 hz (by have := fine_k hfn.2; omega)).1 hf
            refine ⟨h1.1, ?_⟩
            have h2 := h1.2
            rw [← mapT_var θ hs.1] at h2
            unfold sw at h2
            split at h2
            · exact h2.symm
            · exact h2
        · rename_i hv
          rw [if_neg hv] at hf
          have kA : A.k = 2 := by have := fine_k la; omega
          have kB : B.k = 2 := by have := fine_k lb; omega
          split at h
          · rename_i hc
            rw [if_pos hc] at hf
            have h1 := prS_sound (θ := θ) (fun a b u => prF_good f a b u) (fun a b u => prF_sound f a b u) _ _ (u.1, u.2.1 + 1, u.2.2) hc.2 w (by simp only; omega) (kids_fine la) (kids_fine lb) h hf
            refine ⟨h1.1, ?_⟩
            rw [mapT_op θ (by omega), mapT_op θ (by omega), h1.2, hc.1, kA, kB]
          · cases h
/-- Where some substitution makes both the same, no pair stops (but for being one too many), and that substitution goes with what is found. -/
def fits2 (θ : Int → T) (r : Bool × U) : Prop := (r.1 = true ∨ r.2.2.2 = true) ∧ fitsU θ r.2.1
theorem prS_comp {N : Nat} {θ : Int → T} {rec : T → T → U → Bool × U} {P : U → Prop} (hp : ∀ a b u, P u → Wf u.1 N → u.2.1 ≤ 20000 → fine N a → fine N b → P (rec a b u).2) (hg : ∀ a b u, Wf u.1 N → u.2.1 ≤ 20000 → fine N a → fine N b → good N u (rec a b u))
    (hr : ∀ a b u, P u → Wf u.1 N → u.2.1 ≤ 20000 → fine N a → fine N b → fitsU θ u.1 → mapT θ a = mapT θ b → fits2 θ (rec a b u)) :
    ∀ (xs ys : List T) (u : U), P u → Wf u.1 N → u.2.1 ≤ 20000 → (∀ a ∈ xs, fine N a) → (∀ b ∈ ys, fine N b) → fitsU θ u.1 → mapTs θ xs = mapTs θ ys → fits2 θ (prS rec xs ys u)
  | [], _, u, hpu, w, hc, _, _, hf, _ => by simp only [prS]; exact ⟨.inl rfl, hf⟩
  | a :: xs, [], u, hpu, w, hc, _, _, hf, he => by simp [mapTs] at he
  | a :: xs, b :: ys, u, hpu, w, hc, ha, hb, hf, he => by
    have h1 := hg a b u w hc (ha a (by simp)) (hb b (by simp))
    simp only [mapTs, List.cons.injEq] at he
    have h2 := hr a b u hpu w hc (ha a (by simp)) (hb b (by simp)) hf he.1
    simp only [prS]
    split
    · rename_i ht
      exact prS_comp hp hg hr xs ys (rec a b u).2 (hp a b u hpu w hc (ha a (by simp)) (hb b (by simp))) h1.1 (h1.2.2 ht) (fun y hy => ha y (List.mem_cons_of_mem _ hy)) (fun y hy => hb y (List.mem_cons_of_mem _ hy)) h2.2 he.2
    · rename_i ht
      exact ⟨.inr (h2.1.resolve_left ht), h2.2⟩
theorem prF_comp {N : Nat} {θ : Int → T} : ∀ (f : Nat) (a b : T) (u : U), 20000 < f + u.2.1 → Wf u.1 N → u.2.1 ≤ 20000 → fine N a → fine N b → fitsU θ u.1 → mapT θ a = mapT θ b → fits2 θ (prF N f a b u)
  | 0, a, b, u, h0, w, hc, _, _, h, _ => by omega
  | f + 1, a, b, u, h0, w, hc, ha, hb, hf, he => by
    simp only [prF]
    split
    · exact ⟨.inr rfl, hf⟩
    · rename_i hlt
      have la := look_fine w ha
      have lb := look_fine w hb
      have za := look_end w ha
      have zb := look_end w hb
      have hh : mapT θ (look u.1 a) = mapT θ (look u.1 b) := by rw [look_map w hf ha, look_map w hf hb]; exact he
      generalize look u.1 a = A at *
      generalize look u.1 b = B at *
      unfold prB
      split
      · exact ⟨.inl rfl, hf⟩
      · rename_i hne
        split
        · rename_i hv
          have hs := sw_k hv hne
          have hfn := sw_fine la lb
          have hz : (u.1.getD (sw A B).1.n.toNat default).k = 0 ∧ ((sw A B).2.k = 1 → (u.1.getD (sw A B).2.n.toNat default).k = 0) := by
            have := hs.1
            unfold sw at this ⊢
            split
            · rename_i hc; rw [if_pos hc] at this; exact ⟨zb this, za⟩
            · rename_i hc; rw [if_neg hc] at this; exact ⟨za this, zb⟩
          have hm : θ (sw A B).1.n = mapT θ (sw A B).2 := by
            rw [← mapT_var θ hs.1]
            unfold sw
            split
            · exact hh.symm
            · exact hh
          unfold bindP
          split
          · rename_i hw
            exfalso
            have h1 := wF_sz w hf _ _ _ _ hfn.2 hw
            by_cases hy : (sw A B).2.k = 1
            · have h2 := hz.2 hy
              have h3 := hs.2 hy
              simp only [wF] at hw
              rw [wT_eq, if_pos hy, if_neg (by omega), if_pos (.inr h2)] at hw
              cases hw
            · have := h1.2 hy
              rw [hm] at this
              omega
          · exact ⟨.inl rfl, (fits_set w hfn.1 hs.1 hz.1 (by have := fine_k hfn.2; omega)).2 ⟨hf, hm⟩⟩
        · rename_i hv
          rw [mapT_op θ (by omega), mapT_op θ (by omega)] at hh
          injection hh with e1 e2 e3
          have hl : A.l.length = B.l.length := by
            have := congrArg List.length e3
            rw [mapTs_map, mapTs_map] at this
            simpa using this
          rw [if_pos ⟨e2, hl⟩]
          exact prS_comp (P := fun u => 20000 < f + u.2.1) (fun a b u hp w hc ha hb => by have := (prF_good f a b u w hc ha hb).2.1; show (20000 : Int) < _; omega) (fun a b u => prF_good f a b u) (fun a b u hp w hc ha hb hf he => prF_comp f a b u hp w hc ha hb hf he) _ _ (u.1, u.2.1 + 1, u.2.2) (by show (20000 : Int) < _; simp only; omega) w (by simp only; omega) (kids_fine la) (kids_fine lb) hf e3
end Go.Abs
