/- SigIdempotent's law. -/
import Derived.Test.YtcfmgncmkbiknaaY04ny
set_option maxRecDepth 100000
set_option linter.unusedSimpArgs false
set_option linter.unusedVariables false
namespace Go.Abs
open Go Go.Proofs
theorem fits_zero (θ : Int → T) (N : Nat) : fitsU θ (List.replicate N T0) := by
  intro i hi
  exfalso
  apply hi
  by_cases h : i < N
  · simp [h]; rfl
  · rw [List.getD_eq_getElem?_getD, List.getElem?_eq_none (by simpa using h)]; rfl
theorem un_fine {a b : T} (ha : a.tree = true) (hb : b.tree = true) : fine (unN a b) a ∧ fine (unN a b) b := by
  have hg := gts_ge [a, b]
  have hg2 := gts2 a b
  have hN : gts [a, b] + 1 = ((unN a b : Nat) : Int) := by unfold unN; omega
  exact ⟨fine_of ha (by omega), fine_of hb (by omega)⟩
theorem un_good {a b : T} (ha : a.tree = true) (hb : b.tree = true) : Wf (unP a b).2.1 (unN a b) := 
  (prF_good (N := unN a b) 20001 a b (List.replicate (unN a b) T0, 0, false) (wf_zero _) (by simp) (un_fine ha hb).1 (un_fine ha hb).2).1
theorem wv_all {l : List T} {N : Nat} (h : wvAll l N = true) (v : Int) (h0 : 0 ≤ v) (h1 : v < (N : Int)) : wvOk l v := by
  have := List.all_eq_true.1 h v.toNat (List.mem_range.2 (by omega))
  rw [Int.toNat_of_nonneg h0] at this
  cases e : whF l 200 (.mk 1 v []) 2000 with
  | mk x d =>
    rw [e] at this
    cases x with
    | none => cases this
    | some y => exact ⟨y, d, e⟩
/-- Where something is found, something makes both the same. -/
theorem uni_true {a b : T} (ha : a.tree = true) (hb : b.tree = true) (hg : gts [a, b] ≤ 4000) (h : (uniS a b).2.1 = true) : ∃ θ : Int → T, mapT θ a = mapT θ b := by
  rw [uniS, if_pos ⟨ha, hb⟩, if_pos hg] at h
  split at h
  · rename_i hr
    split at h
    · rename_i hw
      have w := un_good ha hb
      have hf := wv_fits w (wv_all hw)
      exact ⟨_, (prF_sound (N := unN a b) 20001 a b (List.replicate (unN a b) T0, 0, false) (wf_zero _) (by simp) (un_fine ha hb).1 (un_fine ha hb).2 hr hf).2⟩
    · cases h
  · cases h
theorem uni_some {a b : T} (ha : a.tree = true) (hb : b.tree = true) (hg : gts [a, b] ≤ 4000) {θ : Int → T} (he : mapT θ a = mapT θ b) : ((uniS a b).2.1 = true ∧ (uniS a b).2.2 = 0) ∨ (uniS a b).2.2 = 2 := by
  have h := prF_comp (N := unN a b) (θ := θ) 20001 a b (List.replicate (unN a b) T0, 0, false) (by simp) (wf_zero _) (by simp) (un_fine ha hb).1 (un_fine ha hb).2 (fits_zero _ _) he
  have e : prF (unN a b) 20001 a b (List.replicate (unN a b) T0, 0, false) = unP a b := rfl
  rw [e] at h
  rw [uniS, if_pos ⟨ha, hb⟩, if_pos hg]
  split
  · split
    · exact .inl ⟨rfl, rfl⟩
    · exact .inr rfl
  · rename_i hr
    right
    rw [if_pos (h.1.resolve_left hr)]
theorem uni_err {a b : T} (ha : a.tree = true) (hb : b.tree = true) (hg : gts [a, b] ≤ 4000) : (uniS a b).2.2 = 2 ∨ (uniS a b).2.2 = 0 := by
  rw [uniS, if_pos ⟨ha, hb⟩, if_pos hg]
  split
  · split
    · exact .inr rfl
    · exact .inl rfl
  · simp only
    split
    · exact .inl rfl
    · exact .inr rfl
theorem uni_none {a b : T} (ha : a.tree = true) (hb : b.tree = true) (hg : gts [a, b] ≤ 4000) (h0 : (uniS a b).2.2 = 0) (h : (uniS a b).2.1 = false) (θ : Int → T) : mapT θ a ≠ mapT θ b := by
  intro he
  rcases uni_some ha hb hg he with h1 | h1
  · rw [h1.1] at h; cases h
  · omega
theorem uni_swap {a b : T} (ha : a.tree = true) (hb : b.tree = true) (hg : gts [a, b] ≤ 4000) (h0 : (uniS a b).2.2 = 0) : (uniS b a).2.2 = 2 ∨ ((uniS b a).2.2 = 0 ∧ (uniS b a).2.1 = (uniS a b).2.1) := by
  have hg' : gts [b, a] ≤ 4000 := by simp only [gts] at hg ⊢; omega
  rcases uni_err hb ha hg' with h | h
  · exact .inl h
  · right
    refine ⟨h, ?_⟩
    cases h1 : (uniS a b).2.1 with
    | true =>
      obtain ⟨θ, he⟩ := uni_true ha hb hg h1
      rcases uni_some hb ha hg' he.symm with h2 | h2
      · exact h2.1
      · omega
    | false =>
      rw [Bool.eq_false_iff]
      intro h2
      obtain ⟨θ, he⟩ := uni_true hb ha hg' h2
      exact uni_none ha hb hg h0 h1 θ he.symm
theorem wvs_get (l : List T) {N i : Nat} (h : i < N) : (wvs l N).getD i default = wv l i := by simp [wvs, h]
/-- A unifier, put into itself, stays. -/
theorem uni_fix {a b : T} (h : (uniS a b).2.1 = true) : ∀ y ∈ (uniS a b).1, substS y (uniS a b).1 = (y, 0) := by
  unfold uniS at h ⊢
  split at h
  · rename_i hab
    rw [if_pos hab]
    split at h
    · rename_i hg
      rw [if_pos hg]
      split at h
      · rename_i hr
        rw [if_pos hr]
        split at h
        · rename_i hw
          rw [if_pos hw]
          have w := un_good hab.1 hab.2
          have hall := wv_all hw
          generalize (unP a b).2.1 = l at *
          generalize unN a b = N at *
          have hT : ∀ v : Nat, v < N → (wv l v).tree = true ∧ ∀ u ∈ (wv l v).fv, u < (N : Int) ∧ (l.getD u.toNat default).k = 0 := fun v hv => wv_tree w (by omega) (by omega) (hall v (by omega) (by omega))
          intro y hy
          obtain ⟨v, hv, rfl⟩ := List.mem_map.1 hy
          have hv : v < N := List.mem_range.1 hv
          have hs := ((T.tree_iff _).1 (hT v hv).1).2.2
          have hsub : sub (wvs l N) (wv l v) = wv l v := by
            have := ren_id (wv l v) hs
            unfold ren at this
            refine Eq.trans (map_ext _ fun u hu => ?_) this
            have h0 := fv_shaped _ hs u hu
            obtain ⟨h1, h2⟩ := (hT v hv).2 u hu
            rw [wvs_get _ (by omega), Int.toNat_of_nonneg h0, wv, wv_free h2]
            rfl
          have htr : treesB (wvs l N) = true := by
            rw [treesB, List.all_eq_true]
            intro x hx
            obtain ⟨u, hu, rfl⟩ := List.mem_map.1 hx
            exact (hT u (List.mem_range.1 hu)).1
          show substS (wv l v) (wvs l N) = _
          rw [substS, if_pos ⟨(hT v hv).1, htr⟩, if_pos (by rw [wvs_len]; exact (gts1 _ _ (by omega)).2 fun u hu => ((hT v hv).2 u hu).1), hsub, if_pos (hT v hv).1]
        · cases h
      · cases h
    · cases h
  · cases h
theorem uni_len (a b : T) : (uniS a b).1.length ≤ 4001 := by
  unfold uniS
  split
  · split
    · split
      · split
        · simp only [wvs_len]; unfold unN; omega
        · simp
      · simp
    · simp
  · simp
theorem look_zero (N : Nat) (t : T) : look (List.replicate N T0) t = t := look_stop fun h => h.2 (by
  have := fits_zero (fun _ => T0) N t.n.toNat
  exact Classical.byContradiction fun hc => by
    by_cases hi : t.n.toNat < N
    · exact hc (by simp [hi]; rfl)
    · exact hc (by rw [List.getD_eq_getElem?_getD, List.getElem?_eq_none (by simpa using hi)]; rfl))
theorem prS_same {N f : Nat} {l : List T} {o : Bool} (hr : ∀ (a : T) (c : Int), fine N a → 0 ≤ c → 20000 < f + c → c + a.sz ≤ 20000 → prF N f a a (l, c, o) = (true, (l, c + a.sz, o))) :
    ∀ (xs : List T) (c : Int), (∀ x ∈ xs, fine N x) → 0 ≤ c → 20000 < f + c → c + szs xs ≤ 20000 → prS (prF N f) xs xs (l, c, o) = (true, (l, c + szs xs, o))
  | [], c, _, _, _, _ => by simp [prS, szs]
  | x :: xs, c, hx, h0, hf, hc => by
    simp only [szs] at hc ⊢
    have := szs_pos xs
    have := T.sz_pos x
    rw [prS, hr x c (hx x (by simp)) h0 hf (by omega)]
    simp only [if_true]
    rw [prS_same hr xs (c + x.sz) (fun y hy => hx y (List.mem_cons_of_mem _ hy)) (by omega) (by omega) (by omega), Int.add_assoc]
theorem prF_same {N : Nat} {o : Bool} : ∀ (f : Nat) (a : T) (c : Int), fine N a → 0 ≤ c → 20000 < f + c → c + a.sz ≤ 20000 → prF N f a a (List.replicate N T0, c, o) = (true, (List.replicate N T0, c + a.sz, o))
  | 0, a, c, ha, h0, hf, hc => by have := T.sz_pos a; omega
  | f + 1, a, c, ha, h0, hf, hc => by
    have hp := T.sz_pos a
    rw [prF, if_neg (by simp only; omega), prB]
    simp only [look_zero]
    by_cases hk : a.k = 1
    · rw [if_pos ⟨hk, hk, trivial⟩]
      have e := var_eq ha.1 hk
      rw [e]
      rfl
    · rw [if_neg (fun h => hk h.1), if_neg (fun h => h.elim hk hk), if_pos ⟨trivial, trivial⟩]
      have ez : a.sz = 1 + szs a.l := by cases a; rfl
      rw [prS_same (fun a c => prF_same f a c) a.l (c + 1) (kids_fine ha) (by omega) (by omega) (by omega), ez, Int.add_assoc]
/-- Of a tree and itself: every variable by itself. -/
theorem uni_self {a : T} (ha : a.tree = true) (hg : gts [a] ≤ 4000) : uniS a a = ((List.range (gts [a] + 1).toNat).map fun (v : Nat) => T.mk 1 v [], true, 0) := by
  have hg2 : gts [a, a] = gts [a] := by simp only [gts]; omega
  have hN : unN a a = (gts [a] + 1).toNat := by unfold unN; rw [hg2]
  have hz := (T.tree_iff _).1 ha
  have hr : unP a a = (true, (List.replicate (unN a a) T0, 0 + a.sz, false)) := prF_same 20001 a 0 (un_fine ha ha).1 (by omega) (by omega) (by omega)
  have hfree : ∀ v : Nat, whF (List.replicate (unN a a) T0) 200 (.mk 1 (v : Int) []) 2000 = (some (.mk 1 v []), 1999) := fun v => wv_free (by
    rw [Int.toNat_natCast]
    by_cases hi : v < unN a a
    · simp [hi]; rfl
    · rw [List.getD_eq_getElem?_getD, List.getElem?_eq_none (by simpa using hi)]; rfl)
  rw [uniS, if_pos ⟨ha, ha⟩, if_pos (by omega), hr, if_pos rfl, if_pos, ← hN]
  · simp only [wvs, wv, hfree, Option.getD]
  · rw [wvAll, List.all_eq_true]
    intro v _
    rw [hfree]; rfl
end Go.Abs
