/- whole: everything that was found, put in. -/
import Derived.Test.YtcfmgncmkbiknaaY04nm
set_option maxRecDepth 100000
set_option linter.unusedSimpArgs false
set_option linter.unusedVariables false
namespace Go.Abs
open Go Go.Proofs
def whB (rec : T → Int → Option T × Int) : List T → Int → Option (List T) × Int
  | [], c => (some [], c)
  | x :: xs, c => match rec x c with
    | (none, d) => (none, d)
    | (some y, d) => match whB rec xs d with
      | (none, e) => (none, e)
      | (some ys, e) => (some (y :: ys), e)
/-- A tree with everything put in, at most so deep, of at most so many nodes; and how many are left. -/
def whF (l : List T) : Nat → T → Int → Option T × Int
  | 0, _, c => (none, c - 1)
  | f + 1, t, c => if c - 1 < 0 then (none, c - 1) else match whB (whF l f) (look l t).l (c - 1) with
    | (none, d) => (none, d)
    | (some ys, d) => (some (.mk (look l t).k (look l t).n ys), d)
theorem whF_some {l : List T} {f : Nat} {t : T} {c : Int} {y : T} {d : Int} (h : whF l (f + 1) t c = (some y, d)) :
    ∃ ys, whB (whF l f) (look l t).l (c - 1) = (some ys, d) ∧ y = .mk (look l t).k (look l t).n ys ∧ 0 ≤ c - 1 := by
  simp only [whF] at h
  split at h
  · cases h
  · split at h
    · cases h
    · rename_i hc _ ys e hb
      cases h
      exact ⟨ys, hb, rfl, by omega⟩
theorem whB_nil {rec : T → Int → Option T × Int} {c : Int} {ys : List T} {d : Int} (h : whB rec [] c = (some ys, d)) : ys = [] ∧ d = c := by
  cases h; exact ⟨rfl, rfl⟩
theorem whB_some {rec : T → Int → Option T × Int} {x : T} {xs : List T} {c : Int} {ys : List T} {d : Int} (h : whB rec (x :: xs) c = (some ys, d)) :
    ∃ y d1 zs, rec x c = (some y, d1) ∧ whB rec xs d1 = (some zs, d) ∧ ys = y :: zs := by
  simp only [whB] at h
  split at h
  · cases h
  · rename_i y d1 e
    split at h
    · cases h
    · rename_i zs e2 hb
      cases h
      exact ⟨y, d1, zs, e, hb, rfl⟩
/-- What comes out does not hang on the limits. -/
theorem whB_uniq {r r' : T → Int → Option T × Int} : ∀ (xs : List T), (∀ x ∈ xs, ∀ c y d c' y' d', r x c = (some y, d) → r' x c' = (some y', d') → y = y') →
    ∀ c ys d c' ys' d', whB r xs c = (some ys, d) → whB r' xs c' = (some ys', d') → ys = ys'
  | [], _, c, ys, d, c', ys', d', h, h' => by rw [(whB_nil h).1, (whB_nil h').1]
  | x :: xs, hr, c, ys, d, c', ys', d', h, h' => by
    obtain ⟨y, d1, zs, a1, a2, rfl⟩ := whB_some h
    obtain ⟨y', d1', zs', b1, b2, rfl⟩ := whB_some h'
    rw [hr x (by simp) _ _ _ _ _ _ a1 b1, whB_uniq xs (fun x hx => hr x (List.mem_cons_of_mem _ hx)) _ _ _ _ _ _ a2 b2]
theorem whF_uniq {l : List T} : ∀ (f f' : Nat) (t : T) (c : Int) (y : T) (d c' : Int) (y' : T) (d' : Int), whF l f t c = (some y, d) → whF l f' t c' = (some y', d') → y = y'
  | 0, _, t, c, y, d, c', y', d', h, _ => by cases h
  | _ + 1, 0, t, c, y, d, c', y', d', _, h => by cases h
  | f + 1, f' + 1, t, c, y, d, c', y', d', h, h' => by
    obtain ⟨ys, a1, rfl, _⟩ := whF_some h
    obtain ⟨ys', b1, rfl, _⟩ := whF_some h'
    rw [whB_uniq _ (fun x _ c y d c' y' d' => whF_uniq f f' x c y d c' y' d') _ _ _ _ _ _ a1 b1]
/-- How great it is, and how deep; its variables are free. -/
def whOk (N : Nat) (l : List T) (f : Nat) (c : Int) (y : T) (d : Int) : Prop :=
  0 ≤ d ∧ d = c - y.sz ∧ y.dp ≤ f ∧ y.shaped = true ∧ ∀ v ∈ y.fv, v < (N : Int) ∧ (l.getD v.toNat default).k = 0
theorem whB_ok {N : Nat} {l : List T} {f : Nat} {r : T → Int → Option T × Int} : ∀ (xs : List T), (∀ x ∈ xs, ∀ c y d, 0 ≤ c → r x c = (some y, d) → whOk N l f c y d) → ∀ c ys d, 0 ≤ c → whB r xs c = (some ys, d) →
    0 ≤ d ∧ d = c - szs ys ∧ dps ys ≤ f ∧ shapeds ys = true ∧ ys.length = xs.length ∧ ∀ v ∈ fvs ys, v < (N : Int) ∧ (l.getD v.toNat default).k = 0
  | [], _, c, ys, d, hc, h => by
    obtain ⟨rfl, rfl⟩ := whB_nil h
    exact ⟨hc, by simp [szs], by simp [dps], rfl, rfl, fun v hv => by cases hv⟩
  | x :: xs, hr, c, ys, d, hc, h => by
    obtain ⟨y, d1, zs, a1, a2, rfl⟩ := whB_some h
    obtain ⟨b1, b2, b3, b4, b5⟩ := hr x (by simp) _ _ _ hc a1
    obtain ⟨c1, c2, c3, c4, c5, c6⟩ := whB_ok xs (fun x hx => hr x (List.mem_cons_of_mem _ hx)) d1 zs d b1 a2
    refine ⟨c1, by simp only [szs]; omega, by simp only [dps]; omega, by simp [shapeds, b4, c4], by simp [c5], fun v hv => ?_⟩
    simp only [fvs, List.mem_append] at hv
    rcases hv with hv | hv
    · exact b5 v hv
    · exact c6 v hv
theorem whF_ok {N : Nat} {l : List T} (w : Wf l N) : ∀ (f : Nat) (t : T) (c : Int) (y : T) (d : Int), fine N t → 0 ≤ c → whF l f t c = (some y, d) → whOk N l f c y d
  | 0, t, c, y, d, _, _, h => by cases h
  | f + 1, t, c, y, d, ht, hc, h => by
    obtain ⟨ys, a1, rfl, a3⟩ := whF_some h
    have lt := look_fine w ht
    have le := look_end w ht
    obtain ⟨c1, c2, c3, c4, c5, c6⟩ := whB_ok (N := N) (l := l) (f := f) _ (fun x hx c y d hc h => whF_ok w f x c y d (kids_fine lt x hx) hc h) (c - 1) ys d a3 a1
    have hs : (T.mk (look l t).k (look l t).n ys).shaped = true := by
      have h1 := lt.1
      rw [T.shaped_eq] at h1 ⊢
      simp only [T.k, T.n, T.l, c5, c4, Bool.and_true]
      exact (Bool.and_eq_true _ _ ▸ h1).1
    refine ⟨c1, by simp only [T.sz]; omega, by simp only [T.dp]; omega, hs, fun v hv => ?_⟩
    simp only [T.fv] at hv
    split at hv
    · rename_i hk
      rcases List.mem_cons.1 hv with rfl | hv
      · exact ⟨(fine_n lt hk).2, le hk⟩
      · exact c6 v hv
    · exact c6 v hv
/-- What became of each variable. -/
def wv (l : List T) (v : Int) : T := ((whF l 200 (.mk 1 v []) 2000).1).getD T0
def wvOk (l : List T) (v : Int) : Prop := ∃ y d, whF l 200 (.mk 1 v []) 2000 = (some y, d)
theorem wv_get {l : List T} {v : Int} (h : wvOk l v) : ∃ d, whF l 200 (.mk 1 v []) 2000 = (some (wv l v), d) := by
  obtain ⟨y, d, e⟩ := h
  exact ⟨d, by rw [wv, e]; rfl⟩
theorem var_eq {t : T} (h : t.shaped = true) (hk : t.k = 1) : t = .mk 1 t.n [] := by
  cases t with
  | mk k n l =>
    simp only [T.k] at hk
    rw [shaped_var h hk, hk]; rfl
theorem whB_map {N : Nat} {l : List T} {f : Nat} : ∀ (xs : List T), (∀ x ∈ xs, ∀ c y d, whF l f x c = (some y, d) → y = mapT (wv l) x) → ∀ c ys d, whB (whF l f) xs c = (some ys, d) → ys = mapTs (wv l) xs
  | [], _, c, ys, d, h => (whB_nil h).1
  | x :: xs, hr, c, ys, d, h => by
    obtain ⟨y, d1, zs, a1, a2, rfl⟩ := whB_some h
    rw [mapTs, hr x (by simp) _ _ _ a1, whB_map (N := N) xs (fun x hx => hr x (List.mem_cons_of_mem _ hx)) _ _ _ a2]
theorem whF_map {N : Nat} {l : List T} (w : Wf l N) (hv : ∀ v : Int, 0 ≤ v → v < (N : Int) → wvOk l v) : ∀ (f : Nat) (t : T) (c : Int) (y : T) (d : Int), fine N t → whF l f t c = (some y, d) → y = mapT (wv l) t
  | 0, t, c, y, d, _, h => by cases h
  | f + 1, t, c, y, d, ht, h => by
    by_cases hk : t.k = 1
    · have hn := fine_n ht hk
      obtain ⟨d2, e⟩ := wv_get (hv t.n hn.1 hn.2)
      rw [← var_eq ht.1 hk] at e
      rw [whF_uniq _ _ _ _ _ _ _ _ _ h e, mapT_var _ hk]
    · obtain ⟨ys, a1, rfl, _⟩ := whF_some h
      have e : look l t = t := look_stop fun hc => hk hc.1
      rw [e] at a1 ⊢
      rw [mapT_op _ hk, whB_map (N := N) _ (fun x hx c y d h => whF_map w hv f x c y d (kids_fine ht x hx) h) _ _ _ a1]
theorem whF_look {l : List T} {t s : T} (h : look l t = look l s) (f : Nat) (c : Int) : whF l f t c = whF l f s c := by
  cases f with
  | zero => rfl
  | succ f => simp only [whF, h]
theorem wv_fits {N : Nat} {l : List T} (w : Wf l N) (hv : ∀ v : Int, 0 ≤ v → v < (N : Int) → wvOk l v) : fitsU (wv l) l := by
  intro i hi
  have hN : i < N := by
    rw [← w.len]
    exact Classical.byContradiction fun hc => hi (by rw [List.getD_eq_getElem?_getD, List.getElem?_eq_none (by omega)]; rfl)
  obtain ⟨d, e⟩ := wv_get (hv i (by omega) (by omega))
  have hl := (look_step w (t := .mk 1 (i : Int) []) rfl (by simp only [T.n]; omega) (by simpa [T.n] using hi)).1
  simp only [T.n, Int.toNat_natCast] at hl
  rw [whF_look hl] at e
  exact whF_map w hv _ _ _ _ _ (fine_get w hi) e
theorem wv_tree {N : Nat} {l : List T} (w : Wf l N) {v : Int} (h0 : 0 ≤ v) (h1 : v < (N : Int)) (hv : wvOk l v) : (wv l v).tree = true ∧ ∀ u ∈ (wv l v).fv, u < (N : Int) ∧ (l.getD u.toNat default).k = 0 := by
  obtain ⟨d, e⟩ := wv_get hv
  have hf : fine N (.mk 1 v []) := by
    refine ⟨by simp only [T.shaped]; simp [shapeds]; omega, fun u hu => ?_⟩
    simp only [T.fv, if_true, fvs, List.mem_singleton] at hu
    omega
  obtain ⟨c1, c2, c3, c4, c5⟩ := whF_ok w 200 _ 2000 _ d hf (by omega) e
  exact ⟨(T.tree_iff _).2 ⟨by omega, by omega, c4⟩, c5⟩
/-- A variable that is free stays. -/
theorem wv_free {l : List T} {v : Int} (h : (l.getD v.toNat default).k = 0) : whF l 200 (.mk 1 v []) 2000 = (some (.mk 1 v []), 1999) := by
  have e : look l (.mk 1 v []) = .mk 1 v [] := look_stop fun hc => hc.2 h
  show whF l (199 + 1) _ _ = _
  simp only [whF]
  rw [e]
  rfl
end Go.Abs
