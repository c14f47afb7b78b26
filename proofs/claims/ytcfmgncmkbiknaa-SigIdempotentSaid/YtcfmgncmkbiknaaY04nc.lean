/- pair. -/
import Derived.Test.YtcfmgncmkbiknaaY04nb
set_option maxRecDepth 100000
set_option linter.unusedSimpArgs false
set_option linter.unusedVariables false
namespace Go.Abs
open Go Go.Proofs
/-- What was found, how many pairs, whether there were too many. -/
abbrev U := List T × Int × Bool
def prS (rec : T → T → U → Bool × U) : List T → List T → U → Bool × U
  | [], _, u => (true, u)
  | _ :: _, [], u => (true, u)
  | a :: xs, b :: ys, u => (fun r : Bool × U => if r.1 = true then prS rec xs ys r.2 else (false, r.2)) (rec a b u)
def sw (a b : T) : T × T := if (a.k ≠ 1 ∧ b.k = 1) ∨ (a.k = 1 ∧ b.k = 1 ∧ a.n < b.n) then (b, a) else (a, b)
def bindP (N : Nat) (x y : T) (u : U) : Bool × U := if (wF u.1 x.n (N + 1) y []).1 = true then (false, u) else (true, (u.1.set x.n.toNat y, u.2))
def prB (N : Nat) (rec : T → T → U → Bool × U) (a b : T) (u : U) : Bool × U :=
  if a.k = 1 ∧ b.k = 1 ∧ a.n = b.n then (true, u)
  else if a.k = 1 ∨ b.k = 1 then bindP N (sw a b).1 (sw a b).2 u
  else if a.n = b.n ∧ a.l.length = b.l.length then prS rec a.l b.l u else (false, u)
def prF (N : Nat) : Nat → T → T → U → Bool × U
  | 0, _, _, u => (false, u)
  | f + 1, a, b, u => if 20000 < u.2.1 + 1 then (false, (u.1, u.2.1 + 1, true)) else prB N (prF N f) (look u.1 a) (look u.1 b) (u.1, u.2.1 + 1, u.2.2)
/-- A tree that a unifier may look at. -/
def fine (N : Nat) (t : T) : Prop := t.shaped = true ∧ ∀ v ∈ t.fv, v < (N : Int)
theorem fine_n {N : Nat} {t : T} (h : fine N t) (hk : t.k = 1) : 0 ≤ t.n ∧ t.n < (N : Int) := by
  have hm : t.n ∈ t.fv := by cases t; simp only [T.k] at hk; simp [T.fv, T.n, hk]
  exact ⟨fv_shaped t h.1 _ hm, h.2 _ hm⟩
theorem fine_kid {N : Nat} {t : T} (h : fine N t) {i : Nat} (hi : i < t.l.length) : fine N (t.l.getD i default) := by
  refine ⟨(shaped_kids h.1).2 _ (mem_getD hi), fun v hv => ?_⟩
  by_cases hk : t.k = 1
  · cases t with
    | mk k n l =>
      simp only [T.k, T.l] at hk hi
      rw [shaped_var h.1 hk] at hi
      simp at hi
  · exact h.2 v (fvs_mem hk hi hv)
theorem fine_get {N : Nat} {l : List T} (w : Wf l N) {i : Nat} (h : (l.getD i default).k ≠ 0) : fine N (l.getD i default) := ⟨w.shp i h, w.fv i h⟩
theorem look_fine {l : List T} {N : Nat} (w : Wf l N) : ∀ {t : T}, fine N t → fine N (look l t) := by
  have key : ∀ (m : Nat) (t : T), far t ≤ m → fine N t → fine N (look l t) := by
    intro m
    induction m with
    | zero =>
      intro t hm h
      have : ¬ (t.k = 1 ∧ (l.getD t.n.toNat default).k ≠ 0) := fun hc => by simp [far, hc.1] at hm
      rw [look_stop this]; exact h
    | succ m ih =>
      intro t hm h
      by_cases hc : t.k = 1 ∧ (l.getD t.n.toNat default).k ≠ 0
      · have hs := look_step w hc.1 (fine_n h hc.1).1 hc.2
        rw [hs.1]
        exact ih _ (by omega) (fine_get w hc.2)
      · rw [look_stop hc]; exact h
  exact fun {t} h => key _ t (Nat.le_refl _) h
theorem look_end {l : List T} {N : Nat} (w : Wf l N) : ∀ {t : T}, fine N t → (look l t).k = 1 → (l.getD (look l t).n.toNat default).k = 0 := by
  have key : ∀ (m : Nat) (t : T), far t ≤ m → fine N t → (look l t).k = 1 → (l.getD (look l t).n.toNat default).k = 0 := by
    intro m
    induction m with
    | zero =>
      intro t hm h hk
      have : ¬ (t.k = 1 ∧ (l.getD t.n.toNat default).k ≠ 0) := fun hc => by simp [far, hc.1] at hm
      rw [look_stop this] at hk ⊢
      exact Classical.byContradiction fun hc => this ⟨hk, hc⟩
    | succ m ih =>
      intro t hm h hk
      by_cases hc : t.k = 1 ∧ (l.getD t.n.toNat default).k ≠ 0
      · have hs := look_step w hc.1 (fine_n h hc.1).1 hc.2
        rw [hs.1] at hk ⊢
        exact ih _ (by omega) (fine_get w hc.2) hk
      · rw [look_stop hc] at hk ⊢
        exact Classical.byContradiction fun h2 => hc ⟨hk, h2⟩
  exact fun {t} h => key _ t (Nat.le_refl _) h
theorem Wf.set {l : List T} {N : Nat} (w : Wf l N) {x y : T} (hx : fine N x) (hk : x.k = 1) (hy : fine N y) (hd : y.k = 1 → y.n < x.n) : Wf (l.set x.n.toNat y) N := by
  have hn := fine_n hx hk
  have hlt : x.n.toNat < l.length := by rw [w.len]; omega
  refine ⟨by rw [List.length_set]; exact w.len, fun i => ?_, fun i => ?_, fun i => ?_⟩
  · rw [getD_set hlt]; split
    · exact fun _ => hy.1
    · exact w.shp i
  · rw [getD_set hlt]; split
    · exact fun _ => hy.2
    · exact w.fv i
  · rw [getD_set hlt]; split
    · rename_i e; intro h; have := hd h; omega
    · exact w.dec i
theorem sw_k {a b : T} (h : a.k = 1 ∨ b.k = 1) (hne : ¬ (a.k = 1 ∧ b.k = 1 ∧ a.n = b.n)) : (sw a b).1.k = 1 ∧ ((sw a b).2.k = 1 → (sw a b).2.n < (sw a b).1.n) := by
  unfold sw
  split
  · rename_i hc
    rcases hc with hc | hc
    · exact ⟨hc.2, fun h2 => absurd h2 hc.1⟩
    · exact ⟨hc.2.1, fun _ => hc.2.2⟩
  · rename_i hc
    have ha : a.k = 1 := by
      rcases h with h | h
      · exact h
      · exact Classical.byContradiction fun h2 => hc (.inl ⟨h2, h⟩)
    refine ⟨ha, fun hb => ?_⟩
    have h1 : ¬ a.n < b.n := fun h2 => hc (.inr ⟨ha, hb, h2⟩)
    have h2 : a.n ≠ b.n := fun h2 => hne ⟨ha, hb, h2⟩
    simp only at hb ⊢
    omega
theorem sw_fine {N : Nat} {a b : T} (ha : fine N a) (hb : fine N b) : fine N (sw a b).1 ∧ fine N (sw a b).2 := by
  unfold sw; split
  · exact ⟨hb, ha⟩
  · exact ⟨ha, hb⟩
/-- What a pair leaves is in order, and it counts up. -/
def good (N : Nat) (u : U) (r : Bool × U) : Prop := Wf r.2.1 N ∧ u.2.1 ≤ r.2.2.1 ∧ (r.1 = true → r.2.2.1 ≤ 20000)
theorem bindP_good {N : Nat} {x y : T} {u : U} (w : Wf u.1 N) (hc : u.2.1 ≤ 20000) (hx : fine N x) (hy : fine N y) (hk : x.k = 1) (hd : y.k = 1 → y.n < x.n) : good N u (bindP N x y u) := by
  unfold bindP
  split
  · exact ⟨w, Int.le_refl _, fun _ => hc⟩
  · exact ⟨w.set hx hk hy hd, Int.le_refl _, fun _ => hc⟩
theorem prS_good {N : Nat} {rec : T → T → U → Bool × U} (hr : ∀ a b u, Wf u.1 N → u.2.1 ≤ 20000 → fine N a → fine N b → good N u (rec a b u)) :
    ∀ (xs ys : List T) (u : U), Wf u.1 N → u.2.1 ≤ 20000 → (∀ a ∈ xs, fine N a) → (∀ b ∈ ys, fine N b) → good N u (prS rec xs ys u)
  | [], _, u, w, hc, _, _ => by simp only [prS]; exact ⟨w, Int.le_refl _, fun _ => hc⟩
  | _ :: _, [], u, w, hc, _, _ => by simp only [prS]; exact ⟨w, Int.le_refl _, fun _ => hc⟩
  | a :: xs, b :: ys, u, w, hc, ha, hb => by
    have h1 := hr a b u w hc (ha a (by simp)) (hb b (by simp))
    simp only [prS]
    split
    · rename_i ht
      have h2 := prS_good hr xs ys (rec a b u).2 h1.1 (h1.2.2 ht) (fun y hy => ha y (List.mem_cons_of_mem _ hy)) (fun y hy => hb y (List.mem_cons_of_mem _ hy))
      exact ⟨h2.1, Int.le_trans h1.2.1 h2.2.1, h2.2.2⟩
    · exact ⟨h1.1, h1.2.1, fun h => by cases h⟩
theorem kids_fine {N : Nat} {t : T} (h : fine N t) : ∀ y ∈ t.l, fine N y := by
  intro y hy
  obtain ⟨i, hi, rfl⟩ := List.getElem_of_mem hy
  have := fine_kid h hi
  simpa [hi] using this
theorem prF_good {N : Nat} : ∀ (f : Nat) (a b : T) (u : U), Wf u.1 N → u.2.1 ≤ 20000 → fine N a → fine N b → good N u (prF N f a b u)
  | 0, a, b, u, w, hc, _, _ => ⟨w, Int.le_refl _, fun h => by cases h⟩
  | f + 1, a, b, u, w, hc, ha, hb => by
    simp only [prF]
    split
    · exact ⟨w, by simp only; omega, fun h => by cases h⟩
    · rename_i hlt
      have la := look_fine w ha
      have lb := look_fine w hb
      have up : ∀ {r : Bool × U}, good N (u.1, u.2.1 + 1, u.2.2) r → good N u r := fun h => ⟨h.1, by have := h.2.1; simp only at this; omega, h.2.2⟩
      unfold prB
      split
      · exact up ⟨w, Int.le_refl _, fun _ => by simp only; omega⟩
      · rename_i hne
        split
        · rename_i hv
          have hs := sw_k hv hne
          have hf := sw_fine la lb
          exact up (bindP_good (u := (u.1, u.2.1 + 1, u.2.2)) w (by simp only; omega) hf.1 hf.2 hs.1 hs.2)
        · split
          · exact up (prS_good (fun a b u => prF_good f a b u) _ _ (u.1, u.2.1 + 1, u.2.2) w (by simp only; omega) (kids_fine la) (kids_fine lb))
          · exact up ⟨w, Int.le_refl _, fun h => by cases h⟩
theorem prS_drop {rec : T → T → U → Bool × U} {xs ys : List T} {i : Nat} (h : i < xs.length) (h2 : i < ys.length) (u : U) : prS rec (xs.drop i) (ys.drop i) u =
    (fun r : Bool × U => if r.1 = true then prS rec (xs.drop (i + 1)) (ys.drop (i + 1)) r.2 else (false, r.2)) (rec (xs.getD i default) (ys.getD i default) u) := by
  rw [List.drop_eq_getElem_cons h, List.drop_eq_getElem_cons h2, prS]
  have e1 : ys.getD i default = ys[i] := by simp [h2]
  have e2 : xs.getD i default = xs[i] := by simp [h]
  rw [e1, e2]
theorem dcall_at {P : Program} {g : FuncId} {xs : List AV} {v : AV} {H : List AObj} {K : AV → Prop} (hc : ACalls P g xs H fun r H' => r = v ∧ H' = H) (hk : K v) : dcall P true g xs H K :=
  ⟨v, ⟨xs, LeL_refl _, hc⟩, hk⟩
def rest55 : IR := ir55.tl.tl.tl
theorem ir55_eq : ir55 = .seq ir55.hd (.seq ir55.tl.hd (.seq ir55.tl.tl.hd rest55)) := rfl
def R55 (S : List T → Int → Bool → List AObj) (x : Bool × U) (r : AV) (H' : List AObj) : Prop := r = .bool x.1 ∧ H' = S x.2.1 x.2.2.1 x.2.2.2
def Q55 (S : List T → Int → Bool → List AObj) (n : Nat) (x : Bool × U) : Exit → Env → List AObj → Prop := fun e env H' => (e = Exit.normal ∨ e = Exit.ret) ∧ aret n [RX.t 6] env H' (R55 S x)
section
variable {pu idf N n : Nat} {S : List T → Int → Bool → List AObj} (F : UF S pu idf N n) {rec : T → T → U → Bool × U} {A B : T} {l : List T} {c : Int} {o : Bool}
include F
theorem rest55_eq (hA : A.k = 1) (hB : B.k = 1) (heq : A.n = B.n) : swp Try.prog n rest55 [(0, .ptr pu 0), (4, .ptr n 0), (5, .ptr (n + 1) 0)] (S l c o ++ [.cells A.av.cells, .cells B.av.cells]) (Q55 S n (prB N rec A B (l, c, o))) := by
  have e : prB N rec A B (l, c, o) = (true, (l, c, o)) := by rw [prB, if_pos ⟨hA, hB, heq⟩]
  rw [e]
  unfold Q55
  simp only [rest55, IR.tl, ir55]
  simp (contextual := true) (maxSteps := 1000000) only [F.gU, F.gU', F.sU, F.sU', F.gF, F.gF', F.sF', F.g0, F.g1, F.s0, F.s1, F.len, gd_T0, gd_T1, gd_T2, hA, hB, heq, stepsS, stepsT, stepsN, if_true, forall_const, ne_eq, implies_true, List.nil_append, List.append_nil, List.cons_append, List.length_cons, List.length_nil, Nat.reduceEqDiff, Nat.reduceAdd, Nat.reduceLT, Nat.reduceLeDiff, ↓reduceIte, reduceCtorEq, Int.reduceEq, Int.reduceLT]
  exact retw (F.take _ _ _ _) rfl rfl ⟨rfl, rfl⟩
theorem famMap (x y : AObj) : Fam (fun seen => S l c o ++ [x, y, .map (ents seen)]) (n + 2) mapO (n + 3) :=
  ⟨fun s => by rw [F.g1]; rfl, fun s s' => by rw [F.s1]; rfl, fun s => by simp [F.len]⟩
theorem within55 (w : Wf l N) (x y : T) (hx : fine N x) (hy : fine N y) : ACalls Try.prog 95 [.ptr pu 0, .int .i64 x.n, y.av, .map (n + 2)] (S l c o ++ [.cells x.av.cells, .cells y.av.cells, .map []]) fun r H' =>
    r = .bool (wF l x.n (N + 1) y []).1 ∧ ∃ e, H' = S l c o ++ ([.cells x.av.cells, .cells y.av.cells] ++ e) := by
  refine (c95 (famMap F (l := l) (c := c) (o := o) (.cells x.av.cells) (.cells y.av.cells)) (fun s => F.gU' _ _ _ _) (fun s => F.gF' _ _ _ _) w x.n (N + 1) y [] (by simp) hy.1 hy.2 ⟨List.nodup_nil, fun v hv => by cases hv⟩).mono ?_
  rintro r H' ⟨rfl, rfl⟩
  exact ⟨rfl, [_], rfl⟩
theorem rest55_lt (w : Wf l N) (fA : fine N A) (fB : fine N B) (hA : A.k = 1) (hB : B.k = 1) (hlt : A.n < B.n) : swp Try.prog n rest55 [(0, .ptr pu 0), (4, .ptr n 0), (5, .ptr (n + 1) 0)] (S l c o ++ [.cells A.av.cells, .cells B.av.cells]) (Q55 S n (prB N rec A B (l, c, o))) := by
  have e : prB N rec A B (l, c, o) = bindP N B A (l, c, o) := by
    rw [prB, if_neg (by omega), if_pos (by omega), sw, if_pos (by omega)]
  rw [e]
  unfold Q55
  simp only [rest55, IR.tl, ir55]
  have h1 : ¬ A.n = B.n := by omega
  simp (contextual := true) (maxSteps := 1000000) only [F.gU, F.gU', F.sU, F.sU', F.gF, F.gF', F.sF', F.g0, F.g1, F.s0, F.s1, F.len, gd_T0, gd_T1, gd_T2, hA, hB, h1, hlt, sp_TT, stepsS, stepsT, stepsN, if_true, forall_const, ne_eq, implies_true, List.nil_append, List.append_nil, List.cons_append, List.length_cons, List.length_nil, Nat.reduceEqDiff, Nat.reduceAdd, Nat.reduceLT, Nat.reduceLeDiff, ↓reduceIte, reduceCtorEq, Int.reduceEq, Int.reduceLT]
  refine scall_to (within55 F w B A fB fA) ?_
  rintro r H' ⟨rfl, E, rfl⟩
  have hn := fine_n fB hB
  have hnn : B.n = ((B.n.toNat : Nat) : Int) := by omega
  have hlt : B.n.toNat < l.length := by rw [w.len]; omega
  have hlN : B.n.toNat < N := by omega
  unfold bindP
  cases hw : (wF l B.n (N + 1) A []).1 with
  | true =>
    simp (contextual := true) (maxSteps := 1000000) only [F.gU, F.gU', F.sU, F.sU', F.gF, F.gF', F.sF', F.g0, F.g1, F.s0, F.s1, F.len, hw, stepsS, stepsT, stepsN, if_true, forall_const, ne_eq, implies_true, List.nil_append, List.append_nil, List.cons_append, List.length_cons, List.length_nil, Nat.reduceEqDiff, Nat.reduceAdd, Nat.reduceLT, Nat.reduceLeDiff, ↓reduceIte, reduceCtorEq, Int.reduceEq, Int.reduceLT]
    exact retw (F.take _ _ _ _) rfl rfl ⟨rfl, rfl⟩
  | false =>
    generalize B.n.toNat = i at *
    simp (contextual := true) (maxSteps := 1000000) only [F.gU, F.gU', F.sU, F.sU', F.gF, F.gF', F.sF', F.g0, F.g1, F.s0, F.s1, F.len, hw, Bool.false_eq_true, gd_T0, gd_T1, gd_T2, un_arr', hnn, idx_arr, hlt, hlN, storeL hlt, stepsS, stepsT, stepsN, if_true, forall_const, ne_eq, implies_true, List.nil_append, List.append_nil, List.cons_append, List.length_cons, List.length_nil, Nat.reduceEqDiff, Nat.reduceAdd, Nat.reduceLT, Nat.reduceLeDiff, ↓reduceIte, reduceCtorEq, Int.reduceEq, Int.reduceLT]
    exact retw (F.take _ _ _ _) rfl rfl ⟨rfl, rfl⟩
theorem rest55_gt (w : Wf l N) (fA : fine N A) (fB : fine N B) (hA : A.k = 1) (hB : B.k = 1) (hgt : B.n < A.n) : swp Try.prog n rest55 [(0, .ptr pu 0), (4, .ptr n 0), (5, .ptr (n + 1) 0)] (S l c o ++ [.cells A.av.cells, .cells B.av.cells]) (Q55 S n (prB N rec A B (l, c, o))) := by
  have e : prB N rec A B (l, c, o) = bindP N A B (l, c, o) := by
    rw [prB, if_neg (by omega), if_pos (by omega), sw, if_neg (by omega)]
  rw [e]
  unfold Q55
  simp only [rest55, IR.tl, ir55]
  have h1 : ¬ A.n = B.n := by omega
  have h2 : ¬ A.n < B.n := by omega
  simp (contextual := true) (maxSteps := 1000000) only [F.gU, F.gU', F.sU, F.sU', F.gF, F.gF', F.sF', F.g0, F.g1, F.s0, F.s1, F.len, gd_T0, gd_T1, gd_T2, hA, hB, h1, h2, sp_TT, stepsS, stepsT, stepsN, if_true, forall_const, ne_eq, implies_true, List.nil_append, List.append_nil, List.cons_append, List.length_cons, List.length_nil, Nat.reduceEqDiff, Nat.reduceAdd, Nat.reduceLT, Nat.reduceLeDiff, ↓reduceIte, reduceCtorEq, Int.reduceEq, Int.reduceLT]
  refine scall_to (within55 F w A B fA fB) ?_
  rintro r H' ⟨rfl, E, rfl⟩
  have hn := fine_n fA hA
  have hnn : A.n = ((A.n.toNat : Nat) : Int) := by omega
  have hlt : A.n.toNat < l.length := by rw [w.len]; omega
  have hlN : A.n.toNat < N := by omega
  unfold bindP
  cases hw : (wF l A.n (N + 1) B []).1 with
  | true =>
    simp (contextual := true) (maxSteps := 1000000) only [F.gU, F.gU', F.sU, F.sU', F.gF, F.gF', F.sF', F.g0, F.g1, F.s0, F.s1, F.len, hw, stepsS, stepsT, stepsN, if_true, forall_const, ne_eq, implies_true, List.nil_append, List.append_nil, List.cons_append, List.length_cons, List.length_nil, Nat.reduceEqDiff, Nat.reduceAdd, Nat.reduceLT, Nat.reduceLeDiff, ↓reduceIte, reduceCtorEq, Int.reduceEq, Int.reduceLT]
    exact retw (F.take _ _ _ _) rfl rfl ⟨rfl, rfl⟩
  | false =>
    generalize A.n.toNat = i at *
    simp (contextual := true) (maxSteps := 1000000) only [F.gU, F.gU', F.sU, F.sU', F.gF, F.gF', F.sF', F.g0, F.g1, F.s0, F.s1, F.len, hw, Bool.false_eq_true, gd_T0, gd_T1, gd_T2, un_arr', hnn, idx_arr, hlt, hlN, storeL hlt, stepsS, stepsT, stepsN, if_true, forall_const, ne_eq, implies_true, List.nil_append, List.append_nil, List.cons_append, List.length_cons, List.length_nil, Nat.reduceEqDiff, Nat.reduceAdd, Nat.reduceLT, Nat.reduceLeDiff, ↓reduceIte, reduceCtorEq, Int.reduceEq, Int.reduceLT]
    exact retw (F.take _ _ _ _) rfl rfl ⟨rfl, rfl⟩
theorem rest55_va (w : Wf l N) (fA : fine N A) (fB : fine N B) (hA : A.k = 1) (hB : ¬ B.k = 1) : swp Try.prog n rest55 [(0, .ptr pu 0), (4, .ptr n 0), (5, .ptr (n + 1) 0)] (S l c o ++ [.cells A.av.cells, .cells B.av.cells]) (Q55 S n (prB N rec A B (l, c, o))) := by
  have e : prB N rec A B (l, c, o) = bindP N A B (l, c, o) := by
    rw [prB, if_neg (by omega), if_pos (by omega), sw, if_neg (by omega)]
  rw [e]
  unfold Q55
  simp only [rest55, IR.tl, ir55]
  simp (contextual := true) (maxSteps := 1000000) only [F.gU, F.gU', F.sU, F.sU', F.gF, F.gF', F.sF', F.g0, F.g1, F.s0, F.s1, F.len, gd_T0, gd_T1, gd_T2, hA, hB, sp_TT, stepsS, stepsT, stepsN, if_true, forall_const, ne_eq, implies_true, List.nil_append, List.append_nil, List.cons_append, List.length_cons, List.length_nil, Nat.reduceEqDiff, Nat.reduceAdd, Nat.reduceLT, Nat.reduceLeDiff, ↓reduceIte, reduceCtorEq, Int.reduceEq, Int.reduceLT]
  refine scall_to (within55 F w A B fA fB) ?_
  rintro r H' ⟨rfl, E, rfl⟩
  have hn := fine_n fA hA
  have hnn : A.n = ((A.n.toNat : Nat) : Int) := by omega
  have hlt : A.n.toNat < l.length := by rw [w.len]; omega
  have hlN : A.n.toNat < N := by omega
  unfold bindP
  cases hw : (wF l A.n (N + 1) B []).1 with
  | true =>
    simp (contextual := true) (maxSteps := 1000000) only [F.gU, F.gU', F.sU, F.sU', F.gF, F.gF', F.sF', F.g0, F.g1, F.s0, F.s1, F.len, hw, stepsS, stepsT, stepsN, if_true, forall_const, ne_eq, implies_true, List.nil_append, List.append_nil, List.cons_append, List.length_cons, List.length_nil, Nat.reduceEqDiff, Nat.reduceAdd, Nat.reduceLT, Nat.reduceLeDiff, ↓reduceIte, reduceCtorEq, Int.reduceEq, Int.reduceLT]
    exact retw (F.take _ _ _ _) rfl rfl ⟨rfl, rfl⟩
  | false =>
    generalize A.n.toNat = i at *
    simp (contextual := true) (maxSteps := 1000000) only [F.gU, F.gU', F.sU, F.sU', F.gF, F.gF', F.sF', F.g0, F.g1, F.s0, F.s1, F.len, hw, Bool.false_eq_true, gd_T0, gd_T1, gd_T2, un_arr', hnn, idx_arr, hlt, hlN, storeL hlt, stepsS, stepsT, stepsN, if_true, forall_const, ne_eq, implies_true, List.nil_append, List.append_nil, List.cons_append, List.length_cons, List.length_nil, Nat.reduceEqDiff, Nat.reduceAdd, Nat.reduceLT, Nat.reduceLeDiff, ↓reduceIte, reduceCtorEq, Int.reduceEq, Int.reduceLT]
    exact retw (F.take _ _ _ _) rfl rfl ⟨rfl, rfl⟩
theorem rest55_vb (w : Wf l N) (fA : fine N A) (fB : fine N B) (hA : ¬ A.k = 1) (hB : B.k = 1) : swp Try.prog n rest55 [(0, .ptr pu 0), (4, .ptr n 0), (5, .ptr (n + 1) 0)] (S l c o ++ [.cells A.av.cells, .cells B.av.cells]) (Q55 S n (prB N rec A B (l, c, o))) := by
  have e : prB N rec A B (l, c, o) = bindP N B A (l, c, o) := by
    rw [prB, if_neg (by omega), if_pos (by omega), sw, if_pos (by omega)]
  rw [e]
  unfold Q55
  simp only [rest55, IR.tl, ir55]
  simp (contextual := true) (maxSteps := 1000000) only [F.gU, F.gU', F.sU, F.sU', F.gF, F.gF', F.sF', F.g0, F.g1, F.s0, F.s1, F.len, gd_T0, gd_T1, gd_T2, hA, hB, sp_TT, stepsS, stepsT, stepsN, if_true, forall_const, ne_eq, implies_true, List.nil_append, List.append_nil, List.cons_append, List.length_cons, List.length_nil, Nat.reduceEqDiff, Nat.reduceAdd, Nat.reduceLT, Nat.reduceLeDiff, ↓reduceIte, reduceCtorEq, Int.reduceEq, Int.reduceLT]
  refine scall_to (within55 F w B A fB fA) ?_
  rintro r H' ⟨rfl, E, rfl⟩
  have hn := fine_n fB hB
  have hnn : B.n = ((B.n.toNat : Nat) : Int) := by omega
  have hlt : B.n.toNat < l.length := by rw [w.len]; omega
  have hlN : B.n.toNat < N := by omega
  unfold bindP
  cases hw : (wF l B.n (N + 1) A []).1 with
  | true =>
    simp (contextual := true) (maxSteps := 1000000) only [F.gU, F.gU', F.sU, F.sU', F.gF, F.gF', F.sF', F.g0, F.g1, F.s0, F.s1, F.len, hw, stepsS, stepsT, stepsN, if_true, forall_const, ne_eq, implies_true, List.nil_append, List.append_nil, List.cons_append, List.length_cons, List.length_nil, Nat.reduceEqDiff, Nat.reduceAdd, Nat.reduceLT, Nat.reduceLeDiff, ↓reduceIte, reduceCtorEq, Int.reduceEq, Int.reduceLT]
    exact retw (F.take _ _ _ _) rfl rfl ⟨rfl, rfl⟩
  | false =>
    generalize B.n.toNat = i at *
    simp (contextual := true) (maxSteps := 1000000) only [F.gU, F.gU', F.sU, F.sU', F.gF, F.gF', F.sF', F.g0, F.g1, F.s0, F.s1, F.len, hw, Bool.false_eq_true, gd_T0, gd_T1, gd_T2, un_arr', hnn, idx_arr, hlt, hlN, storeL hlt, stepsS, stepsT, stepsN, if_true, forall_const, ne_eq, implies_true, List.nil_append, List.append_nil, List.cons_append, List.length_cons, List.length_nil, Nat.reduceEqDiff, Nat.reduceAdd, Nat.reduceLT, Nat.reduceLeDiff, ↓reduceIte, reduceCtorEq, Int.reduceEq, Int.reduceLT]
    exact retw (F.take _ _ _ _) rfl rfl ⟨rfl, rfl⟩
theorem rest55_op {f : Nat} (w : Wf l N) (h0 : 0 ≤ c) (hc : c ≤ 20000) (hf : 20000 < f + c) (fA : fine N A) (fB : fine N B) (hA : ¬ A.k = 1) (hB : ¬ B.k = 1)
    (ih : ∀ (e : List AObj) (a b : T) (l : List T) (c : Int) (o : Bool), Wf l N → 0 ≤ c → c ≤ 20000 → 20000 < f + c → fine N a → fine N b → ACalls Try.prog 55 [.ptr pu 0, a.av, b.av] (S l c o ++ e) (R55 (fun l c o => S l c o ++ e) (prF N f a b (l, c, o)))) :
    swp Try.prog n rest55 [(0, .ptr pu 0), (4, .ptr n 0), (5, .ptr (n + 1) 0)] (S l c o ++ [.cells A.av.cells, .cells B.av.cells]) (Q55 S n (prB N (prF N f) A B (l, c, o))) := by
  have e : prB N (prF N f) A B (l, c, o) = if A.n = B.n ∧ A.l.length = B.l.length then prS (prF N f) A.l B.l (l, c, o) else (false, (l, c, o)) := by
    rw [prB, if_neg (fun h => hA h.1), if_neg (fun h => h.elim hA hB)]
  by_cases hn : A.n = B.n
  · by_cases hl : A.l.length = B.l.length
    · rw [if_pos ⟨hn, hl⟩] at e
      rw [e]
      unfold Q55
      simp only [rest55, IR.tl, ir55]
      have hln : ((A.l.length : Nat) : Int) = B.l.length := by omega
      have hl8 := (shaped_kids fA.1).1
      simp (contextual := true) (maxSteps := 1000000) only [F.gU, F.gU', F.sU, F.sU', F.gF, F.gF', F.sF', F.g0, F.g1, F.s0, F.s1, F.len, gd_T0, gd_T1, gd_T2, hA, hB, hn, hln, stepsS, stepsT, stepsN, if_true, forall_const, ne_eq, implies_true, List.nil_append, List.append_nil, List.cons_append, List.length_cons, List.length_nil, Nat.reduceEqDiff, Nat.reduceAdd, Nat.reduceLT, Nat.reduceLeDiff, ↓reduceIte, reduceCtorEq, Int.reduceEq, Int.reduceLT]
      intro _ _
      refine swp_loop_st A.l.length (fun i (s : U) => Wf s.1 N ∧ 0 ≤ s.2.1 ∧ s.2.1 ≤ 20000 ∧ 20000 < f + s.2.1 ∧ prS (prF N f) (A.l.drop i) (B.l.drop i) s = prS (prF N f) A.l B.l (l, c, o))
        (fun i s => [(0, .ptr pu 0), (4, .ptr n 0), (5, .ptr (n + 1) 0), (106, .int .i64 B.l.length), (107, .int .i64 i)]) (fun i s => S s.1 s.2.1 s.2.2 ++ [.cells A.av.cells, .cells B.av.cells]) (l, c, o) ⟨⟨w, h0, hc, hf, rfl⟩, sle_refl _ _ _⟩ fun i s hi hI => ?_
      obtain ⟨k1, k2, k3, k4, hI⟩ := hI
      obtain ⟨l', c', o'⟩ := s
      simp only at k1 k2 k3 k4 hI
      simp (contextual := true) (maxSteps := 1000000) only [F.gU, F.gU', F.sU, F.sU', F.gF, F.gF', F.sF', F.g0, F.g1, F.s0, F.s1, F.len, gd_T0, gd_T1, gd_T2, stepsS, stepsT, stepsN, if_true, forall_const, ne_eq, implies_true, List.nil_append, List.append_nil, List.cons_append, List.length_cons, List.length_nil, Nat.reduceEqDiff, Nat.reduceAdd, Nat.reduceLT, Nat.reduceLeDiff, ↓reduceIte, reduceCtorEq, Int.reduceEq, Int.reduceLT]
      refine ⟨fun hlt => ?_, fun hge => ?_⟩
      · have hlt2 := len_lt hlt
        have hlt : i < A.l.length := by omega
        rw [prS_drop hlt hlt2] at hI
        have fa := kids_fine fA _ (mem_getD hlt)
        have fb := kids_fine fB _ (mem_getD hlt2)
        have hcall := ih [.cells A.av.cells, .cells B.av.cells] (A.l.getD i default) (B.l.getD i default) l' c' o' k1 k2 k3 k4 fa fb
        have hg := prF_good (N := N) f (A.l.getD i default) (B.l.getD i default) (l', c', o') k1 k3 fa fb
        refine ⟨hlt, hlt2, scall_to hcall ?_⟩
        rintro r H' ⟨rfl, rfl⟩
        generalize prF N f (A.l.getD i default) (B.l.getD i default) (l', c', o') = r at *
        obtain ⟨g1, g2, g3⟩ := hg
        simp only at g2
        cases hr : r.1 with
        | false =>
          simp only [hr, Bool.false_eq_true, if_false] at hI
          simp (contextual := true) (maxSteps := 1000000) only [Bool.false_eq_true, stepsS, stepsT, stepsN, if_true, forall_const, ne_eq, implies_true, List.nil_append, List.append_nil, List.cons_append, List.length_cons, List.length_nil, Nat.reduceEqDiff, Nat.reduceAdd, Nat.reduceLT, Nat.reduceLeDiff, ↓reduceIte, reduceCtorEq, Int.reduceEq, Int.reduceLT]
          exact retw (F.take _ _ _ _) rfl rfl ⟨by rw [← hI], by rw [← hI]⟩
        | true =>
          simp only [hr, if_true] at hI
          have := g3 hr
          simp (contextual := true) (maxSteps := 1000000) only [stepsS, stepsT, stepsN, if_true, forall_const, ne_eq, implies_true, List.nil_append, List.append_nil, List.cons_append, List.length_cons, List.length_nil, Nat.reduceEqDiff, Nat.reduceAdd, Nat.reduceLT, Nat.reduceLeDiff, ↓reduceIte, reduceCtorEq, Int.reduceEq, Int.reduceLT]
          exact ⟨i + 1, r.2, ⟨hlt, g1, by omega, by omega, by omega, hI⟩, by omega, sle_eq (by rw [wrap_nat i (by omega)]) rfl⟩
      · rw [List.drop_of_length_le (by have := len_nlt hge; omega)] at hI
        simp only [prS] at hI
        exact retw (F.take _ _ _ _) rfl rfl ⟨by rw [← hI], by rw [← hI]⟩
    · rw [if_neg (fun h => hl h.2)] at e
      rw [e]
      unfold Q55
      simp only [rest55, IR.tl, ir55]
      have hln : ¬ ((A.l.length : Nat) : Int) = B.l.length := by omega
      simp (contextual := true) (maxSteps := 1000000) only [F.gU, F.gU', F.sU, F.sU', F.gF, F.gF', F.sF', F.g0, F.g1, F.s0, F.s1, F.len, gd_T0, gd_T1, gd_T2, hA, hB, hn, hln, stepsS, stepsT, stepsN, if_true, forall_const, ne_eq, implies_true, List.nil_append, List.append_nil, List.cons_append, List.length_cons, List.length_nil, Nat.reduceEqDiff, Nat.reduceAdd, Nat.reduceLT, Nat.reduceLeDiff, ↓reduceIte, reduceCtorEq, Int.reduceEq, Int.reduceLT]
      intro _ _
      exact retw (F.take _ _ _ _) rfl rfl ⟨rfl, rfl⟩
  · rw [if_neg (fun h => hn h.1)] at e
    rw [e]
    unfold Q55
    simp only [rest55, IR.tl, ir55]
    simp (contextual := true) (maxSteps := 1000000) only [F.gU, F.gU', F.sU, F.sU', F.gF, F.gF', F.sF', F.g0, F.g1, F.s0, F.s1, F.len, gd_T0, gd_T1, gd_T2, hA, hB, hn, stepsS, stepsT, stepsN, if_true, forall_const, ne_eq, implies_true, List.nil_append, List.append_nil, List.cons_append, List.length_cons, List.length_nil, Nat.reduceEqDiff, Nat.reduceAdd, Nat.reduceLT, Nat.reduceLeDiff, ↓reduceIte, reduceCtorEq, Int.reduceEq, Int.reduceLT]
    exact retw (F.take _ _ _ _) rfl rfl ⟨rfl, rfl⟩
end
theorem c55 {pu idf N : Nat} : ∀ (f : Nat) (n : Nat) (S : List T → Int → Bool → List AObj), UF S pu idf N n → ∀ (a b : T) (l : List T) (c : Int) (o : Bool), Wf l N → 0 ≤ c → c ≤ 20000 → 20000 < f + c → fine N a → fine N b →
    ACalls Try.prog 55 [.ptr pu 0, a.av, b.av] (S l c o) (R55 S (prF N f a b (l, c, o)))
  | 0, n, S, F, a, b, l, c, o, w, hc0, hc, hf, ha, hb => by omega
  | f + 1, n, S, F, a, b, l, c, o, w, hc0, hc, hf, ha, hb => by
    have ih := fun (e : List AObj) => c55 (pu := pu) (idf := idf) (N := N) f _ _ (F.app e)
    have hU := F.ltU
    have hF := F.ltF
    have w1 : IntKind.i64.wrap (c + 1) = c + 1 := wrap_in _ (by omega)
    refine ok55.calls (by simp [fi55]) ?_
    rw [F.len]
    simp only [fi55]
    rw [ir55_eq]
    simp only [IR.hd, IR.tl, ir55]
    by_cases hover : 20000 < c + 1
    · have ep : prF N (f + 1) a b (l, c, o) = (false, (l, c + 1, true)) := by rw [prF, if_pos hover]
      rw [ep]
      simp (contextual := true) (maxSteps := 1000000) only [F.gU, F.gU', F.sU, F.sU', F.gF, F.gF', F.sF', F.g0, F.g1, F.s0, F.s1, F.len, w1, hover, stepsS, stepsT, stepsN, if_true, forall_const, ne_eq, implies_true, List.nil_append, List.append_nil, List.cons_append, List.length_cons, List.length_nil, Nat.reduceEqDiff, Nat.reduceAdd, Nat.reduceLT, Nat.reduceLeDiff, ↓reduceIte, reduceCtorEq, Int.reduceEq, Int.reduceLT]
      exact retw (F.take _ _ _ _) rfl rfl ⟨rfl, rfl⟩
    · have ep : prF N (f + 1) a b (l, c, o) = prB N (prF N f) (look l a) (look l b) (l, c + 1, o) := by rw [prF, if_neg hover]
      rw [ep]
      simp (contextual := true) (maxSteps := 1000000) only [F.gU, F.gU', F.sU, F.sU', F.gF, F.gF', F.sF', F.g0, F.g1, F.s0, F.s1, F.len, w1, stepsS, stepsT, stepsN, if_true, forall_const, ne_eq, implies_true, List.nil_append, List.append_nil, List.cons_append, List.length_cons, List.length_nil, Nat.reduceEqDiff, Nat.reduceAdd, Nat.reduceLT, Nat.reduceLeDiff, ↓reduceIte, reduceCtorEq, Int.reduceEq, Int.reduceLT]
      refine ⟨fun h => absurd h hover, fun _ => dcall_at (c94 (F.app _) w (c + 1) o a (fine_n ha)) ?_⟩
      simp (contextual := true) (maxSteps := 1000000) only [F.gU, F.gU', F.sU, F.sU', F.gF, F.gF', F.sF', F.g0, F.g1, F.s0, F.s1, F.len, stepsS, stepsT, stepsN, if_true, forall_const, ne_eq, implies_true, List.nil_append, List.append_nil, List.cons_append, List.length_cons, List.length_nil, Nat.reduceEqDiff, Nat.reduceAdd, Nat.reduceLT, Nat.reduceLeDiff, ↓reduceIte, reduceCtorEq, Int.reduceEq, Int.reduceLT]
      refine dcall_at (c94 (F.app _) w (c + 1) o b (fine_n hb)) ?_
      simp (contextual := true) (maxSteps := 1000000) only [F.gU, F.gU', F.sU, F.sU', F.gF, F.gF', F.sF', F.g0, F.g1, F.s0, F.s1, F.len, sp_TT, stepsS, stepsT, stepsN, if_true, forall_const, ne_eq, implies_true, List.nil_append, List.append_nil, List.cons_append, List.length_cons, List.length_nil, Nat.reduceEqDiff, Nat.reduceAdd, Nat.reduceLT, Nat.reduceLeDiff, ↓reduceIte, reduceCtorEq, Int.reduceEq, Int.reduceLT]
      have fA := look_fine w ha
      have fB := look_fine w hb
      have eA := look_end w ha
      have eB := look_end w hb
      generalize look l a = A at *
      generalize look l b = B at *
      have hend : swp Try.prog n rest55 [(0, .ptr pu 0), (4, .ptr n 0), (5, .ptr (n + 1) 0)] (S l (c + 1) o ++ [.cells A.av.cells, .cells B.av.cells]) (Q55 S n (prB N (prF N f) A B (l, c + 1, o))) := by
        by_cases hA : A.k = 1
        · by_cases hB : B.k = 1
          · rcases Int.lt_trichotomy A.n B.n with h | h | h
            · exact rest55_lt F w fA fB hA hB h
            · exact rest55_eq F hA hB h
            · exact rest55_gt F w fA fB hA hB h
          · exact rest55_va F w fA fB hA hB
        · by_cases hB : B.k = 1
          · exact rest55_vb F w fA fB hA hB
          · exact rest55_op F w (by omega) (by omega) (by omega) fA fB hA hB ih
      unfold Q55 at hend
      exact hend
end Go.Abs
