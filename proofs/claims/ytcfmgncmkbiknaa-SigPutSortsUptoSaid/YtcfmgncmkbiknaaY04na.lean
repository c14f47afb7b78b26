/- A unifier's memory; look. -/
import Derived.Test.YtcfmgncmkbiknaaY04me
set_option maxRecDepth 100000
set_option linter.unusedSimpArgs false
set_option linter.unusedVariables false
namespace Go.Abs
open Go Go.Proofs
/-- Lists of objects, told by a unifier: what was found, how many pairs, whether there were too many. -/
structure UF (S : List T → Int → Bool → List AObj) (pu idf N n : Nat) : Prop where
  gU : ∀ l c o, (S l c o)[pu]? = some (.cells [.arr idf 0 N N, .int .i64 c, .bool o])
  sU : ∀ l c o c' o', (S l c o).set pu (.cells [.arr idf 0 N N, .int .i64 c', .bool o']) = S l c' o'
  gF : ∀ l c o, (S l c o)[idf]? = some (objL l)
  sF : ∀ l c o l', (S l c o).set idf (objL l') = S l' c o
  len : ∀ l c o, (S l c o).length = n
namespace UF
variable {S : List T → Int → Bool → List AObj} {pu idf N n : Nat} (F : UF S pu idf N n)
include F
theorem ltU : pu < n := by
  have := F.gU [] 0 false
  rw [← F.len [] 0 false]
  exact (List.getElem?_eq_some_iff.1 this).1
theorem ltF : idf < n := by
  have := F.gF [] 0 false
  rw [← F.len [] 0 false]
  exact (List.getElem?_eq_some_iff.1 this).1
theorem gU' (l : List T) (c : Int) (o : Bool) (e : List AObj) : (S l c o ++ e)[pu]? = some (.cells [.arr idf 0 N N, .int .i64 c, .bool o]) := by
  rw [List.getElem?_append_left (by rw [F.len]; exact F.ltU)]; exact F.gU l c o
theorem gF' (l : List T) (c : Int) (o : Bool) (e : List AObj) : (S l c o ++ e)[idf]? = some (objL l) := by
  rw [List.getElem?_append_left (by rw [F.len]; exact F.ltF)]; exact F.gF l c o
theorem sU' (l : List T) (c : Int) (o : Bool) (c' : Int) (o' : Bool) (e : List AObj) : (S l c o ++ e).set pu (.cells [.arr idf 0 N N, .int .i64 c', .bool o']) = S l c' o' ++ e := by
  rw [List.set_append_left _ _ (by rw [F.len]; exact F.ltU), F.sU]
theorem sF' (l : List T) (c : Int) (o : Bool) (l' : List T) (e : List AObj) : (S l c o ++ e).set idf (objL l') = S l' c o ++ e := by
  rw [List.set_append_left _ _ (by rw [F.len]; exact F.ltF), F.sF]
theorem g0 (l : List T) (c : Int) (o : Bool) (e : List AObj) : (S l c o ++ e)[n]? = e[0]? := by rw [← F.len l c o]; exact ga0 _ _
theorem g1 (l : List T) (c : Int) (o : Bool) (e : List AObj) (i : Nat) : (S l c o ++ e)[n + i]? = e[i]? := by rw [← F.len l c o]; exact ga _ _ _
theorem s0 (l : List T) (c : Int) (o : Bool) (e : List AObj) (x : AObj) : (S l c o ++ e).set n x = S l c o ++ e.set 0 x := by rw [← F.len l c o]; exact sa0 _ _ _
theorem s1 (l : List T) (c : Int) (o : Bool) (e : List AObj) (i : Nat) (x : AObj) : (S l c o ++ e).set (n + i) x = S l c o ++ e.set i x := by rw [← F.len l c o]; exact sa _ _ _ _
theorem take0 (l : List T) (c : Int) (o : Bool) : (S l c o).take n = S l c o := by rw [← F.len l c o]; simp
theorem take (l : List T) (c : Int) (o : Bool) (e : List AObj) : (S l c o ++ e).take n = S l c o := by rw [← F.len l c o]; simp
theorem app (e : List AObj) : UF (fun l c o => S l c o ++ e) pu idf N (n + e.length) :=
  ⟨fun l c o => F.gU' l c o e, fun l c o c' o' => F.sU' l c o c' o' e, fun l c o => F.gF' l c o e, fun l c o l' => F.sF' l c o l' e, fun l c o => by simp [F.len]⟩
end UF
/-- What was found is in order. -/
structure Wf (l : List T) (N : Nat) : Prop where
  len : l.length = N
  shp : ∀ i, (l.getD i default).k ≠ 0 → (l.getD i default).shaped = true
  fv : ∀ i, (l.getD i default).k ≠ 0 → ∀ v ∈ (l.getD i default).fv, v < (N : Int)
  dec : ∀ i : Nat, (l.getD i default).k = 1 → (l.getD i default).n < (i : Int)
def lookN : Nat → List T → T → T
  | 0, _, t => t
  | f + 1, l, t => if t.k = 1 ∧ (l.getD t.n.toNat default).k ≠ 0 then lookN f l (l.getD t.n.toNat default) else t
/-- How far a variable can be followed. -/
def far (t : T) : Nat := if t.k = 1 then t.n.toNat + 1 else 0
def look (l : List T) (t : T) : T := lookN (far t) l t
theorem lookN_more {l : List T} {N : Nat} (w : Wf l N) : ∀ (f : Nat) (t : T), far t ≤ f → (t.k = 1 → 0 ≤ t.n) → lookN f l t = look l t := by
  have key : ∀ (m : Nat) (f : Nat) (t : T), far t ≤ m → far t ≤ f → (t.k = 1 → 0 ≤ t.n) → lookN f l t = lookN (far t) l t := by
    intro m
    induction m with
    | zero =>
      intro f t hm hf h0
      have hk : t.k ≠ 1 := fun h => by simp [far, h] at hm
      have e0 : far t = 0 := by simp [far, hk]
      rw [e0]
      cases f with
      | zero => rfl
      | succ f => simp only [lookN]; rw [if_neg (fun h => hk h.1)]
    | succ m ih =>
      intro f t hm hf h0
      by_cases hk : t.k = 1
      · have e1 : far t = t.n.toNat + 1 := by simp [far, hk]
        rw [e1] at hf hm ⊢
        cases f with
        | zero => omega
        | succ f =>
          simp only [lookN]
          by_cases hz : (l.getD t.n.toNat default).k ≠ 0
          · rw [if_pos ⟨hk, hz⟩, if_pos ⟨hk, hz⟩]
            have hx0 : (l.getD t.n.toNat default).k = 1 → 0 ≤ (l.getD t.n.toNat default).n := fun h => by
              have hs := w.shp _ hz
              exact fv_shaped _ hs _ (by cases hx : l.getD t.n.toNat default with | mk k n q => rw [hx] at h; simp only [T.k] at h; simp [T.fv, T.n, h])
            have hfx : far (l.getD t.n.toNat default) ≤ t.n.toNat := by
              by_cases hx : (l.getD t.n.toNat default).k = 1
              · have := w.dec _ hx
                have := hx0 hx
                have := h0 hk
                simp only [far, hx, if_true]; omega
              · simp only [far, if_neg hx]; omega
            rw [ih f _ (by omega) (by omega) hx0, ih t.n.toNat _ (by omega) hfx hx0]
          · rw [if_neg (fun h => hz h.2), if_neg (fun h => hz h.2)]
      · have e0 : far t = 0 := by simp [far, hk]
        rw [e0]
        cases f with
        | zero => rfl
        | succ f => simp only [lookN]; rw [if_neg (fun h => hk h.1)]
  intro f t hf h0
  exact key _ f t (Nat.le_refl _) hf h0
theorem wf_n {l : List T} {N : Nat} (w : Wf l N) {i : Nat} (h : (l.getD i default).k = 1) : 0 ≤ (l.getD i default).n ∧ (l.getD i default).n < (N : Int) := by
  have hz : (l.getD i default).k ≠ 0 := by omega
  have hs := w.shp _ hz
  have hm : (l.getD i default).n ∈ (l.getD i default).fv := by
    cases hx : l.getD i default with
    | mk k n q => rw [hx] at h; simp only [T.k] at h; simp [T.fv, T.n, h]
  exact ⟨fv_shaped _ hs _ hm, w.fv _ hz _ hm⟩
/-- A step of look. -/
theorem look_step {l : List T} {N : Nat} (w : Wf l N) {t : T} (hk : t.k = 1) (h0 : 0 ≤ t.n) (hz : (l.getD t.n.toNat default).k ≠ 0) :
    look l t = look l (l.getD t.n.toNat default) ∧ far (l.getD t.n.toNat default) < far t := by
  have hf : far (l.getD t.n.toNat default) < far t := by
    have e1 : far t = t.n.toNat + 1 := by simp [far, hk]
    rw [e1]
    by_cases hx : (l.getD t.n.toNat default).k = 1
    · have := w.dec _ hx
      have := wf_n w hx
      simp only [far, hx, if_true]; omega
    · simp only [far, if_neg hx]; omega
  refine ⟨?_, hf⟩
  have e1 : far t = t.n.toNat + 1 := by simp [far, hk]
  have : look l t = lookN (t.n.toNat + 1) l t := by rw [look, e1]
  rw [this]
  simp only [lookN]
  rw [if_pos ⟨hk, hz⟩]
  exact lookN_more w _ _ (by omega) fun h => (wf_n w h).1
theorem look_stop {l : List T} {t : T} (h : ¬ (t.k = 1 ∧ (l.getD t.n.toNat default).k ≠ 0)) : look l t = t := by
  unfold look
  cases far t with
  | zero => rfl
  | succ f => simp only [lookN]; rw [if_neg h]
theorem c94 {S : List T → Int → Bool → List AObj} {pu idf N n : Nat} (F : UF S pu idf N n) {l : List T} (w : Wf l N) (c : Int) (o : Bool) (t : T) (ht : t.k = 1 → 0 ≤ t.n ∧ t.n < (N : Int)) :
    ACalls Try.prog 94 [.ptr pu 0, t.av] (S l c o) fun r H' => r = (look l t).av ∧ H' = S l c o := by
  have hU := F.ltU
  have hF := F.ltF
  refine ok94.calls (by simp [fi94]) ?_
  rw [F.len]
  simp only [fi94, ir94]
  simp (contextual := true) (maxSteps := 1000000) only [F.gU, F.gU', F.gF, F.gF', F.g0, F.g1, F.s0, F.s1, F.len, stepsS, stepsT, stepsN, if_true, forall_const, ne_eq, implies_true, List.nil_append, List.append_nil, List.cons_append, List.length_cons, List.length_nil, Nat.reduceEqDiff, Nat.reduceAdd, Nat.reduceLT, Nat.reduceLeDiff, ↓reduceIte, reduceCtorEq, Int.reduceEq, Int.reduceLT]
  refine ⟨T, fun s => (s.k = 1 → 0 ≤ s.n ∧ s.n < (N : Int)) ∧ look l s = look l t, fun s => [(0, .ptr pu 0), (3, .ptr n 0), (4, .ptr (n + 1) 0)], fun s => S l c o ++ [.cells s.av.cells, .cells [.int .i64 0, .int .i64 0, .nils]], far, ⟨t, ⟨ht, rfl⟩, sle_refl _ _ _⟩, fun s hs => ?_⟩
  obtain ⟨h1, h2⟩ := hs
  by_cases hk : s.k = 1
  · have hn := h1 hk
    have hnn : s.n = ((s.n.toNat : Nat) : Int) := by omega
    have hst := look_step w hk hn.1
    have hsp := look_stop (l := l) (t := s)
    have hlt : s.n.toNat < l.length := by rw [w.len]; omega
    have hlN : s.n.toNat < N := by omega
    generalize s.n.toNat = i at *
    simp (contextual := true) (maxSteps := 1000000) only [hk, hnn, gd_T0, gd_T1, F.gU, F.gU', F.gF, F.gF', F.g0, F.g1, F.s0, F.s1, F.len, un_arr', idx_arr, hlt, hlN, Nat.add_zero, loadL0 hlt, loadL3 hlt, stepsS, stepsT, stepsN, if_true, forall_const, ne_eq, implies_true, List.nil_append, List.append_nil, List.cons_append, List.length_cons, List.length_nil, Nat.reduceEqDiff, Nat.reduceAdd, Nat.reduceLT, Nat.reduceLeDiff, ↓reduceIte, reduceCtorEq, Int.reduceEq, Int.reduceLT]
    refine ⟨fun hz => ?_, fun hz => ?_⟩
    · have h3 := hst hz
      have e3 : asplice s.av.cells 0 (l.getD i default).av.cells = (l.getD i default).av.cells := sp_TT _ _
      rw [e3]
      exact ⟨l.getD i default, ⟨fun h => wf_n w h, by rw [← h3.1]; exact h2⟩, h3.2, sle_refl _ _ _⟩
    · exact ret1w (F.take _ _ _ _) (T.av_blw _ _) rfl ⟨by rw [← h2, hsp (fun h => h.2 hz)], rfl⟩
  · simp (contextual := true) (maxSteps := 1000000) only [hk, gd_T0, gd_T1, F.gU, F.gU', F.gF, F.gF', F.g0, F.g1, F.s0, F.s1, F.len, un_arr', idx_arr, Nat.add_zero, stepsS, stepsT, stepsN, if_true, forall_const, ne_eq, implies_true, List.nil_append, List.append_nil, List.cons_append, List.length_cons, List.length_nil, Nat.reduceEqDiff, Nat.reduceAdd, Nat.reduceLT, Nat.reduceLeDiff, ↓reduceIte, reduceCtorEq, Int.reduceEq, Int.reduceLT]
    exact ret1w (F.take _ _ _ _) (T.av_blw _ _) rfl ⟨by rw [← h2, look_stop (fun h => hk h.1)], rfl⟩
end Go.Abs
