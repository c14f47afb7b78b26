/- within. -/
import Derived.Test.YtcfmgncmkbiknaaY04na
set_option maxRecDepth 100000
set_option linter.unusedSimpArgs false
set_option linter.unusedVariables false
namespace Go.Abs
open Go Go.Proofs
mutual
def wT (l : List T) (v : Int) (rec : T → List Int → Bool × List Int) : T → List Int → Bool × List Int
  | .mk k n ts, seen =>
    if k = 1 then (if n = v then (true, seen) else if n ∈ seen ∨ (l.getD n.toNat default).k = 0 then (false, seen) else rec (l.getD n.toNat default) (seen ++ [n]))
    else wTs l v rec ts seen
def wTs (l : List T) (v : Int) (rec : T → List Int → Bool × List Int) : List T → List Int → Bool × List Int
  | [], seen => (false, seen)
  | t :: ts, seen => (fun r : Bool × List Int => if r.1 = true then (true, r.2) else wTs l v rec ts r.2) (wT l v rec t seen)
end
/-- Whether v occurs in a tree, with everything put in; and what was looked at. -/
def wF (l : List T) (v : Int) : Nat → T → List Int → Bool × List Int
  | 0 => fun _ seen => (false, seen)
  | f + 1 => wT l v (wF l v f)
theorem wT_eq (l : List T) (v : Int) (rec : T → List Int → Bool × List Int) (t : T) (seen : List Int) : wT l v rec t seen =
    if t.k = 1 then (if t.n = v then (true, seen) else if t.n ∈ seen ∨ (l.getD t.n.toNat default).k = 0 then (false, seen) else rec (l.getD t.n.toNat default) (seen ++ [t.n]))
    else wTs l v rec t.l seen := by cases t; rw [wT]; rfl
theorem wTs_drop {l : List T} {v : Int} {rec : T → List Int → Bool × List Int} {ts : List T} {i : Nat} (h : i < ts.length) (seen : List Int) :
    wTs l v rec (ts.drop i) seen = (fun r : Bool × List Int => if r.1 = true then (true, r.2) else wTs l v rec (ts.drop (i + 1)) r.2) (wT l v rec (ts.getD i default) seen) := by
  rw [List.drop_eq_getElem_cons h, wTs]
  have e : ts.getD i default = ts[i] := by simp [h]
  rw [e]
/-- The list of what was looked at: in order. -/
def seenOk (N : Nat) (seen : List Int) : Prop := seen.Nodup ∧ ∀ v ∈ seen, 0 ≤ v ∧ v < (N : Int)
theorem seen_len : ∀ (N : Nat) (seen : List Int), seenOk N seen → seen.length ≤ N
  | 0, [], _ => Nat.le_refl _
  | 0, v :: r, h => by have := h.2 v (by simp); omega
  | N + 1, seen, h => by
    by_cases hm : (N : Int) ∈ seen
    · have h1 := seen_len N (seen.erase (N : Int)) ⟨h.1.erase _, fun v hv => by
        have h2 := (List.Nodup.mem_erase_iff h.1).1 hv
        have := h.2 v h2.2
        have := h2.1
        omega⟩
      rw [List.length_erase_of_mem hm] at h1
      omega
    · have h1 := seen_len N seen ⟨h.1, fun v hv => by
        have := h.2 v hv
        have : v ≠ (N : Int) := fun e => hm (e ▸ hv)
        omega⟩
      omega
theorem seen_snoc {N : Nat} {seen : List Int} (h : seenOk N seen) {n : Int} (hn : n ∉ seen) (h0 : 0 ≤ n ∧ n < (N : Int)) : seenOk N (seen ++ [n]) := by
  refine ⟨?_, fun v hv => ?_⟩
  · rw [List.nodup_append]
    refine ⟨h.1, by simp, fun a ha b hb => ?_⟩
    simp only [List.mem_cons, List.not_mem_nil, or_false] at hb
    subst hb
    intro e; subst e; exact hn ha
  · rcases List.mem_append.1 hv with hv | hv
    · exact h.2 v hv
    · simp only [List.mem_cons, List.not_mem_nil, or_false] at hv
      subst hv; exact h0
mutual
theorem wT_ok {l : List T} {N : Nat} {v : Int} {rec : T → List Int → Bool × List Int} (hr : ∀ (i : Nat) (seen : List Int), (l.getD i default).k ≠ 0 → seenOk N seen → seenOk N (rec (l.getD i default) seen).2 ∧ seen.length ≤ (rec (l.getD i default) seen).2.length) :
    ∀ (t : T) (seen : List Int), t.shaped = true → (∀ v ∈ t.fv, v < (N : Int)) → seenOk N seen → seenOk N (wT l v rec t seen).2 ∧ seen.length ≤ (wT l v rec t seen).2.length
  | .mk k n ts, seen, hs, hv, h => by
    simp only [wT]
    by_cases hk : k = 1
    · rw [if_pos hk]
      have hm : n ∈ (T.mk k n ts).fv := by simp [T.fv, hk]
      have h0 := fv_shaped _ hs n hm
      have h1 := hv n hm
      split
      · exact ⟨h, Nat.le_refl _⟩
      · split
        · exact ⟨h, Nat.le_refl _⟩
        · rename_i hc
          have := hr n.toNat (seen ++ [n]) (fun e => hc (.inr e)) (seen_snoc h (fun e => hc (.inl e)) ⟨h0, h1⟩)
          refine ⟨this.1, ?_⟩
          have h2 := this.2
          rw [List.length_append] at h2
          omega
    · rw [if_neg hk]
      simp only [T.fv, if_neg hk] at hv
      exact wTs_ok hr ts seen (shaped_sub hs) hv h
theorem wTs_ok {l : List T} {N : Nat} {v : Int} {rec : T → List Int → Bool × List Int} (hr : ∀ (i : Nat) (seen : List Int), (l.getD i default).k ≠ 0 → seenOk N seen → seenOk N (rec (l.getD i default) seen).2 ∧ seen.length ≤ (rec (l.getD i default) seen).2.length) :
    ∀ (ts : List T) (seen : List Int), shapeds ts = true → (∀ v ∈ fvs ts, v < (N : Int)) → seenOk N seen → seenOk N (wTs l v rec ts seen).2 ∧ seen.length ≤ (wTs l v rec ts seen).2.length
  | [], seen, _, _, h => by simp only [wTs]; exact ⟨h, Nat.le_refl _⟩
  | t :: ts, seen, hs, hv, h => by
    simp only [shapeds, Bool.and_eq_true] at hs
    simp only [fvs, List.mem_append] at hv
    have h1 := wT_ok hr (v := v) t seen hs.1 (fun v h => hv v (.inl h)) h
    simp only [wTs]
    split
    · exact h1
    · have h2 := wTs_ok hr (v := v) ts _ hs.2 (fun v h => hv v (.inr h)) h1.1
      exact ⟨h2.1, by omega⟩
end
theorem wF_ok {l : List T} {N : Nat} (w : Wf l N) (v : Int) : ∀ (f : Nat) (t : T) (seen : List Int), t.shaped = true → (∀ v ∈ t.fv, v < (N : Int)) → seenOk N seen → seenOk N (wF l v f t seen).2 ∧ seen.length ≤ (wF l v f t seen).2.length
  | 0, _, _, _, _, h => ⟨h, Nat.le_refl _⟩
  | f + 1, t, seen, hs, hv, h => wT_ok (fun i seen hi h => wF_ok w v f _ seen (w.shp i hi) (w.fv i hi) h) t seen hs hv h
/-- An object that holds what was looked at. -/
def mapO (seen : List Int) : AObj := .map (ents seen)
theorem c95 {S : List Int → List AObj} {pm pu idf N n : Nat} {l : List T} {c : Int} {o : Bool} (F : Fam S pm mapO n) (hU : ∀ s, (S s)[pu]? = some (.cells [.arr idf 0 N N, .int .i64 c, .bool o])) (hF : ∀ s, (S s)[idf]? = some (objL l)) (w : Wf l N) (v : Int)
    : ∀ (f : Nat) (t : T) (seen : List Int), N < f + seen.length → t.shaped = true → (∀ v ∈ t.fv, v < (N : Int)) → seenOk N seen →
    ACalls Try.prog 95 [.ptr pu 0, .int .i64 v, t.av, .map pm] (S seen) fun r H' => r = .bool (wF l v f t seen).1 ∧ H' = S (wF l v f t seen).2
  | 0, _, seen, hlt, _, _, h => by have := seen_len N seen h; omega
  | f + 1, t, seen, hlt, hs, hv, h => by
    have ih : ∀ (t : T) (seen : List Int), N < f + seen.length → t.shaped = true → (∀ v ∈ t.fv, v < (N : Int)) → seenOk N seen →
        ACalls Try.prog 95 [.ptr pu 0, .int .i64 v, t.av, .map pm] (S seen) fun r H' => r = .bool (wF l v f t seen).1 ∧ H' = S (wF l v f t seen).2 :=
      fun t seen a b c d => c95 F hU hF w v f t seen a b c d
    have hkids := shaped_kids hs
    have ihc : ∀ y ∈ t.l, ∀ (seen : List Int), N < f + 1 + seen.length → (∀ v ∈ y.fv, v < (N : Int)) → seenOk N seen →
        ACalls Try.prog 95 [.ptr pu 0, .int .i64 v, y.av, .map pm] (S seen) fun r H' => r = .bool (wT l v (wF l v f) y seen).1 ∧ H' = S (wT l v (wF l v f) y seen).2 :=
      fun y hy seen a b c => c95 F hU hF w v (f + 1) y seen a (hkids.2 y hy) b c
    show ACalls Try.prog 95 [.ptr pu 0, .int .i64 v, t.av, .map pm] (S seen) fun r H' => r = .bool (wT l v (wF l v f) t seen).1 ∧ H' = S (wT l v (wF l v f) t seen).2
    have hpm := F.lt seen
    have fg : ∀ s, (S s)[pm]? = some (.map (ents s)) := F.get
    have fs : ∀ s s', (S s).set pm (.map (ents s')) = S s' := F.set
    have e := wT_eq l v (wF l v f) t seen
    rw [e]
    refine ok95.calls (by simp [fi95]) ?_
    rw [F.len]
    simp only [fi95, ir95]
    by_cases hk : t.k = 1
    · have hn : t.n ∈ t.fv := by cases t; simp only [T.k] at hk; simp [T.fv, T.n, hk]
      have hn0 := fv_shaped t hs _ hn
      have hn1 := hv _ hn
      have hnn : t.n = ((t.n.toNat : Nat) : Int) := by omega
      have hll : t.n.toNat < l.length := by rw [w.len]; omega
      have hlN : t.n.toNat < N := by omega
      have hsn := fun hc => seen_snoc h (n := t.n) hc ⟨hn0, hn1⟩
      rw [if_pos hk]
      generalize t.n.toNat = i at *
      rw [hnn] at hsn ⊢
      simp (contextual := true) (maxSteps := 1000000) only [hk, hnn, hU, hF, fg, fs, un_arr', idx_arr, hll, hlN, Nat.add_zero, loadL0 hll, loadL3 hll, lk_ents, stepsS, stepsT, stepsN, if_true, forall_const, ne_eq, implies_true, List.nil_append, List.append_nil, List.cons_append, List.length_cons, List.length_nil, Nat.reduceEqDiff, Nat.reduceAdd, Nat.reduceLT, Nat.reduceLeDiff, ↓reduceIte, reduceCtorEq, Int.reduceEq, Int.reduceLT]
      refine ⟨fun hvv => ?_, fun hvv => ⟨fun hns => ⟨fun h0 => ?_, fun h0 => ?_⟩, fun hin => ?_⟩⟩
      · exact retw (F.take0 _) rfl rfl ⟨by rw [if_pos hvv], by rw [if_pos hvv]⟩
      · exact retw (F.take0 _) rfl rfl ⟨by rw [if_neg hvv, if_pos (.inr h0)], by rw [if_neg hvv, if_pos (.inr h0)]⟩
      · rw [ms_ents hns, if_neg hvv, if_neg (fun h => h.elim hns h0)]
        simp (contextual := true) (maxSteps := 1000000) only [hnn, hU, hF, fg, fs, un_arr', idx_arr, hll, hlN, Nat.add_zero, loadL0 hll, loadL3 hll, stepsS, stepsT, stepsN, if_true, forall_const, ne_eq, implies_true, List.nil_append, List.append_nil, List.cons_append, List.length_cons, List.length_nil, Nat.reduceEqDiff, Nat.reduceAdd, Nat.reduceLT, Nat.reduceLeDiff, ↓reduceIte, reduceCtorEq, Int.reduceEq, Int.reduceLT]
        refine scall_to (ih (l.getD i default) (seen ++ [(i : Int)]) (by simp; omega) (w.shp _ h0) (w.fv _ h0) (hsn hns)) ?_
        rintro r H' ⟨rfl, rfl⟩
        simp (contextual := true) (maxSteps := 1000000) only [stepsS, stepsT, stepsN, if_true, forall_const, ne_eq, implies_true, List.nil_append, List.append_nil, List.cons_append, List.length_cons, List.length_nil, Nat.reduceEqDiff, Nat.reduceAdd, Nat.reduceLT, Nat.reduceLeDiff, ↓reduceIte, reduceCtorEq, Int.reduceEq, Int.reduceLT]
        exact retw (F.take0 _) rfl rfl ⟨rfl, rfl⟩
      · exact retw (F.take0 _) rfl rfl ⟨by rw [if_neg hvv, if_pos (.inl hin)], by rw [if_neg hvv, if_pos (.inl hin)]⟩
    · rw [if_neg hk]
      simp (contextual := true) (maxSteps := 1000000) only [hk, hU, hF, fg, fs, stepsS, stepsT, stepsN, if_true, forall_const, ne_eq, implies_true, List.nil_append, List.append_nil, List.cons_append, List.length_cons, List.length_nil, Nat.reduceEqDiff, Nat.reduceAdd, Nat.reduceLT, Nat.reduceLeDiff, ↓reduceIte, reduceCtorEq, Int.reduceEq, Int.reduceLT]
      intro _
      refine swp_loop_st t.l.length (fun i (s : List Int) => seen.length ≤ s.length ∧ seenOk N s ∧ wTs l v (wF l v f) (t.l.drop i) s = wTs l v (wF l v f) t.l seen)
        (fun i s => [(0, .ptr pu 0), (1, .int .i64 v), (3, .map pm), (50, .lst 0 (avs t.l)), (51, .int .i64 t.l.length), (52, .int .i64 i)]) (fun i s => S s) seen ⟨⟨Nat.le_refl _, h, rfl⟩, sle_refl _ _ _⟩ fun i s hi hI => ?_
      obtain ⟨k1, k2, hI⟩ := hI
      simp (contextual := true) (maxSteps := 1000000) only [stepsS, stepsT, stepsN, if_true, forall_const, ne_eq, implies_true, List.nil_append, List.append_nil, List.cons_append, List.length_cons, List.length_nil, Nat.reduceEqDiff, Nat.reduceAdd, Nat.reduceLT, Nat.reduceLeDiff, ↓reduceIte, reduceCtorEq, Int.reduceEq, Int.reduceLT]
      refine ⟨fun hlt => ?_, fun hge => ?_⟩
      · have hlt := len_lt hlt
        rw [wTs_drop hlt] at hI
        have hfv : ∀ v ∈ (t.l.getD i default).fv, v < (N : Int) := fun v hv' => hv v (fvs_mem hk hlt hv')
        have hok := wT_ok (v := v) (rec := wF l v f) (fun i seen hi h => wF_ok w v f _ seen (w.shp i hi) (w.fv i hi) h) (t.l.getD i default) s (hkids.2 _ (mem_getD hlt)) hfv k2
        refine ⟨hlt, scall_to (ihc _ (mem_getD hlt) s (by omega) hfv k2) ?_⟩
        rintro r H' ⟨rfl, rfl⟩
        generalize wT l v (wF l v f) (t.l.getD i default) s = r at *
        cases hr : r.1 with
        | true =>
          simp only [hr, if_true] at hI
          simp (contextual := true) (maxSteps := 1000000) only [stepsS, stepsT, stepsN, if_true, forall_const, ne_eq, implies_true, List.nil_append, List.append_nil, List.cons_append, List.length_cons, List.length_nil, Nat.reduceEqDiff, Nat.reduceAdd, Nat.reduceLT, Nat.reduceLeDiff, ↓reduceIte, reduceCtorEq, Int.reduceEq, Int.reduceLT]
          exact retw (F.take0 _) rfl rfl ⟨by rw [← hI], by rw [← hI]⟩
        | false =>
          simp only [hr, Bool.false_eq_true, if_false] at hI
          simp (contextual := true) (maxSteps := 1000000) only [Bool.false_eq_true, stepsS, stepsT, stepsN, if_true, forall_const, ne_eq, implies_true, List.nil_append, List.append_nil, List.cons_append, List.length_cons, List.length_nil, Nat.reduceEqDiff, Nat.reduceAdd, Nat.reduceLT, Nat.reduceLeDiff, ↓reduceIte, reduceCtorEq, Int.reduceEq, Int.reduceLT]
          exact ⟨i + 1, r.2, ⟨hlt, by omega, hok.1, hI⟩, by omega, sle_eq (by rw [wrap_nat i (by omega)]) rfl⟩
      · rw [List.drop_of_length_le (len_nlt hge)] at hI
        simp only [wTs] at hI
        exact retw (F.take0 _) rfl rfl ⟨by rw [← hI], by rw [← hI]⟩
termination_by f t => (f, SizeOf.sizeOf t)
decreasing_by
  · exact Prod.Lex.left _ _ (Nat.lt_succ_self _)
  · exact Prod.Lex.right _ (T.lt hy)
end Go.Abs
