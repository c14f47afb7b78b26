/- Signatures: sorts of terms. -/
import Derived.Test.YtcfmgncmkbiknaaY04sd
set_option maxRecDepth 100000
set_option linter.unusedSimpArgs false
set_option linter.unusedVariables false
namespace Go.Abs
open Go Go.Proofs
theorem c67 (s : Sg) (a : Int) : Pure Try.prog 67 [.int .i64 a, .iptr s.av] (.bool (!isS s.sorts.length a)) := by
  refine fun H => ok67.calls (by simp [fi67]) ?_
  simp only [fi67, ir67]
  unfold isS
  simp (contextual := true) (maxSteps := 1000000) only [stepsO, stepsS, stepsT, stepsN, if_true, forall_const, ne_eq, implies_true, List.nil_append, List.append_nil, List.cons_append, List.length_cons, List.length_nil, Nat.reduceEqDiff, Nat.reduceAdd, Nat.reduceLT, Nat.reduceLeDiff, ↓reduceIte, reduceCtorEq, Int.reduceEq, Int.reduceLT]
  refine ⟨fun h1 _ => ret0 rfl ?_, fun h1 => ret0 rfl ?_⟩
  · have e1 : decide (0 ≤ a) = true := decide_eq_true h1
    rw [e1, Bool.true_and]
    by_cases h2 : a < (s.sorts.length : Int)
    · rw [decide_eq_true h2, decide_eq_false (by omega)]; rfl
    · rw [decide_eq_false h2, decide_eq_true (by omega)]; rfl
  · have e1 : decide (0 ≤ a) = false := decide_eq_false (by omega)
    rw [e1]; rfl
mutual
/-- Whether a tree has a sort; what variables may have is told, and learnt. -/
def tyT {σ : Type} (ops : List Opn) (of : Int → Int → σ → Bool × σ) : T → Int → σ → Bool × σ
  | .mk k n l, sort, st => if k = 1 then of n sort st else
    if (ops.length : Int) ≤ n ∨ (ops.getD n.toNat default).res ≠ sort ∨ (ops.getD n.toNat default).args.length ≠ l.length then (false, st) else tyTs ops of l (ops.getD n.toNat default).args st
def tyTs {σ : Type} (ops : List Opn) (of : Int → Int → σ → Bool × σ) : List T → List Int → σ → Bool × σ
  | [], _, st => (true, st)
  | _ :: _, [], st => (false, st)
  | t :: ts, a :: bs, st => (fun r : Bool × σ => if r.1 = true then tyTs ops of ts bs r.2 else (false, r.2)) (tyT ops of t a st)
end
theorem tyT_eq {σ : Type} (ops : List Opn) (of : Int → Int → σ → Bool × σ) (t : T) (sort : Int) (st : σ) : tyT ops of t sort st = if t.k = 1 then of t.n sort st else
    if (ops.length : Int) ≤ t.n ∨ (ops.getD t.n.toNat default).res ≠ sort ∨ (ops.getD t.n.toNat default).args.length ≠ t.l.length then (false, st) else tyTs ops of t.l (ops.getD t.n.toNat default).args st := by cases t; rw [tyT]; rfl
theorem tyTs_drop {σ : Type} {ops : List Opn} {of : Int → Int → σ → Bool × σ} {ts : List T} {bs : List Int} {i : Nat} (h : i < ts.length) (h2 : i < bs.length) (st : σ) : tyTs ops of (ts.drop i) (bs.drop i) st =
    (fun r : Bool × σ => if r.1 = true then tyTs ops of (ts.drop (i + 1)) (bs.drop (i + 1)) r.2 else (false, r.2)) (tyT ops of (ts.getD i default) (bs.getD i 0) st) := by
  rw [List.drop_eq_getElem_cons h, List.drop_eq_getElem_cons h2, tyTs]
  have e1 : ts.getD i default = ts[i] := by simp [h]
  have e2 : bs.getD i 0 = bs[i] := by simp [h2]
  rw [e1, e2]
theorem c68 {σ : Type} {S : σ → List AObj} {n0 : Nat} (hS : ∀ s, (S s).length = n0) (g : Nat) (cap : List AV) (hcap : cap.map AV.unown = cap) (hcb : belowL n0 cap = true) (sg : Sg) (of : Int → Int → σ → Bool × σ) (okv : Int → Prop)
    (hf : ∀ v sort s (e : List AObj), okv v → ACalls Try.prog g ([.int .i64 v, .int .i64 sort] ++ cap) (S s ++ e) fun r H' => r = .bool (of v sort s).1 ∧ H' = S (of v sort s).2 ++ e) :
    ∀ (t : T) (sort : Int) (s : σ) (e : List AObj), t.shaped = true → (∀ v ∈ t.fv, okv v) →
    ACalls Try.prog 68 [sg.av, t.av, .int .i64 sort, .fn (.func g) [] cap] (S s ++ e) fun r H' => r = .bool (tyT sg.ops of t sort s).1 ∧ H' = S (tyT sg.ops of t sort s).2 ++ e := by
  intro t sort s e ht hv
  have hkids := shaped_kids ht
  have ih : ∀ y ∈ t.l, ∀ (sort : Int) (s : σ) (e : List AObj), (∀ v ∈ y.fv, okv v) → ACalls Try.prog 68 [sg.av, y.av, .int .i64 sort, .fn (.func g) [] cap] (S s ++ e) fun r H' => r = .bool (tyT sg.ops of y sort s).1 ∧ H' = S (tyT sg.ops of y sort s).2 ++ e :=
    fun y hy sort s e hv => c68 hS g cap hcap hcb sg of okv hf y sort s e (hkids.2 y hy) hv
  have eq := tyT_eq sg.ops of t sort s
  have hlen : ∀ s (e : List AObj), (S s ++ e).length = n0 + e.length := fun s e => by rw [List.length_append, hS]
  have tk0 : ∀ s, (S s ++ e).take (n0 + e.length) = S s ++ e := fun s => List.take_of_length_le (by rw [hlen]; exact Nat.le_refl _)
  have tk : ∀ s e', (S s ++ (e ++ e')).take (n0 + e.length) = S s ++ e := fun s e' => by rw [← List.append_assoc, List.take_append_of_le_length (by rw [hlen]; exact Nat.le_refl _)]; exact tk0 s
  refine ok68.calls (by simp [fi68]) ?_
  rw [hlen]
  simp only [fi68, ir68]
  by_cases hk : t.k = 1
  · rw [if_pos hk] at eq
    have hn : okv t.n := by
      refine hv _ ?_
      cases t; simp only [T.k] at hk; simp [T.fv, T.n, hk]
    simp (contextual := true) (maxSteps := 1000000) only [stepsO, hcap, hk, stepsS, stepsT, stepsN, if_true, forall_const, ne_eq, implies_true, List.nil_append, List.append_nil, List.cons_append, List.length_cons, List.length_nil, Nat.reduceEqDiff, Nat.reduceAdd, Nat.reduceLT, Nat.reduceLeDiff, ↓reduceIte, reduceCtorEq, Int.reduceEq, Int.reduceLT]
    refine scall_to (hf t.n sort s e hn) ?_
    rintro r H' ⟨rfl, rfl⟩
    simp (contextual := true) (maxSteps := 1000000) only [hcap, stepsS, stepsT, stepsN, if_true, forall_const, ne_eq, implies_true, List.nil_append, List.append_nil, List.cons_append, List.length_cons, List.length_nil, Nat.reduceEqDiff, Nat.reduceAdd, Nat.reduceLT, Nat.reduceLeDiff, ↓reduceIte, reduceCtorEq, Int.reduceEq, Int.reduceLT]
    exact retw (tk0 _) rfl rfl ⟨by rw [eq], by rw [eq]⟩
  · rw [if_neg hk] at eq
    have hn0 : 0 ≤ t.n := by
      have := ht
      rw [T.shaped_eq] at this
      simp only [Bool.and_eq_true, Bool.not_eq_true', Bool.or_eq_false_iff, decide_eq_false_iff_not, Bool.and_eq_false_iff] at this
      omega
    obtain ⟨m, hm⟩ := Int.eq_ofNat_of_zero_le hn0
    rw [hm, Int.toNat_natCast] at eq
    by_cases h1 : (sg.ops.length : Int) ≤ m
    · rw [if_pos (.inl h1)] at eq
      simp (contextual := true) (maxSteps := 1000000) only [stepsO, hcap, hk, hm, h1, stepsS, stepsT, stepsN, if_true, forall_const, ne_eq, implies_true, List.nil_append, List.append_nil, List.cons_append, List.length_cons, List.length_nil, Nat.reduceEqDiff, Nat.reduceAdd, Nat.reduceLT, Nat.reduceLeDiff, ↓reduceIte, reduceCtorEq, Int.reduceEq, Int.reduceLT]
      exact retw (tk0 s) rfl rfl ⟨by rw [eq], by rw [eq]⟩
    · have hlt : m < sg.ops.length := by omega
      have h1' : (m : Int) < sg.ops.length := by omega
      generalize ho : sg.ops.getD m default = o at *
      by_cases h2 : o.res = sort
      · by_cases h3 : o.args.length = t.l.length
        · rw [if_neg (by rintro (h | h | h) <;> first | omega | exact h h2 | exact h h3)] at eq
          have h3' : ((o.args.length : Nat) : Int) = t.l.length := by omega
          simp (contextual := true) (maxSteps := 1000000) only [stepsO, hcap, hk, hm, h1, h1', hlt, ho, h2, h3', stepsS, stepsT, stepsN, if_true, forall_const, ne_eq, implies_true, List.nil_append, List.append_nil, List.cons_append, List.length_cons, List.length_nil, Nat.reduceEqDiff, Nat.reduceAdd, Nat.reduceLT, Nat.reduceLeDiff, ↓reduceIte, reduceCtorEq, Int.reduceEq, Int.reduceLT]
          intro _
          have hg0 : ∀ s x, (S s ++ (e ++ [x]))[n0 + e.length]? = some x := fun s x => by rw [← List.append_assoc, ← hlen s e, List.getElem?_append_right (Nat.le_refl _)]; simp
          have hs0 : ∀ s x y, (S s ++ (e ++ [x])).set (n0 + e.length) y = S s ++ (e ++ [y]) := fun s x y => by rw [← List.append_assoc, ← hlen s e, List.set_append_right _ _ (Nat.le_refl _)]; simp
          refine swp_loop_st t.l.length (fun i (s' : σ) => tyTs sg.ops of (t.l.drop i) (o.args.drop i) s' = tyTs sg.ops of t.l o.args s)
            (fun i s' => [(3, .fn (.func g) [] cap), (4, .iptr sg.av), (5, .iptr t.av), (51, .lst 0 (avs t.l)), (52, .int .i64 t.l.length), (53, .int .i64 i)]) (fun i s' => S s' ++ e) s ⟨rfl, sle_refl _ _ _⟩ fun i s' hi hI => ?_
          have hm' : t.n = ((m : Nat) : Int) := hm
          simp (contextual := true) (maxSteps := 1000000) only [stepsO, hcap, hlen, hg0, hs0, hm', hlt, ho, stepsS, stepsT, stepsN, if_true, forall_const, ne_eq, implies_true, List.nil_append, List.append_nil, List.cons_append, List.length_cons, List.length_nil, Nat.reduceEqDiff, Nat.reduceAdd, Nat.reduceLT, Nat.reduceLeDiff, ↓reduceIte, reduceCtorEq, Int.reduceEq, Int.reduceLT]
          refine ⟨fun hli => ⟨len_lt hli, ?_⟩, fun hge => ?_⟩
          · have hli := len_lt hli
            have hla : i < o.args.length := by omega
            rw [tyTs_drop hli hla] at hI
            have hc := ih _ (mem_getD hli) (o.args.getD i 0) s' (e ++ [.cells (t.l.getD i default).av.cells]) (fun v hv' => hv v (fvs_mem hk hli hv'))
            refine ⟨hla, scall_to hc ?_⟩
            rintro r H' ⟨rfl, rfl⟩
            generalize tyT sg.ops of (t.l.getD i default) (o.args.getD i 0) s' = r at *
            cases hr : r.1 with
            | false =>
              simp only [hr, Bool.false_eq_true, if_false] at hI
              simp (contextual := true) (maxSteps := 1000000) only [Bool.false_eq_true, hcap, stepsS, stepsT, stepsN, if_true, forall_const, ne_eq, implies_true, List.nil_append, List.append_nil, List.cons_append, List.length_cons, List.length_nil, Nat.reduceEqDiff, Nat.reduceAdd, Nat.reduceLT, Nat.reduceLeDiff, ↓reduceIte, reduceCtorEq, Int.reduceEq, Int.reduceLT]
              exact retw (tk _ _) rfl rfl ⟨by rw [eq, ← hI], by rw [eq, ← hI]⟩
            | true =>
              simp only [hr, if_true] at hI
              simp (contextual := true) (maxSteps := 1000000) only [hcap, stepsS, stepsT, stepsN, if_true, forall_const, ne_eq, implies_true, List.nil_append, List.append_nil, List.cons_append, List.length_cons, List.length_nil, Nat.reduceEqDiff, Nat.reduceAdd, Nat.reduceLT, Nat.reduceLeDiff, ↓reduceIte, reduceCtorEq, Int.reduceEq, Int.reduceLT]
              refine ⟨i + 1, r.2, ⟨hli, hI⟩, by omega, sle_drop (by rw [wrap_nat i (by omega)]) (by rw [hlen]; exact Nat.le_refl _) ?_ [.cells (t.l.getD i default).av.cells] (by rw [List.append_assoc])⟩
              have hb1 : (AV.fn (.func g) [] cap).blw (S r.2 ++ e).length = true := by
                rw [hlen]
                simp only [AV.blw, belowL, Bool.true_and]
                rw [belowL_iff] at hcb ⊢
                exact fun x hx => AV.blw_mono (Nat.le_add_right _ _) x (hcb x hx)
              simp only [eb_cons, eb_nil, hb1]
              simp (contextual := true) (maxSteps := 1000000) only [stepsO, stepsS, stepsT, stepsN, if_true, forall_const, ne_eq, implies_true, List.nil_append, List.append_nil, List.cons_append, List.length_cons, List.length_nil, Nat.reduceEqDiff, Nat.reduceAdd, Nat.reduceLT, Nat.reduceLeDiff, ↓reduceIte, reduceCtorEq, Int.reduceEq, Int.reduceLT]
          · rw [List.drop_of_length_le (len_nlt hge)] at hI
            simp only [tyTs] at hI
            exact retw (tk0 _) rfl rfl ⟨by rw [eq, ← hI], by rw [eq, ← hI]⟩
        · rw [if_pos (.inr (.inr h3))] at eq
          have h3' : ¬ ((o.args.length : Nat) : Int) = t.l.length := by omega
          simp (contextual := true) (maxSteps := 1000000) only [stepsO, hcap, hk, hm, h1, h1', hlt, ho, h2, h3', stepsS, stepsT, stepsN, if_true, forall_const, ne_eq, implies_true, List.nil_append, List.append_nil, List.cons_append, List.length_cons, List.length_nil, Nat.reduceEqDiff, Nat.reduceAdd, Nat.reduceLT, Nat.reduceLeDiff, ↓reduceIte, reduceCtorEq, Int.reduceEq, Int.reduceLT]
          exact retw (tk0 s) rfl rfl ⟨by rw [eq], by rw [eq]⟩
      · rw [if_pos (.inr (.inl h2))] at eq
        simp (contextual := true) (maxSteps := 1000000) only [stepsO, hcap, hk, hm, h1, h1', hlt, ho, h2, stepsS, stepsT, stepsN, if_true, forall_const, ne_eq, implies_true, List.nil_append, List.append_nil, List.cons_append, List.length_cons, List.length_nil, Nat.reduceEqDiff, Nat.reduceAdd, Nat.reduceLT, Nat.reduceLeDiff, ↓reduceIte, reduceCtorEq, Int.reduceEq, Int.reduceLT]
        exact retw (tk0 s) rfl rfl ⟨by rw [eq], by rw [eq]⟩
termination_by t => SizeOf.sizeOf t
decreasing_by exact T.lt hy
end Go.Abs
