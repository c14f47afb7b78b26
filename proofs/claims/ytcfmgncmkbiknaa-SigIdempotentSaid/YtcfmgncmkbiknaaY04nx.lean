/- whole, in the program. -/
import Derived.Test.YtcfmgncmkbiknaaY04nw
set_option maxRecDepth 100000
set_option linter.unusedSimpArgs false
set_option linter.unusedVariables false
namespace Go.Abs
open Go Go.Proofs
def uO (idf N : Nat) (c : Int) (o : Bool) : AObj := .cells [.arr idf 0 N N, .int .i64 c, .bool o]
theorem UF.of {H : List AObj} {pu idf : Nat} (N : Nat) (hne : pu ≠ idf) (hp : pu < H.length) (hi : idf < H.length) : UF (fun l c o => (H.set pu (uO idf N c o)).set idf (objL l)) pu idf N H.length := by
  refine ⟨fun l c o => ?_, fun l c o c' o' => ?_, fun l c o => ?_, fun l c o l' => ?_, fun l c o => by simp⟩
  · show ((H.set pu _).set idf _)[pu]? = _
    rw [List.getElem?_set_ne (Ne.symm hne), List.getElem?_set_self hp]; rfl
  · show (((H.set pu _).set idf _).set pu (uO idf N c' o')) = _
    rw [List.set_comm _ _ (Ne.symm hne), List.set_set]
  · show ((H.set pu _).set idf _)[idf]? = _
    rw [List.getElem?_set_self (by simpa using hi)]
  · show (((H.set pu _).set idf _).set idf _) = _
    rw [List.set_set]
theorem set_self {H : List AObj} {i : Nat} {x : AObj} (h : H[i]? = some x) : H.set i x = H := by
  obtain ⟨hi, e⟩ := List.getElem?_eq_some_iff.1 h
  rw [← e]; simp
theorem c94w {H : List AObj} {pu idf N : Nat} {l : List T} {c : Int} {o : Bool} (hne : pu ≠ idf) (hU : H[pu]? = some (.cells [.arr idf 0 N N, .int .i64 c, .bool o])) (hF : H[idf]? = some (objL l)) (w : Wf l N) (t : T) (ht : t.k = 1 → 0 ≤ t.n ∧ t.n < (N : Int)) :
    ACalls Try.prog 94 [.ptr pu 0, t.av] H fun r H' => r = (look l t).av ∧ H' = H := by
  have h := c94 (UF.of (H := H) N hne (List.getElem?_eq_some_iff.1 hU).1 (List.getElem?_eq_some_iff.1 hF).1) w c o t ht
  have e1 : H.set pu (uO idf N c o) = H := set_self hU
  rw [e1, set_self hF] at h
  exact h
def intO (s : Int) : AObj := .cells [.int .i64 s]
def whK (acc : List T) (r : Option (List T) × Int) : Option (List T) × Int := (r.1.map fun ys => acc ++ ys, r.2)
theorem whB_drop {rec : T → Int → Option T × Int} {xs : List T} {i : Nat} (h : i < xs.length) (c : Int) : whB rec (xs.drop i) c = match rec (xs.getD i default) c with
    | (none, d) => (none, d)
    | (some y, d) => match whB rec (xs.drop (i + 1)) d with
      | (none, e) => (none, e)
      | (some ys, e) => (some (y :: ys), e) := by
  rw [List.drop_eq_getElem_cons h, whB]
  have e2 : xs.getD i default = xs[i] := by simp [h]
  rw [e2]
  rfl
def whR (S : Int → List AObj) (x : Option T × Int) (r : AV) (H' : List AObj) : Prop :=
  (∃ y, x.1 = some y ∧ r = .tuple [y.av, .bool true] ∧ H' = S x.2) ∨ (x.1 = none ∧ r = .tuple [T0.av, .bool false] ∧ H' = S x.2)
theorem c56 {pl pu idf N : Nat} {l : List T} {c : Int} {o : Bool} (hne : pu ≠ idf) (w : Wf l N) : ∀ (f : Nat) {S : Int → List AObj} {n : Nat} (F : Fam S pl intO n) (hU : ∀ s, (S s)[pu]? = some (.cells [.arr idf 0 N N, .int .i64 c, .bool o])) (hF : ∀ s, (S s)[idf]? = some (objL l)) (t : T) (left : Int), f ≤ 200 → fine N t → 0 ≤ left → left ≤ 2000 →
    ACalls Try.prog 56 [.ptr pu 0, t.av, .ptr pl 0, .int .i64 (201 - f)] (S left) (whR S (whF l f t left)) := by
  intro f
  induction f with
  | zero =>
    intro S n F hU hF t left hf ht h0 h1
    have fg : ∀ s, (S s)[pl]? = some (.cells [.int .i64 s]) := F.get
    have fg' : ∀ s e, (S s ++ e)[pl]? = some (.cells [.int .i64 s]) := F.get'
    have fs : ∀ s s' , (S s).set pl (.cells [.int .i64 s']) = S s' := F.set
    have fs' : ∀ s s' e, (S s ++ e).set pl (.cells [.int .i64 s']) = S s' ++ e := F.set'
    have hp := F.lt left
    have w1 : IntKind.i64.wrap (left - 1) = left - 1 := wrap_in _ (by omega)
    have hU' : ∀ s (e : List AObj), (S s ++ e)[pu]? = some (.cells [.arr idf 0 N N, .int .i64 c, .bool o]) := fun s e => by
      rw [List.getElem?_append_left (List.getElem?_eq_some_iff.1 (hU s)).1]; exact hU s
    have hF' : ∀ s (e : List AObj), (S s ++ e)[idf]? = some (objL l) := fun s e => by
      rw [List.getElem?_append_left (List.getElem?_eq_some_iff.1 (hF s)).1]; exact hF s
    refine ok56.calls (by simp [fi56]) ?_
    rw [F.len]
    simp only [fi56, ir56]
    simp (contextual := true) (maxSteps := 1000000) only [fg, fg', fs, fs', F.len, F.get0, F.set0, F.get1, F.set1, stepsS, stepsT, stepsN, if_true, forall_const, ne_eq, implies_true, List.nil_append, List.append_nil, List.cons_append, List.length_cons, List.length_nil, Nat.reduceEqDiff, Nat.reduceAdd, Nat.reduceLT, Nat.reduceLeDiff, ↓reduceIte, reduceCtorEq, Int.reduceEq, Int.reduceLT]
    refine scall_to (c94w hne (hU' _ _) (hF' _ _) w t (fine_n ht)) ?_
    rintro r H' ⟨rfl, rfl⟩
    have fin : aret2 n [AV.agg [AV.int IntKind.i64 0, AV.int IntKind.i64 0, AV.lst 0 []], AV.bool false]
            (S (left - 1) ++
              [AObj.cells (look l t).av.cells, AObj.cells [AV.int IntKind.i64 0, AV.int IntKind.i64 0, AV.nils]])
            (whR S (whF l 0 t left)) := ret2w (F.take _ _) (T.av_blw _ T0) rfl rfl rfl (.inr ⟨rfl, rfl, rfl⟩)
    simp (contextual := true) (maxSteps := 1000000) only [fg, fg', fs, fs', F.len, F.get0, F.set0, F.get1, F.set1, w1, sp_TT, stepsS, stepsT, stepsN, if_true, forall_const, ne_eq, implies_true, List.nil_append, List.append_nil, List.cons_append, List.length_cons, List.length_nil, Nat.reduceEqDiff, Nat.reduceAdd, Nat.reduceLT, Nat.reduceLeDiff, ↓reduceIte, reduceCtorEq, Int.reduceEq, Int.reduceLT]
    exact ⟨fun _ => ⟨fun _ => fin, fun h => by omega⟩, fun _ => fin⟩
  | succ f ih =>
    intro S n F hU hF t left hf ht h0 h1
    have fg : ∀ s, (S s)[pl]? = some (.cells [.int .i64 s]) := F.get
    have fg' : ∀ s e, (S s ++ e)[pl]? = some (.cells [.int .i64 s]) := F.get'
    have fs : ∀ s s' , (S s).set pl (.cells [.int .i64 s']) = S s' := F.set
    have fs' : ∀ s s' e, (S s ++ e).set pl (.cells [.int .i64 s']) = S s' ++ e := F.set'
    have hp := F.lt left
    have w1 : IntKind.i64.wrap (left - 1) = left - 1 := wrap_in _ (by omega)
    have hU' : ∀ s (e : List AObj), (S s ++ e)[pu]? = some (.cells [.arr idf 0 N N, .int .i64 c, .bool o]) := fun s e => by
      rw [List.getElem?_append_left (List.getElem?_eq_some_iff.1 (hU s)).1]; exact hU s
    have hF' : ∀ s (e : List AObj), (S s ++ e)[idf]? = some (objL l) := fun s e => by
      rw [List.getElem?_append_left (List.getElem?_eq_some_iff.1 (hF s)).1]; exact hF s
    have e0 : whF l (f + 1) t left = if left - 1 < 0 then (none, left - 1) else match whB (whF l f) (look l t).l (left - 1) with
      | (none, d) => (none, d)
      | (some ys, d) => (some (.mk (look l t).k (look l t).n ys), d) := rfl
    have lt := look_fine w ht
    refine ok56.calls (by simp [fi56]) ?_
    rw [F.len]
    simp only [fi56, ir56]
    simp (contextual := true) (maxSteps := 1000000) only [fg, fg', fs, fs', F.len, F.get0, F.set0, F.get1, F.set1, stepsS, stepsT, stepsN, if_true, forall_const, ne_eq, implies_true, List.nil_append, List.append_nil, List.cons_append, List.length_cons, List.length_nil, Nat.reduceEqDiff, Nat.reduceAdd, Nat.reduceLT, Nat.reduceLeDiff, ↓reduceIte, reduceCtorEq, Int.reduceEq, Int.reduceLT]
    refine scall_to (c94w hne (hU' _ _) (hF' _ _) w t (fine_n ht)) ?_
    rintro r H' ⟨rfl, rfl⟩
    generalize look l t = t' at *
    have hl8 := (shaped_kids lt.1).1
    have hd : ((201 : Int) - ((f + 1 : Nat) : Int)) = 200 - (f : Int) := by omega
    have hd2 : (200 : Int) - (f : Int) + 1 = 201 - (f : Int) := by omega
    have hd3 : IntKind.i64.wrap (201 - (f : Int)) = 201 - (f : Int) := wrap_in _ (by omega)
    have hd4 : ¬ (200 : Int) < 200 - (f : Int) := by omega
    rw [hd]
    simp (contextual := true) (maxSteps := 1000000) only [fg, fg', fs, fs', F.len, F.get0, F.set0, F.get1, F.set1, w1, sp_TT, gd_T0, gd_T1, gd_T2, hd4, stepsS, stepsT, stepsN, if_true, forall_const, ne_eq, implies_true, List.nil_append, List.append_nil, List.cons_append, List.length_cons, List.length_nil, Nat.reduceEqDiff, Nat.reduceAdd, Nat.reduceLT, Nat.reduceLeDiff, ↓reduceIte, reduceCtorEq, Int.reduceEq, Int.reduceLT]
    refine ⟨fun hge => ?_, fun hlt0 => ?_⟩
    · rw [if_neg (by omega)] at e0
      rw [e0]
      intro _
      refine swp_loop_st t'.l.length (fun i (s : List T × Int) => 0 ≤ s.2 ∧ s.2 ≤ 2000 ∧ s.1.length = i ∧ whB (whF l f) t'.l (left - 1) = whK s.1 (whB (whF l f) (t'.l.drop i) s.2))
          (fun i s => [(0, .ptr pu 0), (2, .ptr pl 0), (3, .int .i64 (200 - (f : Int))), (8, .ptr (n + 1) 0), (10, .ptr (n + 2) 0), (38, .lst 0 (avs t'.l)), (39, .int .i64 t'.l.length), (40, .int .i64 i)])
          (fun i s => S s.2 ++ [.cells t'.av.cells, .cells [.int .i64 0, .int .i64 0, .nils], .cells [.int .i64 t'.k, .int .i64 t'.n, outT s.1]]) ([], left - 1) ⟨⟨by omega, by omega, rfl, ?_⟩, sle_refl _ _ _⟩ fun i s hi hI => ?_
      · simp [whK]
      obtain ⟨k1, k2, k3, hI⟩ := hI
      obtain ⟨ys, d⟩ := s
      simp only at k1 k2 k3 hI
      simp (contextual := true) (maxSteps := 1000000) only [fg, fg', fs, fs', F.len, F.get0, F.set0, F.get1, F.set1, outT_one, outT_blw, outT_drop, hd2, hd3, stepsS, stepsT, stepsN, if_true, forall_const, ne_eq, implies_true, List.nil_append, List.append_nil, List.cons_append, List.length_cons, List.length_nil, Nat.reduceEqDiff, Nat.reduceAdd, Nat.reduceLT, Nat.reduceLeDiff, ↓reduceIte, reduceCtorEq, Int.reduceEq, Int.reduceLT]
      refine ⟨fun hlt => ⟨len_lt hlt, ?_⟩, fun hge => ?_⟩
      · have hlt := len_lt hlt
        have hx := kids_fine lt _ (mem_getD hlt)
        have hcall := ih (F.app [.cells t'.av.cells, .cells [.int .i64 0, .int .i64 0, .nils], .cells [.int .i64 t'.k, .int .i64 t'.n, outT ys]]) (fun s => hU' s _) (fun s => hF' s _) (t'.l.getD i default) d (by omega) hx k1 k2
        have hok := fun y e => whF_ok (N := N) w f (t'.l.getD i default) d y e hx k1
        rw [whB_drop hlt] at hI
        refine scall_to hcall ?_
        generalize whF l f (t'.l.getD i default) d = r at *
        obtain ⟨r1, r2⟩ := r
        rintro r H' (⟨y, h1, rfl, rfl⟩ | ⟨h1, rfl, rfl⟩)
        · simp only at h1
          subst h1
          obtain ⟨a1, a2, _⟩ := hok y r2 rfl
          have := y.sz_pos
          simp only at hI
          simp (contextual := true) (maxSteps := 1000000) only [fg, fg', fs, fs', F.len, F.get0, F.set0, F.get1, F.set1, ap_outT, outT_snoc, outT_one, outT_blw, stepsS, stepsT, stepsN, if_true, forall_const, ne_eq, implies_true, List.nil_append, List.append_nil, List.cons_append, List.length_cons, List.length_nil, Nat.reduceEqDiff, Nat.reduceAdd, Nat.reduceLT, Nat.reduceLeDiff, ↓reduceIte, reduceCtorEq, Int.reduceEq, Int.reduceLT]
          refine ⟨by omega, i + 1, (ys ++ [y], r2), ⟨hlt, a1, by simp only; omega, by simp [k3], ?_⟩, by omega, sle_eq (by rw [wrap_nat i (by omega)]) rfl⟩
          rw [hI]
          rcases whB (whF l f) (t'.l.drop (i + 1)) r2 with ⟨_ | zs, e⟩ <;> simp [whK]
        · simp only at h1
          subst h1
          simp only at hI
          simp (contextual := true) (maxSteps := 1000000) only [fg, fg', fs, fs', F.len, F.get0, F.set0, F.get1, F.set1, stepsS, stepsT, stepsN, if_true, forall_const, ne_eq, implies_true, List.nil_append, List.append_nil, List.cons_append, List.length_cons, List.length_nil, Nat.reduceEqDiff, Nat.reduceAdd, Nat.reduceLT, Nat.reduceLeDiff, ↓reduceIte, reduceCtorEq, Int.reduceEq, Int.reduceLT]
          exact ret2w (F.take _ _) (T.av_blw _ T0) rfl rfl rfl (.inr ⟨by rw [hI]; rfl, rfl, by rw [hI]; rfl⟩)
      · rw [List.drop_of_length_le (len_nlt hge)] at hI
        simp only [whB, whK, Option.map, List.append_nil] at hI
        exact ret2w (x := (T.mk t'.k t'.n ys).av) (F.take _ _) (T.av_blw _ _) rfl rfl rfl (.inl ⟨T.mk t'.k t'.n ys, by rw [hI], rfl, by rw [hI]⟩)
    · rw [if_pos hlt0] at e0
      rw [e0]
      exact ret2w (F.take _ _) (T.av_blw _ T0) rfl rfl rfl (.inr ⟨rfl, rfl, rfl⟩)
end Go.Abs
