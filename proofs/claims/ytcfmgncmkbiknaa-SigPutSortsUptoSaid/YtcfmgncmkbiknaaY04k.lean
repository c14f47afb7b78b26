/- Subst. -/
import Derived.Test.YtcfmgncmkbiknaaY04j
import Derived.Test.YtcfmgncmkbiknaaAbse
set_option maxRecDepth 100000
set_option linter.unusedSimpArgs false
set_option linter.unusedVariables false
namespace Go.Abs
open Go Go.Proofs
theorem c100 (n : Int) : Pure Try.prog 100 [.int .i64 n] (T.mk 1 n []).av := by
  refine fun H => ok100.calls (by simp [fi100]) ?_
  simp only [fi100, ir100]
  simp (contextual := true) (maxSteps := 1000000) only [stepsS, stepsT, stepsN, if_true, forall_const, ne_eq, implies_true, List.nil_append, List.append_nil, List.cons_append, List.length_cons, List.length_nil, Nat.reduceEqDiff, Nat.reduceAdd, Nat.reduceLT, Nat.reduceLeDiff, ↓reduceIte, reduceCtorEq, Int.reduceEq, Int.reduceLT]
  exact ret1v (T.av_blw _ (.mk 1 n [])) rfl
theorem c21 (n : Int) : Pure Try.prog 21 [.int .i64 n] (T.mk 1 n []).av := by
  refine fun H => ok21.calls (by simp [fi21]) ?_
  simp only [fi21, ir21]
  simp (contextual := true) (maxSteps := 1000000) only [stepsS, stepsT, stepsN, if_true, forall_const, ne_eq, implies_true, List.nil_append, List.append_nil, List.cons_append, List.length_cons, List.length_nil, Nat.reduceEqDiff, Nat.reduceAdd, Nat.reduceLT, Nat.reduceLeDiff, ↓reduceIte, reduceCtorEq, Int.reduceEq, Int.reduceLT]
  exact ret1v (T.av_blw _ (.mk 1 n [])) rfl
theorem c75 (t : T) (h : t.shaped = true) : Pure Try.prog 75 [t.av] t.av := by
  refine fun H => ok75.calls (by simp [fi75]) ?_
  simp only [fi75, ir75]
  simp (contextual := true) (maxSteps := 1000000) only [stepsS, stepsT, stepsN, if_true, forall_const, ne_eq, implies_true, List.nil_append, List.append_nil, List.cons_append, List.length_cons, List.length_nil, Nat.reduceEqDiff, Nat.reduceAdd, Nat.reduceLT, Nat.reduceLeDiff, ↓reduceIte, reduceCtorEq, Int.reduceEq, Int.reduceLT]
  refine scall_pure (c77 100 [] (fun n => .mk 1 n []) t rfl rfl (fun n => c100 n) h) ?_
  have e : mapT (fun n => .mk 1 n []) t = t := ren_id t h
  rw [e]
  simp (contextual := true) (maxSteps := 1000000) only [stepsS, stepsT, stepsN, if_true, forall_const, ne_eq, implies_true, List.nil_append, List.append_nil, List.cons_append, List.length_cons, List.length_nil, Nat.reduceEqDiff, Nat.reduceAdd, Nat.reduceLT, Nat.reduceLeDiff, ↓reduceIte, reduceCtorEq, Int.reduceEq, Int.reduceLT]
  exact ret1v (T.av_blw _ t) rfl
def boundS (t : T) : T × Int := if t.tree = true then (t, 0) else (T0, 2)
theorem c59 (t : T) : Pure Try.prog 59 [t.av] (.tuple [(boundS t).1.av, .int .i64 (boundS t).2]) := by
  refine fun H => ok59.calls (by simp [fi59]) ?_
  simp only [fi59, ir59]
  simp (contextual := true) (maxSteps := 1000000) only [stepsS, stepsT, stepsN, if_true, forall_const, ne_eq, implies_true, List.nil_append, List.append_nil, List.cons_append, List.length_cons, List.length_nil, Nat.reduceEqDiff, Nat.reduceAdd, Nat.reduceLT, Nat.reduceLeDiff, ↓reduceIte, reduceCtorEq, Int.reduceEq, Int.reduceLT]
  refine scall_pure (c57 t) ?_
  cases h : t.tree with
  | true =>
    simp (contextual := true) (maxSteps := 1000000) only [stepsS, stepsT, stepsN, if_true, forall_const, ne_eq, implies_true, List.nil_append, List.append_nil, List.cons_append, List.length_cons, List.length_nil, Nat.reduceEqDiff, Nat.reduceAdd, Nat.reduceLT, Nat.reduceLeDiff, ↓reduceIte, reduceCtorEq, Int.reduceEq, Int.reduceLT]
    exact ret2v (T.av_blw _ _) rfl (by rw [boundS, if_pos h]; exact t.av_unown) (by rw [boundS, if_pos h]; rfl)
  | false =>
    simp (contextual := true) (maxSteps := 1000000) only [stepsS, stepsT, stepsN, if_true, forall_const, ne_eq, implies_true, List.nil_append, List.append_nil, List.cons_append, List.length_cons, List.length_nil, Nat.reduceEqDiff, Nat.reduceAdd, Nat.reduceLT, Nat.reduceLeDiff, ↓reduceIte, reduceCtorEq, Int.reduceEq, Int.reduceLT]
    exact ret2v (T.av_blw _ _) rfl (by rw [boundS, if_neg (by rw [h]; simp)]; rfl) (by rw [boundS, if_neg (by rw [h]; simp)]; rfl)
def sub (l : List T) (t : T) : T := mapT (fun n => l.getD n.toNat default) t
def subs (l : List T) (ts : List T) : List T := mapTs (fun n => l.getD n.toNat default) ts
theorem sub_eq (l : List T) (t : T) : sub l t = if t.k = 1 then l.getD t.n.toNat default else .mk t.k t.n (subs l t.l) := mapT_eq _ t
theorem sub_sz1 {l : List T} {t : T} (h : t.k ≠ 1) : (sub l t).sz = 1 + szs (subs l t.l) := by rw [sub_eq, if_neg h]; simp only [T.sz]
def fillO (l : List T) (left : Int) : AObj := .cells [.lst 0 (avs l), outC (l.map T.sz), .int .i64 left]
/-- What a filling leaves. -/
def fillR (S : Int → List AObj) (o : T) (left : Int) (r : AV) (H' : List AObj) : Prop :=
  (o.sz ≤ left ∧ r = .tuple [o.av, .bool true] ∧ H' = S (left - o.sz)) ∨ (left < o.sz ∧ r = .tuple [T0.av, .bool false] ∧ ∃ left', H' = S left')
theorem outC_idx (e : Nat) (l : List Int) (i : Nat) (hi : i < l.length) (k : IntKind) (φ : AV → Prop) : aindexAddr e (outC l).unown (.int k (i : Int)) φ = φ (.iptr (.int .i64 (l.getD i 0))) := by
  cases l with
  | nil => simp at hi
  | cons v r =>
    show aindexAddr e (.lst 0 (ints (v :: r))) _ φ = _
    rw [idx_ints]
    simp only [hi, true_and]
theorem outC_lens (l : List Int) : (∀ (own : Nat) (xs : List AV), (outC l).unown = AV.lst own xs → ∀ z ∈ xs, z.cells.length = 1) = True := by
  simp only [eq_iff_iff, iff_true]
  intro own xs e z hz
  cases l with
  | nil => cases e
  | cons v r =>
    have e' : AV.lst 0 (ints (v :: r)) = AV.lst own xs := e
    cases e'
    obtain ⟨y, _, rfl⟩ := List.mem_map.1 hz
    rfl
theorem szs_app : ∀ (a b : List T), szs (a ++ b) = szs a + szs b
  | [], b => by simp [szs]
  | x :: r, b => by rw [List.cons_append]; simp only [szs]; rw [szs_app r b]; omega
theorem fvs_mem {t : T} {i : Nat} {v : Int} (hk : ¬ t.k = 1) (h : i < t.l.length) (hv : v ∈ (t.l.getD i default).fv) : v ∈ t.fv := by
  have e : t.fv = fvs t.l := by cases t; simp only [T.k] at hk; simp only [T.fv, if_neg hk, T.l]
  rw [e]
  have : ∀ (l : List T) (i : Nat), i < l.length → v ∈ (l.getD i default).fv → v ∈ fvs l := by
    intro l
    induction l with
    | nil => intro i h; cases h
    | cons x r ih =>
      intro i h hv
      simp only [fvs, List.mem_append]
      cases i with
      | zero => exact .inl (by simpa using hv)
      | succ j => exact .inr (ih j (by simpa using h) (by simpa using hv))
  exact this _ _ h hv
theorem c58 {S : Int → List AObj} {p n : Nat} (l : List T) (F : Fam S p (fillO l) n) (t : T) (left : Int) (ht : t.shaped = true) (hl : treesB l = true) (hv : ∀ v ∈ t.fv, v < (l.length : Int)) (h0 : 0 ≤ left) (h1 : left ≤ 2000) :
    ACalls Try.prog 58 [.ptr p 0, t.av] (S left) (fillR S (sub l t) left) := by
  have hkids := shaped_kids ht
  have ih : ∀ y ∈ t.l, ∀ (e : List AObj) (left : Int), (∀ v ∈ y.fv, v < (l.length : Int)) → 0 ≤ left → left ≤ 2000 → ACalls Try.prog 58 [.ptr p 0, y.av] (S left ++ e) (fillR (fun s => S s ++ e) (sub l y) left) :=
    fun y hy e left hv h0 h1 => c58 l (F.app e) y left (hkids.2 y hy) hl hv h0 h1
  have fg : ∀ s, (S s)[p]? = some (.cells [.lst 0 (avs l), outC (l.map T.sz), .int .i64 s]) := F.get
  have fg' : ∀ s e, (S s ++ e)[p]? = some (.cells [.lst 0 (avs l), outC (l.map T.sz), .int .i64 s]) := F.get'
  have fs : ∀ s s' , (S s).set p (.cells [.lst 0 (avs l), outC (l.map T.sz), .int .i64 s']) = S s' := F.set
  have fs' : ∀ s s' e, (S s ++ e).set p (.cells [.lst 0 (avs l), outC (l.map T.sz), .int .i64 s']) = S s' ++ e := F.set'
  have hp := F.lt left
  refine ok58.calls (by simp [fi58]) ?_
  rw [F.len]
  simp only [fi58, ir58]
  have w1 : IntKind.i64.wrap (left - 1) = left - 1 := wrap_in _ (by omega)
  by_cases hk : t.k = 1
  · have hn : t.n ∈ t.fv := by cases t; simp only [T.k] at hk; simp [T.fv, T.n, hk]
    have hn0 := fv_shaped t ht _ hn
    have hn1 := hv _ hn
    have hnn : t.n = ((t.n.toNat : Nat) : Int) := by omega
    have hlt : t.n.toNat < l.length := by omega
    generalize t.n.toNat = m at *
    have hm : l.getD m default ∈ l := mem_getD hlt
    have htm : (l.getD m default).tree = true := List.all_eq_true.1 hl _ hm
    have hti := (T.tree_iff _).1 htm
    have hzp := (l.getD m default).sz_pos
    have eo : sub l t = l.getD m default := by rw [sub_eq, if_pos hk, hnn]; rfl
    rw [eo]
    have em : (l.map T.sz).getD m 0 = (l.getD m default).sz := by simp [hlt]
    have w2 : IntKind.i64.wrap (left - (l.getD m default).sz) = left - (l.getD m default).sz := wrap_in _ (by omega)
    have oi := fun k φ => outC_idx 1 (l.map T.sz) m (by simpa using hlt) k φ
    simp (contextual := true) (maxSteps := 1000000) only [hk, hnn, fg, fg', fs, fs', F.len, F.get0, F.set0, F.get1, F.set1, oi, em, w2, stepsS, stepsT, stepsN, if_true, forall_const, ne_eq, implies_true, List.nil_append, List.append_nil, List.cons_append, List.length_cons, List.length_nil, Nat.reduceEqDiff, Nat.reduceAdd, Nat.reduceLT, Nat.reduceLeDiff, ↓reduceIte, reduceCtorEq, Int.reduceEq, Int.reduceLT]
    refine ⟨of_eq_true (outC_lens _), fun hlt0 => ?_, fun hge => ⟨hlt, dcall_pure (c75 _ hti.2.2) ?_⟩⟩
    · exact ret2w (F.take _ _) (T.av_blw _ T0) rfl rfl rfl (.inr ⟨by omega, rfl, _, rfl⟩)
    · simp (contextual := true) (maxSteps := 1000000) only [fg, fg', fs, fs', F.len, F.get0, F.set0, F.get1, F.set1, stepsS, stepsT, stepsN, if_true, forall_const, ne_eq, implies_true, List.nil_append, List.append_nil, List.cons_append, List.length_cons, List.length_nil, Nat.reduceEqDiff, Nat.reduceAdd, Nat.reduceLT, Nat.reduceLeDiff, ↓reduceIte, reduceCtorEq, Int.reduceEq, Int.reduceLT]
      exact ret2w (F.take _ _) (T.av_blw _ _) rfl (T.av_unown _) rfl (.inl ⟨by omega, rfl, rfl⟩)
  · simp (contextual := true) (maxSteps := 1000000) only [hk, fg, fg', fs, fs', F.len, F.get0, F.set0, F.get1, F.set1, w1, stepsS, stepsT, stepsN, if_true, forall_const, ne_eq, implies_true, List.nil_append, List.append_nil, List.cons_append, List.length_cons, List.length_nil, Nat.reduceEqDiff, Nat.reduceAdd, Nat.reduceLT, Nat.reduceLeDiff, ↓reduceIte, reduceCtorEq, Int.reduceEq, Int.reduceLT]
    have eo : (sub l t).sz = 1 + szs (subs l t.l) := sub_sz1 hk
    refine ⟨fun hlt0 => ?_, fun hge _ => ?_⟩
    · exact ret2w (F.take _ _) (T.av_blw _ T0) rfl rfl rfl (.inr ⟨by have := szs_pos (subs l t.l); omega, rfl, _, rfl⟩)
    · refine swp_loop_st t.l.length (fun i (s : Int) => 0 ≤ s ∧ s = left - 1 - szs (subs l (t.l.take i)))
          (fun i s => [(0, .ptr p 0), (4, .ptr n 0), (6, .ptr (n + 1) 0), (63, .lst 0 (avs t.l)), (64, .int .i64 t.l.length), (65, .int .i64 i)])
          (fun i s => S s ++ [.cells [.int .i64 0, .int .i64 0, .nils], .cells [.int .i64 t.k, .int .i64 t.n, outT (subs l (t.l.take i))]]) (left - 1) ⟨⟨by omega, by simp [subs, mapTs, szs]⟩, sle_refl _ _ _⟩ fun i s hi hI => ?_
      obtain ⟨k1, hI⟩ := hI
      simp (contextual := true) (maxSteps := 1000000) only [fg, fg', fs, fs', F.len, F.get0, F.set0, F.get1, F.set1, outT_one, outT_blw, outT_drop, stepsS, stepsT, stepsN, if_true, forall_const, ne_eq, implies_true, List.nil_append, List.append_nil, List.cons_append, List.length_cons, List.length_nil, Nat.reduceEqDiff, Nat.reduceAdd, Nat.reduceLT, Nat.reduceLeDiff, ↓reduceIte, reduceCtorEq, Int.reduceEq, Int.reduceLT]
      refine ⟨fun hlt => ⟨len_lt hlt, ?_⟩, fun hge => ?_⟩
      · have hlt := len_lt hlt
        refine scall_to (ih _ (mem_getD hlt) _ s (fun v hv' => hv v (fvs_mem hk hlt hv')) k1 (by have := szs_pos (subs l (t.l.take i)); omega)) ?_
        have et : subs l (t.l.take (i + 1)) = subs l (t.l.take i) ++ [sub l (t.l.getD i default)] := mapTs_take _ hlt
        rintro r H' (⟨h1, rfl, rfl⟩ | ⟨h1, rfl, left', rfl⟩)
        · simp (contextual := true) (maxSteps := 1000000) only [fg, fg', fs, fs', F.len, F.get0, F.set0, F.get1, F.set1, ap_outT, outT_snoc, outT_one, outT_blw, stepsS, stepsT, stepsN, if_true, forall_const, ne_eq, implies_true, List.nil_append, List.append_nil, List.cons_append, List.length_cons, List.length_nil, Nat.reduceEqDiff, Nat.reduceAdd, Nat.reduceLT, Nat.reduceLeDiff, ↓reduceIte, reduceCtorEq, Int.reduceEq, Int.reduceLT]
          refine ⟨by rw [subs, mapTs_map]; simp; omega, i + 1, _, ⟨hlt, ?_, ?_⟩, by omega, sle_eq (by rw [wrap_nat i (by omega)]) (by rw [et])⟩
          · omega
          · rw [et, szs_app]; simp only [szs]; omega
        · simp (contextual := true) (maxSteps := 1000000) only [fg, fg', fs, fs', F.len, F.get0, F.set0, F.get1, F.set1, stepsS, stepsT, stepsN, if_true, forall_const, ne_eq, implies_true, List.nil_append, List.append_nil, List.cons_append, List.length_cons, List.length_nil, Nat.reduceEqDiff, Nat.reduceAdd, Nat.reduceLT, Nat.reduceLeDiff, ↓reduceIte, reduceCtorEq, Int.reduceEq, Int.reduceLT]
          have e2 : subs l t.l = subs l (t.l.take (i + 1)) ++ subs l (t.l.drop (i + 1)) := by
            simp only [subs, mapTs_map]; rw [← List.map_append, List.take_append_drop]
          have e3 : szs (subs l t.l) = szs (subs l (t.l.take i)) + (sub l (t.l.getD i default)).sz + szs (subs l (t.l.drop (i + 1))) := by
            rw [e2, szs_app, et, szs_app]; simp only [szs]; omega
          have := szs_pos (subs l (t.l.drop (i + 1)))
          exact ret2w (F.take _ _) (T.av_blw _ T0) rfl rfl rfl (.inr ⟨by omega, rfl, _, rfl⟩)
      · rw [List.take_of_length_le (len_nlt hge)] at hI ⊢
        have es : s = left - (sub l t).sz := by omega
        exact ret2w (x := (sub l t).av) (F.take _ _) (T.av_blw _ _) rfl (by rw [sub_eq l t, if_neg hk]; rfl) rfl (.inl ⟨by omega, rfl, by rw [es]⟩)
termination_by SizeOf.sizeOf t
decreasing_by exact T.lt hy
end Go.Abs
