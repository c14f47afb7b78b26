/- SigPutSorts' walk. -/
import Derived.Test.YtcfmgncmkbiknaaY04si
import Derived.Test.YtcfmgncmkbiknaaY04nb
import Derived.Test.YtcfmgncmkbiknaaY04mc
import Derived.Test.YtcfmgncmkbiknaaY04s
import Derived.Test.YtcfmgncmkbiknaaY04L6
set_option maxRecDepth 100000
set_option linter.unusedSimpArgs false
set_option linter.unusedVariables false
set_option maxHeartbeats 1000000
namespace Go.Abs
open Go Go.Proofs
structure Ov where
  s : Sg
  vars : List Int
  l : List T
  sorts : List Int
  name : ByteArray
def Ov.av (o : Ov) : AV := .agg [.lst 0 (strs o.s.sorts), .lst 0 (opas o.s.ops), .lst 0 (ints o.vars), .lst 0 (avs o.l), .lst 0 (ints o.sorts), .str o.name]
theorem Ov.av_blw (n : Nat) (o : Ov) : o.av.blw n = true := by simp [Ov.av, AV.blw, belowL, strs_blw, opas_blw, ints_blw, avs_blw]
theorem Ov.av_val (o : Ov) : o.av.val = true := rfl
theorem Ov.av_unown (o : Ov) : o.av.unown = o.av := rfl
theorem Ov.av_drop (o : Ov) : o.av.drop = o.av := rfl
theorem fv0 (x : Ov) (φ : AV → Prop) : afieldAddr 0 (some 2) (.iptr x.av) φ = φ (.iptr x.s.av) := by simp [afieldAddr, apart, Ov.av, Sg.av, AV.cells, AV.one]
theorem fv2 (x : Ov) (φ : AV → Prop) : afieldAddr 2 none (.iptr x.av) φ = φ (.iptr (.lst 0 (ints x.vars))) := by simp [afieldAddr, apart, Ov.av, AV.cells, AV.one]
theorem fv3 (x : Ov) (φ : AV → Prop) : afieldAddr 3 none (.iptr x.av) φ = φ (.iptr (.lst 0 (avs x.l))) := by simp [afieldAddr, apart, Ov.av, AV.cells, AV.one]
theorem idx0 (e o : Nat) (l : List T) (k : IntKind) (φ : AV → Prop) : aindexAddr e (.lst o (avs l)) (.int k 0) φ = (0 < l.length ∧ φ (.iptr (l.getD 0 default).av)) := by
  have := idx_avs e o l k 0 φ
  exact this
theorem sl1 (l : List T) (hl : 0 < l.length) (φ : AV → Prop) : asliceX 3 (.lst 0 (avs l)) none (some (.int .i64 1)) none φ = φ (.lst 0 (avs [l.getD 0 default])) := by
  have e : (avs l).take 1 = avs [l.getD 0 default] := by cases l with | nil => simp at hl | cons x r => rfl
  have h3 : ∀ x ∈ avs l, x.cells.length = 3 := by
    intro x hx
    rw [avs_map] at hx
    obtain ⟨y, _, rfl⟩ := List.mem_map.1 hx
    exact T.av_clen y
  have er : rlist (AV.lst 0 (avs l)) = some (avs l) := rfl
  simp only [asliceX, aslice, er, aidx, avs_len, eq_iff_iff]
  have e1 : (1 : Int).toNat = 1 := rfl
  simp only [e1, e, List.drop_zero]
  constructor
  · intro h; exact h.2.2.2.2
  · intro h
    refine ⟨fun own xs he z hz => ?_, by omega, by omega, by omega, h⟩
    cases he
    exact h3 z hz
def rest6a : IR := ir6.tl.tl.tl.tl.tl.tl.tl
def rest6b : IR := ir6.tl.tl.tl.tl.tl.tl.tl.tl
def rest6c : IR := ir6.tl.tl.tl.tl.tl.tl.tl.tl.tl.tl
theorem ir6_eq : ir6 = .seq ir6.hd (.seq ir6.tl.hd (.seq ir6.tl.tl.hd (.seq ir6.tl.tl.tl.hd (.seq ir6.tl.tl.tl.tl.hd (.seq ir6.tl.tl.tl.tl.tl.hd (.seq ir6.tl.tl.tl.tl.tl.tl.hd rest6a)))))) := rfl
theorem rest6a_eq : rest6a = .seq ir6.tl.tl.tl.tl.tl.tl.tl.hd rest6b := rfl
theorem rest6b_eq : rest6b = .seq ir6.tl.tl.tl.tl.tl.tl.tl.tl.hd (.seq ir6.tl.tl.tl.tl.tl.tl.tl.tl.tl.hd rest6c) := rfl
def Q6 (H : List AObj) : Exit → Env → List AObj → Prop := fun e env H' => (e = Exit.normal ∨ e = Exit.ret) ∧ aret H.length [RX.t 4] env H' fun r H' => r = AV.bool true ∧ H' = H
theorem rest6c_ok {o : Ov} {l : List T} {k : Int} (hl : l.length ≤ 1048576) (hL : 0 < o.l.length) (hg : gts [o.l.getD 0 default] < l.length) (hs : (sub l (o.l.getD 0 default)).tree = true → sortS o.s o.vars (sub l (o.l.getD 0 default)) = (k, 0))
    {H : List AObj} {env : Env} (h1 : get env 1 = .lst 0 (avs l)) (h2 : get env 2 = .iptr o.av) (h5 : get env 5 = .int .i64 k) : swp Try.prog H.length rest6c env H (Q6 H) := by
  unfold Q6
  simp only [rest6c, IR.tl, ir6]
  simp (contextual := true) (maxSteps := 1000000) only [stepsO, h1, h2, h5, fv0, fv2, fv3, idx0, Ov.av_blw, Ov.av_unown, optX, Option.map_some, Option.map_none, stepsS, stepsT, stepsN, if_true, forall_const, ne_eq, implies_true, List.nil_append, List.append_nil, List.cons_append, List.length_cons, List.length_nil, Nat.reduceEqDiff, Nat.reduceAdd, Nat.reduceLT, Nat.reduceLeDiff, ↓reduceIte, reduceCtorEq, Int.reduceEq, Int.reduceLT]
  refine ⟨hL, scall_pure (c19 (o.l.getD 0 default) l (by omega)) ?_⟩
  generalize o.l.getD 0 default = t at *
  have hE : substS t l = if t.tree = true ∧ treesB l = true then if (sub l t).tree = true then (sub l t, 0) else (T0, 2) else (T0, 4) := by
    rw [substS, if_pos hg]
  by_cases hc : t.tree = true ∧ treesB l = true
  · rw [if_pos hc] at hE
    by_cases hd : (sub l t).tree = true
    · rw [if_pos hd] at hE
      rw [hE]
      simp (contextual := true) (maxSteps := 1000000) only [stepsO, h1, h2, h5, fv0, fv2, fv3, idx0, Ov.av_blw, Ov.av_unown, optX, Option.map_some, Option.map_none, stepsS, stepsT, stepsN, if_true, forall_const, ne_eq, implies_true, List.nil_append, List.append_nil, List.cons_append, List.length_cons, List.length_nil, Nat.reduceEqDiff, Nat.reduceAdd, Nat.reduceLT, Nat.reduceLeDiff, ↓reduceIte, reduceCtorEq, Int.reduceEq, Int.reduceLT]
      refine scall_pure (c26 _ _ _) ?_
      rw [hs hd]
      simp (contextual := true) (maxSteps := 1000000) only [stepsO, h1, h2, h5, fv0, fv2, fv3, idx0, Ov.av_blw, Ov.av_unown, optX, Option.map_some, Option.map_none, stepsS, stepsT, stepsN, if_true, forall_const, ne_eq, implies_true, List.nil_append, List.append_nil, List.cons_append, List.length_cons, List.length_nil, Nat.reduceEqDiff, Nat.reduceAdd, Nat.reduceLT, Nat.reduceLeDiff, ↓reduceIte, reduceCtorEq, Int.reduceEq, Int.reduceLT]
      exact ret0 rfl (by simp)
    · rw [if_neg hd] at hE
      rw [hE]
      simp (contextual := true) (maxSteps := 1000000) only [stepsO, h1, h2, h5, fv0, fv2, fv3, idx0, Ov.av_blw, Ov.av_unown, optX, Option.map_some, Option.map_none, stepsS, stepsT, stepsN, if_true, forall_const, ne_eq, implies_true, List.nil_append, List.append_nil, List.cons_append, List.length_cons, List.length_nil, Nat.reduceEqDiff, Nat.reduceAdd, Nat.reduceLT, Nat.reduceLeDiff, ↓reduceIte, reduceCtorEq, Int.reduceEq, Int.reduceLT]
      exact ret0 rfl (by simp)
  · rw [if_neg hc] at hE
    rw [hE]
    simp (contextual := true) (maxSteps := 1000000) only [stepsO, h1, h2, h5, fv0, fv2, fv3, idx0, Ov.av_blw, Ov.av_unown, optX, Option.map_some, Option.map_none, stepsS, stepsT, stepsN, if_true, forall_const, ne_eq, implies_true, List.nil_append, List.append_nil, List.cons_append, List.length_cons, List.length_nil, Nat.reduceEqDiff, Nat.reduceAdd, Nat.reduceLT, Nat.reduceLeDiff, ↓reduceIte, reduceCtorEq, Int.reduceEq, Int.reduceLT]
    exact ret0 rfl (by simp)
theorem rest6b_ok {o : Ov} {l : List T} {k : Int} (hl : l.length ≤ 1048576) (hL : 0 < o.l.length) (hg : gts [o.l.getD 0 default] < o.vars.length)
    (hs : (∀ i, i < o.vars.length → sortS o.s o.vars (l.getD i default) = (o.vars.getD i 0, 0)) → (sub l (o.l.getD 0 default)).tree = true → sortS o.s o.vars (sub l (o.l.getD 0 default)) = (k, 0))
    {H : List AObj} {env : Env} (h1 : get env 1 = .lst 0 (avs l)) (h2 : get env 2 = .iptr o.av) (h5 : get env 5 = .int .i64 k) : swp Try.prog H.length rest6b env H (Q6 H) := by
  rw [rest6b_eq]
  have hR : (∀ i, i < o.vars.length → sortS o.s o.vars (l.getD i default) = (o.vars.getD i 0, 0)) → o.vars.length ≤ l.length → ∀ {env : Env}, get env 1 = .lst 0 (avs l) → get env 2 = .iptr o.av → get env 5 = .int .i64 k → swp Try.prog H.length rest6c env H (Q6 H) :=
    fun h hvl _ h1 h2 h5 => rest6c_ok hl hL (by omega) (hs h) h1 h2 h5
  unfold Q6 at hR ⊢
  simp only [IR.hd, IR.tl, ir6]
  simp (contextual := true) (maxSteps := 1000000) only [stepsO, h1, h2, h5, fv0, fv2, fv3, idx0, Ov.av_blw, Ov.av_unown, optX, Option.map_some, Option.map_none, stepsS, stepsT, stepsN, if_true, forall_const, ne_eq, implies_true, List.nil_append, List.append_nil, List.cons_append, List.length_cons, List.length_nil, Nat.reduceEqDiff, Nat.reduceAdd, Nat.reduceLT, Nat.reduceLeDiff, ↓reduceIte, reduceCtorEq, Int.reduceEq, Int.reduceLT]
  intro _ _
  refine ⟨fun _ => ret0 rfl rfl, fun hvl => ?_⟩
  simp (contextual := true) (maxSteps := 1000000) only [stepsO, h1, h2, h5, fv0, fv2, fv3, idx0, Ov.av_blw, Ov.av_unown, optX, Option.map_some, Option.map_none, stepsS, stepsT, stepsN, if_true, forall_const, ne_eq, implies_true, List.nil_append, List.append_nil, List.cons_append, List.length_cons, List.length_nil, Nat.reduceEqDiff, Nat.reduceAdd, Nat.reduceLT, Nat.reduceLeDiff, ↓reduceIte, reduceCtorEq, Int.reduceEq, Int.reduceLT]
  refine swp_loop_nat o.vars.length (fun i => ∀ j, j < i → sortS o.s o.vars (l.getD j default) = (o.vars.getD j 0, 0))
    (fun i => [(1, .lst 0 (avs l)), (2, .iptr o.av), (5, .int .i64 k), (133, .lst 0 (ints o.vars)), (134, .int .i64 o.vars.length), (135, .int .i64 i)]) (fun i => H) ⟨fun j h => by omega, sle_refl _ _ _⟩ fun i hi hI => ?_
  simp (contextual := true) (maxSteps := 1000000) only [stepsO, fv0, fv2, fv3, idx0, Ov.av_blw, Ov.av_unown, optX, Option.map_some, Option.map_none, stepsS, stepsT, stepsN, if_true, forall_const, ne_eq, implies_true, List.nil_append, List.append_nil, List.cons_append, List.length_cons, List.length_nil, Nat.reduceEqDiff, Nat.reduceAdd, Nat.reduceLT, Nat.reduceLeDiff, ↓reduceIte, reduceCtorEq, Int.reduceEq, Int.reduceLT]
  refine ⟨fun hlt => ?_, fun hge => ?_⟩
  · have hlt := len_lt hlt
    have hl1 : i < l.length := by omega
    refine ⟨hlt, ?_⟩
    simp (contextual := true) (maxSteps := 1000000) only [stepsO, fv0, fv2, fv3, idx0, Ov.av_blw, Ov.av_unown, optX, Option.map_some, Option.map_none, stepsS, stepsT, stepsN, if_true, forall_const, ne_eq, implies_true, List.nil_append, List.append_nil, List.cons_append, List.length_cons, List.length_nil, Nat.reduceEqDiff, Nat.reduceAdd, Nat.reduceLT, Nat.reduceLeDiff, ↓reduceIte, reduceCtorEq, Int.reduceEq, Int.reduceLT]
    refine ⟨hl1, dcall_pure (c26 _ _ _) ?_⟩
    simp (contextual := true) (maxSteps := 1000000) only [stepsO, fv0, fv2, fv3, idx0, Ov.av_blw, Ov.av_unown, optX, Option.map_some, Option.map_none, stepsS, stepsT, stepsN, if_true, forall_const, ne_eq, implies_true, List.nil_append, List.append_nil, List.cons_append, List.length_cons, List.length_nil, Nat.reduceEqDiff, Nat.reduceAdd, Nat.reduceLT, Nat.reduceLeDiff, ↓reduceIte, reduceCtorEq, Int.reduceEq, Int.reduceLT]
    refine ⟨fun he => ⟨fun hn => ?_, fun hn => ?_⟩, fun he => ?_⟩
    rotate_left
    · exact ⟨i + 1, ⟨hlt, fun j hj => by
        by_cases e : j = i
        · subst e; exact Prod.ext hn he
        · exact hI j (by omega)⟩, by omega, sle_eq (by rw [wrap_nat i (by omega)]) rfl⟩
    · exact ret0 rfl rfl
    · exact ret0 rfl rfl
  · exact hR (fun j h => hI j (by omega)) (by omega) rfl rfl rfl
theorem rest6a_ok {o : Ov} {l : List T} {k : Int} {N : Nat} {st : NL N} (hl : l.length ≤ 1048576) (hL : 0 < o.l.length) (hNv : N ≤ o.vars.length) (hz : szs [o.l.getD 0 default] ≤ 1000000)
    (hst : ∀ i, i < N → (st.l.getD i 0 < 0 ∧ ¬ (i : Int) ∈ varsL [o.l.getD 0 default]) ∨ (0 ≤ st.l.getD i 0 ∧ st.l.getD i 0 = o.vars.getD i 0 ∧ (i : Int) ∈ varsL [o.l.getD 0 default]))
    {H : List AObj} {env : Env} (h1 : get env 1 = .lst 0 (avs l)) (h2 : get env 2 = .iptr o.av) (h5 : get env 5 = .int .i64 k) (h7 : get env 7 = .lst 0 (ints st.l))
    (hR : ∀ {env : Env}, get env 1 = .lst 0 (avs l) → get env 2 = .iptr o.av → get env 5 = .int .i64 k → swp Try.prog H.length rest6b env H (Q6 H)) : swp Try.prog H.length rest6a env H (Q6 H) := by
  rw [rest6a_eq]
  unfold Q6 at hR ⊢
  simp only [IR.hd, IR.tl, ir6]
  simp (contextual := true) (maxSteps := 1000000) only [stepsO, h1, h2, h5, h7, ints_len, st.h, fv0, fv2, fv3, idx0, Ov.av_blw, Ov.av_unown, optX, Option.map_some, Option.map_none, stepsS, stepsT, stepsN, if_true, forall_const, ne_eq, implies_true, List.nil_append, List.append_nil, List.cons_append, List.length_cons, List.length_nil, Nat.reduceEqDiff, Nat.reduceAdd, Nat.reduceLT, Nat.reduceLeDiff, ↓reduceIte, reduceCtorEq, Int.reduceEq, Int.reduceLT]
  intro _
  refine swp_loop_nat N (fun i => True)
    (fun i => [(1, .lst 0 (avs l)), (2, .iptr o.av), (5, .int .i64 k), (89, .lst 0 (ints st.l)), (90, .int .i64 N), (91, .int .i64 i)]) (fun i => H) ⟨trivial, sle_refl _ _ _⟩ fun i hi hI => ?_
  simp (contextual := true) (maxSteps := 1000000) only [stepsO, fv0, fv2, fv3, idx0, Ov.av_blw, Ov.av_unown, optX, Option.map_some, Option.map_none, stepsS, stepsT, stepsN, if_true, forall_const, ne_eq, implies_true, List.nil_append, List.append_nil, List.cons_append, List.length_cons, List.length_nil, Nat.reduceEqDiff, Nat.reduceAdd, Nat.reduceLT, Nat.reduceLeDiff, ↓reduceIte, reduceCtorEq, Int.reduceEq, Int.reduceLT]
  refine ⟨fun hlt => ?_, fun hge => ?_⟩
  · have hlt := len_lt hlt
    have hl1 : i < st.l.length := by rw [st.h]; exact hlt
    have hlv : i < o.vars.length := by omega
    have hlv' : ¬ (o.vars.length : Int) ≤ (i : Int) := by omega
    refine ⟨hl1, ?_⟩
    have s1 := sl1 o.l hL
    have hh := hst i hlt
    generalize st.l.getD i 0 = a at *
    rcases hh with ⟨ha, hn⟩ | ⟨ha, hv, hn⟩
    · have ha' : ¬ 0 ≤ a := by omega
      simp (contextual := true) (maxSteps := 1000000) only [stepsO, fv0, fv2, fv3, idx0, Ov.av_blw, Ov.av_unown, optX, Option.map_some, Option.map_none, hlv', hlv, ha', s1, Bool.false_eq_true, stepsS, stepsT, stepsN, if_true, forall_const, ne_eq, implies_true, List.nil_append, List.append_nil, List.cons_append, List.length_cons, List.length_nil, Nat.reduceEqDiff, Nat.reduceAdd, Nat.reduceLT, Nat.reduceLeDiff, ↓reduceIte, reduceCtorEq, Int.reduceEq, Int.reduceLT]
      intro _ _ _
      refine scall_pure (c29 _ hz) ?_
      simp (contextual := true) (maxSteps := 1000000) only [stepsO, fv0, fv2, fv3, idx0, Ov.av_blw, Ov.av_unown, stepsS, stepsT, stepsN, if_true, forall_const, ne_eq, implies_true, List.nil_append, List.append_nil, List.cons_append, List.length_cons, List.length_nil, Nat.reduceEqDiff, Nat.reduceAdd, Nat.reduceLT, Nat.reduceLeDiff, ↓reduceIte, reduceCtorEq, Int.reduceEq, Int.reduceLT]
      refine scall_pure (c28 _ _ _) ?_
      rw [decide_eq_false hn]
      simp (contextual := true) (maxSteps := 1000000) only [stepsO, fv0, fv2, fv3, idx0, Ov.av_blw, Ov.av_unown, Bool.false_eq_true, stepsS, stepsT, stepsN, if_true, forall_const, ne_eq, implies_true, List.nil_append, List.append_nil, List.cons_append, List.length_cons, List.length_nil, Nat.reduceEqDiff, Nat.reduceAdd, Nat.reduceLT, Nat.reduceLeDiff, ↓reduceIte, reduceCtorEq, Int.reduceEq, Int.reduceLT]
      refine ⟨fun h => absurd (decide_eq_false ha') h, fun _ => ⟨i + 1, hlt, by omega, sle_eq (by rw [wrap_nat i (by omega)]) rfl⟩⟩
    · rw [hv] at ha
      simp (contextual := true) (maxSteps := 1000000) only [stepsO, fv0, fv2, fv3, idx0, Ov.av_blw, Ov.av_unown, optX, Option.map_some, Option.map_none, hlv', hlv, ha, hv, s1, Bool.false_eq_true, stepsS, stepsT, stepsN, if_true, forall_const, ne_eq, implies_true, List.nil_append, List.append_nil, List.cons_append, List.length_cons, List.length_nil, Nat.reduceEqDiff, Nat.reduceAdd, Nat.reduceLT, Nat.reduceLeDiff, ↓reduceIte, reduceCtorEq, Int.reduceEq, Int.reduceLT]
      intro _ _
      refine ⟨scall_pure (c29 _ hz) ?_, fun h => absurd h (by omega)⟩
      simp (contextual := true) (maxSteps := 1000000) only [stepsO, fv0, fv2, fv3, idx0, Ov.av_blw, Ov.av_unown, stepsS, stepsT, stepsN, if_true, forall_const, ne_eq, implies_true, List.nil_append, List.append_nil, List.cons_append, List.length_cons, List.length_nil, Nat.reduceEqDiff, Nat.reduceAdd, Nat.reduceLT, Nat.reduceLeDiff, ↓reduceIte, reduceCtorEq, Int.reduceEq, Int.reduceLT]
      refine scall_pure (c28 _ _ _) ?_
      rw [decide_eq_true hn]
      simp (contextual := true) (maxSteps := 1000000) only [stepsO, fv0, fv2, fv3, idx0, Ov.av_blw, Ov.av_unown, Bool.false_eq_true, stepsS, stepsT, stepsN, if_true, forall_const, ne_eq, implies_true, List.nil_append, List.append_nil, List.cons_append, List.length_cons, List.length_nil, Nat.reduceEqDiff, Nat.reduceAdd, Nat.reduceLT, Nat.reduceLeDiff, ↓reduceIte, reduceCtorEq, Int.reduceEq, Int.reduceLT]
      refine ⟨fun h => absurd (decide_eq_true ha) h, fun _ => ⟨i + 1, hlt, by omega, sle_eq (by rw [wrap_nat i (by omega)]) rfl⟩⟩
  · exact hR rfl rfl rfl
theorem opsB_res {n : Int} : ∀ {l : List Opn} {seen : List ByteArray}, opsB n l seen = true → ∀ o ∈ l, isS n o.res = true
  | [], _, _, o, h => by cases h
  | x :: r, seen, h, o, ho => by
    rw [opsB] at h
    split at h
    · rename_i hx
      rcases List.mem_cons.1 ho with rfl | ho
      · exact (good_small hx.1).2.2.1
      · exact opsB_res h o ho
    · cases h
theorem sortS_ok {s : Sg} {vars : List Int} {t : T} {k : Int} (h : sortS s vars t = (k, 0)) :
    chkB s = true ∧ (vars.any fun a => !isS s.sorts.length a) = false ∧ t.tree = true ∧ sort0 s vars t = k ∧ 0 ≤ k ∧ typB s vars t k = true := by
  rw [sortS] at h
  split at h
  · rename_i h1
    split at h
    · cases h
    · rename_i h2
      split at h
      · rename_i h3
        split at h
        · cases h
        · rename_i h4
          obtain ⟨e, -⟩ := Prod.mk.inj h
          rw [e] at h4
          refine ⟨h1, Bool.eq_false_iff.2 h2, h3, e, by omega, ?_⟩
          cases hb : typB s vars t k with
          | true => rfl
          | false => exact absurd (.inr hb) h4
      · cases h
  · cases h
theorem isS_nn {n a : Int} (h : isS n a = true) : 0 ≤ a ∧ a < n := by
  simpa [isS] using h
theorem any_isS {n : Int} {vars : List Int} (h : (vars.any fun a => !isS n a) = false) : ∀ a ∈ vars, isS n a = true := by
  intro a ha
  cases hx : isS n a with
  | true => rfl
  | false =>
    rw [Bool.eq_false_iff] at h
    exact absurd (List.any_eq_true.2 ⟨a, ha, by simp [hx]⟩) h
theorem getD_mem {l : List Int} {n : Int} (h0 : 0 ≤ n) (h : n < l.length) : l.getD n.toNat 0 ∈ l := by
  have hn : n.toNat < l.length := by omega
  have : l.getD n.toNat 0 = l[n.toNat] := by simp [hn]
  rw [this]; exact List.getElem_mem _
theorem sortS_is {s : Sg} {vars : List Int} {t : T} {k : Int} (h : sortS s vars t = (k, 0)) : isS s.sorts.length k = true := by
  obtain ⟨h1, h2, h3, h4, h5, h6⟩ := sortS_ok h
  have hn0 : 0 ≤ t.n := by
    have := ((T.tree_iff t).1 h3).2.2
    rw [T.shaped_eq] at this
    simp only [Bool.and_eq_true, Bool.not_eq_true', Bool.or_eq_false_iff, decide_eq_false_iff_not, Bool.and_eq_false_iff] at this
    omega
  rw [← h4, sort0]
  rw [sort0] at h4
  split
  · rename_i h
    exact any_isS h2 _ (getD_mem hn0 h.2)
  · rename_i hn
    rw [if_neg hn] at h4
    split
    · rename_i h
      have hlt : t.n.toNat < s.ops.length := by omega
      have e : s.ops.getD t.n.toNat default = s.ops[t.n.toNat] := by simp [hlt]
      rw [e]
      simp only [chkB, Bool.and_eq_true] at h1
      exact opsB_res h1.2 _ (List.getElem_mem _)
    · rename_i hn2
      rw [if_neg hn2] at h4
      omega
theorem sub_op {l : List T} {t : T} (h : ¬ t.k = 1) : sub l t = .mk t.k t.n (subs l t.l) := by rw [sub_eq, if_neg h]
/-- What holds of a term that has a sort. -/
theorem sort_inf {s : Sg} {vars : List Int} {t : T} {k : Int} (h : sortS s vars t = (k, 0)) : ∃ st : NL (gts [t] + 1).toNat,
    tyT s.ops infV t k (N0 _) = (true, st) ∧ gts [t] < vars.length ∧ (∀ i, i < (gts [t] + 1).toNat → (st.l.getD i 0 < 0 ∧ ¬ (i : Int) ∈ varsL [t]) ∨ (0 ≤ st.l.getD i 0 ∧ st.l.getD i 0 = vars.getD i 0 ∧ (i : Int) ∈ varsL [t])) ∧ ∀ v ∈ t.fv, v < vars.length := by
  obtain ⟨h1, h2, h3, h4, h5, h6⟩ := sortS_ok h
  have hs := ((T.tree_iff t).1 h3).2.2
  have hg0 := gts_ge [t]
  have hv := (gts1 t (gts [t] + 1) (by omega)).1 (by omega)
  have h0 : ∀ a ∈ vars, (0 : Int) ≤ a := fun a ha => (isS_nn (any_isS h2 a ha)).1
  obtain ⟨st, e1, e2, e3, e4⟩ := typ_inf (N := (gts [t] + 1).toNat) t k (N0 _) hs (fun v hv' => by have := hv v hv'; omega) h0 h6 (fun i hi => .inl (by simp [N0, hi]))
  have hg := (gts1 t vars.length (by omega)).2 e4
  refine ⟨st, e1, hg, fun i hi => ?_, e4⟩
  have ev : varsL [t] = walkVs [t] [] := by rw [varsW, if_pos (by simp [treesB, h3])]
  rw [ev, mem_vars, e3 i hi]
  by_cases hm : (i : Int) ∈ t.fv
  · rw [if_pos hm]
    refine .inr ⟨?_, rfl, hm⟩
    have := getD_mem (l := vars) (n := (i : Int)) (by omega) (by omega)
    exact h0 _ this
  · rw [if_neg hm]
    refine .inl ⟨?_, hm⟩
    simp [N0, hi]
theorem put_sorts {s : Sg} {vars : List Int} {t : T} {k : Int} {l : List T} (h : sortS s vars t = (k, 0)) (hv : ∀ i, i < vars.length → sortS s vars (l.getD i default) = (vars.getD i 0, 0)) (ht : (sub l t).tree = true) :
    sortS s vars (sub l t) = (k, 0) := by
  obtain ⟨h1, h2, h3, h4, h5, h6⟩ := sortS_ok h
  obtain ⟨st, -, hg, -, hf⟩ := sort_inf h
  have hs := ((T.tree_iff t).1 h3).2.2
  by_cases hk : t.k = 1
  · have e := sub_eq l t
    rw [if_pos hk] at e
    rw [e]
    have hm : t.n ∈ t.fv := by cases t; simp only [T.k] at hk; simp [T.fv, T.n, hk]
    have hn0 := fv_shaped t hs _ hm
    have hlt := hf _ hm
    have hx := hv t.n.toNat (by omega)
    rw [hx]
    have e0 : sort0 s vars t = vars.getD t.n.toNat 0 := by rw [sort0, if_pos ⟨hk, hlt⟩]
    rw [← e0, h4]
  · have e := sub_op (l := l) hk
    have hty : typB s vars (sub l t) k = true := typ_sub t k hs h6 fun v hv' => by
      have hn0 := fv_shaped t hs _ hv'
      have hlt := hf _ hv'
      exact (sortS_ok (hv v.toNat (by omega))).2.2.2.2.2
    have e0 : sort0 s vars (sub l t) = k := by
      rw [← h4, e]; rfl
    rw [sortS, if_pos h1, if_neg (by rw [h2]; simp), if_pos ht, e0, hty, if_neg (by rintro (a | a) <;> first | omega | cases a)]
theorem c6 (o : Ov) (l : List T) (hol : o.l.length ≤ 1048576) (hl : l.length ≤ 1048576) : Pure Try.prog 6 [o.av, .lst 0 (avs l)] (.bool true) := by
  refine fun H => ok6.calls (by simp [fi6]) ?_
  simp only [fi6]
  rw [ir6_eq]
  simp only [IR.hd, IR.tl, ir6]
  simp (contextual := true) (maxSteps := 1000000) only [stepsO, fv0, fv2, fv3, idx0, Ov.av_blw, Ov.av_unown, Ov.av_val, stepsS, stepsT, stepsN, if_true, forall_const, ne_eq, implies_true, List.nil_append, List.append_nil, List.cons_append, List.length_cons, List.length_nil, Nat.reduceEqDiff, Nat.reduceAdd, Nat.reduceLT, Nat.reduceLeDiff, ↓reduceIte, reduceCtorEq, Int.reduceEq, Int.reduceLT]
  refine scall_pure c13 ?_
  simp (contextual := true) (maxSteps := 1000000) only [stepsO, fv0, fv2, fv3, idx0, Ov.av_blw, Ov.av_unown, Ov.av_val, stepsS, stepsT, stepsN, if_true, forall_const, ne_eq, implies_true, List.nil_append, List.append_nil, List.cons_append, List.length_cons, List.length_nil, Nat.reduceEqDiff, Nat.reduceAdd, Nat.reduceLT, Nat.reduceLeDiff, ↓reduceIte, reduceCtorEq, Int.reduceEq, Int.reduceLT]
  refine scall_pure (c25 o.s) ?_
  cases hb : briefB o.s with
  | false =>
    simp (contextual := true) (maxSteps := 1000000) only [stepsO, Bool.false_eq_true, stepsS, stepsT, stepsN, if_true, forall_const, ne_eq, implies_true, List.nil_append, List.append_nil, List.cons_append, List.length_cons, List.length_nil, Nat.reduceEqDiff, Nat.reduceAdd, Nat.reduceLT, Nat.reduceLeDiff, ↓reduceIte, reduceCtorEq, Int.reduceEq, Int.reduceLT]
    exact ret0 rfl rfl
  | true =>
    simp (contextual := true) (maxSteps := 1000000) only [stepsO, fv0, fv2, fv3, idx0, Ov.av_blw, Ov.av_unown, Ov.av_val, ok_avs, stepsS, stepsT, stepsN, if_true, forall_const, ne_eq, implies_true, List.nil_append, List.append_nil, List.cons_append, List.length_cons, List.length_nil, Nat.reduceEqDiff, Nat.reduceAdd, Nat.reduceLT, Nat.reduceLeDiff, ↓reduceIte, reduceCtorEq, Int.reduceEq, Int.reduceLT]
    have ea : avs o.l ++ avs l = avs (o.l ++ l) := by simp [avs_map]
    rw [ea]
    refine ⟨by omega, by omega, scall_pure (c14 _) ?_⟩
    cases hf : fewL (o.l ++ l) with
    | false =>
      simp (contextual := true) (maxSteps := 1000000) only [stepsO, Bool.false_eq_true, stepsS, stepsT, stepsN, if_true, forall_const, ne_eq, implies_true, List.nil_append, List.append_nil, List.cons_append, List.length_cons, List.length_nil, Nat.reduceEqDiff, Nat.reduceAdd, Nat.reduceLT, Nat.reduceLeDiff, ↓reduceIte, reduceCtorEq, Int.reduceEq, Int.reduceLT]
      exact ret0 rfl rfl
    | true =>
      simp (contextual := true) (maxSteps := 1000000) only [stepsO, fv0, fv2, fv3, idx0, Ov.av_blw, Ov.av_unown, Ov.av_val, stepsS, stepsT, stepsN, if_true, forall_const, ne_eq, implies_true, List.nil_append, List.append_nil, List.cons_append, List.length_cons, List.length_nil, Nat.reduceEqDiff, Nat.reduceAdd, Nat.reduceLT, Nat.reduceLeDiff, ↓reduceIte, reduceCtorEq, Int.reduceEq, Int.reduceLT]
      intro _
      refine ⟨fun _ => ?_, fun _ => ret0 rfl rfl⟩
      intro _
      refine ⟨fun hne => ⟨fun _ => ret0 rfl rfl, fun _ => ?_⟩, fun _ => ret0 rfl rfl⟩
      have hL : 0 < o.l.length := by omega
      refine ⟨hL, dcall_pure (c26 _ _ _) ?_⟩
      have s1 := sl1 o.l hL
      have hR : sortS o.s o.vars (o.l.getD 0 default) = ((sortS o.s o.vars (o.l.getD 0 default)).1, 0) → ∃ st : NL (gts [o.l.getD 0 default] + 1).toNat,
          Pure Try.prog 27 [o.s.av, .lst 0 (avs [o.l.getD 0 default]), .lst 0 (ints [(sortS o.s o.vars (o.l.getD 0 default)).1])] (.tuple [.lst 0 (ints st.l), .int .i64 0]) ∧
          (o.l.getD 0 default).tree = true ∧ gts [o.l.getD 0 default] < o.vars.length ∧ ∀ {env : Env}, get env 1 = .lst 0 (avs l) → get env 2 = .iptr o.av → get env 5 = .int .i64 (sortS o.s o.vars (o.l.getD 0 default)).1 → get env 7 = .lst 0 (ints st.l) → swp Try.prog H.length rest6a env H (Q6 H) := by
        intro hs
        obtain ⟨k1, k2, k3, k4, k5, k6⟩ := sortS_ok hs
        obtain ⟨st, hty, hg, hst, hfv⟩ := sort_inf hs
        have hg0 := gts_ge [o.l.getD 0 default]
        have hti := (T.tree_iff _).1 k3
        refine ⟨st, c27 o.s _ _ k1 (sortS_is hs) k3 (by omega) (by omega) hty, k3, hg, fun h1 h2 h5 h7 => ?_⟩
        exact rest6a_ok hl hL (by omega) (by simp only [szs]; omega) hst h1 h2 h5 h7 fun h1 h2 h5 => rest6b_ok hl hL hg (fun hv ht => put_sorts hs hv ht) h1 h2 h5
      generalize sortS o.s o.vars (o.l.getD 0 default) = R at *
      obtain ⟨k, e⟩ := R
      simp (contextual := true) (maxSteps := 1000000) only [stepsO, fv0, fv2, fv3, idx0, Ov.av_blw, Ov.av_unown, Ov.av_val, stepsS, stepsT, stepsN, if_true, forall_const, ne_eq, implies_true, List.nil_append, List.append_nil, List.cons_append, List.length_cons, List.length_nil, Nat.reduceEqDiff, Nat.reduceAdd, Nat.reduceLT, Nat.reduceLeDiff, ↓reduceIte, reduceCtorEq, Int.reduceEq, Int.reduceLT]
      refine ⟨fun _ => ret0 rfl rfl, fun he => ?_⟩
      obtain ⟨st, h27, ht, hg, hR⟩ := hR (by rw [he])
      simp (contextual := true) (maxSteps := 1000000) only [stepsO, fv0, fv2, fv3, idx0, Ov.av_blw, Ov.av_unown, Ov.av_val, optX, Option.map_some, Option.map_none, s1, stepsS, stepsT, stepsN, if_true, forall_const, ne_eq, implies_true, List.nil_append, List.append_nil, List.cons_append, List.length_cons, List.length_nil, Nat.reduceEqDiff, Nat.reduceAdd, Nat.reduceLT, Nat.reduceLeDiff, ↓reduceIte, reduceCtorEq, Int.reduceEq, Int.reduceLT]
      refine dcall_pure h27 ?_
      have hg0 := gts_ge [o.l.getD 0 default]
      have w1 : IntKind.i64.wrap (gts [o.l.getD 0 default] + 1) = (((gts [o.l.getD 0 default] + 1).toNat : Nat) : Int) := by rw [wrap_in _ (by omega)]; omega
      simp (contextual := true) (maxSteps := 1000000) only [stepsO, fv0, fv2, fv3, idx0, Ov.av_blw, Ov.av_unown, Ov.av_val, ints_len, st.h, stepsS, stepsT, stepsN, if_true, forall_const, ne_eq, implies_true, List.nil_append, List.append_nil, List.cons_append, List.length_cons, List.length_nil, Nat.reduceEqDiff, Nat.reduceAdd, Nat.reduceLT, Nat.reduceLeDiff, ↓reduceIte, reduceCtorEq, Int.reduceEq, Int.reduceLT]
      intro _
      refine ⟨hL, scall_pure (c17 [o.l.getD 0 default] (by have := (T.tree_iff _).1 ht; simp only [szs]; omega)) ?_⟩
      rw [most_gts (by simp only [treesB, List.all_cons, List.all_nil, ht, Bool.and_self])]
      simp (contextual := true) (maxSteps := 1000000) only [stepsO, w1, stepsS, stepsT, stepsN, if_true, forall_const, ne_eq, implies_true, List.nil_append, List.append_nil, List.cons_append, List.length_cons, List.length_nil, Nat.reduceEqDiff, Nat.reduceAdd, Nat.reduceLT, Nat.reduceLeDiff, ↓reduceIte, reduceCtorEq, Int.reduceEq, Int.reduceLT]
      exact hR rfl rfl rfl rfl
end Go.Abs
