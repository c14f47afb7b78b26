/- Part 14 of 18 of the proof. -/
import Derived.Test.YtljchnfgjdjobaaGreatPam
import Derived.Test.YtljchnfgjdjobaaGreatPag
import Derived.KernelRfl
set_option linter.unusedVariables false
set_option linter.unusedSimpArgs false
set_option linter.defProp false
set_option linter.unusedSectionVars false
section
set_option maxRecDepth 100000
namespace Go.Abs
open Go Go.Proofs Go.Rpo
theorem lenad_mono {P : Px} {t : DT} {f : AV → Env} {v : AV} {H0 H : List AObj} {K1 K2 : Env → List AObj → Prop} (h : alenD v H0 fun x => adtS P t (f x) H K1) (hk : ∀ e G, K1 e G → K2 e G) : alenD v H0 fun x => adtS P t (f x) H K2 := by
 unfold alenD at *
 split at h
 ·exact adtS_mono h hk
 ·unfold alen at *
  split at h <;> first | exact adtS_mono h hk | exact h.elim | (intro hl; exact adtS_mono (h hl) hk) | skip
  all_goals (split at h <;> first | exact adtS_mono h hk | exact h.elim)
structure CS (c : Cx) (H : List AObj) (p q : Nat) (ts ps : List Int) (G : List AObj) : Prop where
 du : Du c G
 gp : G[p]? = some (objI ts)
 gq : G[q]? = some (objI ps)
 len : G.length = H.length + 2
 up : ∀ j, j < H.length → j ≠ c.e → j ≠ c.g → G[j]? = H[j]?
structure PQ (H : List AObj) (p q : Nat) : Prop where
 ne : p ≠ q
 p1 : H.length ≤ p
 q1 : H.length ≤ q
theorem CS.call {c : Cx} {H G G' : List AObj} {p q : Nat} {ts ps : List Int} (hD : Du c H) (w : PQ H p q) (h : CS c H p q ts ps G) (hU : Up c G G') (hD' : Du c G') : CS c H p q ts ps G' := by
 obtain ⟨l1, l2, l3⟩ := hD.lt
 obtain ⟨w1, w2, w3⟩ := w
 exact ⟨hD', by rw [hU.get p (by omega) (by omega), h.gp], by rw [hU.get q (by omega) (by omega), h.gq], by rw [hU.len, h.len], fun j h1 h2 h3 => by rw [hU.get j h2 h3, h.up j h1 h2 h3]⟩
theorem CS.setP {c : Cx} {H G : List AObj} {p q : Nat} {ts ps ts' : List Int} (hD : Du c H) (w : PQ H p q) (h : CS c H p q ts ps G) : CS c H p q ts' ps (G.set p (objI ts')) := by
 obtain ⟨l1, l2, l3⟩ := hD.lt
 obtain ⟨w1, w2, w3⟩ := w
 have hp := get_lt h.gp
 exact ⟨h.du.set (by omega) (by omega) (by omega), by rw [List.getElem?_set_self hp], by rw [List.getElem?_set_ne w1, h.gq], by rw [List.length_set, h.len], fun j h1 h2 h3 => by rw [List.getElem?_set_ne (by omega), h.up j h1 h2 h3]⟩
theorem CS.setQ {c : Cx} {H G : List AObj} {p q : Nat} {ts ps ps' : List Int} (hD : Du c H) (w : PQ H p q) (h : CS c H p q ts ps G) : CS c H p q ts ps' (G.set q (objI ps')) := by
 obtain ⟨l1, l2, l3⟩ := hD.lt
 obtain ⟨w1, w2, w3⟩ := w
 have hq := get_lt h.gq
 exact ⟨h.du.set (by omega) (by omega) (by omega), by rw [List.getElem?_set_ne (Ne.symm w1), h.gp], by rw [List.getElem?_set_self hq], by rw [List.length_set, h.len], fun j h1 h2 h3 => by rw [List.getElem?_set_ne (by omega), h.up j h1 h2 h3]⟩
theorem CS.fin {c : Cx} {H G : List AObj} {p q : Nat} {ts ps : List Int} (hD : Du c H) (h : CS c H p q ts ps G) {b : Bool} {Q : Prop} (hb : b = true ↔ Q) {s : Nat} : aret H.length [.t s] [(s, .bool b)] G (DuR c Q H) := by
 obtain ⟨l1, l2, l3⟩ := hD.lt
 refine aret_one H.length (Nat.le_refl _) (by rw [gt_cons, if_pos rfl]; rfl) ?_
 rw [gt_cons, if_pos rfl]
 refine ⟨b, rfl, hb, ⟨by rw [List.length_take, h.len]; omega, fun j h1 h2 => ?_⟩, h.du.take l1 l2 l3⟩
 rw [List.getElem?_take]
 split
 ·rename_i hj; exact h.up j hj h1 h2
 ·rename_i hj; rw [List.getElem?_eq_none (by omega)]
def CovK (c : Cx) (to : List Int) (l : List PP) (a b : List Int) : Prop :=
 to.length = b.length ∧ l.length = b.length ∧
 (∀ j, j < b.length → (0 ≤ to.getD j 0 ∧ to.getD j 0 < a.length) ∧
   (if (l.getD j default).nil then E c.O (c.tm (a.getD (to.getD j 0).toNat 0)) (c.tm (b.getD j 0)) else Sh c.O (l.getD j default) (c.tm (a.getD (to.getD j 0).toNat 0)) (c.tm (b.getD j 0)))) ∧
 (∀ x : Nat, x < a.length → 0 < pairsN to l x b.length → timesN to x b.length ≤ 1) ∧ ∃ x : Nat, x < a.length ∧ pairsN to l x b.length = 0
theorem CovK_iff {c : Cx} {to : List Int} {l : List PP} {a b : List Int} : CovK c to l a b ↔ Cov (E c.O) (Sh c.O) to l (a.map c.tm) (b.map c.tm) := by
 unfold CovK Cov
 simp only [List.length_map]
 refine and_congr_right fun _ => and_congr_right fun _ => and_congr_left fun _ => ⟨fun h j hj => ?_, fun h j hj => ?_⟩
 ·obtain ⟨h1, h2⟩ := h j hj
  refine ⟨h1, ?_⟩
  rw [getD_map0 (by omega), getD_map0 hj]; exact h2
 ·obtain ⟨h1, h2⟩ := h j hj
  rw [getD_map0 (by omega), getD_map0 hj] at h2
  exact ⟨h1, h2⟩
structure CI (c : Cx) (to : List Int) (l : List PP) (a b ts ps : List Int) (j : Nat) : Prop where
 lt : ts.length = a.length
 lp : ps.length = a.length
 t : ∀ x : Nat, x < a.length → ts.getD x 0 = timesN to x j
 p : ∀ x : Nat, x < a.length → ps.getD x 0 = pairsN to l x j
 ok : ∀ j', j' < j → (0 ≤ to.getD j' 0 ∧ to.getD j' 0 < a.length) ∧
  (if (l.getD j' default).nil then E c.O (c.tm (a.getD (to.getD j' 0).toNat 0)) (c.tm (b.getD j' 0)) else Sh c.O (l.getD j' default) (c.tm (a.getD (to.getD j' 0).toNat 0)) (c.tm (b.getD j' 0)))
theorem CI.step {c : Cx} {to : List Int} {l : List PP} {a b ts ps ps' : List Int} {j z : Nat} (h : CI c to l a b ts ps j) (hz : z < a.length) (ht : to.getD j 0 = z) (hp : ps' = if (l.getD j default).nil then ps.set z (ps.getD z 0 + 1) else ps)
 (hq : if (l.getD j default).nil then E c.O (c.tm (a.getD z 0)) (c.tm (b.getD j 0)) else Sh c.O (l.getD j default) (c.tm (a.getD z 0)) (c.tm (b.getD j 0))) : CI c to l a b (ts.set z (ts.getD z 0 + 1)) ps' (j + 1) := by
 obtain ⟨h1, h2, h3, h4, h5⟩ := h
 refine ⟨by simp [h1], by rw [hp]; split <;> simp [h2], fun x hx => ?_, fun x hx => ?_, fun j' hj' => ?_⟩
 ·rw [getD_set (by omega), timesN, ht]
  by_cases e : x = z
  ·subst e; rw [if_pos rfl, if_pos rfl, h3 x hx]; omega
  ·rw [if_neg e, if_neg (by omega), h3 x hx]; omega
 ·rw [hp, pairsN, ht]
  by_cases hn : (l.getD j default).nil
  ·rw [if_pos hn, getD_set (by omega)]
   by_cases e : x = z
   ·subst e; rw [if_pos rfl, if_pos ⟨rfl, hn⟩, h4 x hx]; omega
   ·rw [if_neg e, if_neg (fun h => by have := h.1; omega), h4 x hx]; omega
  ·rw [if_neg hn, if_neg (fun h => hn h.2), h4 x hx]; omega
 ·by_cases e : j' = j
  ·subst e; rw [ht]; exact ⟨by omega, hq⟩
  ·exact h5 j' (by omega)
theorem timesN_le (to : List Int) (x : Int) : ∀ n, timesN to x n ≤ n
 | 0 => Nat.le_refl _
 | n + 1 => by rw [timesN]; have := timesN_le to x n; split <;> omega
theorem pairsN_le (to : List Int) (l : List PP) (x : Int) (n : Nat) : pairsN to l x n ≤ n := Nat.le_trans (pairs_le_times n) (timesN_le to x n)
theorem wrap_sum {m n : Nat} (hm : m < 9223372036854775808) (hn : n < 9223372036854775808) : IntKind.i64.wrap ((m : Int) + (n : Int)) = 0 ↔ m = 0 ∧ n = 0 := by
 rw [IntKind.wrap_i64]
 omega
theorem getD_repI (n x : Nat) : (repI 0 n 0).getD x 0 = 0 := by
 simp only [repI, List.replicate_zero, List.nil_append, Nat.sub_zero, List.getD_eq_getElem?_getD, List.getElem?_replicate]
 split <;> rfl
end Go.Abs
end
section
set_option maxRecDepth 100000
namespace Go.Abs
open Go Go.Proofs Go.Rpo
theorem c156 {c : Cx} {a b : List Int} {va vb : AV} (ha : IL va a) (hb : IL vb b) (la : a.length ≤ 1000000000) (lb : b.length ≤ 1000000000) (p : PP) (hs : ∀ x ∈ a, ∀ y ∈ b, SameC c x y) (hh : ∀ x ∈ a, ∀ y ∈ b, ∀ q ∈ p.l, HoldC c x y q) {H : List AObj} (hD : Du c H) :
 ACalls Tryz.prog 156 [.ptr c.d 0, va, vb, ppA p] H (DuR c (CovK c p.to p.l a b) H) := by
 refine k156.2.calls rfl ?_
 simp only [k156, mkF]
 obtain ⟨a1, a2, a3, a4⟩ := ha.one
 obtain ⟨b1, b2, b3, b4⟩ := hb.one
 obtain ⟨p1, p2, p3, p4, p5, p6, p7, p8, p9⟩ := ppA_facts p
 have no : ¬ CovK c p.to p.l a b → aret H.length [.t 8] [(8, .bool false)] H (DuR c (CovK c p.to p.l a b) H) := fun h => retB rfl ⟨fun h => by simp at h, fun h' => absurd h' h⟩ (Up.refl c H) hD
 by_cases h1 : p.to.length = b.length
 ·by_cases h2 : p.l.length = b.length
  ·have d1 : decide ((p.to.length : Int) ≠ b.length) = false := decide_eq_false (by omega)
   have d2 : decide ((p.l.length : Int) ≠ b.length) = false := decide_eq_false (by omega)
   simp +contextual only [a2, b2, p1, fP2, fP3, ha.lenOk, hb.lenOk, hb.len (by omega), ints_len, ppAs_len, h1, h2, not_true_eq_false, decide_false, sZ, Nat.reduceEqDiff, Nat.reduceAdd, ↓reduceIte, reduceCtorEq]
   intro _
   refine lenad_mono (K1 := fun e G => get e 0 = .ptr c.d 0 ∧ get e 1 = va ∧ get e 2 = vb ∧ get e 7 = .iptr (ppA p) ∧ ∃ x y, get e 9 = .arr x 0 a.length a.length ∧ get e 10 = .arr y 0 a.length a.length ∧ PQ H x y ∧ CS c H x y (repI 0 a.length 0) (repI 0 a.length 0) G) ?_ ?_
   ·have key : ∀ G, G = H ++ [objI (repI 0 a.length 0), objI (repI 0 a.length 0)] → CS c H H.length (H.length + 1) (repI 0 a.length 0) (repI 0 a.length 0) G ∧ CS c H (H.length + 1) H.length (repI 0 a.length 0) (repI 0 a.length 0) G := by
     rintro G rfl
     exact ⟨⟨hD.app _, by simp, by simp, by simp, fun j hj _ _ => List.getElem?_append_left hj⟩, ⟨hD.app _, by simp, by simp, by simp, fun j hj _ _ => List.getElem?_append_left hj⟩⟩
    have A := key _ rfl
    simp +contextual only [a2, ha.lenD, ha.lenOk, mkI _ _ _ la, sZ, Nat.reduceEqDiff, Nat.reduceAdd, ↓reduceIte, reduceCtorEq]
    refine ⟨⟨_, _, rfl, rfl, ⟨by omega, by omega, by omega⟩, ?_⟩, ⟨_, _, rfl, rfl, ⟨by omega, by omega, by omega⟩, ?_⟩⟩
    ·exact A.1
    ·exact A.2
   ·rintro e G ⟨e0, e1, e2, e7, x, y, e9, e10, hw, hcs⟩
    simp +contextual only [e0, e1, e2, e7, e9, e10, fP2, ints_len, h1, sZ, Nat.reduceEqDiff, ↓reduceIte, reduceCtorEq]
    intro _
    refine swp_loop_st b.length (fun j (s : List AObj × List Int × List Int) => CS c H x y s.2.1 s.2.2 s.1 ∧ CI c p.to p.l a b s.2.1 s.2.2 j)
     (fun j s => [(0, .ptr c.d 0), (1, va), (2, vb), (7, .iptr (ppA p)), (9, .arr x 0 a.length a.length), (10, .arr y 0 a.length a.length), (37, .lst 0 (ints p.to)), (38, .int .i64 b.length), (39, .int .i64 j)])
     (fun j s => s.1) (G, repI 0 a.length 0, repI 0 a.length 0) ⟨⟨hcs, ?_⟩, sle_refl _ _ _⟩ fun j s hj hI => ?_
    ·exact ⟨by simp [repI], by simp [repI], fun z _ => by rw [getD_repI]; rfl, fun z _ => by rw [getD_repI]; rfl, fun j h => by omega⟩
    ·obtain ⟨G, ts, ps⟩ := s
     obtain ⟨hcs, hci⟩ := hI
     simp only at hcs hci
     by_cases hjb : (j : Int) < b.length
     ·have hjl : j < b.length := by omega
      obtain ⟨to, hto⟩ : ∃ to, p.to.getD j 0 = to := ⟨_, rfl⟩
      by_cases r1 : to < 0
      ·simp +contextual only [hjb, decide_true, idx_intsI, Int.toNat_natCast, hto, r1, sZ, Nat.reduceEqDiff, ↓reduceIte, reduceCtorEq]
       refine ⟨by omega, hcs.fin hD ⟨fun h => by simp at h, fun h => ?_⟩⟩
       have := (h.2.2.1 j hjl).1; omega
      ·by_cases r2 : (a.length : Int) ≤ to
       ·simp +contextual only [hjb, decide_true, decide_false, a2, ha.lenOk, ha.len (by omega), idx_intsI, Int.toNat_natCast, hto, r1, r2, sZ, Nat.reduceEqDiff, ↓reduceIte, reduceCtorEq]
        refine ⟨by omega, hcs.fin hD ⟨fun h => by simp at h, fun h => ?_⟩⟩
        have := (h.2.2.1 j hjl).1; omega
       ·obtain ⟨z, rfl⟩ := Int.eq_ofNat_of_zero_le (show 0 ≤ to by omega)
        have hz : z < a.length := by omega
        have gt := hcs.gp
        have gp := hcs.gq
        have lt := hci.lt
        have lp := hci.lp
        have hzt : z < ts.length := by omega
        have hzp : z < ps.length := by omega
        simp +contextual only [hjb, decide_true, decide_false, a2, ha.lenOk, ha.len (by omega), idx_intsI, Int.toNat_natCast, hto, r1, r2, idxO, gt, ldIo hzt, stIo hzt, sZ, Nat.reduceEqDiff, ↓reduceIte, reduceCtorEq]
        have hcs1 := hcs.setP (ts' := ts.set z (IntKind.i64.wrap (ts.getD z 0 + 1))) hD hw
        have tz := hci.t z hz
        have tle := timesN_le p.to z j
        rw [wrap_in _ (by omega)] at hcs1 ⊢
        generalize G.set x (objI (ts.set z (ts.getD z 0 + 1))) = G1 at hcs1 ⊢
        have ql : p.l.getD j default ∈ p.l := mem_getDP (by omega)
        obtain ⟨q, hq⟩ : ∃ q, p.l.getD j default = q := ⟨_, rfl⟩
        rw [hq] at ql
        obtain ⟨q1, q2, q3, q4, q5, q6, q7, q8, q9⟩ := ppA_facts q
        refine ⟨by omega, hz, hz, ?_⟩
        simp +contextual only [fP3, idx_pp, lens_pp, li_pp, hq, Int.toNat_natCast, q1, q2, q3, fP0, fP1, fP2, ints_len, ppAs_len, sZ, Nat.reduceEqDiff, ↓reduceIte, reduceCtorEq]
        refine ⟨by omega, fun hr => ⟨fun hi l1 l2 => ⟨fun hw' => ?_, fun hw' => ?_⟩, fun hi => ?_⟩, fun hr => ?_⟩
        ·have hwz := (wrap_sum l1 l2).1 hw'
         have hnil : (p.l.getD j default).nil := by rw [hq]; exact ⟨hr, hi, List.length_eq_zero_iff.1 hwz.1, List.length_eq_zero_iff.1 hwz.2⟩
         have gp1 := hcs1.gq
         have hcs2 := hcs1.setQ (ps' := ps.set z (IntKind.i64.wrap (ps.getD z 0 + 1))) hD hw
         have tp := hci.p z hz
         have ple := pairsN_le p.to p.l z j
         simp +contextual only [idxO, gp1, ldIo hzp, stIo hzp, sZ, Nat.reduceEqDiff, ↓reduceIte, reduceCtorEq]
         rw [wrap_in _ (by omega)] at hcs2 ⊢
         generalize G1.set y (objI (ps.set z (ps.getD z 0 + 1))) = G2 at hcs2 ⊢
         refine ⟨hz, hz, ?_⟩
         simp +contextual only [a2, b2, ha.lens, hb.lens, ha.idx, hb.idx, Int.toNat_natCast, sZ, Nat.reduceEqDiff, Nat.reduceAdd, ↓reduceIte, reduceCtorEq]
         refine ⟨by omega, by omega, scall_to (hs _ (getD_mem hz) _ (getD_mem hjl) G2 hcs2.du) ?_⟩
         rintro r G3 ⟨w, rfl, hwE, hU, hD3⟩
         have hcs3 := hcs2.call hD hw hU hD3
         cases w with
         | false =>
           simp +contextual only [Bool.not_false, sZ, Nat.reduceEqDiff, ↓reduceIte, reduceCtorEq]
           refine hcs3.fin hD ⟨fun h => by simp at h, fun h => ?_⟩
           have := (h.2.2.1 j hjl).2
           rw [if_pos hnil, hto, Int.toNat_natCast] at this
           exact hwE.2 this
         | true =>
           simp +contextual only [Bool.not_true, sZ, Nat.reduceEqDiff, ↓reduceIte, reduceCtorEq]
           refine ⟨j + 1, (G3, _, _), ⟨hjl, hcs3, hci.step hz hto (by rw [if_pos hnil]) (by rw [if_pos hnil]; exact hwE.1 rfl)⟩, by omega, sle_eq (by rw [wrap_nat j (by omega)]) rfl⟩
        all_goals
         have hnil : ¬ (p.l.getD j default).nil := by
          rw [hq]
          rintro ⟨n1, n2, n3, n4⟩
          first | exact hr n1 | exact hi n2 | exact hw' ((wrap_sum l1 l2).2 ⟨by rw [n3]; rfl, by rw [n4]; rfl⟩)
         simp +contextual only [a2, b2, q4, ha.lens, hb.lens, ha.idx, hb.idx, Int.toNat_natCast, li_pp, sZ, Nat.reduceEqDiff, Nat.reduceAdd, ↓reduceIte, reduceCtorEq]
         refine ⟨by omega, by omega, scall_to (hh _ (getD_mem hz) _ (getD_mem hjl) q ql G1 hcs1.du) ?_⟩
         rintro r G3 ⟨w, rfl, hwE, hU, hD3⟩
         have hcs3 := hcs1.call hD hw hU hD3
         cases w with
         | false =>
           simp +contextual only [Bool.not_false, sZ, Nat.reduceEqDiff, ↓reduceIte, reduceCtorEq]
           refine hcs3.fin hD ⟨fun h => by simp at h, fun h => ?_⟩
           have := (h.2.2.1 j hjl).2
           rw [if_neg hnil, hto, hq, Int.toNat_natCast] at this
           exact hwE.2 this
         | true =>
           simp +contextual only [Bool.not_true, sZ, Nat.reduceEqDiff, ↓reduceIte, reduceCtorEq]
           refine ⟨j + 1, (G3, _, _), ⟨hjl, hcs3, hci.step hz hto (by rw [if_neg hnil]) (by rw [if_neg hnil, hq]; exact hwE.1 rfl)⟩, by omega, sle_eq (by rw [wrap_nat j (by omega)]) rfl⟩
     ·have hje : j = b.length := by omega
      subst hje
      simp +contextual only [hjb, decide_false, a2, ha.lenOk, ha.len (by omega), sZ, Nat.reduceEqDiff, ↓reduceIte, reduceCtorEq]
      refine swp_loop_st a.length (fun x' (f : Bool) => (∀ z : Nat, z < x' → 0 < pairsN p.to p.l z b.length → timesN p.to z b.length ≤ 1) ∧ (f = true ↔ ∃ z : Nat, z < x' ∧ pairsN p.to p.l z b.length = 0))
       (fun x' f => [(9, .arr x 0 a.length a.length), (10, .arr y 0 a.length a.length), (14, .bool f), (112, .int .i64 a.length), (113, .int .i64 x')]) (fun _ _ => G) false
       ⟨⟨fun z h => by omega, ⟨fun h => by simp at h, fun ⟨z, h, _⟩ => by omega⟩⟩, sle_refl _ _ _⟩ fun z f hz hI => ?_
      obtain ⟨hno, hfr⟩ := hI
      by_cases hza : (z : Int) < a.length
      ·have hzl : z < a.length := by omega
       have gt := hcs.gp
       have gp := hcs.gq
       have lt := hci.lt
       have lp := hci.lp
       have hzt : z < ts.length := by omega
       have hzp : z < ps.length := by omega
       have tz := hci.t z hzl
       have pz := hci.p z hzl
       by_cases k1 : pairsN p.to p.l z b.length = 0
       ·have p0 : ps.getD z 0 = 0 := by omega
        cases f <;>
         (simp +contextual only [hza, decide_true, idxO, gp, ldIo hzp, p0, Int.lt_irrefl, decide_false, sZ, Nat.reduceEqDiff, ↓reduceIte, reduceCtorEq]
          refine ⟨hzl, ?_⟩
          first
           | refine ⟨hzl, z + 1, true, ⟨hzl, fun z' hz' => ?_, ⟨fun _ => ⟨z, by omega, k1⟩, fun _ => rfl⟩⟩, by omega, sle_eq (by rw [wrap_nat z (by omega)]) rfl⟩
           | refine ⟨z + 1, true, ⟨hzl, fun z' hz' => ?_, ⟨fun _ => ⟨z, by omega, k1⟩, fun _ => rfl⟩⟩, by omega, sle_eq (by rw [wrap_nat z (by omega)]) rfl⟩
          by_cases e : z' = z
          ·subst e; intro h; omega
          ·exact hno z' (by omega))
       ·have p0 : (0 < ps.getD z 0) = True := eq_true (by omega)
        have p1' : (ps.getD z 0 = 0) = False := eq_false (by omega)
        by_cases k2 : timesN p.to z b.length ≤ 1
        ·have t0 : (1 < ts.getD z 0) = False := eq_false (by omega)
         have nxt : (∀ z' : Nat, z' < z + 1 → 0 < pairsN p.to p.l z' b.length → timesN p.to z' b.length ≤ 1) := by
          intro z' hz'
          by_cases e : z' = z
          ·subst e; intro _; exact k2
          ·exact hno z' (by omega)
         have nfr : (f = true ↔ ∃ z' : Nat, z' < z + 1 ∧ pairsN p.to p.l z' b.length = 0) := by
          rw [hfr]
          constructor
          ·rintro ⟨z', h1, h2⟩; exact ⟨z', by omega, h2⟩
          ·rintro ⟨z', h1, h2⟩
           have : z' ≠ z := fun e => k1 (e ▸ h2)
           exact ⟨z', by omega, h2⟩
         cases f <;>
          (simp +contextual only [hza, decide_true, idxO, gt, gp, ldIo hzt, ldIo hzp, p0, p1', t0, decide_false, sZ, Nat.reduceEqDiff, ↓reduceIte, reduceCtorEq]
           refine ⟨hzl, hzl, ?_⟩
           first
            | exact ⟨hzl, z + 1, _, ⟨hzl, nxt, nfr⟩, by omega, sle_eq (by rw [wrap_nat z (by omega)]) rfl⟩
            | exact ⟨z + 1, _, ⟨hzl, nxt, nfr⟩, by omega, sle_eq (by rw [wrap_nat z (by omega)]) rfl⟩)
        ·have t0 : (1 < ts.getD z 0) = True := eq_true (by omega)
         simp +contextual only [hza, decide_true, idxO, gt, gp, ldIo hzt, ldIo hzp, p0, t0, sZ, Nat.reduceEqDiff, ↓reduceIte, reduceCtorEq]
         refine ⟨hzl, hzl, hcs.fin hD ⟨fun h => by simp at h, fun h => ?_⟩⟩
         exact absurd (h.2.2.2.1 z hzl (by omega)) k2
      ·have hze : z = a.length := by omega
       subst hze
       simp +contextual only [hza, decide_false, sZ, Nat.reduceEqDiff, ↓reduceIte, reduceCtorEq]
       refine hcs.fin hD ?_
       rw [hfr]
       exact ⟨fun h => ⟨h1, h2, hci.ok, hno, h⟩, fun h => h.2.2.2.2⟩
  ·have d1 : decide ((p.to.length : Int) ≠ b.length) = false := decide_eq_false (by omega)
   have d2 : ((p.l.length : Int) = b.length) = False := eq_false (by omega)
   simp +contextual only [b2, p1, fP2, fP3, hb.lenOk, hb.len (by omega), ints_len, ppAs_len, h1, d2, not_true_eq_false, not_false_eq_true, decide_false, decide_true, sZ, Nat.reduceEqDiff, Nat.reduceAdd, ↓reduceIte, reduceCtorEq]
   intro _ _
   exact no fun h => h2 h.2.1
 ·have d1 : ((p.to.length : Int) = b.length) = False := eq_false (by omega)
  simp +contextual only [b2, p1, fP2, hb.lenOk, hb.len (by omega), ints_len, d1, not_false_eq_true, decide_true, sZ, Nat.reduceEqDiff, Nat.reduceAdd, ↓reduceIte, reduceCtorEq]
  intro _
  exact no fun h => h1 h.1
end Go.Abs
end
section
set_option maxRecDepth 100000
set_option maxHeartbeats 0
namespace Go.Abs
open Go Go.Proofs
noncomputable def k87v := mkF Tryz.call87 Tryz.func87 Tryz.ntmps87 [(0,0,1),(0,1,1),(0,2,1),(12,7,2000),(13,11,2000),(17,10,2000),(20,36,2000),(23,3,2000),(24,20,2000),(24,27,2000),(26,10,2000)] [(0,[2,4,5,7]),(1,[2,4,5,7,9,10]),(2,[2,4,5,7,9,10,11]),(3,[2,4,5,7,9,10,11,14]),(4,[2,4,5,7,9,10,11,76]),(5,[8]),(6,[2,4,5,7,9,10,11,15,16]),(7,[2,4,5,7,9,10,11,15,16,85]),(8,[2,4,5,7,9,10,11,15,16,85,86]),(9,[2,4,7,9,103]),(10,[8]),(11,[2,4,7,9,107]),(12,[8]),(13,[8]),(14,[2,4,5,7,9,10,11,15,16,85,128]),(15,[2,4,7,11,17]),(16,[7,11,17,20,22]),(17,[8]),(18,[4,7,9,10,11,15,16,85,156]),(19,[4,7,11,15,16,23,24]),(20,[4,7,11,23,24,202]),(21,[8]),(22,[4,7,11,23,24,207]),(23,[8]),(24,[8]),(25,[4,7,9,10,15,16,241]),(26,[8]),(27,[8])] [(1,(.take 0 true (.take 1 true (.take 2 true (.take 3 true (.take 4 true (.take 5 true (.take 6 true (.take 7 true (.take 8 true (.take 9 true (.take 10 true (.take 11 true (.take 12 true (.take 13 true (.take 14 true (.take 15 true (.br 16 (.take 17 true (.br 18 .done .nil)) .nil)))))))))))))))))),(12,(.take 0 true (.take 1 true (.take 2 true (.take 3 true (.take 4 true (.take 5 true (.take 6 true (.br 7 (.take 8 true .done) .nil))))))))),(13,(.take 0 true (.take 1 true (.take 2 true (.take 3 true (.take 4 true (.take 5 true (.take 6 true (.take 7 true (.take 8 true (.take 9 true (.take 10 true (.br 11 (.take 12 true .done) .nil))))))))))))),(19,(.take 0 true (.take 1 true (.take 2 true (.take 3 true (.take 4 true (.take 5 true (.take 6 true (.take 7 true .done))))))))),(20,(.take 0 true (.take 1 true (.take 2 true (.take 3 true (.take 4 true (.take 5 true (.take 6 true (.take 7 true (.take 8 true (.take 9 true (.take 10 true (.take 11 true (.take 12 true (.take 13 true (.take 14 true (.take 15 true (.take 16 true (.take 17 true (.take 18 true (.take 19 true (.take 20 true (.take 21 true (.take 22 true (.take 23 true (.take 24 true (.take 25 true (.take 26 true (.take 27 true (.take 28 true (.take 29 true (.take 30 true (.take 31 true (.take 32 true (.take 33 true (.take 34 true (.take 35 true (.br 36 (.take 37 true (.take 38 true .done)) .nil)))))))))))))))))))))))))))))))))))))),(24,(.take 0 true (.take 1 true (.take 2 true (.take 3 true (.take 4 true (.take 5 true (.take 6 true (.take 7 true (.take 8 true (.take 9 true (.take 10 true (.take 11 true (.take 12 true (.take 13 true (.take 14 true (.take 15 true (.take 16 true (.take 17 true (.take 18 true (.take 19 true (.br 20 (.take 21 true (.take 22 true (.take 23 true (.take 24 true (.take 25 true (.take 26 true (.br 27 (.take 28 true (.take 29 true .done)) .nil))))))) .nil))))))))))))))))))))))]
end Go.Abs
end
section
set_option maxRecDepth 100000
namespace Go.Abs
open Go Go.Proofs Go.Rpo
theorem Sh_op {O : Od} {p : PP} {a b : T} (h : Sh O p a b) : a.k = 2 := (Sh_iff.1 h).1
theorem Sh1 {O : Od} {p : PP} {a b : T} (hr : p.r = 1) (ha : a.k = 2) : Sh O p a b ↔ p.to = [] ∧ (0 ≤ p.i ∧ p.i < a.l.length) ∧ ((p.l = [] ∧ E O (a.l.getD p.i.toNat default) b) ∨ ∃ q, p.l = [q] ∧ Sh O q (a.l.getD p.i.toNat default) b) := by
 rw [Sh_iff, Fs]; simp [hr, ha]
theorem Sh2 {O : Od} {p : PP} {a b : T} (hr : p.r = 2) (ha : a.k = 2) : Sh O p a b ↔ p.to = [] ∧ p.i = 0 ∧ b.k = 2 ∧ O.pl b.n < O.pl a.n ∧ AllS (Sh O) p.l a b.l := by
 rw [Sh_iff, Fs]; simp [hr, ha]
theorem Sh3 {O : Od} {p : PP} {a b : T} (hr : p.r = 3) (ha : a.k = 2) : Sh O p a b ↔ p.to = [] ∧ b.k = 2 ∧ O.pl a.n = O.pl b.n ∧ O.sp (O.pl a.n) ≠ 3 ∧ LexS (E O) (Sh O) p.i p.l a (side (O.sp (O.pl a.n)) a.l) (side (O.sp (O.pl a.n)) b.l) b.l := by
 rw [Sh_iff, Fs]; simp [hr, ha]
theorem Sh4 {O : Od} {p : PP} {a b : T} (hr : p.r = 4) (ha : a.k = 2) : Sh O p a b ↔ p.i = 0 ∧ b.k = 2 ∧ O.pl a.n = O.pl b.n ∧ O.sp (O.pl a.n) = 3 ∧ Cov (E O) (Sh O) p.to p.l a.l b.l := by
 rw [Sh_iff, Fs]; simp [hr, ha]
theorem Sh0 {O : Od} {p : PP} {a b : T} (h1 : p.r ≠ 1) (h2 : p.r ≠ 2) (h3 : p.r ≠ 3) (h4 : p.r ≠ 4) : ¬ Sh O p a b := by
 rw [Sh_iff, Fs]; simp [h1, h2, h3, h4]
theorem slT (l : List Int) (n : Int) (h : 0 ≤ n ∧ n ≤ l.length) (φ : AV → Prop) : asliceX 1 (.lst 0 (ints l)) none (some (.int .i64 n)) none φ = φ (.lst 0 (ints (l.take n.toNat))) := by
 have er : rlist (AV.lst 0 (ints l)) = some (ints l) := rfl
 have e2 : ((ints l).take n.toNat).drop 0 = ints (l.take n.toNat) := by rw [List.drop_zero, ints_take]
 simp only [asliceX, aslice, er, aidx, e2, eq_iff_iff]
 constructor
 ·intro h; exact h.2.2.2.2
 ·intro h'
  refine ⟨fun own xs he z hz => ?_, by omega, by omega, by have := ints_len l; omega, h'⟩
  cases he
  obtain ⟨y, _, rfl⟩ := List.mem_map.1 hz
  rfl
theorem tailP (x : PP) (r : List PP) (φ : AV → Prop) : asliceX 4 (.lst 0 (ppAs (x :: r))) (some (.int .i64 1)) none none φ = φ (.lst 0 (ppAs r)) := by
 have er : rlist (AV.lst 0 (ppAs (x :: r))) = some (ppAs (x :: r)) := rfl
 have e1 : (1 : Int).toNat = 1 := rfl
 have e2 : ((ppAs (x :: r)).take (ppAs (x :: r)).length).drop 1 = ppAs r := by rw [List.take_length]; rfl
 simp only [asliceX, aslice, er, aidx, e1, e2, eq_iff_iff]
 constructor
 ·intro h; exact h.2.2.2.2
 ·intro h
  refine ⟨fun own xs he z hz => of_eq_true (lens_pp 0 (x :: r)) own xs he z hz, by omega, by simp [ppAs_len], Nat.le_refl _, h⟩
theorem mem_sideI {s : Int} {l : List Int} {x : Int} : x ∈ sideI s l ↔ x ∈ l := by unfold sideI; split <;> simp
theorem c87_1 {c : Cx} (hc : c.Ok) {p : PP} {i k : Int} (hi : c.isN i) (hk : c.isN k) (hsub : ∀ q ∈ p.l, ∀ x y, c.isN x → c.isN y → HoldC c x y q) (hr1 : p.r = 1) : HoldC c i k p := by
 intro H hD
 refine k87v.2.calls rfl ?_
 simp only [k87v, mkF]
 obtain ⟨p1, p2, p3, p4, p5, p6, p7, p8, p9⟩ := ppA_facts p
 have k2 : ∀ l, (kav l).unown = kav l := fun l => (kav_one l).2.1
 have ki := hc.kids i hi
 have kk := hc.kids k hk
 have l1 := hc.kl i hi
 have l2 := hc.kl k hk
 obtain ⟨a1, a2, a3, a4, a5⟩ := kav_one (c.kd i)
 obtain ⟨b1, b2, b3, b4, b5⟩ := kav_one (c.kd k)
 have ii : IL (kav (c.kd i)) (c.kd i) := .inl rfl
 have ik : IL (kav (c.kd k)) (c.kd k) := .inl rfl
 have ei : (c.nd.getD i.toNat default).snd = c.kd i := rfl
 have ek : (c.nd.getD k.toNat default).snd = c.kd k := rfl
 obtain ⟨m1, m2, m3⟩ := hD.lt
 have hD1 : Du c (H ++ [.cells [kav (c.kd k)]]) := hD.app _
 have fin : ∀ G (b : Bool), Up c (H ++ [.cells [kav (c.kd k)]]) G → Du c G → (b = true ↔ Sh c.O p (c.tm i) (c.tm k)) → aret H.length [.t 8] [(8, .bool b)] G (DuR c (Sh c.O p (c.tm i) (c.tm k)) H) := by
  intro G b u d hb
  refine aret_one H.length (Nat.le_refl _) (by rw [gt_cons, if_pos rfl]; rfl) ?_
  rw [gt_cons, if_pos rfl]
  exact ⟨b, rfl, hb, u.take, d.take m1 m2 m3⟩
 have fin0 : ¬ Sh c.O p (c.tm i) (c.tm k) → aret H.length [.t 8] [(8, .bool false)] (H ++ [.cells [kav (c.kd k)]]) (DuR c (Sh c.O p (c.tm i) (c.tm k)) H) :=
  fun h => fin _ _ (Up.refl c _) hD1 ⟨fun h => by simp at h, fun h' => absurd h' h⟩
 have spv : ∀ x : AV, asplice [AV.nils] 0 [x] = [x] := fun x => rfl
 simp +contextual only [p1, hD.d, idxN, fN3, len_navs, aload_kav, k2, ei, ek, b1, b3, b4, b5, List.map_cons, List.map_nil, spv, List.all_cons, List.all_nil, Bool.and_true, bl_cons, bl_nil, sZ, Nat.reduceEqDiff, Nat.reduceAdd, Nat.reduceLT, ↓reduceIte, reduceCtorEq]
 refine ⟨hi, hk, scall_to (c135 hc hi hD1) ?_⟩
 rintro r H2 ⟨rfl, rfl⟩
 cases hb : opB c i with
 | false =>
   have ki2 : ¬ (c.tm i).k = 2 := of_decide_eq_false hb
   simp +contextual only [opA_un, opA_0, opA_1, opA_2, hb, Bool.not_false, sZ, Nat.reduceEqDiff, ↓reduceIte, reduceCtorEq]
   exact fin0 fun h => ki2 (Sh_op h)
 | true =>
 have ki2 : (c.tm i).k = 2 := of_decide_eq_true hb
 have kid : ∀ (j : Int), (0 ≤ j ∧ j < (c.kd i).length) → (c.tm i).l.getD j.toNat default = c.tm ((c.kd i).getD j.toNat 0) := fun j hj => by rw [← ki.1, getD_map0 (by omega)]
 have klen : (c.tm i).l.length = (c.kd i).length := by rw [← ki.1]; simp
 have kn : ∀ (j : Int), (0 ≤ j ∧ j < (c.kd i).length) → c.isN ((c.kd i).getD j.toNat 0) := fun j hj => ki.2 _ (getD_mem (by omega))
 have lvun : (AV.tuple [.int .i64 (opS c i), .bool (lvB c i k)]).unown = .tuple [.int .i64 (opS c i), .bool (lvB c i k)] := rfl
 have hS := Sh1 (O := c.O) (b := c.tm k) hr1 ki2
 rw [klen] at hS
 simp +contextual only [opA_un, opA_0, opA_1, opA_2, hb, Bool.not_true, fP0, fP2, hr1, not_true_eq_false, not_false_eq_true, decide_true, decide_false, ints_len, sZ, Nat.reduceEqDiff, Nat.reduceAdd, ↓reduceIte, reduceCtorEq, Int.reduceEq]
 refine fun _ => ⟨fun h0 => ?_, fun h0 => fin0 fun h => ?_⟩
 ·have hto : p.to = [] := List.length_eq_zero_iff.1 (by omega)
  refine scall_to (c155 hc hi hk hD1) ?_
  rintro r H2 ⟨rfl, rfl⟩
  by_cases hI : 0 ≤ p.i ∧ p.i < (c.kd i).length
  ·have n1 : (p.i < 0) = False := eq_false (by omega)
   have n2 : (((c.kd i).length : Int) ≤ p.i) = False := eq_false (by omega)
   have hkn := kn p.i hI
   rw [kid p.i hI] at hS
   by_cases hL : p.l.length ≤ 1
   ·have n3 : (1 < (p.l.length : Int)) = False := eq_false (by omega)
    by_cases hL0 : p.l.length = 0
    ·have n4 : ((p.l.length : Int) = 0) = True := eq_true (by omega)
     simp +contextual only [k2, ii.lenOk, ii.len (by omega), ii.lens, ii.idx, fP0, fP1, fP3, ppAs_len, lvun, decide_true, decide_false, hr1, n1, n2, n3, n4, sZ, Nat.reduceEqDiff, Nat.reduceAdd, Nat.reduceLT, ↓reduceIte, reduceCtorEq]
     refine fun _ => ⟨hI, scall_to (same_c hc hkn hk _ hD1) ?_⟩
     rintro r G ⟨x, rfl, hx, hU, hD'⟩
     simp +contextual only [sZ, ↓reduceIte, reduceCtorEq]
     refine fin G x hU hD' ?_
     rw [hx, hS]
     have : p.l = [] := List.length_eq_zero_iff.1 hL0
     simp [hto, hI, this]
    ·have n4 : ((p.l.length : Int) = 0) = False := eq_false (by omega)
     have hm : p.l.getD 0 default ∈ p.l := mem_getDP (by omega)
     obtain ⟨q1, q2, q3, q4, q5, q6, q7, q8, q9⟩ := ppA_facts (p.l.getD 0 default)
     have t0 : (0 : Int).toNat = 0 := rfl
     simp +contextual only [k2, ii.lenOk, ii.len (by omega), ii.lens, ii.idx, fP0, fP1, fP3, idx_pp, lens_pp, li_pp, ppAs_len, lvun, decide_true, decide_false, hr1, n1, n2, n3, n4, t0, q4, sZ, Nat.reduceEqDiff, Nat.reduceAdd, Nat.reduceLT, ↓reduceIte, reduceCtorEq]
     refine fun _ => ⟨hI, ⟨by omega, by omega⟩, scall_to (hsub _ hm _ _ hkn hk _ hD1) ?_⟩
     rintro r G ⟨x, rfl, hx, hU, hD'⟩
     simp +contextual only [sZ, ↓reduceIte, reduceCtorEq]
     refine fin G x hU hD' ?_
     rw [hx, hS]
     obtain ⟨q, hq⟩ : ∃ q, p.l = [q] := List.length_eq_one_iff.1 (by omega)
     simp [hto, hI, hq]
   ·have n3 : (1 < (p.l.length : Int)) = True := eq_true (by omega)
    simp +contextual only [k2, ii.lenOk, ii.len (by omega), fP0, fP1, fP3, ppAs_len, lvun, decide_true, decide_false, hr1, n1, n2, n3, sZ, Nat.reduceEqDiff, Nat.reduceAdd, Nat.reduceLT, ↓reduceIte, reduceCtorEq]
    refine fun _ => fin0 fun h => ?_
    rcases (hS.1 h).2.2 with h | ⟨q, h, _⟩
    ·rw [h.1] at hL; simp at hL
    ·rw [h] at hL; simp at hL
  ·by_cases hI0 : p.i < 0
   ·simp +contextual only [fP0, fP1, lvun, decide_true, hr1, hI0, sZ, Nat.reduceEqDiff, Nat.reduceAdd, Nat.reduceLT, ↓reduceIte, reduceCtorEq]
    exact fin0 fun h => hI (hS.1 h).2.1
   ·have n2 : (((c.kd i).length : Int) ≤ p.i) = True := eq_true (by omega)
    simp +contextual only [k2, ii.lenOk, ii.len (by omega), fP0, fP1, lvun, decide_true, decide_false, hr1, hI0, n2, sZ, Nat.reduceEqDiff, Nat.reduceAdd, Nat.reduceLT, ↓reduceIte, reduceCtorEq]
    exact fin0 fun h => hI (hS.1 h).2.1
 ·rw [(hS.1 h).1] at h0; simp at h0
theorem c87_2 {c : Cx} (hc : c.Ok) {p : PP} {i k : Int} (hi : c.isN i) (hk : c.isN k) (hsub : ∀ q ∈ p.l, ∀ x y, c.isN x → c.isN y → HoldC c x y q) (hr2 : p.r = 2) : HoldC c i k p := by
 intro H hD
 refine k87v.2.calls rfl ?_
 simp only [k87v, mkF]
 obtain ⟨p1, p2, p3, p4, p5, p6, p7, p8, p9⟩ := ppA_facts p
 have k2 : ∀ l, (kav l).unown = kav l := fun l => (kav_one l).2.1
 have ki := hc.kids i hi
 have kk := hc.kids k hk
 have l1 := hc.kl i hi
 have l2 := hc.kl k hk
 obtain ⟨a1, a2, a3, a4, a5⟩ := kav_one (c.kd i)
 obtain ⟨b1, b2, b3, b4, b5⟩ := kav_one (c.kd k)
 have ii : IL (kav (c.kd i)) (c.kd i) := .inl rfl
 have ik : IL (kav (c.kd k)) (c.kd k) := .inl rfl
 have ei : (c.nd.getD i.toNat default).snd = c.kd i := rfl
 have ek : (c.nd.getD k.toNat default).snd = c.kd k := rfl
 obtain ⟨m1, m2, m3⟩ := hD.lt
 have hD1 : Du c (H ++ [.cells [kav (c.kd k)]]) := hD.app _
 have fin : ∀ G (b : Bool), Up c (H ++ [.cells [kav (c.kd k)]]) G → Du c G → (b = true ↔ Sh c.O p (c.tm i) (c.tm k)) → aret H.length [.t 8] [(8, .bool b)] G (DuR c (Sh c.O p (c.tm i) (c.tm k)) H) := by
  intro G b u d hb
  refine aret_one H.length (Nat.le_refl _) (by rw [gt_cons, if_pos rfl]; rfl) ?_
  rw [gt_cons, if_pos rfl]
  exact ⟨b, rfl, hb, u.take, d.take m1 m2 m3⟩
 have fin0 : ¬ Sh c.O p (c.tm i) (c.tm k) → aret H.length [.t 8] [(8, .bool false)] (H ++ [.cells [kav (c.kd k)]]) (DuR c (Sh c.O p (c.tm i) (c.tm k)) H) :=
  fun h => fin _ _ (Up.refl c _) hD1 ⟨fun h => by simp at h, fun h' => absurd h' h⟩
 have spv : ∀ x : AV, asplice [AV.nils] 0 [x] = [x] := fun x => rfl
 simp +contextual only [p1, hD.d, idxN, fN3, len_navs, aload_kav, k2, ei, ek, b1, b3, b4, b5, List.map_cons, List.map_nil, spv, List.all_cons, List.all_nil, Bool.and_true, bl_cons, bl_nil, sZ, Nat.reduceEqDiff, Nat.reduceAdd, Nat.reduceLT, ↓reduceIte, reduceCtorEq]
 refine ⟨hi, hk, scall_to (c135 hc hi hD1) ?_⟩
 rintro r H2 ⟨rfl, rfl⟩
 cases hb : opB c i with
 | false =>
   have ki2 : ¬ (c.tm i).k = 2 := of_decide_eq_false hb
   simp +contextual only [opA_un, opA_0, opA_1, opA_2, hb, Bool.not_false, sZ, Nat.reduceEqDiff, ↓reduceIte, reduceCtorEq]
   exact fin0 fun h => ki2 (Sh_op h)
 | true =>
 have ki2 : (c.tm i).k = 2 := of_decide_eq_true hb
 have kid : ∀ (j : Int), (0 ≤ j ∧ j < (c.kd i).length) → (c.tm i).l.getD j.toNat default = c.tm ((c.kd i).getD j.toNat 0) := fun j hj => by rw [← ki.1, getD_map0 (by omega)]
 have klen : (c.tm i).l.length = (c.kd i).length := by rw [← ki.1]; simp
 have kn : ∀ (j : Int), (0 ≤ j ∧ j < (c.kd i).length) → c.isN ((c.kd i).getD j.toNat 0) := fun j hj => ki.2 _ (getD_mem (by omega))
 have lvun : (AV.tuple [.int .i64 (opS c i), .bool (lvB c i k)]).unown = .tuple [.int .i64 (opS c i), .bool (lvB c i k)] := rfl
 have hS := Sh2 (O := c.O) (b := c.tm k) hr2 ki2
 have e1 : ((2 : Int) = 1) = False := by simp
 simp +contextual only [opA_un, opA_0, opA_1, opA_2, hb, Bool.not_true, fP0, fP1, fP2, hr2, not_true_eq_false, not_false_eq_true, decide_true, decide_false, ints_len, sZ, Nat.reduceEqDiff, Nat.reduceAdd, ↓reduceIte, reduceCtorEq, Int.reduceEq]
 have fAll : ∀ (G : List AObj) (Q : Prop) (b0 : Bool), True := fun _ _ _ => trivial
 have hAS : AllS (Sh c.O) p.l (c.tm i) ((c.kd k).map c.tm) ↔ AllS (Sh c.O) p.l (c.tm i) (c.tm k).l := by rw [kk.1]
 refine fun _ => ⟨fun h0 => ⟨fun hi0 => fin0 fun h => hi0 (hS.1 h).2.1, fun hi0 => ?_⟩, fun h0 => fin0 fun h => ?_⟩
 ·have hto : p.to = [] := List.length_eq_zero_iff.1 (by omega)
  refine scall_to (c155 hc hi hk hD1) ?_
  rintro r H2 ⟨rfl, rfl⟩
  simp +contextual only [fP0, lvun, decide_true, decide_false, hr2, e1, sZ, Nat.reduceEqDiff, Nat.reduceAdd, Nat.reduceLT, ↓reduceIte]
  refine scall_to (c135 hc hi hD1) ?_
  rintro r H2 ⟨rfl, rfl⟩
  simp +contextual only [opA_un, opA_0, opA_1, opA_2, sZ, Nat.reduceEqDiff, Nat.reduceAdd, ↓reduceIte]
  refine scall_to (c135 hc hk hD1) ?_
  rintro r H2 ⟨rfl, rfl⟩
  have opi : opP c i = c.O.pl (c.tm i).n := by rw [opP, if_pos ki2]
  cases hbk : opB c k with
  | false =>
    have kk2 : ¬ (c.tm k).k = 2 := of_decide_eq_false hbk
    simp +contextual only [opA_un, opA_0, opA_1, opA_2, hbk, sZ, Nat.reduceEqDiff, ↓reduceIte, reduceCtorEq]
    exact fin0 fun h => kk2 (hS.1 h).2.2.1
  | true =>
    have kk2 : (c.tm k).k = 2 := of_decide_eq_true hbk
    have opk : opP c k = c.O.pl (c.tm k).n := by rw [opP, if_pos kk2]
    by_cases hlt : opP c k < opP c i
    ·simp +contextual only [fP3, decide_true, opA_un, opA_0, opA_1, opA_2, hbk, hlt, sZ, Nat.reduceEqDiff, Nat.reduceAdd, ↓reduceIte, reduceCtorEq]
     refine scall_to (c151 ik (by omega) (q := H.length) ⟨by omega, by omega⟩ (fun j h1 h2 => hsub _ (mem_getDP h2) _ _ hi (kk.2 _ (getD_mem h1))) hD1 (by simp)) ?_
     rintro r G ⟨x, rfl, hx, hU, hD'⟩
     simp +contextual only [sZ, Nat.reduceEqDiff, ↓reduceIte, reduceCtorEq]
     refine fin G x hU hD' ?_
     rw [hx, hS, hAS]
     rw [opi, opk] at hlt
     simp [hto, hi0, kk2, hlt]
    ·simp +contextual only [decide_false, opA_un, opA_0, opA_1, opA_2, hbk, hlt, sZ, Nat.reduceEqDiff, ↓reduceIte, reduceCtorEq]
     refine fin0 fun h => hlt ?_
     rw [opi, opk]
     exact (hS.1 h).2.2.2.1
 ·rw [(hS.1 h).1] at h0; simp at h0
theorem c87_4 {c : Cx} (hc : c.Ok) {p : PP} {i k : Int} (hi : c.isN i) (hk : c.isN k) (hsub : ∀ q ∈ p.l, ∀ x y, c.isN x → c.isN y → HoldC c x y q) (hr4 : p.r = 4) : HoldC c i k p := by
 intro H hD
 refine k87v.2.calls rfl ?_
 simp only [k87v, mkF]
 obtain ⟨p1, p2, p3, p4, p5, p6, p7, p8, p9⟩ := ppA_facts p
 have k2 : ∀ l, (kav l).unown = kav l := fun l => (kav_one l).2.1
 have ki := hc.kids i hi
 have kk := hc.kids k hk
 have l1 := hc.kl i hi
 have l2 := hc.kl k hk
 obtain ⟨a1, a2, a3, a4, a5⟩ := kav_one (c.kd i)
 obtain ⟨b1, b2, b3, b4, b5⟩ := kav_one (c.kd k)
 have ii : IL (kav (c.kd i)) (c.kd i) := .inl rfl
 have ik : IL (kav (c.kd k)) (c.kd k) := .inl rfl
 have ei : (c.nd.getD i.toNat default).snd = c.kd i := rfl
 have ek : (c.nd.getD k.toNat default).snd = c.kd k := rfl
 obtain ⟨m1, m2, m3⟩ := hD.lt
 have hD1 : Du c (H ++ [.cells [kav (c.kd k)]]) := hD.app _
 have fin : ∀ G (b : Bool), Up c (H ++ [.cells [kav (c.kd k)]]) G → Du c G → (b = true ↔ Sh c.O p (c.tm i) (c.tm k)) → aret H.length [.t 8] [(8, .bool b)] G (DuR c (Sh c.O p (c.tm i) (c.tm k)) H) := by
  intro G b u d hb
  refine aret_one H.length (Nat.le_refl _) (by rw [gt_cons, if_pos rfl]; rfl) ?_
  rw [gt_cons, if_pos rfl]
  exact ⟨b, rfl, hb, u.take, d.take m1 m2 m3⟩
 have fin0 : ¬ Sh c.O p (c.tm i) (c.tm k) → aret H.length [.t 8] [(8, .bool false)] (H ++ [.cells [kav (c.kd k)]]) (DuR c (Sh c.O p (c.tm i) (c.tm k)) H) :=
  fun h => fin _ _ (Up.refl c _) hD1 ⟨fun h => by simp at h, fun h' => absurd h' h⟩
 have spv : ∀ x : AV, asplice [AV.nils] 0 [x] = [x] := fun x => rfl
 simp +contextual only [p1, hD.d, idxN, fN3, len_navs, aload_kav, k2, ei, ek, b1, b3, b4, b5, List.map_cons, List.map_nil, spv, List.all_cons, List.all_nil, Bool.and_true, bl_cons, bl_nil, sZ, Nat.reduceEqDiff, Nat.reduceAdd, Nat.reduceLT, ↓reduceIte, reduceCtorEq]
 refine ⟨hi, hk, scall_to (c135 hc hi hD1) ?_⟩
 rintro r H2 ⟨rfl, rfl⟩
 cases hb : opB c i with
 | false =>
   have ki2 : ¬ (c.tm i).k = 2 := of_decide_eq_false hb
   simp +contextual only [opA_un, opA_0, opA_1, opA_2, hb, Bool.not_false, sZ, Nat.reduceEqDiff, ↓reduceIte, reduceCtorEq]
   exact fin0 fun h => ki2 (Sh_op h)
 | true =>
 have ki2 : (c.tm i).k = 2 := of_decide_eq_true hb
 have kid : ∀ (j : Int), (0 ≤ j ∧ j < (c.kd i).length) → (c.tm i).l.getD j.toNat default = c.tm ((c.kd i).getD j.toNat 0) := fun j hj => by rw [← ki.1, getD_map0 (by omega)]
 have klen : (c.tm i).l.length = (c.kd i).length := by rw [← ki.1]; simp
 have kn : ∀ (j : Int), (0 ≤ j ∧ j < (c.kd i).length) → c.isN ((c.kd i).getD j.toNat 0) := fun j hj => ki.2 _ (getD_mem (by omega))
 have lvun : (AV.tuple [.int .i64 (opS c i), .bool (lvB c i k)]).unown = .tuple [.int .i64 (opS c i), .bool (lvB c i k)] := rfl
 have hS := Sh4 (O := c.O) (b := c.tm k) hr4 ki2
 have e1 : ((4 : Int) = 1) = False := by simp
 simp +contextual only [opA_un, opA_0, opA_1, opA_2, hb, Bool.not_true, fP0, fP1, hr4, not_true_eq_false, not_false_eq_true, decide_true, decide_false, sZ, Nat.reduceEqDiff, Nat.reduceAdd, ↓reduceIte, reduceCtorEq, Int.reduceEq]
 refine ⟨fun hi0 => fin0 fun h => hi0 (hS.1 h).1, fun hi0 => ?_⟩
 refine scall_to (c155 hc hi hk hD1) ?_
 rintro r H2 ⟨rfl, rfl⟩
 have opi : opP c i = c.O.pl (c.tm i).n := by rw [opP, if_pos ki2]
 have osi : opS c i = c.O.sp (c.O.pl (c.tm i).n) := by rw [opS, if_pos ki2]
 cases hl : lvB c i k with
 | false =>
   simp +contextual only [fP0, decide_true, decide_false, hr4, e1, sZ, Nat.reduceEqDiff, Nat.reduceAdd, Nat.reduceLT, ↓reduceIte, reduceCtorEq, Int.reduceEq]
   exact fin0 fun h => by
    have := hS.1 h
    rw [lvB_iff.2 ⟨ki2, this.2.1, this.2.2.1⟩] at hl
    cases hl
 | true =>
   have hlv := lvB_iff.1 hl
   by_cases hs3 : opS c i = 3
   ·simp +contextual only [p4, k2, fP0, li_pp, decide_true, decide_false, hr4, e1, hs3, sZ, Nat.reduceEqDiff, Nat.reduceAdd, Nat.reduceLT, ↓reduceIte, reduceCtorEq, Int.reduceEq]
    refine scall_to (c156 ii ik (by omega) (by omega) p (fun x hx y hy => same_c hc (ki.2 x hx) (kk.2 y hy)) (fun x hx y hy q hq => hsub q hq _ _ (ki.2 x hx) (kk.2 y hy)) hD1) ?_
    rintro r G ⟨x, rfl, hx, hU, hD'⟩
    simp +contextual only [sZ, Nat.reduceEqDiff, ↓reduceIte, reduceCtorEq]
    refine fin G x hU hD' ?_
    rw [hx, hS, CovK_iff, ki.1, kk.1]
    rw [osi] at hs3
    exact ⟨fun h => ⟨hi0, hlv.2.1, hlv.2.2, hs3, h⟩, fun h => h.2.2.2.2⟩
   ·have hs3f : (opS c i = 3) = False := eq_false hs3
    simp +contextual only [fP0, decide_true, decide_false, hr4, e1, hs3f, sZ, Nat.reduceEqDiff, Nat.reduceAdd, Nat.reduceLT, ↓reduceIte, reduceCtorEq, Int.reduceEq]
    refine fin0 fun h => hs3 ?_
    rw [osi]; exact (hS.1 h).2.2.2.1
theorem c87_0 {c : Cx} (hc : c.Ok) {p : PP} {i k : Int} (hi : c.isN i) (hk : c.isN k) (hsub : ∀ q ∈ p.l, ∀ x y, c.isN x → c.isN y → HoldC c x y q) (hr1 : p.r ≠ 1) (hr2 : p.r ≠ 2) (hr3 : p.r ≠ 3) (hr4 : p.r ≠ 4) : HoldC c i k p := by
 intro H hD
 refine k87v.2.calls rfl ?_
 simp only [k87v, mkF]
 obtain ⟨p1, p2, p3, p4, p5, p6, p7, p8, p9⟩ := ppA_facts p
 have k2 : ∀ l, (kav l).unown = kav l := fun l => (kav_one l).2.1
 have ki := hc.kids i hi
 have kk := hc.kids k hk
 have l1 := hc.kl i hi
 have l2 := hc.kl k hk
 obtain ⟨a1, a2, a3, a4, a5⟩ := kav_one (c.kd i)
 obtain ⟨b1, b2, b3, b4, b5⟩ := kav_one (c.kd k)
 have ii : IL (kav (c.kd i)) (c.kd i) := .inl rfl
 have ik : IL (kav (c.kd k)) (c.kd k) := .inl rfl
 have ei : (c.nd.getD i.toNat default).snd = c.kd i := rfl
 have ek : (c.nd.getD k.toNat default).snd = c.kd k := rfl
 obtain ⟨m1, m2, m3⟩ := hD.lt
 have hD1 : Du c (H ++ [.cells [kav (c.kd k)]]) := hD.app _
 have fin : ∀ G (b : Bool), Up c (H ++ [.cells [kav (c.kd k)]]) G → Du c G → (b = true ↔ Sh c.O p (c.tm i) (c.tm k)) → aret H.length [.t 8] [(8, .bool b)] G (DuR c (Sh c.O p (c.tm i) (c.tm k)) H) := by
  intro G b u d hb
  refine aret_one H.length (Nat.le_refl _) (by rw [gt_cons, if_pos rfl]; rfl) ?_
  rw [gt_cons, if_pos rfl]
  exact ⟨b, rfl, hb, u.take, d.take m1 m2 m3⟩
 have fin0 : ¬ Sh c.O p (c.tm i) (c.tm k) → aret H.length [.t 8] [(8, .bool false)] (H ++ [.cells [kav (c.kd k)]]) (DuR c (Sh c.O p (c.tm i) (c.tm k)) H) :=
  fun h => fin _ _ (Up.refl c _) hD1 ⟨fun h => by simp at h, fun h' => absurd h' h⟩
 have spv : ∀ x : AV, asplice [AV.nils] 0 [x] = [x] := fun x => rfl
 simp +contextual only [p1, hD.d, idxN, fN3, len_navs, aload_kav, k2, ei, ek, b1, b3, b4, b5, List.map_cons, List.map_nil, spv, List.all_cons, List.all_nil, Bool.and_true, bl_cons, bl_nil, sZ, Nat.reduceEqDiff, Nat.reduceAdd, Nat.reduceLT, ↓reduceIte, reduceCtorEq]
 refine ⟨hi, hk, scall_to (c135 hc hi hD1) ?_⟩
 rintro r H2 ⟨rfl, rfl⟩
 cases hb : opB c i with
 | false =>
   have ki2 : ¬ (c.tm i).k = 2 := of_decide_eq_false hb
   simp +contextual only [opA_un, opA_0, opA_1, opA_2, hb, Bool.not_false, sZ, Nat.reduceEqDiff, ↓reduceIte, reduceCtorEq]
   exact fin0 fun h => ki2 (Sh_op h)
 | true =>
 have ki2 : (c.tm i).k = 2 := of_decide_eq_true hb
 have kid : ∀ (j : Int), (0 ≤ j ∧ j < (c.kd i).length) → (c.tm i).l.getD j.toNat default = c.tm ((c.kd i).getD j.toNat 0) := fun j hj => by rw [← ki.1, getD_map0 (by omega)]
 have klen : (c.tm i).l.length = (c.kd i).length := by rw [← ki.1]; simp
 have kn : ∀ (j : Int), (0 ≤ j ∧ j < (c.kd i).length) → c.isN ((c.kd i).getD j.toNat 0) := fun j hj => ki.2 _ (getD_mem (by omega))
 have lvun : (AV.tuple [.int .i64 (opS c i), .bool (lvB c i k)]).unown = .tuple [.int .i64 (opS c i), .bool (lvB c i k)] := rfl
 have hS := Sh0 (O := c.O) (a := c.tm i) (b := c.tm k) hr1 hr2 hr3 hr4
 simp +contextual only [opA_un, opA_0, opA_1, opA_2, hb, Bool.not_true, fP0, fP1, fP2, hr1, hr3, hr4, not_true_eq_false, not_false_eq_true, decide_true, decide_false, ints_len, sZ, Nat.reduceEqDiff, Nat.reduceAdd, ↓reduceIte, reduceCtorEq]
 refine fun _ => ⟨fun h0 => ⟨fun hi0 => fin0 hS, fun hi0 => ?_⟩, fun h0 => fin0 hS⟩
 refine scall_to (c155 hc hi hk hD1) ?_
 rintro r H2 ⟨rfl, rfl⟩
 simp +contextual only [fP0, lvun, decide_false, hr1, hr2, hr3, hr4, sZ, Nat.reduceEqDiff, Nat.reduceAdd, Nat.reduceLT, ↓reduceIte, reduceCtorEq]
 exact fin0 hS
end Go.Abs
end
section
set_option maxRecDepth 100000
namespace Go.Abs
open Go Go.Proofs Go.Rpo
theorem LexK {O : Od} {f : Int → T} {at' : Int} {l : List PP} {a : T} {x y kd : List Int} {bl : List T} (hb : kd.map f = bl) : LexS (E O) (Sh O) at' l a (x.map f) (y.map f) bl ↔
 (0 ≤ at' ∧ at' < x.length ∧ at' ≤ y.length) ∧ (∀ j, j < at'.toNat → E O (f (x.getD j 0)) (f (y.getD j 0))) ∧
 (if at' = y.length then AllS (Sh O) l a (kd.map f) else ∃ q r, l = q :: r ∧ Sh O q (f (x.getD at'.toNat 0)) (f (y.getD at'.toNat 0)) ∧ AllS (Sh O) r a (kd.map f)) := by
 unfold LexS
 rw [hb]
 simp only [List.length_map]
 refine and_congr_right fun h => ?_
 have e : ∀ j, j < at'.toNat → ((x.map f).getD j default = f (x.getD j 0) ∧ (y.map f).getD j default = f (y.getD j 0)) := fun j hj => ⟨getD_map0 (by omega), getD_map0 (by omega)⟩
 refine and_congr ⟨fun k j hj => ?_, fun k j hj => ?_⟩ ?_
 ·have := k j hj; rwa [(e j hj).1, (e j hj).2] at this
 ·rw [(e j hj).1, (e j hj).2]; exact k j hj
 ·split
  ·exact Iff.rfl
  ·rw [getD_map0 (by omega), getD_map0 (by omega)]
theorem c87_3 {c : Cx} (hc : c.Ok) {p : PP} {i k : Int} (hi : c.isN i) (hk : c.isN k) (hsub : ∀ q ∈ p.l, ∀ x y, c.isN x → c.isN y → HoldC c x y q) (hr3 : p.r = 3) : HoldC c i k p := by
 intro H hD
 refine k87v.2.calls rfl ?_
 simp only [k87v, mkF]
 obtain ⟨p1, p2, p3, p4, p5, p6, p7, p8, p9⟩ := ppA_facts p
 have k2 : ∀ l, (kav l).unown = kav l := fun l => (kav_one l).2.1
 have ki := hc.kids i hi
 have kk := hc.kids k hk
 have l1 := hc.kl i hi
 have l2 := hc.kl k hk
 obtain ⟨a1, a2, a3, a4, a5⟩ := kav_one (c.kd i)
 obtain ⟨b1, b2, b3, b4, b5⟩ := kav_one (c.kd k)
 have ii : IL (kav (c.kd i)) (c.kd i) := .inl rfl
 have ik : IL (kav (c.kd k)) (c.kd k) := .inl rfl
 have ei : (c.nd.getD i.toNat default).snd = c.kd i := rfl
 have ek : (c.nd.getD k.toNat default).snd = c.kd k := rfl
 obtain ⟨m1, m2, m3⟩ := hD.lt
 have hD1 : Du c (H ++ [.cells [kav (c.kd k)]]) := hD.app _
 have fin : ∀ G (b : Bool), Up c (H ++ [.cells [kav (c.kd k)]]) G → Du c G → (b = true ↔ Sh c.O p (c.tm i) (c.tm k)) → aret H.length [.t 8] [(8, .bool b)] G (DuR c (Sh c.O p (c.tm i) (c.tm k)) H) := by
  intro G b u d hb
  refine aret_one H.length (Nat.le_refl _) (by rw [gt_cons, if_pos rfl]; rfl) ?_
  rw [gt_cons, if_pos rfl]
  exact ⟨b, rfl, hb, u.take, d.take m1 m2 m3⟩
 have fin0 : ¬ Sh c.O p (c.tm i) (c.tm k) → aret H.length [.t 8] [(8, .bool false)] (H ++ [.cells [kav (c.kd k)]]) (DuR c (Sh c.O p (c.tm i) (c.tm k)) H) :=
  fun h => fin _ _ (Up.refl c _) hD1 ⟨fun h => by simp at h, fun h' => absurd h' h⟩
 have spv : ∀ x : AV, asplice [AV.nils] 0 [x] = [x] := fun x => rfl
 simp +contextual only [p1, hD.d, idxN, fN3, len_navs, aload_kav, k2, ei, ek, b1, b3, b4, b5, List.map_cons, List.map_nil, spv, List.all_cons, List.all_nil, Bool.and_true, bl_cons, bl_nil, sZ, Nat.reduceEqDiff, Nat.reduceAdd, Nat.reduceLT, ↓reduceIte, reduceCtorEq]
 refine ⟨hi, hk, scall_to (c135 hc hi hD1) ?_⟩
 rintro r H2 ⟨rfl, rfl⟩
 cases hb : opB c i with
 | false =>
   have ki2 : ¬ (c.tm i).k = 2 := of_decide_eq_false hb
   simp +contextual only [opA_un, opA_0, opA_1, opA_2, hb, Bool.not_false, sZ, Nat.reduceEqDiff, ↓reduceIte, reduceCtorEq]
   exact fin0 fun h => ki2 (Sh_op h)
 | true =>
 have ki2 : (c.tm i).k = 2 := of_decide_eq_true hb
 have kid : ∀ (j : Int), (0 ≤ j ∧ j < (c.kd i).length) → (c.tm i).l.getD j.toNat default = c.tm ((c.kd i).getD j.toNat 0) := fun j hj => by rw [← ki.1, getD_map0 (by omega)]
 have klen : (c.tm i).l.length = (c.kd i).length := by rw [← ki.1]; simp
 have kn : ∀ (j : Int), (0 ≤ j ∧ j < (c.kd i).length) → c.isN ((c.kd i).getD j.toNat 0) := fun j hj => ki.2 _ (getD_mem (by omega))
 have lvun : (AV.tuple [.int .i64 (opS c i), .bool (lvB c i k)]).unown = .tuple [.int .i64 (opS c i), .bool (lvB c i k)] := rfl
 have hS := Sh3 (O := c.O) (b := c.tm k) hr3 ki2
 have e1 : ((3 : Int) = 1) = False := by simp
 simp +contextual only [opA_un, opA_0, opA_1, opA_2, hb, Bool.not_true, fP0, fP2, hr3, not_true_eq_false, not_false_eq_true, decide_true, decide_false, ints_len, sZ, Nat.reduceEqDiff, Nat.reduceAdd, ↓reduceIte, reduceCtorEq, Int.reduceEq]
 refine fun _ => ⟨fun h0 => ?_, fun h0 => fin0 fun h => ?_⟩
 ·have hto : p.to = [] := List.length_eq_zero_iff.1 (by omega)
  refine scall_to (c155 hc hi hk hD1) ?_
  rintro r H2 ⟨rfl, rfl⟩
  simp +contextual only [k2, fP0, lvun, decide_true, decide_false, hr3, e1, sZ, Nat.reduceEqDiff, Nat.reduceAdd, Nat.reduceLT, ↓reduceIte, Int.reduceEq]
  refine dcall_pure (c149 (c.kd i) (opS c i) (by omega)) ?_
  simp +contextual only [k2, sZ, Nat.reduceEqDiff, Nat.reduceAdd, Nat.reduceLT, ↓reduceIte]
  refine dcall_pure (c149 (c.kd k) (opS c i) (by omega)) ?_
  have opi : opP c i = c.O.pl (c.tm i).n := by rw [opP, if_pos ki2]
  have osi : opS c i = c.O.sp (c.O.pl (c.tm i).n) := by rw [opS, if_pos ki2]
  have hx : side (c.O.sp (c.O.pl (c.tm i).n)) (c.tm i).l = (sideI (opS c i) (c.kd i)).map c.tm := by rw [← osi, ← ki.1, side_map']
  have hy : side (c.O.sp (c.O.pl (c.tm i).n)) (c.tm k).l = (sideI (opS c i) (c.kd k)).map c.tm := by rw [← osi, ← kk.1, side_map']
  rw [hx, hy, LexK (kd := c.kd k) kk.1] at hS
  have lx : (sideI (opS c i) (c.kd i)).length = (c.kd i).length := sideI_len
  have ly : (sideI (opS c i) (c.kd k)).length = (c.kd k).length := sideI_len
  have nx : ∀ z ∈ sideI (opS c i) (c.kd i), c.isN z := fun z hz => ki.2 z (mem_sideI.1 hz)
  have ny : ∀ z ∈ sideI (opS c i) (c.kd k), c.isN z := fun z hz => kk.2 z (mem_sideI.1 hz)
  generalize sideI (opS c i) (c.kd i) = x at *
  generalize sideI (opS c i) (c.kd k) = y at *
  have ix : IL (.lst 0 (ints x)) x := .inr rfl
  have iy : IL (.lst 0 (ints y)) y := .inr rfl
  cases hl : lvB c i k with
  | false =>
    simp +contextual only [Bool.not_false, sZ, Nat.reduceEqDiff, ↓reduceIte, reduceCtorEq]
    exact fin0 fun h => by
     have := hS.1 h
     rw [lvB_iff.2 ⟨ki2, this.2.1, this.2.2.1⟩] at hl
     cases hl
  | true =>
  have hlv := lvB_iff.1 hl
  by_cases hs3 : opS c i = 3
  ·have hs3t : (opS c i = 3) = True := eq_true hs3
   simp +contextual only [decide_true, Bool.not_true, hs3t, sZ, Nat.reduceEqDiff, ↓reduceIte, reduceCtorEq]
   refine fin0 fun h => (hS.1 h).2.2.2.1 ?_
   rw [← osi]; exact hs3
  ·have hs3f : (opS c i = 3) = False := eq_false hs3
   have lvun' : True := trivial
   by_cases hI : 0 ≤ p.i ∧ p.i < x.length ∧ p.i ≤ y.length
   ·have n1 : (p.i < 0) = False := eq_false (by omega)
    have n2 : ((x.length : Int) ≤ p.i) = False := eq_false (by omega)
    have n3 : ((y.length : Int) < p.i) = False := eq_false (by omega)
    simp +contextual only [Option.map_some, Option.map_none, fP1, decide_false, Bool.not_true, hs3f, n1, n2, n3, ix.lenOk, iy.lenOk, ix.lenD, iy.lenD, slT x p.i ⟨hI.1, by omega⟩, slT y p.i ⟨hI.1, by omega⟩, sZ, Nat.reduceEqDiff, Nat.reduceAdd, ↓reduceIte, reduceCtorEq]
    refine scall_to (c140 (SD.lenS c _) (.inr rfl : IL (.lst 0 (ints (x.take p.i.toNat))) (x.take p.i.toNat)) (.inr rfl : IL (.lst 0 (ints (y.take p.i.toNat))) (y.take p.i.toNat)) (by rw [List.length_take]; omega) (by rw [List.length_take]; omega) 79 [.ptr c.d 0] [] rfl rfl (Q := fun x y => E c.O (c.tm x) (c.tm y))
     (fun u hu v hv G hG => (same_c hc (nx u (List.mem_of_mem_take hu)) (ny v (List.mem_of_mem_take hv)) G hG.1).mono fun r H' hr => hr.sb hG) ⟨hD1, Up.refl c _⟩) ?_
    rintro r G ⟨z, rfl, hz, hG⟩
    have hz' : z = true ↔ ∀ j, j < p.i.toNat → E c.O (c.tm (x.getD j 0)) (c.tm (y.getD j 0)) := by
     rw [hz]
     have lt1 : (x.take p.i.toNat).length = p.i.toNat := by rw [List.length_take]; omega
     have lt2 : (y.take p.i.toNat).length = p.i.toNat := by rw [List.length_take]; omega
     rw [lt1, lt2]
     have et : ∀ (l : List Int) j, j < p.i.toNat → (l.take p.i.toNat).getD j 0 = l.getD j 0 := fun l j hj => by simp [List.getD_eq_getElem?_getD, hj]
     constructor
     ·rintro ⟨_, h⟩ j hj; have := h j hj; rwa [et _ _ hj, et _ _ hj] at this
     ·intro h; exact ⟨rfl, fun j hj => by rw [et _ _ hj, et _ _ hj]; exact h j hj⟩
    have finG : ∀ G' (b : Bool), Up c G G' → Du c G' → (b = true ↔ Sh c.O p (c.tm i) (c.tm k)) → aret H.length [.t 8] [(8, .bool b)] G' (DuR c (Sh c.O p (c.tm i) (c.tm k)) H) := fun G' b u d hb => fin G' b (hG.2.trans u) d hb
    have finG0 : ¬ Sh c.O p (c.tm i) (c.tm k) → aret H.length [.t 8] [(8, .bool false)] G (DuR c (Sh c.O p (c.tm i) (c.tm k)) H) :=
     fun h => finG _ _ (Up.refl c _) hG.1 ⟨fun h => by simp at h, fun h' => absurd h' h⟩
    have gq : G[H.length]? = some (.cells [kav (c.kd k)]) := by rw [hG.2.get H.length (by omega) (by omega)]; simp
    cases z with
    | false =>
      simp +contextual only [Bool.not_false, sZ, Nat.reduceEqDiff, ↓reduceIte, reduceCtorEq]
      exact finG0 fun h => absurd (hz'.2 (hS.1 h).2.2.2.2.2.1) (by simp)
    | true =>
      have hz1 := hz'.1 rfl
      by_cases he : p.i = y.length
      ·have n4 : (p.i = (y.length : Int)) = True := eq_true he
       simp +contextual only [fP1, fP3, decide_true, Bool.not_true, iy.len (by omega), iy.lenOk, n4, sZ, Nat.reduceEqDiff, Nat.reduceAdd, ↓reduceIte, reduceCtorEq]
       refine scall_to (c151 ik (by omega) (q := H.length) ⟨by omega, by omega⟩ (fun j h1 h2 => hsub _ (mem_getDP h2) _ _ hi (kk.2 _ (getD_mem h1))) hG.1 gq) ?_
       rintro r G' ⟨w, rfl, hw, hU, hD'⟩
       simp +contextual only [sZ, ↓reduceIte, reduceCtorEq]
       refine finG G' w hU hD' ?_
       rw [hw, hS]
       rw [if_pos he]
       rw [osi] at hs3
       exact ⟨fun h => ⟨hto, hlv.2.1, hlv.2.2, hs3, hI, hz1, h⟩, fun h => h.2.2.2.2.2.2⟩
      ·have n4 : (p.i = (y.length : Int)) = False := eq_false he
       rw [if_neg he] at hS
       cases hpl : p.l with
       | nil =>
         have n5 : (0 < ((0 : Nat) : Int)) = False := eq_false (by simp)
         simp +contextual only [fP1, fP3, ppAs_len, decide_false, Bool.not_true, iy.len (by omega), iy.lenOk, n4, hpl, alenD_lst, n5, sZ, Nat.reduceEqDiff, ↓reduceIte, reduceCtorEq]
         exact finG0 fun h => by
          obtain ⟨q, r, e, _⟩ := (hS.1 h).2.2.2.2.2.2
          rw [hpl] at e; cases e
       | cons q r =>
         have n5 : (0 < ((r.length + 1 : Nat) : Int)) = True := eq_true (by omega)
         have n6 : (q :: r).getD (0 : Int).toNat default = q := rfl
         obtain ⟨q1, q2, q3, q4, q5, q6, q7, q8, q9⟩ := ppA_facts q
         simp only [hpl] at hS hsub
         simp +contextual only [fP1, fP3, idx_pp, lens_pp, li_pp, ppAs_len, decide_true, decide_false, Bool.not_true, iy.len (by omega), iy.lenOk, n4, hpl, alenD_lst, n5, n6, ix.idx, iy.idx, ix.lens, iy.lens, q4, sZ, Nat.reduceEqDiff, Nat.reduceAdd, ↓reduceIte, reduceCtorEq]
         refine ⟨by omega, by omega, by omega, scall_to (hsub q List.mem_cons_self _ _ (nx _ (getD_mem (by omega))) (ny _ (getD_mem (by omega))) G hG.1) ?_⟩
         rintro r' G2 ⟨w, rfl, hw, hU, hD2⟩
         cases w with
         | false =>
           simp +contextual only [sZ, Nat.reduceEqDiff, ↓reduceIte, reduceCtorEq]
           refine finG G2 false hU hD2 ⟨fun h => by simp at h, fun h => ?_⟩
           obtain ⟨q', r', e, h', _⟩ := (hS.1 h).2.2.2.2.2.2
           cases e
           exact hw.2 h'
         | true =>
           have gq2 : G2[H.length]? = some (.cells [kav (c.kd k)]) := by rw [hU.get H.length (by omega) (by omega), gq]
           simp +contextual only [Option.map_some, Option.map_none, fP3, tailP, hpl, sZ, Nat.reduceEqDiff, Nat.reduceAdd, ↓reduceIte, reduceCtorEq]
           refine scall_to (c151 ik (by omega) (q := H.length) ⟨by omega, by omega⟩ (fun j h1 h2 => hsub _ (List.mem_cons_of_mem _ (mem_getDP h2)) _ _ hi (kk.2 _ (getD_mem h1))) hD2 gq2) ?_
           rintro r' G3 ⟨v, rfl, hv, hU3, hD3⟩
           simp +contextual only [sZ, Nat.reduceEqDiff, ↓reduceIte, reduceCtorEq]
           refine finG G3 v (hU.trans hU3) hD3 ?_
           rw [hv, hS]
           rw [osi] at hs3
           constructor
           ·exact fun h => ⟨hto, hlv.2.1, hlv.2.2, hs3, hI, hz1, q, r, rfl, hw.1 rfl, h⟩
           ·rintro ⟨_, _, _, _, _, _, q', r', e, _, h⟩
            cases e
            exact h
   ·have bad : ¬ Sh c.O p (c.tm i) (c.tm k) := fun h => hI (hS.1 h).2.2.2.2.1
    by_cases m1' : p.i < 0
    ·have n1 : (p.i < 0) = True := eq_true m1'
     simp +contextual only [fP1, decide_true, decide_false, Bool.not_true, hs3f, n1, sZ, Nat.reduceEqDiff, ↓reduceIte, reduceCtorEq]
     exact fin0 bad
    ·have n1 : (p.i < 0) = False := eq_false m1'
     by_cases m2' : (x.length : Int) ≤ p.i
     ·have n2 : ((x.length : Int) ≤ p.i) = True := eq_true m2'
      simp +contextual only [fP1, decide_true, decide_false, Bool.not_true, hs3f, n1, n2, ix.lenOk, ix.lenD, sZ, Nat.reduceEqDiff, ↓reduceIte, reduceCtorEq]
      exact fin0 bad
     ·have n2 : ((x.length : Int) ≤ p.i) = False := eq_false m2'
      have n3 : ((y.length : Int) < p.i) = True := eq_true (by omega)
      simp +contextual only [fP1, decide_true, decide_false, Bool.not_true, hs3f, n1, n2, n3, ix.lenOk, iy.lenOk, ix.lenD, iy.lenD, sZ, Nat.reduceEqDiff, ↓reduceIte, reduceCtorEq]
      exact fin0 bad
 ·rw [(hS.1 h).1] at h0; simp at h0
end Go.Abs
end
section
set_option maxRecDepth 100000
namespace Go.Abs
open Go Go.Proofs Go.Rpo
theorem c87 {c : Cx} (hc : c.Ok) : ∀ (N : Nat) (p : PP) (i k : Int), pz p ≤ N → c.isN i → c.isN k → HoldC c i k p := by
 intro N
 induction N with
 | zero => intro p i k h; have := pz_pos p; omega
 | succ N ih =>
 intro p i k hN hi hk
 have hsub : ∀ q ∈ p.l, ∀ x y, c.isN x → c.isN y → HoldC c x y q := fun q hq x y hx hy => ih q x y (by have := pz_mem hq; omega) hx hy
 by_cases h1 : p.r = 1
 ·exact c87_1 hc hi hk hsub h1
 by_cases h2 : p.r = 2
 ·exact c87_2 hc hi hk hsub h2
 by_cases h3 : p.r = 3
 ·exact c87_3 hc hi hk hsub h3
 by_cases h4 : p.r = 4
 ·exact c87_4 hc hi hk hsub h4
 exact c87_0 hc hi hk hsub h1 h2 h3 h4
theorem hold_c {c : Cx} (hc : c.Ok) {p : PP} {i k : Int} (hi : c.isN i) (hk : c.isN k) : HoldC c i k p := c87 hc _ p i k (Nat.le_refl _) hi hk
open Classical in
noncomputable def verS (s : Sg) (ps ss : List Int) (a b : T) (p : PP) : Int := if askS s ps ss [a, b] = 0 then (if Sh (odOf ps ss) p a b then 0 else 61) else askS s ps ss [a, b]
theorem c28 (s : Sg) (ps ss : List Int) (a b : T) (p : PP) : Pure Tryz.prog 28 [s.av, odA ps ss, a.av, b.av, ppA p] (.int .i64 (verS s ps ss a b p)) := by
 refine fun H => k28.2.calls rfl ?_
 simp only [k28, mkF]
 obtain ⟨q1, q2, q3, q4, q5, q6⟩ := odA_facts ps ss
 obtain ⟨p1, p2, p3, p4, p5, p6, p7, p8, p9⟩ := ppA_facts p
 simp +contextual only [stepsO, q1, q4, p1, li_od, sZ, Nat.reduceEqDiff, Nat.reduceAdd, ↓reduceIte, reduceCtorEq]
 refine scall_pure (c74 s ps ss [a, b]) ?_
 by_cases h0 : askS s ps ss [a, b] = 0
 ·have hr := askS_ok h0
  have hw := wts_all hr.tree
  have hc := hr.cx (by simp) (by simp) H.length
  have hd := cx_du ps ss (ts := [a, b]) (by simp) H
  simp +contextual only [q4, li_od, h0, sZ, Nat.reduceEqDiff, Nat.reduceAdd, ↓reduceIte]
  refine scall_to (c75 ps ss [a, b] H (by simp at hw; omega)) ?_
  rintro r G ⟨rfl, rfl⟩
  have a0 := cx_at (ps := ps) (ss := ss) (ts := [a, b]) (n := H.length) (j := 0) (by simp)
  have a1 := cx_at (ps := ps) (ss := ss) (ts := [a, b]) (n := H.length) (j := 1) (by simp)
  have hl := kidsOf_len [a, b] 0
  rw [kav2]
  generalize kidsOf [a, b] 0 = ks at a0 a1 hl ⊢
  have hl2 : ks.length = 2 := hl
  simp +contextual only [idx_intsI, hl2, lens_ints, li_pp, p4, sZ, Nat.reduceEqDiff, Nat.reduceAdd, Nat.reduceLT, ↓reduceIte, reduceCtorEq]
  refine ⟨by decide, by decide, scall_to (hold_c hc a0.1 a1.1 _ hd) ?_⟩
  rintro r G ⟨x, rfl, hx, hU, hD⟩
  rw [a0.2, a1.2] at hx
  have hx' : x = true ↔ Sh (odOf ps ss) p a b := hx
  have hlow := hU.low (by simp [cxOf]) (by simp [cxOf])
  cases x with
  | true =>
    simp +contextual only [Bool.not_true, sZ, ↓reduceIte, reduceCtorEq]
    exact retw hlow rfl rfl ⟨by rw [verS, if_pos h0, if_pos (hx'.1 rfl)], rfl⟩
  | false =>
    simp +contextual only [Bool.not_false, sZ, ↓reduceIte, reduceCtorEq]
    exact retw hlow rfl rfl ⟨by rw [verS, if_pos h0, if_neg (fun h => absurd (hx'.2 h) (by simp))], rfl⟩
 ·simp +contextual only [h0, sZ, Nat.reduceEqDiff, ↓reduceIte, reduceCtorEq]
  exact ret0 rfl (by rw [verS, if_neg h0])
end Go.Abs
end
section
set_option maxRecDepth 100000
set_option maxHeartbeats 0
namespace Go.Abs
open Go Go.Proofs
noncomputable def k86w := mkF Tryz.call86 Tryz.func86 Tryz.ntmps86 [(0,0,1),(0,1,1),(3,6,2000),(8,2,2000),(9,7,2000),(10,7,2000),(10,8,1),(10,10,1),(13,3,2000),(16,3,1000),(19,3,2000),(20,9,2000),(21,1,1),(21,6,1),(21,11,1),(21,13,1),(27,3,2000),(29,1,1),(29,13,2000),(29,17,1),(33,1,1),(33,5,2000),(33,9,1)] [(0,[1,3,5,6]),(1,[1,3,5,6,7,8]),(2,[1,3,5,6,7,8,9]),(3,[1,3,5,6,7,8,9,47]),(4,[1,3,5,6,7,8,9]),(5,[1,3,5,6,7,8,9,10]),(6,[1,3,5,6,7,8,10,52]),(7,[1,3,5,6,7,8,10,52,53]),(8,[3,5,6,7,10]),(9,[3,5,6,7,10,67]),(10,[6,10]),(11,[6]),(12,[1,3,6,7,8,10,52,79]),(13,[3,6,7,8,10,11,13]),(14,[3,6,7,8,10,11,89,90,91]),(15,[3,6,7,8,10,11,89,90,91,92]),(16,[3,6,7,8,10,11,14,15,89,90,91]),(17,[3,6,7,8,10,11,14,15,16,89,90,91]),(18,[3,6,7,8,10,11,14,15,16,89,90,91,97]),(19,[3,6,7,8,10,11,14,15,16,89,90,91]),(20,[3,6,7,8,10,11,15,16,89,90,91]),(21,[3,6,7,8,10,11,89,90,91]),(22,[3,6,7,8,10,11,89,90,91]),(23,[6]),(24,[1,3,6,7,8,10,128]),(25,[1,3,6,7,8,10,18]),(26,[1,3,6,8,10,20,21]),(27,[1,3,6,8,10,20,21]),(28,[1,3,6,8,10,20,21,152]),(29,[1,3,6,8,10]),(30,[1,3,6,10,170,171,172]),(31,[1,3,6,10,170,171,172,173]),(32,[1,3,6,10,23,170,171,172]),(33,[1,3,6,10,170,171,172]),(34,[1,3,6,10,170,171,172]),(35,[6])] [(1,(.take 0 true (.take 1 true (.take 2 true (.take 3 true (.take 4 true (.take 5 true (.take 6 true (.take 7 true (.take 8 false (.take 9 false (.take 10 false (.take 12 false (.br 11 (.take 13 false (.take 14 false (.take 15 false (.br 16 (.br 17 (.br 18 (.br 19 .done .nil) .nil) .nil) (.br 17 (.br 16 (.br 18 (.br 19 .done .nil) .nil) .nil) .nil))))) (.br 16 (.br 11 (.take 13 false (.take 14 false (.take 15 false (.br 17 (.br 18 (.br 19 .done .nil) .nil) .nil)))) (.br 17 (.br 11 (.take 13 false (.take 14 false (.take 15 false (.br 18 (.br 19 .done .nil) .nil)))) (.br 18 (.take 11 true (.take 13 true (.take 14 true (.take 15 true (.br 19 .done .nil))))) .nil)) .nil)) (.br 17 (.br 11 (.take 13 false (.take 14 false (.take 15 false (.br 16 (.br 18 (.br 19 .done .nil) .nil) .nil)))) (.br 16 (.br 11 (.take 13 false (.take 14 false (.take 15 false (.br 18 (.br 19 .done .nil) .nil)))) (.br 18 (.take 11 true (.take 13 true (.take 14 true (.take 15 true (.br 19 .done .nil))))) .nil)) .nil)) .nil)))))))))))))))),(3,(.take 0 true (.take 1 true (.take 2 true (.take 3 true (.take 4 true (.take 5 true (.br 6 (.take 7 true .done) .nil)))))))),(9,(.take 0 true (.take 1 true (.take 2 true (.take 3 true (.take 4 true (.take 5 true (.take 6 true (.br 7 (.take 8 true .done) .nil))))))))),(10,(.take 0 true (.take 1 true (.take 2 true (.take 3 true (.take 4 true (.take 5 true (.take 6 true (.br 7 (.take 8 true (.take 9 true (.br 10 .done .nil))) .nil))))))))),(20,(.take 0 true (.take 1 true (.take 2 true (.take 3 true (.take 4 true (.take 5 true (.take 6 true (.take 7 true (.take 8 true (.br 9 (.br 10 .done .nil) .nil))))))))))),(21,(.take 0 false (.take 2 false (.take 3 false (.take 5 false (.br 1 (.br 4 (.br 6 (.take 7 true (.take 8 true (.take 10 true (.br 9 (.br 11 (.take 12 true (.br 13 .done .nil)) .nil) .nil)))) (.br 7 (.take 8 false (.br 6 (.take 10 true (.br 9 (.br 11 (.take 12 true (.br 13 .done .nil)) .nil) .nil)) .nil)) .nil)) (.br 6 (.take 7 true (.take 8 true (.br 4 (.take 10 true (.br 9 (.br 11 (.take 12 true (.br 13 .done .nil)) .nil) .nil)) .nil))) (.br 7 (.take 8 false (.br 4 (.br 6 (.take 10 true (.br 9 (.br 11 (.take 12 true (.br 13 .done .nil)) .nil) .nil)) .nil) (.br 6 (.br 4 (.take 10 true (.br 9 (.br 11 (.take 12 true (.br 13 .done .nil)) .nil) .nil)) .nil) .nil))) .nil))) (.br 6 (.br 1 (.take 7 true (.take 8 true (.br 4 (.take 10 true (.br 9 (.br 11 (.take 12 true (.br 13 .done .nil)) .nil) .nil)) .nil))) (.br 7 (.take 8 false (.br 1 (.br 4 (.take 10 true (.br 9 (.br 11 (.take 12 true (.br 13 .done .nil)) .nil) .nil)) .nil) .nil)) .nil)) (.br 7 (.take 8 false (.br 1 (.br 4 (.br 6 (.take 10 true (.br 9 (.br 11 (.take 12 true (.br 13 .done .nil)) .nil) .nil)) .nil) (.br 6 (.br 4 (.take 10 true (.br 9 (.br 11 (.take 12 true (.br 13 .done .nil)) .nil) .nil)) .nil) .nil)) (.br 6 (.br 1 (.br 4 (.take 10 true (.br 9 (.br 11 (.take 12 true (.br 13 .done .nil)) .nil) .nil)) .nil) .nil) .nil))) .nil)))))))),(26,(.take 0 true (.take 1 true (.take 2 true (.take 3 true (.take 4 true (.take 5 true (.take 6 true (.take 7 true .done))))))))),(29,(.take 0 false (.take 2 false (.take 3 false (.take 4 false (.take 8 false (.take 9 false (.br 1 (.take 5 true (.take 6 true (.take 7 true (.take 10 true (.take 11 true (.take 12 true (.br 13 (.take 14 true (.br 15 (.take 16 true (.br 17 .done .nil)) .nil)) .nil))))))) (.br 5 (.take 6 false (.take 7 false (.br 1 (.take 10 true (.take 11 true (.take 12 true (.br 13 (.take 14 true (.br 15 (.take 16 true (.br 17 .done .nil)) .nil)) .nil)))) (.br 10 (.take 11 false (.take 12 false (.br 1 (.br 13 (.take 14 true (.br 15 (.take 16 true (.br 17 .done .nil)) .nil)) .nil) (.br 13 (.take 14 false (.br 1 (.br 15 (.take 16 true (.br 17 .done .nil)) .nil) .nil)) .nil)))) .nil)))) (.br 10 (.take 11 false (.take 12 false (.br 1 (.take 5 true (.take 6 true (.take 7 true (.br 13 (.take 14 true (.br 15 (.take 16 true (.br 17 .done .nil)) .nil)) .nil)))) (.br 5 (.take 6 false (.take 7 false (.br 1 (.br 13 (.take 14 true (.br 15 (.take 16 true (.br 17 .done .nil)) .nil)) .nil) (.br 13 (.take 14 false (.br 1 (.br 15 (.take 16 true (.br 17 .done .nil)) .nil) .nil)) .nil)))) .nil)))) .nil)))))))))),(33,(.take 0 false (.take 2 false (.take 3 false (.take 4 false (.br 1 (.br 5 (.take 6 true (.br 7 (.take 8 true (.br 9 .done .nil)) .nil)) .nil) (.br 5 (.take 6 false (.br 1 (.br 7 (.take 8 true (.br 9 .done .nil)) .nil) .nil)) .nil)))))))]
end Go.Abs
end
section
set_option maxRecDepth 100000
namespace Go.Abs
open Go Go.Proofs Go.Rpo
def lvA (l : List PP) : AV := match l with | [] => .nils | _ :: _ => .lst 4 (ppAs l)
def tvA (l : List Int) : AV := match l with | [] => .nils | _ :: _ => .lst 1 (ints l)
theorem lvA_facts (l : List PP) : (lvA l).val = true ∧ (lvA l).cells = [lvA l] ∧ (lvA l).one = true ∧ (∀ n, (lvA l).blw n = true) ∧ (lvA l).drop = .lst 0 (ppAs l) ∧ ∀ n, (lvA l).unown.blw n = true := by
 cases l with
 | nil => exact ⟨rfl, rfl, rfl, fun _ => rfl, rfl, fun _ => rfl⟩
 | cons x r => exact ⟨rfl, rfl, rfl, fun n => by rw [lvA, bw_lst]; exact ppAs_blw _ _, rfl, fun n => by rw [lvA, un_lst, bw_lst]; exact ppAs_blw _ _⟩
theorem tvA_facts (l : List Int) : (tvA l).val = true ∧ (tvA l).cells = [tvA l] ∧ (tvA l).one = true ∧ (∀ n, (tvA l).blw n = true) ∧ (tvA l).drop = .lst 0 (ints l) ∧ ∀ n, (tvA l).unown.blw n = true := by
 cases l with
 | nil => exact ⟨rfl, rfl, rfl, fun _ => rfl, rfl, fun _ => rfl⟩
 | cons x r => exact ⟨rfl, rfl, rfl, fun n => by rw [tvA, bw_lst]; exact ints_blw _ _, rfl, fun n => by rw [tvA, un_lst, bw_lst]; exact ints_blw _ _⟩
theorem ppAs_app (a b : List PP) : ppAs (a ++ b) = ppAs a ++ ppAs b := by simp [ppAs_map]
theorem ap_lv (l : List PP) (q : PP) (h : l.length < 1000000000) (o : Nat) (ψ : List AV → Prop) : aappend 4 64 (lvA l) (.lst o [ppA q]) ψ = ψ (ppAs (l ++ [q])) := by
 have hok : okE 4 [ppA q] := of_eq_true (ok_pps [q])
 rw [ppAs_app]
 cases l with
 | nil => rw [lvA, ap_nils]; simp [hok, ppAs]
 | cons x r =>
   rw [lvA, ap_lst, ppAs_len]
   have e : ppAs [q] = [ppA q] := rfl
   rw [e]
   simp only [hok, List.length_cons, List.length_nil, true_and, eq_iff_iff]
   simp only [List.length_cons] at h
   exact ⟨fun h => h.2, fun k => ⟨by omega, k⟩⟩
theorem ap_tv (l : List Int) (q : Int) (h : l.length < 1000000000) (o : Nat) (ψ : List AV → Prop) : aappend 1 8 (tvA l) (.lst o [.int .i64 q]) ψ = ψ (ints (l ++ [q])) := by
 have hok : okE 1 [AV.int .i64 q] := of_eq_true (ok_ints [q])
 have e : ints [q] = [AV.int .i64 q] := rfl
 cases l with
 | nil => rw [tvA, ap_nils]; simp [hok, ints]
 | cons x r =>
   rw [tvA, ap_lst, ints_len, ← ints_app, e]
   simp only [hok, List.length_cons, List.length_nil, true_and, eq_iff_iff]
   simp only [List.length_cons] at h
   exact ⟨fun h => h.2, fun k => ⟨by omega, k⟩⟩
theorem ppA_canon (q : PP) : canon (ppA q) = ppA q := by rw [ppA_eq]; rfl
theorem lvA_snoc (l : List PP) (q : PP) : AV.lst 4 (ppAs (l ++ [q])) = lvA (l ++ [q]) := by cases l <;> rfl
theorem tvA_snoc (l : List Int) (q : Int) : AV.lst 1 (ints (l ++ [q])) = tvA (l ++ [q]) := by cases l <;> rfl
theorem d3 {α : Type} (x y z u d : α) (r : List α) : (x :: y :: z :: u :: r).getD 3 d = u := by simp
theorem s3 {α : Type} (x y z w u : α) (r : List α) : (x :: y :: z :: w :: r).set 3 u = x :: y :: z :: u :: r := by simp
theorem sp41 (a b c d y : AV) : asplice [a, b, c, d] 1 [y] = [a, y, c, d] := by simp [asplice]
theorem sp44 (a b c d x y z u : AV) : asplice [a, b, c, d] 0 [x, y, z, u] = [x, y, z, u] := by simp [asplice]
theorem ldP (r i : Int) (to : List Int) (l : List PP) (φ : AV → Prop) : loadC (some (.cells [.int .i64 r, .int .i64 i, tvA to, lvA l])) (some 4) 0 φ = φ (ppA (.mk r i to l)) := by
 have e : List.map AV.drop [AV.int .i64 r, .int .i64 i, tvA to, lvA l] = [.int .i64 r, .int .i64 i, .lst 0 (ints to), .lst 0 (ppAs l)] := by
  simp only [List.map_cons, List.map_nil, (lvA_facts l).2.2.2.2.1, (tvA_facts to).2.2.2.2.1]; rfl
 simp only [loadC, List.drop_zero, List.length_cons, List.length_nil, List.take_succ_cons, List.take_zero, e, ppA]
 simp
def PrfR (c : Cx) (i k : Int) (H : List AObj) (r : AV) (H' : List AObj) : Prop := ∃ p, r = ppA p ∧ Sh c.O p (c.tm i) (c.tm k) ∧ Up c H H' ∧ Du c H'
def PrfC (c : Cx) (i k : Int) : Prop := ∀ H, Du c H → ACalls Tryz.prog 86 [.ptr c.d 0, .int .i64 i, .int .i64 k] H (PrfR c i k H)
structure PB (c : Cx) (H : List AObj) (x y : Nat) (i k : Int) (es : List AV) (G : List AObj) : Prop where
 du : Du c G
 gx : G[x]? = some (.cells [kav (c.kd i)])
 gy : G[y]? = some (.cells [kav (c.kd k)])
 g6 : G[H.length]? = some (.cells [.int .i64 0, .int .i64 0, .nils, .nils])
 gp : G[H.length + 3]? = some (.cells es)
 len : G.length = H.length + 4
 up : ∀ j, j < H.length → j ≠ c.e → j ≠ c.g → G[j]? = H[j]?
structure XY (H : List AObj) (x y : Nat) : Prop where
 x1 : H.length < x
 x2 : x < H.length + 3
 y1 : H.length < y
 y2 : y < H.length + 3
theorem PB.call {c : Cx} {H G G' : List AObj} {x y : Nat} {i k : Int} {es : List AV} (hD : Du c H) (w : XY H x y) (h : PB c H x y i k es G) (hU : Up c G G') (hD' : Du c G') : PB c H x y i k es G' := by
 obtain ⟨l1, l2, l3⟩ := hD.lt
 obtain ⟨w1, w2, w3, w4⟩ := w
 exact ⟨hD', by rw [hU.get x (by omega) (by omega), h.gx], by rw [hU.get y (by omega) (by omega), h.gy], by rw [hU.get _ (by omega) (by omega), h.g6], by rw [hU.get _ (by omega) (by omega), h.gp], by rw [hU.len, h.len], fun j h1 h2 h3 => by rw [hU.get j h2 h3, h.up j h1 h2 h3]⟩
theorem PB.set {c : Cx} {H G : List AObj} {x y : Nat} {i k : Int} {es es' : List AV} (hD : Du c H) (w : XY H x y) (h : PB c H x y i k es G) : PB c H x y i k es' (G.set (H.length + 3) (.cells es')) := by
 obtain ⟨l1, l2, l3⟩ := hD.lt
 obtain ⟨w1, w2, w3, w4⟩ := w
 have hp := get_lt h.gp
 exact ⟨h.du.set (by omega) (by omega) (by omega), by rw [List.getElem?_set_ne (by omega), h.gx], by rw [List.getElem?_set_ne (by omega), h.gy], by rw [List.getElem?_set_ne (by omega), h.g6], by rw [List.getElem?_set_self hp], by rw [List.length_set, h.len], fun j h1 h2 h3 => by rw [List.getElem?_set_ne (by omega), h.up j h1 h2 h3]⟩
theorem c147 {c : Cx} {k x : Int} (h1 : SameC c x k) (h2 : MoreC c x k) {H : List AObj} (hD : Du c H) : ACalls Tryz.prog 147 [.int .i64 x, .iptr (.ptr c.d 0), .iptr (.int .i64 k)] H (DuR c (E c.O (c.tm x) (c.tm k) ∨ R c.O (c.tm x) (c.tm k)) H) := by
 refine k147.2.calls rfl ?_
 simp only [k147, mkF]
 simp +contextual only [sZ, Nat.reduceEqDiff, Nat.reduceAdd, ↓reduceIte, reduceCtorEq]
 refine scall_to (h1 H hD) ?_
 rintro r H' ⟨b, rfl, hb, hU, hD'⟩
 cases b with
 | true =>
   simp +contextual only [sZ, Nat.reduceEqDiff, ↓reduceIte, reduceCtorEq]
   exact retB rfl ⟨fun _ => .inl (hb.1 rfl), fun _ => rfl⟩ hU hD'
 | false =>
   simp +contextual only [sZ, Nat.reduceEqDiff, Nat.reduceAdd, ↓reduceIte, reduceCtorEq]
   refine scall_to (h2 H' hD') ?_
   rintro r H2 ⟨z, rfl, hz, hU2, hD2⟩
   simp +contextual only [sZ, Nat.reduceEqDiff, ↓reduceIte, reduceCtorEq]
   refine retB rfl ⟨fun h => .inr (hz.1 h), fun h => hz.2 (h.resolve_left fun h => absurd (hb.2 h) (by simp))⟩ (hU.trans hU2) hD2
theorem c148 {c : Cx} {a b : List Int} {va vb : AV} (ha : IL va a) (hb : IL vb b) {p q : Nat} {x y : Int} (hx : 0 ≤ x ∧ x < a.length) (hy : 0 ≤ y ∧ y < b.length) (h : MoreC c (a.getD x.toNat 0) (b.getD y.toNat 0)) {G : List AObj} (hD : Du c G) (gp : G[p]? = some (.cells [va])) (gq : G[q]? = some (.cells [vb])) :
 ACalls Tryz.prog 148 [.int .i64 x, .iptr (.ptr c.d 0), .ptr p 0, .ptr q 0, .iptr (.int .i64 y)] G (DuR c (R c.O (c.tm (a.getD x.toNat 0)) (c.tm (b.getD y.toNat 0))) G) := by
 refine k148.2.calls rfl ?_
 simp only [k148, mkF]
 obtain ⟨a1, a2, a3, a4⟩ := ha.one
 obtain ⟨b1, b2, b3, b4⟩ := hb.one
 simp +contextual only [gp, gq, a2, b2, ha.lens, hb.lens, ha.idx, hb.idx, sZ, Nat.reduceEqDiff, Nat.reduceAdd, Nat.reduceLT, ↓reduceIte, reduceCtorEq]
 refine ⟨hx, hy, scall_to (h G hD) ?_⟩
 rintro r G' ⟨z, rfl, hz, hU, hD'⟩
 simp +contextual only [sZ, ↓reduceIte, reduceCtorEq]
 exact retB rfl hz hU hD'
def ir86e : IR := (.loop (.seq (.region [⟨none,some 173,(.bin .lss (.t 172) (.t 171))⟩] (.some [1,3,6,10,170,171,172,173])) (.seq (.cond (.t 173) .skip (.exit 5)) (.seq (.block 6 (.seq (.region [⟨none,some 174,(.indexAddr 1 (.t 170) (.t 172))⟩,⟨none,some 175,(.load .none (.t 174))⟩,⟨none,some 23,(.set (.t 175) false)⟩] (.some [1,3,6,10,23,170,171,172])) (.draw (.take .false ⟨none,some 176,(.fieldAddr 3 .none (.t 10))⟩ (.take .false ⟨none,some 178,(.load .none (.t 3))⟩ (.take .false ⟨none,some 179,(.set (.t 1) false)⟩ (.take .false ⟨none,some 180,(.set (.t 23) false)⟩ (.br ⟨none,some 177,(.takeCell (.t 176))⟩ (.br ⟨none,some 181,(.call (.c (.fn (.func 86) [] [])) [(.t 178),(.t 179),(.t 180)] (.some 1999))⟩ (.take .true ⟨none,some 182,(.buildSlice 0 4 (.agg [(.int .i64 0),(.int .i64 0),.nils,.nils]) 1 [(0,(.t 181))])⟩ (.br ⟨none,some 183,(.append 4 64 (.t 177) (.t 182))⟩ (.take .true ⟨none,some 184,(.fieldAddr 3 .none (.t 10))⟩ (.br ⟨none,none,(.putCell (.t 184) 183)⟩ .done .nil)) .nil)) .nil) (.br ⟨none,some 181,(.call (.c (.fn (.func 86) [] [])) [(.t 178),(.t 179),(.t 180)] (.some 1999))⟩ (.take .false ⟨none,some 182,(.buildSlice 0 4 (.agg [(.int .i64 0),(.int .i64 0),.nils,.nils]) 1 [(0,(.t 181))])⟩ (.br ⟨none,some 177,(.takeCell (.t 176))⟩ (.br ⟨none,some 183,(.append 4 64 (.t 177) (.t 182))⟩ (.take .true ⟨none,some 184,(.fieldAddr 3 .none (.t 10))⟩ (.br ⟨none,none,(.putCell (.t 184) 183)⟩ .done .nil)) .nil) .nil)) .nil)))))) (.some [1,3,6,10,170,171,172])))) (.region [⟨none,some 185,(.bin .add (.t 172) (.c (.int .i64 1)))⟩,⟨none,some 172,(.set (.t 185) false)⟩] (.some [1,3,6,10,170,171,172]))))))
theorem loop86 {c : Cx} {H : List AObj} (hD : Du c H) {x y : Nat} (w : XY H x y) {i k : Int} {rl at' : Int} {l0 : List PP} (hl0 : l0.length ≤ 1) {b : List Int} {vb : AV} (hb : IL vb b) (lb : b.length ≤ 100000000) (hp : ∀ z ∈ b, PrfC c i z) {G : List AObj} (h : PB c H x y i k [.int .i64 rl, .int .i64 at', .nils, lvA l0] G) :
 swp ⟨Tryz.prog, none⟩ H.length ir86e [(1, .int .i64 i), (3, .iptr (.ptr c.d 0)), (6, .ptr H.length 0), (10, .ptr (H.length + 3) 0), (170, vb), (171, .int .i64 b.length), (172, .int .i64 0)] G fun e env' G' =>
  e = .exit 5 ∧ get env' 6 = .ptr H.length 0 ∧ get env' 10 = .ptr (H.length + 3) 0 ∧ ∃ qs, AllS (Sh c.O) qs (c.tm i) (b.map c.tm) ∧ PB c H x y i k [.int .i64 rl, .int .i64 at', .nils, lvA (l0 ++ qs)] G' := by
 obtain ⟨b1, b2, b3, b4⟩ := hb.one
 unfold ir86e
 refine swp_loop_st b.length (fun j (s : List AObj × List PP) => PB c H x y i k [.int .i64 rl, .int .i64 at', .nils, lvA (l0 ++ s.2)] s.1 ∧ s.2.length = j ∧ ∀ j', j' < j → Sh c.O (s.2.getD j' default) (c.tm i) (c.tm (b.getD j' 0)))
  (fun j s => [(1, .int .i64 i), (3, .iptr (.ptr c.d 0)), (6, .ptr H.length 0), (10, .ptr (H.length + 3) 0), (170, vb), (171, .int .i64 b.length), (172, .int .i64 j)]) (fun j s => s.1) (G, []) ⟨⟨by rw [List.append_nil]; exact h, rfl, fun j h => by omega⟩, sle_refl _ _ _⟩ fun j s hj hI => ?_
 obtain ⟨G, qs⟩ := s
 obtain ⟨hpb, hlen, hsh⟩ := hI
 simp only at hpb hlen hsh
 by_cases hjb : (j : Int) < b.length
 ·have hjl : j < b.length := by omega
  have gp := hpb.gp
  have hl : (l0 ++ qs).length < 1000000000 := by rw [List.length_append]; omega
  have st1 := fun es => hpb.set (es' := es) hD w
  simp +contextual only [hjb, decide_true, hb.lens, hb.idx, Int.toNat_natCast, gp, d3, s3, sZ, Nat.reduceEqDiff, Nat.reduceAdd, Nat.reduceLT, ↓reduceIte, reduceCtorEq]
  have fin : ∀ (q : PP) (G' : List AObj), Sh c.O q (c.tm i) (c.tm (b.getD j 0)) → PB c H x y i k [.int .i64 rl, .int .i64 at', .nils, lvA (l0 ++ (qs ++ [q]))] G' → ∃ (j' : Nat) (t : List AObj × List PP), (j' ≤ b.length ∧ PB c H x y i k [.int .i64 rl, .int .i64 at', .nils, lvA (l0 ++ t.2)] t.1 ∧ t.2.length = j' ∧ ∀ j'', j'' < j' → Sh c.O (t.2.getD j'' default) (c.tm i) (c.tm (b.getD j'' 0))) ∧ b.length - j' < b.length - j ∧
   sle H.length [(1, .int .i64 i), (3, .iptr (.ptr c.d 0)), (6, .ptr H.length 0), (10, .ptr (H.length + 3) 0), (170, vb), (171, .int .i64 b.length), (172, .int .i64 (IntKind.i64.wrap (j + 1)))] G' [(1, .int .i64 i), (3, .iptr (.ptr c.d 0)), (6, .ptr H.length 0), (10, .ptr (H.length + 3) 0), (170, vb), (171, .int .i64 b.length), (172, .int .i64 j')] t.1 := by
   intro q G' hq hpb'
   refine ⟨j + 1, (G', qs ++ [q]), ⟨hjl, hpb', by simp [hlen], fun j'' hj'' => ?_⟩, by omega, sle_eq (by rw [wrap_nat j (by omega)]) rfl⟩
   by_cases e : j'' = j
   ·subst e
    have : (qs ++ [q]).getD j'' default = q := by rw [← hlen]; simp
    rw [this]; exact hq
   ·have : (qs ++ [q]).getD j'' default = qs.getD j'' default := by
     rw [List.getD_eq_getElem?_getD, List.getD_eq_getElem?_getD, List.getElem?_append_left (by omega)]
    rw [this]; exact hsh j'' (by omega)
  refine ⟨by omega, ?_, ?_⟩
  ·refine scall_to (hp _ (getD_mem hjl) _ (st1 _).du) ?_
   rintro r G2 ⟨q, rfl, hq, hU, hD2⟩
   have hpb2 := (st1 _).call hD w hU hD2
   have gp2 := hpb2.gp
   have hpb3 := fun es => hpb2.set (es' := es) hD w
   obtain ⟨q1, q2, q3, q4, q5, q6, q7, q8, q9⟩ := ppA_facts q
   obtain ⟨v1, v2, v3, v4, v5, v6⟩ := lvA_facts (l0 ++ (qs ++ [q]))
   simp +contextual only [q1, q2, ppA_canon, ap_lv _ _ hl, gp2, s3, List.append_assoc, sZ, Nat.reduceEqDiff, Nat.reduceAdd, Nat.reduceLT, ↓reduceIte]
   have el : AV.lst 4 (ppAs (l0 ++ (qs ++ [q]))) = lvA (l0 ++ (qs ++ [q])) := by rw [← List.append_assoc]; exact lvA_snoc _ _
   rw [el]
   exact ⟨ppAs_blw _ _, fin q _ hq (hpb3 _)⟩
  ·refine scall_to (hp _ (getD_mem hjl) _ hpb.du) ?_
   rintro r G2 ⟨q, rfl, hq, hU, hD2⟩
   have hpb2 := hpb.call hD w hU hD2
   have gp2 := hpb2.gp
   have hpb3 := fun es => hpb2.set (es' := es) hD w
   have gp3 := fun es => (hpb3 es).gp
   have hpb4 := fun es es' => (hpb3 es).set (es' := es') hD w
   obtain ⟨q1, q2, q3, q4, q5, q6, q7, q8, q9⟩ := ppA_facts q
   obtain ⟨v1, v2, v3, v4, v5, v6⟩ := lvA_facts (l0 ++ (qs ++ [q]))
   simp +contextual only [q1, q2, ppA_canon, ap_lv _ _ hl, gp2, gp3, d3, s3, List.append_assoc, sZ, Nat.reduceEqDiff, Nat.reduceAdd, Nat.reduceLT, ↓reduceIte]
   have el : AV.lst 4 (ppAs (l0 ++ (qs ++ [q]))) = lvA (l0 ++ (qs ++ [q])) := by rw [← List.append_assoc]; exact lvA_snoc _ _
   rw [el]
   exact ⟨ppAs_blw _ _, fin q _ hq (hpb4 _ _)⟩
 ·have e : j = b.length := by omega
  simp +contextual only [hjb, decide_false, sZ, Nat.reduceEqDiff, ↓reduceIte]
  refine ⟨qs, ⟨by rw [hlen, e, List.length_map], fun j' hj' => ?_⟩, hpb⟩
  rw [List.length_map] at hj'
  rw [getD_map0 hj']; exact hsh j' (by omega)
end Go.Abs
end
section
set_option maxRecDepth 100000
namespace Go.Abs
open Go Go.Proofs Go.Rpo
structure PA (c : Cx) (H : List AObj) (x y : Nat) (i k : Int) (G : List AObj) : Prop where
 du : Du c G
 gx : G[x]? = some (.cells [kav (c.kd i)])
 gy : G[y]? = some (.cells [kav (c.kd k)])
 g6 : G[H.length]? = some (.cells [.int .i64 0, .int .i64 0, .nils, .nils])
 len : G.length = H.length + 3
 up : ∀ j, j < H.length → j ≠ c.e → j ≠ c.g → G[j]? = H[j]?
theorem PA.call {c : Cx} {H G G' : List AObj} {x y : Nat} {i k : Int} (hD : Du c H) (w : XY H x y) (h : PA c H x y i k G) (hU : Up c G G') (hD' : Du c G') : PA c H x y i k G' := by
 obtain ⟨l1, l2, l3⟩ := hD.lt
 obtain ⟨w1, w2, w3, w4⟩ := w
 exact ⟨hD', by rw [hU.get x (by omega) (by omega), h.gx], by rw [hU.get y (by omega) (by omega), h.gy], by rw [hU.get _ (by omega) (by omega), h.g6], by rw [hU.len, h.len], fun j h1 h2 h3 => by rw [hU.get j h2 h3, h.up j h1 h2 h3]⟩
theorem PA.app {c : Cx} {H G : List AObj} {x y : Nat} {i k : Int} (w : XY H x y) (h : PA c H x y i k G) (es : List AV) : PB c H x y i k es (G ++ [.cells es]) := by
 obtain ⟨w1, w2, w3, w4⟩ := w
 have hl := h.len
 exact ⟨h.du.app _, by rw [List.getElem?_append_left (by omega), h.gx], by rw [List.getElem?_append_left (by omega), h.gy], by rw [List.getElem?_append_left (by omega), h.g6], by rw [← hl]; simp, by simp [hl], fun j h1 h2 h3 => by rw [List.getElem?_append_left (by omega), h.up j h1 h2 h3]⟩
theorem bdP (r : Int) (φ : AV → Prop) : abuild [.int .i64 0, .int .i64 0, .nils, .nils] [(0, 1, .int .i64 r)] φ = φ (.agg [.int .i64 r, .int .i64 0, .nils, .nils]) := by
 simp only [abuild, afill, eq_iff_iff]
 constructor
 ·rintro ⟨_, _, _, h⟩; exact h
 ·exact fun h => ⟨rfl, rfl, by simp, h⟩
theorem PB.fin {c : Cx} {H G : List AObj} {x y : Nat} {i k : Int} {r i' : Int} {to : List Int} {l : List PP} (hD : Du c H) (h : PB c H x y i k [.int .i64 r, .int .i64 i', tvA to, lvA l] G) (hs : Sh c.O (.mk r i' to l) (c.tm i) (c.tm k)) :
 aret1 H.length (ppA (.mk r i' to l)) (G.set H.length (.cells (ppA (.mk r i' to l)).cells)) (PrfR c i k H) := by
 obtain ⟨l1, l2, l3⟩ := hD.lt
 refine ret1w (G := (G.set H.length (.cells (ppA (.mk r i' to l)).cells)).take H.length) rfl (ppA_blw _ _) rfl ⟨_, rfl, hs, ⟨?_, fun j h1 h2 => ?_⟩, ?_⟩
 ·have := h.len; simp; omega
 ·rw [List.getElem?_take]
  split
  ·rename_i hj; rw [List.getElem?_set_ne (by omega), h.up j hj h1 h2]
  ·rename_i hj; rw [List.getElem?_eq_none (by omega)]
 ·exact (h.du.set (by omega) (by omega) (by omega)).take l1 l2 l3
theorem ldP2 (p : PP) (φ : AV → Prop) : loadC (some (.cells (ppA p).cells)) (some 4) 0 φ = φ (ppA p) := by
 obtain ⟨_, h2, _, _, _, _, h7, h8, _⟩ := ppA_facts p
 simp only [loadC, List.drop_zero, h2, List.take_of_length_le (Nat.le_of_eq h2), h8, h7]
 simp
theorem spP (p : PP) : asplice [AV.int .i64 0, .int .i64 0, .nils, .nils] 0 (ppA p).cells = (ppA p).cells := by rw [ppA_eq]; rfl
theorem rules_c {c : Cx} (hc : c.Ok) {i k : Int} (hi : c.isN i) (hk : c.isN k) : Rules c i k := by
 have ki := hc.kids i hi
 have kk := hc.kids k hk
 exact ⟨fun H hD => c183 hc hi (fun x hx => same_c hc (ki.2 x hx) hk) (fun x hx => more_c hc (ki.2 x hx) hk) hD, fun H hD => c184 hc hi hk (fun y hy => more_c hc hi (kk.2 y hy)) hD,
  fun H hD => c185 hc hi hk (fun y hy => more_c hc hi (kk.2 y hy)) (fun x hx y hy => same_c hc (ki.2 x hx) (kk.2 y hy)) (fun x hx y hy => more_c hc (ki.2 x hx) (kk.2 y hy)) hD,
  fun H hD => c186 hc hi hk (fun x hx y hy => same_c hc (ki.2 x hx) (kk.2 y hy)) (fun x hx y hy => more_c hc (ki.2 x hx) (kk.2 y hy)) hD⟩
theorem c86_1 {c : Cx} (hc : c.Ok) {i k : Int} (hi : c.isN i) (hk : c.isN k) (hR : R c.O (c.tm i) (c.tm k)) (hr : RuleQ c i k 1) (hno : ∀ m, m < 1 → ¬ RuleQ c i k m) (hp : ∀ x ∈ c.kd i, R c.O (c.tm x) (c.tm k) → PrfC c x k) : PrfC c i k := by
 intro H hD
 refine k86w.2.calls rfl ?_
 simp only [k86w, mkF]
 have k2 : ∀ l, (kav l).unown = kav l := fun l => (kav_one l).2.1
 have ki := hc.kids i hi
 have kk := hc.kids k hk
 have l1 := hc.kl i hi
 have l2 := hc.kl k hk
 obtain ⟨a1, a2, a3, a4, a5⟩ := kav_one (c.kd i)
 obtain ⟨b1, b2, b3, b4, b5⟩ := kav_one (c.kd k)
 have ii : IL (kav (c.kd i)) (c.kd i) := .inl rfl
 have ik : IL (kav (c.kd k)) (c.kd k) := .inl rfl
 have ei : (c.nd.getD i.toNat default).snd = c.kd i := rfl
 have ek : (c.nd.getD k.toNat default).snd = c.kd k := rfl
 obtain ⟨m1, m2, m3⟩ := hD.lt
 have ed : ∀ X : List AObj, (H ++ X)[c.d]? = H[c.d]? := fun X => List.getElem?_append_left m1
 have spv : ∀ x : AV, asplice [AV.nils] 0 [x] = [x] := fun x => rfl
 have spq : asplice [AV.int .i64 0, .int .i64 0, .nils, .nils] 0 [AV.int .i64 0, .int .i64 0, .nils, .nils] = [AV.int .i64 0, .int .i64 0, .nils, .nils] := rfl
 simp +contextual only [sZ, Nat.reduceEqDiff, Nat.reduceAdd, ↓reduceIte, reduceCtorEq]
 refine ldad_mono (K1 := fun e G => get e 1 = .int .i64 i ∧ get e 3 = .iptr (.ptr c.d 0) ∧ get e 5 = .iptr (.int .i64 k) ∧ get e 6 = .ptr H.length 0 ∧ ∃ x y, get e 7 = .ptr x 0 ∧ get e 8 = .ptr y 0 ∧ XY H x y ∧ PA c H x y i k G) ?_ ?_
 ·have P0 : AObj := .cells [.int .i64 0, .int .i64 0, .nils, .nils]
  have A : ∃ x y, AV.ptr (H.length + 1) 0 = .ptr x 0 ∧ AV.ptr (H.length + 2) 0 = .ptr y 0 ∧ XY H x y ∧ PA c H x y i k (H ++ [.cells [.int .i64 0, .int .i64 0, .nils, .nils], .cells [kav (c.kd i)], .cells [kav (c.kd k)]]) :=
   ⟨_, _, rfl, rfl, ⟨by omega, by omega, by omega, by omega⟩, ⟨hD.app _, by simp, by simp, by simp, by simp, fun j hj _ _ => List.getElem?_append_left hj⟩⟩
  have B : ∃ x y, AV.ptr (H.length + 2) 0 = .ptr x 0 ∧ AV.ptr (H.length + 1) 0 = .ptr y 0 ∧ XY H x y ∧ PA c H x y i k (H ++ [.cells [.int .i64 0, .int .i64 0, .nils, .nils], .cells [kav (c.kd k)], .cells [kav (c.kd i)]]) :=
   ⟨_, _, rfl, rfl, ⟨by omega, by omega, by omega, by omega⟩, ⟨hD.app _, by simp, by simp, by simp, by simp, fun j hj _ _ => List.getElem?_append_left hj⟩⟩
  simp +contextual only [ed, hD.d, idxN, fN3, len_navs, aload_kav, k2, ei, ek, a1, a3, a4, a5, b1, b3, b4, b5, List.map_cons, List.map_nil, spv, List.all_cons, List.all_nil, Bool.and_true, bl_cons, bl_nil, sZ, Nat.reduceEqDiff, Nat.reduceAdd, Nat.reduceLT, ↓reduceIte]
  refine ⟨hi, ?_⟩
  repeat' apply And.intro
  all_goals first | exact hk.1 | exact hk.2 | exact A | exact B
 ·rintro e G ⟨e1, e3, e5, e6, x, y, e7, e8, w, hpa⟩
  simp +contextual only [e1, e3, e5, e6, e7, e8, sZ, Nat.reduceEqDiff, ↓reduceIte]
  refine swp_loop_st 0 (fun m (G : List AObj) => PA c H x y i k G)
   (fun m G => [(1, .int .i64 i), (3, .iptr (.ptr c.d 0)), (5, .iptr (.int .i64 k)), (6, .ptr H.length 0), (7, .ptr x 0), (8, .ptr y 0), (9, .int .i64 ((m + 1 : Nat) : Int))]) (fun m G => G) G ⟨hpa, sle_refl _ _ _⟩ fun m G hm hpa => ?_
  have hf : rulesA.cells[m + 1]? = some (.fn (.func (182 + (m + 1))) [] []) := by
   have : m = 0 ∨ m = 1 ∨ m = 2 ∨ m = 3 := by omega
   rcases this with rfl | rfl | rfl | rfl <;> rfl
  have en := ixR (m + 1) _ hf (by omega)
  simp +contextual only [sZ]
  refine dcall_pure c136 ?_
  simp +contextual only [stepsA, en _ rfl, sZ, Nat.reduceEqDiff, Nat.reduceAdd, ↓reduceIte, reduceCtorEq]
  refine scall_to ((rules_c hc hi hk).at (n := m + 1) (by omega) (by omega) hpa.du) ?_
  rintro r G1 ⟨z, rfl, hz, hU, hD1⟩
  have hpa1 := hpa.call hD w hU hD1
  by_cases hmn : m = 0
  rotate_left
  ·have : z = false := by
    cases z with
    | false => rfl
    | true => exact absurd (hz.1 rfl) (hno (m + 1) (by omega))
   subst this
   simp +contextual only [Bool.not_false, sZ, Nat.reduceEqDiff, ↓reduceIte]
   exact ⟨m + 1, G1, ⟨by omega, hpa1⟩, by omega, sle_eq (by rw [wrap_nat (m + 1) (by omega)]) rfl⟩
  subst hmn
  have : z = true := hz.2 hr
  subst this
  have hl3 := hpa1.len
  have hpb := fun es => hpa1.app w es
  have hgp := fun es => (hpb es).gp
  have hgx := fun es => (hpb es).gx
  have hgy := fun es => (hpb es).gy
  have hst : ∀ (o o' : AObj), (G1 ++ [o]).set (H.length + 3) o' = G1 ++ [o'] := fun o o' => by rw [← hl3]; simp
  have ec : ((1 : Nat) : Int) = 1 := rfl
  have zf : List.map AV.unown [AV.int .i64 (1 : Int), .int .i64 0, .nils, .nils] = [.int .i64 (1 : Int), .int .i64 0, .nils, .nils] := rfl
  have zf0 : List.map AV.unown [AV.int .i64 0, .int .i64 0, .nils, .nils] = [.int .i64 0, .int .i64 0, .nils, .nils] := rfl
  have e86 : ∀ a b : Int, decide (a = b) = decide (a = b) := fun _ _ => rfl
  simp +contextual only [k2, decide_true, Bool.not_true, Bool.not_true, bdP, hl3, hgp, hst, ec, zf, zf0, sp44, hgx, sZ, Nat.reduceEqDiff, Nat.reduceAdd, Nat.reduceLT, ↓reduceIte, reduceCtorEq]
  have hpb0 := hpb [.int .i64 1, .int .i64 0, .nils, .nils]
  generalize G1 ++ [AObj.cells [AV.int .i64 1, .int .i64 0, .nils, .nils]] = G2 at hpb0 ⊢
  have hsub : ∃ z ∈ c.kd i, E c.O (c.tm z) (c.tm k) ∨ R c.O (c.tm z) (c.tm k) := by
   rcases hr with h | h | h | h
   ·exact h.2
   all_goals (exact absurd h.1 (by decide))
  refine scall_to (c100s (SD.lenS c G2) ii (by omega) 147 [] [.iptr (.ptr c.d 0), .iptr (.int .i64 k)] rfl rfl (Q := fun z => E c.O (c.tm z) (c.tm k) ∨ R c.O (c.tm z) (c.tm k))
   (fun z hz G hG => (c147 (same_c hc (ki.2 z hz) hk) (more_c hc (ki.2 z hz) hk) hG.1).mono fun r H' hr => hr.sb hG) ⟨hpb0.du, Up.refl c _⟩) ?_
  rintro r G3 ⟨hG3, hres⟩
  rcases hres with ⟨_, hres⟩ | ⟨q, rfl, hq, hQ, _⟩
  ·obtain ⟨z, hz, h⟩ := hsub
   exact absurd h (hres z hz)
  have hpb3 := hpb0.call hD w hG3.2 hG3.1
  have hps := fun es => hpb3.set (es' := es) hD w
  have gp3 := hpb3.gp
  have gps := fun es => (hps es).gp
  have gxs := fun es => (hps es).gx
  have g6s := fun es => (hps es).g6
  have hmem : (c.kd i).getD q 0 ∈ c.kd i := getD_mem hq
  have un1 : List.map AV.unown [AV.int .i64 (q : Int)] = [.int .i64 (q : Int)] := rfl
  simp +contextual only [k2, ii.lens, ii.idx, gp3, sp41, un1, gps, gxs, Int.toNat_natCast, sZ, Nat.reduceEqDiff, Nat.reduceAdd, Nat.reduceLT, Nat.reduceLeDiff, ↓reduceIte, reduceCtorEq]
  refine ⟨by omega, ?_⟩
  refine scall_to (same_c hc (ki.2 _ hmem) hk _ (hps _).du) ?_
  rintro r G4 ⟨v, rfl, hv, hU4, hD4⟩
  have hpb4 := (hps _).call hD w hU4 hD4
  have gp4 := hpb4.gp
  have gx4 := hpb4.gx
  have g64 := hpb4.g6
  have cod : ∀ l : List PP, ((c.tm i).l.getD q default) = c.tm ((c.kd i).getD q 0) := fun _ => by rw [← ki.1, getD_map0 hq]
  have klen : (c.tm i).l.length = (c.kd i).length := by rw [← ki.1]; simp
  have ki2 : (c.tm i).k = 2 := by
   have := (rules_iff hc hi hk).1
   have hh := (R_iff.1 (show R c.O (c.tm i) (c.tm k) from hR)).1
   exact hh
  cases v with
  | true =>
    have hs : Sh c.O (.mk 1 q [] []) (c.tm i) (c.tm k) := by
     rw [Sh1 rfl ki2]
     refine ⟨rfl, ⟨by show (0 : Int) ≤ q; omega, by show (q : Int) < _; omega⟩, .inl ⟨rfl, ?_⟩⟩
     show E c.O ((c.tm i).l.getD (q : Int).toNat default) (c.tm k)
     rw [Int.toNat_natCast, cod []]; exact hv.1 rfl
    have e4 : (AV.int .i64 (q : Int)) = AV.int .i64 (q : Int) := rfl
    have lp := ldP 1 q [] []
    obtain ⟨q1, q2, q3, q4, q5, q6, q7, q8, q9⟩ := ppA_facts (.mk 1 q [] [])
    have lp2 := ldP2 (.mk 1 q [] [])
    have hgs : (G4.set H.length (.cells (ppA (.mk 1 q [] [])).cells))[H.length]? = some (.cells (ppA (.mk 1 q [] [])).cells) := by rw [List.getElem?_set_self (get_lt g64)]
    change ∀ φ, loadC (some (.cells [.int .i64 1, .int .i64 (q : Int), .nils, .nils])) (some 4) 0 φ = φ (ppA (.mk 1 q [] [])) at lp
    simp +contextual only [Bool.not_true, gp4, lp, g64, q1, q2, q3, q9, spP, hgs, lp2, sZ, Nat.reduceEqDiff, Nat.reduceAdd, ↓reduceIte, reduceCtorEq]
    refine ⟨by first | exact belowL_cells (ppA_blw _ _) | omega, hpb4.fin hD hs⟩
  | false =>
    have hRx : R c.O (c.tm ((c.kd i).getD q 0)) (c.tm k) := hQ.resolve_left fun h => absurd (hv.2 h) (by simp)
    simp +contextual only [k2, ii.lens, ii.idx, Bool.not_false, gp4, gx4, Int.toNat_natCast, sZ, Nat.reduceEqDiff, Nat.reduceAdd, Nat.reduceLT, ↓reduceIte, reduceCtorEq]
    refine ⟨by omega, scall_to (hp _ hmem hRx _ hpb4.du) ?_⟩
    rintro r G5 ⟨u, rfl, hu, hU5, hD5⟩
    have hpb5 := hpb4.call hD w hU5 hD5
    have gp5 := hpb5.gp
    have hps6 := fun es => hpb5.set (es' := es) hD w
    have gp6 := fun es => (hps6 es).gp
    have g66 := fun es => (hps6 es).g6
    have hs : Sh c.O (.mk 1 q [] [u]) (c.tm i) (c.tm k) := by
     rw [Sh1 rfl ki2]
     refine ⟨rfl, ⟨by show (0 : Int) ≤ q; omega, by show (q : Int) < _; omega⟩, .inr ⟨u, rfl, ?_⟩⟩
     show Sh c.O u ((c.tm i).l.getD (q : Int).toNat default) (c.tm k)
     rw [Int.toNat_natCast, cod []]; exact hu
    have lp := ldP 1 q [] [u]
    change ∀ φ, loadC (some (.cells [.int .i64 1, .int .i64 (q : Int), .nils, .lst 4 [ppA u]])) (some 4) 0 φ = φ (ppA (.mk 1 q [] [u])) at lp
    obtain ⟨q1, q2, q3, q4, q5, q6, q7, q8, q9⟩ := ppA_facts (.mk 1 q [] [u])
    obtain ⟨u1, u2, u3, u4, u5, u6, u7, u8, u9⟩ := ppA_facts u
    have lp2 := ldP2 (.mk 1 q [] [u])
    have hgs := fun es => List.getElem?_set_self (a := AObj.cells (ppA (.mk 1 q [] [u])).cells) (get_lt (g66 es))
    simp +contextual only [gp5, gp6, g66, lp, q1, q2, q3, q9, spP, hgs, lp2, u1, u2, u6, ppA_canon, s3, sZ, Nat.reduceEqDiff, Nat.reduceAdd, Nat.reduceLT, ↓reduceIte, reduceCtorEq]
    refine ⟨by first | exact belowL_cells (ppA_blw _ _) | omega, ?_⟩
    exact PB.fin (to := []) (l := [u]) hD (hps6 _) hs
end Go.Abs
end
section
set_option maxRecDepth 100000
namespace Go.Abs
open Go Go.Proofs Go.Rpo
theorem c86_2 {c : Cx} (hc : c.Ok) {i k : Int} (hi : c.isN i) (hk : c.isN k) (hR : R c.O (c.tm i) (c.tm k)) (hr : RuleQ c i k 2) (hno : ∀ m, m < 2 → ¬ RuleQ c i k m) (hp : ∀ y ∈ c.kd k, R c.O (c.tm i) (c.tm y) → PrfC c i y) : PrfC c i k := by
 intro H hD
 refine k86w.2.calls rfl ?_
 simp only [k86w, mkF]
 have k2 : ∀ l, (kav l).unown = kav l := fun l => (kav_one l).2.1
 have ki := hc.kids i hi
 have kk := hc.kids k hk
 have l1 := hc.kl i hi
 have l2 := hc.kl k hk
 obtain ⟨a1, a2, a3, a4, a5⟩ := kav_one (c.kd i)
 obtain ⟨b1, b2, b3, b4, b5⟩ := kav_one (c.kd k)
 have ii : IL (kav (c.kd i)) (c.kd i) := .inl rfl
 have ik : IL (kav (c.kd k)) (c.kd k) := .inl rfl
 have ei : (c.nd.getD i.toNat default).snd = c.kd i := rfl
 have ek : (c.nd.getD k.toNat default).snd = c.kd k := rfl
 obtain ⟨m1, m2, m3⟩ := hD.lt
 have ed : ∀ X : List AObj, (H ++ X)[c.d]? = H[c.d]? := fun X => List.getElem?_append_left m1
 have spv : ∀ x : AV, asplice [AV.nils] 0 [x] = [x] := fun x => rfl
 have spq : asplice [AV.int .i64 0, .int .i64 0, .nils, .nils] 0 [AV.int .i64 0, .int .i64 0, .nils, .nils] = [AV.int .i64 0, .int .i64 0, .nils, .nils] := rfl
 simp +contextual only [sZ, Nat.reduceEqDiff, Nat.reduceAdd, ↓reduceIte, reduceCtorEq]
 refine ldad_mono (K1 := fun e G => get e 1 = .int .i64 i ∧ get e 3 = .iptr (.ptr c.d 0) ∧ get e 5 = .iptr (.int .i64 k) ∧ get e 6 = .ptr H.length 0 ∧ ∃ x y, get e 7 = .ptr x 0 ∧ get e 8 = .ptr y 0 ∧ XY H x y ∧ PA c H x y i k G) ?_ ?_
 ·have P0 : AObj := .cells [.int .i64 0, .int .i64 0, .nils, .nils]
  have A : ∃ x y, AV.ptr (H.length + 1) 0 = .ptr x 0 ∧ AV.ptr (H.length + 2) 0 = .ptr y 0 ∧ XY H x y ∧ PA c H x y i k (H ++ [.cells [.int .i64 0, .int .i64 0, .nils, .nils], .cells [kav (c.kd i)], .cells [kav (c.kd k)]]) :=
   ⟨_, _, rfl, rfl, ⟨by omega, by omega, by omega, by omega⟩, ⟨hD.app _, by simp, by simp, by simp, by simp, fun j hj _ _ => List.getElem?_append_left hj⟩⟩
  have B : ∃ x y, AV.ptr (H.length + 2) 0 = .ptr x 0 ∧ AV.ptr (H.length + 1) 0 = .ptr y 0 ∧ XY H x y ∧ PA c H x y i k (H ++ [.cells [.int .i64 0, .int .i64 0, .nils, .nils], .cells [kav (c.kd k)], .cells [kav (c.kd i)]]) :=
   ⟨_, _, rfl, rfl, ⟨by omega, by omega, by omega, by omega⟩, ⟨hD.app _, by simp, by simp, by simp, by simp, fun j hj _ _ => List.getElem?_append_left hj⟩⟩
  simp +contextual only [ed, hD.d, idxN, fN3, len_navs, aload_kav, k2, ei, ek, a1, a3, a4, a5, b1, b3, b4, b5, List.map_cons, List.map_nil, spv, List.all_cons, List.all_nil, Bool.and_true, bl_cons, bl_nil, sZ, Nat.reduceEqDiff, Nat.reduceAdd, Nat.reduceLT, ↓reduceIte]
  refine ⟨hi, ?_⟩
  repeat' apply And.intro
  all_goals first | exact hk.1 | exact hk.2 | exact A | exact B
 ·rintro e G ⟨e1, e3, e5, e6, x, y, e7, e8, w, hpa⟩
  simp +contextual only [e1, e3, e5, e6, e7, e8, sZ, Nat.reduceEqDiff, ↓reduceIte]
  refine swp_loop_st 1 (fun m (G : List AObj) => PA c H x y i k G)
   (fun m G => [(1, .int .i64 i), (3, .iptr (.ptr c.d 0)), (5, .iptr (.int .i64 k)), (6, .ptr H.length 0), (7, .ptr x 0), (8, .ptr y 0), (9, .int .i64 ((m + 1 : Nat) : Int))]) (fun m G => G) G ⟨hpa, sle_refl _ _ _⟩ fun m G hm hpa => ?_
  have hf : rulesA.cells[m + 1]? = some (.fn (.func (182 + (m + 1))) [] []) := by
   have : m = 0 ∨ m = 1 ∨ m = 2 ∨ m = 3 := by omega
   rcases this with rfl | rfl | rfl | rfl <;> rfl
  have en := ixR (m + 1) _ hf (by omega)
  simp +contextual only [sZ]
  refine dcall_pure c136 ?_
  simp +contextual only [stepsA, en _ rfl, sZ, Nat.reduceEqDiff, Nat.reduceAdd, ↓reduceIte, reduceCtorEq]
  refine scall_to ((rules_c hc hi hk).at (n := m + 1) (by omega) (by omega) hpa.du) ?_
  rintro r G1 ⟨z, rfl, hz, hU, hD1⟩
  have hpa1 := hpa.call hD w hU hD1
  by_cases hmn : m = 1
  rotate_left
  ·have : z = false := by
    cases z with
    | false => rfl
    | true => exact absurd (hz.1 rfl) (hno (m + 1) (by omega))
   subst this
   simp +contextual only [Bool.not_false, sZ, Nat.reduceEqDiff, ↓reduceIte]
   exact ⟨m + 1, G1, ⟨by omega, hpa1⟩, by omega, sle_eq (by rw [wrap_nat (m + 1) (by omega)]) rfl⟩
  subst hmn
  have : z = true := hz.2 hr
  subst this
  have hl3 := hpa1.len
  have hpb := fun es => hpa1.app w es
  have hgp := fun es => (hpb es).gp
  have hgx := fun es => (hpb es).gx
  have hgy := fun es => (hpb es).gy
  have hst : ∀ (o o' : AObj), (G1 ++ [o]).set (H.length + 3) o' = G1 ++ [o'] := fun o o' => by rw [← hl3]; simp
  have ec : ((2 : Nat) : Int) = 2 := rfl
  have zf : List.map AV.unown [AV.int .i64 (2 : Int), .int .i64 0, .nils, .nils] = [.int .i64 (2 : Int), .int .i64 0, .nils, .nils] := rfl
  have zf0 : List.map AV.unown [AV.int .i64 0, .int .i64 0, .nils, .nils] = [.int .i64 0, .int .i64 0, .nils, .nils] := rfl
  have e86 : ∀ a b : Int, decide (a = b) = decide (a = b) := fun _ _ => rfl
  simp +contextual only [k2, ik.lenOk, ik.len (by omega), decide_false, Bool.not_true, Bool.not_true, bdP, hl3, hgp, hst, ec, zf, zf0, sp44, hgy, sZ, Nat.reduceEqDiff, Nat.reduceAdd, Nat.reduceLT, ↓reduceIte, Int.reduceEq]
  have hpb0 := hpb [.int .i64 2, .int .i64 0, .nils, .nils]
  generalize G1 ++ [AObj.cells [AV.int .i64 2, .int .i64 0, .nils, .nils]] = G2 at hpb0 ⊢
  have ki2 : (c.tm i).k = 2 := (R_iff.1 hR).1
  have hpl : PlaceQ c i k := by
   rcases hr with h | h | h | h
   ·exact absurd h.1 (by decide)
   ·exact h.2
   all_goals (exact absurd h.1 (by decide))
  obtain ⟨hbk, hlt, hall0⟩ := hpl
  have kk2 : (c.tm k).k = 2 := of_decide_eq_true hbk
  have hSh : ∀ qs, AllS (Sh c.O) qs (c.tm i) ((c.kd k).map c.tm) → Sh c.O (.mk 2 0 [] qs) (c.tm i) (c.tm k) := by
   intro qs hq
   rw [Sh2 rfl ki2]
   rw [kk.1] at hq
   refine ⟨rfl, rfl, kk2, ?_, hq⟩
   rw [opP, if_pos kk2, opP, if_pos ki2] at hlt; exact hlt
  refine swp_mono (loop86 hD w (l0 := []) (by simp) ik l2 (fun z hz => hp z hz (hall0 z hz)) hpb0) ?_
  rintro e1 e G6 ⟨rfl, f6, f10, qs, hall, hpb6⟩
  replace hpb6 : PB c H x y i k [.int .i64 2, .int .i64 0, .nils, lvA qs] G6 := hpb6
  have gp6 := hpb6.gp
  have g66 := hpb6.g6
  have lp := ldP 2 0 [] qs
  have tv0 : tvA [] = AV.nils := rfl
  rw [tv0] at lp
  have hs : Sh c.O (.mk 2 0 [] qs) (c.tm i) (c.tm k) := hSh qs hall
  obtain ⟨q1, q2, q3, q4, q5, q6, q7, q8, q9⟩ := ppA_facts (.mk 2 0 [] qs)
  have lp2 := ldP2 (.mk 2 0 [] qs)
  have hgs := List.getElem?_set_self (a := AObj.cells (ppA (.mk 2 0 [] qs)).cells) (get_lt g66)
  have hb6 : belowL (H.length + 1) (ppA (.mk 2 0 [] qs)).cells = true := belowL_cells (ppA_blw _ _)
  have hfin := PB.fin (to := []) (l := qs) hD hpb6 hs
  simp +contextual only [f6, f10, gp6, g66, lp, q1, q2, q3, q9, spP, hgs, lp2, hb6, sZ, Nat.reduceEqDiff, Nat.reduceAdd, ↓reduceIte, reduceCtorEq]
  first | exact hfin | exact ⟨by omega, hfin⟩ | exact ⟨trivial, hfin⟩
end Go.Abs
end
section
set_option maxRecDepth 100000
namespace Go.Abs
open Go Go.Proofs Go.Rpo
theorem c86_3 {c : Cx} (hc : c.Ok) {i k : Int} (hi : c.isN i) (hk : c.isN k) (hR : R c.O (c.tm i) (c.tm k)) (hr : RuleQ c i k 3) (hno : ∀ m, m < 3 → ¬ RuleQ c i k m) (hp : ∀ y ∈ c.kd k, R c.O (c.tm i) (c.tm y) → PrfC c i y) (hp2 : ∀ x ∈ c.kd i, ∀ y ∈ c.kd k, R c.O (c.tm x) (c.tm y) → PrfC c x y) : PrfC c i k := by
 intro H hD
 refine k86w.2.calls rfl ?_
 simp only [k86w, mkF]
 have k2 : ∀ l, (kav l).unown = kav l := fun l => (kav_one l).2.1
 have ki := hc.kids i hi
 have kk := hc.kids k hk
 have l1 := hc.kl i hi
 have l2 := hc.kl k hk
 obtain ⟨a1, a2, a3, a4, a5⟩ := kav_one (c.kd i)
 obtain ⟨b1, b2, b3, b4, b5⟩ := kav_one (c.kd k)
 have ii : IL (kav (c.kd i)) (c.kd i) := .inl rfl
 have ik : IL (kav (c.kd k)) (c.kd k) := .inl rfl
 have ei : (c.nd.getD i.toNat default).snd = c.kd i := rfl
 have ek : (c.nd.getD k.toNat default).snd = c.kd k := rfl
 obtain ⟨m1, m2, m3⟩ := hD.lt
 have ed : ∀ X : List AObj, (H ++ X)[c.d]? = H[c.d]? := fun X => List.getElem?_append_left m1
 have spv : ∀ x : AV, asplice [AV.nils] 0 [x] = [x] := fun x => rfl
 have spq : asplice [AV.int .i64 0, .int .i64 0, .nils, .nils] 0 [AV.int .i64 0, .int .i64 0, .nils, .nils] = [AV.int .i64 0, .int .i64 0, .nils, .nils] := rfl
 simp +contextual only [sZ, Nat.reduceEqDiff, Nat.reduceAdd, ↓reduceIte, reduceCtorEq]
 refine ldad_mono (K1 := fun e G => get e 1 = .int .i64 i ∧ get e 3 = .iptr (.ptr c.d 0) ∧ get e 5 = .iptr (.int .i64 k) ∧ get e 6 = .ptr H.length 0 ∧ ∃ x y, get e 7 = .ptr x 0 ∧ get e 8 = .ptr y 0 ∧ XY H x y ∧ PA c H x y i k G) ?_ ?_
 ·have P0 : AObj := .cells [.int .i64 0, .int .i64 0, .nils, .nils]
  have A : ∃ x y, AV.ptr (H.length + 1) 0 = .ptr x 0 ∧ AV.ptr (H.length + 2) 0 = .ptr y 0 ∧ XY H x y ∧ PA c H x y i k (H ++ [.cells [.int .i64 0, .int .i64 0, .nils, .nils], .cells [kav (c.kd i)], .cells [kav (c.kd k)]]) :=
   ⟨_, _, rfl, rfl, ⟨by omega, by omega, by omega, by omega⟩, ⟨hD.app _, by simp, by simp, by simp, by simp, fun j hj _ _ => List.getElem?_append_left hj⟩⟩
  have B : ∃ x y, AV.ptr (H.length + 2) 0 = .ptr x 0 ∧ AV.ptr (H.length + 1) 0 = .ptr y 0 ∧ XY H x y ∧ PA c H x y i k (H ++ [.cells [.int .i64 0, .int .i64 0, .nils, .nils], .cells [kav (c.kd k)], .cells [kav (c.kd i)]]) :=
   ⟨_, _, rfl, rfl, ⟨by omega, by omega, by omega, by omega⟩, ⟨hD.app _, by simp, by simp, by simp, by simp, fun j hj _ _ => List.getElem?_append_left hj⟩⟩
  simp +contextual only [ed, hD.d, idxN, fN3, len_navs, aload_kav, k2, ei, ek, a1, a3, a4, a5, b1, b3, b4, b5, List.map_cons, List.map_nil, spv, List.all_cons, List.all_nil, Bool.and_true, bl_cons, bl_nil, sZ, Nat.reduceEqDiff, Nat.reduceAdd, Nat.reduceLT, ↓reduceIte]
  refine ⟨hi, ?_⟩
  repeat' apply And.intro
  all_goals first | exact hk.1 | exact hk.2 | exact A | exact B
 ·rintro e G ⟨e1, e3, e5, e6, x, y, e7, e8, w, hpa⟩
  simp +contextual only [e1, e3, e5, e6, e7, e8, sZ, Nat.reduceEqDiff, ↓reduceIte]
  refine swp_loop_st 2 (fun m (G : List AObj) => PA c H x y i k G)
   (fun m G => [(1, .int .i64 i), (3, .iptr (.ptr c.d 0)), (5, .iptr (.int .i64 k)), (6, .ptr H.length 0), (7, .ptr x 0), (8, .ptr y 0), (9, .int .i64 ((m + 1 : Nat) : Int))]) (fun m G => G) G ⟨hpa, sle_refl _ _ _⟩ fun m G hm hpa => ?_
  have hf : rulesA.cells[m + 1]? = some (.fn (.func (182 + (m + 1))) [] []) := by
   have : m = 0 ∨ m = 1 ∨ m = 2 ∨ m = 3 := by omega
   rcases this with rfl | rfl | rfl | rfl <;> rfl
  have en := ixR (m + 1) _ hf (by omega)
  simp +contextual only [sZ]
  refine dcall_pure c136 ?_
  simp +contextual only [stepsA, en _ rfl, sZ, Nat.reduceEqDiff, Nat.reduceAdd, ↓reduceIte, reduceCtorEq]
  refine scall_to ((rules_c hc hi hk).at (n := m + 1) (by omega) (by omega) hpa.du) ?_
  rintro r G1 ⟨z, rfl, hz, hU, hD1⟩
  have hpa1 := hpa.call hD w hU hD1
  by_cases hmn : m = 2
  rotate_left
  ·have : z = false := by
    cases z with
    | false => rfl
    | true => exact absurd (hz.1 rfl) (hno (m + 1) (by omega))
   subst this
   simp +contextual only [Bool.not_false, sZ, Nat.reduceEqDiff, ↓reduceIte]
   exact ⟨m + 1, G1, ⟨by omega, hpa1⟩, by omega, sle_eq (by rw [wrap_nat (m + 1) (by omega)]) rfl⟩
  subst hmn
  have : z = true := hz.2 hr
  subst this
  have hl3 := hpa1.len
  have hpb := fun es => hpa1.app w es
  have hgp := fun es => (hpb es).gp
  have hgx := fun es => (hpb es).gx
  have hgy := fun es => (hpb es).gy
  have hst : ∀ (o o' : AObj), (G1 ++ [o]).set (H.length + 3) o' = G1 ++ [o'] := fun o o' => by rw [← hl3]; simp
  have ec : ((3 : Nat) : Int) = 3 := rfl
  have zf : List.map AV.unown [AV.int .i64 (3 : Int), .int .i64 0, .nils, .nils] = [.int .i64 (3 : Int), .int .i64 0, .nils, .nils] := rfl
  have zf0 : List.map AV.unown [AV.int .i64 0, .int .i64 0, .nils, .nils] = [.int .i64 0, .int .i64 0, .nils, .nils] := rfl
  have e86 : ∀ a b : Int, decide (a = b) = decide (a = b) := fun _ _ => rfl
  simp +contextual only [decide_true, decide_false, Bool.not_true, Bool.not_true, bdP, hl3, hgp, hst, ec, zf, zf0, sp44, sZ, Nat.reduceEqDiff, Nat.reduceAdd, ↓reduceIte, Int.reduceEq]
  have hpb0 := hpb [.int .i64 3, .int .i64 0, .nils, .nils]
  generalize G1 ++ [AObj.cells [AV.int .i64 3, .int .i64 0, .nils, .nils]] = G2 at hpb0 ⊢
  have ki2 : (c.tm i).k = 2 := (R_iff.1 hR).1
  have hlx : LexQ c i k := by
   rcases hr with h | h | h | h
   ·exact absurd h.1 (by decide)
   ·exact absurd h.1 (by decide)
   ·exact h.2
   ·exact absurd h.1 (by decide)
  obtain ⟨hlv, hs3, hall0, n0, hpas, hn1, hn2⟩ := hlx
  have hlv2 := lvB_iff.1 hlv
  have kk2 : (c.tm k).k = 2 := hlv2.2.1
  have osi : opS c i = c.O.sp (c.O.pl (c.tm i).n) := by rw [opS, if_pos ki2]
  have hx : side (c.O.sp (c.O.pl (c.tm i).n)) (c.tm i).l = (sideI (opS c i) (c.kd i)).map c.tm := by rw [← osi, ← ki.1, side_map']
  have hy : side (c.O.sp (c.O.pl (c.tm i).n)) (c.tm k).l = (sideI (opS c i) (c.kd k)).map c.tm := by rw [← osi, ← kk.1, side_map']
  have lx : (sideI (opS c i) (c.kd i)).length = (c.kd i).length := sideI_len
  have ly : (sideI (opS c i) (c.kd k)).length = (c.kd k).length := sideI_len
  have nx : ∀ z ∈ sideI (opS c i) (c.kd i), z ∈ c.kd i := fun z hz => mem_sideI.1 hz
  have ny : ∀ z ∈ sideI (opS c i) (c.kd k), z ∈ c.kd k := fun z hz => mem_sideI.1 hz
  have hS : ∀ (n : Nat) (l : List PP), Sh c.O (.mk 3 n [] l) (c.tm i) (c.tm k) ↔ LexS (E c.O) (Sh c.O) n l (c.tm i) ((sideI (opS c i) (c.kd i)).map c.tm) ((sideI (opS c i) (c.kd k)).map c.tm) (c.tm k).l := by
   intro n l
   rw [Sh3 rfl ki2, hx, hy]
   rw [osi] at hs3
   exact ⟨fun h => h.2.2.2.2, fun h => ⟨rfl, kk2, hlv2.2.2, hs3, h⟩⟩
  refine scall_to (c135 hc hi hpb0.du) ?_
  rintro r G3 ⟨rfl, rfl⟩
  have gx0 := hpb0.gx
  have gy0 := hpb0.gy
  simp +contextual only [k2, opA_un, opA_0, opA_1, opA_2, gx0, sZ, Nat.reduceEqDiff, Nat.reduceAdd, Nat.reduceLT, ↓reduceIte]
  refine dcall_pure (c149 (c.kd i) (opS c i) (by omega)) ?_
  simp +contextual only [k2, gy0, sZ, Nat.reduceEqDiff, Nat.reduceAdd, Nat.reduceLT, ↓reduceIte]
  refine dcall_pure (c149 (c.kd k) (opS c i) (by omega)) ?_
  generalize sideI (opS c i) (c.kd i) = xs at *
  generalize sideI (opS c i) (c.kd k) = ys at *
  have ix : IL (.lst 0 (ints xs)) xs := .inr rfl
  have iy : IL (.lst 0 (ints ys)) ys := .inr rfl
  simp +contextual only [sZ, Nat.reduceEqDiff, Nat.reduceAdd, ↓reduceIte, reduceCtorEq]
  refine scall_to (c150 ix iy (by omega) (by omega) (fun z hz z' hz' => same_c hc (ki.2 z (nx z hz)) (kk.2 z' (ny z' hz'))) hpb0.du) ?_
  rintro r G4 ⟨n, rfl, hn, hU4, hD4⟩
  have en0 := hn.uniq hpas
  subst en0
  have hpb4 := hpb0.call hD w hU4 hD4
  have gp4 := hpb4.gp
  have hps := fun es => hpb4.set (es' := es) hD w
  have gps := fun es => (hps es).gp
  have gxs := fun es => (hps es).gx
  have gys := fun es => (hps es).gy
  have un1 : List.map AV.unown [AV.int .i64 (n : Int)] = [.int .i64 (n : Int)] := rfl
  have hLS : ∀ l, LexS (E c.O) (Sh c.O) n l (c.tm i) (xs.map c.tm) (ys.map c.tm) (c.tm k).l ↔ (if (n : Int) = ys.length then AllS (Sh c.O) l (c.tm i) ((c.kd k).map c.tm) else ∃ q r, l = q :: r ∧ Sh c.O q (c.tm (xs.getD n 0)) (c.tm (ys.getD n 0)) ∧ AllS (Sh c.O) r (c.tm i) ((c.kd k).map c.tm)) := by
   intro l
   rw [LexK (kd := c.kd k) kk.1]
   have h1 : (0 : Int) ≤ n ∧ (n : Int) < xs.length ∧ (n : Int) ≤ ys.length := ⟨by omega, by omega, by have := hn.lb; omega⟩
   have h2 : ∀ j, j < (n : Int).toNat → E c.O (c.tm (xs.getD j 0)) (c.tm (ys.getD j 0)) := fun j hj => hn.eq j (by omega)
   rw [Int.toNat_natCast]
   exact ⟨fun h => h.2.2, fun h => ⟨h1, h2, h⟩⟩
  by_cases hny : n < ys.length
  ·have n4 : ((n : Int) < ys.length) = True := eq_true (by omega)
   simp +contextual only [decide_true, gp4, sp41, un1, gps, iy.lenOk, iy.len (by omega), n4, ix.idx, iy.idx, ix.lens, iy.lens, Int.toNat_natCast, d3, s3, List.set_set, sZ, Nat.reduceEqDiff, Nat.reduceAdd, Nat.reduceLT, Nat.reduceLeDiff, ↓reduceIte, reduceCtorEq]
   have mx := nx _ (getD_mem (l := xs) (i := n) (by omega))
   have my := ny _ (getD_mem hny)
   have hrec : PrfC c (xs.getD n 0) (ys.getD n 0) := hp2 _ mx _ my (hn2.resolve_left (by omega))
   have hSh : ∀ u qs, Sh c.O u (c.tm (xs.getD n 0)) (c.tm (ys.getD n 0)) → AllS (Sh c.O) qs (c.tm i) ((c.kd k).map c.tm) → Sh c.O (.mk 3 n [] (u :: qs)) (c.tm i) (c.tm k) := by
    intro u qs hu hq
    rw [hS, hLS, if_neg (by omega)]; exact ⟨u, qs, rfl, hu, hq⟩
   repeat' apply And.intro
   all_goals first | omega | skip
   all_goals
    refine scall_to (hrec _ (hps _).du) ?_
    rintro r G5 ⟨u, rfl, hu, hU5, hD5⟩
    replace hSh := fun qs => hSh u qs hu
    have hpb5 := (hps _).call hD w hU5 hD5
    have gp5 := hpb5.gp
    have hps6 := fun es => hpb5.set (es' := es) hD w
    have gps6 := fun es => (hps6 es).gp
    have gys6 := fun es => (hps6 es).gy
    obtain ⟨u1, u2, u3, u4, u5, u6, u7, u8, u9⟩ := ppA_facts u
    have ap1 : ∀ ψ, aappend 4 64 .nils (.lst 0 [ppA u]) ψ = ψ (ppAs ([] ++ [u])) := fun ψ => ap_lv [] u (by simp) 0 ψ
    have ea : ppAs ([] ++ [u]) = [ppA u] := rfl
    rw [ea] at ap1
    simp +contextual only [k2, ik.lenOk, ik.len (by omega), u1, u2, u6, ppA_canon, ap1, gp5, gps6, gys6, d3, s3, List.set_set, sZ, Nat.reduceEqDiff, Nat.reduceAdd, Nat.reduceLT, ↓reduceIte]
    refine swp_mono (loop86 hD w (l0 := [u]) (by simp) ik l2 (fun z hz => hp z hz (hall0 z hz)) (hps6 _)) ?_
    rintro e1 e G6 ⟨rfl, f6, f10, qs, hall, hpb6⟩
    replace hpb6 : PB c H x y i k [.int .i64 3, .int .i64 n, .nils, lvA (u :: qs)] G6 := hpb6
    have gp6 := hpb6.gp
    have g66 := hpb6.g6
    have lp := ldP 3 n [] (u :: qs)
    have tv0 : tvA [] = AV.nils := rfl
    rw [tv0] at lp
    have hs : Sh c.O (.mk 3 n [] (u :: qs)) (c.tm i) (c.tm k) := hSh qs hall
    obtain ⟨q1, q2, q3, q4, q5, q6, q7, q8, q9⟩ := ppA_facts (.mk 3 n [] (u :: qs))
    have lp2 := ldP2 (.mk 3 n [] (u :: qs))
    have hgs := List.getElem?_set_self (a := AObj.cells (ppA (.mk 3 n [] (u :: qs))).cells) (get_lt g66)
    have hb6 : belowL (H.length + 1) (ppA (.mk 3 n [] (u :: qs))).cells = true := belowL_cells (ppA_blw _ _)
    have hfin := PB.fin (to := []) (l := (u :: qs)) hD hpb6 hs
    simp +contextual only [f6, f10, gp6, g66, lp, q1, q2, q3, q9, spP, hgs, lp2, hb6, sZ, Nat.reduceEqDiff, Nat.reduceAdd, ↓reduceIte, reduceCtorEq]
    first | exact hfin | exact ⟨by omega, hfin⟩ | exact ⟨trivial, hfin⟩
  ·have n4 : ((n : Int) < ys.length) = False := eq_false (by omega)
   have hSh : ∀ qs, AllS (Sh c.O) qs (c.tm i) ((c.kd k).map c.tm) → Sh c.O (.mk 3 n [] qs) (c.tm i) (c.tm k) := by
    intro qs hq
    rw [hS, hLS, if_pos (by have := hn.lb; omega)]; exact hq
   simp +contextual only [k2, ik.lenOk, ik.len (by omega), decide_false, gp4, sp41, un1, gps, gys, iy.lenOk, iy.len (by omega), n4, sZ, Nat.reduceEqDiff, Nat.reduceAdd, Nat.reduceLT, Nat.reduceLeDiff, ↓reduceIte]
   refine swp_mono (loop86 hD w (l0 := []) (by simp) ik l2 (fun z hz => hp z hz (hall0 z hz)) (hps _)) ?_
   rintro e1 e G6 ⟨rfl, f6, f10, qs, hall, hpb6⟩
   replace hpb6 : PB c H x y i k [.int .i64 3, .int .i64 n, .nils, lvA qs] G6 := hpb6
   have gp6 := hpb6.gp
   have g66 := hpb6.g6
   have lp := ldP 3 n [] qs
   have tv0 : tvA [] = AV.nils := rfl
   rw [tv0] at lp
   have hs : Sh c.O (.mk 3 n [] qs) (c.tm i) (c.tm k) := hSh qs hall
   obtain ⟨q1, q2, q3, q4, q5, q6, q7, q8, q9⟩ := ppA_facts (.mk 3 n [] qs)
   have lp2 := ldP2 (.mk 3 n [] qs)
   have hgs := List.getElem?_set_self (a := AObj.cells (ppA (.mk 3 n [] qs)).cells) (get_lt g66)
   have hb6 : belowL (H.length + 1) (ppA (.mk 3 n [] qs)).cells = true := belowL_cells (ppA_blw _ _)
   have hfin := PB.fin (to := []) (l := qs) hD hpb6 hs
   simp +contextual only [f6, f10, gp6, g66, lp, q1, q2, q3, q9, spP, hgs, lp2, hb6, sZ, Nat.reduceEqDiff, Nat.reduceAdd, ↓reduceIte, reduceCtorEq]
   first | exact hfin | exact ⟨by omega, hfin⟩ | exact ⟨trivial, hfin⟩
end Go.Abs
end
