/- Part 17 of 18 of the proof. -/
import Derived.Test.YtljchnfgjdjobaaGreatUap
import Derived.Laws.Runes
import Derived.Test.YtljchnfgjdjobaaGreatProg
import Derived.KernelRfl
import Derived.Test.YtljchnfgjdjobaaGreatUaf
import Derived.Test.YtljchnfgjdjobaaGreatUak
import Derived.Test.YtljchnfgjdjobaaGreatUam
import Derived.Test.YtljchnfgjdjobaaGreatRows
import Derived.ProofKit
set_option linter.unusedVariables false
set_option linter.unusedSimpArgs false
set_option linter.defProp false
set_option linter.unusedSectionVars false
section
set_option maxRecDepth 100000
namespace Go.aK
open Go Go.Proofs Go.fq
def Lt (o : gD) : Prop := o.args.length ≤ 20 ∧ o.name.size ≤ 200
theorem v9 {α : Type} [Inhabited α] {p : α → Prop} {l : List α} (h : ∀ j, j < l.length → p (l.getD j default)) : ∀ x ∈ l, p x := fun x hx => by
 obtain ⟨n, hn, rfl⟩ := List.getElem_of_mem hx
 have := h n hn
 rwa [List.getD_eq_getElem?_getD, List.getElem?_eq_getElem hn] at this
theorem c68 (o : gD) : ∃ b, Pure Tryz.prog 68 [o.av] (.bool b) ∧ (b = false → Lt o) := by
 refine ⟨decide (20 < (o.args.length : Int)) || decide (200 < (o.name.size : Int)), fun H => k68.2.calls rfl ?_, fun h => by simp at h; exact ⟨by omega, by omega⟩⟩
 simp only [k68, aI]
 simp +contextual only [aC, sZ, Nat.reduceEqDiff, Nat.reduceAdd, ↓reduceIte, reduceCtorEq]
 refine fun _ => ⟨fun h => aW rfl ?_, fun h => aW rfl ?_⟩
 ·have h' : ¬ (20 : Int) < o.args.length := by omega
  rw [decide_eq_false h', Bool.false_or]
 ·rw [decide_eq_true h, Bool.true_or]
theorem c70 (s : ByteArray) : ∃ b, Pure Tryz.prog 70 [.str s] (.bool b) ∧ (b = false → s.size ≤ 200) := by
 refine ⟨decide (200 < (s.size : Int)), fun H => k70.2.calls rfl ?_, fun h => by simp at h; omega⟩
 simp only [k70, aI]
 simp +contextual only [sZ, Nat.reduceAdd, ↓reduceIte, reduceCtorEq]
 exact aW rfl rfl
theorem Xo (l : List gD) : ∀ H, aq Tryz.prog 128 [.ap 0 (ot l), .fn (.func 68) [] []] H fun r H' => (∃ n, r = .int .i64 n ∧ (n < 0 → ∀ o ∈ l, Lt o)) ∧ H' = H := by
 refine fun H => Um.2.calls rfl ?_
 simp only [Um, aI]
 simp +contextual only [aC, sZ, Nat.reduceEqDiff, Nat.reduceAdd, ↓reduceIte, reduceCtorEq]
 intro hl
 have fin : ∀ (n : Int), (n < 0 → ∀ o ∈ l, Lt o) → bT H.length [.t 4] [(4, .int .i64 n)] H fun r H' => (∃ n, r = .int .i64 n ∧ (n < 0 → ∀ o ∈ l, Lt o)) ∧ H' = H := fun n hn =>
  aQ H.length (Nat.le_refl _) (by rw [ax, if_pos rfl]; rfl) ⟨⟨n, by rw [ax, if_pos rfl], hn⟩, List.take_length⟩
 refine aB l.length (fun i => ∀ j, j < i → Lt (l.getD j default)) (fun i => [(0, .ap 0 (ot l)), (1, .fn (.func 68) [] []), (7, .int .i64 l.length), (8, .int .i64 i)]) (fun _ => H) ⟨fun j h => by omega, aA _ _ _⟩ fun i hi hI => ?_
 simp +contextual only [aC, sZ, Nat.reduceEqDiff, Nat.reduceAdd, ↓reduceIte, reduceCtorEq]
 obtain ⟨b, hb, hq⟩ := c68 (l.getD i default)
 refine ⟨fun aY => ?_, fun iW => fin _ fun _ => v9 fun j hj => hI j (by have := dl iW; omega)⟩
 have aY := bZ aY
 refine ⟨aY, ae hb ?_⟩
 cases b with
 | true => simp +contextual only [sZ, Nat.reduceEqDiff, ↓reduceIte, reduceCtorEq]; exact fin _ fun h => by omega
 | false =>
   simp +contextual only [sZ, Nat.reduceEqDiff, ↓reduceIte, reduceCtorEq]
   refine ⟨i + 1, ⟨aY, fun j hj => ?_⟩, by omega, aG (by rw [au i (by omega)]) rfl⟩
   by_cases e : j < i
   ·exact hI j e
   ·have : j = i := by omega
    subst this; exact hq rfl
theorem aaO (l : List gD) : ∀ H, aq Tryz.prog 67 [.ap 0 (ot l), .fn (.func 68) [] []] H fun r H' => (∃ b, r = .bool b ∧ (b = false → ∀ o ∈ l, Lt o)) ∧ H' = H := by
 refine fun H => k67.2.calls rfl ?_
 simp only [k67, aI]
 simp +contextual only [sZ, Nat.reduceEqDiff, Nat.reduceAdd, ↓reduceIte, reduceCtorEq]
 refine af (Xo l H) ?_
 rintro r G ⟨⟨n, rfl, hn⟩, rfl⟩
 simp +contextual only [sZ, ↓reduceIte, reduceCtorEq]
 exact aQ _ (Nat.le_refl _) (by rw [ax, if_pos rfl]; rfl) ⟨⟨decide (0 ≤ n), by rw [ax, if_pos rfl], fun h => hn (by simpa using h)⟩, List.take_length⟩
theorem Xp (l : List ByteArray) : ∀ H, aq Tryz.prog 129 [.ap 0 (strs l), .fn (.func 70) [] []] H fun r H' => (∃ n, r = .int .i64 n ∧ (n < 0 → ∀ o ∈ l, o.size ≤ 200)) ∧ H' = H := by
 refine fun H => Un.2.calls rfl ?_
 simp only [Un, aI]
 simp +contextual only [aC, sZ, Nat.reduceEqDiff, Nat.reduceAdd, ↓reduceIte, reduceCtorEq]
 intro hl
 have fin : ∀ (n : Int), (n < 0 → ∀ o ∈ l, o.size ≤ 200) → bT H.length [.t 4] [(4, .int .i64 n)] H fun r H' => (∃ n, r = .int .i64 n ∧ (n < 0 → ∀ o ∈ l, o.size ≤ 200)) ∧ H' = H := fun n hn =>
  aQ H.length (Nat.le_refl _) (by rw [ax, if_pos rfl]; rfl) ⟨⟨n, by rw [ax, if_pos rfl], hn⟩, List.take_length⟩
 refine aB l.length (fun i => ∀ j, j < i → (l.getD j default).size ≤ 200) (fun i => [(0, .ap 0 (strs l)), (1, .fn (.func 70) [] []), (7, .int .i64 l.length), (8, .int .i64 i)]) (fun _ => H) ⟨fun j h => by omega, aA _ _ _⟩ fun i hi hI => ?_
 simp +contextual only [aC, sZ, Nat.reduceEqDiff, Nat.reduceAdd, ↓reduceIte, reduceCtorEq]
 obtain ⟨b, hb, hq⟩ := c70 (l.getD i default)
 refine ⟨fun aY => ?_, fun iW => fin _ fun _ => v9 fun j hj => hI j (by have := dl iW; omega)⟩
 have aY := bZ aY
 refine ⟨aY, ae hb ?_⟩
 cases b with
 | true => simp +contextual only [sZ, Nat.reduceEqDiff, ↓reduceIte, reduceCtorEq]; exact fin _ fun h => by omega
 | false =>
   simp +contextual only [sZ, Nat.reduceEqDiff, ↓reduceIte, reduceCtorEq]
   refine ⟨i + 1, ⟨aY, fun j hj => ?_⟩, by omega, aG (by rw [au i (by omega)]) rfl⟩
   by_cases e : j < i
   ·exact hI j e
   ·have : j = i := by omega
    subst this; exact hq rfl
theorem aaP (l : List ByteArray) : ∀ H, aq Tryz.prog 69 [.ap 0 (strs l), .fn (.func 70) [] []] H fun r H' => (∃ b, r = .bool b ∧ (b = false → ∀ o ∈ l, o.size ≤ 200)) ∧ H' = H := by
 refine fun H => k69.2.calls rfl ?_
 simp only [k69, aI]
 simp +contextual only [sZ, Nat.reduceEqDiff, Nat.reduceAdd, ↓reduceIte, reduceCtorEq]
 refine af (Xp l H) ?_
 rintro r G ⟨⟨n, rfl, hn⟩, rfl⟩
 simp +contextual only [sZ, ↓reduceIte, reduceCtorEq]
 exact aQ _ (Nat.le_refl _) (by rw [ax, if_pos rfl]; rfl) ⟨⟨decide (0 ≤ n), by rw [ax, if_pos rfl], fun h => hn (by simpa using h)⟩, List.take_length⟩
structure X4 (s : Sg) (ps ss : List Int) : Prop where
 h1 : s.ops.length ≤ 40
 h2 : s.aZ.length ≤ 40
 h3 : ps.length ≤ 80
 h4 : ss.length ≤ 80
 h5 : ∀ o ∈ s.ops, Lt o
 h6 : ∀ x ∈ s.aZ, x.size ≤ 200
theorem c18 (s : Sg) (ps ss : List Int) (H : List aa) : aq Tryz.prog 18 [s.av, eR ps ss] H fun r H' => (∃ b, r = .bool b ∧ (b = true → X4 s ps ss)) ∧ H' = H := by
 refine k18.2.calls rfl ?_
 simp only [k18, aI]
 have fin : ∀ (b : Bool), (b = true → X4 s ps ss) → bT H.length [.t 4] [(4, .bool b)] H fun r H' => (∃ b, r = .bool b ∧ (b = true → X4 s ps ss)) ∧ H' = H := fun b hb =>
  aQ H.length (Nat.le_refl _) (by rw [ax, if_pos rfl]; rfl) ⟨⟨b, by rw [ax, if_pos rfl], hb⟩, List.take_length⟩
 have finf := fin false (fun h => by cases h)
 obtain ⟨q1, q2, q3, q4, q5, q6⟩ := bi ps ss
 simp +contextual only [aC, q1, vH, w6, aw, sZ, Nat.reduceEqDiff, Nat.reduceAdd, ↓reduceIte, reduceCtorEq]
 refine fun _ => ⟨fun h1 _ => ⟨fun h2 _ => ⟨fun h3 _ => ⟨fun h4 => af (aaO s.ops H) ?_, fun _ => finf⟩, fun _ => finf⟩, fun _ => finf⟩, fun _ => finf⟩
 rintro r G ⟨⟨b, rfl, hb⟩, rfl⟩
 cases b with
 | true => simp +contextual only [sZ, Nat.reduceEqDiff, ↓reduceIte, reduceCtorEq]; exact finf
 | false =>
   simp +contextual only [aC, sZ, Nat.reduceEqDiff, Nat.reduceAdd, ↓reduceIte]
   refine af (aaP s.aZ _) ?_
   rintro r G ⟨⟨d, rfl, hd⟩, rfl⟩
   simp +contextual only [sZ, Nat.reduceEqDiff, ↓reduceIte, reduceCtorEq]
   exact fin _ fun h => ⟨by omega, by omega, by omega, by omega, hb rfl, hd (by simpa using h)⟩
end Go.aK
end
section
set_option maxRecDepth 100000
namespace Go.aK
open Go Go.Proofs
def S0 (c : UInt8) : Prop := ¬ ((c.toNat : Int) < 33 ∨ 126 < (c.toNat : Int) ∨ (c.toNat : Int) = 40 ∨ (c.toNat : Int) = 41 ∨ (c.toNat : Int) = 44)
def nC (s : ByteArray) : Prop := (∀ i, i < s.size → S0 (s.data.toList.getD i 0)) ∧ 1 ≤ s.size ∧ s.size ≤ 32
theorem jL {P : Prop} (h : Decidable P) {H : List aa} {s : Nat} (hp : ¬ P) : bT H.length [.t s] [(s, .bool false)] H fun r H' => r = .bool (decide P) ∧ H' = H := aW rfl (by simp [hp])
open Classical in
theorem Xq (s : ByteArray) (hs : s.size ≤ 200) : Pure Tryz.prog 195 [.str s] (.bool (decide (nC s))) := by
 refine fun H => UT.2.calls rfl ?_
 simp only [UT, aI]
 simp +contextual only [sZ, Nat.reduceAdd, ↓reduceIte, reduceCtorEq]
 refine aB s.size (fun i => ∀ j, j < i → S0 (s.data.toList.getD j 0))
  (fun i => [(0, .str s), (3, .int .i64 i)]) (fun i => H) ⟨fun j h => by omega, aA _ _ _⟩ fun i hi hI => ?_
 simp +contextual only [Zs, sZ, Nat.reduceEqDiff, ↓reduceIte, reduceCtorEq, Int.reduceLT]
 have bad (hl : i < s.size) (h : ¬ S0 (s.data.toList.getD i 0)) : ¬ nC s := fun e => h (e.1 i hl)
 refine ⟨fun hl => ?_, fun hl => ⟨fun h1 => ?_, fun h1 => ?_⟩⟩
 ·have hl := bZ hl
  have bad := bad hl
  unfold S0 at bad
  refine ⟨hl, fun a => ⟨hl, fun b => ⟨hl, fun c => ⟨hl, fun d => ⟨hl, fun e => ?_, fun e => ?_⟩, fun d => ?_⟩, fun c => ?_⟩, fun b => ?_⟩, fun a => ?_⟩
  ·exact jL _ (bad (by omega))
  ·refine ⟨i + 1, ⟨hl, fun j hj => ?_⟩, by omega, aG (by rw [au i (by omega)]) rfl⟩
   by_cases EZ : j < i
   ·exact hI j EZ
   ·have : j = i := by omega
    subst this
    unfold S0; omega
  ·exact jL _ (bad (by omega))
  ·exact jL _ (bad (by omega))
  ·exact jL _ (bad (by omega))
  ·exact jL _ (bad (by omega))
 ·refine aW rfl ?_
  have e : (((s.size : Nat) : Int) ≤ 32) = nC s := propext ⟨fun h => ⟨fun j hj => hI j (by omega), by omega, by omega⟩, fun h => by have := h.2.2; omega⟩
  simp only [e]
 ·exact jL _ fun e => by have := e.2.1; omega
def AE (s : ByteArray) : Nat := s.data.toList.countP (· == 95)
theorem Xr (s : ByteArray) (hs : s.size ≤ 200) : Pure Tryz.prog 196 [.str s] (.int .i64 (AE s : Nat)) := by
 unfold AE
 refine fun H => UU.2.calls rfl ?_
 simp only [UU, aI]
 simp +contextual only [sZ, Nat.reduceEqDiff, Nat.reduceAdd, ↓reduceIte, reduceCtorEq]
 refine aB s.size (fun i => True)
  (fun i => [(0, .str s), (3, .int .i64 ((s.data.toList.take i).countP (· == 95) : Nat)), (4, .int .i64 i)]) (fun i => H) ⟨trivial, aA _ _ _⟩ fun i hi hI => ?_
 simp +contextual only [Zs, sZ, Nat.reduceEqDiff, ↓reduceIte, reduceCtorEq]
 have hz : s.data.toList.length = s.size := rfl
 have hc := List.countP_le_length (p := (· == (95 : UInt8))) (l := s.data.toList.take i)
 rw [List.length_take] at hc
 refine ⟨fun hl => ?_, fun hl => ?_⟩
 ·have hl := bZ hl
  have wL : i < s.data.toList.length := hl
  have eg : s.data.toList.getD i 0 = s.data.toList[i] := by rw [List.getD_eq_getElem?_getD, List.getElem?_eq_getElem wL]; rfl
  have et : (s.data.toList.take (i + 1)).countP (· == 95) = (s.data.toList.take i).countP (· == 95) + if (s.data.toList.getD i 0 == 95) = true then 1 else 0 := by
   rw [List.take_add_one, List.countP_append, eg, List.getElem?_eq_getElem wL]; simp [List.countP_cons]
  refine ⟨hl, fun a => ⟨i + 1, hl, by omega, aG ?_ rfl⟩, fun a => ⟨i + 1, hl, by omega, aG ?_ rfl⟩⟩
  ·have : (s.data.toList.getD i 0 == 95) = true := by
    rw [beq_iff_eq]; apply UInt8.toNat_inj.1; simpa using Int.ofNat.inj a
   rw [au i (by omega), au _ (by omega), et, if_pos this]
  ·have : ¬ (s.data.toList.getD i 0 == 95) = true := by
    rw [beq_iff_eq]; intro h; rw [h] at a; exact a rfl
   rw [au i (by omega), et, if_neg this]; rfl
 ·rw [List.take_of_length_le (by have := dl hl; omega)]
  exact aW rfl rfl
def kv (s : Sg) (l : List Int) : Prop := ∀ x ∈ l, 0 ≤ x ∧ x < s.aZ.length
open Classical in
theorem PL (s : Sg) (l : List Int) : Pure Tryz.prog 232 [s.av, .ap 0 (ints l)] (.bool (decide (kv s l))) := by
 refine fun H => Vh.2.calls rfl ?_
 simp only [Vh, aI]
 simp +contextual only [aC, sZ, Nat.reduceEqDiff, Nat.reduceAdd, ↓reduceIte, reduceCtorEq]
 refine aB l.length (fun i => ∀ j, j < i → 0 ≤ l.getD j 0 ∧ l.getD j 0 < s.aZ.length)
  (fun i => [(1, .ap 0 (ints l)), (2, .ai s.av), (5, .int .i64 i)]) (fun i => H) ⟨fun j h => by omega, aA _ _ _⟩ fun i hi hI => ?_
 by_cases hl : i < l.length
 ·have bad (h : ¬ (0 ≤ l.getD i 0 ∧ l.getD i 0 < s.aZ.length)) : ¬ kv s l := fun e => h (e _ (aO hl))
  have e0 : ((i : Int) < l.length) = True := eq_true (by omega)
  by_cases h1 : l.getD i 0 < 0
  ·have e1 : (l.getD i 0 < 0) = True := eq_true h1
   simp +contextual only [e0, e1, hl, decide_true, sZ, Nat.reduceEqDiff, ↓reduceIte, reduceCtorEq]
   exact fun _ => jL _ (bad (by omega))
  ·have e1 : (l.getD i 0 < 0) = False := eq_false h1
   by_cases h2 : s.aZ.length ≤ l.getD i 0
   ·have e2 : ((s.aZ.length : Int) ≤ l.getD i 0) = True := eq_true h2
    simp +contextual only [aC, e0, e1, e2, hl, decide_true, decide_false, sZ, Nat.reduceEqDiff, ↓reduceIte, reduceCtorEq]
    exact fun _ => jL _ (bad (by omega))
   ·have e2 : ((s.aZ.length : Int) ≤ l.getD i 0) = False := eq_false h2
    simp +contextual only [aC, e0, e1, e2, hl, decide_true, decide_false, sZ, Nat.reduceEqDiff, ↓reduceIte]
    refine fun _ => ⟨i + 1, ⟨hl, fun j hj => ?_⟩, by omega, aG (by rw [au i (by omega)]) rfl⟩
    by_cases EZ : j < i
    ·exact hI j EZ
    ·have : j = i := by omega
     subst this
     exact ⟨by omega, by omega⟩
 ·have e0 : ((i : Int) < l.length) = False := eq_false (by omega)
  simp +contextual only [e0, sZ, Nat.reduceEqDiff, ↓reduceIte, reduceCtorEq]
  refine fun _ => aW rfl ?_
  have : kv s l := fun x hx => by
   obtain ⟨n, hn, rfl⟩ := List.getElem_of_mem hx
   have := hI n (by omega)
   rwa [List.getD_eq_getElem?_getD, List.getElem?_eq_getElem hn] at this
  simp [this]
def Lu (s : Sg) (o : gD) : Prop := nC o.name ∧ AE o.name ≠ o.name.size ∧ (AE o.name = 0 ∨ AE o.name = o.args.length) ∧ o.args.length ≤ 8 ∧ kv s o.args ∧ kv s [o.AB]
theorem KX (a : Int) : [AV.int .i64 a] = ints [a] := rfl
open Classical in
theorem aaQ (s : Sg) (o : gD) (ho : Lt o) : Pure Tryz.prog 197 [s.av, o.av] (.bool (decide (Lu s o))) := by
 have e1 := Xr o.name ho.2
 have e2 := Xq o.name ho.2
 have hb : AE o.name ≤ o.name.size := List.countP_le_length (p := (· == (95 : UInt8))) (l := o.name.data.toList)
 have e3 := PL s o.args
 have e4 := PL s [o.AB]
 have hR : Lu s o = (nC o.name ∧ AE o.name ≠ o.name.size ∧ (AE o.name = 0 ∨ AE o.name = o.args.length) ∧ o.args.length ≤ 8 ∧ kv s o.args ∧ kv s [o.AB]) := rfl
 refine fun H => UW.2.calls rfl ?_
 simp only [UW, aI]
 simp +contextual only [aC, sZ, Nat.reduceEqDiff, Nat.reduceAdd, ↓reduceIte, reduceCtorEq]
 refine ae e1 ?_
 simp +contextual only [aC, sZ, Nat.reduceEqDiff, Nat.reduceAdd, ↓reduceIte]
 refine ae e2 ?_
 have ha := ho.1
 generalize AE o.name = n at *
 by_cases hn : nC o.name
 ·rw [decide_eq_true hn]
  by_cases h1 : n = o.name.size
  ·have f1 : ((n : Int) = o.name.size) = True := eq_true (by omega)
   simp +contextual only [aC, f1, decide_true, sZ, Nat.reduceEqDiff, ↓reduceIte, reduceCtorEq]
   exact jL _ (by rw [hR]; exact fun e => e.2.1 h1)
  have f1 : ((n : Int) = o.name.size) = False := eq_false (by omega)
  by_cases h2 : n = 0 ∨ n = o.args.length
  ·have hz : (0 < (n : Int)) = False ∧ (True ∧ True) = True ∨ (0 < (n : Int)) = True ∧ ((n : Int) = o.args.length) = True := by
    by_cases h0 : n = 0
    ·exact .inl ⟨eq_false (by omega), by simp⟩
    ·exact .inr ⟨eq_true (by omega), eq_true (by omega)⟩
   rcases hz with ⟨f2, f3⟩ | ⟨f2, f3⟩
   all_goals
    simp +contextual only [aC, f1, f2, f3, decide_false, decide_true, sZ, Nat.reduceEqDiff, Nat.reduceAdd, ↓reduceIte, reduceCtorEq]
    refine fun _ => ⟨fun h3 => ae e3 ?_, fun h3 => jL _ (by rw [hR]; exact fun e => by have := e.2.2.2.1; omega)⟩
    by_cases h4 : kv s o.args
    ·rw [decide_eq_true h4]
     simp +contextual only [aC, KX, sZ, Nat.reduceEqDiff, Nat.reduceAdd, ↓reduceIte]
     refine ae e4 ?_
     simp +contextual only [sZ, Nat.reduceEqDiff, ↓reduceIte, reduceCtorEq]
     refine aW rfl ?_
     have : Lu s o = kv s [o.AB] := by rw [hR]; exact propext ⟨fun e => e.2.2.2.2.2, fun e => ⟨hn, h1, h2, by omega, h4, e⟩⟩
     simp only [this]
    ·rw [decide_eq_false h4]
     simp +contextual only [sZ, Nat.reduceEqDiff, ↓reduceIte, reduceCtorEq]
     exact jL _ (by rw [hR]; exact fun e => h4 e.2.2.2.2.1)
  ·have f2 : (0 < (n : Int)) = True := eq_true (by omega)
   have f3 : ((n : Int) = o.args.length) = False := eq_false (by omega)
   simp +contextual only [aC, f1, f2, f3, decide_false, decide_true, sZ, Nat.reduceEqDiff, ↓reduceIte, reduceCtorEq]
   exact fun _ => jL _ (by rw [hR]; exact fun e => h2 e.2.2.1)
 ·rw [decide_eq_false hn]
  simp +contextual only [sZ, Nat.reduceEqDiff, ↓reduceIte, reduceCtorEq]
  exact jL _ (by rw [hR]; exact fun e => hn e.1)
end Go.aK
end
section
set_option maxRecDepth 100000
namespace Go.aK
open Go Go.Proofs
def Tv (s : Sg) (i : Nat) : Prop := nC (s.aZ.getD i default) ∧ AE (s.aZ.getD i default) = 0 ∧ ∀ k, k < i → s.aZ.getD k default ≠ s.aZ.getD i default
def Tw (a b : gD) : Prop := a.name = b.name ∧ a.AB = b.AB ∧ a.args = b.args
def Xs (s : Sg) (i : Nat) : Prop := Lu s (s.ops.getD i default) ∧ ∀ k, k < i → ¬ Tw (s.ops.getD k default) (s.ops.getD i default)
def qO (s : Sg) : Prop := s.aZ.length ≤ 64 ∧ s.ops.length ≤ 256 ∧ (∀ i, i < s.aZ.length → Tv s i) ∧ ∀ i, i < s.ops.length → Xs s i
theorem jH {p : Nat → Prop} {i : Nat} (h : ∀ j, j < i → p j) (h' : p i) : ∀ j, j < i + 1 → p j := fun j hj => by
 by_cases e : j < i
 ·exact h j e
 ·have : j = i := by omega
  subst this; exact h'
theorem HO {α : Type} [Inhabited α] {l : List α} {i : Nat} (h : i < l.length) : l.getD i default ∈ l := by
 rw [List.getD_eq_getElem?_getD, List.getElem?_eq_getElem h]; exact List.getElem_mem h
open Classical in
theorem aaR (s : Sg) (ho : ∀ o ∈ s.ops, Lt o) (hs : ∀ x ∈ s.aZ, x.size ≤ 200) (h40 : s.ops.length ≤ 40) (h41 : s.aZ.length ≤ 40) : Pure Tryz.prog 145 [s.av] (.bool (decide (qO s))) := by
 refine fun H => Uw.2.calls rfl ?_
 simp only [Uw, aI]
 have f1 : (64 < (s.aZ.length : Int)) = False := eq_false (by omega)
 have f2 : (256 < (s.ops.length : Int)) = False := eq_false (by omega)
 simp +contextual only [aC, f1, f2, decide_false, sZ, Nat.reduceEqDiff, Nat.reduceAdd, ↓reduceIte]
 refine fun _ _ => aB s.aZ.length (fun i => ∀ j, j < i → Tv s j) (fun i => [(1, .ai s.av), (3, .int .i64 i)]) (fun i => H) ⟨fun j h => by omega, aA _ _ _⟩ fun i hi hI => ?_
 by_cases hl : i < s.aZ.length
 ·have e0 : ((i : Int) < s.aZ.length) = True := eq_true (by omega)
  have bad (h : ¬ Tv s i) : ¬ qO s := fun e => h (e.2.2.1 i hl)
  have hx := hs _ (HO hl)
  have e1 := Xq _ hx
  have e2 := Xr _ hx
  have hR : Tv s i = (nC (s.aZ.getD i default) ∧ AE (s.aZ.getD i default) = 0 ∧ ∀ k, k < i → s.aZ.getD k default ≠ s.aZ.getD i default) := rfl
  simp +contextual only [aC, e0, hl, sZ, Nat.reduceEqDiff, Nat.reduceAdd, ↓reduceIte]
  refine fun _ => ae e1 ?_
  by_cases h1 : nC (s.aZ.getD i default)
  ·rw [decide_eq_true h1]
   simp +contextual only [aC, hl, sZ, Nat.reduceEqDiff, Nat.reduceAdd, ↓reduceIte]
   refine ae e2 ?_
   by_cases h2 : AE (s.aZ.getD i default) = 0
   ·rw [h2]
    have e9 : (0 < ((0 : Nat) : Int)) = False := eq_false (by omega)
    simp +contextual only [e9, decide_false, sZ, Nat.reduceEqDiff, ↓reduceIte]
    refine aB i (fun k => ∀ j, j < k → s.aZ.getD j default ≠ s.aZ.getD i default) (fun k => [(1, .ai s.av), (3, .int .i64 i), (4, .int .i64 k)]) (fun i => H) ⟨fun j h => by omega, aA _ _ _⟩ fun k hk hK => ?_
    by_cases nJ : k < i
    ·have e3 : ((k : Int) < i) = True := eq_true (by omega)
     have xa : k < s.aZ.length := by omega
     by_cases h3 : s.aZ.getD k default = s.aZ.getD i default
     ·simp +contextual only [aC, e3, hl, xa, pg, h3, decide_true, sZ, Nat.reduceEqDiff, ↓reduceIte, reduceCtorEq]
      exact jL _ (bad (by rw [hR]; exact fun e => e.2.2 k nJ h3))
     ·simp +contextual only [aC, e3, hl, xa, pg, h3, decide_false, sZ, Nat.reduceEqDiff, ↓reduceIte]
      exact ⟨k + 1, ⟨nJ, jH hK h3⟩, by omega, aG (by rw [au k (by omega)]) rfl⟩
    ·have e3 : ((k : Int) < i) = False := eq_false (by omega)
     simp +contextual only [e3, sZ, Nat.reduceEqDiff, ↓reduceIte]
     exact ⟨i + 1, ⟨hl, jH hI (by rw [hR]; exact ⟨h1, h2, fun j hj => hK j (by omega)⟩)⟩, by omega, aG (by rw [au i (by omega)]) rfl⟩
   ·have e3 : (0 < ((AE (s.aZ.getD i default) : Nat) : Int)) = True := eq_true (by omega)
    simp +contextual only [e3, decide_true, sZ, Nat.reduceEqDiff, ↓reduceIte, reduceCtorEq]
    exact jL _ (bad (by rw [hR]; exact fun e => h2 e.2.1))
  ·rw [decide_eq_false h1]
   simp +contextual only [sZ, Nat.reduceEqDiff, ↓reduceIte, reduceCtorEq]
   exact jL _ (bad (by rw [hR]; exact fun e => h1 e.1))
 have e0 : ((i : Int) < s.aZ.length) = False := eq_false (by omega)
 have SQ : ∀ i, i < s.aZ.length → Tv s i := fun j hj => hI j (by omega)
 simp +contextual only [aC, e0, sZ, Nat.reduceEqDiff, ↓reduceIte]
 refine fun _ => aB s.ops.length (fun i => ∀ j, j < i → Xs s j) (fun i => [(1, .ai s.av), (5, .int .i64 i)]) (fun i => H) ⟨fun j h => by omega, aA _ _ _⟩ fun i hi hI => ?_
 by_cases hl : i < s.ops.length
 ·have e0 : ((i : Int) < s.ops.length) = True := eq_true (by omega)
  have bad (h : ¬ Xs s i) : ¬ qO s := fun e => h (e.2.2.2 i hl)
  have e1 := aaQ s _ (ho _ (HO hl))
  have hR : Xs s i = (Lu s (s.ops.getD i default) ∧ ∀ k, k < i → ¬ Tw (s.ops.getD k default) (s.ops.getD i default)) := rfl
  simp +contextual only [aC, e0, hl, sZ, Nat.reduceEqDiff, ↓reduceIte]
  refine fun _ => aH e1 ?_
  by_cases h1 : Lu s (s.ops.getD i default)
  ·rw [decide_eq_true h1]
   simp +contextual only [sZ, Nat.reduceEqDiff, ↓reduceIte]
   refine aB i (fun k => ∀ j, j < k → ¬ Tw (s.ops.getD j default) (s.ops.getD i default)) (fun k => [(1, .ai s.av), (5, .int .i64 i), (6, .int .i64 k)]) (fun i => H) ⟨fun j h => by omega, aA _ _ _⟩ fun k hk hK => ?_
   by_cases nJ : k < i
   ·have e3 : ((k : Int) < i) = True := eq_true (by omega)
    have xa : k < s.ops.length := by omega
    have next (h : ¬ Tw (s.ops.getD k default) (s.ops.getD i default)) : ∃ j, (j ≤ i ∧ ∀ j_1, j_1 < j → ¬ Tw (s.ops.getD j_1 default) (s.ops.getD i default)) ∧ i - j < i - k ∧ sle H.length [(1, .ai s.av), (5, .int .i64 i), (6, .int .i64 (IntKind.i64.wrap ((k : Int) + 1)))] H [(1, .ai s.av), (5, .int .i64 i), (6, .int .i64 j)] H :=
     ⟨k + 1, ⟨nJ, jH hK h⟩, by omega, aG (by rw [au k (by omega)]) rfl⟩
    by_cases h2 : (s.ops.getD k default).name = (s.ops.getD i default).name
    ·by_cases h3 : (s.ops.getD k default).AB = (s.ops.getD i default).AB
     ·simp +contextual only [aC, e3, hl, xa, pg, h2, h3, decide_true, sZ, Nat.reduceEqDiff, ↓reduceIte]
      refine aH (Y8 _ _ _ _) ?_
      by_cases h4 : (s.ops.getD k default).args = (s.ops.getD i default).args
      ·simp +contextual only [h4, decide_true, sZ, Nat.reduceEqDiff, ↓reduceIte, reduceCtorEq]
       exact jL _ (bad (by rw [hR]; exact fun e => e.2 k nJ ⟨h2, h3, h4⟩))
      ·simp +contextual only [h4, decide_false, sZ, Nat.reduceEqDiff, ↓reduceIte]
       exact next fun e => h4 e.2.2
     ·simp +contextual only [aC, e3, hl, xa, pg, h2, h3, decide_true, decide_false, sZ, Nat.reduceEqDiff, ↓reduceIte]
      exact next fun e => h3 e.2.1
    ·simp +contextual only [aC, e3, hl, xa, pg, h2, decide_false, sZ, Nat.reduceEqDiff, ↓reduceIte]
     exact next fun e => h2 e.1
   ·have e3 : ((k : Int) < i) = False := eq_false (by omega)
    simp +contextual only [e3, sZ, Nat.reduceEqDiff, ↓reduceIte]
    exact ⟨i + 1, ⟨hl, jH hI (by rw [hR]; exact ⟨h1, fun j hj => hK j (by omega)⟩)⟩, by omega, aG (by rw [au i (by omega)]) rfl⟩
  ·rw [decide_eq_false h1]
   simp +contextual only [sZ, Nat.reduceEqDiff, ↓reduceIte, reduceCtorEq]
   exact jL _ (bad (by rw [hR]; exact fun e => h1 e.1))
 ·have e0 : ((i : Int) < s.ops.length) = False := eq_false (by omega)
  simp +contextual only [aC, e0, sZ, Nat.reduceEqDiff, ↓reduceIte, reduceCtorEq]
  refine fun _ => aW rfl ?_
  have : qO s := ⟨by omega, by omega, SQ, fun j hj => hI j (by omega)⟩
  simp [this]
end Go.aK
end
section
set_option maxRecDepth 100000
namespace Go.aK
open Go Go.Proofs Go.fq
open Classical in
theorem c82 (s : Sg) (ho : ∀ o ∈ s.ops, Lt o) (hs : ∀ x ∈ s.aZ, x.size ≤ 200) (h40 : s.ops.length ≤ 40) (h41 : s.aZ.length ≤ 40) : Pure Tryz.prog 82 [s.av] (.int .i64 (if qO s then 0 else 40)) := by
 refine fun H => k82.2.calls rfl ?_
 simp only [k82, aI]
 simp +contextual only [aC, sZ, Nat.reduceEqDiff, Nat.reduceAdd, ↓reduceIte]
 refine ae (aaR s ho hs h40 h41) ?_
 by_cases h : qO s
 ·rw [decide_eq_true h]
  simp +contextual only [sZ, ↓reduceIte, reduceCtorEq]
  exact aW rfl (by rw [if_pos h])
 ·rw [decide_eq_false h]
  simp +contextual only [sZ, ↓reduceIte, reduceCtorEq]
  exact aW rfl (by rw [if_neg h])
def X5 (ps ss : List Int) (i : Nat) : Prop := 0 ≤ ps.getD i 0 ∧ ps.getD i 0 ≤ 255 ∧ 1 ≤ ss.getD i 0 ∧ ss.getD i 0 ≤ 3 ∧ ∀ k, k < i → ¬ (ps.getD i 0 = ps.getD k 0 ∧ ¬ ss.getD i 0 = ss.getD k 0)
theorem CR (ps ss : List Int) (n : Nat) : NW ps ss n ↔ ∀ i, i < n → X5 ps ss i := by
 constructor
 ·intro h i hi
  obtain ⟨a, b, c, d⟩ := h.Ov i hi
  exact ⟨a, b, c, d, fun k hk e => e.2 (h.st i k hi (by omega) e.1)⟩
 ·intro h
  refine ⟨fun j hj => ⟨(h j hj).1, (h j hj).2.1, (h j hj).2.2.1, (h j hj).2.2.2.1⟩, fun j k hj hk e => ?_⟩
  rcases Nat.lt_trichotomy j k with g | g | g
  ·have := (h k hk).2.2.2.2 j g
   by_cases x : ss.getD j 0 = ss.getD k 0
   ·exact x
   ·exact absurd ⟨e.symm, fun y => x y.symm⟩ this
  ·rw [g]
  ·have := (h j hj).2.2.2.2 k g
   by_cases x : ss.getD j 0 = ss.getD k 0
   ·exact x
   ·exact absurd ⟨e, x⟩ this
open Classical in
theorem c83 (s : Sg) (ps ss : List Int) (h40 : s.ops.length ≤ 40) (h3 : ps.length ≤ 80) (h4 : ss.length ≤ 80) : Pure Tryz.prog 83 [s.av, eR ps ss] (.bool (decide (eE s ps ss))) := by
 refine fun H => k83.2.calls rfl ?_
 simp only [k83, aI]
 obtain ⟨q1, q2, q3, q4, q5, q6⟩ := bi ps ss
 by_cases g1 : ps.length = s.ops.length
 rotate_left
 ·have f1 : ((ps.length : Int) = s.ops.length) = False := eq_false (by omega)
  simp +contextual only [aC, q1, vH, aw, f1, sZ, Nat.reduceEqDiff, Nat.reduceAdd, ↓reduceIte, reduceCtorEq]
  exact fun _ _ => jL _ fun e => g1 e.1
 by_cases g2 : ss.length = s.ops.length
 rotate_left
 ·have f1 : ((ps.length : Int) = s.ops.length) = True := eq_true (by omega)
  have f2 : ((ss.length : Int) = s.ops.length) = False := eq_false (by omega)
  simp +contextual only [aC, q1, vH, w6, aw, f1, f2, decide_false, sZ, Nat.reduceEqDiff, Nat.reduceAdd, ↓reduceIte, reduceCtorEq]
  exact fun _ _ _ => jL _ fun e => g2 e.2.1
 have f1 : ((ps.length : Int) = s.ops.length) = True := eq_true (by omega)
 have f2 : ((ss.length : Int) = s.ops.length) = True := eq_true (by omega)
 simp +contextual only [aC, q1, vH, w6, aw, f1, f2, sZ, Nat.reduceEqDiff, Nat.reduceAdd, ↓reduceIte, reduceCtorEq]
 refine fun _ _ _ => aB s.ops.length (fun i => ∀ j, j < i → X5 ps ss j) (fun i => [(2, .ai s.av), (3, .ai (eR ps ss)), (5, .int .i64 i)]) (fun i => H) ⟨fun j h => by omega, aA _ _ _⟩ fun i hi hI => ?_
 by_cases hl : i < s.ops.length
 ·have e0 : ((i : Int) < s.ops.length) = True := eq_true (by omega)
  have hp : i < ps.length := by omega
  have hq : i < ss.length := by omega
  have bad (h : ¬ X5 ps ss i) : ¬ eE s ps ss := fun e => h ((CR _ _ _).1 e.2.2 i hp)
  have hR : X5 ps ss i = (0 ≤ ps.getD i 0 ∧ ps.getD i 0 ≤ 255 ∧ 1 ≤ ss.getD i 0 ∧ ss.getD i 0 ≤ 3 ∧ ∀ k, k < i → ¬ (ps.getD i 0 = ps.getD k 0 ∧ ¬ ss.getD i 0 = ss.getD k 0)) := rfl
  by_cases h : 0 ≤ ps.getD i 0 ∧ ps.getD i 0 ≤ 255 ∧ 1 ≤ ss.getD i 0 ∧ ss.getD i 0 ≤ 3
  ·have e1 : (ps.getD i 0 < 0) = False := eq_false (by omega)
   have e2 : (255 < ps.getD i 0) = False := eq_false (by omega)
   have e3 : (ss.getD i 0 < 1) = False := eq_false (by omega)
   have e4 : (3 < ss.getD i 0) = False := eq_false (by omega)
   simp +contextual only [aC, vH, w6, e0, e1, e2, e3, e4, hp, hq, decide_false, sZ, Nat.reduceEqDiff, ↓reduceIte]
   refine fun _ => aB i (fun k => ∀ j, j < k → ¬ (ps.getD i 0 = ps.getD j 0 ∧ ¬ ss.getD i 0 = ss.getD j 0)) (fun k => [(2, .ai s.av), (3, .ai (eR ps ss)), (5, .int .i64 i), (6, .int .i64 k)]) (fun i => H) ⟨fun j h => by omega, aA _ _ _⟩ fun k hk hK => ?_
   by_cases nJ : k < i
   ·have e3 : ((k : Int) < i) = True := eq_true (by omega)
    have SN : k < ps.length := by omega
    have hq2 : k < ss.length := by omega
    have next (h : ¬ (ps.getD i 0 = ps.getD k 0 ∧ ¬ ss.getD i 0 = ss.getD k 0)) : ∃ j, (j ≤ i ∧ ∀ j_1, j_1 < j → ¬ (ps.getD i 0 = ps.getD j_1 0 ∧ ¬ ss.getD i 0 = ss.getD j_1 0)) ∧ i - j < i - k ∧ sle H.length [(2, .ai s.av), (3, .ai (eR ps ss)), (5, .int .i64 i), (6, .int .i64 (IntKind.i64.wrap ((k : Int) + 1)))] H [(2, .ai s.av), (3, .ai (eR ps ss)), (5, .int .i64 i), (6, .int .i64 j)] H :=
     ⟨k + 1, ⟨nJ, jH hK h⟩, by omega, aG (by rw [au k (by omega)]) rfl⟩
    by_cases h2 : ps.getD i 0 = ps.getD k 0
    ·have e5 : (ps.getD i 0 = ps.getD k 0) = True := eq_true h2
     by_cases h3 : ss.getD i 0 = ss.getD k 0
     ·have e6 : (ss.getD i 0 = ss.getD k 0) = True := eq_true h3
      simp +contextual only [vH, w6, e3, hp, hq, SN, hq2, e5, e6, decide_true, decide_false, not_true_eq_false, sZ, Nat.reduceEqDiff, ↓reduceIte]
      exact next fun e => e.2 h3
     ·simp +contextual only [vH, w6, e3, hp, hq, SN, hq2, e5, h3, decide_true, not_false_eq_true, sZ, Nat.reduceEqDiff, ↓reduceIte, reduceCtorEq]
      exact jL _ (bad (by rw [hR]; exact fun e => e.2.2.2.2 k nJ ⟨h2, h3⟩))
    ·simp +contextual only [vH, e3, hp, SN, h2, decide_true, decide_false, sZ, Nat.reduceEqDiff, ↓reduceIte]
     exact next fun e => h2 e.1
   ·have e3 : ((k : Int) < i) = False := eq_false (by omega)
    simp +contextual only [e3, sZ, Nat.reduceEqDiff, ↓reduceIte]
    exact ⟨i + 1, ⟨hl, jH hI (by rw [hR]; exact ⟨h.1, h.2.1, h.2.2.1, h.2.2.2, fun j hj => hK j (by omega)⟩)⟩, by omega, aG (by rw [au i (by omega)]) rfl⟩
  ·have bad := bad (by rw [hR]; exact fun e => h ⟨e.1, e.2.1, e.2.2.1, e.2.2.2.1⟩)
   have fin := jL (inferInstance : Decidable (eE s ps ss)) (H := H) (s := 4) bad
   have hz : ((ps.getD i 0 < 0) = True ∧ (True ∧ True) = True ∧ (True ∧ True) = True ∧ (True ∧ True) = True) ∨ ((ps.getD i 0 < 0) = False ∧ (255 < ps.getD i 0) = True ∧ (True ∧ True) = True ∧ (True ∧ True) = True) ∨ ((ps.getD i 0 < 0) = False ∧ (255 < ps.getD i 0) = False ∧ (ss.getD i 0 < 1) = True ∧ (True ∧ True) = True) ∨ ((ps.getD i 0 < 0) = False ∧ (255 < ps.getD i 0) = False ∧ (ss.getD i 0 < 1) = False ∧ (3 < ss.getD i 0) = True) := by
    have y := and_self True
    by_cases a : ps.getD i 0 < 0
    ·exact .inl ⟨eq_true a, y, y, y⟩
    by_cases b : 255 < ps.getD i 0
    ·exact .inr (.inl ⟨eq_false a, eq_true b, y, y⟩)
    by_cases c : ss.getD i 0 < 1
    ·exact .inr (.inr (.inl ⟨eq_false a, eq_false b, eq_true c, y⟩))
    ·exact .inr (.inr (.inr ⟨eq_false a, eq_false b, eq_false c, eq_true (by omega)⟩))
   rcases hz with ⟨e1, e2, e3, e4⟩ | ⟨e1, e2, e3, e4⟩ | ⟨e1, e2, e3, e4⟩ | ⟨e1, e2, e3, e4⟩
   all_goals
    simp +contextual only [aC, vH, w6, e0, e1, e2, e3, e4, hp, hq, decide_false, decide_true, sZ, Nat.reduceEqDiff, ↓reduceIte, reduceCtorEq]
    exact fun _ => fin
 ·have e0 : ((i : Int) < s.ops.length) = False := eq_false (by omega)
  simp +contextual only [aC, e0, sZ, Nat.reduceEqDiff, ↓reduceIte, reduceCtorEq]
  refine fun _ => aW rfl ?_
  have : eE s ps ss := ⟨g1, g2, (CR _ _ _).2 fun j hj => hI j (by omega)⟩
  simp [this]
open Classical in
theorem c25 (s : Sg) (ps ss : List Int) (hs : X4 s ps ss) : Pure Tryz.prog 25 [s.av, eR ps ss] (.int .i64 (if qO s then (if eE s ps ss then 0 else 60) else 40)) := by
 refine fun H => k25.2.calls rfl ?_
 simp only [k25, aI]
 obtain ⟨q1, q2, q3, q4, q5, q6⟩ := bi ps ss
 simp +contextual only [aC, q1, sZ, Nat.reduceEqDiff, Nat.reduceAdd, ↓reduceIte, reduceCtorEq]
 refine ae (c82 s hs.h5 hs.h6 hs.h1 hs.h2) ?_
 by_cases h : qO s
 ·rw [if_pos h]
  simp +contextual only [aC, q4, cv, sZ, Nat.reduceEqDiff, Nat.reduceAdd, ↓reduceIte]
  refine ae (c83 s ps ss hs.h1 hs.h3 hs.h4) ?_
  by_cases h2 : eE s ps ss
  ·rw [decide_eq_true h2]
   simp +contextual only [sZ, ↓reduceIte, reduceCtorEq]
   exact aW rfl (by rw [if_pos h, if_pos h2])
  ·rw [decide_eq_false h2]
   simp +contextual only [sZ, ↓reduceIte, reduceCtorEq]
   exact aW rfl (by rw [if_pos h, if_neg h2])
 ·rw [if_neg h]
  simp +contextual only [sZ, Nat.reduceEqDiff, ↓reduceIte, reduceCtorEq, Int.reduceEq]
  exact aW rfl (by rw [if_neg h])
end Go.aK
end
section
set_option maxRecDepth 100000
namespace Go.aK
open Go Go.Proofs Go.fq
theorem aaT (x : T) : Pure Tryz.prog 115 [x.av] (.int .i64 (if x.tree = true then 0 else 4)) := by
 refine fun H => Uh.2.calls rfl ?_
 simp only [Uh, aI]
 simp +contextual only [sZ, Nat.reduceEqDiff, Nat.reduceAdd, ↓reduceIte]
 refine ae (VS x) ?_
 cases h : x.tree with
 | true => simp +contextual only [sZ, ↓reduceIte, reduceCtorEq]; exact aW rfl rfl
 | false => simp +contextual only [sZ, ↓reduceIte, reduceCtorEq]; exact aW rfl rfl
theorem aaU (s : Sg) : ∀ t : T, t.shaped = true → Pure Tryz.prog 116 [s.av, t.av] (.bool (nv s t)) := by
 suffices h : ∀ N t, wt t ≤ N → t.shaped = true → Pure Tryz.prog 116 [s.av, t.av] (.bool (nv s t)) from fun t ht => h _ t (Nat.le_refl _) ht
 intro N
 induction N with
 | zero => intro t h; have := gA t; omega
 | succ N ih =>
 intro t hN hs H
 have hk := nk hs
 have ih : ∀ x ∈ t.l, Pure Tryz.prog 116 [s.av, x.av] (.bool (nv s x)) := fun x hx => ih x (by have := cK hx; omega) (hk.2 x hx)
 have hn : 0 ≤ t.n := by
  rw [T.fT] at hs
  simp only [Bool.and_eq_true, Bool.not_eq_true', Bool.or_eq_false_iff, decide_eq_false_iff_not] at hs
  have := hs.1.1.1.1
  omega
 obtain ⟨m, hm⟩ := Int.eq_ofNat_of_zero_le hn
 refine Ui.2.calls rfl ?_
 simp only [Ui, aI]
 have e : nv s t = (!(decide (t.k = 2) && (decide ((s.ops.length : Int) ≤ t.n) || !decide ((t.l.length : Int) = ((s.ops.getD t.n.toNat default).args.length : Nat)))) && !(t.l.any fun x => !nv s x)) := by
  rw [← tV]; cases t; rfl
 have fin : (!(decide (t.k = 2) && (decide ((s.ops.length : Int) ≤ t.n) || !decide ((t.l.length : Int) = ((s.ops.getD t.n.toNat default).args.length : Nat))))) = false → bT H.length [.t 4] [(4, .bool false)] H fun r H' => r = .bool (nv s t) ∧ H' = H := by
  intro h
  rw [e, h]; exact aW rfl rfl
 by_cases hh : t.k = 2 ∧ (s.ops.length : Int) ≤ t.n
 ·simp +contextual only [aC, hh.1, hh.2, decide_true, sZ, Nat.reduceEqDiff, Nat.reduceAdd, ↓reduceIte, reduceCtorEq]
  exact fin (by simp [hh.1, hh.2])
 have em : t.n.toNat = m := by omega
 by_cases Tx : t.k = 2 ∧ ¬ (t.l.length : Int) = ((s.ops.getD m default).args.length : Nat)
 ·have Wo : m < s.ops.length := by omega
  have Te : ¬ (s.ops.length : Int) ≤ (m : Int) := by omega
  simp +contextual only [aC, Tx.1, Te, Tx.2, hm, Wo, aw, decide_true, decide_false, sZ, Nat.reduceEqDiff, Nat.reduceAdd, ↓reduceIte, reduceCtorEq]
  exact fin (by rw [em, decide_eq_true Tx.1, decide_eq_false Tx.2, decide_eq_false (by omega : ¬ (s.ops.length : Int) ≤ t.n)]; rfl)
 have hd : (!(decide (t.k = 2) && (decide ((s.ops.length : Int) ≤ t.n) || !decide ((t.l.length : Int) = ((s.ops.getD t.n.toNat default).args.length : Nat))))) = true := by
  rw [em]
  by_cases a : t.k = 2
  ·rw [decide_eq_false (fun b => hh ⟨a, b⟩), decide_eq_true (Classical.byContradiction fun b => Tx ⟨a, b⟩)]; simp
  ·rw [decide_eq_false a]; rfl
 rw [hd] at e
 have hz : ((t.k = 2) = False ∧ (True ∧ True) = True ∧ (True ∧ True) = True ∧ (True ∧ True) = True) ∨ ((t.k = 2) = True ∧ (m < s.ops.length) = True ∧ ((s.ops.length : Int) ≤ (m : Int)) = False ∧ ((t.l.length : Int) = ((s.ops.getD m default).args.length : Nat)) = True) := by
  have y := and_self True
  by_cases a : t.k = 2
  ·exact .inr ⟨eq_true a, eq_true (by omega), eq_false (by omega), eq_true (Classical.byContradiction fun b => Tx ⟨a, b⟩)⟩
  ·exact .inl ⟨eq_false a, y, y, y⟩
 rcases hz with ⟨e1, e2, e3, e4⟩ | ⟨e1, e2, e3, e4⟩
 all_goals
  simp +contextual only [aC, e1, e2, e3, e4, hm, aw, decide_true, decide_false, sZ, Nat.reduceEqDiff, Nat.reduceAdd, ↓reduceIte, reduceCtorEq]
  refine aB t.l.length (fun i => ∀ j, j < i → nv s (t.l.getD j default) = true) (fun i => [(2, .ai s.av), (3, .ai t.av), (5, .int .i64 i)]) (fun i => H) ⟨fun j h => by omega, aA _ _ _⟩ fun i hi hI => ?_
  by_cases hl : i < t.l.length
  ·have e5 : ((i : Int) < t.l.length) = True := eq_true (by omega)
   simp +contextual only [aC, e5, hl, sZ, Nat.reduceEqDiff, ↓reduceIte]
   refine fun _ => aH (ih _ (HO hl)) ?_
   cases hb : nv s (t.l.getD i default) with
   | false =>
     simp +contextual only [sZ, Nat.reduceEqDiff, ↓reduceIte, reduceCtorEq]
     refine aW rfl ?_
     have : (t.l.any fun x => !nv s x) = true := List.any_eq_true.2 ⟨_, HO hl, by rw [hb]; rfl⟩
     rw [e, this]; rfl
   | true =>
     simp +contextual only [sZ, Nat.reduceEqDiff, ↓reduceIte]
     exact ⟨i + 1, ⟨hl, jH hI hb⟩, by omega, aG (by rw [au i (by omega)]) rfl⟩
  ·have e5 : ((i : Int) < t.l.length) = False := eq_false (by omega)
   simp +contextual only [e5, sZ, Nat.reduceEqDiff, ↓reduceIte, reduceCtorEq]
   refine fun _ => aW rfl ?_
   have : (t.l.any fun x => !nv s x) = false := by
    rw [List.any_eq_false]
    exact v9 fun j hj => by rw [hI j (by omega)]; simp
   rw [e, this]; rfl
theorem c55 (s : Sg) (t : T) : Pure Tryz.prog 55 [s.av, t.av] (.bool (t.tree && nv s t)) := by
 refine fun H => k55.2.calls rfl ?_
 simp only [k55, aI]
 simp +contextual only [aC, sZ, Nat.reduceEqDiff, Nat.reduceAdd, ↓reduceIte, reduceCtorEq]
 refine ae (aaT t) ?_
 cases h : t.tree with
 | false =>
   simp +contextual only [Bool.false_eq_true, sZ, Nat.reduceEqDiff, ↓reduceIte, reduceCtorEq, Int.reduceEq]
   exact aW rfl rfl
 | true =>
   simp +contextual only [aC, sZ, Nat.reduceEqDiff, Nat.reduceAdd, ↓reduceIte]
   refine ae (aaU s t ((T.kJ t).1 h).2.2) ?_
   simp +contextual only [sZ, Nat.reduceEqDiff, ↓reduceIte, reduceCtorEq]
   exact aW rfl rfl
theorem aaV (s : Sg) (t : T) : Pure Tryz.prog 107 ([t.av] ++ [.ai s.av]) (.bool (!(t.tree && nv s t))) := by
 refine fun H => Ue.2.calls rfl ?_
 simp only [Ue, aI]
 simp +contextual only [aC, sZ, Nat.reduceEqDiff, Nat.reduceAdd, ↓reduceIte, reduceCtorEq]
 refine ae (c55 s t) ?_
 simp +contextual only [sZ, ↓reduceIte, reduceCtorEq]
 exact aW rfl rfl
open Classical in
theorem c42 (s : Sg) (ps ss : List Int) (n : Int) (l : List T) (H : List aa) : aq Tryz.prog 42 [s.av, eR ps ss, .int .i64 n, .ap 0 (bU l)] H fun r H' => (∃ b, r = .bool b ∧ (b = true → qO s ∧ eE s ps ss ∧ ∀ t ∈ l, (t.tree && nv s t) = true)) ∧ H' = H := by
 refine k42.2.calls rfl ?_
 simp only [k42, aI]
 obtain ⟨q1, q2, q3, q4, q5, q6⟩ := bi ps ss
 have fin : ∀ (b : Bool), (b = true → qO s ∧ eE s ps ss ∧ ∀ t ∈ l, (t.tree && nv s t) = true) → bT H.length [.t 8] [(8, .bool b)] H fun r H' => (∃ b, r = .bool b ∧ (b = true → qO s ∧ eE s ps ss ∧ ∀ t ∈ l, (t.tree && nv s t) = true)) ∧ H' = H := fun b hb =>
  aQ H.length (Nat.le_refl _) (by rw [ax, if_pos rfl]; rfl) ⟨⟨b, by rw [ax, if_pos rfl], hb⟩, List.take_length⟩
 have finf := fin false (fun h => by cases h)
 simp +contextual only [aC, q1, q4, cv, sZ, Nat.reduceEqDiff, Nat.reduceAdd, ↓reduceIte, reduceCtorEq]
 refine af (c18 s ps ss _) ?_
 rintro r G ⟨⟨b, rfl, hb⟩, rfl⟩
 cases b with
 | false => simp +contextual only [sZ, Nat.reduceEqDiff, ↓reduceIte, reduceCtorEq]; exact finf
 | true =>
 have hb := hb rfl
 simp +contextual only [sZ, Nat.reduceEqDiff, Nat.reduceAdd, ↓reduceIte]
 refine af (c19 n l _) ?_
 rintro r G ⟨⟨b, rfl⟩, rfl⟩
 cases b with
 | false => simp +contextual only [sZ, Nat.reduceEqDiff, ↓reduceIte, reduceCtorEq]; exact finf
 | true =>
 simp +contextual only [aC, q4, cv, sZ, Nat.reduceEqDiff, Nat.reduceAdd, ↓reduceIte]
 refine ae (c25 s ps ss hb) ?_
 by_cases h1 : qO s
 rotate_left
 ·rw [if_neg h1]; simp +contextual only [sZ, Nat.reduceEqDiff, ↓reduceIte, reduceCtorEq, Int.reduceEq]; exact finf
 by_cases h2 : eE s ps ss
 rotate_left
 ·rw [if_pos h1, if_neg h2]; simp +contextual only [sZ, Nat.reduceEqDiff, ↓reduceIte, reduceCtorEq, Int.reduceEq]; exact finf
 rw [if_pos h1, if_pos h2]
 simp +contextual only [sZ, Nat.reduceEqDiff, Nat.reduceAdd, ↓reduceIte]
 refine ae (Sy 107 [.ai s.av] rfl _ l fun x _ => aaV s x) ?_
 simp +contextual only [sZ, Nat.reduceEqDiff, ↓reduceIte, reduceCtorEq]
 refine fin _ fun h => ⟨h1, h2, fun t ht => ?_⟩
 cases hc : t.tree && nv s t with
 | true => rfl
 | false =>
   have : (l.any fun x => !(x.tree && nv s x)) = true := List.any_eq_true.2 ⟨t, ht, by rw [hc]; rfl⟩
   rw [this] at h; cases h
end Go.aK
end
section
set_option maxRecDepth 100000
namespace Go.aK
open Go Go.Proofs Go.fq
theorem wa (f : Int → UInt8 → Int) (s : ByteArray) (stop : Nat) (h : stop ≤ s.size) : ∀ (i j : Nat) (b : Int), j + i = s.size → stop = s.size → (ByteArray.foldlM.loop (m := _root_.Id) (fun x y => pure (f x y)) s stop h i j b) = (s.data.toList.drop j).foldl f b
 | 0, j, b, e, e2 => by
   have : s.data.toList.drop j = [] := List.drop_of_length_le (by show s.size ≤ j; omega)
   rw [this]; unfold ByteArray.foldlM.loop
   rw [dif_neg (by omega)]; rfl
 | i + 1, j, b, e, e2 => by
   have hj : j < s.data.toList.length := by show j < s.size; omega
   unfold ByteArray.foldlM.loop
   rw [dif_pos (by omega), List.drop_eq_getElem_cons hj, List.foldl_cons]
   exact wa f s stop h i (j + 1) _ (by omega) e2
theorem Oi (s : ByteArray) : mr s 95 = (AE s : Int) := by
 have h1 : mr s 95 = s.data.toList.foldl (fun (n : Int) x => if x == (95 : Int).toNat.toUInt8 then n + 1 else n) ((0 : Nat) : Int) := by
  unfold mr ByteArray.foldl ByteArray.foldlM
  rw [dif_pos (Nat.le_refl _)]
  exact wa _ s _ _ s.size 0 _ (by omega) rfl
 have h2 : ∀ (l : List UInt8) (n : Nat), l.foldl (fun (n : Int) x => if x == (95 : Int).toNat.toUInt8 then n + 1 else n) (n : Int) = ((n + l.countP (· == (95 : UInt8)) : Nat) : Int) := by
  intro l
  induction l with
  | nil => intro n; simp
  | cons x r ih =>
    intro n
    rw [List.foldl_cons, List.countP_cons]
    by_cases hx : x = 95
    ·subst hx
     have := ih (n + 1)
     exact (this.trans (by simp; omega))
    ·have h95 : (x == (95 : Int).toNat.toUInt8) = false := by
      rw [beq_eq_false_iff_ne]; exact hx
     have h96 : (x == (95 : UInt8)) = false := by
      rw [beq_eq_false_iff_ne]; exact hx
     rw [h95, h96]
     exact (ih n).trans (by simp)
 rw [h1, h2]; simp [AE]
theorem Oj {c : UInt8} (h : S0 c) : Ad c = false := by
 unfold S0 at h
 have e : (((c.toNat : Nat) : Int).toNat.toUInt8) = c := by simp
 unfold Ad
 rw [e, firstIdx_nonneg]
 simp only [Bool.or_eq_false_iff, decide_eq_false_iff_not, List.any_eq_false]
 refine ⟨⟨by omega, by omega⟩, fun x hx Ye => ?_⟩
 rw [beq_iff_eq] at Ye
 subst Ye
 have hx : x = 40 ∨ x = 41 ∨ x = 44 := by simpa using hx
 rcases hx with rfl | rfl | rfl <;> exact h (by decide)
theorem FV {s : ByteArray} (h : nC s) : oK s = true := by
 obtain ⟨h1, h2, h3⟩ := h
 unfold oK
 simp only [Bool.and_eq_true, Bool.not_eq_true', decide_eq_false_iff_not, List.all_eq_true]
 refine ⟨⟨by omega, by omega⟩, fun c hc => ?_⟩
 obtain ⟨i, hi, rfl⟩ := List.getElem_of_mem hc
 have := Oj (h1 i hi)
 rw [List.getD_eq_getElem?_getD, List.getElem?_eq_getElem hi] at this
 exact this
theorem S1 {s : ByteArray} (h : AE s = 0) : ¬ 0 ≤ NV s := by
 have hm : ∀ b ∈ s.data.toList, b ≠ 95 := fun b hb e => by
  have := List.countP_eq_zero.1 h b hb
  rw [e] at this; exact this rfl
 unfold NV
 split
 ·rename_i e
  exact absurd rfl (hm 95 (by rw [e]; simp [us]))
 ·rw [firstIdx_none s 95 hm]; omega
theorem CU {s : Sg} (h : ∀ i, i < s.aZ.length → Tv s i) : ∀ n i, i + n = s.aZ.length → lV (s.aZ.drop i) (s.aZ.take i) = true
 | 0, i, e => by rw [List.drop_of_length_le (by omega)]; rfl
 | n + 1, i, e => by
   have hl : i < s.aZ.length := by omega
   obtain ⟨h1, h2, h3⟩ := h i hl
   have hni : s.aZ.getD i default ∉ s.aZ.take i := fun hm => by
    obtain ⟨k, hk, e⟩ := List.getElem_of_mem hm
    rw [List.length_take] at hk
    refine h3 k (by omega) ?_
    rw [List.getElem_take] at e
    rw [← e, List.getD_eq_getElem?_getD, List.getElem?_eq_getElem (by omega)]; try rfl
   rw [sX hl, if_pos ⟨FV h1, S1 h2, hni⟩]
   have : s.aZ.take i ++ [s.aZ.getD i default] = s.aZ.take (i + 1) := by
    rw [List.take_add_one, List.getD_eq_getElem?_getD, List.getElem?_eq_getElem hl]; rfl
   rw [this]
   exact CU h n (i + 1) (by omega)
theorem KY {s : Sg} {l : List Int} (h : kv s l) : ∀ a ∈ l, Hz s.aZ.length a = true := fun a ha => by
 obtain ⟨h1, h2⟩ := h a ha
 simp [Hz, h1, h2]
theorem Xt {s : Sg} {o : gD} (h : Lu s o) : qE o s.aZ.length = true := by
 obtain ⟨h1, h2, h3, h4, h5, h6⟩ := h
 have hb : AE o.name ≤ o.name.size := List.countP_le_length (p := (· == (95 : UInt8))) (l := o.name.data.toList)
 unfold qE
 rw [Oi]
 simp only [Bool.and_eq_true, Bool.or_eq_true, decide_eq_true_eq, Bool.not_eq_true', List.any_eq_false]
 refine ⟨FV h1, by omega, by omega, by omega, KY h6 _ (by simp), fun x hx => ?_⟩
 rw [KY h5 x hx]; simp
theorem Ol {a b : Int} (ha : 0 ≤ a ∧ a < 64) (hb : 0 ≤ b ∧ b < 64) (h : HA a = HA b) : a = b := by
 have k : ∀ a : Int, 0 ≤ a ∧ a < 64 → (HA a).toNat = a.toNat := by
  intro a ha
  unfold HA
  have : IntKind.u8.wrap a = a := by
   simp only [IntKind.wrap]
   have h1 : IntKind.u8.bits = 8 := rfl
   have h2 : IntKind.u8.signed = false := rfl
   rw [h1, h2]
   simp
   omega
  rw [this, UInt8.toNat_ofNat']
  omega
 have := congrArg UInt8.toNat h
 rw [k a ha, k b hb] at this
 omega
theorem s6 : ∀ {l m : List Int}, (∀ a ∈ l, 0 ≤ a ∧ a < 64) → (∀ a ∈ m, 0 ≤ a ∧ a < 64) → l.map HA = m.map HA → l = m
 | [], [], _, _, _ => rfl
 | [], b :: m, _, _, h => by cases h
 | a :: l, [], _, _, h => by cases h
 | a :: l, b :: m, ha, hb, h => by
   simp only [List.map_cons, List.cons.injEq] at h
   rw [Ol (ha a (by simp)) (hb b (by simp)) h.1, s6 (fun x hx => ha x (by simp [hx])) (fun x hx => hb x (by simp [hx])) h.2]
theorem FW : ∀ {l m r t : List UInt8}, (∀ x ∈ l, x ≠ 40) → (∀ x ∈ m, x ≠ 40) → l ++ 40 :: r = m ++ 40 :: t → l = m ∧ r = t
 | [], [], _, _, _, _, h => by simpa using h
 | [], b :: m, _, _, _, hb, h => by
   simp only [List.nil_append, List.cons_append, List.cons.injEq] at h
   exact absurd h.1.symm (hb b (by simp))
 | a :: l, [], _, _, ha, _, h => by
   simp only [List.nil_append, List.cons_append, List.cons.injEq] at h
   exact absurd h.1 (ha a (by simp))
 | a :: l, b :: m, _, _, ha, hb, h => by
   simp only [List.cons_append, List.cons.injEq] at h
   obtain ⟨h1, h2⟩ := FW (fun x hx => ha x (by simp [hx])) (fun x hx => hb x (by simp [hx])) h.2
   exact ⟨by rw [h.1, h1], h2⟩
theorem Xu {s : ByteArray} (h : nC s) : ∀ x ∈ s.data.toList, x ≠ 40 := fun x hx e => by
 obtain ⟨i, hi, rfl⟩ := List.getElem_of_mem hx
 have := h.1 i hi
 rw [List.getD_eq_getElem?_getD, List.getElem?_eq_getElem hi, Option.getD_some, e] at this
 exact this (by decide)
theorem key_inj {s : Sg} {o q : gD} (h64 : s.aZ.length ≤ 64) (ho : Lu s o) (hq : Lu s q) (h : ms o = ms q) : Tw o q := by
 have h : HB o = HB q := by
  have := congrArg (fun b : ByteArray => b.data.toList) h
  simpa [ms] using this
 have f : ∀ o : gD, HB o = o.name.data.toList ++ 40 :: (o.args ++ [o.AB]).map HA := fun o => by
  unfold HB; simp [ByteArray.data_append]
 rw [f, f] at h
 obtain ⟨h1, h2⟩ := FW (Xu ho.1) (Xu hq.1) h
 have g : ∀ o : gD, Lu s o → ∀ a ∈ o.args ++ [o.AB], 0 ≤ a ∧ a < 64 := fun o ho a ha => by
  rcases List.mem_append.1 ha with ha | ha
  ·have := ho.2.2.2.2.1 a ha; omega
  ·have := ho.2.2.2.2.2 a ha; omega
 have h3 := s6 (g o ho) (g q hq) h2
 have h4 := List.append_inj' h3 rfl
 refine ⟨?_, by simpa using h4.2, h4.1⟩
 have := Array.toList_inj.1 h1
 cases Qb : o.name; cases hq' : q.name
 rw [Qb, hq'] at this
 simpa using this
theorem KZ {s : Sg} (h64 : s.aZ.length ≤ 64) (h : ∀ i, i < s.ops.length → Xs s i) : ∀ n i, i + n = s.ops.length → Ae s.aZ.length (s.ops.drop i) ((s.ops.take i).map ms) = true
 | 0, i, e => by rw [List.drop_of_length_le (by omega)]; rfl
 | n + 1, i, e => by
   have hl : i < s.ops.length := by omega
   obtain ⟨h1, h3⟩ := h i hl
   have hni : ms (s.ops.getD i default) ∉ (s.ops.take i).map ms := fun hm => by
    obtain ⟨q, hq, e⟩ := List.mem_map.1 hm
    obtain ⟨k, hk, e2⟩ := List.getElem_of_mem hq
    rw [List.length_take] at hk
    rw [List.getElem_take] at e2
    have eq : s.ops.getD k default = q := by
     rw [← e2, List.getD_eq_getElem?_getD, List.getElem?_eq_getElem (by omega)]; try rfl
    have PN := h k (by omega)
    refine h3 k (by omega) ?_
    rw [eq]
    exact key_inj h64 (eq ▸ PN.1) h1 e
   rw [ym hl, if_pos ⟨Xt h1, hni⟩]
   have : (s.ops.take i).map ms ++ [ms (s.ops.getD i default)] = (s.ops.take (i + 1)).map ms := by
    rw [List.take_add_one, List.map_append, List.getD_eq_getElem?_getD, List.getElem?_eq_getElem hl]; rfl
   rw [this]
   exact KZ h64 h n (i + 1) (by omega)
theorem S2 {s : Sg} (h : qO s) : nu s = true := by
 obtain ⟨h1, h2, h3, h4⟩ := h
 unfold nu
 simp only [Bool.and_eq_true, decide_eq_true_eq]
 exact ⟨⟨⟨by omega, by omega⟩, CU h3 s.aZ.length 0 (by omega)⟩, KZ h1 h4 s.ops.length 0 (by omega)⟩
theorem EG {s : Sg} {ps ss : List Int} (h1 : qO s) (h2 : eE s ps ss) {l : List T} (h : ∀ t ∈ l, (t.tree && nv s t) = true) : fO s ps ss l = 0 := by
 have : iR s ps ss = 0 := by unfold iR; rw [if_pos (S2 h1), if_pos h2]
 unfold fO
 rw [if_pos this, if_pos (List.all_eq_true.2 h)]
end Go.aK
end
section
set_option maxRecDepth 100000
namespace Go.aK
open Go Go.Proofs Go.fq
theorem c45 {s : Sg} {ps ss : List Int} {a b : T} (h : fO s ps ss [a, b] = 0) : Pure Tryz.prog 45 [s.av, eR ps ss, a.av, b.av] (.tuple [.bool (w7 ps ss a b), .bool true]) := by
 refine fun H => k45.2.calls rfl ?_
 simp only [k45, aI]
 obtain ⟨q1, q2, q3, q4, q5, q6⟩ := bi ps ss
 have e := ZO s ps ss a b
 rw [if_pos h, h] at e
 simp +contextual only [aC, q1, q4, cv, sZ, Nat.reduceEqDiff, Nat.reduceAdd, ↓reduceIte, reduceCtorEq]
 refine ae e ?_
 simp +contextual only [decide_true, sZ, Nat.reduceEqDiff, Nat.reduceAdd, Nat.reduceLT, ↓reduceIte, reduceCtorEq]
 exact BV (by decide) rfl rfl rfl rfl
end Go.aK
end
section
set_option maxRecDepth 100000
namespace Go.aK
open Go Go.Proofs Go.fq
theorem EH {l : List T} {i : Nat} (h : i < l.length) : (l[i] :: l.eraseIdx i).Perm l := by
 rw [List.eraseIdx_eq_take_drop_succ]
 refine (List.perm_middle.symm).trans (List.Perm.of_eq ?_)
 rw [← List.drop_eq_getElem_cons h, List.take_append_drop]
section
variable {r : T → T → Bool} (hi : ∀ a, r a a = false) (ht : ∀ a b c, r a b = true → r b c = true → r a c = true)
include hi ht
theorem FX {l : List T} (h : l ≠ []) : ox r l < l.length ∧ ∀ x ∈ l, r (l.getD (ox r l) default) x = false := by
 obtain ⟨a, ha, hm⟩ := KL (r := fun a b => r a b = true) (fun a h => by rw [hi] at h; cases h) ht l h
 have h1 : ox r l < l.length := List.findIdx_lt_length_of_exists ⟨a, ha, List.all_eq_true.2 fun x hx => by rw [Bool.eq_false_iff.2 (hm x hx)]; rfl⟩
 refine ⟨h1, fun x hx => ?_⟩
 have h2 := List.findIdx_getElem (xs := l) (p := fun a => l.all fun x => !r a x) (w := h1)
 have h3 := List.all_eq_true.1 h2 x hx
 have e : l.getD (ox r l) default = l[ox r l] := by rw [List.getD_eq_getElem?_getD, List.getElem?_eq_getElem h1]; rfl
 have h4 : (!r l[ox r l] x) = true := h3
 rw [e]
 simpa using h4
theorem sg : ∀ (n : Nat) (l : List T), l.length = n → (py r n l).Perm l
 | 0, l, h => by rw [List.length_eq_zero_iff.1 h]; exact List.Perm.refl _
 | n + 1, l, h => by
   have dS : l ≠ [] := fun e => by rw [e] at h; cases h
   have h1 := (FX hi ht dS).1
   have e : l.getD (ox r l) default = l[ox r l] := by rw [List.getD_eq_getElem?_getD, List.getElem?_eq_getElem h1]; rfl
   simp only [py]
   rw [e]
   exact ((sg n _ (by rw [List.length_eraseIdx, if_pos h1]; omega)).cons _).trans (EH h1)
theorem wb : ∀ (n : Nat) (l : List T), l.length = n → (py r n l).Pairwise fun y x => r y x = false
 | 0, l, h => .nil
 | n + 1, l, h => by
   have dS : l ≠ [] := fun e => by rw [e] at h; cases h
   have h1 := FX hi ht dS
   have hl : (l.eraseIdx (ox r l)).length = n := by rw [List.length_eraseIdx, if_pos h1.1]; omega
   simp only [py]
   refine .cons (fun x hx => h1.2 x (List.mem_of_mem_eraseIdx ((sg hi ht n _ hl).mem_iff.1 hx))) (wb n _ hl)
omit ht in
theorem K0 : ∀ (n : Nat) (l : List T), l.length = n → (l.Pairwise fun y x => r y x = false) → py r n l = l
 | 0, l, h, _ => by rw [List.length_eq_zero_iff.1 h]; rfl
 | n + 1, a :: l, h, hp => by
   have e : ox r (a :: l) = 0 := by
    unfold ox
    rw [List.findIdx_cons]
    have : ((a :: l).all fun x => !r a x) = true := List.all_eq_true.2 fun x hx => by
     rcases List.mem_cons.1 hx with rfl | hx
     ·rw [hi]; rfl
     ·rw [List.rel_of_pairwise_cons hp hx]; rfl
    rw [this]; rfl
   simp only [py]
   rw [e]
   show a :: py r n l = a :: l
   rw [K0 n l (by simpa using h) hp.of_cons]
end
theorem c48 (t x : T) (G : List aa) : aq Tryz.prog 48 [t.av, .ptr G.length 0] (G ++ [.cells x.av.cells]) fun r H' => r = .bool (t.same x) ∧ H' = G ++ [.cells x.av.cells] := by
 refine k48.2.calls rfl ?_
 simp only [k48, aI]
 simp +contextual only [sZ, Nat.reduceEqDiff, Nat.reduceAdd, ↓reduceIte, reduceCtorEq]
 refine ae (Y1 _ _) ?_
 simp +contextual only [sZ, ↓reduceIte, reduceCtorEq]
 exact aW rfl rfl
theorem c50 (l : List T) (x : T) (G : List aa) (hl : l.length ≤ 100) : aq Tryz.prog 50 [.ap 0 (bU l), .fn (.func 48) [] [.ptr G.length 0]] (G ++ [.cells x.av.cells]) fun r H' => r = .int .i64 (l.countP fun t => t.same x : Nat) ∧ H' = G ++ [.cells x.av.cells] := by
 refine k50.2.calls rfl ?_
 simp only [k50, aI]
 simp +contextual only [sZ, Nat.reduceEqDiff, Nat.reduceAdd, ↓reduceIte, reduceCtorEq]
 intro _
 refine aB l.length (fun _ => True) (fun i => [(1, .fn (.func 48) [] [.ptr G.length 0]), (5, .int .i64 ((l.take i).countP fun t => t.same x : Nat)), (8, .ap 0 (bU l)), (9, .int .i64 l.length), (10, .int .i64 i)]) (fun _ => G ++ [.cells x.av.cells]) ⟨trivial, aA _ _ _⟩ fun i hi _ => ?_
 by_cases tA : i < l.length
 ·have e1 : ((i : Int) < l.length) = True := eq_true (by omega)
  simp +contextual only [e1, tA, sZ, Nat.reduceEqDiff, Nat.reduceAdd, ↓reduceIte, reduceCtorEq]
  refine af (c48 _ _ _) ?_
  rintro r H' ⟨rfl, rfl⟩
  have ct : (l.take (i + 1)).countP (fun t => t.same x) = (l.take i).countP (fun t => t.same x) + if (l.getD i default).same x = true then 1 else 0 := by
   rw [List.take_add_one, List.countP_append, List.getD_eq_getElem?_getD, List.getElem?_eq_getElem tA]
   simp [List.countP_cons]
  have cl : (l.take i).countP (fun t => t.same x) ≤ 100 := Nat.le_trans List.countP_le_length (by rw [List.length_take]; omega)
  cases hs : (l.getD i default).same x with
  | true =>
    rw [hs, if_pos rfl] at ct
    simp +contextual only [sZ, Nat.reduceEqDiff, Nat.reduceAdd, ↓reduceIte]
    exact ⟨i + 1, tA, by omega, aG (by rw [au i (by omega), au _ (by omega), ct]) rfl⟩
  | false =>
    rw [hs, if_neg (by decide)] at ct
    simp +contextual only [sZ, Nat.reduceEqDiff, Nat.reduceAdd, ↓reduceIte]
    exact ⟨i + 1, tA, by omega, aG (by rw [au i (by omega), ct]; rfl) rfl⟩
 ·have e1 : ((i : Int) < l.length) = False := eq_false (by omega)
  simp +contextual only [e1, sZ, Nat.reduceEqDiff, ↓reduceIte, reduceCtorEq]
  rw [List.take_of_length_le (by omega)]
  exact aW rfl rfl
end Go.aK
end
section
set_option maxRecDepth 100000
set_option maxHeartbeats 0
namespace Go.aK
open Go Go.Proofs
end Go.aK
end
section
set_option maxRecDepth 100000
set_option maxHeartbeats 1000000
namespace Go.aK
open Go Go.Proofs Go.fq
end Go.aK
end
section
set_option maxRecDepth 100000
set_option maxHeartbeats 0
namespace Go.aK
open Go Go.Proofs
noncomputable def k11 := aI Tryz.call11 Tryz.func11 Tryz.ntmps11 [(0,0,1),(0,1,1),(13,2,1000)] [(0,[2,3,4]),(1,[2,3,4,18]),(2,[6]),(3,[2,3,4,28]),(4,[6]),(5,[2,3,4,7,8]),(6,[2,3,4,7,44]),(7,[6]),(8,[2,3,4,7,45,46,47]),(9,[2,3,4,7,45,46,47,48]),(10,[2,3,4,7,9,10,45,46,47]),(11,[2,3,4,7,10,45,46,47,54,55,56]),(12,[2,3,4,7,10,45,46,47,54,55,56,57]),(13,[2,3,4,7,10,12,45,46,47,54,55,56]),(14,[2,3,4,7,10,13,14,45,46,47,54,55,56]),(15,[2,3,4,7,10,45,46,47,54,55,56,72]),(16,[6]),(17,[2,3,4,7,10,45,46,47,54,55,56]),(18,[2,3,4,7,15,45,46,47]),(19,[2,3,4,7,45,46,47,81]),(20,[6]),(21,[2,3,4,7,45,46,47]),(22,[7,8,16]),(23,[6])] []
end Go.aK
end
section
set_option maxRecDepth 100000
set_option maxHeartbeats 1000000
namespace Go.aK
open Go Go.Proofs Go.fq
theorem aaY (l : List T) (j : Nat) (h : j ≤ l.length) (φ : AV → Prop) : bn 3 (.ap 0 (bU l)) none (some (.int .i64 (j : Int))) none φ = φ (.ap 0 (bU (l.take j))) := by
 have er : dz (AV.ap 0 (bU l)) = some (bU l) := rfl
 have e2 : ((bU l).take j).drop 0 = bU (l.take j) := by rw [List.drop_zero, hJ, hJ, List.map_take]
 simp only [bn, eL, er, dG, Int.toNat_natCast, e2, eq_iff_iff]
 constructor
 ·intro h; exact h.2.2.2.2
 ·intro h'
  refine ⟨fun own xs he z hz => ?_, by omega, by omega, by rw [qo]; omega, h'⟩
  cases he
  rw [hJ] at hz
  obtain ⟨y, _, rfl⟩ := List.mem_map.1 hz
  rw [T.qn]; rfl
theorem c11 (s : Sg) (ps ss : List Int) (l : List T) : Pure Tryz.prog 11 [s.av, eR ps ss, .ap 0 (bU l)] (.bool true) := by
 refine fun H => k11.2.calls rfl ?_
 simp only [k11, aI]
 obtain ⟨q1, q2, q3, q4, q5, q6⟩ := bi ps ss
 simp +contextual only [aC, q1, sZ, Nat.reduceEqDiff, Nat.reduceAdd, ↓reduceIte, reduceCtorEq]
 refine ae c17 ?_
 have fin : ∀ (G : List aa), G.take H.length = H → bT H.length [.t 6] [(6, .bool true)] G fun r H' => r = .bool true ∧ H' = H := fun G hG =>
  aQ H.length (Nat.le_refl _) (by rw [ax, if_pos rfl]; rfl) ⟨by rw [ax, if_pos rfl], hG⟩
 by_cases Xv : (20 : Int) < l.length
 ·have e0 : ((20 : Int) < l.length) = True := eq_true Xv
  simp +contextual only [e0, decide_true, sZ, Nat.reduceEqDiff, ↓reduceIte, reduceCtorEq]
  exact fun _ => fin _ (by simp)
 have e0 : ((20 : Int) < l.length) = False := eq_false Xv
 simp +contextual only [aC, q4, cv, e0, decide_false, sZ, Nat.reduceEqDiff, Nat.reduceAdd, ↓reduceIte]
 refine fun _ => af (c42 s ps ss 200 l H) ?_
 rintro r G ⟨⟨b1, rfl, hb⟩, rfl⟩
 cases b1 with
 | false => simp +contextual only [sZ, Nat.reduceEqDiff, ↓reduceIte, reduceCtorEq]; exact fin _ (by simp)
 | true =>
 obtain ⟨h1, h2, h3⟩ := hb rfl
 have ask (x y : T) (hx : x ∈ l) (hy : y ∈ l) : fO s ps ss [x, y] = 0 := EG h1 h2 fun t ht => by
  rcases List.mem_cons.1 ht with rfl | ht
  ·exact h3 _ hx
  ·rw [List.mem_singleton.1 ht]; exact h3 _ hy
 have hi : ∀ a, w7 ps ss a a = false := fun a => Bool.eq_false_iff.2 fun h => Pk rfl (jW.1 h)
 have ht : ∀ a b c, w7 ps ss a b = true → w7 ps ss b c = true → w7 ps ss a c = true := fun a b c h h' => jW.2 (Fx (jW.1 h) (jW.1 h'))
 have hp := sg hi ht _ l rfl
 have TY := wb hi ht _ l rfl
 have sort : qL s ps ss l = (py (w7 ps ss) l.length l, 0) := by
  unfold qL; rw [if_pos (EG h1 h2 h3), if_neg (by omega)]
 have c1 := c37 s ps ss l (by omega)
 rw [sort] at c1
 generalize hm : py (w7 ps ss) l.length l = m at *
 have Wo := hp.length_eq
 have c2 := c37 s ps ss m (by omega)
 have sort2 : qL s ps ss m = (m, 0) := by
  unfold qL; rw [if_pos (EG h1 h2 fun t h => h3 t (hp.mem_iff.1 h)), if_neg (by omega), K0 hi _ m rfl TY]
 rw [sort2] at c2
 simp +contextual only [aC, q4, cv, sZ, Nat.reduceEqDiff, Nat.reduceAdd, ↓reduceIte]
 refine ae c1 ?_
 have e1 : ((m.length : Int) = l.length) = True := eq_true (by omega)
 simp +contextual only [e1, sZ, Nat.reduceEqDiff, Nat.reduceAdd, Nat.reduceLT, ↓reduceIte]
 refine fun _ _ => ?_
 refine aB m.length (fun _ => True) (fun i => [(2, .ap 0 (bU l)), (3, .ai s.av), (4, .ai (eR ps ss)), (7, .ap 0 (bU m)), (45, .ap 0 (bU m)), (46, .int .i64 m.length), (47, .int .i64 i)]) (fun _ => G) ⟨trivial, aA _ _ _⟩ fun i tA _ => ?_
 by_cases hl : i < m.length
 rotate_left
 ·have e2 : ((i : Int) < m.length) = False := eq_false (by omega)
  simp +contextual only [aC, e2, q4, cv, sZ, Nat.reduceEqDiff, Nat.reduceAdd, ↓reduceIte]
  refine ae c2 ?_
  simp +contextual only [decide_true, sZ, Nat.reduceEqDiff, Nat.reduceAdd, Nat.reduceLT, ↓reduceIte]
  refine ae (c40 m m fun x _ y => Y1 x y) ?_
  rw [(rM m m).2 rfl]
  simp +contextual only [sZ, Nat.reduceEqDiff, ↓reduceIte, reduceCtorEq]
  exact fin _ (by simp)
 have e2 : ((i : Int) < m.length) = True := eq_true (by omega)
 have sl := aaY m i (by omega)
 have e3 := au i (by omega)
 have hx := hp.mem_iff.1 (HO hl)
 simp +contextual only [e2, hl, fX, Option.map_some, Option.map_none, sl, sZ, Nat.reduceEqDiff, Nat.reduceAdd, ↓reduceIte]
 intro _
 generalize hd : m.take i = dr
 have hdl : dr.length ≤ 20 := by rw [← hd, List.length_take]; omega
 have hdr : ∀ y ∈ dr, w7 ps ss y (m.getD i default) = false ∧ y ∈ l := fun y hy => by
  rw [← hd] at hy
  refine ⟨?_, hp.mem_iff.1 (List.mem_of_mem_take hy)⟩
  rw [List.pairwise_iff_getElem] at TY
  obtain ⟨k, hk, rfl⟩ := List.getElem_of_mem hy
  rw [List.length_take] at hk
  rw [List.getElem_take, List.getD_eq_getElem?_getD, List.getElem?_eq_getElem hl]
  exact TY k i (by omega) hl (by omega)
 refine aB dr.length (fun _ => True) (fun j => [(2, .ap 0 (bU l)), (3, .ai s.av), (4, .ai (eR ps ss)), (7, .ap 0 (bU m)), (10, .ptr G.length 0), (45, .ap 0 (bU m)), (46, .int .i64 m.length), (47, .int .i64 i), (54, .ap 0 (bU dr)), (55, .int .i64 dr.length), (56, .int .i64 j)]) (fun _ => G ++ [aa.cells (m.getD i default).av.cells]) ⟨trivial, aA _ _ _⟩ fun j hj _ => ?_
 by_cases nG : j < dr.length
 ·have e4 : ((j : Int) < dr.length) = True := eq_true (by omega)
  obtain ⟨hR, hyl⟩ := hdr _ (HO nG)
  have g := c45 (ask (dr.getD j default) (m.getD i default) hyl hx)
  rw [hR] at g
  simp +contextual only [aC, e4, nG, q4, cv, sZ, Nat.reduceEqDiff, Nat.reduceAdd, ↓reduceIte]
  refine ae g ?_
  simp +contextual only [sZ, Nat.reduceEqDiff, Nat.reduceAdd, Nat.reduceLT, ↓reduceIte]
  exact ⟨j + 1, nG, by omega, aG (by rw [au j (by omega)]) rfl⟩
 ·have e4 : ((j : Int) < dr.length) = False := eq_false (by omega)
  simp +contextual only [e4, sZ, Nat.reduceEqDiff, Nat.reduceAdd, ↓reduceIte]
  refine af (c50 l _ _ (by omega)) ?_
  rintro r G' ⟨rfl, rfl⟩
  simp +contextual only [sZ, Nat.reduceEqDiff, Nat.reduceAdd, ↓reduceIte]
  refine af (c50 m _ _ (by omega)) ?_
  rintro r G' ⟨rfl, rfl⟩
  rw [hp.countP_eq]
  simp +contextual only [e3, sZ, Nat.reduceEqDiff, ↓reduceIte]
  exact ⟨i + 1, hl, by omega, qg rfl (Nat.le_refl _) (by simp [mZ, AV.a7, dI, Sg.nh, q6]) _ rfl⟩
end Go.aK
end
section
set_option maxRecDepth 100000
namespace Go.aK
open Go Go.RowKit Go.fq
section
variable {H : Type} {enc : TypeId × Value → H} {P : Program} {w : World} {base : Nat} {sp : Nat → Bool} {held : Bool}
def Rd {H : Type} (enc : TypeId × Value → H) (P : Program) (w : World) (base : Nat) (sp : Nat → Bool) (held : Bool) {α : Type} (t : TypeId) (g : α → AV) (R : DataW H → α → Prop) : Prop :=
 ∀ (fuel : Nat) (cs : List Value) (x : DataW H × List MemPlace), DataW.trod enc P w base sp held fuel t cs = some x → ∃ a, aJ (fR w) [] cs (g a).cells ∧ R x.1 a
theorem K3 {ti : TypeId} (h : P.underlying ti = some (.int .i64)) : Rd enc P w base sp held ti (fun n : Int => .int .i64 n) (fun _ _ => True) := by
 intro fuel cs x hx
 obtain ⟨k, rfl, _, _⟩ := DataW.trod_int h hx
 exact ⟨k, .cons _ _ _ _ (.int _ _) .nil, trivial⟩
theorem K4 {ti : TypeId} (h : P.underlying ti = some .string) : Rd enc P w base sp held ti (fun s : ByteArray => .str s) (fun _ _ => True) := by
 intro fuel cs x hx
 obtain ⟨k, rfl, _, _⟩ := DataW.trod_string h hx
 exact ⟨k, .cons _ _ _ _ (.str _) .nil, trivial⟩
def CV {α : Type} (d : DataW H) (l : List α) : Prop := match d with | .slice es _ => l.length = es.length | _ => l = []
theorem wc {α : Type} [Inhabited α] {te tl : TypeId} {g : α → AV} {R : DataW H → α → Prop} {e : Nat} (hl : P.underlying tl = some (.slice te)) (hc : P.cellsOf te = e) (he : 0 < e) (h : Rd enc P w base sp held te g R) :
 Rd enc P w base sp held tl (fun l : List α => .ap 0 (l.map g)) CV := by
 intro fuel cs x hx
 rcases DataW.trod_slice hl hx with ⟨rfl, rfl⟩ | ⟨a, len, cap, elems, rest, m, hm, rfl, rfl, hb, hle, cF, Tb, ji, _, _⟩
 ·exact ⟨[], .cons _ _ _ _ aR.ah.drop .nil, rfl⟩
 ·rw [hc] at ji
  have hex : ∀ i, i < len → ∃ t : α, ∃ cs', w.cells? base (a.add (i * e)) e = some cs' ∧ aJ (fR w) [] cs' (g t).cells := by
   intro i hi
   have := ji i hi
   rw [List.getElem?_eq_getElem (by omega)] at this
   obtain ⟨cs', k1, k2⟩ := Option.bind_eq_some_iff.1 this
   obtain ⟨t, ht, _⟩ := h _ _ _ k2
   exact ⟨t, cs', k1, ht⟩
  have hf : ∃ f : Nat → α, ∀ i, i < len → ∃ cs', w.cells? base (a.add (i * e)) e = some cs' ∧ aJ (fR w) [] cs' (g (f i)).cells := by
   refine ⟨fun i => if hi : i < len then Classical.choose (hex i hi) else default, fun i hi => ?_⟩
   simp only [dif_pos hi]
   exact Classical.choose_spec (hex i hi)
  obtain ⟨f, hf⟩ := hf
  refine ⟨(List.range len).map f, .cons _ _ _ _ ?_ .nil, by simp [CV, Tb]⟩
  show aR (fR w) [] _ (.ap 0 (((List.range len).map f).map g))
  rw [List.map_map]
  refine xQ (e := e) (base := base) he hle cF (fun i => if hi : i < len then Classical.choose (hf i hi) else []) _ fun i hi => ?_
  simp only [dif_pos hi]
  exact Classical.choose_spec (hf i hi)
structure qP (P : Program) (ti ts tis tss top tops tsig : TypeId) : Prop where
 int : P.underlying ti = some (.int .i64)
 str : P.underlying ts = some .string
 ints : P.underlying tis = some (.slice ti)
 strs : P.underlying tss = some (.slice ts)
 op : ∃ f0 f1 f2 : Field, P.underlying top = some (.struct #[f0, f1, f2]) ∧ f0.type = ts ∧ f0.offset = 0 ∧ f1.type = tis ∧ f1.offset = 1 ∧ f2.type = ti ∧ f2.offset = 2
 ops : P.underlying tops = some (.slice top)
 sig : ∃ f0 f1 : Field, P.underlying tsig = some (.struct #[f0, f1]) ∧ f0.type = tss ∧ f0.offset = 0 ∧ f1.type = tops ∧ f1.offset = 1
 c : P.cellsOf ti = 1 ∧ P.cellsOf ts = 1 ∧ P.cellsOf tis = 1 ∧ P.cellsOf tss = 1 ∧ P.cellsOf top = 3 ∧ P.cellsOf tops = 1 ∧ P.cellsOf tsig = 2
variable {ti ts tis tss top tops tsig : TypeId}
theorem jI {v : List Value} {x : AV} (h : aJ (fR w) [] v [x]) : ∃ u, v = [u] ∧ aR (fR w) [] u x := by
 cases h with
 | cons v x vs xs h t => cases t; exact ⟨_, rfl, h⟩
theorem Ay (S : qP P ti ts tis tss top tops tsig) : Rd enc P w base sp held tis (fun l : List Int => .ap 0 (ints l)) CV := wc S.ints S.c.1 (by decide) (K3 S.int)
theorem Om (S : qP P ti ts tis tss top tops tsig) : Rd enc P w base sp held tss (fun l : List ByteArray => .ap 0 (strs l)) CV := wc S.strs S.c.2.1 (by decide) (K4 S.str)
theorem Xw (S : qP P ti ts tis tss top tops tsig) : Rd enc P w base sp held top gD.av (fun _ _ => True) := by
 intro fuel cs x h
 obtain ⟨f0, f1, f2, hu, h0, o0, h1, o1, h2, o2⟩ := S.op
 obtain ⟨c1, c2, c3, c4, c5, c6, c7⟩ := S.c
 obtain ⟨xs, m, rfl, rfl, hlen, fp, hf⟩ := DataW.trod_struct hu h
 have g0 := hf 0 f0 rfl
 have g1 := hf 1 f1 rfl
 have g2 := hf 2 f2 rfl
 rw [h0, o0, c2] at g0
 rw [h1, o1, c3] at g1
 rw [h2, o2, c1] at g2
 simp at fp
 rw [c5] at hlen
 match cs, hlen with
 | [a, b, c], _ =>
   have e0 : xs[0]? = some xs[0] := by simp [fp]
   have e1 : xs[1]? = some xs[1] := by simp [fp]
   have e2 : xs[2]? = some xs[2] := by simp [fp]
   rw [e0] at g0; rw [e1] at g1; rw [e2] at g2
   obtain ⟨nm, r0, _⟩ := K4 S.str _ _ _ g0
   obtain ⟨ar, r1, _⟩ := Ay S _ _ _ g1
   obtain ⟨re, r2, _⟩ := K3 S.int _ _ _ g2
   obtain ⟨_, q0, r0⟩ := jI r0
   obtain ⟨_, q1, r1⟩ := jI r1
   obtain ⟨_, q2, r2⟩ := jI r2
   simp at q0 q1 q2
   subst q0 q1 q2
   exact ⟨⟨nm, ar, re⟩, .cons _ _ _ _ r0 (.cons _ _ _ _ r1 (.cons _ _ _ _ r2 .nil)), trivial⟩
theorem S3 (S : qP P ti ts tis tss top tops tsig) : Rd enc P w base sp held tops (fun l : List gD => .ap 0 (ot l)) CV := wc S.ops S.c.2.2.2.2.1 (by decide) (Xw S)
theorem S4 (S : qP P ti ts tis tss top tops tsig) : Rd enc P w base sp held tsig Sg.av (fun _ _ => True) := by
 intro fuel cs x h
 obtain ⟨f0, f1, hu, h0, o0, h1, o1⟩ := S.sig
 obtain ⟨c1, c2, c3, c4, c5, c6, c7⟩ := S.c
 obtain ⟨xs, m, rfl, rfl, hlen, fp, hf⟩ := DataW.trod_struct hu h
 have g0 := hf 0 f0 rfl
 have g1 := hf 1 f1 rfl
 rw [h0, o0, c4] at g0
 rw [h1, o1, c6] at g1
 simp at fp
 rw [c7] at hlen
 match cs, hlen with
 | [a, b], _ =>
   have e0 : xs[0]? = some xs[0] := by simp [fp]
   have e1 : xs[1]? = some xs[1] := by simp [fp]
   rw [e0] at g0; rw [e1] at g1
   obtain ⟨nm, r0, _⟩ := Om S _ _ _ g0
   obtain ⟨ar, r1, _⟩ := S3 S _ _ _ g1
   obtain ⟨_, q0, r0⟩ := jI r0
   obtain ⟨_, q1, r1⟩ := jI r1
   simp at q0 q1
   subst q0 q1
   exact ⟨⟨nm, ar⟩, .cons _ _ _ _ r0 (.cons _ _ _ _ r1 .nil), trivial⟩
theorem On (S : qP P ti ts tis tss top tops tsig) {r : Reach} {b0 : Nat} {v : Value} {d : DataW H} {ps : List MemPlace} (lh : Value.okWide P w r b0 tsig v) (hd : DataW.Trod enc P w base sp held tsig v d ps) : ∃ s : Sg, aR (fR w) [] v s.av := by
 obtain ⟨f0, f1, hu, _⟩ := S.sig
 obtain ⟨cs, rfl, _⟩ := WideShapes.okWide_struct hu lh
 obtain ⟨fuel, hf⟩ := hd
 obtain ⟨o, h1, _⟩ := S4 S _ _ _ hf
 refine ⟨o, ?_⟩
 have : aR (fR w) [] (.agg cs.toList.toArray) o.av := .agg _ _ h1
 simpa using this
structure S5 (P : Program) (tis tod : TypeId) : Prop where
 od : ∃ f0 f1 : Field, P.underlying tod = some (.struct #[f0, f1]) ∧ f0.type = tis ∧ f0.offset = 0 ∧ f1.type = tis ∧ f1.offset = 1
 c : P.cellsOf tod = 2
theorem Xx (S : qP P ti ts tis tss top tops tsig) {tod : TypeId} (O : S5 P tis tod) : Rd enc P w base sp held tod (fun o : List Int × List Int => eR o.1 o.2) (fun _ _ => True) := by
 intro fuel cs x h
 obtain ⟨f0, f1, hu, h0, o0, h1, o1⟩ := O.od
 obtain ⟨c1, c2, c3, c4, c5, c6, c7⟩ := S.c
 obtain ⟨xs, m, rfl, rfl, hlen, fp, hf⟩ := DataW.trod_struct hu h
 have g0 := hf 0 f0 rfl
 have g1 := hf 1 f1 rfl
 rw [h0, o0, c3] at g0
 rw [h1, o1, c3] at g1
 simp at fp
 rw [O.c] at hlen
 match cs, hlen with
 | [a, b], _ =>
   have e0 : xs[0]? = some xs[0] := by simp [fp]
   have e1 : xs[1]? = some xs[1] := by simp [fp]
   rw [e0] at g0; rw [e1] at g1
   obtain ⟨nm, r0, _⟩ := Ay S _ _ _ g0
   obtain ⟨ar, r1, _⟩ := Ay S _ _ _ g1
   obtain ⟨_, q0, r0⟩ := jI r0
   obtain ⟨_, q1, r1⟩ := jI r1
   simp at q0 q1
   subst q0 q1
   exact ⟨(nm, ar), .cons _ _ _ _ r0 (.cons _ _ _ _ r1 .nil), trivial⟩
theorem Oo (S : qP P ti ts tis tss top tops tsig) {tod : TypeId} (O : S5 P tis tod) {r : Reach} {b0 : Nat} {v : Value} {d : DataW H} {ps : List MemPlace} (lh : Value.okWide P w r b0 tod v) (hd : DataW.Trod enc P w base sp held tod v d ps) : ∃ pl st : List Int, aR (fR w) [] v (eR pl st) := by
 obtain ⟨f0, f1, hu, _⟩ := O.od
 obtain ⟨cs, rfl, _⟩ := WideShapes.okWide_struct hu lh
 obtain ⟨fuel, hf⟩ := hd
 obtain ⟨o, h1, _⟩ := Xx S O _ _ _ hf
 refine ⟨o.1, o.2, ?_⟩
 have : aR (fR w) [] (.agg cs.toList.toArray) (eR o.1 o.2) := .agg _ _ h1
 simpa using this
end
end Go.aK
end
section
set_option maxRecDepth 100000
namespace Go.Proofs.YtljchnfgjdjobaaGreat
open Go
theorem S6 : laidOutB Tryz.checked.prog = true := by kernel_rfl
theorem S7 : mapsRowed Tryz.checked.prog = true := by kernel_rfl
theorem Oq : Tryz.checked.prog.stopsHeard = true := by kernel_rfl
theorem Ot : Tryz.checked.prog.mayEnter = true := by kernel_rfl
theorem Ou : Tryz.checked.prog.liftsFinal = false := by kernel_rfl
end Go.Proofs.YtljchnfgjdjobaaGreat
end
