/- Part 17 of 18 of the proof. -/
import Derived.Test.YtljchnfgjdjobaaGreatQap
import Derived.Laws.Runes
import Derived.Test.YtljchnfgjdjobaaGreatProg
import Derived.KernelRfl
import Derived.Test.YtljchnfgjdjobaaGreatQaf
import Derived.Test.YtljchnfgjdjobaaGreatQak
import Derived.Test.YtljchnfgjdjobaaGreatQam
import Derived.Test.YtljchnfgjdjobaaGreatRows
import Derived.ProofKit
set_option linter.unusedVariables false
set_option linter.unusedSimpArgs false
set_option linter.defProp false
set_option linter.unusedSectionVars false
section
set_option maxRecDepth 100000
namespace Go.aK
open Go Go.Proofs Go.fE
def K9 (o : gB) : Prop := o.args.length ≤ 20 ∧ o.name.size ≤ 200
theorem vS {α : Type} [Inhabited α] {p : α → Prop} {l : List α} (h : ∀ j, j < l.length → p (l.getD j default)) : ∀ x ∈ l, p x := fun x hx => by
 obtain ⟨n, hn, rfl⟩ := List.getElem_of_mem hx
 have := h n hn
 rwa [List.getD_eq_getElem?_getD, List.getElem?_eq_getElem hn] at this
theorem c68 (o : gB) : ∃ b, Pure Tryz.prog 68 [o.av] (.bool b) ∧ (b = false → K9 o) := by
 refine ⟨decide (20 < (o.args.length : Int)) || decide (200 < (o.name.size : Int)), fun H => k68.2.calls rfl ?_, fun h => by simp at h; exact ⟨by omega, by omega⟩⟩
 simp only [k68, aI]
 simp +contextual only [aB, sZ, Nat.reduceEqDiff, Nat.reduceAdd, ↓reduceIte, reduceCtorEq]
 refine fun _ => ⟨fun h => aZ rfl ?_, fun h => aZ rfl ?_⟩
 ·have h' : ¬ (20 : Int) < o.args.length := by omega
  rw [decide_eq_false h', Bool.false_or]
 ·rw [decide_eq_true h, Bool.true_or]
theorem c70 (s : ByteArray) : ∃ b, Pure Tryz.prog 70 [.str s] (.bool b) ∧ (b = false → s.size ≤ 200) := by
 refine ⟨decide (200 < (s.size : Int)), fun H => k70.2.calls rfl ?_, fun h => by simp at h; omega⟩
 simp only [k70, aI]
 simp +contextual only [sZ, Nat.reduceAdd, ↓reduceIte, reduceCtorEq]
 exact aZ rfl rfl
theorem W7 (l : List gB) : ∀ H, aq Tryz.prog 128 [.ap 0 (ou l), .fn (.func 68) [] []] H fun r H' => (∃ n, r = .int .i64 n ∧ (n < 0 → ∀ o ∈ l, K9 o)) ∧ H' = H := by
 refine fun H => T7.2.calls rfl ?_
 simp only [T7, aI]
 simp +contextual only [aB, sZ, Nat.reduceEqDiff, Nat.reduceAdd, ↓reduceIte, reduceCtorEq]
 intro hl
 have fin : ∀ (n : Int), (n < 0 → ∀ o ∈ l, K9 o) → bT H.length [.t 4] [(4, .int .i64 n)] H fun r H' => (∃ n, r = .int .i64 n ∧ (n < 0 → ∀ o ∈ l, K9 o)) ∧ H' = H := fun n hn =>
  aV H.length (Nat.le_refl _) (by rw [ax, if_pos rfl]; rfl) ⟨⟨n, by rw [ax, if_pos rfl], hn⟩, List.take_length⟩
 refine aG l.length (fun i => ∀ j, j < i → K9 (l.getD j default)) (fun i => [(0, .ap 0 (ou l)), (1, .fn (.func 68) [] []), (7, .int .i64 l.length), (8, .int .i64 i)]) (fun _ => H) ⟨fun j h => by omega, aA _ _ _⟩ fun i hi hI => ?_
 simp +contextual only [aB, sZ, Nat.reduceEqDiff, Nat.reduceAdd, ↓reduceIte, reduceCtorEq]
 obtain ⟨b, hb, hq⟩ := c68 (l.getD i default)
 refine ⟨fun a8 => ?_, fun jG => fin _ fun _ => vS fun j hj => hI j (by have := dl jG; omega)⟩
 have a8 := bY a8
 refine ⟨a8, ae hb ?_⟩
 cases b with
 | true => simp +contextual only [sZ, Nat.reduceEqDiff, ↓reduceIte, reduceCtorEq]; exact fin _ fun h => by omega
 | false =>
   simp +contextual only [sZ, Nat.reduceEqDiff, ↓reduceIte, reduceCtorEq]
   refine ⟨i + 1, ⟨a8, fun j hj => ?_⟩, by omega, aH (by rw [au i (by omega)]) rfl⟩
   by_cases e : j < i
   ·exact hI j e
   ·have : j = i := by omega
    subst this; exact hq rfl
theorem aay (l : List gB) : ∀ H, aq Tryz.prog 67 [.ap 0 (ou l), .fn (.func 68) [] []] H fun r H' => (∃ b, r = .bool b ∧ (b = false → ∀ o ∈ l, K9 o)) ∧ H' = H := by
 refine fun H => k67.2.calls rfl ?_
 simp only [k67, aI]
 simp +contextual only [sZ, Nat.reduceEqDiff, Nat.reduceAdd, ↓reduceIte, reduceCtorEq]
 refine af (W7 l H) ?_
 rintro r G ⟨⟨n, rfl, hn⟩, rfl⟩
 simp +contextual only [sZ, ↓reduceIte, reduceCtorEq]
 exact aV _ (Nat.le_refl _) (by rw [ax, if_pos rfl]; rfl) ⟨⟨decide (0 ≤ n), by rw [ax, if_pos rfl], fun h => hn (by simpa using h)⟩, List.take_length⟩
theorem W8 (l : List ByteArray) : ∀ H, aq Tryz.prog 129 [.ap 0 (strs l), .fn (.func 70) [] []] H fun r H' => (∃ n, r = .int .i64 n ∧ (n < 0 → ∀ o ∈ l, o.size ≤ 200)) ∧ H' = H := by
 refine fun H => T8.2.calls rfl ?_
 simp only [T8, aI]
 simp +contextual only [aB, sZ, Nat.reduceEqDiff, Nat.reduceAdd, ↓reduceIte, reduceCtorEq]
 intro hl
 have fin : ∀ (n : Int), (n < 0 → ∀ o ∈ l, o.size ≤ 200) → bT H.length [.t 4] [(4, .int .i64 n)] H fun r H' => (∃ n, r = .int .i64 n ∧ (n < 0 → ∀ o ∈ l, o.size ≤ 200)) ∧ H' = H := fun n hn =>
  aV H.length (Nat.le_refl _) (by rw [ax, if_pos rfl]; rfl) ⟨⟨n, by rw [ax, if_pos rfl], hn⟩, List.take_length⟩
 refine aG l.length (fun i => ∀ j, j < i → (l.getD j default).size ≤ 200) (fun i => [(0, .ap 0 (strs l)), (1, .fn (.func 70) [] []), (7, .int .i64 l.length), (8, .int .i64 i)]) (fun _ => H) ⟨fun j h => by omega, aA _ _ _⟩ fun i hi hI => ?_
 simp +contextual only [aB, sZ, Nat.reduceEqDiff, Nat.reduceAdd, ↓reduceIte, reduceCtorEq]
 obtain ⟨b, hb, hq⟩ := c70 (l.getD i default)
 refine ⟨fun a8 => ?_, fun jG => fin _ fun _ => vS fun j hj => hI j (by have := dl jG; omega)⟩
 have a8 := bY a8
 refine ⟨a8, ae hb ?_⟩
 cases b with
 | true => simp +contextual only [sZ, Nat.reduceEqDiff, ↓reduceIte, reduceCtorEq]; exact fin _ fun h => by omega
 | false =>
   simp +contextual only [sZ, Nat.reduceEqDiff, ↓reduceIte, reduceCtorEq]
   refine ⟨i + 1, ⟨a8, fun j hj => ?_⟩, by omega, aH (by rw [au i (by omega)]) rfl⟩
   by_cases e : j < i
   ·exact hI j e
   ·have : j = i := by omega
    subst this; exact hq rfl
theorem aaz (l : List ByteArray) : ∀ H, aq Tryz.prog 69 [.ap 0 (strs l), .fn (.func 70) [] []] H fun r H' => (∃ b, r = .bool b ∧ (b = false → ∀ o ∈ l, o.size ≤ 200)) ∧ H' = H := by
 refine fun H => k69.2.calls rfl ?_
 simp only [k69, aI]
 simp +contextual only [sZ, Nat.reduceEqDiff, Nat.reduceAdd, ↓reduceIte, reduceCtorEq]
 refine af (W8 l H) ?_
 rintro r G ⟨⟨n, rfl, hn⟩, rfl⟩
 simp +contextual only [sZ, ↓reduceIte, reduceCtorEq]
 exact aV _ (Nat.le_refl _) (by rw [ax, if_pos rfl]; rfl) ⟨⟨decide (0 ≤ n), by rw [ax, if_pos rfl], fun h => hn (by simpa using h)⟩, List.take_length⟩
structure XO (s : Sg) (ps ss : List Int) : Prop where
 h1 : s.ops.length ≤ 40
 h2 : s.aX.length ≤ 40
 h3 : ps.length ≤ 80
 h4 : ss.length ≤ 80
 h5 : ∀ o ∈ s.ops, K9 o
 h6 : ∀ x ∈ s.aX, x.size ≤ 200
theorem c18 (s : Sg) (ps ss : List Int) (H : List aa) : aq Tryz.prog 18 [s.av, eN ps ss] H fun r H' => (∃ b, r = .bool b ∧ (b = true → XO s ps ss)) ∧ H' = H := by
 refine k18.2.calls rfl ?_
 simp only [k18, aI]
 have fin : ∀ (b : Bool), (b = true → XO s ps ss) → bT H.length [.t 4] [(4, .bool b)] H fun r H' => (∃ b, r = .bool b ∧ (b = true → XO s ps ss)) ∧ H' = H := fun b hb =>
  aV H.length (Nat.le_refl _) (by rw [ax, if_pos rfl]; rfl) ⟨⟨b, by rw [ax, if_pos rfl], hb⟩, List.take_length⟩
 have finf := fin false (fun h => by cases h)
 obtain ⟨q1, q2, q3, q4, q5, q6⟩ := bf ps ss
 simp +contextual only [aB, q1, vx, wT, aw, sZ, Nat.reduceEqDiff, Nat.reduceAdd, ↓reduceIte, reduceCtorEq]
 refine fun _ => ⟨fun h1 _ => ⟨fun h2 _ => ⟨fun h3 _ => ⟨fun h4 => af (aay s.ops H) ?_, fun _ => finf⟩, fun _ => finf⟩, fun _ => finf⟩, fun _ => finf⟩
 rintro r G ⟨⟨b, rfl, hb⟩, rfl⟩
 cases b with
 | true => simp +contextual only [sZ, Nat.reduceEqDiff, ↓reduceIte, reduceCtorEq]; exact finf
 | false =>
   simp +contextual only [aB, sZ, Nat.reduceEqDiff, Nat.reduceAdd, ↓reduceIte]
   refine af (aaz s.aX _) ?_
   rintro r G ⟨⟨d, rfl, hd⟩, rfl⟩
   simp +contextual only [sZ, Nat.reduceEqDiff, ↓reduceIte, reduceCtorEq]
   exact fin _ fun h => ⟨by omega, by omega, by omega, by omega, hb rfl, hd (by simpa using h)⟩
end Go.aK
end
section
set_option maxRecDepth 100000
namespace Go.aK
open Go Go.Proofs
def SK (c : UInt8) : Prop := ¬ ((c.toNat : Int) < 33 ∨ 126 < (c.toNat : Int) ∨ (c.toNat : Int) = 40 ∨ (c.toNat : Int) = 41 ∨ (c.toNat : Int) = 44)
def nD (s : ByteArray) : Prop := (∀ i, i < s.size → SK (s.data.toList.getD i 0)) ∧ 1 ≤ s.size ∧ s.size ≤ 32
theorem jJ {P : Prop} (h : Decidable P) {H : List aa} {s : Nat} (hp : ¬ P) : bT H.length [.t s] [(s, .bool false)] H fun r H' => r = .bool (decide P) ∧ H' = H := aZ rfl (by simp [hp])
open Classical in
theorem W9 (s : ByteArray) (hs : s.size ≤ 200) : Pure Tryz.prog 195 [.str s] (.bool (decide (nD s))) := by
 refine fun H => UE.2.calls rfl ?_
 simp only [UE, aI]
 simp +contextual only [sZ, Nat.reduceAdd, ↓reduceIte, reduceCtorEq]
 refine aG s.size (fun i => ∀ j, j < i → SK (s.data.toList.getD j 0))
  (fun i => [(0, .str s), (3, .int .i64 i)]) (fun i => H) ⟨fun j h => by omega, aA _ _ _⟩ fun i hi hI => ?_
 simp +contextual only [Zc, sZ, Nat.reduceEqDiff, ↓reduceIte, reduceCtorEq, Int.reduceLT]
 have bad (hl : i < s.size) (h : ¬ SK (s.data.toList.getD i 0)) : ¬ nD s := fun e => h (e.1 i hl)
 refine ⟨fun hl => ?_, fun hl => ⟨fun h1 => ?_, fun h1 => ?_⟩⟩
 ·have hl := bY hl
  have bad := bad hl
  unfold SK at bad
  refine ⟨hl, fun a => ⟨hl, fun b => ⟨hl, fun c => ⟨hl, fun d => ⟨hl, fun e => ?_, fun e => ?_⟩, fun d => ?_⟩, fun c => ?_⟩, fun b => ?_⟩, fun a => ?_⟩
  ·exact jJ _ (bad (by omega))
  ·refine ⟨i + 1, ⟨hl, fun j hj => ?_⟩, by omega, aH (by rw [au i (by omega)]) rfl⟩
   by_cases EO : j < i
   ·exact hI j EO
   ·have : j = i := by omega
    subst this
    unfold SK; omega
  ·exact jJ _ (bad (by omega))
  ·exact jJ _ (bad (by omega))
  ·exact jJ _ (bad (by omega))
  ·exact jJ _ (bad (by omega))
 ·refine aZ rfl ?_
  have e : (((s.size : Nat) : Int) ≤ 32) = nD s := propext ⟨fun h => ⟨fun j hj => hI j (by omega), by omega, by omega⟩, fun h => by have := h.2.2; omega⟩
  simp only [e]
 ·exact jJ _ fun e => by have := e.2.1; omega
def At (s : ByteArray) : Nat := s.data.toList.countP (· == 95)
theorem Xa (s : ByteArray) (hs : s.size ≤ 200) : Pure Tryz.prog 196 [.str s] (.int .i64 (At s : Nat)) := by
 unfold At
 refine fun H => UF.2.calls rfl ?_
 simp only [UF, aI]
 simp +contextual only [sZ, Nat.reduceEqDiff, Nat.reduceAdd, ↓reduceIte, reduceCtorEq]
 refine aG s.size (fun i => True)
  (fun i => [(0, .str s), (3, .int .i64 ((s.data.toList.take i).countP (· == 95) : Nat)), (4, .int .i64 i)]) (fun i => H) ⟨trivial, aA _ _ _⟩ fun i hi hI => ?_
 simp +contextual only [Zc, sZ, Nat.reduceEqDiff, ↓reduceIte, reduceCtorEq]
 have hz : s.data.toList.length = s.size := rfl
 have hc := List.countP_le_length (p := (· == (95 : UInt8))) (l := s.data.toList.take i)
 rw [List.length_take] at hc
 refine ⟨fun hl => ?_, fun hl => ?_⟩
 ·have hl := bY hl
  have wB : i < s.data.toList.length := hl
  have eg : s.data.toList.getD i 0 = s.data.toList[i] := by rw [List.getD_eq_getElem?_getD, List.getElem?_eq_getElem wB]; rfl
  have et : (s.data.toList.take (i + 1)).countP (· == 95) = (s.data.toList.take i).countP (· == 95) + if (s.data.toList.getD i 0 == 95) = true then 1 else 0 := by
   rw [List.take_add_one, List.countP_append, eg, List.getElem?_eq_getElem wB]; simp [List.countP_cons]
  refine ⟨hl, fun a => ⟨i + 1, hl, by omega, aH ?_ rfl⟩, fun a => ⟨i + 1, hl, by omega, aH ?_ rfl⟩⟩
  ·have : (s.data.toList.getD i 0 == 95) = true := by
    rw [beq_iff_eq]; apply UInt8.toNat_inj.1; simpa using Int.ofNat.inj a
   rw [au i (by omega), au _ (by omega), et, if_pos this]
  ·have : ¬ (s.data.toList.getD i 0 == 95) = true := by
    rw [beq_iff_eq]; intro h; rw [h] at a; exact a rfl
   rw [au i (by omega), et, if_neg this]; rfl
 ·rw [List.take_of_length_le (by have := dl hl; omega)]
  exact aZ rfl rfl
def ku (s : Sg) (l : List Int) : Prop := ∀ x ∈ l, 0 ≤ x ∧ x < s.aX.length
open Classical in
theorem Pq (s : Sg) (l : List Int) : Pure Tryz.prog 232 [s.av, .ap 0 (ints l)] (.bool (decide (ku s l))) := by
 refine fun H => U0.2.calls rfl ?_
 simp only [U0, aI]
 simp +contextual only [aB, sZ, Nat.reduceEqDiff, Nat.reduceAdd, ↓reduceIte, reduceCtorEq]
 refine aG l.length (fun i => ∀ j, j < i → 0 ≤ l.getD j 0 ∧ l.getD j 0 < s.aX.length)
  (fun i => [(1, .ap 0 (ints l)), (2, .ai s.av), (5, .int .i64 i)]) (fun i => H) ⟨fun j h => by omega, aA _ _ _⟩ fun i hi hI => ?_
 by_cases hl : i < l.length
 ·have bad (h : ¬ (0 ≤ l.getD i 0 ∧ l.getD i 0 < s.aX.length)) : ¬ ku s l := fun e => h (e _ (aO hl))
  have e0 : ((i : Int) < l.length) = True := eq_true (by omega)
  by_cases h1 : l.getD i 0 < 0
  ·have e1 : (l.getD i 0 < 0) = True := eq_true h1
   simp +contextual only [e0, e1, hl, decide_true, sZ, Nat.reduceEqDiff, ↓reduceIte, reduceCtorEq]
   exact fun _ => jJ _ (bad (by omega))
  ·have e1 : (l.getD i 0 < 0) = False := eq_false h1
   by_cases h2 : s.aX.length ≤ l.getD i 0
   ·have e2 : ((s.aX.length : Int) ≤ l.getD i 0) = True := eq_true h2
    simp +contextual only [aB, e0, e1, e2, hl, decide_true, decide_false, sZ, Nat.reduceEqDiff, ↓reduceIte, reduceCtorEq]
    exact fun _ => jJ _ (bad (by omega))
   ·have e2 : ((s.aX.length : Int) ≤ l.getD i 0) = False := eq_false h2
    simp +contextual only [aB, e0, e1, e2, hl, decide_true, decide_false, sZ, Nat.reduceEqDiff, ↓reduceIte]
    refine fun _ => ⟨i + 1, ⟨hl, fun j hj => ?_⟩, by omega, aH (by rw [au i (by omega)]) rfl⟩
    by_cases EO : j < i
    ·exact hI j EO
    ·have : j = i := by omega
     subst this
     exact ⟨by omega, by omega⟩
 ·have e0 : ((i : Int) < l.length) = False := eq_false (by omega)
  simp +contextual only [e0, sZ, Nat.reduceEqDiff, ↓reduceIte, reduceCtorEq]
  refine fun _ => aZ rfl ?_
  have : ku s l := fun x hx => by
   obtain ⟨n, hn, rfl⟩ := List.getElem_of_mem hx
   have := hI n (by omega)
   rwa [List.getD_eq_getElem?_getD, List.getElem?_eq_getElem hn] at this
  simp [this]
def Lb (s : Sg) (o : gB) : Prop := nD o.name ∧ At o.name ≠ o.name.size ∧ (At o.name = 0 ∨ At o.name = o.args.length) ∧ o.args.length ≤ 8 ∧ ku s o.args ∧ ku s [o.Ar]
theorem KF (a : Int) : [AV.int .i64 a] = ints [a] := rfl
open Classical in
theorem aaA (s : Sg) (o : gB) (ho : K9 o) : Pure Tryz.prog 197 [s.av, o.av] (.bool (decide (Lb s o))) := by
 have e1 := Xa o.name ho.2
 have e2 := W9 o.name ho.2
 have hb : At o.name ≤ o.name.size := List.countP_le_length (p := (· == (95 : UInt8))) (l := o.name.data.toList)
 have e3 := Pq s o.args
 have e4 := Pq s [o.Ar]
 have hR : Lb s o = (nD o.name ∧ At o.name ≠ o.name.size ∧ (At o.name = 0 ∨ At o.name = o.args.length) ∧ o.args.length ≤ 8 ∧ ku s o.args ∧ ku s [o.Ar]) := rfl
 refine fun H => UG.2.calls rfl ?_
 simp only [UG, aI]
 simp +contextual only [aB, sZ, Nat.reduceEqDiff, Nat.reduceAdd, ↓reduceIte, reduceCtorEq]
 refine ae e1 ?_
 simp +contextual only [aB, sZ, Nat.reduceEqDiff, Nat.reduceAdd, ↓reduceIte]
 refine ae e2 ?_
 have ha := ho.1
 generalize At o.name = n at *
 by_cases hn : nD o.name
 ·rw [decide_eq_true hn]
  by_cases h1 : n = o.name.size
  ·have f1 : ((n : Int) = o.name.size) = True := eq_true (by omega)
   simp +contextual only [aB, f1, decide_true, sZ, Nat.reduceEqDiff, ↓reduceIte, reduceCtorEq]
   exact jJ _ (by rw [hR]; exact fun e => e.2.1 h1)
  have f1 : ((n : Int) = o.name.size) = False := eq_false (by omega)
  by_cases h2 : n = 0 ∨ n = o.args.length
  ·have hz : (0 < (n : Int)) = False ∧ (True ∧ True) = True ∨ (0 < (n : Int)) = True ∧ ((n : Int) = o.args.length) = True := by
    by_cases h0 : n = 0
    ·exact .inl ⟨eq_false (by omega), by simp⟩
    ·exact .inr ⟨eq_true (by omega), eq_true (by omega)⟩
   rcases hz with ⟨f2, f3⟩ | ⟨f2, f3⟩
   all_goals
    simp +contextual only [aB, f1, f2, f3, decide_false, decide_true, sZ, Nat.reduceEqDiff, Nat.reduceAdd, ↓reduceIte, reduceCtorEq]
    refine fun _ => ⟨fun h3 => ae e3 ?_, fun h3 => jJ _ (by rw [hR]; exact fun e => by have := e.2.2.2.1; omega)⟩
    by_cases h4 : ku s o.args
    ·rw [decide_eq_true h4]
     simp +contextual only [aB, KF, sZ, Nat.reduceEqDiff, Nat.reduceAdd, ↓reduceIte]
     refine ae e4 ?_
     simp +contextual only [sZ, Nat.reduceEqDiff, ↓reduceIte, reduceCtorEq]
     refine aZ rfl ?_
     have : Lb s o = ku s [o.Ar] := by rw [hR]; exact propext ⟨fun e => e.2.2.2.2.2, fun e => ⟨hn, h1, h2, by omega, h4, e⟩⟩
     simp only [this]
    ·rw [decide_eq_false h4]
     simp +contextual only [sZ, Nat.reduceEqDiff, ↓reduceIte, reduceCtorEq]
     exact jJ _ (by rw [hR]; exact fun e => h4 e.2.2.2.2.1)
  ·have f2 : (0 < (n : Int)) = True := eq_true (by omega)
   have f3 : ((n : Int) = o.args.length) = False := eq_false (by omega)
   simp +contextual only [aB, f1, f2, f3, decide_false, decide_true, sZ, Nat.reduceEqDiff, ↓reduceIte, reduceCtorEq]
   exact fun _ => jJ _ (by rw [hR]; exact fun e => h2 e.2.2.1)
 ·rw [decide_eq_false hn]
  simp +contextual only [sZ, Nat.reduceEqDiff, ↓reduceIte, reduceCtorEq]
  exact jJ _ (by rw [hR]; exact fun e => hn e.1)
end Go.aK
end
section
set_option maxRecDepth 100000
namespace Go.aK
open Go Go.Proofs
def Th (s : Sg) (i : Nat) : Prop := nD (s.aX.getD i default) ∧ At (s.aX.getD i default) = 0 ∧ ∀ k, k < i → s.aX.getD k default ≠ s.aX.getD i default
def Ti (a b : gB) : Prop := a.name = b.name ∧ a.Ar = b.Ar ∧ a.args = b.args
def Xb (s : Sg) (i : Nat) : Prop := Lb s (s.ops.getD i default) ∧ ∀ k, k < i → ¬ Ti (s.ops.getD k default) (s.ops.getD i default)
def qL (s : Sg) : Prop := s.aX.length ≤ 64 ∧ s.ops.length ≤ 256 ∧ (∀ i, i < s.aX.length → Th s i) ∧ ∀ i, i < s.ops.length → Xb s i
theorem jE {p : Nat → Prop} {i : Nat} (h : ∀ j, j < i → p j) (h' : p i) : ∀ j, j < i + 1 → p j := fun j hj => by
 by_cases e : j < i
 ·exact h j e
 ·have : j = i := by omega
  subst this; exact h'
theorem NW {α : Type} [Inhabited α] {l : List α} {i : Nat} (h : i < l.length) : l.getD i default ∈ l := by
 rw [List.getD_eq_getElem?_getD, List.getElem?_eq_getElem h]; exact List.getElem_mem h
open Classical in
theorem aaB (s : Sg) (ho : ∀ o ∈ s.ops, K9 o) (hs : ∀ x ∈ s.aX, x.size ≤ 200) (h40 : s.ops.length ≤ 40) (h41 : s.aX.length ≤ 40) : Pure Tryz.prog 145 [s.av] (.bool (decide (qL s))) := by
 refine fun H => Ug.2.calls rfl ?_
 simp only [Ug, aI]
 have f1 : (64 < (s.aX.length : Int)) = False := eq_false (by omega)
 have f2 : (256 < (s.ops.length : Int)) = False := eq_false (by omega)
 simp +contextual only [aB, f1, f2, decide_false, sZ, Nat.reduceEqDiff, Nat.reduceAdd, ↓reduceIte]
 refine fun _ _ => aG s.aX.length (fun i => ∀ j, j < i → Th s j) (fun i => [(1, .ai s.av), (3, .int .i64 i)]) (fun i => H) ⟨fun j h => by omega, aA _ _ _⟩ fun i hi hI => ?_
 by_cases hl : i < s.aX.length
 ·have e0 : ((i : Int) < s.aX.length) = True := eq_true (by omega)
  have bad (h : ¬ Th s i) : ¬ qL s := fun e => h (e.2.2.1 i hl)
  have hx := hs _ (NW hl)
  have e1 := W9 _ hx
  have e2 := Xa _ hx
  have hR : Th s i = (nD (s.aX.getD i default) ∧ At (s.aX.getD i default) = 0 ∧ ∀ k, k < i → s.aX.getD k default ≠ s.aX.getD i default) := rfl
  simp +contextual only [aB, e0, hl, sZ, Nat.reduceEqDiff, Nat.reduceAdd, ↓reduceIte]
  refine fun _ => ae e1 ?_
  by_cases h1 : nD (s.aX.getD i default)
  ·rw [decide_eq_true h1]
   simp +contextual only [aB, hl, sZ, Nat.reduceEqDiff, Nat.reduceAdd, ↓reduceIte]
   refine ae e2 ?_
   by_cases h2 : At (s.aX.getD i default) = 0
   ·rw [h2]
    have e9 : (0 < ((0 : Nat) : Int)) = False := eq_false (by omega)
    simp +contextual only [e9, decide_false, sZ, Nat.reduceEqDiff, ↓reduceIte]
    refine aG i (fun k => ∀ j, j < k → s.aX.getD j default ≠ s.aX.getD i default) (fun k => [(1, .ai s.av), (3, .int .i64 i), (4, .int .i64 k)]) (fun i => H) ⟨fun j h => by omega, aA _ _ _⟩ fun k hk hK => ?_
    by_cases nJ : k < i
    ·have e3 : ((k : Int) < i) = True := eq_true (by omega)
     have wW : k < s.aX.length := by omega
     by_cases h3 : s.aX.getD k default = s.aX.getD i default
     ·simp +contextual only [aB, e3, hl, wW, pi, h3, decide_true, sZ, Nat.reduceEqDiff, ↓reduceIte, reduceCtorEq]
      exact jJ _ (bad (by rw [hR]; exact fun e => e.2.2 k nJ h3))
     ·simp +contextual only [aB, e3, hl, wW, pi, h3, decide_false, sZ, Nat.reduceEqDiff, ↓reduceIte]
      exact ⟨k + 1, ⟨nJ, jE hK h3⟩, by omega, aH (by rw [au k (by omega)]) rfl⟩
    ·have e3 : ((k : Int) < i) = False := eq_false (by omega)
     simp +contextual only [e3, sZ, Nat.reduceEqDiff, ↓reduceIte]
     exact ⟨i + 1, ⟨hl, jE hI (by rw [hR]; exact ⟨h1, h2, fun j hj => hK j (by omega)⟩)⟩, by omega, aH (by rw [au i (by omega)]) rfl⟩
   ·have e3 : (0 < ((At (s.aX.getD i default) : Nat) : Int)) = True := eq_true (by omega)
    simp +contextual only [e3, decide_true, sZ, Nat.reduceEqDiff, ↓reduceIte, reduceCtorEq]
    exact jJ _ (bad (by rw [hR]; exact fun e => h2 e.2.1))
  ·rw [decide_eq_false h1]
   simp +contextual only [sZ, Nat.reduceEqDiff, ↓reduceIte, reduceCtorEq]
   exact jJ _ (bad (by rw [hR]; exact fun e => h1 e.1))
 have e0 : ((i : Int) < s.aX.length) = False := eq_false (by omega)
 have Sx : ∀ i, i < s.aX.length → Th s i := fun j hj => hI j (by omega)
 simp +contextual only [aB, e0, sZ, Nat.reduceEqDiff, ↓reduceIte]
 refine fun _ => aG s.ops.length (fun i => ∀ j, j < i → Xb s j) (fun i => [(1, .ai s.av), (5, .int .i64 i)]) (fun i => H) ⟨fun j h => by omega, aA _ _ _⟩ fun i hi hI => ?_
 by_cases hl : i < s.ops.length
 ·have e0 : ((i : Int) < s.ops.length) = True := eq_true (by omega)
  have bad (h : ¬ Xb s i) : ¬ qL s := fun e => h (e.2.2.2 i hl)
  have e1 := aaA s _ (ho _ (NW hl))
  have hR : Xb s i = (Lb s (s.ops.getD i default) ∧ ∀ k, k < i → ¬ Ti (s.ops.getD k default) (s.ops.getD i default)) := rfl
  simp +contextual only [aB, e0, hl, sZ, Nat.reduceEqDiff, ↓reduceIte]
  refine fun _ => aF e1 ?_
  by_cases h1 : Lb s (s.ops.getD i default)
  ·rw [decide_eq_true h1]
   simp +contextual only [sZ, Nat.reduceEqDiff, ↓reduceIte]
   refine aG i (fun k => ∀ j, j < k → ¬ Ti (s.ops.getD j default) (s.ops.getD i default)) (fun k => [(1, .ai s.av), (5, .int .i64 i), (6, .int .i64 k)]) (fun i => H) ⟨fun j h => by omega, aA _ _ _⟩ fun k hk hK => ?_
   by_cases nJ : k < i
   ·have e3 : ((k : Int) < i) = True := eq_true (by omega)
    have wW : k < s.ops.length := by omega
    have next (h : ¬ Ti (s.ops.getD k default) (s.ops.getD i default)) : ∃ j, (j ≤ i ∧ ∀ j_1, j_1 < j → ¬ Ti (s.ops.getD j_1 default) (s.ops.getD i default)) ∧ i - j < i - k ∧ sle H.length [(1, .ai s.av), (5, .int .i64 i), (6, .int .i64 (IntKind.i64.wrap ((k : Int) + 1)))] H [(1, .ai s.av), (5, .int .i64 i), (6, .int .i64 j)] H :=
     ⟨k + 1, ⟨nJ, jE hK h⟩, by omega, aH (by rw [au k (by omega)]) rfl⟩
    by_cases h2 : (s.ops.getD k default).name = (s.ops.getD i default).name
    ·by_cases h3 : (s.ops.getD k default).Ar = (s.ops.getD i default).Ar
     ·simp +contextual only [aB, e3, hl, wW, pi, h2, h3, decide_true, sZ, Nat.reduceEqDiff, ↓reduceIte]
      refine aF (YR _ _ _ _) ?_
      by_cases h4 : (s.ops.getD k default).args = (s.ops.getD i default).args
      ·simp +contextual only [h4, decide_true, sZ, Nat.reduceEqDiff, ↓reduceIte, reduceCtorEq]
       exact jJ _ (bad (by rw [hR]; exact fun e => e.2 k nJ ⟨h2, h3, h4⟩))
      ·simp +contextual only [h4, decide_false, sZ, Nat.reduceEqDiff, ↓reduceIte]
       exact next fun e => h4 e.2.2
     ·simp +contextual only [aB, e3, hl, wW, pi, h2, h3, decide_true, decide_false, sZ, Nat.reduceEqDiff, ↓reduceIte]
      exact next fun e => h3 e.2.1
    ·simp +contextual only [aB, e3, hl, wW, pi, h2, decide_false, sZ, Nat.reduceEqDiff, ↓reduceIte]
     exact next fun e => h2 e.1
   ·have e3 : ((k : Int) < i) = False := eq_false (by omega)
    simp +contextual only [e3, sZ, Nat.reduceEqDiff, ↓reduceIte]
    exact ⟨i + 1, ⟨hl, jE hI (by rw [hR]; exact ⟨h1, fun j hj => hK j (by omega)⟩)⟩, by omega, aH (by rw [au i (by omega)]) rfl⟩
  ·rw [decide_eq_false h1]
   simp +contextual only [sZ, Nat.reduceEqDiff, ↓reduceIte, reduceCtorEq]
   exact jJ _ (bad (by rw [hR]; exact fun e => h1 e.1))
 ·have e0 : ((i : Int) < s.ops.length) = False := eq_false (by omega)
  simp +contextual only [aB, e0, sZ, Nat.reduceEqDiff, ↓reduceIte, reduceCtorEq]
  refine fun _ => aZ rfl ?_
  have : qL s := ⟨by omega, by omega, Sx, fun j hj => hI j (by omega)⟩
  simp [this]
end Go.aK
end
section
set_option maxRecDepth 100000
namespace Go.aK
open Go Go.Proofs Go.fE
open Classical in
theorem c82 (s : Sg) (ho : ∀ o ∈ s.ops, K9 o) (hs : ∀ x ∈ s.aX, x.size ≤ 200) (h40 : s.ops.length ≤ 40) (h41 : s.aX.length ≤ 40) : Pure Tryz.prog 82 [s.av] (.int .i64 (if qL s then 0 else 40)) := by
 refine fun H => k82.2.calls rfl ?_
 simp only [k82, aI]
 simp +contextual only [aB, sZ, Nat.reduceEqDiff, Nat.reduceAdd, ↓reduceIte]
 refine ae (aaB s ho hs h40 h41) ?_
 by_cases h : qL s
 ·rw [decide_eq_true h]
  simp +contextual only [sZ, ↓reduceIte, reduceCtorEq]
  exact aZ rfl (by rw [if_pos h])
 ·rw [decide_eq_false h]
  simp +contextual only [sZ, ↓reduceIte, reduceCtorEq]
  exact aZ rfl (by rw [if_neg h])
def XP (ps ss : List Int) (i : Nat) : Prop := 0 ≤ ps.getD i 0 ∧ ps.getD i 0 ≤ 255 ∧ 1 ≤ ss.getD i 0 ∧ ss.getD i 0 ≤ 3 ∧ ∀ k, k < i → ¬ (ps.getD i 0 = ps.getD k 0 ∧ ¬ ss.getD i 0 = ss.getD k 0)
theorem CF (ps ss : List Int) (n : Nat) : ND ps ss n ↔ ∀ i, i < n → XP ps ss i := by
 constructor
 ·intro h i hi
  obtain ⟨a, b, c, d⟩ := h.N6 i hi
  exact ⟨a, b, c, d, fun k hk e => e.2 (h.st i k hi (by omega) e.1)⟩
 ·intro h
  refine ⟨fun j hj => ⟨(h j hj).1, (h j hj).2.1, (h j hj).2.2.1, (h j hj).2.2.2.1⟩, fun j k hj hk e => ?_⟩
  rcases Nat.lt_trichotomy j k with g | g | g
  ·have := (h k hk).2.2.2.2 j g
   by_cases x : ss.getD j 0 = ss.getD k 0
   ·exact x
   ·exact absurd ⟨e.symm, fun y => x y.symm⟩ this
  ·rw [g]
  ·have := (h j hj).2.2.2.2 k g
   by_cases x : ss.getD j 0 = ss.getD k 0
   ·exact x
   ·exact absurd ⟨e, x⟩ this
open Classical in
theorem c83 (s : Sg) (ps ss : List Int) (h40 : s.ops.length ≤ 40) (h3 : ps.length ≤ 80) (h4 : ss.length ≤ 80) : Pure Tryz.prog 83 [s.av, eN ps ss] (.bool (decide (eD s ps ss))) := by
 refine fun H => k83.2.calls rfl ?_
 simp only [k83, aI]
 obtain ⟨q1, q2, q3, q4, q5, q6⟩ := bf ps ss
 by_cases g1 : ps.length = s.ops.length
 rotate_left
 ·have f1 : ((ps.length : Int) = s.ops.length) = False := eq_false (by omega)
  simp +contextual only [aB, q1, vx, aw, f1, sZ, Nat.reduceEqDiff, Nat.reduceAdd, ↓reduceIte, reduceCtorEq]
  exact fun _ _ => jJ _ fun e => g1 e.1
 by_cases g2 : ss.length = s.ops.length
 rotate_left
 ·have f1 : ((ps.length : Int) = s.ops.length) = True := eq_true (by omega)
  have f2 : ((ss.length : Int) = s.ops.length) = False := eq_false (by omega)
  simp +contextual only [aB, q1, vx, wT, aw, f1, f2, decide_false, sZ, Nat.reduceEqDiff, Nat.reduceAdd, ↓reduceIte, reduceCtorEq]
  exact fun _ _ _ => jJ _ fun e => g2 e.2.1
 have f1 : ((ps.length : Int) = s.ops.length) = True := eq_true (by omega)
 have f2 : ((ss.length : Int) = s.ops.length) = True := eq_true (by omega)
 simp +contextual only [aB, q1, vx, wT, aw, f1, f2, sZ, Nat.reduceEqDiff, Nat.reduceAdd, ↓reduceIte, reduceCtorEq]
 refine fun _ _ _ => aG s.ops.length (fun i => ∀ j, j < i → XP ps ss j) (fun i => [(2, .ai s.av), (3, .ai (eN ps ss)), (5, .int .i64 i)]) (fun i => H) ⟨fun j h => by omega, aA _ _ _⟩ fun i hi hI => ?_
 by_cases hl : i < s.ops.length
 ·have e0 : ((i : Int) < s.ops.length) = True := eq_true (by omega)
  have hp : i < ps.length := by omega
  have hq : i < ss.length := by omega
  have bad (h : ¬ XP ps ss i) : ¬ eD s ps ss := fun e => h ((CF _ _ _).1 e.2.2 i hp)
  have hR : XP ps ss i = (0 ≤ ps.getD i 0 ∧ ps.getD i 0 ≤ 255 ∧ 1 ≤ ss.getD i 0 ∧ ss.getD i 0 ≤ 3 ∧ ∀ k, k < i → ¬ (ps.getD i 0 = ps.getD k 0 ∧ ¬ ss.getD i 0 = ss.getD k 0)) := rfl
  by_cases h : 0 ≤ ps.getD i 0 ∧ ps.getD i 0 ≤ 255 ∧ 1 ≤ ss.getD i 0 ∧ ss.getD i 0 ≤ 3
  ·have e1 : (ps.getD i 0 < 0) = False := eq_false (by omega)
   have e2 : (255 < ps.getD i 0) = False := eq_false (by omega)
   have e3 : (ss.getD i 0 < 1) = False := eq_false (by omega)
   have e4 : (3 < ss.getD i 0) = False := eq_false (by omega)
   simp +contextual only [aB, vx, wT, e0, e1, e2, e3, e4, hp, hq, decide_false, sZ, Nat.reduceEqDiff, ↓reduceIte]
   refine fun _ => aG i (fun k => ∀ j, j < k → ¬ (ps.getD i 0 = ps.getD j 0 ∧ ¬ ss.getD i 0 = ss.getD j 0)) (fun k => [(2, .ai s.av), (3, .ai (eN ps ss)), (5, .int .i64 i), (6, .int .i64 k)]) (fun i => H) ⟨fun j h => by omega, aA _ _ _⟩ fun k hk hK => ?_
   by_cases nJ : k < i
   ·have e3 : ((k : Int) < i) = True := eq_true (by omega)
    have Su : k < ps.length := by omega
    have hq2 : k < ss.length := by omega
    have next (h : ¬ (ps.getD i 0 = ps.getD k 0 ∧ ¬ ss.getD i 0 = ss.getD k 0)) : ∃ j, (j ≤ i ∧ ∀ j_1, j_1 < j → ¬ (ps.getD i 0 = ps.getD j_1 0 ∧ ¬ ss.getD i 0 = ss.getD j_1 0)) ∧ i - j < i - k ∧ sle H.length [(2, .ai s.av), (3, .ai (eN ps ss)), (5, .int .i64 i), (6, .int .i64 (IntKind.i64.wrap ((k : Int) + 1)))] H [(2, .ai s.av), (3, .ai (eN ps ss)), (5, .int .i64 i), (6, .int .i64 j)] H :=
     ⟨k + 1, ⟨nJ, jE hK h⟩, by omega, aH (by rw [au k (by omega)]) rfl⟩
    by_cases h2 : ps.getD i 0 = ps.getD k 0
    ·have e5 : (ps.getD i 0 = ps.getD k 0) = True := eq_true h2
     by_cases h3 : ss.getD i 0 = ss.getD k 0
     ·have e6 : (ss.getD i 0 = ss.getD k 0) = True := eq_true h3
      simp +contextual only [vx, wT, e3, hp, hq, Su, hq2, e5, e6, decide_true, decide_false, not_true_eq_false, sZ, Nat.reduceEqDiff, ↓reduceIte]
      exact next fun e => e.2 h3
     ·simp +contextual only [vx, wT, e3, hp, hq, Su, hq2, e5, h3, decide_true, not_false_eq_true, sZ, Nat.reduceEqDiff, ↓reduceIte, reduceCtorEq]
      exact jJ _ (bad (by rw [hR]; exact fun e => e.2.2.2.2 k nJ ⟨h2, h3⟩))
    ·simp +contextual only [vx, e3, hp, Su, h2, decide_true, decide_false, sZ, Nat.reduceEqDiff, ↓reduceIte]
     exact next fun e => h2 e.1
   ·have e3 : ((k : Int) < i) = False := eq_false (by omega)
    simp +contextual only [e3, sZ, Nat.reduceEqDiff, ↓reduceIte]
    exact ⟨i + 1, ⟨hl, jE hI (by rw [hR]; exact ⟨h.1, h.2.1, h.2.2.1, h.2.2.2, fun j hj => hK j (by omega)⟩)⟩, by omega, aH (by rw [au i (by omega)]) rfl⟩
  ·have bad := bad (by rw [hR]; exact fun e => h ⟨e.1, e.2.1, e.2.2.1, e.2.2.2.1⟩)
   have fin := jJ (inferInstance : Decidable (eD s ps ss)) (H := H) (s := 4) bad
   have hz : ((ps.getD i 0 < 0) = True ∧ (True ∧ True) = True ∧ (True ∧ True) = True ∧ (True ∧ True) = True) ∨ ((ps.getD i 0 < 0) = False ∧ (255 < ps.getD i 0) = True ∧ (True ∧ True) = True ∧ (True ∧ True) = True) ∨ ((ps.getD i 0 < 0) = False ∧ (255 < ps.getD i 0) = False ∧ (ss.getD i 0 < 1) = True ∧ (True ∧ True) = True) ∨ ((ps.getD i 0 < 0) = False ∧ (255 < ps.getD i 0) = False ∧ (ss.getD i 0 < 1) = False ∧ (3 < ss.getD i 0) = True) := by
    have y := and_self True
    by_cases a : ps.getD i 0 < 0
    ·exact .inl ⟨eq_true a, y, y, y⟩
    by_cases b : 255 < ps.getD i 0
    ·exact .inr (.inl ⟨eq_false a, eq_true b, y, y⟩)
    by_cases c : ss.getD i 0 < 1
    ·exact .inr (.inr (.inl ⟨eq_false a, eq_false b, eq_true c, y⟩))
    ·exact .inr (.inr (.inr ⟨eq_false a, eq_false b, eq_false c, eq_true (by omega)⟩))
   rcases hz with ⟨e1, e2, e3, e4⟩ | ⟨e1, e2, e3, e4⟩ | ⟨e1, e2, e3, e4⟩ | ⟨e1, e2, e3, e4⟩
   all_goals
    simp +contextual only [aB, vx, wT, e0, e1, e2, e3, e4, hp, hq, decide_false, decide_true, sZ, Nat.reduceEqDiff, ↓reduceIte, reduceCtorEq]
    exact fun _ => fin
 ·have e0 : ((i : Int) < s.ops.length) = False := eq_false (by omega)
  simp +contextual only [aB, e0, sZ, Nat.reduceEqDiff, ↓reduceIte, reduceCtorEq]
  refine fun _ => aZ rfl ?_
  have : eD s ps ss := ⟨g1, g2, (CF _ _ _).2 fun j hj => hI j (by omega)⟩
  simp [this]
open Classical in
theorem c25 (s : Sg) (ps ss : List Int) (hs : XO s ps ss) : Pure Tryz.prog 25 [s.av, eN ps ss] (.int .i64 (if qL s then (if eD s ps ss then 0 else 60) else 40)) := by
 refine fun H => k25.2.calls rfl ?_
 simp only [k25, aI]
 obtain ⟨q1, q2, q3, q4, q5, q6⟩ := bf ps ss
 simp +contextual only [aB, q1, sZ, Nat.reduceEqDiff, Nat.reduceAdd, ↓reduceIte, reduceCtorEq]
 refine ae (c82 s hs.h5 hs.h6 hs.h1 hs.h2) ?_
 by_cases h : qL s
 ·rw [if_pos h]
  simp +contextual only [aB, q4, cA, sZ, Nat.reduceEqDiff, Nat.reduceAdd, ↓reduceIte]
  refine ae (c83 s ps ss hs.h1 hs.h3 hs.h4) ?_
  by_cases h2 : eD s ps ss
  ·rw [decide_eq_true h2]
   simp +contextual only [sZ, ↓reduceIte, reduceCtorEq]
   exact aZ rfl (by rw [if_pos h, if_pos h2])
  ·rw [decide_eq_false h2]
   simp +contextual only [sZ, ↓reduceIte, reduceCtorEq]
   exact aZ rfl (by rw [if_pos h, if_neg h2])
 ·rw [if_neg h]
  simp +contextual only [sZ, Nat.reduceEqDiff, ↓reduceIte, reduceCtorEq, Int.reduceEq]
  exact aZ rfl (by rw [if_neg h])
end Go.aK
end
section
set_option maxRecDepth 100000
namespace Go.aK
open Go Go.Proofs Go.fE
theorem aaD (x : T) : Pure Tryz.prog 115 [x.av] (.int .i64 (if x.tree = true then 0 else 4)) := by
 refine fun H => T2.2.calls rfl ?_
 simp only [T2, aI]
 simp +contextual only [sZ, Nat.reduceEqDiff, Nat.reduceAdd, ↓reduceIte]
 refine ae (VD x) ?_
 cases h : x.tree with
 | true => simp +contextual only [sZ, ↓reduceIte, reduceCtorEq]; exact aZ rfl rfl
 | false => simp +contextual only [sZ, ↓reduceIte, reduceCtorEq]; exact aZ rfl rfl
theorem aaE (s : Sg) : ∀ t : T, t.shaped = true → Pure Tryz.prog 116 [s.av, t.av] (.bool (nw s t)) := by
 suffices h : ∀ N t, wt t ≤ N → t.shaped = true → Pure Tryz.prog 116 [s.av, t.av] (.bool (nw s t)) from fun t ht => h _ t (Nat.le_refl _) ht
 intro N
 induction N with
 | zero => intro t h; have := gr t; omega
 | succ N ih =>
 intro t hN hs H
 have hk := nl hs
 have ih : ∀ x ∈ t.l, Pure Tryz.prog 116 [s.av, x.av] (.bool (nw s x)) := fun x hx => ih x (by have := cK hx; omega) (hk.2 x hx)
 have hn : 0 ≤ t.n := by
  rw [T.fR] at hs
  simp only [Bool.and_eq_true, Bool.not_eq_true', Bool.or_eq_false_iff, decide_eq_false_iff_not] at hs
  have := hs.1.1.1.1
  omega
 obtain ⟨m, hm⟩ := Int.eq_ofNat_of_zero_le hn
 refine T3.2.calls rfl ?_
 simp only [T3, aI]
 have e : nw s t = (!(decide (t.k = 2) && (decide ((s.ops.length : Int) ≤ t.n) || !decide ((t.l.length : Int) = ((s.ops.getD t.n.toNat default).args.length : Nat)))) && !(t.l.any fun x => !nw s x)) := by
  rw [← tN]; cases t; rfl
 have fin : (!(decide (t.k = 2) && (decide ((s.ops.length : Int) ≤ t.n) || !decide ((t.l.length : Int) = ((s.ops.getD t.n.toNat default).args.length : Nat))))) = false → bT H.length [.t 4] [(4, .bool false)] H fun r H' => r = .bool (nw s t) ∧ H' = H := by
  intro h
  rw [e, h]; exact aZ rfl rfl
 by_cases hh : t.k = 2 ∧ (s.ops.length : Int) ≤ t.n
 ·simp +contextual only [aB, hh.1, hh.2, decide_true, sZ, Nat.reduceEqDiff, Nat.reduceAdd, ↓reduceIte, reduceCtorEq]
  exact fin (by simp [hh.1, hh.2])
 have em : t.n.toNat = m := by omega
 by_cases Tj : t.k = 2 ∧ ¬ (t.l.length : Int) = ((s.ops.getD m default).args.length : Nat)
 ·have XI : m < s.ops.length := by omega
  have S0 : ¬ (s.ops.length : Int) ≤ (m : Int) := by omega
  simp +contextual only [aB, Tj.1, S0, Tj.2, hm, XI, aw, decide_true, decide_false, sZ, Nat.reduceEqDiff, Nat.reduceAdd, ↓reduceIte, reduceCtorEq]
  exact fin (by rw [em, decide_eq_true Tj.1, decide_eq_false Tj.2, decide_eq_false (by omega : ¬ (s.ops.length : Int) ≤ t.n)]; rfl)
 have hd : (!(decide (t.k = 2) && (decide ((s.ops.length : Int) ≤ t.n) || !decide ((t.l.length : Int) = ((s.ops.getD t.n.toNat default).args.length : Nat))))) = true := by
  rw [em]
  by_cases a : t.k = 2
  ·rw [decide_eq_false (fun b => hh ⟨a, b⟩), decide_eq_true (Classical.byContradiction fun b => Tj ⟨a, b⟩)]; simp
  ·rw [decide_eq_false a]; rfl
 rw [hd] at e
 have hz : ((t.k = 2) = False ∧ (True ∧ True) = True ∧ (True ∧ True) = True ∧ (True ∧ True) = True) ∨ ((t.k = 2) = True ∧ (m < s.ops.length) = True ∧ ((s.ops.length : Int) ≤ (m : Int)) = False ∧ ((t.l.length : Int) = ((s.ops.getD m default).args.length : Nat)) = True) := by
  have y := and_self True
  by_cases a : t.k = 2
  ·exact .inr ⟨eq_true a, eq_true (by omega), eq_false (by omega), eq_true (Classical.byContradiction fun b => Tj ⟨a, b⟩)⟩
  ·exact .inl ⟨eq_false a, y, y, y⟩
 rcases hz with ⟨e1, e2, e3, e4⟩ | ⟨e1, e2, e3, e4⟩
 all_goals
  simp +contextual only [aB, e1, e2, e3, e4, hm, aw, decide_true, decide_false, sZ, Nat.reduceEqDiff, Nat.reduceAdd, ↓reduceIte, reduceCtorEq]
  refine aG t.l.length (fun i => ∀ j, j < i → nw s (t.l.getD j default) = true) (fun i => [(2, .ai s.av), (3, .ai t.av), (5, .int .i64 i)]) (fun i => H) ⟨fun j h => by omega, aA _ _ _⟩ fun i hi hI => ?_
  by_cases hl : i < t.l.length
  ·have e5 : ((i : Int) < t.l.length) = True := eq_true (by omega)
   simp +contextual only [aB, e5, hl, sZ, Nat.reduceEqDiff, ↓reduceIte]
   refine fun _ => aF (ih _ (NW hl)) ?_
   cases hb : nw s (t.l.getD i default) with
   | false =>
     simp +contextual only [sZ, Nat.reduceEqDiff, ↓reduceIte, reduceCtorEq]
     refine aZ rfl ?_
     have : (t.l.any fun x => !nw s x) = true := List.any_eq_true.2 ⟨_, NW hl, by rw [hb]; rfl⟩
     rw [e, this]; rfl
   | true =>
     simp +contextual only [sZ, Nat.reduceEqDiff, ↓reduceIte]
     exact ⟨i + 1, ⟨hl, jE hI hb⟩, by omega, aH (by rw [au i (by omega)]) rfl⟩
  ·have e5 : ((i : Int) < t.l.length) = False := eq_false (by omega)
   simp +contextual only [e5, sZ, Nat.reduceEqDiff, ↓reduceIte, reduceCtorEq]
   refine fun _ => aZ rfl ?_
   have : (t.l.any fun x => !nw s x) = false := by
    rw [List.any_eq_false]
    exact vS fun j hj => by rw [hI j (by omega)]; simp
   rw [e, this]; rfl
theorem c55 (s : Sg) (t : T) : Pure Tryz.prog 55 [s.av, t.av] (.bool (t.tree && nw s t)) := by
 refine fun H => k55.2.calls rfl ?_
 simp only [k55, aI]
 simp +contextual only [aB, sZ, Nat.reduceEqDiff, Nat.reduceAdd, ↓reduceIte, reduceCtorEq]
 refine ae (aaD t) ?_
 cases h : t.tree with
 | false =>
   simp +contextual only [Bool.false_eq_true, sZ, Nat.reduceEqDiff, ↓reduceIte, reduceCtorEq, Int.reduceEq]
   exact aZ rfl rfl
 | true =>
   simp +contextual only [aB, sZ, Nat.reduceEqDiff, Nat.reduceAdd, ↓reduceIte]
   refine ae (aaE s t ((T.kI t).1 h).2.2) ?_
   simp +contextual only [sZ, Nat.reduceEqDiff, ↓reduceIte, reduceCtorEq]
   exact aZ rfl rfl
theorem aaF (s : Sg) (t : T) : Pure Tryz.prog 107 ([t.av] ++ [.ai s.av]) (.bool (!(t.tree && nw s t))) := by
 refine fun H => TY.2.calls rfl ?_
 simp only [TY, aI]
 simp +contextual only [aB, sZ, Nat.reduceEqDiff, Nat.reduceAdd, ↓reduceIte, reduceCtorEq]
 refine ae (c55 s t) ?_
 simp +contextual only [sZ, ↓reduceIte, reduceCtorEq]
 exact aZ rfl rfl
open Classical in
theorem c42 (s : Sg) (ps ss : List Int) (n : Int) (l : List T) (H : List aa) : aq Tryz.prog 42 [s.av, eN ps ss, .int .i64 n, .ap 0 (cJ l)] H fun r H' => (∃ b, r = .bool b ∧ (b = true → qL s ∧ eD s ps ss ∧ ∀ t ∈ l, (t.tree && nw s t) = true)) ∧ H' = H := by
 refine k42.2.calls rfl ?_
 simp only [k42, aI]
 obtain ⟨q1, q2, q3, q4, q5, q6⟩ := bf ps ss
 have fin : ∀ (b : Bool), (b = true → qL s ∧ eD s ps ss ∧ ∀ t ∈ l, (t.tree && nw s t) = true) → bT H.length [.t 8] [(8, .bool b)] H fun r H' => (∃ b, r = .bool b ∧ (b = true → qL s ∧ eD s ps ss ∧ ∀ t ∈ l, (t.tree && nw s t) = true)) ∧ H' = H := fun b hb =>
  aV H.length (Nat.le_refl _) (by rw [ax, if_pos rfl]; rfl) ⟨⟨b, by rw [ax, if_pos rfl], hb⟩, List.take_length⟩
 have finf := fin false (fun h => by cases h)
 simp +contextual only [aB, q1, q4, cA, sZ, Nat.reduceEqDiff, Nat.reduceAdd, ↓reduceIte, reduceCtorEq]
 refine af (c18 s ps ss _) ?_
 rintro r G ⟨⟨b, rfl, hb⟩, rfl⟩
 cases b with
 | false => simp +contextual only [sZ, Nat.reduceEqDiff, ↓reduceIte, reduceCtorEq]; exact finf
 | true =>
 have hb := hb rfl
 simp +contextual only [sZ, Nat.reduceEqDiff, Nat.reduceAdd, ↓reduceIte]
 refine af (c19 n l _) ?_
 rintro r G ⟨⟨b, rfl⟩, rfl⟩
 cases b with
 | false => simp +contextual only [sZ, Nat.reduceEqDiff, ↓reduceIte, reduceCtorEq]; exact finf
 | true =>
 simp +contextual only [aB, q4, cA, sZ, Nat.reduceEqDiff, Nat.reduceAdd, ↓reduceIte]
 refine ae (c25 s ps ss hb) ?_
 by_cases h1 : qL s
 rotate_left
 ·rw [if_neg h1]; simp +contextual only [sZ, Nat.reduceEqDiff, ↓reduceIte, reduceCtorEq, Int.reduceEq]; exact finf
 by_cases h2 : eD s ps ss
 rotate_left
 ·rw [if_pos h1, if_neg h2]; simp +contextual only [sZ, Nat.reduceEqDiff, ↓reduceIte, reduceCtorEq, Int.reduceEq]; exact finf
 rw [if_pos h1, if_pos h2]
 simp +contextual only [sZ, Nat.reduceEqDiff, Nat.reduceAdd, ↓reduceIte]
 refine ae (Si 107 [.ai s.av] rfl _ l fun x _ => aaF s x) ?_
 simp +contextual only [sZ, Nat.reduceEqDiff, ↓reduceIte, reduceCtorEq]
 refine fin _ fun h => ⟨h1, h2, fun t ht => ?_⟩
 cases hc : t.tree && nw s t with
 | true => rfl
 | false =>
   have : (l.any fun x => !(x.tree && nw s x)) = true := List.any_eq_true.2 ⟨t, ht, by rw [hc]; rfl⟩
   rw [this] at h; cases h
end Go.aK
end
section
set_option maxRecDepth 100000
namespace Go.aK
open Go Go.Proofs Go.fE
theorem vU (f : Int → UInt8 → Int) (s : ByteArray) (stop : Nat) (h : stop ≤ s.size) : ∀ (i j : Nat) (b : Int), j + i = s.size → stop = s.size → (ByteArray.foldlM.loop (m := _root_.Id) (fun x y => pure (f x y)) s stop h i j b) = (s.data.toList.drop j).foldl f b
 | 0, j, b, e, e2 => by
   have : s.data.toList.drop j = [] := List.drop_of_length_le (by show s.size ≤ j; omega)
   rw [this]; unfold ByteArray.foldlM.loop
   rw [dif_neg (by omega)]; rfl
 | i + 1, j, b, e, e2 => by
   have hj : j < s.data.toList.length := by show j < s.size; omega
   unfold ByteArray.foldlM.loop
   rw [dif_pos (by omega), List.drop_eq_getElem_cons hj, List.foldl_cons]
   exact vU f s stop h i (j + 1) _ (by omega) e2
theorem NX (s : ByteArray) : mw s 95 = (At s : Int) := by
 have h1 : mw s 95 = s.data.toList.foldl (fun (n : Int) x => if x == (95 : Int).toNat.toUInt8 then n + 1 else n) ((0 : Nat) : Int) := by
  unfold mw ByteArray.foldl ByteArray.foldlM
  rw [dif_pos (Nat.le_refl _)]
  exact vU _ s _ _ s.size 0 _ (by omega) rfl
 have h2 : ∀ (l : List UInt8) (n : Nat), l.foldl (fun (n : Int) x => if x == (95 : Int).toNat.toUInt8 then n + 1 else n) (n : Int) = ((n + l.countP (· == (95 : UInt8)) : Nat) : Int) := by
  intro l
  induction l with
  | nil => intro n; simp
  | cons x r ih =>
    intro n
    rw [List.foldl_cons, List.countP_cons]
    by_cases hx : x = 95
    ·subst hx
     have := ih (n + 1)
     exact (this.trans (by simp; omega))
    ·have h95 : (x == (95 : Int).toNat.toUInt8) = false := by
      rw [beq_eq_false_iff_ne]; exact hx
     have h96 : (x == (95 : UInt8)) = false := by
      rw [beq_eq_false_iff_ne]; exact hx
     rw [h95, h96]
     exact (ih n).trans (by simp)
 rw [h1, h2]; simp [At]
theorem NY {c : UInt8} (h : SK c) : zZ c = false := by
 unfold SK at h
 have e : (((c.toNat : Nat) : Int).toNat.toUInt8) = c := by simp
 unfold zZ
 rw [e, firstIdx_nonneg]
 simp only [Bool.or_eq_false_iff, decide_eq_false_iff_not, List.any_eq_false]
 refine ⟨⟨by omega, by omega⟩, fun x hx XZ => ?_⟩
 rw [beq_iff_eq] at XZ
 subst XZ
 have hx : x = 40 ∨ x = 41 ∨ x = 44 := by simpa using hx
 rcases hx with rfl | rfl | rfl <;> exact h (by decide)
theorem FH {s : ByteArray} (h : nD s) : oK s = true := by
 obtain ⟨h1, h2, h3⟩ := h
 unfold oK
 simp only [Bool.and_eq_true, Bool.not_eq_true', decide_eq_false_iff_not, List.all_eq_true]
 refine ⟨⟨by omega, by omega⟩, fun c hc => ?_⟩
 obtain ⟨i, hi, rfl⟩ := List.getElem_of_mem hc
 have := NY (h1 i hi)
 rw [List.getD_eq_getElem?_getD, List.getElem?_eq_getElem hi] at this
 exact this
theorem SL {s : ByteArray} (h : At s = 0) : ¬ 0 ≤ NC s := by
 have hm : ∀ b ∈ s.data.toList, b ≠ 95 := fun b hb e => by
  have := List.countP_eq_zero.1 h b hb
  rw [e] at this; exact this rfl
 unfold NC
 split
 ·rename_i e
  exact absurd rfl (hm 95 (by rw [e]; simp [us]))
 ·rw [firstIdx_none s 95 hm]; omega
theorem CG {s : Sg} (h : ∀ i, i < s.aX.length → Th s i) : ∀ n i, i + n = s.aX.length → lV (s.aX.drop i) (s.aX.take i) = true
 | 0, i, e => by rw [List.drop_of_length_le (by omega)]; rfl
 | n + 1, i, e => by
   have hl : i < s.aX.length := by omega
   obtain ⟨h1, h2, h3⟩ := h i hl
   have hni : s.aX.getD i default ∉ s.aX.take i := fun hm => by
    obtain ⟨k, hk, e⟩ := List.getElem_of_mem hm
    rw [List.length_take] at hk
    refine h3 k (by omega) ?_
    rw [List.getElem_take] at e
    rw [← e, List.getD_eq_getElem?_getD, List.getElem?_eq_getElem (by omega)]; try rfl
   rw [sQ hl, if_pos ⟨FH h1, SL h2, hni⟩]
   have : s.aX.take i ++ [s.aX.getD i default] = s.aX.take (i + 1) := by
    rw [List.take_add_one, List.getD_eq_getElem?_getD, List.getElem?_eq_getElem hl]; rfl
   rw [this]
   exact CG h n (i + 1) (by omega)
theorem KG {s : Sg} {l : List Int} (h : ku s l) : ∀ a ∈ l, Hi s.aX.length a = true := fun a ha => by
 obtain ⟨h1, h2⟩ := h a ha
 simp [Hi, h1, h2]
theorem Xc {s : Sg} {o : gB} (h : Lb s o) : qC o s.aX.length = true := by
 obtain ⟨h1, h2, h3, h4, h5, h6⟩ := h
 have hb : At o.name ≤ o.name.size := List.countP_le_length (p := (· == (95 : UInt8))) (l := o.name.data.toList)
 unfold qC
 rw [NX]
 simp only [Bool.and_eq_true, Bool.or_eq_true, decide_eq_true_eq, Bool.not_eq_true', List.any_eq_false]
 refine ⟨FH h1, by omega, by omega, by omega, KG h6 _ (by simp), fun x hx => ?_⟩
 rw [KG h5 x hx]; simp
theorem NZ {a b : Int} (ha : 0 ≤ a ∧ a < 64) (hb : 0 ≤ b ∧ b < 64) (h : Hj a = Hj b) : a = b := by
 have k : ∀ a : Int, 0 ≤ a ∧ a < 64 → (Hj a).toNat = a.toNat := by
  intro a ha
  unfold Hj
  have : IntKind.u8.wrap a = a := by
   simp only [IntKind.wrap]
   have h1 : IntKind.u8.bits = 8 := rfl
   have h2 : IntKind.u8.signed = false := rfl
   rw [h1, h2]
   simp
   omega
  rw [this, UInt8.toNat_ofNat']
  omega
 have := congrArg UInt8.toNat h
 rw [k a ha, k b hb] at this
 omega
theorem sT : ∀ {l m : List Int}, (∀ a ∈ l, 0 ≤ a ∧ a < 64) → (∀ a ∈ m, 0 ≤ a ∧ a < 64) → l.map Hj = m.map Hj → l = m
 | [], [], _, _, _ => rfl
 | [], b :: m, _, _, h => by cases h
 | a :: l, [], _, _, h => by cases h
 | a :: l, b :: m, ha, hb, h => by
   simp only [List.map_cons, List.cons.injEq] at h
   rw [NZ (ha a (by simp)) (hb b (by simp)) h.1, sT (fun x hx => ha x (by simp [hx])) (fun x hx => hb x (by simp [hx])) h.2]
theorem FI : ∀ {l m r t : List UInt8}, (∀ x ∈ l, x ≠ 40) → (∀ x ∈ m, x ≠ 40) → l ++ 40 :: r = m ++ 40 :: t → l = m ∧ r = t
 | [], [], _, _, _, _, h => by simpa using h
 | [], b :: m, _, _, _, hb, h => by
   simp only [List.nil_append, List.cons_append, List.cons.injEq] at h
   exact absurd h.1.symm (hb b (by simp))
 | a :: l, [], _, _, ha, _, h => by
   simp only [List.nil_append, List.cons_append, List.cons.injEq] at h
   exact absurd h.1 (ha a (by simp))
 | a :: l, b :: m, _, _, ha, hb, h => by
   simp only [List.cons_append, List.cons.injEq] at h
   obtain ⟨h1, h2⟩ := FI (fun x hx => ha x (by simp [hx])) (fun x hx => hb x (by simp [hx])) h.2
   exact ⟨by rw [h.1, h1], h2⟩
theorem Xd {s : ByteArray} (h : nD s) : ∀ x ∈ s.data.toList, x ≠ 40 := fun x hx e => by
 obtain ⟨i, hi, rfl⟩ := List.getElem_of_mem hx
 have := h.1 i hi
 rw [List.getD_eq_getElem?_getD, List.getElem?_eq_getElem hi, Option.getD_some, e] at this
 exact this (by decide)
theorem key_inj {s : Sg} {o q : gB} (h64 : s.aX.length ≤ 64) (ho : Lb s o) (hq : Lb s q) (h : mA o = mA q) : Ti o q := by
 have h : Hk o = Hk q := by
  have := congrArg (fun b : ByteArray => b.data.toList) h
  simpa [mA] using this
 have f : ∀ o : gB, Hk o = o.name.data.toList ++ 40 :: (o.args ++ [o.Ar]).map Hj := fun o => by
  unfold Hk; simp [ByteArray.data_append]
 rw [f, f] at h
 obtain ⟨h1, h2⟩ := FI (Xd ho.1) (Xd hq.1) h
 have g : ∀ o : gB, Lb s o → ∀ a ∈ o.args ++ [o.Ar], 0 ≤ a ∧ a < 64 := fun o ho a ha => by
  rcases List.mem_append.1 ha with ha | ha
  ·have := ho.2.2.2.2.1 a ha; omega
  ·have := ho.2.2.2.2.2 a ha; omega
 have h3 := sT (g o ho) (g q hq) h2
 have h4 := List.append_inj' h3 rfl
 refine ⟨?_, by simpa using h4.2, h4.1⟩
 have := Array.toList_inj.1 h1
 cases PU : o.name; cases hq' : q.name
 rw [PU, hq'] at this
 simpa using this
theorem KH {s : Sg} (h64 : s.aX.length ≤ 64) (h : ∀ i, i < s.ops.length → Xb s i) : ∀ n i, i + n = s.ops.length → z3 s.aX.length (s.ops.drop i) ((s.ops.take i).map mA) = true
 | 0, i, e => by rw [List.drop_of_length_le (by omega)]; rfl
 | n + 1, i, e => by
   have hl : i < s.ops.length := by omega
   obtain ⟨h1, h3⟩ := h i hl
   have hni : mA (s.ops.getD i default) ∉ (s.ops.take i).map mA := fun hm => by
    obtain ⟨q, hq, e⟩ := List.mem_map.1 hm
    obtain ⟨k, hk, e2⟩ := List.getElem_of_mem hq
    rw [List.length_take] at hk
    rw [List.getElem_take] at e2
    have eq : s.ops.getD k default = q := by
     rw [← e2, List.getD_eq_getElem?_getD, List.getElem?_eq_getElem (by omega)]; try rfl
    have Pt := h k (by omega)
    refine h3 k (by omega) ?_
    rw [eq]
    exact key_inj h64 (eq ▸ Pt.1) h1 e
   rw [yb hl, if_pos ⟨Xc h1, hni⟩]
   have : (s.ops.take i).map mA ++ [mA (s.ops.getD i default)] = (s.ops.take (i + 1)).map mA := by
    rw [List.take_add_one, List.map_append, List.getD_eq_getElem?_getD, List.getElem?_eq_getElem hl]; rfl
   rw [this]
   exact KH h64 h n (i + 1) (by omega)
theorem SM {s : Sg} (h : qL s) : nv s = true := by
 obtain ⟨h1, h2, h3, h4⟩ := h
 unfold nv
 simp only [Bool.and_eq_true, decide_eq_true_eq]
 exact ⟨⟨⟨by omega, by omega⟩, CG h3 s.aX.length 0 (by omega)⟩, KH h1 h4 s.ops.length 0 (by omega)⟩
theorem SN {s : Sg} {ps ss : List Int} (h1 : qL s) (h2 : eD s ps ss) {l : List T} (h : ∀ t ∈ l, (t.tree && nw s t) = true) : fo s ps ss l = 0 := by
 have : iO s ps ss = 0 := by unfold iO; rw [if_pos (SM h1), if_pos h2]
 unfold fo
 rw [if_pos this, if_pos (List.all_eq_true.2 h)]
end Go.aK
end
section
set_option maxRecDepth 100000
namespace Go.aK
open Go Go.Proofs Go.fE
theorem KI (ps ss : List Int) (a : T) : Hn ps ss a a = true := jU.2 rfl
theorem KJ (ps ss : List Int) (a b : T) : Hn ps ss b a = Hn ps ss a b := Bool.eq_iff_iff.2 (by rw [jU, jU]; exact ⟨fun h => h.symm, fun h => h.symm⟩)
theorem c45 {s : Sg} {ps ss : List Int} {a b : T} (h : fo s ps ss [a, b] = 0) : Pure Tryz.prog 45 [s.av, eN ps ss, a.av, b.av] (.tuple [.bool (yc ps ss a b), .bool true]) := by
 refine fun H => k45.2.calls rfl ?_
 simp only [k45, aI]
 obtain ⟨q1, q2, q3, q4, q5, q6⟩ := bf ps ss
 have e := Zy s ps ss a b
 rw [if_pos h, h] at e
 simp +contextual only [aB, q1, q4, cA, sZ, Nat.reduceEqDiff, Nat.reduceAdd, ↓reduceIte, reduceCtorEq]
 refine ae e ?_
 simp +contextual only [decide_true, sZ, Nat.reduceEqDiff, Nat.reduceAdd, Nat.reduceLT, ↓reduceIte, reduceCtorEq]
 exact BM (by decide) rfl rfl rfl rfl
theorem Xe {s : Sg} {ps ss : List Int} {a b : T} (h : fo s ps ss [a, b] = 0) : Pure Tryz.prog 43 [a.av, b.av, .ai s.av, .ai (eN ps ss)] (.bool (Hn ps ss a b)) := by
 refine fun H => k43.2.calls rfl ?_
 simp only [k43, aI]
 obtain ⟨q1, q2, q3, q4, q5, q6⟩ := bf ps ss
 have e := Zz s ps ss a b
 rw [if_pos h, h] at e
 simp +contextual only [aB, q4, cA, sZ, Nat.reduceEqDiff, Nat.reduceAdd, ↓reduceIte, reduceCtorEq]
 refine ae e ?_
 simp +contextual only [decide_true, sZ, Nat.reduceEqDiff, Nat.reduceAdd, Nat.reduceLT, ↓reduceIte, reduceCtorEq]
 exact aZ rfl rfl
theorem Xf {s : Sg} {ps ss : List Int} {a b : T} (h : fo s ps ss [a, b] = 0) : Pure Tryz.prog 44 [a.av, b.av, .ai s.av, .ai (eN ps ss)] (.bool (yc ps ss a b)) := by
 refine fun H => k44.2.calls rfl ?_
 simp only [k44, aI]
 obtain ⟨q1, q2, q3, q4, q5, q6⟩ := bf ps ss
 simp +contextual only [aB, q4, cA, sZ, Nat.reduceEqDiff, Nat.reduceAdd, ↓reduceIte, reduceCtorEq]
 refine ae (c45 h) ?_
 simp +contextual only [sZ, Nat.reduceEqDiff, Nat.reduceAdd, Nat.reduceLT, ↓reduceIte, reduceCtorEq]
 exact aZ rfl rfl
end Go.aK
end
section
set_option maxRecDepth 100000
set_option maxHeartbeats 0
namespace Go.aK
open Go Go.Proofs
noncomputable def k8 := aI Tryz.call8 Tryz.func8 Tryz.ntmps8 [(0,0,1),(0,1,1),(0,2,1),(0,3,1),(0,4,1),(7,3,2000),(7,9,2000),(7,13,2000),(7,20,2000),(7,25,2000),(7,31,2000),(9,3,2000),(9,9,2000),(9,15,2000),(9,19,2000),(9,26,2000),(9,30,2000)] [(0,[5,6,7,8,9]),(1,[5,6,7,8,9,14]),(2,[10]),(3,[5,6,7,8,9,22]),(4,[10]),(5,[5,6,7,8,9,11]),(6,[7,8,9,11,12]),(7,[7,8,9,11,12,59]),(8,[10]),(9,[10])] [(7,(.take 0 true (.take 1 true (.take 2 true (.br 3 (.take 4 true (.take 5 true (.take 6 true (.take 7 true (.take 8 true (.take 10 false (.take 11 false (.take 12 false (.br 9 (.br 13 (.take 14 true (.take 15 true (.take 16 true (.take 17 true (.take 18 true (.take 19 true (.br 20 (.take 21 true (.take 22 true (.take 23 true (.take 24 true (.br 25 (.take 26 true (.take 27 true (.take 28 true (.take 29 true (.take 30 true (.br 31 (.take 32 true (.take 33 true (.take 34 true .done))) .nil)))))) .nil))))) .nil))))))) .nil) .nil))))))))) .nil))))),(9,(.take 0 true (.take 1 true (.take 2 true (.br 3 (.take 4 true (.take 5 true (.take 6 true (.take 7 true (.take 8 true (.br 9 (.take 10 true (.take 11 true (.take 12 true (.take 13 true (.take 14 true (.take 16 false (.take 17 false (.take 18 false (.br 15 (.br 19 (.take 20 true (.take 21 true (.take 22 true (.take 23 true (.take 24 true (.take 25 true (.take 27 false (.take 28 false (.take 29 false (.br 26 (.br 30 (.take 31 true (.take 32 true (.take 33 true (.take 34 true .done)))) .nil) .nil)))))))))) .nil) .nil))))))))) .nil)))))) .nil)))))]
end Go.aK
end
section
set_option maxRecDepth 100000
set_option maxHeartbeats 1000000
namespace Go.aK
open Go Go.Proofs Go.fE
theorem c8 (s : Sg) (ps ss : List Int) (a b c : T) : Pure Tryz.prog 8 [s.av, eN ps ss, a.av, b.av, c.av] (.bool true) := by
 refine fun H => k8.2.calls rfl ?_
 simp only [k8, aI]
 obtain ⟨q1, q2, q3, q4, q5, q6⟩ := bf ps ss
 simp +contextual only [aB, q1, sZ, Nat.reduceEqDiff, Nat.reduceAdd, ↓reduceIte, reduceCtorEq]
 refine ae c17 ?_
 simp +contextual only [aB, q4, cA, sZ, Nat.reduceEqDiff, Nat.reduceAdd, ↓reduceIte]
 have fin : ∀ (G : List aa), G.take H.length = H → bT H.length [.t 10] [(10, .bool true)] G fun r H' => r = .bool true ∧ H' = H := fun G hG =>
  aV H.length (Nat.le_refl _) (by rw [ax, if_pos rfl]; rfl) ⟨by rw [ax, if_pos rfl], hG⟩
 refine af (c42 s ps ss 60 [a, b, c] H) ?_
 rintro r G ⟨⟨b1, rfl, hb⟩, rfl⟩
 cases b1 with
 | false => simp +contextual only [sZ, Nat.reduceEqDiff, ↓reduceIte, reduceCtorEq]; exact fin _ (by simp)
 | true =>
 obtain ⟨h1, h2, h3⟩ := hb rfl
 have ask (x y : T) (hx : x ∈ [a, b, c]) (hy : y ∈ [a, b, c]) : fo s ps ss [x, y] = 0 := SN h1 h2 fun t ht => by
  rcases List.mem_cons.1 ht with rfl | ht
  ·exact h3 _ hx
  ·rw [List.mem_singleton.1 ht]; exact h3 _ hy
 have ma : a ∈ [a, b, c] := by simp
 have mb : b ∈ [a, b, c] := by simp
 have mc : c ∈ [a, b, c] := by simp
 have eaa := Xe (ask a a ma ma)
 have eab := Xe (ask a b ma mb)
 have eba := Xe (ask b a mb ma)
 have ebc := Xe (ask b c mb mc)
 have eac := Xe (ask a c ma mc)
 have gab := Xf (ask a b ma mb)
 have gac := Xf (ask a c ma mc)
 have gbc := Xf (ask b c mb mc)
 have gca := Xf (ask c a mc ma)
 have gcb := Xf (ask c b mc mb)
 rw [KI] at eaa
 rw [KJ ps ss a b] at eba
 simp +contextual only [sZ, Nat.reduceEqDiff, Nat.reduceAdd, ↓reduceIte, reduceCtorEq]
 refine ae eaa ?_
 simp +contextual only [sZ, Nat.reduceEqDiff, Nat.reduceAdd, ↓reduceIte, reduceCtorEq]
 refine ae eab ?_
 simp +contextual only [sZ, Nat.reduceEqDiff, Nat.reduceAdd, ↓reduceIte, reduceCtorEq]
 refine ae eba ?_
 have nn : ∀ (x : Bool) (φ : AV → Prop), cn true (.bool x) (.bool x) φ = φ (.bool false) := fun x φ => by simp [cn]
 simp +contextual only [sZ, Nat.reduceEqDiff, Nat.reduceAdd, ↓reduceIte, reduceCtorEq]
 refine ae eab ?_
 cases wO : Hn ps ss a b with
 | false =>
   rw [wO] at eab
   simp +contextual only [sZ, Nat.reduceEqDiff, Nat.reduceAdd, ↓reduceIte, reduceCtorEq]
   refine ae eab ?_
   simp +contextual only [sZ, Nat.reduceEqDiff, ↓reduceIte, reduceCtorEq]
   exact fin _ (by simp)
 | true =>
   rw [wO] at eab
   have hE := jU.1 wO
   have xab : yc ps ss a b = false := Bool.eq_false_iff.2 fun h => OZ hE (iX.1 h)
   have xbc : yc ps ss b c = yc ps ss a c := Bool.eq_iff_iff.2 (by rw [iX, iX]; exact (RW hE).symm)
   have xcb : yc ps ss c b = yc ps ss c a := Bool.eq_iff_iff.2 (by rw [iX, iX]; exact (Nv hE).symm)
   have xac : Hn ps ss b c = Hn ps ss a c := Bool.eq_iff_iff.2 (by rw [jU, jU]; exact ⟨fun h => hE.trans h, fun h => hE.symm.trans h⟩)
   rw [xab] at gab
   rw [xbc] at gbc
   rw [xcb] at gcb
   rw [xac] at ebc
   simp +contextual only [sZ, Nat.reduceEqDiff, Nat.reduceAdd, ↓reduceIte, reduceCtorEq]
   refine ae ebc ?_
   have last : True := trivial
   cases hac : Hn ps ss a c
   all_goals
    rw [hac] at eac
    simp +contextual only [sZ, Nat.reduceEqDiff, Nat.reduceAdd, ↓reduceIte, reduceCtorEq]
    try (refine ae eac ?_; simp +contextual only [sZ, Nat.reduceEqDiff, Nat.reduceAdd, ↓reduceIte, reduceCtorEq])
    refine ae eab ?_
    simp +contextual only [sZ, Nat.reduceEqDiff, Nat.reduceAdd, ↓reduceIte, reduceCtorEq]
    refine ae gab ?_
    simp +contextual only [sZ, Nat.reduceEqDiff, Nat.reduceAdd, ↓reduceIte, reduceCtorEq]
    refine ae gac ?_
    simp +contextual only [sZ, Nat.reduceEqDiff, Nat.reduceAdd, ↓reduceIte, reduceCtorEq]
    refine ae gbc ?_
    simp +contextual only [sZ, Nat.reduceEqDiff, Nat.reduceAdd, ↓reduceIte, reduceCtorEq]
    refine ae gca ?_
    simp +contextual only [sZ, Nat.reduceEqDiff, Nat.reduceAdd, ↓reduceIte, reduceCtorEq]
    refine ae gcb ?_
    simp +contextual only [sZ, Nat.reduceEqDiff, ↓reduceIte, reduceCtorEq]
    exact fin _ (by simp)
end Go.aK
end
section
set_option maxRecDepth 100000
namespace Go.aK
open Go Go.RowKit Go.fE
section
variable {H : Type} {enc : TypeId × Value → H} {P : Program} {w : World} {base : Nat} {sp : Nat → Bool} {held : Bool}
def Rd {H : Type} (enc : TypeId × Value → H) (P : Program) (w : World) (base : Nat) (sp : Nat → Bool) (held : Bool) {α : Type} (t : TypeId) (g : α → AV) (R : DataW H → α → Prop) : Prop :=
 ∀ (fuel : Nat) (cs : List Value) (x : DataW H × List MemPlace), DataW.trod enc P w base sp held fuel t cs = some x → ∃ a, aJ (fB w) [] cs (g a).cells ∧ R x.1 a
theorem KK {ti : TypeId} (h : P.underlying ti = some (.int .i64)) : Rd enc P w base sp held ti (fun n : Int => .int .i64 n) (fun _ _ => True) := by
 intro fuel cs x hx
 obtain ⟨k, rfl, _, _⟩ := DataW.trod_int h hx
 exact ⟨k, .cons _ _ _ _ (.int _ _) .nil, trivial⟩
theorem KL {ti : TypeId} (h : P.underlying ti = some .string) : Rd enc P w base sp held ti (fun s : ByteArray => .str s) (fun _ _ => True) := by
 intro fuel cs x hx
 obtain ⟨k, rfl, _, _⟩ := DataW.trod_string h hx
 exact ⟨k, .cons _ _ _ _ (.str _) .nil, trivial⟩
def CH {α : Type} (d : DataW H) (l : List α) : Prop := match d with | .slice es _ => l.length = es.length | _ => l = []
theorem vV {α : Type} [Inhabited α] {te tl : TypeId} {g : α → AV} {R : DataW H → α → Prop} {e : Nat} (hl : P.underlying tl = some (.slice te)) (hc : P.cellsOf te = e) (he : 0 < e) (h : Rd enc P w base sp held te g R) :
 Rd enc P w base sp held tl (fun l : List α => .ap 0 (l.map g)) CH := by
 intro fuel cs x hx
 rcases DataW.trod_slice hl hx with ⟨rfl, rfl⟩ | ⟨a, len, cap, elems, rest, m, hm, rfl, rfl, hb, hle, cE, SX, jf, _, _⟩
 ·exact ⟨[], .cons _ _ _ _ aQ.ah.drop .nil, rfl⟩
 ·rw [hc] at jf
  have hex : ∀ i, i < len → ∃ t : α, ∃ cs', w.cells? base (a.add (i * e)) e = some cs' ∧ aJ (fB w) [] cs' (g t).cells := by
   intro i hi
   have := jf i hi
   rw [List.getElem?_eq_getElem (by omega)] at this
   obtain ⟨cs', k1, k2⟩ := Option.bind_eq_some_iff.1 this
   obtain ⟨t, ht, _⟩ := h _ _ _ k2
   exact ⟨t, cs', k1, ht⟩
  have hf : ∃ f : Nat → α, ∀ i, i < len → ∃ cs', w.cells? base (a.add (i * e)) e = some cs' ∧ aJ (fB w) [] cs' (g (f i)).cells := by
   refine ⟨fun i => if hi : i < len then Classical.choose (hex i hi) else default, fun i hi => ?_⟩
   simp only [dif_pos hi]
   exact Classical.choose_spec (hex i hi)
  obtain ⟨f, hf⟩ := hf
  refine ⟨(List.range len).map f, .cons _ _ _ _ ?_ .nil, by simp [CH, SX]⟩
  show aQ (fB w) [] _ (.ap 0 (((List.range len).map f).map g))
  rw [List.map_map]
  refine xI (e := e) (base := base) he hle cE (fun i => if hi : i < len then Classical.choose (hf i hi) else []) _ fun i hi => ?_
  simp only [dif_pos hi]
  exact Classical.choose_spec (hf i hi)
structure qM (P : Program) (ti ts tis tss top tops tsig : TypeId) : Prop where
 int : P.underlying ti = some (.int .i64)
 str : P.underlying ts = some .string
 ints : P.underlying tis = some (.slice ti)
 strs : P.underlying tss = some (.slice ts)
 op : ∃ f0 f1 f2 : Field, P.underlying top = some (.struct #[f0, f1, f2]) ∧ f0.type = ts ∧ f0.offset = 0 ∧ f1.type = tis ∧ f1.offset = 1 ∧ f2.type = ti ∧ f2.offset = 2
 ops : P.underlying tops = some (.slice top)
 sig : ∃ f0 f1 : Field, P.underlying tsig = some (.struct #[f0, f1]) ∧ f0.type = tss ∧ f0.offset = 0 ∧ f1.type = tops ∧ f1.offset = 1
 c : P.cellsOf ti = 1 ∧ P.cellsOf ts = 1 ∧ P.cellsOf tis = 1 ∧ P.cellsOf tss = 1 ∧ P.cellsOf top = 3 ∧ P.cellsOf tops = 1 ∧ P.cellsOf tsig = 2
variable {ti ts tis tss top tops tsig : TypeId}
theorem jF {v : List Value} {x : AV} (h : aJ (fB w) [] v [x]) : ∃ u, v = [u] ∧ aQ (fB w) [] u x := by
 cases h with
 | cons v x vs xs h t => cases t; exact ⟨_, rfl, h⟩
theorem An (S : qM P ti ts tis tss top tops tsig) : Rd enc P w base sp held tis (fun l : List Int => .ap 0 (ints l)) CH := vV S.ints S.c.1 (by decide) (KK S.int)
theorem N0 (S : qM P ti ts tis tss top tops tsig) : Rd enc P w base sp held tss (fun l : List ByteArray => .ap 0 (strs l)) CH := vV S.strs S.c.2.1 (by decide) (KL S.str)
theorem Xg (S : qM P ti ts tis tss top tops tsig) : Rd enc P w base sp held top gB.av (fun _ _ => True) := by
 intro fuel cs x h
 obtain ⟨f0, f1, f2, hu, h0, o0, h1, o1, h2, o2⟩ := S.op
 obtain ⟨c1, c2, c3, c4, c5, c6, c7⟩ := S.c
 obtain ⟨xs, m, rfl, rfl, hlen, fp, hf⟩ := DataW.trod_struct hu h
 have g0 := hf 0 f0 rfl
 have g1 := hf 1 f1 rfl
 have g2 := hf 2 f2 rfl
 rw [h0, o0, c2] at g0
 rw [h1, o1, c3] at g1
 rw [h2, o2, c1] at g2
 simp at fp
 rw [c5] at hlen
 match cs, hlen with
 | [a, b, c], _ =>
   have e0 : xs[0]? = some xs[0] := by simp [fp]
   have e1 : xs[1]? = some xs[1] := by simp [fp]
   have e2 : xs[2]? = some xs[2] := by simp [fp]
   rw [e0] at g0; rw [e1] at g1; rw [e2] at g2
   obtain ⟨nm, r0, _⟩ := KL S.str _ _ _ g0
   obtain ⟨ar, r1, _⟩ := An S _ _ _ g1
   obtain ⟨re, r2, _⟩ := KK S.int _ _ _ g2
   obtain ⟨_, q0, r0⟩ := jF r0
   obtain ⟨_, q1, r1⟩ := jF r1
   obtain ⟨_, q2, r2⟩ := jF r2
   simp at q0 q1 q2
   subst q0 q1 q2
   exact ⟨⟨nm, ar, re⟩, .cons _ _ _ _ r0 (.cons _ _ _ _ r1 (.cons _ _ _ _ r2 .nil)), trivial⟩
theorem SO (S : qM P ti ts tis tss top tops tsig) : Rd enc P w base sp held tops (fun l : List gB => .ap 0 (ou l)) CH := vV S.ops S.c.2.2.2.2.1 (by decide) (Xg S)
theorem SP (S : qM P ti ts tis tss top tops tsig) : Rd enc P w base sp held tsig Sg.av (fun _ _ => True) := by
 intro fuel cs x h
 obtain ⟨f0, f1, hu, h0, o0, h1, o1⟩ := S.sig
 obtain ⟨c1, c2, c3, c4, c5, c6, c7⟩ := S.c
 obtain ⟨xs, m, rfl, rfl, hlen, fp, hf⟩ := DataW.trod_struct hu h
 have g0 := hf 0 f0 rfl
 have g1 := hf 1 f1 rfl
 rw [h0, o0, c4] at g0
 rw [h1, o1, c6] at g1
 simp at fp
 rw [c7] at hlen
 match cs, hlen with
 | [a, b], _ =>
   have e0 : xs[0]? = some xs[0] := by simp [fp]
   have e1 : xs[1]? = some xs[1] := by simp [fp]
   rw [e0] at g0; rw [e1] at g1
   obtain ⟨nm, r0, _⟩ := N0 S _ _ _ g0
   obtain ⟨ar, r1, _⟩ := SO S _ _ _ g1
   obtain ⟨_, q0, r0⟩ := jF r0
   obtain ⟨_, q1, r1⟩ := jF r1
   simp at q0 q1
   subst q0 q1
   exact ⟨⟨nm, ar⟩, .cons _ _ _ _ r0 (.cons _ _ _ _ r1 .nil), trivial⟩
theorem N1 (S : qM P ti ts tis tss top tops tsig) {r : Reach} {b0 : Nat} {v : Value} {d : DataW H} {ps : List MemPlace} (jX : Value.okWide P w r b0 tsig v) (hd : DataW.Trod enc P w base sp held tsig v d ps) : ∃ s : Sg, aQ (fB w) [] v s.av := by
 obtain ⟨f0, f1, hu, _⟩ := S.sig
 obtain ⟨cs, rfl, _⟩ := WideShapes.okWide_struct hu jX
 obtain ⟨fuel, hf⟩ := hd
 obtain ⟨o, h1, _⟩ := SP S _ _ _ hf
 refine ⟨o, ?_⟩
 have : aQ (fB w) [] (.agg cs.toList.toArray) o.av := .agg _ _ h1
 simpa using this
structure SQ (P : Program) (tis tod : TypeId) : Prop where
 od : ∃ f0 f1 : Field, P.underlying tod = some (.struct #[f0, f1]) ∧ f0.type = tis ∧ f0.offset = 0 ∧ f1.type = tis ∧ f1.offset = 1
 c : P.cellsOf tod = 2
theorem Xh (S : qM P ti ts tis tss top tops tsig) {tod : TypeId} (O : SQ P tis tod) : Rd enc P w base sp held tod (fun o : List Int × List Int => eN o.1 o.2) (fun _ _ => True) := by
 intro fuel cs x h
 obtain ⟨f0, f1, hu, h0, o0, h1, o1⟩ := O.od
 obtain ⟨c1, c2, c3, c4, c5, c6, c7⟩ := S.c
 obtain ⟨xs, m, rfl, rfl, hlen, fp, hf⟩ := DataW.trod_struct hu h
 have g0 := hf 0 f0 rfl
 have g1 := hf 1 f1 rfl
 rw [h0, o0, c3] at g0
 rw [h1, o1, c3] at g1
 simp at fp
 rw [O.c] at hlen
 match cs, hlen with
 | [a, b], _ =>
   have e0 : xs[0]? = some xs[0] := by simp [fp]
   have e1 : xs[1]? = some xs[1] := by simp [fp]
   rw [e0] at g0; rw [e1] at g1
   obtain ⟨nm, r0, _⟩ := An S _ _ _ g0
   obtain ⟨ar, r1, _⟩ := An S _ _ _ g1
   obtain ⟨_, q0, r0⟩ := jF r0
   obtain ⟨_, q1, r1⟩ := jF r1
   simp at q0 q1
   subst q0 q1
   exact ⟨(nm, ar), .cons _ _ _ _ r0 (.cons _ _ _ _ r1 .nil), trivial⟩
theorem N2 (S : qM P ti ts tis tss top tops tsig) {tod : TypeId} (O : SQ P tis tod) {r : Reach} {b0 : Nat} {v : Value} {d : DataW H} {ps : List MemPlace} (jX : Value.okWide P w r b0 tod v) (hd : DataW.Trod enc P w base sp held tod v d ps) : ∃ pl st : List Int, aQ (fB w) [] v (eN pl st) := by
 obtain ⟨f0, f1, hu, _⟩ := O.od
 obtain ⟨cs, rfl, _⟩ := WideShapes.okWide_struct hu jX
 obtain ⟨fuel, hf⟩ := hd
 obtain ⟨o, h1, _⟩ := Xh S O _ _ _ hf
 refine ⟨o.1, o.2, ?_⟩
 have : aQ (fB w) [] (.agg cs.toList.toArray) (eN o.1 o.2) := .agg _ _ h1
 simpa using this
end
end Go.aK
end
section
set_option maxRecDepth 100000
namespace Go.Proofs.YtljchnfgjdjobaaGreat
open Go
theorem SR : laidOutB Tryz.checked.prog = true := by kernel_rfl
theorem SS : mapsRowed Tryz.checked.prog = true := by kernel_rfl
theorem N3 : Tryz.checked.prog.stopsHeard = true := by kernel_rfl
theorem N4 : Tryz.checked.prog.mayEnter = true := by kernel_rfl
theorem N5 : Tryz.checked.prog.liftsFinal = false := by kernel_rfl
end Go.Proofs.YtljchnfgjdjobaaGreat
end
