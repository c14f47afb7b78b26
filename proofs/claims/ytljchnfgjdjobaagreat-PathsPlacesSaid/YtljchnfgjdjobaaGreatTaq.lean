/- Part 17 of 18 of the proof. -/
import Derived.Test.YtljchnfgjdjobaaGreatTap
import Derived.Laws.Runes
import Derived.Test.YtljchnfgjdjobaaGreatProg
import Derived.KernelRfl
import Derived.Test.YtljchnfgjdjobaaGreatTaf
import Derived.Test.YtljchnfgjdjobaaGreatTak
import Derived.Test.YtljchnfgjdjobaaGreatTan
import Derived.Test.YtljchnfgjdjobaaGreatRows
import Derived.ProofKit
set_option linter.unusedVariables false
set_option linter.unusedSimpArgs false
set_option linter.defProp false
set_option linter.unusedSectionVars false
section
set_option maxRecDepth 100000
namespace Go.aL
open Go Go.Proofs Go.fw
theorem aaK (n : Int) (o : Nat) (xs : List AV) (φ : AV → Prop) : cj [.int .i64 0, .int .i64 0, .ah] [(0, 1, .int .i64 2), (1, 1, .int .i64 n), (2, 1, .aq o xs)] φ = φ (.agg [.int .i64 2, .int .i64 n, .aq 0 xs]) := by
 simp only [cj, gk, eq_iff_iff]
 exact ⟨fun h => h.2.2.2.2.2.2.2.2.2, fun h => ⟨rfl, rfl, by simp, rfl, rfl, by simp [ai, AV.cells], rfl, rfl, by simp [ai, AV.cells], h⟩⟩
theorem Xm (n : Int) (φ : AV → Prop) : cj [.int .i64 0, .int .i64 0, .ah] [(0, 1, .int .i64 2), (1, 1, .int .i64 n), (2, 1, .ah)] φ = φ (.agg [.int .i64 2, .int .i64 n, .ah]) := by
 simp only [cj, gk, eq_iff_iff]
 exact ⟨fun h => h.2.2.2.2.2.2.2.2.2, fun h => ⟨rfl, rfl, by simp, rfl, rfl, by simp [ai, AV.cells], rfl, rfl, by simp [ai, AV.cells], h⟩⟩
theorem aaL (a b c d e f : Int) (o o' : Nat) (φ : AV → Prop) : cj [.ah, .ah] [(0, 1, .aq o [.int .i64 a, .int .i64 b, .int .i64 c]), (1, 1, .aq o' [.int .i64 d, .int .i64 e, .int .i64 f])] φ = φ (eE [a, b, c] [d, e, f]) := by
 simp only [cj, gk, eq_iff_iff]
 exact ⟨fun h => h.2.2.2.2.2.2, fun h => ⟨rfl, rfl, by simp, rfl, rfl, by simp [ai, AV.cells], h⟩⟩
theorem KX (t : T) : aT t.av = t.av := by cases t; rfl
theorem bs4 (a b c d : T) (φ : List AV → Prop) : bk (List.replicate 4 (aT (.agg [.int .i64 0, .int .i64 0, .ah]))) 3 [(0, a.av), (1, b.av), (2, c.av), (3, d.av)] φ = φ [a.av, b.av, c.av, d.av] := by
 have hv : ∀ t : T, t.av.val = true := fun t => by cases t; rfl
 have hl : ∀ t : T, t.av.cells.length = 3 := fun t => (vZ t).len
 simp only [bk, KX, hv, hl, List.replicate, List.set, List.length_cons, List.length_nil, eq_iff_iff]
 constructor
 ·intro h; simpa using h
 ·intro h; simpa using h
theorem Oh (n : Int) : Pure Tryz.prog 59 [.int .i64 n] (vT n).av := by
 refine fun H => XP.2.calls rfl ?_
 simp only [XP, aJ]
 simp +contextual only [sZ, Nat.reduceEqDiff, Nat.reduceAdd, ↓reduceIte, reduceCtorEq]
 exact Fq rfl rfl
theorem X7 (n : Int) (l : List T) : Pure Tryz.prog 65 [.int .i64 n, .aq 0 (cK l)] (oT n l).av := by
 refine fun H => Tn.2.calls rfl ?_
 simp only [Tn, aJ]
 simp +contextual only [aaK, sZ, Nat.reduceEqDiff, Nat.reduceAdd, ↓reduceIte, reduceCtorEq]
 exact Fq (by simp [vh, bM, cW, iP, cR, dX]) rfl
theorem Oi (n : Int) : Pure Tryz.prog 65 [.int .i64 n, .ah] (oT n []).av := by
 refine fun H => Tn.2.calls rfl ?_
 simp only [Tn, aJ]
 simp +contextual only [Xm, sZ, Nat.reduceEqDiff, Nat.reduceAdd, ↓reduceIte, reduceCtorEq]
 exact Fq rfl rfl
theorem KY (t : T) (φ : AV → Prop) : al 1 none (.aj t.av) φ = φ (.aj (.int .i64 t.n)) := by cases t; simp [al, T.av, apart, AV.cells, AV.one, T.n]
theorem Xn (o : Nat) (a b c d : T) : (∀ (own : Nat) (xs : List AV), AV.aq o [a.av, b.av, c.av, d.av] = AV.aq own xs → ∀ z ∈ xs, z.cells.length = 3) = True := by
 simp only [eq_iff_iff, iff_true]
 intro own xs e z hz
 cases e
 have : z = a.av ∨ z = b.av ∨ z = c.av ∨ z = d.av := by simpa using hz
 rcases this with rfl | rfl | rfl | rfl <;> exact (vZ _).len
theorem X8 (o : Nat) (a b c d : AV) (φ : AV → Prop) : aA 3 (.aq o [a, b, c, d]) (.int .i64 0) φ = φ (.aj a) ∧ aA 3 (.aq o [a, b, c, d]) (.int .i64 1) φ = φ (.aj b) ∧ aA 3 (.aq o [a, b, c, d]) (.int .i64 2) φ = φ (.aj c) ∧ aA 3 (.aq o [a, b, c, d]) (.int .i64 3) φ = φ (.aj d) := by
 simp [aA]
theorem sg1 : Pure Tryz.prog 20 [cL.s.av, eE [0, 0, 1] [1, 1, 1], cp.a.av, cp.b.av] (.tuple [.bool true, .int .i64 0]) := by
 have := ZR fF fG mB cp.a cp.b
 rw [iB, S3, if_pos rfl, At, gr1] at this
 exact this
theorem sg2 : Pure Tryz.prog 20 [cL.s.av, eE [0, 0, 1] [1, 1, 1], cp.b.av, cp.a.av] (.tuple [.bool false, .int .i64 0]) := by
 have := ZR fF fG mB cp.b cp.a
 rw [iB, Xj, if_pos rfl, At, gr2] at this
 exact this
theorem p1 (H : List aa) : au Tryz.prog 27 [cL.s.av, eE [0, 0, 1] [1, 1, 1], cp.a.av, cp.b.av] H fun r H' => (∃ p, Sh (jO fG mB) p cp.a cp.b ∧ r = .tuple [dS p, .bool true, .int .i64 0]) ∧ H' = H := by
 refine (c27 fF fG mB cp.a cp.b H).mono ?_
 rintro r H' ⟨h, rfl⟩
 refine ⟨?_, rfl⟩
 rcases h with ⟨h, _⟩ | ⟨_, h, _⟩ | ⟨_, h⟩
 ·rw [iB, S3] at h; exact absurd rfl h
 ·exact absurd (As.1 gr1) h
 ·exact h
theorem v1 {p : PP} (hp : Sh (jO fG mB) p cp.a cp.b) : Pure Tryz.prog 28 [cL.s.av, eE [0, 0, 1] [1, 1, 1], cp.a.av, cp.b.av, dS p] (.int .i64 0) := by
 have := c28 fF fG mB cp.a cp.b p
 have e : CB fF fG mB cp.a cp.b p = 0 := by unfold CB; rw [if_pos (by rw [iB, S3]), if_pos hp]
 rw [e] at this
 exact this
theorem v2 (p : PP) : Pure Tryz.prog 28 [cL.s.av, eE [0, 0, 1] [1, 1, 1], cp.b.av, cp.a.av, dS p] (.int .i64 61) := by
 have := c28 fF fG mB cp.b cp.a p
 have hn : ¬ Sh (jO fG mB) p cp.b cp.a := fun h => by
  have := As.2 h.gt
  rw [gr2] at this; cases this
 have e : CB fF fG mB cp.b cp.a p = 61 := by unfold CB; rw [if_pos (by rw [iB, Xj]), if_neg hn]
 rw [e] at this
 exact this
theorem q1 : Pure Tryz.prog 22 [cL.s.av, eE [0, 0, 1] [1, 1, 3], (oT 2 [vT 0, vT 1]).av, (oT 2 [vT 1, vT 0]).av] (.tuple [.bool true, .int .i64 0]) := by
 have := X3 fF fG stM (oT 2 [vT 0, vT 1]) (oT 2 [vT 1, vT 0])
 rw [iB, aaD, if_pos rfl, FX, eq1] at this
 exact this
theorem q2 : Pure Tryz.prog 22 [cL.s.av, eE [0, 0, 1] [1, 1, 1], (oT 2 [vT 0, vT 1]).av, (oT 2 [vT 1, vT 0]).av] (.tuple [.bool false, .int .i64 0]) := by
 have := X3 fF fG mB (oT 2 [vT 0, vT 1]) (oT 2 [vT 1, vT 0])
 rw [iB, aaE, if_pos rfl, FX, eq2] at this
 exact this
theorem aaM : pv 0 cL fG mB = (0, false, 0) := by
 unfold pv
 rw [if_neg (by simp), qJ, if_neg (by rw [show cL.s = fF from rfl, aaF]; simp), rZ, Xk]; rfl
theorem Xo : pv 0 cL CP mB = (1, true, 0) := by
 unfold pv
 rw [if_neg (by simp), qJ, if_neg (by rw [show cL.s = fF from rfl, aaG]; simp), rZ, Xl]; rfl
theorem k1 : Pure Tryz.prog 33 [cL.av, eE [0, 0, 1] [1, 1, 1]] (.int .i64 0) := by
 have := c33 Aq (fun _ => qK) fG mB
 rw [Og, aaM] at this
 exact this
theorem k2 : Pure Tryz.prog 33 [cL.av, eE [0, 0, 0] [1, 1, 1]] (.int .i64 60) := by
 have := c33 Aq (fun _ => qK) CP mB
 rw [Og, Xo] at this
 exact this
theorem bl1 : Pure Tryz.prog 31 [cL.av, eE [0, 0, 0] [1, 1, 1]] (.tuple [.int .i64 1, .bool true, .int .i64 0]) := by
 have := c31 Aq (fun _ => qK) CP mB
 rw [Xo] at this
 exact this
theorem fi1 : Pure Tryz.prog 35 [cL.av] (.tuple [eE [0, 0, 1] [1, 1, 1], .bool true, .int .i64 0]) := by
 have := c35 (ops := [0, 1, 2]) Aq (fun _ => S1) (fun _ => qK) (fun _ i hi => by
  have h : i = 0 ∨ i = 1 ∨ i = 2 := by simpa using hi
  have e : cL.s.ops.length = 3 := rfl
  rw [e]; omega) (by decide)
 have e : KQ 0 cL [0, 1, 2] = (some (fG, mB), 0) := by
  unfold KQ
  rw [if_neg (by simp), if_neg (by decide), KW, aaH]
 rw [e] at this
 exact this
def Xp : List T := [vT 0, oT 0 [], oT 1 [oT 0 []], oT 2 [oT 0 [], oT 0 []]]
theorem so1 : Pure Tryz.prog 37 [cL.s.av, eE [0, 0, 1] [1, 1, 1], .aq 0 (cK yy)] (.tuple [.aq 0 (cK Xp), .int .i64 0]) := by
 have := c37 fF fG mB yy (by decide)
 have hg : C2 fG mB = CO fG mB := by funext a b; exact At _ _ _ _
 have e : xb fF fG mB yy = (Xp, 0) := by
  unfold xb
  rw [if_pos (by rw [iB, aaI]), if_neg (by decide), hg, show yy.length = 4 from rfl, aaJ]
  rfl
 rw [e] at this
 exact this
theorem c17 : Pure Tryz.prog 17 [] (.bool true) := by
 refine fun H => k17.2.calls rfl ?_
 simp only [k17, aJ]
 simp +contextual only [sZ]
 refine af c64 ?_
 have o01 : Pure Tryz.prog 65 [.int .i64 2, .aq 0 [(vT 0).av, (vT 1).av]] (oT 2 [vT 0, vT 1]).av := X7 2 [vT 0, vT 1]
 have o10 : Pure Tryz.prog 65 [.int .i64 2, .aq 0 [(vT 1).av, (vT 0).av]] (oT 2 [vT 1, vT 0]).av := X7 2 [vT 1, vT 0]
 have o00 : Pure Tryz.prog 65 [.int .i64 2, .aq 0 [(oT 0 []).av, (oT 0 []).av]] (oT 2 [oT 0 [], oT 0 []]).av := X7 2 [oT 0 [], oT 0 []]
 have o1 : Pure Tryz.prog 65 [.int .i64 1, .aq 0 [(oT 0 []).av]] (oT 1 [oT 0 []]).av := X7 1 [oT 0 []]
 have so2 : Pure Tryz.prog 37 [cL.s.av, eE [0, 0, 1] [1, 1, 1], .aq 0 [(oT 1 [oT 0 []]).av, (vT 0).av, (oT 0 []).av, (oT 2 [oT 0 [], oT 0 []]).av]] (.tuple [.aq 0 [(vT 0).av, (oT 0 []).av, (oT 1 [oT 0 []]).av, (oT 2 [oT 0 [], oT 0 []]).av], .int .i64 0]) := so1
 have aaN : Pure Tryz.prog 66 [.aq 0 (ints [0, 0, 1]), .aq 0 (ints [0, 0, 1])] (.bool true) := c66 (a := [0, 0, 1]) (b := [0, 0, 1]) (.inr rfl) (.inr rfl) (by decide) (by decide)
 have aaO : Pure Tryz.prog 66 [.aq 0 (ints [1, 1, 1]), .aq 0 (ints [1, 1, 1])] (.bool true) := c66 (a := [1, 1, 1]) (b := [1, 1, 1]) (.inr rfl) (.inr rfl) (by decide) (by decide)
 have i40 := fun o a b c d φ => (X8 o a b c d φ).1
 have i41 := fun o a b c d φ => (X8 o a b c d φ).2.1
 have i42 := fun o a b c d φ => (X8 o a b c d φ).2.2.1
 have i43 := fun o a b c d φ => (X8 o a b c d φ).2.2.2
 have n1 : ((vT 0).k = 1) = True := eq_true rfl
 have n2 : ((oT 0 []).n = 0) = True := eq_true rfl
 have n3 : ((oT 1 [oT 0 []]).n = 1) = True := eq_true rfl
 have n4 : ((oT 2 [oT 0 [], oT 0 []]).n = 2) = True := eq_true rfl
 have f44 : (((4 : Nat) : Int) = 4) = True := eq_true rfl
 obtain ⟨e1, e2, e3, e4, e5, e6⟩ := Ty.facts cL
 obtain ⟨a1, a2, a3, a4, a5, a6⟩ := bh [0, 0, 1] [1, 1, 1]
 obtain ⟨b1, b2, b3, b4, b5, b6⟩ := bh [0, 0, 1] [1, 1, 3]
 obtain ⟨c1, c2, c3, c4, c5, c6⟩ := bh [0, 0, 0] [1, 1, 1]
 have ix : ∀ φ, aA 8 (.aq 0 (tA cL.es)) (.int .i64 1) φ = φ (.aj cp.av) := by
  intro φ
  have := idx_eq 8 0 cL.es .i64 1 φ
  rw [show ((1 : Nat) : Int) = 1 from rfl] at this
  rw [this]
  exact propext ⟨fun h => h.2, fun h => ⟨by decide, h⟩⟩
 have su : cL.s.av.ae = cL.s.av := rfl
 simp +contextual only [e1, e2, e3, aaL, a1, a2, a3, a4, b1, b2, b3, c1, c2, c3, cC, KB, fY2, ix, feA, feB, kU, FM, su, sZ, Nat.reduceEqDiff, Nat.reduceAdd, ↓reduceIte]
 refine ⟨af sg1 ?_, af sg1 ?_⟩
 all_goals
  simp +contextual only [a4, cC, KB, kU, su, sZ, Nat.reduceEqDiff, Nat.reduceAdd, Nat.reduceLT, ↓reduceIte]
  refine af sg2 ?_
  simp +contextual only [a4, cC, KB, kU, su, sZ, Nat.reduceEqDiff, Nat.reduceAdd, Nat.reduceLT, ↓reduceIte]
  refine ag (p1 _) ?_
  rintro r H' ⟨⟨p, hp, rfl⟩, rfl⟩
  obtain ⟨r1, r2, r3, r4, r5, r6, r7, r8, r9⟩ := aX p
  simp +contextual only [a4, cC, KB, kU, su, r1, r2, r3, r4, qG, sZ, Nat.reduceEqDiff, Nat.reduceAdd, Nat.reduceLT, ↓reduceIte]
  refine af (v1 hp) ?_
  simp +contextual only [a4, cC, KB, kU, su, r4, qG, sZ, Nat.reduceEqDiff, Nat.reduceAdd, ↓reduceIte]
  refine af (v2 p) ?_
  simp +contextual only [sZ, Nat.reduceEqDiff, ↓reduceIte]
  refine aI (Oh 0) ?_
  simp +contextual only [sZ]
  refine aI (Oh 1) ?_
  simp +contextual only [sZ, Nat.reduceEqDiff, ↓reduceIte]
  refine aI (o01) ?_
  simp +contextual only [sZ]
  refine aI (Oh 1) ?_
  simp +contextual only [sZ]
  refine aI (Oh 0) ?_
  simp +contextual only [sZ, Nat.reduceEqDiff, ↓reduceIte]
  refine aI (o10) ?_
  simp +contextual only [b4, cC, KB, kU, su, sZ, Nat.reduceEqDiff, ↓reduceIte]
  refine aI (q1) ?_
  simp +contextual only [sZ, Nat.reduceEqDiff, Nat.reduceAdd, Nat.reduceLT, ↓reduceIte]
  refine aI (Oh 0) ?_
  simp +contextual only [sZ]
  refine aI (Oh 1) ?_
  simp +contextual only [sZ, Nat.reduceEqDiff, ↓reduceIte]
  refine aI (o01) ?_
  simp +contextual only [sZ]
  refine aI (Oh 1) ?_
  simp +contextual only [sZ]
  refine aI (Oh 0) ?_
  simp +contextual only [sZ, Nat.reduceEqDiff, ↓reduceIte]
  refine aI (o10) ?_
  simp +contextual only [a4, cC, KB, kU, su, sZ, Nat.reduceEqDiff, ↓reduceIte]
  refine aI (q2) ?_
  simp +contextual only [e4, mi, a4, cC, sZ, Nat.reduceEqDiff, Nat.reduceAdd, Nat.reduceLT, ↓reduceIte]
  refine af (k1) ?_
  simp +contextual only [e4, mi, c4, cC, sZ, Nat.reduceEqDiff, Nat.reduceAdd, ↓reduceIte]
  refine af (k2) ?_
  simp +contextual only [e4, mi, c4, cC, sZ, Nat.reduceEqDiff, Nat.reduceAdd, ↓reduceIte]
  refine af (bl1) ?_
  simp +contextual only [e4, mi, sZ, Nat.reduceEqDiff, Nat.reduceAdd, Nat.reduceLT, ↓reduceIte]
  refine af (fi1) ?_
  simp +contextual only [a1, a2, a3, a4, tw, sZ, Nat.reduceEqDiff, Nat.reduceAdd, Nat.reduceLT, ↓reduceIte]
  refine af (aaN) ?_
  simp +contextual only [vJ, sZ, Nat.reduceEqDiff, Nat.reduceAdd, ↓reduceIte]
  refine af (aaO) ?_
  simp +contextual only [sZ, Nat.reduceEqDiff, ↓reduceIte]
  refine aI (Oi 0) ?_
  simp +contextual only [sZ, ↓reduceIte]
  refine aI (o1) ?_
  simp +contextual only [sZ]
  refine aI (Oh 0) ?_
  simp +contextual only [sZ]
  refine aI (Oi 0) ?_
  simp +contextual only [sZ]
  refine aI (Oi 0) ?_
  simp +contextual only [sZ]
  refine aI (Oi 0) ?_
  simp +contextual only [sZ, Nat.reduceEqDiff, ↓reduceIte]
  refine aI (o00) ?_
  simp +contextual only [a4, cC, KB, kU, su, bs4, sZ, Nat.reduceEqDiff, ↓reduceIte]
  refine aI (so2) ?_
  simp +contextual only [FE, KY, Xn, i40, i41, i42, i43, f44, n1, n2, n3, n4, decide_true, sZ, Nat.reduceEqDiff, Nat.reduceAdd, Nat.reduceLT, ↓reduceIte, reduceCtorEq]
  exact aW H.length (Nat.le_refl _) rfl ⟨rfl, by simp⟩
end Go.aL
end
section
set_option maxRecDepth 100000
namespace Go.aL
open Go Go.Proofs Go.fw
def S4 (S : List aa → Prop) (r : AV) (H' : List aa) : Prop := (∃ b, r = .bool b) ∧ S H'
theorem HN {S : List aa → Prop} (hl : yg S) {s : Nat} {b : Bool} {H H' : List aa} (hS : S H) (V9 : S H') : bV H.length [.t s] [(s, .bool b)] H' (S4 S) := by
 refine aW H.length (Nat.le_refl _) (by rw [ay, if_pos rfl]; rfl) ?_
 rw [ay, if_pos rfl, List.take_of_length_le (by rw [hl H H' hS V9]; exact Nat.le_refl _)]
 exact ⟨⟨b, rfl⟩, V9⟩
theorem Xq {S : List aa → Prop} (hS : yg S) (g : Nat) (cz : List AV) (cF : cz.map AV.ae = cz) (l : List T) (hf : ∀ x ∈ l, ∀ H, S H → au Tryz.prog g ([x.av] ++ cz) H (S4 S)) {H : List aa} (hH : S H) :
 au Tryz.prog 114 [.aq 0 (cK l), .fn (.func g) [] cz] H fun r H' => (∃ n, r = .int .i64 n) ∧ S H' := by
 refine Bs.2.calls rfl ?_
 simp only [Bs, aJ]
 simp +contextual only [sZ, Nat.reduceEqDiff, Nat.reduceAdd, ↓reduceIte, reduceCtorEq]
 intro hl
 have fin : ∀ (n : Int) (G : List aa), S G → bV H.length [.t 4] [(4, .int .i64 n)] G fun r H' => (∃ n, r = .int .i64 n) ∧ S H' := by
  intro n G hG
  refine aW H.length (Nat.le_refl _) (by rw [ay, if_pos rfl]; rfl) ?_
  rw [ay, if_pos rfl, List.take_of_length_le (by rw [hS H G hH hG]; exact Nat.le_refl _)]
  exact ⟨⟨n, rfl⟩, hG⟩
 refine aO l.length (fun i (G : List aa) => S G) (fun i G => [(0, .aq 0 (cK l)), (1, .fn (.func g) [] cz), (7, .int .i64 l.length), (8, .int .i64 i)]) (fun i G => G) H ⟨hH, aB _ _ _⟩ fun i G hi hG => ?_
 simp +contextual only [cF, sZ, Nat.reduceEqDiff, Nat.reduceAdd, ↓reduceIte, reduceCtorEq]
 refine ⟨fun a8 => ?_, fun jL => ?_⟩
 ·have a8 := b7 a8
  refine ⟨a8, ag (hf _ (iu a8) G hG) ?_⟩
  rintro r G' ⟨⟨b, rfl⟩, dY⟩
  cases b with
  | true => simp +contextual only [sZ, Nat.reduceEqDiff, ↓reduceIte, reduceCtorEq]; exact fin _ _ dY
  | false => simp +contextual only [sZ, Nat.reduceEqDiff, ↓reduceIte, reduceCtorEq]; exact ⟨i + 1, G', ⟨a8, dY⟩, by omega, aH (by rw [ax i (by omega)]) rfl⟩
 ·exact fin _ _ hG
theorem Xr {S : List aa → Prop} (hS : yg S) (g : Nat) (cz : List AV) (cF : cz.map AV.ae = cz) (l : List T) (hf : ∀ x ∈ l, ∀ H, S H → au Tryz.prog g ([x.av] ++ cz) H (S4 S)) {H : List aa} (hH : S H) :
 au Tryz.prog 53 [.aq 0 (cK l), .fn (.func g) [] cz] H (S4 S) := by
 refine OK.2.calls rfl ?_
 simp only [OK, aJ]
 simp +contextual only [sZ, Nat.reduceEqDiff, Nat.reduceAdd, ↓reduceIte, reduceCtorEq]
 refine ag (Xq hS g cz cF l hf hH) ?_
 rintro r G ⟨⟨n, rfl⟩, hG⟩
 simp +contextual only [sZ, ↓reduceIte, reduceCtorEq]
 exact HN hS hH hG
structure Fw (q q2 : Nat) (H0 H : List aa) : Prop where
 len : H.length = H0.length
 cnt : ∃ n, H[q]? = some (.cells [.int .i64 n])
 fn : H[q2]? = some (.cells [.fn (.func 71) [] [.ptr q 0, .ptr q2 0]])
 get : ∀ j, j ≠ q → H[j]? = H0[j]?
theorem Fw.yg (q q2 : Nat) (H0 : List aa) : Go.aL.yg (Fw q q2 H0) := fun H H' h h' => h'.len.trans h.len.symm
theorem Fw.set {q q2 : Nat} {H0 H : List aa} (h : Fw q q2 H0 H) (hn : q ≠ q2) (n : Int) : Fw q q2 H0 (H.set q (.cells [.int .i64 n])) := by
 obtain ⟨m, hm⟩ := h.cnt
 exact ⟨by simp [h.len], ⟨n, List.getElem?_set_self (aN hm)⟩, by rw [List.getElem?_set_ne hn]; exact h.fn, fun j hj => by rw [List.getElem?_set_ne (Ne.symm hj)]; exact h.get j hj⟩
theorem c71 {q q2 : Nat} (hn : q ≠ q2) {H0 : List aa} : ∀ (N : Nat) (t : T), wt t ≤ N → ∀ (d : Int) (H : List aa), Fw q q2 H0 H → au Tryz.prog 71 [t.av, .int .i64 d, .ptr q 0, .ptr q2 0] H (S4 (Fw q q2 H0)) := by
 intro N
 induction N with
 | zero => intro t h; have := fQ t; omega
 | succ N ih =>
   intro t hw d H hH
   refine k71.2.calls rfl ?_
   simp only [k71, aJ]
   have hwe := Cd t
   obtain ⟨m, hm⟩ := hH.cnt
   have fW : ∀ o, (H.set q o)[q]? = some o := fun o => List.getElem?_set_self (aN hm)
   simp +contextual only [hm, fW, sZ, Nat.reduceEqDiff, Nat.reduceAdd, Nat.reduceLT, ↓reduceIte, reduceCtorEq]
   have c72 : ∀ x ∈ t.l, ∀ H, Fw q q2 H0 H → au Tryz.prog 72 ([x.av] ++ [.ptr q2 0, .aj (.int .i64 d)]) H (S4 (Fw q q2 H0)) := by
    intro x hx H hH
    refine k72.2.calls rfl ?_
    simp only [k72, aJ, List.cons_append, List.nil_append]
    have hfn := hH.fn
    simp +contextual only [hfn, sZ, Nat.reduceEqDiff, Nat.reduceAdd, Nat.reduceLT, ↓reduceIte, reduceCtorEq]
    refine ag (ih x (by have := bU hx; omega) _ H hH) ?_
    rintro r G ⟨⟨b, rfl⟩, hG⟩
    simp +contextual only [sZ, ↓reduceIte, reduceCtorEq]
    exact HN (Fw.yg q q2 H0) hH hG
   refine ⟨fun _ => ⟨fun _ => ag (Xr (Fw.yg q q2 H0) 72 [.ptr q2 0, .aj (.int .i64 d)] rfl t.l c72 (hH.set hn _)) ?_, fun _ => HN (Fw.yg q q2 H0) hH (hH.set hn _)⟩, fun _ => HN (Fw.yg q q2 H0) hH (hH.set hn _)⟩
   rintro r G ⟨⟨b, rfl⟩, hG⟩
   simp +contextual only [sZ, Nat.reduceEqDiff, ↓reduceIte, reduceCtorEq]
   exact HN (Fw.yg q q2 H0) hH hG
theorem c19 (n : Int) (l : List T) (H : List aa) : au Tryz.prog 19 [.int .i64 n, .aq 0 (cK l)] H fun r H' => (∃ b, r = .bool b) ∧ H' = H := by
 refine k19.2.calls rfl ?_
 simp only [k19, aJ]
 have YP : ∀ (x y : AV), ai [x] 0 [y] = [y] := fun _ _ => rfl
 simp +contextual only [sZ, Nat.reduceEqDiff, Nat.reduceAdd, ↓reduceIte, reduceCtorEq]
 obtain ⟨H0, eH0⟩ : ∃ H0, H0 = H ++ [aa.cells [AV.int .i64 n], .cells [.fn (.func 71) [] [.ptr H.length 0, .ptr (H.length + 1) 0]]] := ⟨_, rfl⟩
 have hF : Fw H.length (H.length + 1) H0 H0 := ⟨rfl, ⟨n, by rw [eH0]; simp⟩, by rw [eH0]; simp, fun _ _ => rfl⟩
 rw [← eH0]
 have ER : H0.length = H.length + 2 := by rw [eH0]; simp
 have T8 : H0.take H.length = H := by rw [eH0]; simp
 have c73 : ∀ x ∈ l, ∀ G, Fw H.length (H.length + 1) H0 G → au Tryz.prog 73 ([x.av] ++ [.ptr (H.length + 1) 0]) G (S4 (Fw H.length (H.length + 1) H0)) := by
  intro x hx G hG
  refine k73.2.calls rfl ?_
  simp only [k73, aJ, List.cons_append, List.nil_append]
  have hfn := hG.fn
  simp +contextual only [hfn, sZ, Nat.reduceEqDiff, Nat.reduceAdd, Nat.reduceLT, ↓reduceIte, reduceCtorEq]
  refine ag (c71 (by omega) _ x (Nat.le_refl _) _ G hG) ?_
  rintro r G' ⟨⟨b, rfl⟩, dY⟩
  simp +contextual only [sZ, ↓reduceIte, reduceCtorEq]
  exact HN (Fw.yg _ _ H0) hG dY
 refine ⟨by simp; omega, ag (Xr (Fw.yg _ _ H0) 73 [.ptr (H.length + 1) 0] rfl l c73 hF) ?_⟩
 rintro r G ⟨⟨b, rfl⟩, hG⟩
 simp +contextual only [sZ, ↓reduceIte, reduceCtorEq]
 refine aW H.length (Nat.le_refl _) (by rw [ay, if_pos rfl]; rfl) ?_
 rw [ay, if_pos rfl]
 refine ⟨⟨!b, rfl⟩, ?_⟩
 refine Eq.trans ?_ T8
 apply List.ext_getElem?
 intro j
 rw [List.getElem?_take, List.getElem?_take]
 by_cases hj : j < H.length
 ·rw [if_pos hj, if_pos hj]; exact hG.get j (by omega)
 ·rw [if_neg hj, if_neg hj]
end Go.aL
end
section
set_option maxRecDepth 100000
namespace Go.aL
open Go Go.Proofs Go.fw
def Lv (o : gF) : Prop := o.args.length ≤ 20 ∧ o.name.size ≤ 200
theorem wb {α : Type} [Inhabited α] {p : α → Prop} {l : List α} (h : ∀ j, j < l.length → p (l.getD j default)) : ∀ x ∈ l, p x := fun x hx => by
 obtain ⟨n, hn, rfl⟩ := List.getElem_of_mem hx
 have := h n hn
 rwa [List.getD_eq_getElem?_getD, List.getElem?_eq_getElem hn] at this
theorem c68 (o : gF) : ∃ b, Pure Tryz.prog 68 [o.av] (.bool b) ∧ (b = false → Lv o) := by
 refine ⟨decide (20 < (o.args.length : Int)) || decide (200 < (o.name.size : Int)), fun H => k68.2.calls rfl ?_, fun h => by simp at h; exact ⟨by omega, by omega⟩⟩
 simp only [k68, aJ]
 simp +contextual only [aC, sZ, Nat.reduceEqDiff, Nat.reduceAdd, ↓reduceIte, reduceCtorEq]
 refine fun _ => ⟨fun h => a9 rfl ?_, fun h => a9 rfl ?_⟩
 ·have h' : ¬ (20 : Int) < o.args.length := by omega
  rw [decide_eq_false h', Bool.false_or]
 ·rw [decide_eq_true h, Bool.true_or]
theorem c70 (s : ByteArray) : ∃ b, Pure Tryz.prog 70 [.str s] (.bool b) ∧ (b = false → s.size ≤ 200) := by
 refine ⟨decide (200 < (s.size : Int)), fun H => k70.2.calls rfl ?_, fun h => by simp at h; omega⟩
 simp only [k70, aJ]
 simp +contextual only [sZ, Nat.reduceAdd, ↓reduceIte, reduceCtorEq]
 exact a9 rfl rfl
theorem Xs (l : List gF) : ∀ H, au Tryz.prog 128 [.aq 0 (ow l), .fn (.func 68) [] []] H fun r H' => (∃ n, r = .int .i64 n ∧ (n < 0 → ∀ o ∈ l, Lv o)) ∧ H' = H := by
 refine fun H => Us.2.calls rfl ?_
 simp only [Us, aJ]
 simp +contextual only [aC, sZ, Nat.reduceEqDiff, Nat.reduceAdd, ↓reduceIte, reduceCtorEq]
 intro hl
 have fin : ∀ (n : Int), (n < 0 → ∀ o ∈ l, Lv o) → bV H.length [.t 4] [(4, .int .i64 n)] H fun r H' => (∃ n, r = .int .i64 n ∧ (n < 0 → ∀ o ∈ l, Lv o)) ∧ H' = H := fun n hn =>
  aW H.length (Nat.le_refl _) (by rw [ay, if_pos rfl]; rfl) ⟨⟨n, by rw [ay, if_pos rfl], hn⟩, List.take_length⟩
 refine aD l.length (fun i => ∀ j, j < i → Lv (l.getD j default)) (fun i => [(0, .aq 0 (ow l)), (1, .fn (.func 68) [] []), (7, .int .i64 l.length), (8, .int .i64 i)]) (fun _ => H) ⟨fun j h => by omega, aB _ _ _⟩ fun i hi hI => ?_
 simp +contextual only [aC, sZ, Nat.reduceEqDiff, Nat.reduceAdd, ↓reduceIte, reduceCtorEq]
 obtain ⟨b, hb, hq⟩ := c68 (l.getD i default)
 refine ⟨fun a8 => ?_, fun jL => fin _ fun _ => wb fun j hj => hI j (by have := dl jL; omega)⟩
 have a8 := b7 a8
 refine ⟨a8, af hb ?_⟩
 cases b with
 | true => simp +contextual only [sZ, Nat.reduceEqDiff, ↓reduceIte, reduceCtorEq]; exact fin _ fun h => by omega
 | false =>
   simp +contextual only [sZ, Nat.reduceEqDiff, ↓reduceIte, reduceCtorEq]
   refine ⟨i + 1, ⟨a8, fun j hj => ?_⟩, by omega, aH (by rw [ax i (by omega)]) rfl⟩
   by_cases e : j < i
   ·exact hI j e
   ·have : j = i := by omega
    subst this; exact hq rfl
theorem aaQ (l : List gF) : ∀ H, au Tryz.prog 67 [.aq 0 (ow l), .fn (.func 68) [] []] H fun r H' => (∃ b, r = .bool b ∧ (b = false → ∀ o ∈ l, Lv o)) ∧ H' = H := by
 refine fun H => k67.2.calls rfl ?_
 simp only [k67, aJ]
 simp +contextual only [sZ, Nat.reduceEqDiff, Nat.reduceAdd, ↓reduceIte, reduceCtorEq]
 refine ag (Xs l H) ?_
 rintro r G ⟨⟨n, rfl, hn⟩, rfl⟩
 simp +contextual only [sZ, ↓reduceIte, reduceCtorEq]
 exact aW _ (Nat.le_refl _) (by rw [ay, if_pos rfl]; rfl) ⟨⟨decide (0 ≤ n), by rw [ay, if_pos rfl], fun h => hn (by simpa using h)⟩, List.take_length⟩
theorem Xt (l : List ByteArray) : ∀ H, au Tryz.prog 129 [.aq 0 (strs l), .fn (.func 70) [] []] H fun r H' => (∃ n, r = .int .i64 n ∧ (n < 0 → ∀ o ∈ l, o.size ≤ 200)) ∧ H' = H := by
 refine fun H => Ut.2.calls rfl ?_
 simp only [Ut, aJ]
 simp +contextual only [aC, sZ, Nat.reduceEqDiff, Nat.reduceAdd, ↓reduceIte, reduceCtorEq]
 intro hl
 have fin : ∀ (n : Int), (n < 0 → ∀ o ∈ l, o.size ≤ 200) → bV H.length [.t 4] [(4, .int .i64 n)] H fun r H' => (∃ n, r = .int .i64 n ∧ (n < 0 → ∀ o ∈ l, o.size ≤ 200)) ∧ H' = H := fun n hn =>
  aW H.length (Nat.le_refl _) (by rw [ay, if_pos rfl]; rfl) ⟨⟨n, by rw [ay, if_pos rfl], hn⟩, List.take_length⟩
 refine aD l.length (fun i => ∀ j, j < i → (l.getD j default).size ≤ 200) (fun i => [(0, .aq 0 (strs l)), (1, .fn (.func 70) [] []), (7, .int .i64 l.length), (8, .int .i64 i)]) (fun _ => H) ⟨fun j h => by omega, aB _ _ _⟩ fun i hi hI => ?_
 simp +contextual only [aC, sZ, Nat.reduceEqDiff, Nat.reduceAdd, ↓reduceIte, reduceCtorEq]
 obtain ⟨b, hb, hq⟩ := c70 (l.getD i default)
 refine ⟨fun a8 => ?_, fun jL => fin _ fun _ => wb fun j hj => hI j (by have := dl jL; omega)⟩
 have a8 := b7 a8
 refine ⟨a8, af hb ?_⟩
 cases b with
 | true => simp +contextual only [sZ, Nat.reduceEqDiff, ↓reduceIte, reduceCtorEq]; exact fin _ fun h => by omega
 | false =>
   simp +contextual only [sZ, Nat.reduceEqDiff, ↓reduceIte, reduceCtorEq]
   refine ⟨i + 1, ⟨a8, fun j hj => ?_⟩, by omega, aH (by rw [ax i (by omega)]) rfl⟩
   by_cases e : j < i
   ·exact hI j e
   ·have : j = i := by omega
    subst this; exact hq rfl
theorem aaR (l : List ByteArray) : ∀ H, au Tryz.prog 69 [.aq 0 (strs l), .fn (.func 70) [] []] H fun r H' => (∃ b, r = .bool b ∧ (b = false → ∀ o ∈ l, o.size ≤ 200)) ∧ H' = H := by
 refine fun H => k69.2.calls rfl ?_
 simp only [k69, aJ]
 simp +contextual only [sZ, Nat.reduceEqDiff, Nat.reduceAdd, ↓reduceIte, reduceCtorEq]
 refine ag (Xt l H) ?_
 rintro r G ⟨⟨n, rfl, hn⟩, rfl⟩
 simp +contextual only [sZ, ↓reduceIte, reduceCtorEq]
 exact aW _ (Nat.le_refl _) (by rw [ay, if_pos rfl]; rfl) ⟨⟨decide (0 ≤ n), by rw [ay, if_pos rfl], fun h => hn (by simpa using h)⟩, List.take_length⟩
structure X9 (s : Sg) (ps ss : List Int) : Prop where
 h1 : s.ops.length ≤ 40
 h2 : s.aY.length ≤ 40
 h3 : ps.length ≤ 80
 h4 : ss.length ≤ 80
 h5 : ∀ o ∈ s.ops, Lv o
 h6 : ∀ x ∈ s.aY, x.size ≤ 200
theorem c18 (s : Sg) (ps ss : List Int) (H : List aa) : au Tryz.prog 18 [s.av, eE ps ss] H fun r H' => (∃ b, r = .bool b ∧ (b = true → X9 s ps ss)) ∧ H' = H := by
 refine k18.2.calls rfl ?_
 simp only [k18, aJ]
 have fin : ∀ (b : Bool), (b = true → X9 s ps ss) → bV H.length [.t 4] [(4, .bool b)] H fun r H' => (∃ b, r = .bool b ∧ (b = true → X9 s ps ss)) ∧ H' = H := fun b hb =>
  aW H.length (Nat.le_refl _) (by rw [ay, if_pos rfl]; rfl) ⟨⟨b, by rw [ay, if_pos rfl], hb⟩, List.take_length⟩
 have finf := fin false (fun h => by cases h)
 obtain ⟨q1, q2, q3, q4, q5, q6⟩ := bh ps ss
 simp +contextual only [aC, q1, tw, vJ, aw, sZ, Nat.reduceEqDiff, Nat.reduceAdd, ↓reduceIte, reduceCtorEq]
 refine fun _ => ⟨fun h1 _ => ⟨fun h2 _ => ⟨fun h3 _ => ⟨fun h4 => ag (aaQ s.ops H) ?_, fun _ => finf⟩, fun _ => finf⟩, fun _ => finf⟩, fun _ => finf⟩
 rintro r G ⟨⟨b, rfl, hb⟩, rfl⟩
 cases b with
 | true => simp +contextual only [sZ, Nat.reduceEqDiff, ↓reduceIte, reduceCtorEq]; exact finf
 | false =>
   simp +contextual only [aC, sZ, Nat.reduceEqDiff, Nat.reduceAdd, ↓reduceIte]
   refine ag (aaR s.aY _) ?_
   rintro r G ⟨⟨d, rfl, hd⟩, rfl⟩
   simp +contextual only [sZ, Nat.reduceEqDiff, ↓reduceIte, reduceCtorEq]
   exact fin _ fun h => ⟨by omega, by omega, by omega, by omega, hb rfl, hd (by simpa using h)⟩
end Go.aL
end
section
set_option maxRecDepth 100000
namespace Go.aL
open Go Go.Proofs
def S5 (c : UInt8) : Prop := ¬ ((c.toNat : Int) < 33 ∨ 126 < (c.toNat : Int) ∨ (c.toNat : Int) = 40 ∨ (c.toNat : Int) = 41 ∨ (c.toNat : Int) = 44)
def nD (s : ByteArray) : Prop := (∀ i, i < s.size → S5 (s.data.toList.getD i 0)) ∧ 1 ≤ s.size ∧ s.size ≤ 32
theorem jP {P : Prop} (h : Decidable P) {H : List aa} {s : Nat} (hp : ¬ P) : bV H.length [.t s] [(s, .bool false)] H fun r H' => r = .bool (decide P) ∧ H' = H := a9 rfl (by simp [hp])
open Classical in
theorem Xu (s : ByteArray) (hs : s.size ≤ 200) : Pure Tryz.prog 195 [.str s] (.bool (decide (nD s))) := by
 refine fun H => UZ.2.calls rfl ?_
 simp only [UZ, aJ]
 simp +contextual only [sZ, Nat.reduceAdd, ↓reduceIte, reduceCtorEq]
 refine aD s.size (fun i => ∀ j, j < i → S5 (s.data.toList.getD j 0))
  (fun i => [(0, .str s), (3, .int .i64 i)]) (fun i => H) ⟨fun j h => by omega, aB _ _ _⟩ fun i hi hI => ?_
 simp +contextual only [Zv, sZ, Nat.reduceEqDiff, ↓reduceIte, reduceCtorEq, Int.reduceLT]
 have bad (hl : i < s.size) (h : ¬ S5 (s.data.toList.getD i 0)) : ¬ nD s := fun e => h (e.1 i hl)
 refine ⟨fun hl => ?_, fun hl => ⟨fun h1 => ?_, fun h1 => ?_⟩⟩
 ·have hl := b7 hl
  have bad := bad hl
  unfold S5 at bad
  refine ⟨hl, fun a => ⟨hl, fun b => ⟨hl, fun c => ⟨hl, fun d => ⟨hl, fun e => ?_, fun e => ?_⟩, fun d => ?_⟩, fun c => ?_⟩, fun b => ?_⟩, fun a => ?_⟩
  ·exact jP _ (bad (by omega))
  ·refine ⟨i + 1, ⟨hl, fun j hj => ?_⟩, by omega, aH (by rw [ax i (by omega)]) rfl⟩
   by_cases E3 : j < i
   ·exact hI j E3
   ·have : j = i := by omega
    subst this
    unfold S5; omega
  ·exact jP _ (bad (by omega))
  ·exact jP _ (bad (by omega))
  ·exact jP _ (bad (by omega))
  ·exact jP _ (bad (by omega))
 ·refine a9 rfl ?_
  have e : (((s.size : Nat) : Int) ≤ 32) = nD s := propext ⟨fun h => ⟨fun j hj => hI j (by omega), by omega, by omega⟩, fun h => by have := h.2.2; omega⟩
  simp only [e]
 ·exact jP _ fun e => by have := e.2.1; omega
def AB (s : ByteArray) : Nat := s.data.toList.countP (· == 95)
theorem Xv (s : ByteArray) (hs : s.size ≤ 200) : Pure Tryz.prog 196 [.str s] (.int .i64 (AB s : Nat)) := by
 unfold AB
 refine fun H => U0.2.calls rfl ?_
 simp only [U0, aJ]
 simp +contextual only [sZ, Nat.reduceEqDiff, Nat.reduceAdd, ↓reduceIte, reduceCtorEq]
 refine aD s.size (fun i => True)
  (fun i => [(0, .str s), (3, .int .i64 ((s.data.toList.take i).countP (· == 95) : Nat)), (4, .int .i64 i)]) (fun i => H) ⟨trivial, aB _ _ _⟩ fun i hi hI => ?_
 simp +contextual only [Zv, sZ, Nat.reduceEqDiff, ↓reduceIte, reduceCtorEq]
 have hz : s.data.toList.length = s.size := rfl
 have hc := List.countP_le_length (p := (· == (95 : UInt8))) (l := s.data.toList.take i)
 rw [List.length_take] at hc
 refine ⟨fun hl => ?_, fun hl => ?_⟩
 ·have hl := b7 hl
  have wJ : i < s.data.toList.length := hl
  have eg : s.data.toList.getD i 0 = s.data.toList[i] := by rw [List.getD_eq_getElem?_getD, List.getElem?_eq_getElem wJ]; rfl
  have et : (s.data.toList.take (i + 1)).countP (· == 95) = (s.data.toList.take i).countP (· == 95) + if (s.data.toList.getD i 0 == 95) = true then 1 else 0 := by
   rw [List.take_add_one, List.countP_append, eg, List.getElem?_eq_getElem wJ]; simp [List.countP_cons]
  refine ⟨hl, fun a => ⟨i + 1, hl, by omega, aH ?_ rfl⟩, fun a => ⟨i + 1, hl, by omega, aH ?_ rfl⟩⟩
  ·have : (s.data.toList.getD i 0 == 95) = true := by
    rw [beq_iff_eq]; apply UInt8.toNat_inj.1; simpa using Int.ofNat.inj a
   rw [ax i (by omega), ax _ (by omega), et, if_pos this]
  ·have : ¬ (s.data.toList.getD i 0 == 95) = true := by
    rw [beq_iff_eq]; intro h; rw [h] at a; exact a rfl
   rw [ax i (by omega), et, if_neg this]; rfl
 ·rw [List.take_of_length_le (by have := dl hl; omega)]
  exact a9 rfl rfl
def ky (s : Sg) (l : List Int) : Prop := ∀ x ∈ l, 0 ≤ x ∧ x < s.aY.length
open Classical in
theorem PR (s : Sg) (l : List Int) : Pure Tryz.prog 232 [s.av, .aq 0 (ints l)] (.bool (decide (ky s l))) := by
 refine fun H => Vm.2.calls rfl ?_
 simp only [Vm, aJ]
 simp +contextual only [aC, sZ, Nat.reduceEqDiff, Nat.reduceAdd, ↓reduceIte, reduceCtorEq]
 refine aD l.length (fun i => ∀ j, j < i → 0 ≤ l.getD j 0 ∧ l.getD j 0 < s.aY.length)
  (fun i => [(1, .aq 0 (ints l)), (2, .aj s.av), (5, .int .i64 i)]) (fun i => H) ⟨fun j h => by omega, aB _ _ _⟩ fun i hi hI => ?_
 by_cases hl : i < l.length
 ·have bad (h : ¬ (0 ≤ l.getD i 0 ∧ l.getD i 0 < s.aY.length)) : ¬ ky s l := fun e => h (e _ (aP hl))
  have e0 : ((i : Int) < l.length) = True := eq_true (by omega)
  by_cases h1 : l.getD i 0 < 0
  ·have e1 : (l.getD i 0 < 0) = True := eq_true h1
   simp +contextual only [e0, e1, hl, decide_true, sZ, Nat.reduceEqDiff, ↓reduceIte, reduceCtorEq]
   exact fun _ => jP _ (bad (by omega))
  ·have e1 : (l.getD i 0 < 0) = False := eq_false h1
   by_cases h2 : s.aY.length ≤ l.getD i 0
   ·have e2 : ((s.aY.length : Int) ≤ l.getD i 0) = True := eq_true h2
    simp +contextual only [aC, e0, e1, e2, hl, decide_true, decide_false, sZ, Nat.reduceEqDiff, ↓reduceIte, reduceCtorEq]
    exact fun _ => jP _ (bad (by omega))
   ·have e2 : ((s.aY.length : Int) ≤ l.getD i 0) = False := eq_false h2
    simp +contextual only [aC, e0, e1, e2, hl, decide_true, decide_false, sZ, Nat.reduceEqDiff, ↓reduceIte]
    refine fun _ => ⟨i + 1, ⟨hl, fun j hj => ?_⟩, by omega, aH (by rw [ax i (by omega)]) rfl⟩
    by_cases E3 : j < i
    ·exact hI j E3
    ·have : j = i := by omega
     subst this
     exact ⟨by omega, by omega⟩
 ·have e0 : ((i : Int) < l.length) = False := eq_false (by omega)
  simp +contextual only [e0, sZ, Nat.reduceEqDiff, ↓reduceIte, reduceCtorEq]
  refine fun _ => a9 rfl ?_
  have : ky s l := fun x hx => by
   obtain ⟨n, hn, rfl⟩ := List.getElem_of_mem hx
   have := hI n (by omega)
   rwa [List.getD_eq_getElem?_getD, List.getElem?_eq_getElem hn] at this
  simp [this]
def Lw (s : Sg) (o : gF) : Prop := nD o.name ∧ AB o.name ≠ o.name.size ∧ (AB o.name = 0 ∨ AB o.name = o.args.length) ∧ o.args.length ≤ 8 ∧ ky s o.args ∧ ky s [o.Az]
theorem KZ (a : Int) : [AV.int .i64 a] = ints [a] := rfl
open Classical in
theorem aaS (s : Sg) (o : gF) (ho : Lv o) : Pure Tryz.prog 197 [s.av, o.av] (.bool (decide (Lw s o))) := by
 have e1 := Xv o.name ho.2
 have e2 := Xu o.name ho.2
 have hb : AB o.name ≤ o.name.size := List.countP_le_length (p := (· == (95 : UInt8))) (l := o.name.data.toList)
 have e3 := PR s o.args
 have e4 := PR s [o.Az]
 have hR : Lw s o = (nD o.name ∧ AB o.name ≠ o.name.size ∧ (AB o.name = 0 ∨ AB o.name = o.args.length) ∧ o.args.length ≤ 8 ∧ ky s o.args ∧ ky s [o.Az]) := rfl
 refine fun H => U1.2.calls rfl ?_
 simp only [U1, aJ]
 simp +contextual only [aC, sZ, Nat.reduceEqDiff, Nat.reduceAdd, ↓reduceIte, reduceCtorEq]
 refine af e1 ?_
 simp +contextual only [aC, sZ, Nat.reduceEqDiff, Nat.reduceAdd, ↓reduceIte]
 refine af e2 ?_
 have ha := ho.1
 generalize AB o.name = n at *
 by_cases hn : nD o.name
 ·rw [decide_eq_true hn]
  by_cases h1 : n = o.name.size
  ·have f1 : ((n : Int) = o.name.size) = True := eq_true (by omega)
   simp +contextual only [aC, f1, decide_true, sZ, Nat.reduceEqDiff, ↓reduceIte, reduceCtorEq]
   exact jP _ (by rw [hR]; exact fun e => e.2.1 h1)
  have f1 : ((n : Int) = o.name.size) = False := eq_false (by omega)
  by_cases h2 : n = 0 ∨ n = o.args.length
  ·have hz : (0 < (n : Int)) = False ∧ (True ∧ True) = True ∨ (0 < (n : Int)) = True ∧ ((n : Int) = o.args.length) = True := by
    by_cases h0 : n = 0
    ·exact .inl ⟨eq_false (by omega), by simp⟩
    ·exact .inr ⟨eq_true (by omega), eq_true (by omega)⟩
   rcases hz with ⟨f2, f3⟩ | ⟨f2, f3⟩
   all_goals
    simp +contextual only [aC, f1, f2, f3, decide_false, decide_true, sZ, Nat.reduceEqDiff, Nat.reduceAdd, ↓reduceIte, reduceCtorEq]
    refine fun _ => ⟨fun h3 => af e3 ?_, fun h3 => jP _ (by rw [hR]; exact fun e => by have := e.2.2.2.1; omega)⟩
    by_cases h4 : ky s o.args
    ·rw [decide_eq_true h4]
     simp +contextual only [aC, KZ, sZ, Nat.reduceEqDiff, Nat.reduceAdd, ↓reduceIte]
     refine af e4 ?_
     simp +contextual only [sZ, Nat.reduceEqDiff, ↓reduceIte, reduceCtorEq]
     refine a9 rfl ?_
     have : Lw s o = ky s [o.Az] := by rw [hR]; exact propext ⟨fun e => e.2.2.2.2.2, fun e => ⟨hn, h1, h2, by omega, h4, e⟩⟩
     simp only [this]
    ·rw [decide_eq_false h4]
     simp +contextual only [sZ, Nat.reduceEqDiff, ↓reduceIte, reduceCtorEq]
     exact jP _ (by rw [hR]; exact fun e => h4 e.2.2.2.2.1)
  ·have f2 : (0 < (n : Int)) = True := eq_true (by omega)
   have f3 : ((n : Int) = o.args.length) = False := eq_false (by omega)
   simp +contextual only [aC, f1, f2, f3, decide_false, decide_true, sZ, Nat.reduceEqDiff, ↓reduceIte, reduceCtorEq]
   exact fun _ => jP _ (by rw [hR]; exact fun e => h2 e.2.2.1)
 ·rw [decide_eq_false hn]
  simp +contextual only [sZ, Nat.reduceEqDiff, ↓reduceIte, reduceCtorEq]
  exact jP _ (by rw [hR]; exact fun e => hn e.1)
end Go.aL
end
section
set_option maxRecDepth 100000
namespace Go.aL
open Go Go.Proofs
def TC (s : Sg) (i : Nat) : Prop := nD (s.aY.getD i default) ∧ AB (s.aY.getD i default) = 0 ∧ ∀ k, k < i → s.aY.getD k default ≠ s.aY.getD i default
def TD (a b : gF) : Prop := a.name = b.name ∧ a.Az = b.Az ∧ a.args = b.args
def Xw (s : Sg) (i : Nat) : Prop := Lw s (s.ops.getD i default) ∧ ∀ k, k < i → ¬ TD (s.ops.getD k default) (s.ops.getD i default)
def qL (s : Sg) : Prop := s.aY.length ≤ 64 ∧ s.ops.length ≤ 256 ∧ (∀ i, i < s.aY.length → TC s i) ∧ ∀ i, i < s.ops.length → Xw s i
theorem iC {p : Nat → Prop} {i : Nat} (h : ∀ j, j < i → p j) (h' : p i) : ∀ j, j < i + 1 → p j := fun j hj => by
 by_cases e : j < i
 ·exact h j e
 ·have : j = i := by omega
  subst this; exact h'
theorem Oj {α : Type} [Inhabited α] {l : List α} {i : Nat} (h : i < l.length) : l.getD i default ∈ l := by
 rw [List.getD_eq_getElem?_getD, List.getElem?_eq_getElem h]; exact List.getElem_mem h
open Classical in
theorem aaT (s : Sg) (ho : ∀ o ∈ s.ops, Lv o) (hs : ∀ x ∈ s.aY, x.size ≤ 200) (h40 : s.ops.length ≤ 40) (h41 : s.aY.length ≤ 40) : Pure Tryz.prog 145 [s.av] (.bool (decide (qL s))) := by
 refine fun H => UB.2.calls rfl ?_
 simp only [UB, aJ]
 have f1 : (64 < (s.aY.length : Int)) = False := eq_false (by omega)
 have f2 : (256 < (s.ops.length : Int)) = False := eq_false (by omega)
 simp +contextual only [aC, f1, f2, decide_false, sZ, Nat.reduceEqDiff, Nat.reduceAdd, ↓reduceIte]
 refine fun _ _ => aD s.aY.length (fun i => ∀ j, j < i → TC s j) (fun i => [(1, .aj s.av), (3, .int .i64 i)]) (fun i => H) ⟨fun j h => by omega, aB _ _ _⟩ fun i hi hI => ?_
 by_cases hl : i < s.aY.length
 ·have e0 : ((i : Int) < s.aY.length) = True := eq_true (by omega)
  have bad (h : ¬ TC s i) : ¬ qL s := fun e => h (e.2.2.1 i hl)
  have hx := hs _ (Oj hl)
  have e1 := Xu _ hx
  have e2 := Xv _ hx
  have hR : TC s i = (nD (s.aY.getD i default) ∧ AB (s.aY.getD i default) = 0 ∧ ∀ k, k < i → s.aY.getD k default ≠ s.aY.getD i default) := rfl
  simp +contextual only [aC, e0, hl, sZ, Nat.reduceEqDiff, Nat.reduceAdd, ↓reduceIte]
  refine fun _ => af e1 ?_
  by_cases h1 : nD (s.aY.getD i default)
  ·rw [decide_eq_true h1]
   simp +contextual only [aC, hl, sZ, Nat.reduceEqDiff, Nat.reduceAdd, ↓reduceIte]
   refine af e2 ?_
   by_cases h2 : AB (s.aY.getD i default) = 0
   ·rw [h2]
    have e9 : (0 < ((0 : Nat) : Int)) = False := eq_false (by omega)
    simp +contextual only [e9, decide_false, sZ, Nat.reduceEqDiff, ↓reduceIte]
    refine aD i (fun k => ∀ j, j < k → s.aY.getD j default ≠ s.aY.getD i default) (fun k => [(1, .aj s.av), (3, .int .i64 i), (4, .int .i64 k)]) (fun i => H) ⟨fun j h => by omega, aB _ _ _⟩ fun k hk hK => ?_
    by_cases nJ : k < i
    ·have e3 : ((k : Int) < i) = True := eq_true (by omega)
     have w7 : k < s.aY.length := by omega
     by_cases h3 : s.aY.getD k default = s.aY.getD i default
     ·simp +contextual only [aC, e3, hl, w7, pj, h3, decide_true, sZ, Nat.reduceEqDiff, ↓reduceIte, reduceCtorEq]
      exact jP _ (bad (by rw [hR]; exact fun e => e.2.2 k nJ h3))
     ·simp +contextual only [aC, e3, hl, w7, pj, h3, decide_false, sZ, Nat.reduceEqDiff, ↓reduceIte]
      exact ⟨k + 1, ⟨nJ, iC hK h3⟩, by omega, aH (by rw [ax k (by omega)]) rfl⟩
    ·have e3 : ((k : Int) < i) = False := eq_false (by omega)
     simp +contextual only [e3, sZ, Nat.reduceEqDiff, ↓reduceIte]
     exact ⟨i + 1, ⟨hl, iC hI (by rw [hR]; exact ⟨h1, h2, fun j hj => hK j (by omega)⟩)⟩, by omega, aH (by rw [ax i (by omega)]) rfl⟩
   ·have e3 : (0 < ((AB (s.aY.getD i default) : Nat) : Int)) = True := eq_true (by omega)
    simp +contextual only [e3, decide_true, sZ, Nat.reduceEqDiff, ↓reduceIte, reduceCtorEq]
    exact jP _ (bad (by rw [hR]; exact fun e => h2 e.2.1))
  ·rw [decide_eq_false h1]
   simp +contextual only [sZ, Nat.reduceEqDiff, ↓reduceIte, reduceCtorEq]
   exact jP _ (bad (by rw [hR]; exact fun e => h1 e.1))
 have e0 : ((i : Int) < s.aY.length) = False := eq_false (by omega)
 have SW : ∀ i, i < s.aY.length → TC s i := fun j hj => hI j (by omega)
 simp +contextual only [aC, e0, sZ, Nat.reduceEqDiff, ↓reduceIte]
 refine fun _ => aD s.ops.length (fun i => ∀ j, j < i → Xw s j) (fun i => [(1, .aj s.av), (5, .int .i64 i)]) (fun i => H) ⟨fun j h => by omega, aB _ _ _⟩ fun i hi hI => ?_
 by_cases hl : i < s.ops.length
 ·have e0 : ((i : Int) < s.ops.length) = True := eq_true (by omega)
  have bad (h : ¬ Xw s i) : ¬ qL s := fun e => h (e.2.2.2 i hl)
  have e1 := aaS s _ (ho _ (Oj hl))
  have hR : Xw s i = (Lw s (s.ops.getD i default) ∧ ∀ k, k < i → ¬ TD (s.ops.getD k default) (s.ops.getD i default)) := rfl
  simp +contextual only [aC, e0, hl, sZ, Nat.reduceEqDiff, ↓reduceIte]
  refine fun _ => aI e1 ?_
  by_cases h1 : Lw s (s.ops.getD i default)
  ·rw [decide_eq_true h1]
   simp +contextual only [sZ, Nat.reduceEqDiff, ↓reduceIte]
   refine aD i (fun k => ∀ j, j < k → ¬ TD (s.ops.getD j default) (s.ops.getD i default)) (fun k => [(1, .aj s.av), (5, .int .i64 i), (6, .int .i64 k)]) (fun i => H) ⟨fun j h => by omega, aB _ _ _⟩ fun k hk hK => ?_
   by_cases nJ : k < i
   ·have e3 : ((k : Int) < i) = True := eq_true (by omega)
    have w7 : k < s.ops.length := by omega
    have next (h : ¬ TD (s.ops.getD k default) (s.ops.getD i default)) : ∃ j, (j ≤ i ∧ ∀ j_1, j_1 < j → ¬ TD (s.ops.getD j_1 default) (s.ops.getD i default)) ∧ i - j < i - k ∧ sle H.length [(1, .aj s.av), (5, .int .i64 i), (6, .int .i64 (IntKind.i64.wrap ((k : Int) + 1)))] H [(1, .aj s.av), (5, .int .i64 i), (6, .int .i64 j)] H :=
     ⟨k + 1, ⟨nJ, iC hK h⟩, by omega, aH (by rw [ax k (by omega)]) rfl⟩
    by_cases h2 : (s.ops.getD k default).name = (s.ops.getD i default).name
    ·by_cases h3 : (s.ops.getD k default).Az = (s.ops.getD i default).Az
     ·simp +contextual only [aC, e3, hl, w7, pj, h2, h3, decide_true, sZ, Nat.reduceEqDiff, ↓reduceIte]
      refine aI (Zb _ _ _ _) ?_
      by_cases h4 : (s.ops.getD k default).args = (s.ops.getD i default).args
      ·simp +contextual only [h4, decide_true, sZ, Nat.reduceEqDiff, ↓reduceIte, reduceCtorEq]
       exact jP _ (bad (by rw [hR]; exact fun e => e.2 k nJ ⟨h2, h3, h4⟩))
      ·simp +contextual only [h4, decide_false, sZ, Nat.reduceEqDiff, ↓reduceIte]
       exact next fun e => h4 e.2.2
     ·simp +contextual only [aC, e3, hl, w7, pj, h2, h3, decide_true, decide_false, sZ, Nat.reduceEqDiff, ↓reduceIte]
      exact next fun e => h3 e.2.1
    ·simp +contextual only [aC, e3, hl, w7, pj, h2, decide_false, sZ, Nat.reduceEqDiff, ↓reduceIte]
     exact next fun e => h2 e.1
   ·have e3 : ((k : Int) < i) = False := eq_false (by omega)
    simp +contextual only [e3, sZ, Nat.reduceEqDiff, ↓reduceIte]
    exact ⟨i + 1, ⟨hl, iC hI (by rw [hR]; exact ⟨h1, fun j hj => hK j (by omega)⟩)⟩, by omega, aH (by rw [ax i (by omega)]) rfl⟩
  ·rw [decide_eq_false h1]
   simp +contextual only [sZ, Nat.reduceEqDiff, ↓reduceIte, reduceCtorEq]
   exact jP _ (bad (by rw [hR]; exact fun e => h1 e.1))
 ·have e0 : ((i : Int) < s.ops.length) = False := eq_false (by omega)
  simp +contextual only [aC, e0, sZ, Nat.reduceEqDiff, ↓reduceIte, reduceCtorEq]
  refine fun _ => a9 rfl ?_
  have : qL s := ⟨by omega, by omega, SW, fun j hj => hI j (by omega)⟩
  simp [this]
end Go.aL
end
section
set_option maxRecDepth 100000
namespace Go.aL
open Go Go.Proofs Go.fw
open Classical in
theorem c82 (s : Sg) (ho : ∀ o ∈ s.ops, Lv o) (hs : ∀ x ∈ s.aY, x.size ≤ 200) (h40 : s.ops.length ≤ 40) (h41 : s.aY.length ≤ 40) : Pure Tryz.prog 82 [s.av] (.int .i64 (if qL s then 0 else 40)) := by
 refine fun H => k82.2.calls rfl ?_
 simp only [k82, aJ]
 simp +contextual only [aC, sZ, Nat.reduceEqDiff, Nat.reduceAdd, ↓reduceIte]
 refine af (aaT s ho hs h40 h41) ?_
 by_cases h : qL s
 ·rw [decide_eq_true h]
  simp +contextual only [sZ, ↓reduceIte, reduceCtorEq]
  exact a9 rfl (by rw [if_pos h])
 ·rw [decide_eq_false h]
  simp +contextual only [sZ, ↓reduceIte, reduceCtorEq]
  exact a9 rfl (by rw [if_neg h])
def Ya (ps ss : List Int) (i : Nat) : Prop := 0 ≤ ps.getD i 0 ∧ ps.getD i 0 ≤ 255 ∧ 1 ≤ ss.getD i 0 ∧ ss.getD i 0 ≤ 3 ∧ ∀ k, k < i → ¬ (ps.getD i 0 = ps.getD k 0 ∧ ¬ ss.getD i 0 = ss.getD k 0)
theorem CQ (ps ss : List Int) (n : Nat) : NW ps ss n ↔ ∀ i, i < n → Ya ps ss i := by
 constructor
 ·intro h i hi
  obtain ⟨a, b, c, d⟩ := h.CW i hi
  exact ⟨a, b, c, d, fun k hk e => e.2 (h.st i k hi (by omega) e.1)⟩
 ·intro h
  refine ⟨fun j hj => ⟨(h j hj).1, (h j hj).2.1, (h j hj).2.2.1, (h j hj).2.2.2.1⟩, fun j k hj hk e => ?_⟩
  rcases Nat.lt_trichotomy j k with g | g | g
  ·have := (h k hk).2.2.2.2 j g
   by_cases x : ss.getD j 0 = ss.getD k 0
   ·exact x
   ·exact absurd ⟨e.symm, fun y => x y.symm⟩ this
  ·rw [g]
  ·have := (h j hj).2.2.2.2 k g
   by_cases x : ss.getD j 0 = ss.getD k 0
   ·exact x
   ·exact absurd ⟨e, x⟩ this
open Classical in
theorem c83 (s : Sg) (ps ss : List Int) (h40 : s.ops.length ≤ 40) (h3 : ps.length ≤ 80) (h4 : ss.length ≤ 80) : Pure Tryz.prog 83 [s.av, eE ps ss] (.bool (decide (dP s ps ss))) := by
 refine fun H => k83.2.calls rfl ?_
 simp only [k83, aJ]
 obtain ⟨q1, q2, q3, q4, q5, q6⟩ := bh ps ss
 by_cases g1 : ps.length = s.ops.length
 rotate_left
 ·have f1 : ((ps.length : Int) = s.ops.length) = False := eq_false (by omega)
  simp +contextual only [aC, q1, tw, aw, f1, sZ, Nat.reduceEqDiff, Nat.reduceAdd, ↓reduceIte, reduceCtorEq]
  exact fun _ _ => jP _ fun e => g1 e.1
 by_cases g2 : ss.length = s.ops.length
 rotate_left
 ·have f1 : ((ps.length : Int) = s.ops.length) = True := eq_true (by omega)
  have f2 : ((ss.length : Int) = s.ops.length) = False := eq_false (by omega)
  simp +contextual only [aC, q1, tw, vJ, aw, f1, f2, decide_false, sZ, Nat.reduceEqDiff, Nat.reduceAdd, ↓reduceIte, reduceCtorEq]
  exact fun _ _ _ => jP _ fun e => g2 e.2.1
 have f1 : ((ps.length : Int) = s.ops.length) = True := eq_true (by omega)
 have f2 : ((ss.length : Int) = s.ops.length) = True := eq_true (by omega)
 simp +contextual only [aC, q1, tw, vJ, aw, f1, f2, sZ, Nat.reduceEqDiff, Nat.reduceAdd, ↓reduceIte, reduceCtorEq]
 refine fun _ _ _ => aD s.ops.length (fun i => ∀ j, j < i → Ya ps ss j) (fun i => [(2, .aj s.av), (3, .aj (eE ps ss)), (5, .int .i64 i)]) (fun i => H) ⟨fun j h => by omega, aB _ _ _⟩ fun i hi hI => ?_
 by_cases hl : i < s.ops.length
 ·have e0 : ((i : Int) < s.ops.length) = True := eq_true (by omega)
  have hp : i < ps.length := by omega
  have hq : i < ss.length := by omega
  have bad (h : ¬ Ya ps ss i) : ¬ dP s ps ss := fun e => h ((CQ _ _ _).1 e.2.2 i hp)
  have hR : Ya ps ss i = (0 ≤ ps.getD i 0 ∧ ps.getD i 0 ≤ 255 ∧ 1 ≤ ss.getD i 0 ∧ ss.getD i 0 ≤ 3 ∧ ∀ k, k < i → ¬ (ps.getD i 0 = ps.getD k 0 ∧ ¬ ss.getD i 0 = ss.getD k 0)) := rfl
  by_cases h : 0 ≤ ps.getD i 0 ∧ ps.getD i 0 ≤ 255 ∧ 1 ≤ ss.getD i 0 ∧ ss.getD i 0 ≤ 3
  ·have e1 : (ps.getD i 0 < 0) = False := eq_false (by omega)
   have e2 : (255 < ps.getD i 0) = False := eq_false (by omega)
   have e3 : (ss.getD i 0 < 1) = False := eq_false (by omega)
   have e4 : (3 < ss.getD i 0) = False := eq_false (by omega)
   simp +contextual only [aC, tw, vJ, e0, e1, e2, e3, e4, hp, hq, decide_false, sZ, Nat.reduceEqDiff, ↓reduceIte]
   refine fun _ => aD i (fun k => ∀ j, j < k → ¬ (ps.getD i 0 = ps.getD j 0 ∧ ¬ ss.getD i 0 = ss.getD j 0)) (fun k => [(2, .aj s.av), (3, .aj (eE ps ss)), (5, .int .i64 i), (6, .int .i64 k)]) (fun i => H) ⟨fun j h => by omega, aB _ _ _⟩ fun k hk hK => ?_
   by_cases nJ : k < i
   ·have e3 : ((k : Int) < i) = True := eq_true (by omega)
    have SS : k < ps.length := by omega
    have hq2 : k < ss.length := by omega
    have next (h : ¬ (ps.getD i 0 = ps.getD k 0 ∧ ¬ ss.getD i 0 = ss.getD k 0)) : ∃ j, (j ≤ i ∧ ∀ j_1, j_1 < j → ¬ (ps.getD i 0 = ps.getD j_1 0 ∧ ¬ ss.getD i 0 = ss.getD j_1 0)) ∧ i - j < i - k ∧ sle H.length [(2, .aj s.av), (3, .aj (eE ps ss)), (5, .int .i64 i), (6, .int .i64 (IntKind.i64.wrap ((k : Int) + 1)))] H [(2, .aj s.av), (3, .aj (eE ps ss)), (5, .int .i64 i), (6, .int .i64 j)] H :=
     ⟨k + 1, ⟨nJ, iC hK h⟩, by omega, aH (by rw [ax k (by omega)]) rfl⟩
    by_cases h2 : ps.getD i 0 = ps.getD k 0
    ·have e5 : (ps.getD i 0 = ps.getD k 0) = True := eq_true h2
     by_cases h3 : ss.getD i 0 = ss.getD k 0
     ·have e6 : (ss.getD i 0 = ss.getD k 0) = True := eq_true h3
      simp +contextual only [tw, vJ, e3, hp, hq, SS, hq2, e5, e6, decide_true, decide_false, not_true_eq_false, sZ, Nat.reduceEqDiff, ↓reduceIte]
      exact next fun e => e.2 h3
     ·simp +contextual only [tw, vJ, e3, hp, hq, SS, hq2, e5, h3, decide_true, not_false_eq_true, sZ, Nat.reduceEqDiff, ↓reduceIte, reduceCtorEq]
      exact jP _ (bad (by rw [hR]; exact fun e => e.2.2.2.2 k nJ ⟨h2, h3⟩))
    ·simp +contextual only [tw, e3, hp, SS, h2, decide_true, decide_false, sZ, Nat.reduceEqDiff, ↓reduceIte]
     exact next fun e => h2 e.1
   ·have e3 : ((k : Int) < i) = False := eq_false (by omega)
    simp +contextual only [e3, sZ, Nat.reduceEqDiff, ↓reduceIte]
    exact ⟨i + 1, ⟨hl, iC hI (by rw [hR]; exact ⟨h.1, h.2.1, h.2.2.1, h.2.2.2, fun j hj => hK j (by omega)⟩)⟩, by omega, aH (by rw [ax i (by omega)]) rfl⟩
  ·have bad := bad (by rw [hR]; exact fun e => h ⟨e.1, e.2.1, e.2.2.1, e.2.2.2.1⟩)
   have fin := jP (inferInstance : Decidable (dP s ps ss)) (H := H) (s := 4) bad
   have hz : ((ps.getD i 0 < 0) = True ∧ (True ∧ True) = True ∧ (True ∧ True) = True ∧ (True ∧ True) = True) ∨ ((ps.getD i 0 < 0) = False ∧ (255 < ps.getD i 0) = True ∧ (True ∧ True) = True ∧ (True ∧ True) = True) ∨ ((ps.getD i 0 < 0) = False ∧ (255 < ps.getD i 0) = False ∧ (ss.getD i 0 < 1) = True ∧ (True ∧ True) = True) ∨ ((ps.getD i 0 < 0) = False ∧ (255 < ps.getD i 0) = False ∧ (ss.getD i 0 < 1) = False ∧ (3 < ss.getD i 0) = True) := by
    have y := and_self True
    by_cases a : ps.getD i 0 < 0
    ·exact .inl ⟨eq_true a, y, y, y⟩
    by_cases b : 255 < ps.getD i 0
    ·exact .inr (.inl ⟨eq_false a, eq_true b, y, y⟩)
    by_cases c : ss.getD i 0 < 1
    ·exact .inr (.inr (.inl ⟨eq_false a, eq_false b, eq_true c, y⟩))
    ·exact .inr (.inr (.inr ⟨eq_false a, eq_false b, eq_false c, eq_true (by omega)⟩))
   rcases hz with ⟨e1, e2, e3, e4⟩ | ⟨e1, e2, e3, e4⟩ | ⟨e1, e2, e3, e4⟩ | ⟨e1, e2, e3, e4⟩
   all_goals
    simp +contextual only [aC, tw, vJ, e0, e1, e2, e3, e4, hp, hq, decide_false, decide_true, sZ, Nat.reduceEqDiff, ↓reduceIte, reduceCtorEq]
    exact fun _ => fin
 ·have e0 : ((i : Int) < s.ops.length) = False := eq_false (by omega)
  simp +contextual only [aC, e0, sZ, Nat.reduceEqDiff, ↓reduceIte, reduceCtorEq]
  refine fun _ => a9 rfl ?_
  have : dP s ps ss := ⟨g1, g2, (CQ _ _ _).2 fun j hj => hI j (by omega)⟩
  simp [this]
open Classical in
theorem c25 (s : Sg) (ps ss : List Int) (hs : X9 s ps ss) : Pure Tryz.prog 25 [s.av, eE ps ss] (.int .i64 (if qL s then (if dP s ps ss then 0 else 60) else 40)) := by
 refine fun H => k25.2.calls rfl ?_
 simp only [k25, aJ]
 obtain ⟨q1, q2, q3, q4, q5, q6⟩ := bh ps ss
 simp +contextual only [aC, q1, sZ, Nat.reduceEqDiff, Nat.reduceAdd, ↓reduceIte, reduceCtorEq]
 refine af (c82 s hs.h5 hs.h6 hs.h1 hs.h2) ?_
 by_cases h : qL s
 ·rw [if_pos h]
  simp +contextual only [aC, q4, cC, sZ, Nat.reduceEqDiff, Nat.reduceAdd, ↓reduceIte]
  refine af (c83 s ps ss hs.h1 hs.h3 hs.h4) ?_
  by_cases h2 : dP s ps ss
  ·rw [decide_eq_true h2]
   simp +contextual only [sZ, ↓reduceIte, reduceCtorEq]
   exact a9 rfl (by rw [if_pos h, if_pos h2])
  ·rw [decide_eq_false h2]
   simp +contextual only [sZ, ↓reduceIte, reduceCtorEq]
   exact a9 rfl (by rw [if_pos h, if_neg h2])
 ·rw [if_neg h]
  simp +contextual only [sZ, Nat.reduceEqDiff, ↓reduceIte, reduceCtorEq, Int.reduceEq]
  exact a9 rfl (by rw [if_neg h])
end Go.aL
end
section
set_option maxRecDepth 100000
namespace Go.aL
open Go Go.Proofs Go.fw
theorem aaV (x : T) : Pure Tryz.prog 115 [x.av] (.int .i64 (if x.tree = true then 0 else 4)) := by
 refine fun H => Um.2.calls rfl ?_
 simp only [Um, aJ]
 simp +contextual only [sZ, Nat.reduceEqDiff, Nat.reduceAdd, ↓reduceIte]
 refine af (VX x) ?_
 cases h : x.tree with
 | true => simp +contextual only [sZ, ↓reduceIte, reduceCtorEq]; exact a9 rfl rfl
 | false => simp +contextual only [sZ, ↓reduceIte, reduceCtorEq]; exact a9 rfl rfl
theorem aaW (s : Sg) : ∀ t : T, t.shaped = true → Pure Tryz.prog 116 [s.av, t.av] (.bool (nw s t)) := by
 suffices h : ∀ N t, wt t ≤ N → t.shaped = true → Pure Tryz.prog 116 [s.av, t.av] (.bool (nw s t)) from fun t ht => h _ t (Nat.le_refl _) ht
 intro N
 induction N with
 | zero => intro t h; have := fQ t; omega
 | succ N ih =>
 intro t hN hs H
 have hk := nk hs
 have ih : ∀ x ∈ t.l, Pure Tryz.prog 116 [s.av, x.av] (.bool (nw s x)) := fun x hx => ih x (by have := bU hx; omega) (hk.2 x hx)
 have hn : 0 ≤ t.n := by
  rw [T.fU] at hs
  simp only [Bool.and_eq_true, Bool.not_eq_true', Bool.or_eq_false_iff, decide_eq_false_iff_not] at hs
  have := hs.1.1.1.1
  omega
 obtain ⟨m, hm⟩ := Int.eq_ofNat_of_zero_le hn
 refine Un.2.calls rfl ?_
 simp only [Un, aJ]
 have e : nw s t = (!(decide (t.k = 2) && (decide ((s.ops.length : Int) ≤ t.n) || !decide ((t.l.length : Int) = ((s.ops.getD t.n.toNat default).args.length : Nat)))) && !(t.l.any fun x => !nw s x)) := by
  rw [← tX]; cases t; rfl
 have fin : (!(decide (t.k = 2) && (decide ((s.ops.length : Int) ≤ t.n) || !decide ((t.l.length : Int) = ((s.ops.getD t.n.toNat default).args.length : Nat))))) = false → bV H.length [.t 4] [(4, .bool false)] H fun r H' => r = .bool (nw s t) ∧ H' = H := by
  intro h
  rw [e, h]; exact a9 rfl rfl
 by_cases hh : t.k = 2 ∧ (s.ops.length : Int) ≤ t.n
 ·simp +contextual only [aC, hh.1, hh.2, decide_true, sZ, Nat.reduceEqDiff, Nat.reduceAdd, ↓reduceIte, reduceCtorEq]
  exact fin (by simp [hh.1, hh.2])
 have em : t.n.toNat = m := by omega
 by_cases TE : t.k = 2 ∧ ¬ (t.l.length : Int) = ((s.ops.getD m default).args.length : Nat)
 ·have NX : m < s.ops.length := by omega
  have Iy : ¬ (s.ops.length : Int) ≤ (m : Int) := by omega
  simp +contextual only [aC, TE.1, Iy, TE.2, hm, NX, aw, decide_true, decide_false, sZ, Nat.reduceEqDiff, Nat.reduceAdd, ↓reduceIte, reduceCtorEq]
  exact fin (by rw [em, decide_eq_true TE.1, decide_eq_false TE.2, decide_eq_false (by omega : ¬ (s.ops.length : Int) ≤ t.n)]; rfl)
 have hd : (!(decide (t.k = 2) && (decide ((s.ops.length : Int) ≤ t.n) || !decide ((t.l.length : Int) = ((s.ops.getD t.n.toNat default).args.length : Nat))))) = true := by
  rw [em]
  by_cases a : t.k = 2
  ·rw [decide_eq_false (fun b => hh ⟨a, b⟩), decide_eq_true (Classical.byContradiction fun b => TE ⟨a, b⟩)]; simp
  ·rw [decide_eq_false a]; rfl
 rw [hd] at e
 have hz : ((t.k = 2) = False ∧ (True ∧ True) = True ∧ (True ∧ True) = True ∧ (True ∧ True) = True) ∨ ((t.k = 2) = True ∧ (m < s.ops.length) = True ∧ ((s.ops.length : Int) ≤ (m : Int)) = False ∧ ((t.l.length : Int) = ((s.ops.getD m default).args.length : Nat)) = True) := by
  have y := and_self True
  by_cases a : t.k = 2
  ·exact .inr ⟨eq_true a, eq_true (by omega), eq_false (by omega), eq_true (Classical.byContradiction fun b => TE ⟨a, b⟩)⟩
  ·exact .inl ⟨eq_false a, y, y, y⟩
 rcases hz with ⟨e1, e2, e3, e4⟩ | ⟨e1, e2, e3, e4⟩
 all_goals
  simp +contextual only [aC, e1, e2, e3, e4, hm, aw, decide_true, decide_false, sZ, Nat.reduceEqDiff, Nat.reduceAdd, ↓reduceIte, reduceCtorEq]
  refine aD t.l.length (fun i => ∀ j, j < i → nw s (t.l.getD j default) = true) (fun i => [(2, .aj s.av), (3, .aj t.av), (5, .int .i64 i)]) (fun i => H) ⟨fun j h => by omega, aB _ _ _⟩ fun i hi hI => ?_
  by_cases hl : i < t.l.length
  ·have e5 : ((i : Int) < t.l.length) = True := eq_true (by omega)
   simp +contextual only [aC, e5, hl, sZ, Nat.reduceEqDiff, ↓reduceIte]
   refine fun _ => aI (ih _ (Oj hl)) ?_
   cases hb : nw s (t.l.getD i default) with
   | false =>
     simp +contextual only [sZ, Nat.reduceEqDiff, ↓reduceIte, reduceCtorEq]
     refine a9 rfl ?_
     have : (t.l.any fun x => !nw s x) = true := List.any_eq_true.2 ⟨_, Oj hl, by rw [hb]; rfl⟩
     rw [e, this]; rfl
   | true =>
     simp +contextual only [sZ, Nat.reduceEqDiff, ↓reduceIte]
     exact ⟨i + 1, ⟨hl, iC hI hb⟩, by omega, aH (by rw [ax i (by omega)]) rfl⟩
  ·have e5 : ((i : Int) < t.l.length) = False := eq_false (by omega)
   simp +contextual only [e5, sZ, Nat.reduceEqDiff, ↓reduceIte, reduceCtorEq]
   refine fun _ => a9 rfl ?_
   have : (t.l.any fun x => !nw s x) = false := by
    rw [List.any_eq_false]
    exact wb fun j hj => by rw [hI j (by omega)]; simp
   rw [e, this]; rfl
theorem c55 (s : Sg) (t : T) : Pure Tryz.prog 55 [s.av, t.av] (.bool (t.tree && nw s t)) := by
 refine fun H => k55.2.calls rfl ?_
 simp only [k55, aJ]
 simp +contextual only [aC, sZ, Nat.reduceEqDiff, Nat.reduceAdd, ↓reduceIte, reduceCtorEq]
 refine af (aaV t) ?_
 cases h : t.tree with
 | false =>
   simp +contextual only [Bool.false_eq_true, sZ, Nat.reduceEqDiff, ↓reduceIte, reduceCtorEq, Int.reduceEq]
   exact a9 rfl rfl
 | true =>
   simp +contextual only [aC, sZ, Nat.reduceEqDiff, Nat.reduceAdd, ↓reduceIte]
   refine af (aaW s t ((T.kM t).1 h).2.2) ?_
   simp +contextual only [sZ, Nat.reduceEqDiff, ↓reduceIte, reduceCtorEq]
   exact a9 rfl rfl
theorem aaX (s : Sg) (t : T) : Pure Tryz.prog 107 ([t.av] ++ [.aj s.av]) (.bool (!(t.tree && nw s t))) := by
 refine fun H => Uj.2.calls rfl ?_
 simp only [Uj, aJ]
 simp +contextual only [aC, sZ, Nat.reduceEqDiff, Nat.reduceAdd, ↓reduceIte, reduceCtorEq]
 refine af (c55 s t) ?_
 simp +contextual only [sZ, ↓reduceIte, reduceCtorEq]
 exact a9 rfl rfl
open Classical in
theorem c42 (s : Sg) (ps ss : List Int) (n : Int) (l : List T) (H : List aa) : au Tryz.prog 42 [s.av, eE ps ss, .int .i64 n, .aq 0 (cK l)] H fun r H' => (∃ b, r = .bool b ∧ (b = true → qL s ∧ dP s ps ss ∧ ∀ t ∈ l, (t.tree && nw s t) = true)) ∧ H' = H := by
 refine k42.2.calls rfl ?_
 simp only [k42, aJ]
 obtain ⟨q1, q2, q3, q4, q5, q6⟩ := bh ps ss
 have fin : ∀ (b : Bool), (b = true → qL s ∧ dP s ps ss ∧ ∀ t ∈ l, (t.tree && nw s t) = true) → bV H.length [.t 8] [(8, .bool b)] H fun r H' => (∃ b, r = .bool b ∧ (b = true → qL s ∧ dP s ps ss ∧ ∀ t ∈ l, (t.tree && nw s t) = true)) ∧ H' = H := fun b hb =>
  aW H.length (Nat.le_refl _) (by rw [ay, if_pos rfl]; rfl) ⟨⟨b, by rw [ay, if_pos rfl], hb⟩, List.take_length⟩
 have finf := fin false (fun h => by cases h)
 simp +contextual only [aC, q1, q4, cC, sZ, Nat.reduceEqDiff, Nat.reduceAdd, ↓reduceIte, reduceCtorEq]
 refine ag (c18 s ps ss _) ?_
 rintro r G ⟨⟨b, rfl, hb⟩, rfl⟩
 cases b with
 | false => simp +contextual only [sZ, Nat.reduceEqDiff, ↓reduceIte, reduceCtorEq]; exact finf
 | true =>
 have hb := hb rfl
 simp +contextual only [sZ, Nat.reduceEqDiff, Nat.reduceAdd, ↓reduceIte]
 refine ag (c19 n l _) ?_
 rintro r G ⟨⟨b, rfl⟩, rfl⟩
 cases b with
 | false => simp +contextual only [sZ, Nat.reduceEqDiff, ↓reduceIte, reduceCtorEq]; exact finf
 | true =>
 simp +contextual only [aC, q4, cC, sZ, Nat.reduceEqDiff, Nat.reduceAdd, ↓reduceIte]
 refine af (c25 s ps ss hb) ?_
 by_cases h1 : qL s
 rotate_left
 ·rw [if_neg h1]; simp +contextual only [sZ, Nat.reduceEqDiff, ↓reduceIte, reduceCtorEq, Int.reduceEq]; exact finf
 by_cases h2 : dP s ps ss
 rotate_left
 ·rw [if_pos h1, if_neg h2]; simp +contextual only [sZ, Nat.reduceEqDiff, ↓reduceIte, reduceCtorEq, Int.reduceEq]; exact finf
 rw [if_pos h1, if_pos h2]
 simp +contextual only [sZ, Nat.reduceEqDiff, Nat.reduceAdd, ↓reduceIte]
 refine af (SE 107 [.aj s.av] rfl _ l fun x _ => aaX s x) ?_
 simp +contextual only [sZ, Nat.reduceEqDiff, ↓reduceIte, reduceCtorEq]
 refine fin _ fun h => ⟨h1, h2, fun t ht => ?_⟩
 cases hc : t.tree && nw s t with
 | true => rfl
 | false =>
   have : (l.any fun x => !(x.tree && nw s x)) = true := List.any_eq_true.2 ⟨t, ht, by rw [hc]; rfl⟩
   rw [this] at h; cases h
end Go.aL
end
section
set_option maxRecDepth 100000
namespace Go.aL
open Go Go.Proofs Go.fw
theorem wc (f : Int → UInt8 → Int) (s : ByteArray) (stop : Nat) (h : stop ≤ s.size) : ∀ (i j : Nat) (b : Int), j + i = s.size → stop = s.size → (ByteArray.foldlM.loop (m := _root_.Id) (fun x y => pure (f x y)) s stop h i j b) = (s.data.toList.drop j).foldl f b
 | 0, j, b, e, e2 => by
   have : s.data.toList.drop j = [] := List.drop_of_length_le (by show s.size ≤ j; omega)
   rw [this]; unfold ByteArray.foldlM.loop
   rw [dif_neg (by omega)]; rfl
 | i + 1, j, b, e, e2 => by
   have hj : j < s.data.toList.length := by show j < s.size; omega
   unfold ByteArray.foldlM.loop
   rw [dif_pos (by omega), List.drop_eq_getElem_cons hj, List.foldl_cons]
   exact wc f s stop h i (j + 1) _ (by omega) e2
theorem Ol (s : ByteArray) : mv s 95 = (AB s : Int) := by
 have h1 : mv s 95 = s.data.toList.foldl (fun (n : Int) x => if x == (95 : Int).toNat.toUInt8 then n + 1 else n) ((0 : Nat) : Int) := by
  unfold mv ByteArray.foldl ByteArray.foldlM
  rw [dif_pos (Nat.le_refl _)]
  exact wc _ s _ _ s.size 0 _ (by omega) rfl
 have h2 : ∀ (l : List UInt8) (n : Nat), l.foldl (fun (n : Int) x => if x == (95 : Int).toNat.toUInt8 then n + 1 else n) (n : Int) = ((n + l.countP (· == (95 : UInt8)) : Nat) : Int) := by
  intro l
  induction l with
  | nil => intro n; simp
  | cons x r ih =>
    intro n
    rw [List.foldl_cons, List.countP_cons]
    by_cases hx : x = 95
    ·subst hx
     have := ih (n + 1)
     exact (this.trans (by simp; omega))
    ·have h95 : (x == (95 : Int).toNat.toUInt8) = false := by
      rw [beq_eq_false_iff_ne]; exact hx
     have h96 : (x == (95 : UInt8)) = false := by
      rw [beq_eq_false_iff_ne]; exact hx
     rw [h95, h96]
     exact (ih n).trans (by simp)
 rw [h1, h2]; simp [AB]
theorem Om {c : UInt8} (h : S5 c) : z9 c = false := by
 unfold S5 at h
 have e : (((c.toNat : Nat) : Int).toNat.toUInt8) = c := by simp
 unfold z9
 rw [e, firstIdx_nonneg]
 simp only [Bool.or_eq_false_iff, decide_eq_false_iff_not, List.any_eq_false]
 refine ⟨⟨by omega, by omega⟩, fun x hx Yi => ?_⟩
 rw [beq_iff_eq] at Yi
 subst Yi
 have hx : x = 40 ∨ x = 41 ∨ x = 44 := by simpa using hx
 rcases hx with rfl | rfl | rfl <;> exact h (by decide)
theorem FY {s : ByteArray} (h : nD s) : oL s = true := by
 obtain ⟨h1, h2, h3⟩ := h
 unfold oL
 simp only [Bool.and_eq_true, Bool.not_eq_true', decide_eq_false_iff_not, List.all_eq_true]
 refine ⟨⟨by omega, by omega⟩, fun c hc => ?_⟩
 obtain ⟨i, hi, rfl⟩ := List.getElem_of_mem hc
 have := Om (h1 i hi)
 rw [List.getD_eq_getElem?_getD, List.getElem?_eq_getElem hi] at this
 exact this
theorem S6 {s : ByteArray} (h : AB s = 0) : ¬ 0 ≤ NV s := by
 have hm : ∀ b ∈ s.data.toList, b ≠ 95 := fun b hb e => by
  have := List.countP_eq_zero.1 h b hb
  rw [e] at this; exact this rfl
 unfold NV
 split
 ·rename_i e
  exact absurd rfl (hm 95 (by rw [e]; simp [us]))
 ·rw [firstIdx_none s 95 hm]; omega
theorem CR {s : Sg} (h : ∀ i, i < s.aY.length → TC s i) : ∀ n i, i + n = s.aY.length → lX (s.aY.drop i) (s.aY.take i) = true
 | 0, i, e => by rw [List.drop_of_length_le (by omega)]; rfl
 | n + 1, i, e => by
   have hl : i < s.aY.length := by omega
   obtain ⟨h1, h2, h3⟩ := h i hl
   have hni : s.aY.getD i default ∉ s.aY.take i := fun hm => by
    obtain ⟨k, hk, e⟩ := List.getElem_of_mem hm
    rw [List.length_take] at hk
    refine h3 k (by omega) ?_
    rw [List.getElem_take] at e
    rw [← e, List.getD_eq_getElem?_getD, List.getElem?_eq_getElem (by omega)]; try rfl
   rw [sX hl, if_pos ⟨FY h1, S6 h2, hni⟩]
   have : s.aY.take i ++ [s.aY.getD i default] = s.aY.take (i + 1) := by
    rw [List.take_add_one, List.getD_eq_getElem?_getD, List.getElem?_eq_getElem hl]; rfl
   rw [this]
   exact CR h n (i + 1) (by omega)
theorem K0 {s : Sg} {l : List Int} (h : ky s l) : ∀ a ∈ l, Hz s.aY.length a = true := fun a ha => by
 obtain ⟨h1, h2⟩ := h a ha
 simp [Hz, h1, h2]
theorem Xx {s : Sg} {o : gF} (h : Lw s o) : qD o s.aY.length = true := by
 obtain ⟨h1, h2, h3, h4, h5, h6⟩ := h
 have hb : AB o.name ≤ o.name.size := List.countP_le_length (p := (· == (95 : UInt8))) (l := o.name.data.toList)
 unfold qD
 rw [Ol]
 simp only [Bool.and_eq_true, Bool.or_eq_true, decide_eq_true_eq, Bool.not_eq_true', List.any_eq_false]
 refine ⟨FY h1, by omega, by omega, by omega, K0 h6 _ (by simp), fun x hx => ?_⟩
 rw [K0 h5 x hx]; simp
theorem On {a b : Int} (ha : 0 ≤ a ∧ a < 64) (hb : 0 ≤ b ∧ b < 64) (h : HA a = HA b) : a = b := by
 have k : ∀ a : Int, 0 ≤ a ∧ a < 64 → (HA a).toNat = a.toNat := by
  intro a ha
  unfold HA
  have : IntKind.u8.wrap a = a := by
   simp only [IntKind.wrap]
   have h1 : IntKind.u8.bits = 8 := rfl
   have h2 : IntKind.u8.signed = false := rfl
   rw [h1, h2]
   simp
   omega
  rw [this, UInt8.toNat_ofNat']
  omega
 have := congrArg UInt8.toNat h
 rw [k a ha, k b hb] at this
 omega
theorem s6 : ∀ {l m : List Int}, (∀ a ∈ l, 0 ≤ a ∧ a < 64) → (∀ a ∈ m, 0 ≤ a ∧ a < 64) → l.map HA = m.map HA → l = m
 | [], [], _, _, _ => rfl
 | [], b :: m, _, _, h => by cases h
 | a :: l, [], _, _, h => by cases h
 | a :: l, b :: m, ha, hb, h => by
   simp only [List.map_cons, List.cons.injEq] at h
   rw [On (ha a (by simp)) (hb b (by simp)) h.1, s6 (fun x hx => ha x (by simp [hx])) (fun x hx => hb x (by simp [hx])) h.2]
theorem FZ : ∀ {l m r t : List UInt8}, (∀ x ∈ l, x ≠ 40) → (∀ x ∈ m, x ≠ 40) → l ++ 40 :: r = m ++ 40 :: t → l = m ∧ r = t
 | [], [], _, _, _, _, h => by simpa using h
 | [], b :: m, _, _, _, hb, h => by
   simp only [List.nil_append, List.cons_append, List.cons.injEq] at h
   exact absurd h.1.symm (hb b (by simp))
 | a :: l, [], _, _, ha, _, h => by
   simp only [List.nil_append, List.cons_append, List.cons.injEq] at h
   exact absurd h.1 (ha a (by simp))
 | a :: l, b :: m, _, _, ha, hb, h => by
   simp only [List.cons_append, List.cons.injEq] at h
   obtain ⟨h1, h2⟩ := FZ (fun x hx => ha x (by simp [hx])) (fun x hx => hb x (by simp [hx])) h.2
   exact ⟨by rw [h.1, h1], h2⟩
theorem Xy {s : ByteArray} (h : nD s) : ∀ x ∈ s.data.toList, x ≠ 40 := fun x hx e => by
 obtain ⟨i, hi, rfl⟩ := List.getElem_of_mem hx
 have := h.1 i hi
 rw [List.getD_eq_getElem?_getD, List.getElem?_eq_getElem hi, Option.getD_some, e] at this
 exact this (by decide)
theorem key_inj {s : Sg} {o q : gF} (h64 : s.aY.length ≤ 64) (ho : Lw s o) (hq : Lw s q) (h : mw o = mw q) : TD o q := by
 have h : HB o = HB q := by
  have := congrArg (fun b : ByteArray => b.data.toList) h
  simpa [mw] using this
 have f : ∀ o : gF, HB o = o.name.data.toList ++ 40 :: (o.args ++ [o.Az]).map HA := fun o => by
  unfold HB; simp [ByteArray.data_append]
 rw [f, f] at h
 obtain ⟨h1, h2⟩ := FZ (Xy ho.1) (Xy hq.1) h
 have g : ∀ o : gF, Lw s o → ∀ a ∈ o.args ++ [o.Az], 0 ≤ a ∧ a < 64 := fun o ho a ha => by
  rcases List.mem_append.1 ha with ha | ha
  ·have := ho.2.2.2.2.1 a ha; omega
  ·have := ho.2.2.2.2.2 a ha; omega
 have h3 := s6 (g o ho) (g q hq) h2
 have h4 := List.append_inj' h3 rfl
 refine ⟨?_, by simpa using h4.2, h4.1⟩
 have := Array.toList_inj.1 h1
 cases Qg : o.name; cases hq' : q.name
 rw [Qg, hq'] at this
 simpa using this
theorem K3 {s : Sg} (h64 : s.aY.length ≤ 64) (h : ∀ i, i < s.ops.length → Xw s i) : ∀ n i, i + n = s.ops.length → Aa s.aY.length (s.ops.drop i) ((s.ops.take i).map mw) = true
 | 0, i, e => by rw [List.drop_of_length_le (by omega)]; rfl
 | n + 1, i, e => by
   have hl : i < s.ops.length := by omega
   obtain ⟨h1, h3⟩ := h i hl
   have hni : mw (s.ops.getD i default) ∉ (s.ops.take i).map mw := fun hm => by
    obtain ⟨q, hq, e⟩ := List.mem_map.1 hm
    obtain ⟨k, hk, e2⟩ := List.getElem_of_mem hq
    rw [List.length_take] at hk
    rw [List.getElem_take] at e2
    have eq : s.ops.getD k default = q := by
     rw [← e2, List.getD_eq_getElem?_getD, List.getElem?_eq_getElem (by omega)]; try rfl
    have PV := h k (by omega)
    refine h3 k (by omega) ?_
    rw [eq]
    exact key_inj h64 (eq ▸ PV.1) h1 e
   rw [yj hl, if_pos ⟨Xx h1, hni⟩]
   have : (s.ops.take i).map mw ++ [mw (s.ops.getD i default)] = (s.ops.take (i + 1)).map mw := by
    rw [List.take_add_one, List.map_append, List.getD_eq_getElem?_getD, List.getElem?_eq_getElem hl]; rfl
   rw [this]
   exact K3 h64 h n (i + 1) (by omega)
theorem S7 {s : Sg} (h : qL s) : nv s = true := by
 obtain ⟨h1, h2, h3, h4⟩ := h
 unfold nv
 simp only [Bool.and_eq_true, decide_eq_true_eq]
 exact ⟨⟨⟨by omega, by omega⟩, CR h3 s.aY.length 0 (by omega)⟩, K3 h1 h4 s.ops.length 0 (by omega)⟩
theorem EJ {s : Sg} {ps ss : List Int} (h1 : qL s) (h2 : dP s ps ss) {l : List T} (h : ∀ t ∈ l, (t.tree && nw s t) = true) : gb s ps ss l = 0 := by
 have : iS s ps ss = 0 := by unfold iS; rw [if_pos (S7 h1), if_pos h2]
 unfold gb
 rw [if_pos this, if_pos (List.all_eq_true.2 h)]
end Go.aL
end
section
set_option maxRecDepth 100000
namespace Go.aL
open Go Go.Proofs Go.fw
theorem c45 {s : Sg} {ps ss : List Int} {a b : T} (h : gb s ps ss [a, b] = 0) : Pure Tryz.prog 45 [s.av, eE ps ss, a.av, b.av] (.tuple [.bool (C2 ps ss a b), .bool true]) := by
 refine fun H => k45.2.calls rfl ?_
 simp only [k45, aJ]
 obtain ⟨q1, q2, q3, q4, q5, q6⟩ := bh ps ss
 have e := ZR s ps ss a b
 rw [if_pos h, h] at e
 simp +contextual only [aC, q1, q4, cC, sZ, Nat.reduceEqDiff, Nat.reduceAdd, ↓reduceIte, reduceCtorEq]
 refine af e ?_
 simp +contextual only [decide_true, sZ, Nat.reduceEqDiff, Nat.reduceAdd, Nat.reduceLT, ↓reduceIte, reduceCtorEq]
 exact BU (by decide) rfl rfl rfl rfl
end Go.aL
end
section
set_option maxRecDepth 100000
set_option maxHeartbeats 0
namespace Go.aL
open Go Go.Proofs
noncomputable def k10 := aJ Tryz.call10 Tryz.func10 Tryz.ntmps10 [(0,0,1),(0,1,1),(0,2,1),(0,3,1),(17,1,1),(17,6,1)] [(0,[4,5,6,7,8]),(1,[4,5,6,7,8,25]),(2,[10]),(3,[4,5,6,7,8,37]),(4,[10]),(5,[4,5,6,7,8,11]),(6,[4,5,6,7,8,11,42,43,44]),(7,[4,5,6,7,8,11,42,43,44,45]),(8,[4,5,6,7,8,11,13,42,43,44]),(9,[4,5,6,7,8,11,13,14,42,43,44]),(10,[4,5,6,7,8,11,13,14,15,42,43,44]),(11,[4,5,6,7,8,11,13,14,15,42,43,44,57]),(12,[4,5,6,7,8,11,13,14,15,42,43,44]),(13,[4,5,6,7,8,11,13,14,15,42,43,44,71]),(14,[4,5,6,7,8,11,13,14,15,42,43,44]),(15,[4,5,6,7,8,11,14,42,43,44,79]),(16,[10]),(17,[4,5,6,7,8,11,42,43,44]),(18,[4,5,6,7,8,11,42,43,44]),(19,[5,6,7,8,11,16,17]),(20,[5,6,7,8,11,16,17,18,19]),(21,[5,7,8,11,16,17,18,19,20,21]),(22,[16,17,18,19,20,21,22,23]),(23,[10])] []
end Go.aL
end
section
set_option maxRecDepth 100000
set_option maxHeartbeats 1000000
namespace Go.aL
open Go Go.Proofs Go.fw
def S8 (x : Int) : Int := if 0 < x ∧ x < 5 then x else 0
def Au (b : List Int) : Nat → Int
 | 0 => 0
 | n + 1 => Au b n + S8 (b.getD n 0)
def s7 (b : List Int) (k : Int) : Nat := min (k.toNat + 1) b.length
def qM (b : List Int) (k : Int) : Int := k + Au b (s7 b k)
theorem PT (x : Int) : 0 ≤ S8 x ∧ S8 x ≤ 4 := by unfold S8; split <;> omega
theorem K4 (b : List Int) : ∀ n, 0 ≤ Au b n ∧ Au b n ≤ 4 * n
 | 0 => by simp [Au]
 | n + 1 => by have := K4 b n; have := PT (b.getD n 0); simp only [Au]; omega
theorem CU (b : List Int) : ∀ n d, Au b n ≤ Au b (n + d)
 | n, 0 => Int.le_refl _
 | n, d + 1 => by have := CU b n d; have := PT (b.getD (n + d) 0); rw [show n + (d + 1) = n + d + 1 from rfl]; simp only [Au]; omega
theorem EK {b : List Int} {k m : Int} (hk : 0 ≤ k) (hm : 0 ≤ m) : qM b k < qM b m ↔ k < m := by
 have key : ∀ k m : Int, 0 ≤ k → k ≤ m → Au b (s7 b k) ≤ Au b (s7 b m) := fun k m h h' => by
  have : s7 b k ≤ s7 b m := by unfold s7; omega
  have e := CU b (s7 b k) (s7 b m - s7 b k)
  rwa [show s7 b k + (s7 b m - s7 b k) = s7 b m by omega] at e
 unfold qM
 constructor
 ·intro h
  by_cases c : k < m
  ·exact c
  ·have := key m k hm (by omega); omega
 ·intro h
  have := key k m hk (by omega); omega
theorem kZ {f : Int → Int} {l : List Int} {i : Nat} (h : i < l.length) : (l.map f).getD i 0 = f (l.getD i 0) := by
 simp [h]
theorem Oo {s : Sg} {ps ss by_ : List Int} (h : dP s ps ss) (hm : ∀ j, j < ps.length → qM by_ (ps.getD j 0) ≤ 255) : dP s (ps.map (qM by_)) ss ∧ Go.fw.Alike (jO ps ss) (jO (ps.map (qM by_)) ss) (fun n => 0 ≤ n ∧ n < ps.length) := by
 obtain ⟨h1, h2, h3⟩ := h
 have inj : ∀ j k, j < ps.length → k < ps.length → qM by_ (ps.getD j 0) = qM by_ (ps.getD k 0) → ps.getD j 0 = ps.getD k 0 := fun j k hj hk e => by
  have a := (h3.CW j hj).1
  have b := (h3.CW k hk).1
  have c := EK (b := by_) a b
  have d := EK (b := by_) b a
  omega
 have ho : dP s (ps.map (qM by_)) ss := by
  refine ⟨by simpa using h1, h2, ⟨fun j hj => ?_, fun j k hj hk e => ?_⟩⟩
  ·have hj : j < ps.length := by simpa using hj
   rw [kZ hj]
   have := h3.CW j hj
   have b := (K4 by_ (s7 by_ (ps.getD j 0))).1
   refine ⟨by unfold qM; omega, hm j hj, this.2.2.1, this.2.2.2⟩
  ·have hj : j < ps.length := by simpa using hj
   have hk : k < ps.length := by simpa using hk
   rw [kZ hj, kZ hk] at e
   exact h3.st j k hj hk (inj j k hj hk e)
 refine ⟨ho, ⟨fun n m hn K8 => ?_, fun n hn => ?_⟩⟩
 ·show ps.getD n.toNat 0 < ps.getD m.toNat 0 ↔ (ps.map (qM by_)).getD n.toNat 0 < (ps.map (qM by_)).getD m.toNat 0
  rw [kZ (by omega), kZ (by omega)]
  exact (EK (h3.CW _ (by omega)).1 (h3.CW _ (by omega)).1).symm
 ·show J7 ps ss (ps.getD n.toNat 0) = J7 (ps.map (qM by_)) ss ((ps.map (qM by_)).getD n.toNat 0)
  have v1 : Va ps ss := ⟨by rw [h2, h1], h3.st⟩
  rw [v1.sp (by omega), ho.va.sp (by rw [List.length_map]; omega)]
theorem bdO (ss : List Int) (φ : AV → Prop) : cj [.ah, .ah] [(1, 1, .aq 0 (ints ss))] φ = φ (.agg [.ah, .aq 0 (ints ss)]) := by
 simp only [cj, gk, eq_iff_iff]
 constructor
 ·rintro ⟨_, _, _, h⟩; exact h
 ·exact fun h => ⟨rfl, rfl, by decide, h⟩
theorem c10 (s : Sg) (ps ss : List Int) (a b : T) (by_ : List Int) : Pure Tryz.prog 10 [s.av, eE ps ss, a.av, b.av, .aq 0 (ints by_)] (.bool true) := by
 refine fun H => k10.2.calls rfl ?_
 simp only [k10, aJ]
 obtain ⟨q1, q2, q3, q4, q5, q6⟩ := bh ps ss
 simp +contextual only [aC, q1, sZ, Nat.reduceEqDiff, Nat.reduceAdd, ↓reduceIte, reduceCtorEq]
 refine af c17 ?_
 have fin : ∀ (G : List aa), G.take H.length = H → bV H.length [.t 10] [(10, .bool true)] G fun r H' => r = .bool true ∧ H' = H := fun G hG =>
  aW H.length (Nat.le_refl _) (by rw [ay, if_pos rfl]; rfl) ⟨by rw [ay, if_pos rfl], hG⟩
 simp +contextual only [aC, q4, cC, sZ, Nat.reduceEqDiff, Nat.reduceAdd, ↓reduceIte]
 refine ag (c42 s ps ss 40 [a, b] H) ?_
 rintro r G ⟨⟨b1, rfl, hb⟩, rfl⟩
 cases b1 with
 | false => simp +contextual only [sZ, Nat.reduceEqDiff, ↓reduceIte, reduceCtorEq]; exact fin _ (by simp)
 | true =>
 obtain ⟨h1, h2, h3⟩ := hb rfl
 by_cases Xz : (300 : Int) < by_.length
 ·have e0 : ((300 : Int) < by_.length) = True := eq_true Xz
  simp +contextual only [aw, e0, decide_true, sZ, Nat.reduceEqDiff, ↓reduceIte, reduceCtorEq]
  exact fun _ => fin _ (by simp)
 have e0 : ((300 : Int) < by_.length) = False := eq_false Xz
 simp +contextual only [aw, tw, vJ, e0, decide_false, bdO, sZ, Nat.reduceEqDiff, Nat.reduceAdd, ↓reduceIte]
 intro _ _
 have uk : ps.length ≤ 256 := by rw [h2.1]; exact h1.2.1
 have CW (i : Nat) (hi : i < ps.length) := h2.2.2.CW i hi
 refine aD ps.length (fun i => ∀ j, j < i → qM by_ (ps.getD j 0) ≤ 255) (fun i => [(4, .aq 0 (ints by_)), (5, .aj s.av), (6, .aj (eE ps ss)), (7, .aj a.av), (8, .aj b.av), (11, .ptr G.length 0), (42, .aq 0 (ints ps)), (43, .int .i64 ps.length), (44, .int .i64 i)])
  (fun i => G ++ [.cells [ja ((ps.take i).map (qM by_)), .aq 0 (ints ss)]]) ⟨fun j h => by omega, aB _ _ _⟩ fun i hi hI => ?_
 by_cases hl : i < ps.length
 rotate_left
 ·have e1 : ((i : Int) < ps.length) = False := eq_false (by omega)
  rw [List.take_of_length_le (by omega)]
  have Wr := Oo h2 (fun j hj => hI j (by omega))
  have Iy : ∀ t ∈ [a, b], pD (fun n => 0 ≤ n ∧ n < ps.length) t := (oe (EJ h1 h2 h3)).all
  have xg : C2 (ps.map (qM by_)) ss a b = C2 ps ss a b := Bool.eq_iff_iff.2 (by rw [og, og]; exact (NO Wr.2 (Iy a (by simp)) (Iy b (by simp))).symm)
  have xe : SH (ps.map (qM by_)) ss a b = SH ps ss a b := Bool.eq_iff_iff.2 (by rw [tY, tY]; exact (tT Wr.2 (Iy a (by simp)) (Iy b (by simp))).symm)
  have k1 := EJ h1 h2 h3
  have k2 := EJ h1 Wr.1 h3
  have g1 := c45 k1
  have g2 := c45 k2
  have e3 := X3 s ps ss a b
  have e4 := X3 s (ps.map (qM by_)) ss a b
  rw [if_pos k1, k1] at e3
  rw [if_pos k2, k2, xe] at e4
  rw [xg] at g2
  generalize ps.map (qM by_) = ps' at *
  obtain ⟨r1, r2, r3, r4, r5, r6⟩ := bh ps' ss
  have od' : AV.agg [(ja ps').drop, .aq 0 (ints ss)] = eE ps' ss := by cases ps' <;> rfl
  simp +contextual only [e1, q4, cC, kU, aC, sZ, Nat.reduceEqDiff, Nat.reduceAdd, ↓reduceIte]
  refine af g1 ?_
  simp +contextual only [kU, aC, od', sZ, Nat.reduceEqDiff, Nat.reduceAdd, Nat.reduceLT, ↓reduceIte]
  refine af g2 ?_
  simp +contextual only [q4, cC, kU, aC, sZ, Nat.reduceEqDiff, Nat.reduceAdd, Nat.reduceLT, ↓reduceIte]
  refine af e3 ?_
  simp +contextual only [kU, aC, od', sZ, Nat.reduceEqDiff, Nat.reduceAdd, Nat.reduceLT, ↓reduceIte]
  refine af e4 ?_
  simp +contextual only [decide_true, sZ, Nat.reduceEqDiff, Nat.reduceAdd, Nat.reduceLT, ↓reduceIte, reduceCtorEq]
  exact fin _ (by simp)
 have e1 : ((i : Int) < ps.length) = True := eq_true (by omega)
 have hr := CW i hl
 simp +contextual only [e1, hl, sZ, Nat.reduceEqDiff, ↓reduceIte]
 generalize hk : ps.getD i 0 = k at *
 refine aD (s7 by_ k) (fun _ => True) (fun m => [(4, .aq 0 (ints by_)), (5, .aj s.av), (6, .aj (eE ps ss)), (7, .aj a.av), (8, .aj b.av), (11, .ptr G.length 0), (13, .int .i64 k), (14, .int .i64 (k + Au by_ m)), (15, .int .i64 m), (42, .aq 0 (ints ps)), (43, .int .i64 ps.length), (44, .int .i64 i)])
  (fun _ => G ++ [.cells [ja ((ps.take i).map (qM by_)), .aq 0 (ints ss)]]) ⟨trivial, aH (by simp [Au]) rfl⟩ fun m hm _ => ?_
 have hmb : m ≤ 300 ∧ m ≤ k.toNat + 1 ∧ m ≤ by_.length := by unfold s7 at hm; omega
 have hS := K4 by_ m
 by_cases NX : m < s7 by_ k
 rotate_left
 ·have hme : m = s7 by_ k := by omega
  have hz : ((m : Int) ≤ k) = False ∧ (True ∧ True) = True ∨ ((m : Int) ≤ k) = True ∧ ((m : Int) < by_.length) = False := by
   by_cases c : (m : Int) ≤ k
   ·exact .inr ⟨eq_true c, eq_false (by unfold s7 at hme; omega)⟩
   ·exact .inl ⟨eq_false c, and_self True⟩
  subst hme
  have eF : k + Au by_ (s7 by_ k) = qM by_ k := rfl
  have hF : qM by_ k ≤ 2000 := by unfold qM; omega
  have er : (ps.take i).map (qM by_) ++ [qM by_ k] = (ps.take (i + 1)).map (qM by_) := by
   rw [List.take_add_one, List.map_append, ← hk, List.getD_eq_getElem?_getD, List.getElem?_eq_getElem hl]; rfl
  rcases hz with ⟨f1, f2⟩ | ⟨f1, f2⟩
  all_goals
   simp +contextual only [aw, f1, f2, decide_true, decide_false, rJ, je, JU, JV, sZ, Nat.reduceEqDiff, Nat.reduceAdd, Nat.reduceLT, ↓reduceIte, reduceCtorEq]
   try intro _
   refine ⟨fun _ => fin _ (by simp), fun hle => ⟨by rw [List.length_map, List.length_take]; omega, i + 1, ⟨hl, iC hI (by rw [hk]; exact hle)⟩, by omega, aH (by rw [ax i (by omega)]) (by rw [eF, er])⟩⟩
 ·have f1 : ((m : Int) ≤ k) = True := eq_true (by unfold s7 at NX; omega)
  have f2 : ((m : Int) < by_.length) = True := eq_true (by unfold s7 at NX; omega)
  have hmL : m < by_.length := by unfold s7 at NX; omega
  have fin2 (d : Int) (hd : d = k + Au by_ (m + 1)) : ∃ j, j ≤ s7 by_ k ∧ s7 by_ k - j < s7 by_ k - m ∧ sle G.length [(4, .aq 0 (ints by_)), (5, .aj s.av), (6, .aj (eE ps ss)), (7, .aj a.av), (8, .aj b.av), (11, .ptr G.length 0), (13, .int .i64 k), (14, .int .i64 d), (15, .int .i64 (IntKind.i64.wrap ((m : Int) + 1))), (42, .aq 0 (ints ps)), (43, .int .i64 ps.length), (44, .int .i64 i)] (G ++ [.cells [ja ((ps.take i).map (qM by_)), .aq 0 (ints ss)]])
   [(4, .aq 0 (ints by_)), (5, .aj s.av), (6, .aj (eE ps ss)), (7, .aj a.av), (8, .aj b.av), (11, .ptr G.length 0), (13, .int .i64 k), (14, .int .i64 (k + Au by_ j)), (15, .int .i64 j), (42, .aq 0 (ints ps)), (43, .int .i64 ps.length), (44, .int .i64 i)] (G ++ [.cells [ja ((ps.take i).map (qM by_)), .aq 0 (ints ss)]]) :=
   ⟨m + 1, NX, by omega, aH (by rw [ax m (by omega), hd]) rfl⟩
  by_cases g1 : 0 < by_.getD m 0
  ·by_cases g2 : by_.getD m 0 < 5
   ·have eV : S8 (by_.getD m 0) = by_.getD m 0 := if_pos ⟨g1, g2⟩
    simp +contextual only [aw, f1, f2, g1, g2, hmL, decide_true, sZ, Nat.reduceEqDiff, ↓reduceIte]
    refine fun _ => fin2 _ ?_
    rw [dG _ (by omega)]; simp only [Au, eV]; omega
   ·have eV : S8 (by_.getD m 0) = 0 := if_neg fun h => g2 h.2
    simp +contextual only [aw, f1, f2, g1, g2, hmL, decide_true, decide_false, sZ, Nat.reduceEqDiff, ↓reduceIte]
    refine fun _ => fin2 _ ?_
    simp only [Au, eV]; omega
  ·have eV : S8 (by_.getD m 0) = 0 := if_neg fun h => g1 h.1
   simp +contextual only [aw, f1, f2, g1, hmL, decide_true, decide_false, sZ, Nat.reduceEqDiff, ↓reduceIte]
   refine fun _ => fin2 _ ?_
   simp only [Au, eV]; omega
end Go.aL
end
section
set_option maxRecDepth 100000
namespace Go.aL
open Go Go.RowKit Go.fw
section
variable {H : Type} {enc : TypeId × Value → H} {P : Program} {w : World} {base : Nat} {sp : Nat → Bool} {held : Bool}
def Rd {H : Type} (enc : TypeId × Value → H) (P : Program) (w : World) (base : Nat) (sp : Nat → Bool) (held : Bool) {α : Type} (t : TypeId) (g : α → AV) (R : DataW H → α → Prop) : Prop :=
 ∀ (fuel : Nat) (cs : List Value) (x : DataW H × List MemPlace), DataW.trod enc P w base sp held fuel t cs = some x → ∃ a, aK (fg w) [] cs (g a).cells ∧ R x.1 a
theorem EL {ti : TypeId} (h : P.underlying ti = some (.int .i64)) : Rd enc P w base sp held ti (fun n : Int => .int .i64 n) (fun _ _ => True) := by
 intro fuel cs x hx
 obtain ⟨k, rfl, _, _⟩ := DataW.trod_int h hx
 exact ⟨k, .cons _ _ _ _ (.int _ _) .nil, trivial⟩
theorem K5 {ti : TypeId} (h : P.underlying ti = some .string) : Rd enc P w base sp held ti (fun s : ByteArray => .str s) (fun _ _ => True) := by
 intro fuel cs x hx
 obtain ⟨k, rfl, _, _⟩ := DataW.trod_string h hx
 exact ⟨k, .cons _ _ _ _ (.str _) .nil, trivial⟩
def CV {α : Type} (d : DataW H) (l : List α) : Prop := match d with | .slice es _ => l.length = es.length | _ => l = []
theorem qN {α : Type} [Inhabited α] {te tl : TypeId} {g : α → AV} {R : DataW H → α → Prop} {e : Nat} (hl : P.underlying tl = some (.slice te)) (hc : P.cellsOf te = e) (he : 0 < e) (h : Rd enc P w base sp held te g R) :
 Rd enc P w base sp held tl (fun l : List α => .aq 0 (l.map g)) CV := by
 intro fuel cs x hx
 rcases DataW.trod_slice hl hx with ⟨rfl, rfl⟩ | ⟨a, len, cap, elems, rest, m, hm, rfl, rfl, hb, hle, cF, Th, jk, _, _⟩
 ·exact ⟨[], .cons _ _ _ _ aR.ah.drop .nil, rfl⟩
 ·rw [hc] at jk
  have hex : ∀ i, i < len → ∃ t : α, ∃ cs', w.cells? base (a.add (i * e)) e = some cs' ∧ aK (fg w) [] cs' (g t).cells := by
   intro i hi
   have := jk i hi
   rw [List.getElem?_eq_getElem (by omega)] at this
   obtain ⟨cs', k1, k2⟩ := Option.bind_eq_some_iff.1 this
   obtain ⟨t, ht, _⟩ := h _ _ _ k2
   exact ⟨t, cs', k1, ht⟩
  have hf : ∃ f : Nat → α, ∀ i, i < len → ∃ cs', w.cells? base (a.add (i * e)) e = some cs' ∧ aK (fg w) [] cs' (g (f i)).cells := by
   refine ⟨fun i => if hi : i < len then Classical.choose (hex i hi) else default, fun i hi => ?_⟩
   simp only [dif_pos hi]
   exact Classical.choose_spec (hex i hi)
  obtain ⟨f, hf⟩ := hf
  refine ⟨(List.range len).map f, .cons _ _ _ _ ?_ .nil, by simp [CV, Th]⟩
  show aR (fg w) [] _ (.aq 0 (((List.range len).map f).map g))
  rw [List.map_map]
  refine xQ (e := e) (base := base) he hle cF (fun i => if hi : i < len then Classical.choose (hf i hi) else []) _ fun i hi => ?_
  simp only [dif_pos hi]
  exact Classical.choose_spec (hf i hi)
structure qO (P : Program) (ti ts tis tss top tops tsig : TypeId) : Prop where
 int : P.underlying ti = some (.int .i64)
 str : P.underlying ts = some .string
 ints : P.underlying tis = some (.slice ti)
 strs : P.underlying tss = some (.slice ts)
 op : ∃ f0 f1 f2 : Field, P.underlying top = some (.struct #[f0, f1, f2]) ∧ f0.type = ts ∧ f0.offset = 0 ∧ f1.type = tis ∧ f1.offset = 1 ∧ f2.type = ti ∧ f2.offset = 2
 ops : P.underlying tops = some (.slice top)
 sig : ∃ f0 f1 : Field, P.underlying tsig = some (.struct #[f0, f1]) ∧ f0.type = tss ∧ f0.offset = 0 ∧ f1.type = tops ∧ f1.offset = 1
 c : P.cellsOf ti = 1 ∧ P.cellsOf ts = 1 ∧ P.cellsOf tis = 1 ∧ P.cellsOf tss = 1 ∧ P.cellsOf top = 3 ∧ P.cellsOf tops = 1 ∧ P.cellsOf tsig = 2
variable {ti ts tis tss top tops tsig : TypeId}
theorem jK {v : List Value} {x : AV} (h : aK (fg w) [] v [x]) : ∃ u, v = [u] ∧ aR (fg w) [] u x := by
 cases h with
 | cons v x vs xs h t => cases t; exact ⟨_, rfl, h⟩
theorem Av (S : qO P ti ts tis tss top tops tsig) : Rd enc P w base sp held tis (fun l : List Int => .aq 0 (ints l)) CV := qN S.ints S.c.1 (by decide) (EL S.int)
theorem Oq (S : qO P ti ts tis tss top tops tsig) : Rd enc P w base sp held tss (fun l : List ByteArray => .aq 0 (strs l)) CV := qN S.strs S.c.2.1 (by decide) (K5 S.str)
theorem XA (S : qO P ti ts tis tss top tops tsig) : Rd enc P w base sp held top gF.av (fun _ _ => True) := by
 intro fuel cs x h
 obtain ⟨f0, f1, f2, hu, h0, o0, h1, o1, h2, o2⟩ := S.op
 obtain ⟨c1, c2, c3, c4, c5, c6, c7⟩ := S.c
 obtain ⟨xs, m, rfl, rfl, hlen, ft, hf⟩ := DataW.trod_struct hu h
 have g0 := hf 0 f0 rfl
 have g1 := hf 1 f1 rfl
 have g2 := hf 2 f2 rfl
 rw [h0, o0, c2] at g0
 rw [h1, o1, c3] at g1
 rw [h2, o2, c1] at g2
 simp at ft
 rw [c5] at hlen
 match cs, hlen with
 | [a, b, c], _ =>
   have e0 : xs[0]? = some xs[0] := by simp [ft]
   have e1 : xs[1]? = some xs[1] := by simp [ft]
   have e2 : xs[2]? = some xs[2] := by simp [ft]
   rw [e0] at g0; rw [e1] at g1; rw [e2] at g2
   obtain ⟨nm, r0, _⟩ := K5 S.str _ _ _ g0
   obtain ⟨ar, r1, _⟩ := Av S _ _ _ g1
   obtain ⟨re, r2, _⟩ := EL S.int _ _ _ g2
   obtain ⟨_, q0, r0⟩ := jK r0
   obtain ⟨_, q1, r1⟩ := jK r1
   obtain ⟨_, q2, r2⟩ := jK r2
   simp at q0 q1 q2
   subst q0 q1 q2
   exact ⟨⟨nm, ar, re⟩, .cons _ _ _ _ r0 (.cons _ _ _ _ r1 (.cons _ _ _ _ r2 .nil)), trivial⟩
theorem S9 (S : qO P ti ts tis tss top tops tsig) : Rd enc P w base sp held tops (fun l : List gF => .aq 0 (ow l)) CV := qN S.ops S.c.2.2.2.2.1 (by decide) (XA S)
theorem Ta (S : qO P ti ts tis tss top tops tsig) : Rd enc P w base sp held tsig Sg.av (fun _ _ => True) := by
 intro fuel cs x h
 obtain ⟨f0, f1, hu, h0, o0, h1, o1⟩ := S.sig
 obtain ⟨c1, c2, c3, c4, c5, c6, c7⟩ := S.c
 obtain ⟨xs, m, rfl, rfl, hlen, ft, hf⟩ := DataW.trod_struct hu h
 have g0 := hf 0 f0 rfl
 have g1 := hf 1 f1 rfl
 rw [h0, o0, c4] at g0
 rw [h1, o1, c6] at g1
 simp at ft
 rw [c7] at hlen
 match cs, hlen with
 | [a, b], _ =>
   have e0 : xs[0]? = some xs[0] := by simp [ft]
   have e1 : xs[1]? = some xs[1] := by simp [ft]
   rw [e0] at g0; rw [e1] at g1
   obtain ⟨nm, r0, _⟩ := Oq S _ _ _ g0
   obtain ⟨ar, r1, _⟩ := S9 S _ _ _ g1
   obtain ⟨_, q0, r0⟩ := jK r0
   obtain ⟨_, q1, r1⟩ := jK r1
   simp at q0 q1
   subst q0 q1
   exact ⟨⟨nm, ar⟩, .cons _ _ _ _ r0 (.cons _ _ _ _ r1 .nil), trivial⟩
theorem Ot (S : qO P ti ts tis tss top tops tsig) {r : Reach} {b0 : Nat} {v : Value} {d : DataW H} {ps : List MemPlace} (jq : Value.okWide P w r b0 tsig v) (hd : DataW.Trod enc P w base sp held tsig v d ps) : ∃ s : Sg, aR (fg w) [] v s.av := by
 obtain ⟨f0, f1, hu, _⟩ := S.sig
 obtain ⟨cs, rfl, _⟩ := WideShapes.okWide_struct hu jq
 obtain ⟨fuel, hf⟩ := hd
 obtain ⟨o, h1, _⟩ := Ta S _ _ _ hf
 refine ⟨o, ?_⟩
 have : aR (fg w) [] (.agg cs.toList.toArray) o.av := .agg _ _ h1
 simpa using this
structure Tb (P : Program) (tis tod : TypeId) : Prop where
 od : ∃ f0 f1 : Field, P.underlying tod = some (.struct #[f0, f1]) ∧ f0.type = tis ∧ f0.offset = 0 ∧ f1.type = tis ∧ f1.offset = 1
 c : P.cellsOf tod = 2
theorem XB (S : qO P ti ts tis tss top tops tsig) {tod : TypeId} (O : Tb P tis tod) : Rd enc P w base sp held tod (fun o : List Int × List Int => eE o.1 o.2) (fun _ _ => True) := by
 intro fuel cs x h
 obtain ⟨f0, f1, hu, h0, o0, h1, o1⟩ := O.od
 obtain ⟨c1, c2, c3, c4, c5, c6, c7⟩ := S.c
 obtain ⟨xs, m, rfl, rfl, hlen, ft, hf⟩ := DataW.trod_struct hu h
 have g0 := hf 0 f0 rfl
 have g1 := hf 1 f1 rfl
 rw [h0, o0, c3] at g0
 rw [h1, o1, c3] at g1
 simp at ft
 rw [O.c] at hlen
 match cs, hlen with
 | [a, b], _ =>
   have e0 : xs[0]? = some xs[0] := by simp [ft]
   have e1 : xs[1]? = some xs[1] := by simp [ft]
   rw [e0] at g0; rw [e1] at g1
   obtain ⟨nm, r0, _⟩ := Av S _ _ _ g0
   obtain ⟨ar, r1, _⟩ := Av S _ _ _ g1
   obtain ⟨_, q0, r0⟩ := jK r0
   obtain ⟨_, q1, r1⟩ := jK r1
   simp at q0 q1
   subst q0 q1
   exact ⟨(nm, ar), .cons _ _ _ _ r0 (.cons _ _ _ _ r1 .nil), trivial⟩
theorem Ou (S : qO P ti ts tis tss top tops tsig) {tod : TypeId} (O : Tb P tis tod) {r : Reach} {b0 : Nat} {v : Value} {d : DataW H} {ps : List MemPlace} (jq : Value.okWide P w r b0 tod v) (hd : DataW.Trod enc P w base sp held tod v d ps) : ∃ pl st : List Int, aR (fg w) [] v (eE pl st) := by
 obtain ⟨f0, f1, hu, _⟩ := O.od
 obtain ⟨cs, rfl, _⟩ := WideShapes.okWide_struct hu jq
 obtain ⟨fuel, hf⟩ := hd
 obtain ⟨o, h1, _⟩ := XB S O _ _ _ hf
 refine ⟨o.1, o.2, ?_⟩
 have : aR (fg w) [] (.agg cs.toList.toArray) (eE o.1 o.2) := .agg _ _ h1
 simpa using this
end
end Go.aL
end
section
namespace Go.aL
open Go Go.RowKit Go.fw
section
variable {H : Type} {enc : TypeId × Value → H} {P : Program} {w : World} {base : Nat} {sp : Nat → Bool} {held : Bool}
theorem Ov {ti tl : TypeId} (hi : P.underlying ti = some (.int .i64)) (hl : P.underlying tl = some (.slice ti)) (hc : P.cellsOf ti = 1) {r : Reach} {b0 : Nat} {v : Value} {d : DataW H} {ps : List MemPlace} (jq : Value.okWide P w r b0 tl v) (hd : DataW.Trod enc P w base sp held tl v d ps) :
 ∃ l : List Int, aR (fg w) [] v (.aq 0 (ints l)) := by
 obtain ⟨a, len, cap, rfl⟩ := WideShapes.okWide_slice hl jq
 obtain ⟨fuel, hf⟩ := hd
 obtain ⟨l, hr, _⟩ := qN (g := fun n : Int => .int .i64 n) hl hc (by decide) (EL hi) _ _ _ hf
 refine ⟨l, ?_⟩
 simp only [Value.cells] at hr
 cases hr with
 | cons v x vs xs h t => exact h
end
end Go.aL
end
section
set_option maxRecDepth 100000
namespace Go.Proofs.YtljchnfgjdjobaaGreat
open Go
theorem Tc : laidOutB Tryz.checked.prog = true := by kernel_rfl
theorem Td : mapsRowed Tryz.checked.prog = true := by kernel_rfl
theorem Ow : Tryz.checked.prog.stopsHeard = true := by kernel_rfl
theorem Ox : Tryz.checked.prog.mayEnter = true := by kernel_rfl
theorem Oy : Tryz.checked.prog.liftsFinal = false := by kernel_rfl
end Go.Proofs.YtljchnfgjdjobaaGreat
end
