/- Part 17 of 18 of the proof. -/
import Derived.Test.YtljchnfgjdjobaaGreatRap
import Derived.Laws.Runes
import Derived.Test.YtljchnfgjdjobaaGreatProg
import Derived.KernelRfl
import Derived.Test.YtljchnfgjdjobaaGreatRaf
import Derived.Test.YtljchnfgjdjobaaGreatRak
import Derived.Test.YtljchnfgjdjobaaGreatRan
import Derived.Test.YtljchnfgjdjobaaGreatRows
import Derived.ProofKit
set_option linter.unusedVariables false
set_option linter.unusedSimpArgs false
set_option linter.defProp false
set_option linter.unusedSectionVars false
section
set_option maxRecDepth 100000
namespace Go.aK
open Go Go.Proofs Go.fJ
theorem aaX (n : Int) (o : Nat) (xs : List AV) (φ : AV → Prop) : cE [.int .i64 0, .int .i64 0, .ah] [(0, 1, .int .i64 2), (1, 1, .int .i64 n), (2, 1, .ap o xs)] φ = φ (.agg [.int .i64 2, .int .i64 n, .ap 0 xs]) := by
 simp only [cE, gO, eq_iff_iff]
 exact ⟨fun h => h.2.2.2.2.2.2.2.2.2, fun h => ⟨rfl, rfl, by simp, rfl, rfl, by simp [ag, AV.cells], rfl, rfl, by simp [ag, AV.cells], h⟩⟩
theorem Xx (n : Int) (φ : AV → Prop) : cE [.int .i64 0, .int .i64 0, .ah] [(0, 1, .int .i64 2), (1, 1, .int .i64 n), (2, 1, .ah)] φ = φ (.agg [.int .i64 2, .int .i64 n, .ah]) := by
 simp only [cE, gO, eq_iff_iff]
 exact ⟨fun h => h.2.2.2.2.2.2.2.2.2, fun h => ⟨rfl, rfl, by simp, rfl, rfl, by simp [ag, AV.cells], rfl, rfl, by simp [ag, AV.cells], h⟩⟩
theorem aaY (a b c d e f : Int) (o o' : Nat) (φ : AV → Prop) : cE [.ah, .ah] [(0, 1, .ap o [.int .i64 a, .int .i64 b, .int .i64 c]), (1, 1, .ap o' [.int .i64 d, .int .i64 e, .int .i64 f])] φ = φ (ff [a, b, c] [d, e, f]) := by
 simp only [cE, gO, eq_iff_iff]
 exact ⟨fun h => h.2.2.2.2.2.2, fun h => ⟨rfl, rfl, by simp, rfl, rfl, by simp [ag, AV.cells], h⟩⟩
theorem K7 (t : T) : aQ t.av = t.av := by cases t; rfl
theorem bs4 (a b c d : T) (φ : List AV → Prop) : bh (List.replicate 4 (aQ (.agg [.int .i64 0, .int .i64 0, .ah]))) 3 [(0, a.av), (1, b.av), (2, c.av), (3, d.av)] φ = φ [a.av, b.av, c.av, d.av] := by
 have hv : ∀ t : T, t.av.val = true := fun t => by cases t; rfl
 have hl : ∀ t : T, t.av.cells.length = 3 := fun t => (vY t).len
 simp only [bh, K7, hv, hl, List.replicate, List.set, List.length_cons, List.length_nil, eq_iff_iff]
 constructor
 ·intro h; simpa using h
 ·intro h; simpa using h
theorem Ow (n : Int) : Pure Tryz.prog 59 [.int .i64 n] (vT n).av := by
 refine fun H => X0.2.calls rfl ?_
 simp only [X0, aI]
 simp +contextual only [sZ, Nat.reduceEqDiff, Nat.reduceAdd, ↓reduceIte, reduceCtorEq]
 exact Fz rfl rfl
theorem Yh (n : Int) (l : List T) : Pure Tryz.prog 65 [.int .i64 n, .ap 0 (cG l)] (oT n l).av := by
 refine fun H => Tz.2.calls rfl ?_
 simp only [Tz, aI]
 simp +contextual only [aaX, sZ, Nat.reduceEqDiff, Nat.reduceAdd, ↓reduceIte, reduceCtorEq]
 exact Fz (by simp [uZ, bM, c8, iU, cZ, eh]) rfl
theorem Ox (n : Int) : Pure Tryz.prog 65 [.int .i64 n, .ah] (oT n []).av := by
 refine fun H => Tz.2.calls rfl ?_
 simp only [Tz, aI]
 simp +contextual only [Xx, sZ, Nat.reduceEqDiff, Nat.reduceAdd, ↓reduceIte, reduceCtorEq]
 exact Fz rfl rfl
theorem K8 (t : T) (φ : AV → Prop) : ak 1 none (.ai t.av) φ = φ (.ai (.int .i64 t.n)) := by cases t; simp [ak, T.av, apart, AV.cells, AV.one, T.n]
theorem Xy (o : Nat) (a b c d : T) : (∀ (own : Nat) (xs : List AV), AV.ap o [a.av, b.av, c.av, d.av] = AV.ap own xs → ∀ z ∈ xs, z.cells.length = 3) = True := by
 simp only [eq_iff_iff, iff_true]
 intro own xs e z hz
 cases e
 have : z = a.av ∨ z = b.av ∨ z = c.av ∨ z = d.av := by simpa using hz
 rcases this with rfl | rfl | rfl | rfl <;> exact (vY _).len
theorem Yi (o : Nat) (a b c d : AV) (φ : AV → Prop) : ay 3 (.ap o [a, b, c, d]) (.int .i64 0) φ = φ (.ai a) ∧ ay 3 (.ap o [a, b, c, d]) (.int .i64 1) φ = φ (.ai b) ∧ ay 3 (.ap o [a, b, c, d]) (.int .i64 2) φ = φ (.ai c) ∧ ay 3 (.ap o [a, b, c, d]) (.int .i64 3) φ = φ (.ai d) := by
 simp [ay]
theorem sg1 : Pure Tryz.prog 20 [cN.s.av, ff [0, 0, 1] [1, 1, 1], cp.a.av, cp.b.av] (.tuple [.bool true, .int .i64 0]) := by
 have := Z3 fH fI mJ cp.a cp.b
 rw [iH, Tc, if_pos rfl, Ax, gr1] at this
 exact this
theorem sg2 : Pure Tryz.prog 20 [cN.s.av, ff [0, 0, 1] [1, 1, 1], cp.b.av, cp.a.av] (.tuple [.bool false, .int .i64 0]) := by
 have := Z3 fH fI mJ cp.b cp.a
 rw [iH, Xu, if_pos rfl, Ax, gr2] at this
 exact this
theorem p1 (H : List aa) : aq Tryz.prog 27 [cN.s.av, ff [0, 0, 1] [1, 1, 1], cp.a.av, cp.b.av] H fun r H' => (∃ p, Sh (kE fI mJ) p cp.a cp.b ∧ r = .tuple [dV p, .bool true, .int .i64 0]) ∧ H' = H := by
 refine (c27 fH fI mJ cp.a cp.b H).mono ?_
 rintro r H' ⟨h, rfl⟩
 refine ⟨?_, rfl⟩
 rcases h with ⟨h, _⟩ | ⟨_, h, _⟩ | ⟨_, h⟩
 ·rw [iH, Tc] at h; exact absurd rfl h
 ·exact absurd (Aw.1 gr1) h
 ·exact h
theorem v1 {p : PP} (hp : Sh (kE fI mJ) p cp.a cp.b) : Pure Tryz.prog 28 [cN.s.av, ff [0, 0, 1] [1, 1, 1], cp.a.av, cp.b.av, dV p] (.int .i64 0) := by
 have := c28 fH fI mJ cp.a cp.b p
 have e : CJ fH fI mJ cp.a cp.b p = 0 := by unfold CJ; rw [if_pos (by rw [iH, Tc]), if_pos hp]
 rw [e] at this
 exact this
theorem v2 (p : PP) : Pure Tryz.prog 28 [cN.s.av, ff [0, 0, 1] [1, 1, 1], cp.b.av, cp.a.av, dV p] (.int .i64 61) := by
 have := c28 fH fI mJ cp.b cp.a p
 have hn : ¬ Sh (kE fI mJ) p cp.b cp.a := fun h => by
  have := Aw.2 h.gt
  rw [gr2] at this; cases this
 have e : CJ fH fI mJ cp.b cp.a p = 61 := by unfold CJ; rw [if_pos (by rw [iH, Xu]), if_neg hn]
 rw [e] at this
 exact this
theorem q1 : Pure Tryz.prog 22 [cN.s.av, ff [0, 0, 1] [1, 1, 3], (oT 2 [vT 0, vT 1]).av, (oT 2 [vT 1, vT 0]).av] (.tuple [.bool true, .int .i64 0]) := by
 have := Z4 fH fI stM (oT 2 [vT 0, vT 1]) (oT 2 [vT 1, vT 0])
 rw [iH, aaQ, if_pos rfl, F6, eq1] at this
 exact this
theorem q2 : Pure Tryz.prog 22 [cN.s.av, ff [0, 0, 1] [1, 1, 1], (oT 2 [vT 0, vT 1]).av, (oT 2 [vT 1, vT 0]).av] (.tuple [.bool false, .int .i64 0]) := by
 have := Z4 fH fI mJ (oT 2 [vT 0, vT 1]) (oT 2 [vT 1, vT 0])
 rw [iH, aaR, if_pos rfl, F6, eq2] at this
 exact this
theorem aaZ : pA 0 cN fI mJ = (0, false, 0) := by
 unfold pA
 rw [if_neg (by simp), qP, if_neg (by rw [show cN.s = fH from rfl, aaS]; simp), si, Xv]; rfl
theorem Xz : pA 0 cN CY mJ = (1, true, 0) := by
 unfold pA
 rw [if_neg (by simp), qP, if_neg (by rw [show cN.s = fH from rfl, aaT]; simp), si, Xw]; rfl
theorem k1 : Pure Tryz.prog 33 [cN.av, ff [0, 0, 1] [1, 1, 1]] (.int .i64 0) := by
 have := c33 Au (fun _ => qQ) fI mJ
 rw [Ov, aaZ] at this
 exact this
theorem k2 : Pure Tryz.prog 33 [cN.av, ff [0, 0, 0] [1, 1, 1]] (.int .i64 60) := by
 have := c33 Au (fun _ => qQ) CY mJ
 rw [Ov, Xz] at this
 exact this
theorem bl1 : Pure Tryz.prog 31 [cN.av, ff [0, 0, 0] [1, 1, 1]] (.tuple [.int .i64 1, .bool true, .int .i64 0]) := by
 have := c31 Au (fun _ => qQ) CY mJ
 rw [Xz] at this
 exact this
theorem fi1 : Pure Tryz.prog 35 [cN.av] (.tuple [ff [0, 0, 1] [1, 1, 1], .bool true, .int .i64 0]) := by
 have := c35 (ops := [0, 1, 2]) Au (fun _ => Ta) (fun _ => qQ) (fun _ i hi => by
  have h : i = 0 ∨ i = 1 ∨ i = 2 := by simpa using hi
  have e : cN.s.ops.length = 3 := rfl
  rw [e]; omega) (by decide)
 have e : KY 0 cN [0, 1, 2] = (some (fI, mJ), 0) := by
  unfold KY
  rw [if_neg (by simp), if_neg (by decide), K6, aaU]
 rw [e] at this
 exact this
def XA : List T := [vT 0, oT 0 [], oT 1 [oT 0 []], oT 2 [oT 0 [], oT 0 []]]
theorem so1 : Pure Tryz.prog 37 [cN.s.av, ff [0, 0, 1] [1, 1, 1], .ap 0 (cG yB)] (.tuple [.ap 0 (cG XA), .int .i64 0]) := by
 have := c37 fH fI mJ yB (by decide)
 have hg : wv fI mJ = CX fI mJ := by funext a b; exact Ax _ _ _ _
 have e : xe fH fI mJ yB = (XA, 0) := by
  unfold xe
  rw [if_pos (by rw [iH, aaV]), if_neg (by decide), hg, show yB.length = 4 from rfl, aaW]
  rfl
 rw [e] at this
 exact this
theorem c17 : Pure Tryz.prog 17 [] (.bool true) := by
 refine fun H => k17.2.calls rfl ?_
 simp only [k17, aI]
 simp +contextual only [sZ]
 refine ae c64 ?_
 have o01 : Pure Tryz.prog 65 [.int .i64 2, .ap 0 [(vT 0).av, (vT 1).av]] (oT 2 [vT 0, vT 1]).av := Yh 2 [vT 0, vT 1]
 have o10 : Pure Tryz.prog 65 [.int .i64 2, .ap 0 [(vT 1).av, (vT 0).av]] (oT 2 [vT 1, vT 0]).av := Yh 2 [vT 1, vT 0]
 have o00 : Pure Tryz.prog 65 [.int .i64 2, .ap 0 [(oT 0 []).av, (oT 0 []).av]] (oT 2 [oT 0 [], oT 0 []]).av := Yh 2 [oT 0 [], oT 0 []]
 have o1 : Pure Tryz.prog 65 [.int .i64 1, .ap 0 [(oT 0 []).av]] (oT 1 [oT 0 []]).av := Yh 1 [oT 0 []]
 have so2 : Pure Tryz.prog 37 [cN.s.av, ff [0, 0, 1] [1, 1, 1], .ap 0 [(oT 1 [oT 0 []]).av, (vT 0).av, (oT 0 []).av, (oT 2 [oT 0 [], oT 0 []]).av]] (.tuple [.ap 0 [(vT 0).av, (oT 0 []).av, (oT 1 [oT 0 []]).av, (oT 2 [oT 0 [], oT 0 []]).av], .int .i64 0]) := so1
 have aa0 : Pure Tryz.prog 66 [.ap 0 (ints [0, 0, 1]), .ap 0 (ints [0, 0, 1])] (.bool true) := c66 (a := [0, 0, 1]) (b := [0, 0, 1]) (.inr rfl) (.inr rfl) (by decide) (by decide)
 have aa1 : Pure Tryz.prog 66 [.ap 0 (ints [1, 1, 1]), .ap 0 (ints [1, 1, 1])] (.bool true) := c66 (a := [1, 1, 1]) (b := [1, 1, 1]) (.inr rfl) (.inr rfl) (by decide) (by decide)
 have i40 := fun o a b c d φ => (Yi o a b c d φ).1
 have i41 := fun o a b c d φ => (Yi o a b c d φ).2.1
 have i42 := fun o a b c d φ => (Yi o a b c d φ).2.2.1
 have i43 := fun o a b c d φ => (Yi o a b c d φ).2.2.2
 have n1 : ((vT 0).k = 1) = True := eq_true rfl
 have n2 : ((oT 0 []).n = 0) = True := eq_true rfl
 have n3 : ((oT 1 [oT 0 []]).n = 1) = True := eq_true rfl
 have n4 : ((oT 2 [oT 0 [], oT 0 []]).n = 2) = True := eq_true rfl
 have f44 : (((4 : Nat) : Int) = 4) = True := eq_true rfl
 obtain ⟨e1, e2, e3, e4, e5, e6⟩ := Ty.facts cN
 obtain ⟨a1, a2, a3, a4, a5, a6⟩ := bi [0, 0, 1] [1, 1, 1]
 obtain ⟨b1, b2, b3, b4, b5, b6⟩ := bi [0, 0, 1] [1, 1, 3]
 obtain ⟨c1, c2, c3, c4, c5, c6⟩ := bi [0, 0, 0] [1, 1, 1]
 have ix : ∀ φ, ay 8 (.ap 0 (tw cN.es)) (.int .i64 1) φ = φ (.ai cp.av) := by
  intro φ
  have := idx_eq 8 0 cN.es .i64 1 φ
  rw [show ((1 : Nat) : Int) = 1 from rfl] at this
  rw [this]
  exact propext ⟨fun h => h.2, fun h => ⟨by decide, h⟩⟩
 have su : cN.s.av.ab = cN.s.av := rfl
 simp +contextual only [e1, e2, e3, aaY, a1, a2, a3, a4, b1, b2, b3, c1, c2, c3, cz, KJ, fY2, ix, feA, feB, qG, FU, su, sZ, Nat.reduceEqDiff, Nat.reduceAdd, ↓reduceIte]
 refine ⟨ae sg1 ?_, ae sg1 ?_⟩
 all_goals
  simp +contextual only [a4, cz, KJ, qG, su, sZ, Nat.reduceEqDiff, Nat.reduceAdd, Nat.reduceLT, ↓reduceIte]
  refine ae sg2 ?_
  simp +contextual only [a4, cz, KJ, qG, su, sZ, Nat.reduceEqDiff, Nat.reduceAdd, Nat.reduceLT, ↓reduceIte]
  refine af (p1 _) ?_
  rintro r H' ⟨⟨p, hp, rfl⟩, rfl⟩
  obtain ⟨r1, r2, r3, r4, r5, r6, r7, r8, r9⟩ := aX p
  simp +contextual only [a4, cz, KJ, qG, su, r1, r2, r3, r4, qM, sZ, Nat.reduceEqDiff, Nat.reduceAdd, Nat.reduceLT, ↓reduceIte]
  refine ae (v1 hp) ?_
  simp +contextual only [a4, cz, KJ, qG, su, r4, qM, sZ, Nat.reduceEqDiff, Nat.reduceAdd, ↓reduceIte]
  refine ae (v2 p) ?_
  simp +contextual only [sZ, Nat.reduceEqDiff, ↓reduceIte]
  refine aH (Ow 0) ?_
  simp +contextual only [sZ]
  refine aH (Ow 1) ?_
  simp +contextual only [sZ, Nat.reduceEqDiff, ↓reduceIte]
  refine aH (o01) ?_
  simp +contextual only [sZ]
  refine aH (Ow 1) ?_
  simp +contextual only [sZ]
  refine aH (Ow 0) ?_
  simp +contextual only [sZ, Nat.reduceEqDiff, ↓reduceIte]
  refine aH (o10) ?_
  simp +contextual only [b4, cz, KJ, qG, su, sZ, Nat.reduceEqDiff, ↓reduceIte]
  refine aH (q1) ?_
  simp +contextual only [sZ, Nat.reduceEqDiff, Nat.reduceAdd, Nat.reduceLT, ↓reduceIte]
  refine aH (Ow 0) ?_
  simp +contextual only [sZ]
  refine aH (Ow 1) ?_
  simp +contextual only [sZ, Nat.reduceEqDiff, ↓reduceIte]
  refine aH (o01) ?_
  simp +contextual only [sZ]
  refine aH (Ow 1) ?_
  simp +contextual only [sZ]
  refine aH (Ow 0) ?_
  simp +contextual only [sZ, Nat.reduceEqDiff, ↓reduceIte]
  refine aH (o10) ?_
  simp +contextual only [a4, cz, KJ, qG, su, sZ, Nat.reduceEqDiff, ↓reduceIte]
  refine aH (q2) ?_
  simp +contextual only [e4, mA, a4, cz, sZ, Nat.reduceEqDiff, Nat.reduceAdd, Nat.reduceLT, ↓reduceIte]
  refine ae (k1) ?_
  simp +contextual only [e4, mA, c4, cz, sZ, Nat.reduceEqDiff, Nat.reduceAdd, ↓reduceIte]
  refine ae (k2) ?_
  simp +contextual only [e4, mA, c4, cz, sZ, Nat.reduceEqDiff, Nat.reduceAdd, ↓reduceIte]
  refine ae (bl1) ?_
  simp +contextual only [e4, mA, sZ, Nat.reduceEqDiff, Nat.reduceAdd, Nat.reduceLT, ↓reduceIte]
  refine ae (fi1) ?_
  simp +contextual only [a1, a2, a3, a4, vI, sZ, Nat.reduceEqDiff, Nat.reduceAdd, Nat.reduceLT, ↓reduceIte]
  refine ae (aa0) ?_
  simp +contextual only [w7, sZ, Nat.reduceEqDiff, Nat.reduceAdd, ↓reduceIte]
  refine ae (aa1) ?_
  simp +contextual only [sZ, Nat.reduceEqDiff, ↓reduceIte]
  refine aH (Ox 0) ?_
  simp +contextual only [sZ, ↓reduceIte]
  refine aH (o1) ?_
  simp +contextual only [sZ]
  refine aH (Ow 0) ?_
  simp +contextual only [sZ]
  refine aH (Ox 0) ?_
  simp +contextual only [sZ]
  refine aH (Ox 0) ?_
  simp +contextual only [sZ]
  refine aH (Ox 0) ?_
  simp +contextual only [sZ, Nat.reduceEqDiff, ↓reduceIte]
  refine aH (o00) ?_
  simp +contextual only [a4, cz, KJ, qG, su, bs4, sZ, Nat.reduceEqDiff, ↓reduceIte]
  refine aH (so2) ?_
  simp +contextual only [FL, K8, Xy, i40, i41, i42, i43, f44, n1, n2, n3, n4, decide_true, sZ, Nat.reduceEqDiff, Nat.reduceAdd, Nat.reduceLT, ↓reduceIte, reduceCtorEq]
  exact aV H.length (Nat.le_refl _) rfl ⟨rfl, by simp⟩
end Go.aK
end
section
set_option maxRecDepth 100000
namespace Go.aK
open Go Go.Proofs Go.fJ
def Td (S : List aa → Prop) (r : AV) (H' : List aa) : Prop := (∃ b, r = .bool b) ∧ S H'
theorem HX {S : List aa → Prop} (hl : yj S) {s : Nat} {b : Bool} {H H' : List aa} (hS : S H) (Wl : S H') : bV H.length [.t s] [(s, .bool b)] H' (Td S) := by
 refine aV H.length (Nat.le_refl _) (by rw [ax, if_pos rfl]; rfl) ?_
 rw [ax, if_pos rfl, List.take_of_length_le (by rw [hl H H' hS Wl]; exact Nat.le_refl _)]
 exact ⟨⟨b, rfl⟩, Wl⟩
theorem XB {S : List aa → Prop} (hS : yj S) (g : Nat) (cB : List AV) (cI : cB.map AV.ab = cB) (l : List T) (hf : ∀ x ∈ l, ∀ H, S H → aq Tryz.prog g ([x.av] ++ cB) H (Td S)) {H : List aa} (hH : S H) :
 aq Tryz.prog 114 [.ap 0 (cG l), .fn (.func g) [] cB] H fun r H' => (∃ n, r = .int .i64 n) ∧ S H' := by
 refine Bv.2.calls rfl ?_
 simp only [Bv, aI]
 simp +contextual only [sZ, Nat.reduceEqDiff, Nat.reduceAdd, ↓reduceIte, reduceCtorEq]
 intro hl
 have fin : ∀ (n : Int) (G : List aa), S G → bV H.length [.t 4] [(4, .int .i64 n)] G fun r H' => (∃ n, r = .int .i64 n) ∧ S H' := by
  intro n G hG
  refine aV H.length (Nat.le_refl _) (by rw [ax, if_pos rfl]; rfl) ?_
  rw [ax, if_pos rfl, List.take_of_length_le (by rw [hS H G hH hG]; exact Nat.le_refl _)]
  exact ⟨⟨n, rfl⟩, hG⟩
 refine aM l.length (fun i (G : List aa) => S G) (fun i G => [(0, .ap 0 (cG l)), (1, .fn (.func g) [] cB), (7, .int .i64 l.length), (8, .int .i64 i)]) (fun i G => G) H ⟨hH, aA _ _ _⟩ fun i G hi hG => ?_
 simp +contextual only [cI, sZ, Nat.reduceEqDiff, Nat.reduceAdd, ↓reduceIte, reduceCtorEq]
 refine ⟨fun aW => ?_, fun ji => ?_⟩
 ·have aW := bT aW
  refine ⟨aW, af (hf _ (fG aW) G hG) ?_⟩
  rintro r G' ⟨⟨b, rfl⟩, ej⟩
  cases b with
  | true => simp +contextual only [sZ, Nat.reduceEqDiff, ↓reduceIte, reduceCtorEq]; exact fin _ _ ej
  | false => simp +contextual only [sZ, Nat.reduceEqDiff, ↓reduceIte, reduceCtorEq]; exact ⟨i + 1, G', ⟨aW, ej⟩, by omega, aF (by rw [au i (by omega)]) rfl⟩
 ·exact fin _ _ hG
theorem XC {S : List aa → Prop} (hS : yj S) (g : Nat) (cB : List AV) (cI : cB.map AV.ab = cB) (l : List T) (hf : ∀ x ∈ l, ∀ H, S H → aq Tryz.prog g ([x.av] ++ cB) H (Td S)) {H : List aa} (hH : S H) :
 aq Tryz.prog 53 [.ap 0 (cG l), .fn (.func g) [] cB] H (Td S) := by
 refine OU.2.calls rfl ?_
 simp only [OU, aI]
 simp +contextual only [sZ, Nat.reduceEqDiff, Nat.reduceAdd, ↓reduceIte, reduceCtorEq]
 refine af (XB hS g cB cI l hf hH) ?_
 rintro r G ⟨⟨n, rfl⟩, hG⟩
 simp +contextual only [sZ, ↓reduceIte, reduceCtorEq]
 exact HX hS hH hG
structure Fw (q q2 : Nat) (H0 H : List aa) : Prop where
 len : H.length = H0.length
 cnt : ∃ n, H[q]? = some (.cells [.int .i64 n])
 fn : H[q2]? = some (.cells [.fn (.func 71) [] [.ptr q 0, .ptr q2 0]])
 get : ∀ j, j ≠ q → H[j]? = H0[j]?
theorem Fw.yj (q q2 : Nat) (H0 : List aa) : Go.aK.yj (Fw q q2 H0) := fun H H' h h' => h'.len.trans h.len.symm
theorem Fw.set {q q2 : Nat} {H0 H : List aa} (h : Fw q q2 H0 H) (hn : q ≠ q2) (n : Int) : Fw q q2 H0 (H.set q (.cells [.int .i64 n])) := by
 obtain ⟨m, hm⟩ := h.cnt
 exact ⟨by simp [h.len], ⟨n, List.getElem?_set_self (aN hm)⟩, by rw [List.getElem?_set_ne hn]; exact h.fn, fun j hj => by rw [List.getElem?_set_ne (Ne.symm hj)]; exact h.get j hj⟩
theorem c71 {q q2 : Nat} (hn : q ≠ q2) {H0 : List aa} : ∀ (N : Nat) (t : T), wt t ≤ N → ∀ (d : Int) (H : List aa), Fw q q2 H0 H → aq Tryz.prog 71 [t.av, .int .i64 d, .ptr q 0, .ptr q2 0] H (Td (Fw q q2 H0)) := by
 intro N
 induction N with
 | zero => intro t h; have := fw t; omega
 | succ N ih =>
   intro t hw d H hH
   refine k71.2.calls rfl ?_
   simp only [k71, aI]
   have hwe := Ck t
   obtain ⟨m, hm⟩ := hH.cnt
   have fY : ∀ o, (H.set q o)[q]? = some o := fun o => List.getElem?_set_self (aN hm)
   simp +contextual only [hm, fY, sZ, Nat.reduceEqDiff, Nat.reduceAdd, Nat.reduceLT, ↓reduceIte, reduceCtorEq]
   have c72 : ∀ x ∈ t.l, ∀ H, Fw q q2 H0 H → aq Tryz.prog 72 ([x.av] ++ [.ptr q2 0, .ai (.int .i64 d)]) H (Td (Fw q q2 H0)) := by
    intro x hx H hH
    refine k72.2.calls rfl ?_
    simp only [k72, aI, List.cons_append, List.nil_append]
    have hfn := hH.fn
    simp +contextual only [hfn, sZ, Nat.reduceEqDiff, Nat.reduceAdd, Nat.reduceLT, ↓reduceIte, reduceCtorEq]
    refine af (ih x (by have := bJ hx; omega) _ H hH) ?_
    rintro r G ⟨⟨b, rfl⟩, hG⟩
    simp +contextual only [sZ, ↓reduceIte, reduceCtorEq]
    exact HX (Fw.yj q q2 H0) hH hG
   refine ⟨fun _ => ⟨fun _ => af (XC (Fw.yj q q2 H0) 72 [.ptr q2 0, .ai (.int .i64 d)] rfl t.l c72 (hH.set hn _)) ?_, fun _ => HX (Fw.yj q q2 H0) hH (hH.set hn _)⟩, fun _ => HX (Fw.yj q q2 H0) hH (hH.set hn _)⟩
   rintro r G ⟨⟨b, rfl⟩, hG⟩
   simp +contextual only [sZ, Nat.reduceEqDiff, ↓reduceIte, reduceCtorEq]
   exact HX (Fw.yj q q2 H0) hH hG
theorem c19 (n : Int) (l : List T) (H : List aa) : aq Tryz.prog 19 [.int .i64 n, .ap 0 (cG l)] H fun r H' => (∃ b, r = .bool b) ∧ H' = H := by
 refine k19.2.calls rfl ?_
 simp only [k19, aI]
 have Y1 : ∀ (x y : AV), ag [x] 0 [y] = [y] := fun _ _ => rfl
 simp +contextual only [sZ, Nat.reduceEqDiff, Nat.reduceAdd, ↓reduceIte, reduceCtorEq]
 obtain ⟨H0, eH0⟩ : ∃ H0, H0 = H ++ [aa.cells [AV.int .i64 n], .cells [.fn (.func 71) [] [.ptr H.length 0, .ptr (H.length + 1) 0]]] := ⟨_, rfl⟩
 have hF : Fw H.length (H.length + 1) H0 H0 := ⟨rfl, ⟨n, by rw [eH0]; simp⟩, by rw [eH0]; simp, fun _ _ => rfl⟩
 rw [← eH0]
 have EW : H0.length = H.length + 2 := by rw [eH0]; simp
 have Uh : H0.take H.length = H := by rw [eH0]; simp
 have c73 : ∀ x ∈ l, ∀ G, Fw H.length (H.length + 1) H0 G → aq Tryz.prog 73 ([x.av] ++ [.ptr (H.length + 1) 0]) G (Td (Fw H.length (H.length + 1) H0)) := by
  intro x hx G hG
  refine k73.2.calls rfl ?_
  simp only [k73, aI, List.cons_append, List.nil_append]
  have hfn := hG.fn
  simp +contextual only [hfn, sZ, Nat.reduceEqDiff, Nat.reduceAdd, Nat.reduceLT, ↓reduceIte, reduceCtorEq]
  refine af (c71 (by omega) _ x (Nat.le_refl _) _ G hG) ?_
  rintro r G' ⟨⟨b, rfl⟩, ej⟩
  simp +contextual only [sZ, ↓reduceIte, reduceCtorEq]
  exact HX (Fw.yj _ _ H0) hG ej
 refine ⟨by simp; omega, af (XC (Fw.yj _ _ H0) 73 [.ptr (H.length + 1) 0] rfl l c73 hF) ?_⟩
 rintro r G ⟨⟨b, rfl⟩, hG⟩
 simp +contextual only [sZ, ↓reduceIte, reduceCtorEq]
 refine aV H.length (Nat.le_refl _) (by rw [ax, if_pos rfl]; rfl) ?_
 rw [ax, if_pos rfl]
 refine ⟨⟨!b, rfl⟩, ?_⟩
 refine Eq.trans ?_ Uh
 apply List.ext_getElem?
 intro j
 rw [List.getElem?_take, List.getElem?_take]
 by_cases hj : j < H.length
 ·rw [if_pos hj, if_pos hj]; exact hG.get j (by omega)
 ·rw [if_neg hj, if_neg hj]
end Go.aK
end
section
set_option maxRecDepth 100000
namespace Go.aK
open Go Go.Proofs Go.fJ
def LF (o : gJ) : Prop := o.args.length ≤ 20 ∧ o.name.size ≤ 200
theorem wa {α : Type} [Inhabited α] {p : α → Prop} {l : List α} (h : ∀ j, j < l.length → p (l.getD j default)) : ∀ x ∈ l, p x := fun x hx => by
 obtain ⟨n, hn, rfl⟩ := List.getElem_of_mem hx
 have := h n hn
 rwa [List.getD_eq_getElem?_getD, List.getElem?_eq_getElem hn] at this
theorem c68 (o : gJ) : ∃ b, Pure Tryz.prog 68 [o.av] (.bool b) ∧ (b = false → LF o) := by
 refine ⟨decide (20 < (o.args.length : Int)) || decide (200 < (o.name.size : Int)), fun H => k68.2.calls rfl ?_, fun h => by simp at h; exact ⟨by omega, by omega⟩⟩
 simp only [k68, aI]
 simp +contextual only [aB, sZ, Nat.reduceEqDiff, Nat.reduceAdd, ↓reduceIte, reduceCtorEq]
 refine fun _ => ⟨fun h => aY rfl ?_, fun h => aY rfl ?_⟩
 ·have h' : ¬ (20 : Int) < o.args.length := by omega
  rw [decide_eq_false h', Bool.false_or]
 ·rw [decide_eq_true h, Bool.true_or]
theorem c70 (s : ByteArray) : ∃ b, Pure Tryz.prog 70 [.str s] (.bool b) ∧ (b = false → s.size ≤ 200) := by
 refine ⟨decide (200 < (s.size : Int)), fun H => k70.2.calls rfl ?_, fun h => by simp at h; omega⟩
 simp only [k70, aI]
 simp +contextual only [sZ, Nat.reduceAdd, ↓reduceIte, reduceCtorEq]
 exact aY rfl rfl
theorem XD (l : List gJ) : ∀ H, aq Tryz.prog 128 [.ap 0 (oB l), .fn (.func 68) [] []] H fun r H' => (∃ n, r = .int .i64 n ∧ (n < 0 → ∀ o ∈ l, LF o)) ∧ H' = H := by
 refine fun H => UC.2.calls rfl ?_
 simp only [UC, aI]
 simp +contextual only [aB, sZ, Nat.reduceEqDiff, Nat.reduceAdd, ↓reduceIte, reduceCtorEq]
 intro hl
 have fin : ∀ (n : Int), (n < 0 → ∀ o ∈ l, LF o) → bV H.length [.t 4] [(4, .int .i64 n)] H fun r H' => (∃ n, r = .int .i64 n ∧ (n < 0 → ∀ o ∈ l, LF o)) ∧ H' = H := fun n hn =>
  aV H.length (Nat.le_refl _) (by rw [ax, if_pos rfl]; rfl) ⟨⟨n, by rw [ax, if_pos rfl], hn⟩, List.take_length⟩
 refine aE l.length (fun i => ∀ j, j < i → LF (l.getD j default)) (fun i => [(0, .ap 0 (oB l)), (1, .fn (.func 68) [] []), (7, .int .i64 l.length), (8, .int .i64 i)]) (fun _ => H) ⟨fun j h => by omega, aA _ _ _⟩ fun i hi hI => ?_
 simp +contextual only [aB, sZ, Nat.reduceEqDiff, Nat.reduceAdd, ↓reduceIte, reduceCtorEq]
 obtain ⟨b, hb, hq⟩ := c68 (l.getD i default)
 refine ⟨fun aW => ?_, fun ji => fin _ fun _ => wa fun j hj => hI j (by have := df ji; omega)⟩
 have aW := bT aW
 refine ⟨aW, ae hb ?_⟩
 cases b with
 | true => simp +contextual only [sZ, Nat.reduceEqDiff, ↓reduceIte, reduceCtorEq]; exact fin _ fun h => by omega
 | false =>
   simp +contextual only [sZ, Nat.reduceEqDiff, ↓reduceIte, reduceCtorEq]
   refine ⟨i + 1, ⟨aW, fun j hj => ?_⟩, by omega, aF (by rw [au i (by omega)]) rfl⟩
   by_cases e : j < i
   ·exact hI j e
   ·have : j = i := by omega
    subst this; exact hq rfl
theorem aa3 (l : List gJ) : ∀ H, aq Tryz.prog 67 [.ap 0 (oB l), .fn (.func 68) [] []] H fun r H' => (∃ b, r = .bool b ∧ (b = false → ∀ o ∈ l, LF o)) ∧ H' = H := by
 refine fun H => k67.2.calls rfl ?_
 simp only [k67, aI]
 simp +contextual only [sZ, Nat.reduceEqDiff, Nat.reduceAdd, ↓reduceIte, reduceCtorEq]
 refine af (XD l H) ?_
 rintro r G ⟨⟨n, rfl, hn⟩, rfl⟩
 simp +contextual only [sZ, ↓reduceIte, reduceCtorEq]
 exact aV _ (Nat.le_refl _) (by rw [ax, if_pos rfl]; rfl) ⟨⟨decide (0 ≤ n), by rw [ax, if_pos rfl], fun h => hn (by simpa using h)⟩, List.take_length⟩
theorem XE (l : List ByteArray) : ∀ H, aq Tryz.prog 129 [.ap 0 (strs l), .fn (.func 70) [] []] H fun r H' => (∃ n, r = .int .i64 n ∧ (n < 0 → ∀ o ∈ l, o.size ≤ 200)) ∧ H' = H := by
 refine fun H => UD.2.calls rfl ?_
 simp only [UD, aI]
 simp +contextual only [aB, sZ, Nat.reduceEqDiff, Nat.reduceAdd, ↓reduceIte, reduceCtorEq]
 intro hl
 have fin : ∀ (n : Int), (n < 0 → ∀ o ∈ l, o.size ≤ 200) → bV H.length [.t 4] [(4, .int .i64 n)] H fun r H' => (∃ n, r = .int .i64 n ∧ (n < 0 → ∀ o ∈ l, o.size ≤ 200)) ∧ H' = H := fun n hn =>
  aV H.length (Nat.le_refl _) (by rw [ax, if_pos rfl]; rfl) ⟨⟨n, by rw [ax, if_pos rfl], hn⟩, List.take_length⟩
 refine aE l.length (fun i => ∀ j, j < i → (l.getD j default).size ≤ 200) (fun i => [(0, .ap 0 (strs l)), (1, .fn (.func 70) [] []), (7, .int .i64 l.length), (8, .int .i64 i)]) (fun _ => H) ⟨fun j h => by omega, aA _ _ _⟩ fun i hi hI => ?_
 simp +contextual only [aB, sZ, Nat.reduceEqDiff, Nat.reduceAdd, ↓reduceIte, reduceCtorEq]
 obtain ⟨b, hb, hq⟩ := c70 (l.getD i default)
 refine ⟨fun aW => ?_, fun ji => fin _ fun _ => wa fun j hj => hI j (by have := df ji; omega)⟩
 have aW := bT aW
 refine ⟨aW, ae hb ?_⟩
 cases b with
 | true => simp +contextual only [sZ, Nat.reduceEqDiff, ↓reduceIte, reduceCtorEq]; exact fin _ fun h => by omega
 | false =>
   simp +contextual only [sZ, Nat.reduceEqDiff, ↓reduceIte, reduceCtorEq]
   refine ⟨i + 1, ⟨aW, fun j hj => ?_⟩, by omega, aF (by rw [au i (by omega)]) rfl⟩
   by_cases e : j < i
   ·exact hI j e
   ·have : j = i := by omega
    subst this; exact hq rfl
theorem aa4 (l : List ByteArray) : ∀ H, aq Tryz.prog 69 [.ap 0 (strs l), .fn (.func 70) [] []] H fun r H' => (∃ b, r = .bool b ∧ (b = false → ∀ o ∈ l, o.size ≤ 200)) ∧ H' = H := by
 refine fun H => k69.2.calls rfl ?_
 simp only [k69, aI]
 simp +contextual only [sZ, Nat.reduceEqDiff, Nat.reduceAdd, ↓reduceIte, reduceCtorEq]
 refine af (XE l H) ?_
 rintro r G ⟨⟨n, rfl, hn⟩, rfl⟩
 simp +contextual only [sZ, ↓reduceIte, reduceCtorEq]
 exact aV _ (Nat.le_refl _) (by rw [ax, if_pos rfl]; rfl) ⟨⟨decide (0 ≤ n), by rw [ax, if_pos rfl], fun h => hn (by simpa using h)⟩, List.take_length⟩
structure Yj (s : Sg) (ps ss : List Int) : Prop where
 h1 : s.ops.length ≤ 40
 h2 : s.aZ.length ≤ 40
 h3 : ps.length ≤ 80
 h4 : ss.length ≤ 80
 h5 : ∀ o ∈ s.ops, LF o
 h6 : ∀ x ∈ s.aZ, x.size ≤ 200
theorem c18 (s : Sg) (ps ss : List Int) (H : List aa) : aq Tryz.prog 18 [s.av, ff ps ss] H fun r H' => (∃ b, r = .bool b ∧ (b = true → Yj s ps ss)) ∧ H' = H := by
 refine k18.2.calls rfl ?_
 simp only [k18, aI]
 have fin : ∀ (b : Bool), (b = true → Yj s ps ss) → bV H.length [.t 4] [(4, .bool b)] H fun r H' => (∃ b, r = .bool b ∧ (b = true → Yj s ps ss)) ∧ H' = H := fun b hb =>
  aV H.length (Nat.le_refl _) (by rw [ax, if_pos rfl]; rfl) ⟨⟨b, by rw [ax, if_pos rfl], hb⟩, List.take_length⟩
 have finf := fin false (fun h => by cases h)
 obtain ⟨q1, q2, q3, q4, q5, q6⟩ := bi ps ss
 simp +contextual only [aB, q1, vI, w7, aw, sZ, Nat.reduceEqDiff, Nat.reduceAdd, ↓reduceIte, reduceCtorEq]
 refine fun _ => ⟨fun h1 _ => ⟨fun h2 _ => ⟨fun h3 _ => ⟨fun h4 => af (aa3 s.ops H) ?_, fun _ => finf⟩, fun _ => finf⟩, fun _ => finf⟩, fun _ => finf⟩
 rintro r G ⟨⟨b, rfl, hb⟩, rfl⟩
 cases b with
 | true => simp +contextual only [sZ, Nat.reduceEqDiff, ↓reduceIte, reduceCtorEq]; exact finf
 | false =>
   simp +contextual only [aB, sZ, Nat.reduceEqDiff, Nat.reduceAdd, ↓reduceIte]
   refine af (aa4 s.aZ _) ?_
   rintro r G ⟨⟨d, rfl, hd⟩, rfl⟩
   simp +contextual only [sZ, Nat.reduceEqDiff, ↓reduceIte, reduceCtorEq]
   exact fin _ fun h => ⟨by omega, by omega, by omega, by omega, hb rfl, hd (by simpa using h)⟩
end Go.aK
end
section
set_option maxRecDepth 100000
namespace Go.aK
open Go Go.Proofs
def Te (c : UInt8) : Prop := ¬ ((c.toNat : Int) < 33 ∨ 126 < (c.toNat : Int) ∨ (c.toNat : Int) = 40 ∨ (c.toNat : Int) = 41 ∨ (c.toNat : Int) = 44)
def nJ (s : ByteArray) : Prop := (∀ i, i < s.size → Te (s.data.toList.getD i 0)) ∧ 1 ≤ s.size ∧ s.size ≤ 32
theorem jT {P : Prop} (h : Decidable P) {H : List aa} {s : Nat} (hp : ¬ P) : bV H.length [.t s] [(s, .bool false)] H fun r H' => r = .bool (decide P) ∧ H' = H := aY rfl (by simp [hp])
open Classical in
theorem XF (s : ByteArray) (hs : s.size ≤ 200) : Pure Tryz.prog 195 [.str s] (.bool (decide (nJ s))) := by
 refine fun H => Vb.2.calls rfl ?_
 simp only [Vb, aI]
 simp +contextual only [sZ, Nat.reduceAdd, ↓reduceIte, reduceCtorEq]
 refine aE s.size (fun i => ∀ j, j < i → Te (s.data.toList.getD j 0))
  (fun i => [(0, .str s), (3, .int .i64 i)]) (fun i => H) ⟨fun j h => by omega, aA _ _ _⟩ fun i hi hI => ?_
 simp +contextual only [ZH, sZ, Nat.reduceEqDiff, ↓reduceIte, reduceCtorEq, Int.reduceLT]
 have bad (hl : i < s.size) (h : ¬ Te (s.data.toList.getD i 0)) : ¬ nJ s := fun e => h (e.1 i hl)
 refine ⟨fun hl => ?_, fun hl => ⟨fun h1 => ?_, fun h1 => ?_⟩⟩
 ·have hl := bT hl
  have bad := bad hl
  unfold Te at bad
  refine ⟨hl, fun a => ⟨hl, fun b => ⟨hl, fun c => ⟨hl, fun d => ⟨hl, fun e => ?_, fun e => ?_⟩, fun d => ?_⟩, fun c => ?_⟩, fun b => ?_⟩, fun a => ?_⟩
  ·exact jT _ (bad (by omega))
  ·refine ⟨i + 1, ⟨hl, fun j hj => ?_⟩, by omega, aF (by rw [au i (by omega)]) rfl⟩
   by_cases E8 : j < i
   ·exact hI j E8
   ·have : j = i := by omega
    subst this
    unfold Te; omega
  ·exact jT _ (bad (by omega))
  ·exact jT _ (bad (by omega))
  ·exact jT _ (bad (by omega))
  ·exact jT _ (bad (by omega))
 ·refine aY rfl ?_
  have e : (((s.size : Nat) : Int) ≤ 32) = nJ s := propext ⟨fun h => ⟨fun j hj => hI j (by omega), by omega, by omega⟩, fun h => by have := h.2.2; omega⟩
  simp only [e]
 ·exact jT _ fun e => by have := e.2.1; omega
def AF (s : ByteArray) : Nat := s.data.toList.countP (· == 95)
theorem XG (s : ByteArray) (hs : s.size ≤ 200) : Pure Tryz.prog 196 [.str s] (.int .i64 (AF s : Nat)) := by
 unfold AF
 refine fun H => Vc.2.calls rfl ?_
 simp only [Vc, aI]
 simp +contextual only [sZ, Nat.reduceEqDiff, Nat.reduceAdd, ↓reduceIte, reduceCtorEq]
 refine aE s.size (fun i => True)
  (fun i => [(0, .str s), (3, .int .i64 ((s.data.toList.take i).countP (· == 95) : Nat)), (4, .int .i64 i)]) (fun i => H) ⟨trivial, aA _ _ _⟩ fun i hi hI => ?_
 simp +contextual only [ZH, sZ, Nat.reduceEqDiff, ↓reduceIte, reduceCtorEq]
 have hz : s.data.toList.length = s.size := rfl
 have hc := List.countP_le_length (p := (· == (95 : UInt8))) (l := s.data.toList.take i)
 rw [List.length_take] at hc
 refine ⟨fun hl => ?_, fun hl => ?_⟩
 ·have hl := bT hl
  have wM : i < s.data.toList.length := hl
  have eg : s.data.toList.getD i 0 = s.data.toList[i] := by rw [List.getD_eq_getElem?_getD, List.getElem?_eq_getElem wM]; rfl
  have et : (s.data.toList.take (i + 1)).countP (· == 95) = (s.data.toList.take i).countP (· == 95) + if (s.data.toList.getD i 0 == 95) = true then 1 else 0 := by
   rw [List.take_add_one, List.countP_append, eg, List.getElem?_eq_getElem wM]; simp [List.countP_cons]
  refine ⟨hl, fun a => ⟨i + 1, hl, by omega, aF ?_ rfl⟩, fun a => ⟨i + 1, hl, by omega, aF ?_ rfl⟩⟩
  ·have : (s.data.toList.getD i 0 == 95) = true := by
    rw [beq_iff_eq]; apply UInt8.toNat_inj.1; simpa using Int.ofNat.inj a
   rw [au i (by omega), au _ (by omega), et, if_pos this]
  ·have : ¬ (s.data.toList.getD i 0 == 95) = true := by
    rw [beq_iff_eq]; intro h; rw [h] at a; exact a rfl
   rw [au i (by omega), et, if_neg this]; rfl
 ·rw [List.take_of_length_le (by have := df hl; omega)]
  exact aY rfl rfl
def kF (s : Sg) (l : List Int) : Prop := ∀ x ∈ l, 0 ≤ x ∧ x < s.aZ.length
open Classical in
theorem P3 (s : Sg) (l : List Int) : Pure Tryz.prog 232 [s.av, .ap 0 (ints l)] (.bool (decide (kF s l))) := by
 refine fun H => Vw.2.calls rfl ?_
 simp only [Vw, aI]
 simp +contextual only [aB, sZ, Nat.reduceEqDiff, Nat.reduceAdd, ↓reduceIte, reduceCtorEq]
 refine aE l.length (fun i => ∀ j, j < i → 0 ≤ l.getD j 0 ∧ l.getD j 0 < s.aZ.length)
  (fun i => [(1, .ap 0 (ints l)), (2, .ai s.av), (5, .int .i64 i)]) (fun i => H) ⟨fun j h => by omega, aA _ _ _⟩ fun i hi hI => ?_
 by_cases hl : i < l.length
 ·have bad (h : ¬ (0 ≤ l.getD i 0 ∧ l.getD i 0 < s.aZ.length)) : ¬ kF s l := fun e => h (e _ (aO hl))
  have e0 : ((i : Int) < l.length) = True := eq_true (by omega)
  by_cases h1 : l.getD i 0 < 0
  ·have e1 : (l.getD i 0 < 0) = True := eq_true h1
   simp +contextual only [e0, e1, hl, decide_true, sZ, Nat.reduceEqDiff, ↓reduceIte, reduceCtorEq]
   exact fun _ => jT _ (bad (by omega))
  ·have e1 : (l.getD i 0 < 0) = False := eq_false h1
   by_cases h2 : s.aZ.length ≤ l.getD i 0
   ·have e2 : ((s.aZ.length : Int) ≤ l.getD i 0) = True := eq_true h2
    simp +contextual only [aB, e0, e1, e2, hl, decide_true, decide_false, sZ, Nat.reduceEqDiff, ↓reduceIte, reduceCtorEq]
    exact fun _ => jT _ (bad (by omega))
   ·have e2 : ((s.aZ.length : Int) ≤ l.getD i 0) = False := eq_false h2
    simp +contextual only [aB, e0, e1, e2, hl, decide_true, decide_false, sZ, Nat.reduceEqDiff, ↓reduceIte]
    refine fun _ => ⟨i + 1, ⟨hl, fun j hj => ?_⟩, by omega, aF (by rw [au i (by omega)]) rfl⟩
    by_cases E8 : j < i
    ·exact hI j E8
    ·have : j = i := by omega
     subst this
     exact ⟨by omega, by omega⟩
 ·have e0 : ((i : Int) < l.length) = False := eq_false (by omega)
  simp +contextual only [e0, sZ, Nat.reduceEqDiff, ↓reduceIte, reduceCtorEq]
  refine fun _ => aY rfl ?_
  have : kF s l := fun x hx => by
   obtain ⟨n, hn, rfl⟩ := List.getElem_of_mem hx
   have := hI n (by omega)
   rwa [List.getD_eq_getElem?_getD, List.getElem?_eq_getElem hn] at this
  simp [this]
def LG (s : Sg) (o : gJ) : Prop := nJ o.name ∧ AF o.name ≠ o.name.size ∧ (AF o.name = 0 ∨ AF o.name = o.args.length) ∧ o.args.length ≤ 8 ∧ kF s o.args ∧ kF s [o.AD]
theorem K9 (a : Int) : [AV.int .i64 a] = ints [a] := rfl
open Classical in
theorem aa5 (s : Sg) (o : gJ) (ho : LF o) : Pure Tryz.prog 197 [s.av, o.av] (.bool (decide (LG s o))) := by
 have e1 := XG o.name ho.2
 have e2 := XF o.name ho.2
 have hb : AF o.name ≤ o.name.size := List.countP_le_length (p := (· == (95 : UInt8))) (l := o.name.data.toList)
 have e3 := P3 s o.args
 have e4 := P3 s [o.AD]
 have hR : LG s o = (nJ o.name ∧ AF o.name ≠ o.name.size ∧ (AF o.name = 0 ∨ AF o.name = o.args.length) ∧ o.args.length ≤ 8 ∧ kF s o.args ∧ kF s [o.AD]) := rfl
 refine fun H => Vd.2.calls rfl ?_
 simp only [Vd, aI]
 simp +contextual only [aB, sZ, Nat.reduceEqDiff, Nat.reduceAdd, ↓reduceIte, reduceCtorEq]
 refine ae e1 ?_
 simp +contextual only [aB, sZ, Nat.reduceEqDiff, Nat.reduceAdd, ↓reduceIte]
 refine ae e2 ?_
 have ha := ho.1
 generalize AF o.name = n at *
 by_cases hn : nJ o.name
 ·rw [decide_eq_true hn]
  by_cases h1 : n = o.name.size
  ·have f1 : ((n : Int) = o.name.size) = True := eq_true (by omega)
   simp +contextual only [aB, f1, decide_true, sZ, Nat.reduceEqDiff, ↓reduceIte, reduceCtorEq]
   exact jT _ (by rw [hR]; exact fun e => e.2.1 h1)
  have f1 : ((n : Int) = o.name.size) = False := eq_false (by omega)
  by_cases h2 : n = 0 ∨ n = o.args.length
  ·have hz : (0 < (n : Int)) = False ∧ (True ∧ True) = True ∨ (0 < (n : Int)) = True ∧ ((n : Int) = o.args.length) = True := by
    by_cases h0 : n = 0
    ·exact .inl ⟨eq_false (by omega), by simp⟩
    ·exact .inr ⟨eq_true (by omega), eq_true (by omega)⟩
   rcases hz with ⟨f2, f3⟩ | ⟨f2, f3⟩
   all_goals
    simp +contextual only [aB, f1, f2, f3, decide_false, decide_true, sZ, Nat.reduceEqDiff, Nat.reduceAdd, ↓reduceIte, reduceCtorEq]
    refine fun _ => ⟨fun h3 => ae e3 ?_, fun h3 => jT _ (by rw [hR]; exact fun e => by have := e.2.2.2.1; omega)⟩
    by_cases h4 : kF s o.args
    ·rw [decide_eq_true h4]
     simp +contextual only [aB, K9, sZ, Nat.reduceEqDiff, Nat.reduceAdd, ↓reduceIte]
     refine ae e4 ?_
     simp +contextual only [sZ, Nat.reduceEqDiff, ↓reduceIte, reduceCtorEq]
     refine aY rfl ?_
     have : LG s o = kF s [o.AD] := by rw [hR]; exact propext ⟨fun e => e.2.2.2.2.2, fun e => ⟨hn, h1, h2, by omega, h4, e⟩⟩
     simp only [this]
    ·rw [decide_eq_false h4]
     simp +contextual only [sZ, Nat.reduceEqDiff, ↓reduceIte, reduceCtorEq]
     exact jT _ (by rw [hR]; exact fun e => h4 e.2.2.2.2.1)
  ·have f2 : (0 < (n : Int)) = True := eq_true (by omega)
   have f3 : ((n : Int) = o.args.length) = False := eq_false (by omega)
   simp +contextual only [aB, f1, f2, f3, decide_false, decide_true, sZ, Nat.reduceEqDiff, ↓reduceIte, reduceCtorEq]
   exact fun _ => jT _ (by rw [hR]; exact fun e => h2 e.2.2.1)
 ·rw [decide_eq_false hn]
  simp +contextual only [sZ, Nat.reduceEqDiff, ↓reduceIte, reduceCtorEq]
  exact jT _ (by rw [hR]; exact fun e => hn e.1)
end Go.aK
end
section
set_option maxRecDepth 100000
namespace Go.aK
open Go Go.Proofs
def TM (s : Sg) (i : Nat) : Prop := nJ (s.aZ.getD i default) ∧ AF (s.aZ.getD i default) = 0 ∧ ∀ k, k < i → s.aZ.getD k default ≠ s.aZ.getD i default
def TN (a b : gJ) : Prop := a.name = b.name ∧ a.AD = b.AD ∧ a.args = b.args
def XH (s : Sg) (i : Nat) : Prop := LG s (s.ops.getD i default) ∧ ∀ k, k < i → ¬ TN (s.ops.getD k default) (s.ops.getD i default)
def qR (s : Sg) : Prop := s.aZ.length ≤ 64 ∧ s.ops.length ≤ 256 ∧ (∀ i, i < s.aZ.length → TM s i) ∧ ∀ i, i < s.ops.length → XH s i
theorem jP {p : Nat → Prop} {i : Nat} (h : ∀ j, j < i → p j) (h' : p i) : ∀ j, j < i + 1 → p j := fun j hj => by
 by_cases e : j < i
 ·exact h j e
 ·have : j = i := by omega
  subst this; exact h'
theorem Oy {α : Type} [Inhabited α] {l : List α} {i : Nat} (h : i < l.length) : l.getD i default ∈ l := by
 rw [List.getD_eq_getElem?_getD, List.getElem?_eq_getElem h]; exact List.getElem_mem h
open Classical in
theorem aa6 (s : Sg) (ho : ∀ o ∈ s.ops, LF o) (hs : ∀ x ∈ s.aZ, x.size ≤ 200) (h40 : s.ops.length ≤ 40) (h41 : s.aZ.length ≤ 40) : Pure Tryz.prog 145 [s.av] (.bool (decide (qR s))) := by
 refine fun H => UL.2.calls rfl ?_
 simp only [UL, aI]
 have f1 : (64 < (s.aZ.length : Int)) = False := eq_false (by omega)
 have f2 : (256 < (s.ops.length : Int)) = False := eq_false (by omega)
 simp +contextual only [aB, f1, f2, decide_false, sZ, Nat.reduceEqDiff, Nat.reduceAdd, ↓reduceIte]
 refine fun _ _ => aE s.aZ.length (fun i => ∀ j, j < i → TM s j) (fun i => [(1, .ai s.av), (3, .int .i64 i)]) (fun i => H) ⟨fun j h => by omega, aA _ _ _⟩ fun i hi hI => ?_
 by_cases hl : i < s.aZ.length
 ·have e0 : ((i : Int) < s.aZ.length) = True := eq_true (by omega)
  have bad (h : ¬ TM s i) : ¬ qR s := fun e => h (e.2.2.1 i hl)
  have hx := hs _ (Oy hl)
  have e1 := XF _ hx
  have e2 := XG _ hx
  have hR : TM s i = (nJ (s.aZ.getD i default) ∧ AF (s.aZ.getD i default) = 0 ∧ ∀ k, k < i → s.aZ.getD k default ≠ s.aZ.getD i default) := rfl
  simp +contextual only [aB, e0, hl, sZ, Nat.reduceEqDiff, Nat.reduceAdd, ↓reduceIte]
  refine fun _ => ae e1 ?_
  by_cases h1 : nJ (s.aZ.getD i default)
  ·rw [decide_eq_true h1]
   simp +contextual only [aB, hl, sZ, Nat.reduceEqDiff, Nat.reduceAdd, ↓reduceIte]
   refine ae e2 ?_
   by_cases h2 : AF (s.aZ.getD i default) = 0
   ·rw [h2]
    have e9 : (0 < ((0 : Nat) : Int)) = False := eq_false (by omega)
    simp +contextual only [e9, decide_false, sZ, Nat.reduceEqDiff, ↓reduceIte]
    refine aE i (fun k => ∀ j, j < k → s.aZ.getD j default ≠ s.aZ.getD i default) (fun k => [(1, .ai s.av), (3, .int .i64 i), (4, .int .i64 k)]) (fun i => H) ⟨fun j h => by omega, aA _ _ _⟩ fun k hk hK => ?_
    by_cases nP : k < i
    ·have e3 : ((k : Int) < i) = True := eq_true (by omega)
     have xa : k < s.aZ.length := by omega
     by_cases h3 : s.aZ.getD k default = s.aZ.getD i default
     ·simp +contextual only [aB, e3, hl, xa, pq, h3, decide_true, sZ, Nat.reduceEqDiff, ↓reduceIte, reduceCtorEq]
      exact jT _ (bad (by rw [hR]; exact fun e => e.2.2 k nP h3))
     ·simp +contextual only [aB, e3, hl, xa, pq, h3, decide_false, sZ, Nat.reduceEqDiff, ↓reduceIte]
      exact ⟨k + 1, ⟨nP, jP hK h3⟩, by omega, aF (by rw [au k (by omega)]) rfl⟩
    ·have e3 : ((k : Int) < i) = False := eq_false (by omega)
     simp +contextual only [e3, sZ, Nat.reduceEqDiff, ↓reduceIte]
     exact ⟨i + 1, ⟨hl, jP hI (by rw [hR]; exact ⟨h1, h2, fun j hj => hK j (by omega)⟩)⟩, by omega, aF (by rw [au i (by omega)]) rfl⟩
   ·have e3 : (0 < ((AF (s.aZ.getD i default) : Nat) : Int)) = True := eq_true (by omega)
    simp +contextual only [e3, decide_true, sZ, Nat.reduceEqDiff, ↓reduceIte, reduceCtorEq]
    exact jT _ (bad (by rw [hR]; exact fun e => h2 e.2.1))
  ·rw [decide_eq_false h1]
   simp +contextual only [sZ, Nat.reduceEqDiff, ↓reduceIte, reduceCtorEq]
   exact jT _ (bad (by rw [hR]; exact fun e => h1 e.1))
 have e0 : ((i : Int) < s.aZ.length) = False := eq_false (by omega)
 have S5 : ∀ i, i < s.aZ.length → TM s i := fun j hj => hI j (by omega)
 simp +contextual only [aB, e0, sZ, Nat.reduceEqDiff, ↓reduceIte]
 refine fun _ => aE s.ops.length (fun i => ∀ j, j < i → XH s j) (fun i => [(1, .ai s.av), (5, .int .i64 i)]) (fun i => H) ⟨fun j h => by omega, aA _ _ _⟩ fun i hi hI => ?_
 by_cases hl : i < s.ops.length
 ·have e0 : ((i : Int) < s.ops.length) = True := eq_true (by omega)
  have bad (h : ¬ XH s i) : ¬ qR s := fun e => h (e.2.2.2 i hl)
  have e1 := aa5 s _ (ho _ (Oy hl))
  have hR : XH s i = (LG s (s.ops.getD i default) ∧ ∀ k, k < i → ¬ TN (s.ops.getD k default) (s.ops.getD i default)) := rfl
  simp +contextual only [aB, e0, hl, sZ, Nat.reduceEqDiff, ↓reduceIte]
  refine fun _ => aH e1 ?_
  by_cases h1 : LG s (s.ops.getD i default)
  ·rw [decide_eq_true h1]
   simp +contextual only [sZ, Nat.reduceEqDiff, ↓reduceIte]
   refine aE i (fun k => ∀ j, j < k → ¬ TN (s.ops.getD j default) (s.ops.getD i default)) (fun k => [(1, .ai s.av), (5, .int .i64 i), (6, .int .i64 k)]) (fun i => H) ⟨fun j h => by omega, aA _ _ _⟩ fun k hk hK => ?_
   by_cases nP : k < i
   ·have e3 : ((k : Int) < i) = True := eq_true (by omega)
    have xa : k < s.ops.length := by omega
    have next (h : ¬ TN (s.ops.getD k default) (s.ops.getD i default)) : ∃ j, (j ≤ i ∧ ∀ j_1, j_1 < j → ¬ TN (s.ops.getD j_1 default) (s.ops.getD i default)) ∧ i - j < i - k ∧ sle H.length [(1, .ai s.av), (5, .int .i64 i), (6, .int .i64 (IntKind.i64.wrap ((k : Int) + 1)))] H [(1, .ai s.av), (5, .int .i64 i), (6, .int .i64 j)] H :=
     ⟨k + 1, ⟨nP, jP hK h⟩, by omega, aF (by rw [au k (by omega)]) rfl⟩
    by_cases h2 : (s.ops.getD k default).name = (s.ops.getD i default).name
    ·by_cases h3 : (s.ops.getD k default).AD = (s.ops.getD i default).AD
     ·simp +contextual only [aB, e3, hl, xa, pq, h2, h3, decide_true, sZ, Nat.reduceEqDiff, ↓reduceIte]
      refine aH (Zl _ _ _ _) ?_
      by_cases h4 : (s.ops.getD k default).args = (s.ops.getD i default).args
      ·simp +contextual only [h4, decide_true, sZ, Nat.reduceEqDiff, ↓reduceIte, reduceCtorEq]
       exact jT _ (bad (by rw [hR]; exact fun e => e.2 k nP ⟨h2, h3, h4⟩))
      ·simp +contextual only [h4, decide_false, sZ, Nat.reduceEqDiff, ↓reduceIte]
       exact next fun e => h4 e.2.2
     ·simp +contextual only [aB, e3, hl, xa, pq, h2, h3, decide_true, decide_false, sZ, Nat.reduceEqDiff, ↓reduceIte]
      exact next fun e => h3 e.2.1
    ·simp +contextual only [aB, e3, hl, xa, pq, h2, decide_false, sZ, Nat.reduceEqDiff, ↓reduceIte]
     exact next fun e => h2 e.1
   ·have e3 : ((k : Int) < i) = False := eq_false (by omega)
    simp +contextual only [e3, sZ, Nat.reduceEqDiff, ↓reduceIte]
    exact ⟨i + 1, ⟨hl, jP hI (by rw [hR]; exact ⟨h1, fun j hj => hK j (by omega)⟩)⟩, by omega, aF (by rw [au i (by omega)]) rfl⟩
  ·rw [decide_eq_false h1]
   simp +contextual only [sZ, Nat.reduceEqDiff, ↓reduceIte, reduceCtorEq]
   exact jT _ (bad (by rw [hR]; exact fun e => h1 e.1))
 ·have e0 : ((i : Int) < s.ops.length) = False := eq_false (by omega)
  simp +contextual only [aB, e0, sZ, Nat.reduceEqDiff, ↓reduceIte, reduceCtorEq]
  refine fun _ => aY rfl ?_
  have : qR s := ⟨by omega, by omega, S5, fun j hj => hI j (by omega)⟩
  simp [this]
end Go.aK
end
section
set_option maxRecDepth 100000
namespace Go.aK
open Go Go.Proofs Go.fJ
open Classical in
theorem c82 (s : Sg) (ho : ∀ o ∈ s.ops, LF o) (hs : ∀ x ∈ s.aZ, x.size ≤ 200) (h40 : s.ops.length ≤ 40) (h41 : s.aZ.length ≤ 40) : Pure Tryz.prog 82 [s.av] (.int .i64 (if qR s then 0 else 40)) := by
 refine fun H => k82.2.calls rfl ?_
 simp only [k82, aI]
 simp +contextual only [aB, sZ, Nat.reduceEqDiff, Nat.reduceAdd, ↓reduceIte]
 refine ae (aa6 s ho hs h40 h41) ?_
 by_cases h : qR s
 ·rw [decide_eq_true h]
  simp +contextual only [sZ, ↓reduceIte, reduceCtorEq]
  exact aY rfl (by rw [if_pos h])
 ·rw [decide_eq_false h]
  simp +contextual only [sZ, ↓reduceIte, reduceCtorEq]
  exact aY rfl (by rw [if_neg h])
def Yk (ps ss : List Int) (i : Nat) : Prop := 0 ≤ ps.getD i 0 ∧ ps.getD i 0 ≤ 255 ∧ 1 ≤ ss.getD i 0 ∧ ss.getD i 0 ≤ 3 ∧ ∀ k, k < i → ¬ (ps.getD i 0 = ps.getD k 0 ∧ ¬ ss.getD i 0 = ss.getD k 0)
theorem CZ (ps ss : List Int) (n : Nat) : N7 ps ss n ↔ ∀ i, i < n → Yk ps ss i := by
 constructor
 ·intro h i hi
  obtain ⟨a, b, c, d⟩ := h.OI i hi
  exact ⟨a, b, c, d, fun k hk e => e.2 (h.st i k hi (by omega) e.1)⟩
 ·intro h
  refine ⟨fun j hj => ⟨(h j hj).1, (h j hj).2.1, (h j hj).2.2.1, (h j hj).2.2.2.1⟩, fun j k hj hk e => ?_⟩
  rcases Nat.lt_trichotomy j k with g | g | g
  ·have := (h k hk).2.2.2.2 j g
   by_cases x : ss.getD j 0 = ss.getD k 0
   ·exact x
   ·exact absurd ⟨e.symm, fun y => x y.symm⟩ this
  ·rw [g]
  ·have := (h j hj).2.2.2.2 k g
   by_cases x : ss.getD j 0 = ss.getD k 0
   ·exact x
   ·exact absurd ⟨e, x⟩ this
open Classical in
theorem c83 (s : Sg) (ps ss : List Int) (h40 : s.ops.length ≤ 40) (h3 : ps.length ≤ 80) (h4 : ss.length ≤ 80) : Pure Tryz.prog 83 [s.av, ff ps ss] (.bool (decide (eI s ps ss))) := by
 refine fun H => k83.2.calls rfl ?_
 simp only [k83, aI]
 obtain ⟨q1, q2, q3, q4, q5, q6⟩ := bi ps ss
 by_cases g1 : ps.length = s.ops.length
 rotate_left
 ·have f1 : ((ps.length : Int) = s.ops.length) = False := eq_false (by omega)
  simp +contextual only [aB, q1, vI, aw, f1, sZ, Nat.reduceEqDiff, Nat.reduceAdd, ↓reduceIte, reduceCtorEq]
  exact fun _ _ => jT _ fun e => g1 e.1
 by_cases g2 : ss.length = s.ops.length
 rotate_left
 ·have f1 : ((ps.length : Int) = s.ops.length) = True := eq_true (by omega)
  have f2 : ((ss.length : Int) = s.ops.length) = False := eq_false (by omega)
  simp +contextual only [aB, q1, vI, w7, aw, f1, f2, decide_false, sZ, Nat.reduceEqDiff, Nat.reduceAdd, ↓reduceIte, reduceCtorEq]
  exact fun _ _ _ => jT _ fun e => g2 e.2.1
 have f1 : ((ps.length : Int) = s.ops.length) = True := eq_true (by omega)
 have f2 : ((ss.length : Int) = s.ops.length) = True := eq_true (by omega)
 simp +contextual only [aB, q1, vI, w7, aw, f1, f2, sZ, Nat.reduceEqDiff, Nat.reduceAdd, ↓reduceIte, reduceCtorEq]
 refine fun _ _ _ => aE s.ops.length (fun i => ∀ j, j < i → Yk ps ss j) (fun i => [(2, .ai s.av), (3, .ai (ff ps ss)), (5, .int .i64 i)]) (fun i => H) ⟨fun j h => by omega, aA _ _ _⟩ fun i hi hI => ?_
 by_cases hl : i < s.ops.length
 ·have e0 : ((i : Int) < s.ops.length) = True := eq_true (by omega)
  have hp : i < ps.length := by omega
  have hq : i < ss.length := by omega
  have bad (h : ¬ Yk ps ss i) : ¬ eI s ps ss := fun e => h ((CZ _ _ _).1 e.2.2 i hp)
  have hR : Yk ps ss i = (0 ≤ ps.getD i 0 ∧ ps.getD i 0 ≤ 255 ∧ 1 ≤ ss.getD i 0 ∧ ss.getD i 0 ≤ 3 ∧ ∀ k, k < i → ¬ (ps.getD i 0 = ps.getD k 0 ∧ ¬ ss.getD i 0 = ss.getD k 0)) := rfl
  by_cases h : 0 ≤ ps.getD i 0 ∧ ps.getD i 0 ≤ 255 ∧ 1 ≤ ss.getD i 0 ∧ ss.getD i 0 ≤ 3
  ·have e1 : (ps.getD i 0 < 0) = False := eq_false (by omega)
   have e2 : (255 < ps.getD i 0) = False := eq_false (by omega)
   have e3 : (ss.getD i 0 < 1) = False := eq_false (by omega)
   have e4 : (3 < ss.getD i 0) = False := eq_false (by omega)
   simp +contextual only [aB, vI, w7, e0, e1, e2, e3, e4, hp, hq, decide_false, sZ, Nat.reduceEqDiff, ↓reduceIte]
   refine fun _ => aE i (fun k => ∀ j, j < k → ¬ (ps.getD i 0 = ps.getD j 0 ∧ ¬ ss.getD i 0 = ss.getD j 0)) (fun k => [(2, .ai s.av), (3, .ai (ff ps ss)), (5, .int .i64 i), (6, .int .i64 k)]) (fun i => H) ⟨fun j h => by omega, aA _ _ _⟩ fun k hk hK => ?_
   by_cases nP : k < i
   ·have e3 : ((k : Int) < i) = True := eq_true (by omega)
    have S2 : k < ps.length := by omega
    have hq2 : k < ss.length := by omega
    have next (h : ¬ (ps.getD i 0 = ps.getD k 0 ∧ ¬ ss.getD i 0 = ss.getD k 0)) : ∃ j, (j ≤ i ∧ ∀ j_1, j_1 < j → ¬ (ps.getD i 0 = ps.getD j_1 0 ∧ ¬ ss.getD i 0 = ss.getD j_1 0)) ∧ i - j < i - k ∧ sle H.length [(2, .ai s.av), (3, .ai (ff ps ss)), (5, .int .i64 i), (6, .int .i64 (IntKind.i64.wrap ((k : Int) + 1)))] H [(2, .ai s.av), (3, .ai (ff ps ss)), (5, .int .i64 i), (6, .int .i64 j)] H :=
     ⟨k + 1, ⟨nP, jP hK h⟩, by omega, aF (by rw [au k (by omega)]) rfl⟩
    by_cases h2 : ps.getD i 0 = ps.getD k 0
    ·have e5 : (ps.getD i 0 = ps.getD k 0) = True := eq_true h2
     by_cases h3 : ss.getD i 0 = ss.getD k 0
     ·have e6 : (ss.getD i 0 = ss.getD k 0) = True := eq_true h3
      simp +contextual only [vI, w7, e3, hp, hq, S2, hq2, e5, e6, decide_true, decide_false, not_true_eq_false, sZ, Nat.reduceEqDiff, ↓reduceIte]
      exact next fun e => e.2 h3
     ·simp +contextual only [vI, w7, e3, hp, hq, S2, hq2, e5, h3, decide_true, not_false_eq_true, sZ, Nat.reduceEqDiff, ↓reduceIte, reduceCtorEq]
      exact jT _ (bad (by rw [hR]; exact fun e => e.2.2.2.2 k nP ⟨h2, h3⟩))
    ·simp +contextual only [vI, e3, hp, S2, h2, decide_true, decide_false, sZ, Nat.reduceEqDiff, ↓reduceIte]
     exact next fun e => h2 e.1
   ·have e3 : ((k : Int) < i) = False := eq_false (by omega)
    simp +contextual only [e3, sZ, Nat.reduceEqDiff, ↓reduceIte]
    exact ⟨i + 1, ⟨hl, jP hI (by rw [hR]; exact ⟨h.1, h.2.1, h.2.2.1, h.2.2.2, fun j hj => hK j (by omega)⟩)⟩, by omega, aF (by rw [au i (by omega)]) rfl⟩
  ·have bad := bad (by rw [hR]; exact fun e => h ⟨e.1, e.2.1, e.2.2.1, e.2.2.2.1⟩)
   have fin := jT (inferInstance : Decidable (eI s ps ss)) (H := H) (s := 4) bad
   have hz : ((ps.getD i 0 < 0) = True ∧ (True ∧ True) = True ∧ (True ∧ True) = True ∧ (True ∧ True) = True) ∨ ((ps.getD i 0 < 0) = False ∧ (255 < ps.getD i 0) = True ∧ (True ∧ True) = True ∧ (True ∧ True) = True) ∨ ((ps.getD i 0 < 0) = False ∧ (255 < ps.getD i 0) = False ∧ (ss.getD i 0 < 1) = True ∧ (True ∧ True) = True) ∨ ((ps.getD i 0 < 0) = False ∧ (255 < ps.getD i 0) = False ∧ (ss.getD i 0 < 1) = False ∧ (3 < ss.getD i 0) = True) := by
    have y := and_self True
    by_cases a : ps.getD i 0 < 0
    ·exact .inl ⟨eq_true a, y, y, y⟩
    by_cases b : 255 < ps.getD i 0
    ·exact .inr (.inl ⟨eq_false a, eq_true b, y, y⟩)
    by_cases c : ss.getD i 0 < 1
    ·exact .inr (.inr (.inl ⟨eq_false a, eq_false b, eq_true c, y⟩))
    ·exact .inr (.inr (.inr ⟨eq_false a, eq_false b, eq_false c, eq_true (by omega)⟩))
   rcases hz with ⟨e1, e2, e3, e4⟩ | ⟨e1, e2, e3, e4⟩ | ⟨e1, e2, e3, e4⟩ | ⟨e1, e2, e3, e4⟩
   all_goals
    simp +contextual only [aB, vI, w7, e0, e1, e2, e3, e4, hp, hq, decide_false, decide_true, sZ, Nat.reduceEqDiff, ↓reduceIte, reduceCtorEq]
    exact fun _ => fin
 ·have e0 : ((i : Int) < s.ops.length) = False := eq_false (by omega)
  simp +contextual only [aB, e0, sZ, Nat.reduceEqDiff, ↓reduceIte, reduceCtorEq]
  refine fun _ => aY rfl ?_
  have : eI s ps ss := ⟨g1, g2, (CZ _ _ _).2 fun j hj => hI j (by omega)⟩
  simp [this]
open Classical in
theorem c25 (s : Sg) (ps ss : List Int) (hs : Yj s ps ss) : Pure Tryz.prog 25 [s.av, ff ps ss] (.int .i64 (if qR s then (if eI s ps ss then 0 else 60) else 40)) := by
 refine fun H => k25.2.calls rfl ?_
 simp only [k25, aI]
 obtain ⟨q1, q2, q3, q4, q5, q6⟩ := bi ps ss
 simp +contextual only [aB, q1, sZ, Nat.reduceEqDiff, Nat.reduceAdd, ↓reduceIte, reduceCtorEq]
 refine ae (c82 s hs.h5 hs.h6 hs.h1 hs.h2) ?_
 by_cases h : qR s
 ·rw [if_pos h]
  simp +contextual only [aB, q4, cz, sZ, Nat.reduceEqDiff, Nat.reduceAdd, ↓reduceIte]
  refine ae (c83 s ps ss hs.h1 hs.h3 hs.h4) ?_
  by_cases h2 : eI s ps ss
  ·rw [decide_eq_true h2]
   simp +contextual only [sZ, ↓reduceIte, reduceCtorEq]
   exact aY rfl (by rw [if_pos h, if_pos h2])
  ·rw [decide_eq_false h2]
   simp +contextual only [sZ, ↓reduceIte, reduceCtorEq]
   exact aY rfl (by rw [if_pos h, if_neg h2])
 ·rw [if_neg h]
  simp +contextual only [sZ, Nat.reduceEqDiff, ↓reduceIte, reduceCtorEq, Int.reduceEq]
  exact aY rfl (by rw [if_neg h])
end Go.aK
end
section
set_option maxRecDepth 100000
namespace Go.aK
open Go Go.Proofs Go.fJ
theorem aa8 (x : T) : Pure Tryz.prog 115 [x.av] (.int .i64 (if x.tree = true then 0 else 4)) := by
 refine fun H => Ux.2.calls rfl ?_
 simp only [Ux, aI]
 simp +contextual only [sZ, Nat.reduceEqDiff, Nat.reduceAdd, ↓reduceIte]
 refine ae (V8 x) ?_
 cases h : x.tree with
 | true => simp +contextual only [sZ, ↓reduceIte, reduceCtorEq]; exact aY rfl rfl
 | false => simp +contextual only [sZ, ↓reduceIte, reduceCtorEq]; exact aY rfl rfl
theorem aa9 (s : Sg) : ∀ t : T, t.shaped = true → Pure Tryz.prog 116 [s.av, t.av] (.bool (nE s t)) := by
 suffices h : ∀ N t, wt t ≤ N → t.shaped = true → Pure Tryz.prog 116 [s.av, t.av] (.bool (nE s t)) from fun t ht => h _ t (Nat.le_refl _) ht
 intro N
 induction N with
 | zero => intro t h; have := fw t; omega
 | succ N ih =>
 intro t hN hs H
 have hk := kc hs
 have ih : ∀ x ∈ t.l, Pure Tryz.prog 116 [s.av, x.av] (.bool (nE s x)) := fun x hx => ih x (by have := bJ hx; omega) (hk.2 x hx)
 have hn : 0 ≤ t.n := by
  rw [T.dR] at hs
  simp only [Bool.and_eq_true, Bool.not_eq_true', Bool.or_eq_false_iff, decide_eq_false_iff_not] at hs
  have := hs.1.1.1.1
  omega
 obtain ⟨m, hm⟩ := Int.eq_ofNat_of_zero_le hn
 refine Uy.2.calls rfl ?_
 simp only [Uy, aI]
 have e : nE s t = (!(decide (t.k = 2) && (decide ((s.ops.length : Int) ≤ t.n) || !decide ((t.l.length : Int) = ((s.ops.getD t.n.toNat default).args.length : Nat)))) && !(t.l.any fun x => !nE s x)) := by
  rw [← tU]; cases t; rfl
 have fin : (!(decide (t.k = 2) && (decide ((s.ops.length : Int) ≤ t.n) || !decide ((t.l.length : Int) = ((s.ops.getD t.n.toNat default).args.length : Nat))))) = false → bV H.length [.t 4] [(4, .bool false)] H fun r H' => r = .bool (nE s t) ∧ H' = H := by
  intro h
  rw [e, h]; exact aY rfl rfl
 by_cases hh : t.k = 2 ∧ (s.ops.length : Int) ≤ t.n
 ·simp +contextual only [aB, hh.1, hh.2, decide_true, sZ, Nat.reduceEqDiff, Nat.reduceAdd, ↓reduceIte, reduceCtorEq]
  exact fin (by simp [hh.1, hh.2])
 have em : t.n.toNat = m := by omega
 by_cases TO : t.k = 2 ∧ ¬ (t.l.length : Int) = ((s.ops.getD m default).args.length : Nat)
 ·have Yd : m < s.ops.length := by omega
  have Tt : ¬ (s.ops.length : Int) ≤ (m : Int) := by omega
  simp +contextual only [aB, TO.1, Tt, TO.2, hm, Yd, aw, decide_true, decide_false, sZ, Nat.reduceEqDiff, Nat.reduceAdd, ↓reduceIte, reduceCtorEq]
  exact fin (by rw [em, decide_eq_true TO.1, decide_eq_false TO.2, decide_eq_false (by omega : ¬ (s.ops.length : Int) ≤ t.n)]; rfl)
 have hd : (!(decide (t.k = 2) && (decide ((s.ops.length : Int) ≤ t.n) || !decide ((t.l.length : Int) = ((s.ops.getD t.n.toNat default).args.length : Nat))))) = true := by
  rw [em]
  by_cases a : t.k = 2
  ·rw [decide_eq_false (fun b => hh ⟨a, b⟩), decide_eq_true (Classical.byContradiction fun b => TO ⟨a, b⟩)]; simp
  ·rw [decide_eq_false a]; rfl
 rw [hd] at e
 have hz : ((t.k = 2) = False ∧ (True ∧ True) = True ∧ (True ∧ True) = True ∧ (True ∧ True) = True) ∨ ((t.k = 2) = True ∧ (m < s.ops.length) = True ∧ ((s.ops.length : Int) ≤ (m : Int)) = False ∧ ((t.l.length : Int) = ((s.ops.getD m default).args.length : Nat)) = True) := by
  have y := and_self True
  by_cases a : t.k = 2
  ·exact .inr ⟨eq_true a, eq_true (by omega), eq_false (by omega), eq_true (Classical.byContradiction fun b => TO ⟨a, b⟩)⟩
  ·exact .inl ⟨eq_false a, y, y, y⟩
 rcases hz with ⟨e1, e2, e3, e4⟩ | ⟨e1, e2, e3, e4⟩
 all_goals
  simp +contextual only [aB, e1, e2, e3, e4, hm, aw, decide_true, decide_false, sZ, Nat.reduceEqDiff, Nat.reduceAdd, ↓reduceIte, reduceCtorEq]
  refine aE t.l.length (fun i => ∀ j, j < i → nE s (t.l.getD j default) = true) (fun i => [(2, .ai s.av), (3, .ai t.av), (5, .int .i64 i)]) (fun i => H) ⟨fun j h => by omega, aA _ _ _⟩ fun i hi hI => ?_
  by_cases hl : i < t.l.length
  ·have e5 : ((i : Int) < t.l.length) = True := eq_true (by omega)
   simp +contextual only [aB, e5, hl, sZ, Nat.reduceEqDiff, ↓reduceIte]
   refine fun _ => aH (ih _ (Oy hl)) ?_
   cases hb : nE s (t.l.getD i default) with
   | false =>
     simp +contextual only [sZ, Nat.reduceEqDiff, ↓reduceIte, reduceCtorEq]
     refine aY rfl ?_
     have : (t.l.any fun x => !nE s x) = true := List.any_eq_true.2 ⟨_, Oy hl, by rw [hb]; rfl⟩
     rw [e, this]; rfl
   | true =>
     simp +contextual only [sZ, Nat.reduceEqDiff, ↓reduceIte]
     exact ⟨i + 1, ⟨hl, jP hI hb⟩, by omega, aF (by rw [au i (by omega)]) rfl⟩
  ·have e5 : ((i : Int) < t.l.length) = False := eq_false (by omega)
   simp +contextual only [e5, sZ, Nat.reduceEqDiff, ↓reduceIte, reduceCtorEq]
   refine fun _ => aY rfl ?_
   have : (t.l.any fun x => !nE s x) = false := by
    rw [List.any_eq_false]
    exact wa fun j hj => by rw [hI j (by omega)]; simp
   rw [e, this]; rfl
theorem c55 (s : Sg) (t : T) : Pure Tryz.prog 55 [s.av, t.av] (.bool (t.tree && nE s t)) := by
 refine fun H => k55.2.calls rfl ?_
 simp only [k55, aI]
 simp +contextual only [aB, sZ, Nat.reduceEqDiff, Nat.reduceAdd, ↓reduceIte, reduceCtorEq]
 refine ae (aa8 t) ?_
 cases h : t.tree with
 | false =>
   simp +contextual only [Bool.false_eq_true, sZ, Nat.reduceEqDiff, ↓reduceIte, reduceCtorEq, Int.reduceEq]
   exact aY rfl rfl
 | true =>
   simp +contextual only [aB, sZ, Nat.reduceEqDiff, Nat.reduceAdd, ↓reduceIte]
   refine ae (aa9 s t ((T.gG t).1 h).2.2) ?_
   simp +contextual only [sZ, Nat.reduceEqDiff, ↓reduceIte, reduceCtorEq]
   exact aY rfl rfl
theorem aba (s : Sg) (t : T) : Pure Tryz.prog 107 ([t.av] ++ [.ai s.av]) (.bool (!(t.tree && nE s t))) := by
 refine fun H => Ut.2.calls rfl ?_
 simp only [Ut, aI]
 simp +contextual only [aB, sZ, Nat.reduceEqDiff, Nat.reduceAdd, ↓reduceIte, reduceCtorEq]
 refine ae (c55 s t) ?_
 simp +contextual only [sZ, ↓reduceIte, reduceCtorEq]
 exact aY rfl rfl
open Classical in
theorem c42 (s : Sg) (ps ss : List Int) (n : Int) (l : List T) (H : List aa) : aq Tryz.prog 42 [s.av, ff ps ss, .int .i64 n, .ap 0 (cG l)] H fun r H' => (∃ b, r = .bool b ∧ (b = true → qR s ∧ eI s ps ss ∧ ∀ t ∈ l, (t.tree && nE s t) = true)) ∧ H' = H := by
 refine k42.2.calls rfl ?_
 simp only [k42, aI]
 obtain ⟨q1, q2, q3, q4, q5, q6⟩ := bi ps ss
 have fin : ∀ (b : Bool), (b = true → qR s ∧ eI s ps ss ∧ ∀ t ∈ l, (t.tree && nE s t) = true) → bV H.length [.t 8] [(8, .bool b)] H fun r H' => (∃ b, r = .bool b ∧ (b = true → qR s ∧ eI s ps ss ∧ ∀ t ∈ l, (t.tree && nE s t) = true)) ∧ H' = H := fun b hb =>
  aV H.length (Nat.le_refl _) (by rw [ax, if_pos rfl]; rfl) ⟨⟨b, by rw [ax, if_pos rfl], hb⟩, List.take_length⟩
 have finf := fin false (fun h => by cases h)
 simp +contextual only [aB, q1, q4, cz, sZ, Nat.reduceEqDiff, Nat.reduceAdd, ↓reduceIte, reduceCtorEq]
 refine af (c18 s ps ss _) ?_
 rintro r G ⟨⟨b, rfl, hb⟩, rfl⟩
 cases b with
 | false => simp +contextual only [sZ, Nat.reduceEqDiff, ↓reduceIte, reduceCtorEq]; exact finf
 | true =>
 have hb := hb rfl
 simp +contextual only [sZ, Nat.reduceEqDiff, Nat.reduceAdd, ↓reduceIte]
 refine af (c19 n l _) ?_
 rintro r G ⟨⟨b, rfl⟩, rfl⟩
 cases b with
 | false => simp +contextual only [sZ, Nat.reduceEqDiff, ↓reduceIte, reduceCtorEq]; exact finf
 | true =>
 simp +contextual only [aB, q4, cz, sZ, Nat.reduceEqDiff, Nat.reduceAdd, ↓reduceIte]
 refine ae (c25 s ps ss hb) ?_
 by_cases h1 : qR s
 rotate_left
 ·rw [if_neg h1]; simp +contextual only [sZ, Nat.reduceEqDiff, ↓reduceIte, reduceCtorEq, Int.reduceEq]; exact finf
 by_cases h2 : eI s ps ss
 rotate_left
 ·rw [if_pos h1, if_neg h2]; simp +contextual only [sZ, Nat.reduceEqDiff, ↓reduceIte, reduceCtorEq, Int.reduceEq]; exact finf
 rw [if_pos h1, if_pos h2]
 simp +contextual only [sZ, Nat.reduceEqDiff, Nat.reduceAdd, ↓reduceIte]
 refine ae (SQ 107 [.ai s.av] rfl _ l fun x _ => aba s x) ?_
 simp +contextual only [sZ, Nat.reduceEqDiff, ↓reduceIte, reduceCtorEq]
 refine fin _ fun h => ⟨h1, h2, fun t ht => ?_⟩
 cases hc : t.tree && nE s t with
 | true => rfl
 | false =>
   have : (l.any fun x => !(x.tree && nE s x)) = true := List.any_eq_true.2 ⟨t, ht, by rw [hc]; rfl⟩
   rw [this] at h; cases h
end Go.aK
end
section
set_option maxRecDepth 100000
namespace Go.aK
open Go Go.Proofs Go.fJ
theorem wb (f : Int → UInt8 → Int) (s : ByteArray) (stop : Nat) (h : stop ≤ s.size) : ∀ (i j : Nat) (b : Int), j + i = s.size → stop = s.size → (ByteArray.foldlM.loop (m := _root_.Id) (fun x y => pure (f x y)) s stop h i j b) = (s.data.toList.drop j).foldl f b
 | 0, j, b, e, e2 => by
   have : s.data.toList.drop j = [] := List.drop_of_length_le (by show s.size ≤ j; omega)
   rw [this]; unfold ByteArray.foldlM.loop
   rw [dif_neg (by omega)]; rfl
 | i + 1, j, b, e, e2 => by
   have hj : j < s.data.toList.length := by show j < s.size; omega
   unfold ByteArray.foldlM.loop
   rw [dif_pos (by omega), List.drop_eq_getElem_cons hj, List.foldl_cons]
   exact wb f s stop h i (j + 1) _ (by omega) e2
theorem Oz (s : ByteArray) : mG s 95 = (AF s : Int) := by
 have h1 : mG s 95 = s.data.toList.foldl (fun (n : Int) x => if x == (95 : Int).toNat.toUInt8 then n + 1 else n) ((0 : Nat) : Int) := by
  unfold mG ByteArray.foldl ByteArray.foldlM
  rw [dif_pos (Nat.le_refl _)]
  exact wb _ s _ _ s.size 0 _ (by omega) rfl
 have h2 : ∀ (l : List UInt8) (n : Nat), l.foldl (fun (n : Int) x => if x == (95 : Int).toNat.toUInt8 then n + 1 else n) (n : Int) = ((n + l.countP (· == (95 : UInt8)) : Nat) : Int) := by
  intro l
  induction l with
  | nil => intro n; simp
  | cons x r ih =>
    intro n
    rw [List.foldl_cons, List.countP_cons]
    by_cases hx : x = 95
    ·subst hx
     have := ih (n + 1)
     exact (this.trans (by simp; omega))
    ·have h95 : (x == (95 : Int).toNat.toUInt8) = false := by
      rw [beq_eq_false_iff_ne]; exact hx
     have h96 : (x == (95 : UInt8)) = false := by
      rw [beq_eq_false_iff_ne]; exact hx
     rw [h95, h96]
     exact (ih n).trans (by simp)
 rw [h1, h2]; simp [AF]
theorem OA {c : UInt8} (h : Te c) : Ad c = false := by
 unfold Te at h
 have e : (((c.toNat : Nat) : Int).toNat.toUInt8) = c := by simp
 unfold Ad
 rw [e, firstIdx_nonneg]
 simp only [Bool.or_eq_false_iff, decide_eq_false_iff_not, List.any_eq_false]
 refine ⟨⟨by omega, by omega⟩, fun x hx Yt => ?_⟩
 rw [beq_iff_eq] at Yt
 subst Yt
 have hx : x = 40 ∨ x = 41 ∨ x = 44 := by simpa using hx
 rcases hx with rfl | rfl | rfl <;> exact h (by decide)
theorem F7 {s : ByteArray} (h : nJ s) : oP s = true := by
 obtain ⟨h1, h2, h3⟩ := h
 unfold oP
 simp only [Bool.and_eq_true, Bool.not_eq_true', decide_eq_false_iff_not, List.all_eq_true]
 refine ⟨⟨by omega, by omega⟩, fun c hc => ?_⟩
 obtain ⟨i, hi, rfl⟩ := List.getElem_of_mem hc
 have := OA (h1 i hi)
 rw [List.getD_eq_getElem?_getD, List.getElem?_eq_getElem hi] at this
 exact this
theorem Tf {s : ByteArray} (h : AF s = 0) : ¬ 0 ≤ N6 s := by
 have hm : ∀ b ∈ s.data.toList, b ≠ 95 := fun b hb e => by
  have := List.countP_eq_zero.1 h b hb
  rw [e] at this; exact this rfl
 unfold N6
 split
 ·rename_i e
  exact absurd rfl (hm 95 (by rw [e]; simp [us]))
 ·rw [firstIdx_none s 95 hm]; omega
theorem C0 {s : Sg} (h : ∀ i, i < s.aZ.length → TM s i) : ∀ n i, i + n = s.aZ.length → me (s.aZ.drop i) (s.aZ.take i) = true
 | 0, i, e => by rw [List.drop_of_length_le (by omega)]; rfl
 | n + 1, i, e => by
   have hl : i < s.aZ.length := by omega
   obtain ⟨h1, h2, h3⟩ := h i hl
   have hni : s.aZ.getD i default ∉ s.aZ.take i := fun hm => by
    obtain ⟨k, hk, e⟩ := List.getElem_of_mem hm
    rw [List.length_take] at hk
    refine h3 k (by omega) ?_
    rw [List.getElem_take] at e
    rw [← e, List.getD_eq_getElem?_getD, List.getElem?_eq_getElem (by omega)]; try rfl
   rw [sX hl, if_pos ⟨F7 h1, Tf h2, hni⟩]
   have : s.aZ.take i ++ [s.aZ.getD i default] = s.aZ.take (i + 1) := by
    rw [List.take_add_one, List.getD_eq_getElem?_getD, List.getElem?_eq_getElem hl]; rfl
   rw [this]
   exact C0 h n (i + 1) (by omega)
theorem Lb {s : Sg} {l : List Int} (h : kF s l) : ∀ a ∈ l, HJ s.aZ.length a = true := fun a ha => by
 obtain ⟨h1, h2⟩ := h a ha
 simp [HJ, h1, h2]
theorem XI {s : Sg} {o : gJ} (h : LG s o) : qH o s.aZ.length = true := by
 obtain ⟨h1, h2, h3, h4, h5, h6⟩ := h
 have hb : AF o.name ≤ o.name.size := List.countP_le_length (p := (· == (95 : UInt8))) (l := o.name.data.toList)
 unfold qH
 rw [Oz]
 simp only [Bool.and_eq_true, Bool.or_eq_true, decide_eq_true_eq, Bool.not_eq_true', List.any_eq_false]
 refine ⟨F7 h1, by omega, by omega, by omega, Lb h6 _ (by simp), fun x hx => ?_⟩
 rw [Lb h5 x hx]; simp
theorem OB {a b : Int} (ha : 0 ≤ a ∧ a < 64) (hb : 0 ≤ b ∧ b < 64) (h : HK a = HK b) : a = b := by
 have k : ∀ a : Int, 0 ≤ a ∧ a < 64 → (HK a).toNat = a.toNat := by
  intro a ha
  unfold HK
  have : IntKind.u8.wrap a = a := by
   simp only [IntKind.wrap]
   have h1 : IntKind.u8.bits = 8 := rfl
   have h2 : IntKind.u8.signed = false := rfl
   rw [h1, h2]
   simp
   omega
  rw [this, UInt8.toNat_ofNat']
  omega
 have := congrArg UInt8.toNat h
 rw [k a ha, k b hb] at this
 omega
theorem s6 : ∀ {l m : List Int}, (∀ a ∈ l, 0 ≤ a ∧ a < 64) → (∀ a ∈ m, 0 ≤ a ∧ a < 64) → l.map HK = m.map HK → l = m
 | [], [], _, _, _ => rfl
 | [], b :: m, _, _, h => by cases h
 | a :: l, [], _, _, h => by cases h
 | a :: l, b :: m, ha, hb, h => by
   simp only [List.map_cons, List.cons.injEq] at h
   rw [OB (ha a (by simp)) (hb b (by simp)) h.1, s6 (fun x hx => ha x (by simp [hx])) (fun x hx => hb x (by simp [hx])) h.2]
theorem F8 : ∀ {l m r t : List UInt8}, (∀ x ∈ l, x ≠ 40) → (∀ x ∈ m, x ≠ 40) → l ++ 40 :: r = m ++ 40 :: t → l = m ∧ r = t
 | [], [], _, _, _, _, h => by simpa using h
 | [], b :: m, _, _, _, hb, h => by
   simp only [List.nil_append, List.cons_append, List.cons.injEq] at h
   exact absurd h.1.symm (hb b (by simp))
 | a :: l, [], _, _, ha, _, h => by
   simp only [List.nil_append, List.cons_append, List.cons.injEq] at h
   exact absurd h.1 (ha a (by simp))
 | a :: l, b :: m, _, _, ha, hb, h => by
   simp only [List.cons_append, List.cons.injEq] at h
   obtain ⟨h1, h2⟩ := F8 (fun x hx => ha x (by simp [hx])) (fun x hx => hb x (by simp [hx])) h.2
   exact ⟨by rw [h.1, h1], h2⟩
theorem XJ {s : ByteArray} (h : nJ s) : ∀ x ∈ s.data.toList, x ≠ 40 := fun x hx e => by
 obtain ⟨i, hi, rfl⟩ := List.getElem_of_mem hx
 have := h.1 i hi
 rw [List.getD_eq_getElem?_getD, List.getElem?_eq_getElem hi, Option.getD_some, e] at this
 exact this (by decide)
theorem key_inj {s : Sg} {o q : gJ} (h64 : s.aZ.length ≤ 64) (ho : LG s o) (hq : LG s q) (h : mH o = mH q) : TN o q := by
 have h : HL o = HL q := by
  have := congrArg (fun b : ByteArray => b.data.toList) h
  simpa [mH] using this
 have f : ∀ o : gJ, HL o = o.name.data.toList ++ 40 :: (o.args ++ [o.AD]).map HK := fun o => by
  unfold HL; simp [ByteArray.data_append]
 rw [f, f] at h
 obtain ⟨h1, h2⟩ := F8 (XJ ho.1) (XJ hq.1) h
 have g : ∀ o : gJ, LG s o → ∀ a ∈ o.args ++ [o.AD], 0 ≤ a ∧ a < 64 := fun o ho a ha => by
  rcases List.mem_append.1 ha with ha | ha
  ·have := ho.2.2.2.2.1 a ha; omega
  ·have := ho.2.2.2.2.2 a ha; omega
 have h3 := s6 (g o ho) (g q hq) h2
 have h4 := List.append_inj' h3 rfl
 refine ⟨?_, by simpa using h4.2, h4.1⟩
 have := Array.toList_inj.1 h1
 cases Qp : o.name; cases hq' : q.name
 rw [Qp, hq'] at this
 simpa using this
theorem Lc {s : Sg} (h64 : s.aZ.length ≤ 64) (h : ∀ i, i < s.ops.length → XH s i) : ∀ n i, i + n = s.ops.length → Ae s.aZ.length (s.ops.drop i) ((s.ops.take i).map mH) = true
 | 0, i, e => by rw [List.drop_of_length_le (by omega)]; rfl
 | n + 1, i, e => by
   have hl : i < s.ops.length := by omega
   obtain ⟨h1, h3⟩ := h i hl
   have hni : mH (s.ops.getD i default) ∉ (s.ops.take i).map mH := fun hm => by
    obtain ⟨q, hq, e⟩ := List.mem_map.1 hm
    obtain ⟨k, hk, e2⟩ := List.getElem_of_mem hq
    rw [List.length_take] at hk
    rw [List.getElem_take] at e2
    have eq : s.ops.getD k default = q := by
     rw [← e2, List.getD_eq_getElem?_getD, List.getElem?_eq_getElem (by omega)]; try rfl
    have P5 := h k (by omega)
    refine h3 k (by omega) ?_
    rw [eq]
    exact key_inj h64 (eq ▸ P5.1) h1 e
   rw [ym hl, if_pos ⟨XI h1, hni⟩]
   have : (s.ops.take i).map mH ++ [mH (s.ops.getD i default)] = (s.ops.take (i + 1)).map mH := by
    rw [List.take_add_one, List.map_append, List.getD_eq_getElem?_getD, List.getElem?_eq_getElem hl]; rfl
   rw [this]
   exact Lc h64 h n (i + 1) (by omega)
theorem Tg {s : Sg} (h : qR s) : nD s = true := by
 obtain ⟨h1, h2, h3, h4⟩ := h
 unfold nD
 simp only [Bool.and_eq_true, decide_eq_true_eq]
 exact ⟨⟨⟨by omega, by omega⟩, C0 h3 s.aZ.length 0 (by omega)⟩, Lc h1 h4 s.ops.length 0 (by omega)⟩
theorem Th {s : Sg} {ps ss : List Int} (h1 : qR s) (h2 : eI s ps ss) {l : List T} (h : ∀ t ∈ l, (t.tree && nE s t) = true) : fU s ps ss l = 0 := by
 have : iX s ps ss = 0 := by unfold iX; rw [if_pos (Tg h1), if_pos h2]
 unfold fU
 rw [if_pos this, if_pos (List.all_eq_true.2 h)]
end Go.aK
end
section
set_option maxRecDepth 100000
namespace Go.aK
open Go Go.Proofs Go.fJ
theorem c45 {s : Sg} {ps ss : List Int} {a b : T} (h : fU s ps ss [a, b] = 0) : Pure Tryz.prog 45 [s.av, ff ps ss, a.av, b.av] (.tuple [.bool (wv ps ss a b), .bool true]) := by
 refine fun H => k45.2.calls rfl ?_
 simp only [k45, aI]
 obtain ⟨q1, q2, q3, q4, q5, q6⟩ := bi ps ss
 have e := Z3 s ps ss a b
 rw [if_pos h, h] at e
 simp +contextual only [aB, q1, q4, cz, sZ, Nat.reduceEqDiff, Nat.reduceAdd, ↓reduceIte, reduceCtorEq]
 refine ae e ?_
 simp +contextual only [decide_true, sZ, Nat.reduceEqDiff, Nat.reduceAdd, Nat.reduceLT, ↓reduceIte, reduceCtorEq]
 exact BX (by decide) rfl rfl rfl rfl
end Go.aK
end
section
set_option maxRecDepth 100000
set_option maxHeartbeats 0
namespace Go.aK
open Go Go.Proofs
noncomputable def k13 := aI Tryz.call13 Tryz.func13 Tryz.ntmps13 [(0,0,1),(0,1,1),(0,2,1),(0,3,1)] [(0,[4,5,6,7]),(1,[4,5,6,7,19]),(2,[8]),(3,[4,5,6,7,36]),(4,[8]),(5,[4,5,6,7,9,10]),(6,[4,5,6,7,9,10,11,12]),(7,[9,10,11,12,13,14]),(8,[9,10,11,12,13,14,15]),(9,[10,12,14,15,64,65,66]),(10,[10,12,14,15,64,65,66,67]),(11,[10,12,14,15,17,64,65,66]),(12,[10,12,14,15,64,65,66,70]),(13,[10,12,14,15,64,65,66]),(14,[10,12,14,15,64,65,66]),(15,[8])] []
end Go.aK
end
section
set_option maxRecDepth 100000
set_option maxHeartbeats 1000000
namespace Go.aK
open Go Go.Proofs Go.fJ
theorem F9 : ∀ {l : List T}, FE l = [] → ∀ x ∈ l, x.fv = []
 | [], _, x, hx => by cases hx
 | y :: r, h, x, hx => by
   simp only [FE, List.append_eq_nil_iff] at h
   rcases List.mem_cons.1 hx with rfl | hx
   ·exact h.1
   ·exact F9 h.2 x hx
theorem Ld : ∀ (N : Nat) (t : T), wt t ≤ N → t.shaped = true → t.fv = [] → Gr t
 | 0, t, h, _, _ => by have := fw t; omega
 | N + 1, .mk k n l, h, hs, hf => by
   have hk := (kc hs).2
   rw [T.dR] at hs
   simp only [Bool.and_eq_true, Bool.not_eq_true', Bool.or_eq_false_iff, Bool.and_eq_false_iff, decide_eq_false_iff_not] at hs
   simp only [T.fv] at hf
   have N2 : k ≠ 1 := fun e => by rw [if_pos e] at hf; cases hf
   have E9 : k = 2 := by
    have := hs.1.1.2
    simp only [T.k] at this
    omega
   subst E9
   refine .mk n l fun x hx => Ld N x (by have := bJ (a := .mk 2 n l) hx; omega) (hk x hx) ?_
   rw [if_neg (by decide)] at hf
   exact F9 hf x hx
theorem c13 (s : Sg) (ps ss : List Int) (a b : T) : Pure Tryz.prog 13 [s.av, ff ps ss, a.av, b.av] (.bool true) := by
 refine fun H => k13.2.calls rfl ?_
 simp only [k13, aI]
 obtain ⟨q1, q2, q3, q4, q5, q6⟩ := bi ps ss
 simp +contextual only [aB, q1, sZ, Nat.reduceEqDiff, Nat.reduceAdd, ↓reduceIte, reduceCtorEq]
 refine ae c17 ?_
 simp +contextual only [aB, q4, cz, sZ, Nat.reduceEqDiff, Nat.reduceAdd, ↓reduceIte]
 have fin : ∀ (G : List aa), G.take H.length = H → bV H.length [.t 8] [(8, .bool true)] G fun r H' => r = .bool true ∧ H' = H := fun G hG =>
  aV H.length (Nat.le_refl _) (by rw [ax, if_pos rfl]; rfl) ⟨by rw [ax, if_pos rfl], hG⟩
 refine af (c42 s ps ss 40 [a, b] H) ?_
 rintro r G ⟨⟨b1, rfl, hb⟩, rfl⟩
 cases b1 with
 | false => simp +contextual only [sZ, Nat.reduceEqDiff, ↓reduceIte, reduceCtorEq]; exact fin _ (by simp)
 | true =>
 obtain ⟨h1, h2, h3⟩ := hb rfl
 simp +contextual only [sZ, Nat.reduceEqDiff, Nat.reduceAdd, ↓reduceIte]
 refine ae (c51 a) ?_
 cases ga : lY a with
 | false => simp +contextual only [sZ, Nat.reduceEqDiff, ↓reduceIte, reduceCtorEq]; exact fin _ (by simp)
 | true =>
 simp +contextual only [sZ, Nat.reduceEqDiff, Nat.reduceAdd, ↓reduceIte]
 refine ae (c51 b) ?_
 cases gb : lY b with
 | false => simp +contextual only [sZ, Nat.reduceEqDiff, ↓reduceIte, reduceCtorEq]; exact fin _ (by simp)
 | true =>
 have ma : a ∈ [a, b] := by simp
 have mb : b ∈ [a, b] := by simp
 have ask (x y : T) (hx : x ∈ [a, b]) (hy : y ∈ [a, b]) : fU s ps ss [x, y] = 0 := Th h1 h2 fun t ht => by
  rcases List.mem_cons.1 ht with rfl | ht
  ·exact h3 _ hx
  ·rw [List.mem_singleton.1 ht]; exact h3 _ hy
 have e := Z4 s ps ss a b
 rw [if_pos (ask a b ma mb), ask a b ma mb] at e
 simp +contextual only [aB, q4, cz, sZ, Nat.reduceEqDiff, Nat.reduceAdd, ↓reduceIte]
 refine ae (c45 (ask a b ma mb)) ?_
 simp +contextual only [aB, q4, cz, sZ, Nat.reduceEqDiff, Nat.reduceAdd, Nat.reduceLT, ↓reduceIte]
 refine ae (c45 (ask b a mb ma)) ?_
 simp +contextual only [aB, q4, cz, sZ, Nat.reduceEqDiff, Nat.reduceAdd, Nat.reduceLT, ↓reduceIte]
 refine ae e ?_
 simp +contextual only [sZ, Nat.reduceEqDiff, Nat.reduceAdd, Nat.reduceLT, ↓reduceIte]
 have gA := Ld _ a (Nat.le_refl _) ((T.gG a).1 (by have := h3 a ma; simp only [Bool.and_eq_true] at this; exact this.1)).2.2 (by simp only [lY, Bool.and_eq_true, decide_eq_true_eq] at ga; exact ga.2)
 have gB := Ld _ b (Nat.le_refl _) ((T.gG b).1 (by have := h3 b mb; simp only [Bool.and_eq_true] at this; exact this.1)).2.2 (by simp only [lY, Bool.and_eq_true, decide_eq_true_eq] at gb; exact gb.2)
 have one : (([wv ps ss a b, wv ps ss b a, N8 ps ss a b].countP fun x => x) : Nat) = 1 := by
  rcases NY (O := kE ps ss) gA gB with h | h | h
  ·have x1 : wv ps ss a b = false := Bool.eq_false_iff.2 fun e => Ci h (iw.1 e)
   have x2 : wv ps ss b a = false := Bool.eq_false_iff.2 fun e => Ci h.symm (iw.1 e)
   rw [x1, x2, qK.2 h]; rfl
  ·have x1 : N8 ps ss a b = false := Bool.eq_false_iff.2 fun e => Ci (qK.1 e) h
   have x2 : wv ps ss b a = false := Bool.eq_false_iff.2 fun e => FI h (iw.1 e)
   rw [x1, x2, iw.2 h]; rfl
  ·have x1 : N8 ps ss a b = false := Bool.eq_false_iff.2 fun e => Ci (qK.1 e).symm h
   have x2 : wv ps ss a b = false := Bool.eq_false_iff.2 fun e => FI h (iw.1 e)
   rw [x1, x2, iw.2 h]; rfl
 have ec : ∀ x, aQ (AV.bool x) = AV.bool x := fun _ => rfl
 simp only [ec]
 generalize wv ps ss a b = x at *
 generalize wv ps ss b a = y at *
 generalize N8 ps ss a b = z at *
 have ix (i : Nat) (φ : AV → Prop) : ay 1 (.ap 0 [.bool x, .bool y, .bool z]) (.int .i64 (i : Int)) φ = (i < 3 ∧ φ (.ai (.bool ([x, y, z].getD i false)))) := by
  simp only [ay, List.length_cons, List.length_nil, Int.toNat_natCast, eq_iff_iff]
  constructor
  ·rintro ⟨h1, h2, h3⟩
   have : i = 0 ∨ i = 1 ∨ i = 2 := by omega
   rcases this with rfl | rfl | rfl <;> exact ⟨by omega, by simpa using h3⟩
  ·rintro ⟨h1, h3⟩
   have : i = 0 ∨ i = 1 ∨ i = 2 := by omega
   rcases this with rfl | rfl | rfl <;> exact ⟨by omega, by omega, by simpa using h3⟩
 have il : (∀ (own : Nat) (xs : List AV), AV.ap 0 [AV.bool x, AV.bool y, AV.bool z] = AV.ap own xs → ∀ z ∈ xs, z.cells.length = 1) = True := by
  refine eq_true fun own xs h v hv => ?_
  cases h
  simp only [List.mem_cons, List.not_mem_nil, or_false] at hv
  rcases hv with rfl | rfl | rfl <;> rfl
 refine aE 3 (fun i => True) (fun i => [(10, .bool true), (12, .bool true), (14, .int .i64 0), (15, .int .i64 ((([x, y, z].take i).countP fun x => x) : Nat)), (64, .ap 0 [.bool x, .bool y, .bool z]), (65, .int .i64 (3 : Nat)), (66, .int .i64 i)]) (fun _ => G) ⟨trivial, aA _ _ _⟩ fun i hi _ => ?_
 by_cases hl : i < 3
 ·have e5 : ((i : Int) < ((3 : Nat) : Int)) = True := eq_true (by omega)
  have ct : ([x, y, z].take (i + 1)).countP (fun x => x) = ([x, y, z].take i).countP (fun x => x) + if [x, y, z].getD i false = true then 1 else 0 := by
   have : i = 0 ∨ i = 1 ∨ i = 2 := by omega
   rcases this with rfl | rfl | rfl <;> cases x <;> cases y <;> cases z <;> rfl
  have cl : ([x, y, z].take i).countP (fun x => x) ≤ 3 := Nat.le_trans List.countP_le_length (by rw [List.length_take]; exact Nat.min_le_right _ _)
  cases hv : [x, y, z].getD i false with
  | true =>
    rw [hv, if_pos rfl] at ct
    simp +contextual only [ix, il, e5, hv, hl, sZ, Nat.reduceEqDiff, ↓reduceIte]
    exact ⟨i + 1, hl, by omega, aF (by rw [au i (by omega), au _ (by omega), ct]) rfl⟩
  | false =>
    rw [hv, if_neg (by decide)] at ct
    simp +contextual only [ix, il, e5, hv, hl, sZ, Nat.reduceEqDiff, ↓reduceIte]
    exact ⟨i + 1, hl, by omega, aF (by rw [au i (by omega), ct]; rfl) rfl⟩
 ·have e5 : ((i : Int) < ((3 : Nat) : Int)) = False := eq_false (by omega)
  have e6 : ([x, y, z].take i).countP (fun x => x) = 1 := by rw [List.take_of_length_le (by simp; omega)]; exact one
  simp +contextual only [e5, e6, decide_true, sZ, Nat.reduceEqDiff, ↓reduceIte, reduceCtorEq]
  exact fin _ (by simp)
end Go.aK
end
section
set_option maxRecDepth 100000
namespace Go.aK
open Go Go.RowKit Go.fJ
section
variable {H : Type} {enc : TypeId × Value → H} {P : Program} {w : World} {base : Nat} {sp : Nat → Bool} {held : Bool}
def Rd {H : Type} (enc : TypeId × Value → H) (P : Program) (w : World) (base : Nat) (sp : Nat → Bool) (held : Bool) {α : Type} (t : TypeId) (g : α → AV) (R : DataW H → α → Prop) : Prop :=
 ∀ (fuel : Nat) (cs : List Value) (x : DataW H × List MemPlace), DataW.trod enc P w base sp held fuel t cs = some x → ∃ a, aJ (fF w) [] cs (g a).cells ∧ R x.1 a
theorem Lf {ti : TypeId} (h : P.underlying ti = some (.int .i64)) : Rd enc P w base sp held ti (fun n : Int => .int .i64 n) (fun _ _ => True) := by
 intro fuel cs x hx
 obtain ⟨k, rfl, _, _⟩ := DataW.trod_int h hx
 exact ⟨k, .cons _ _ _ _ (.int _ _) .nil, trivial⟩
theorem Lg {ti : TypeId} (h : P.underlying ti = some .string) : Rd enc P w base sp held ti (fun s : ByteArray => .str s) (fun _ _ => True) := by
 intro fuel cs x hx
 obtain ⟨k, rfl, _, _⟩ := DataW.trod_string h hx
 exact ⟨k, .cons _ _ _ _ (.str _) .nil, trivial⟩
def C1 {α : Type} (d : DataW H) (l : List α) : Prop := match d with | .slice es _ => l.length = es.length | _ => l = []
theorem wc {α : Type} [Inhabited α] {te tl : TypeId} {g : α → AV} {R : DataW H → α → Prop} {e : Nat} (hl : P.underlying tl = some (.slice te)) (hc : P.cellsOf te = e) (he : 0 < e) (h : Rd enc P w base sp held te g R) :
 Rd enc P w base sp held tl (fun l : List α => .ap 0 (l.map g)) C1 := by
 intro fuel cs x hx
 rcases DataW.trod_slice hl hx with ⟨rfl, rfl⟩ | ⟨a, len, cap, elems, rest, m, hm, rfl, rfl, hb, hle, cI, Tq, jo, _, _⟩
 ·exact ⟨[], .cons _ _ _ _ aR.ah.drop .nil, rfl⟩
 ·rw [hc] at jo
  have hex : ∀ i, i < len → ∃ t : α, ∃ cs', w.cells? base (a.add (i * e)) e = some cs' ∧ aJ (fF w) [] cs' (g t).cells := by
   intro i hi
   have := jo i hi
   rw [List.getElem?_eq_getElem (by omega)] at this
   obtain ⟨cs', k1, k2⟩ := Option.bind_eq_some_iff.1 this
   obtain ⟨t, ht, _⟩ := h _ _ _ k2
   exact ⟨t, cs', k1, ht⟩
  have hf : ∃ f : Nat → α, ∀ i, i < len → ∃ cs', w.cells? base (a.add (i * e)) e = some cs' ∧ aJ (fF w) [] cs' (g (f i)).cells := by
   refine ⟨fun i => if hi : i < len then Classical.choose (hex i hi) else default, fun i hi => ?_⟩
   simp only [dif_pos hi]
   exact Classical.choose_spec (hex i hi)
  obtain ⟨f, hf⟩ := hf
  refine ⟨(List.range len).map f, .cons _ _ _ _ ?_ .nil, by simp [C1, Tq]⟩
  show aR (fF w) [] _ (.ap 0 (((List.range len).map f).map g))
  rw [List.map_map]
  refine xR (e := e) (base := base) he hle cI (fun i => if hi : i < len then Classical.choose (hf i hi) else []) _ fun i hi => ?_
  simp only [dif_pos hi]
  exact Classical.choose_spec (hf i hi)
structure qS (P : Program) (ti ts tis tss top tops tsig : TypeId) : Prop where
 int : P.underlying ti = some (.int .i64)
 str : P.underlying ts = some .string
 ints : P.underlying tis = some (.slice ti)
 strs : P.underlying tss = some (.slice ts)
 op : ∃ f0 f1 f2 : Field, P.underlying top = some (.struct #[f0, f1, f2]) ∧ f0.type = ts ∧ f0.offset = 0 ∧ f1.type = tis ∧ f1.offset = 1 ∧ f2.type = ti ∧ f2.offset = 2
 ops : P.underlying tops = some (.slice top)
 sig : ∃ f0 f1 : Field, P.underlying tsig = some (.struct #[f0, f1]) ∧ f0.type = tss ∧ f0.offset = 0 ∧ f1.type = tops ∧ f1.offset = 1
 c : P.cellsOf ti = 1 ∧ P.cellsOf ts = 1 ∧ P.cellsOf tis = 1 ∧ P.cellsOf tss = 1 ∧ P.cellsOf top = 3 ∧ P.cellsOf tops = 1 ∧ P.cellsOf tsig = 2
variable {ti ts tis tss top tops tsig : TypeId}
theorem jQ {v : List Value} {x : AV} (h : aJ (fF w) [] v [x]) : ∃ u, v = [u] ∧ aR (fF w) [] u x := by
 cases h with
 | cons v x vs xs h t => cases t; exact ⟨_, rfl, h⟩
theorem Ay (S : qS P ti ts tis tss top tops tsig) : Rd enc P w base sp held tis (fun l : List Int => .ap 0 (ints l)) C1 := wc S.ints S.c.1 (by decide) (Lf S.int)
theorem OC (S : qS P ti ts tis tss top tops tsig) : Rd enc P w base sp held tss (fun l : List ByteArray => .ap 0 (strs l)) C1 := wc S.strs S.c.2.1 (by decide) (Lg S.str)
theorem XK (S : qS P ti ts tis tss top tops tsig) : Rd enc P w base sp held top gJ.av (fun _ _ => True) := by
 intro fuel cs x h
 obtain ⟨f0, f1, f2, hu, h0, o0, h1, o1, h2, o2⟩ := S.op
 obtain ⟨c1, c2, c3, c4, c5, c6, c7⟩ := S.c
 obtain ⟨xs, m, rfl, rfl, hlen, fx, hf⟩ := DataW.trod_struct hu h
 have g0 := hf 0 f0 rfl
 have g1 := hf 1 f1 rfl
 have g2 := hf 2 f2 rfl
 rw [h0, o0, c2] at g0
 rw [h1, o1, c3] at g1
 rw [h2, o2, c1] at g2
 simp at fx
 rw [c5] at hlen
 match cs, hlen with
 | [a, b, c], _ =>
   have e0 : xs[0]? = some xs[0] := by simp [fx]
   have e1 : xs[1]? = some xs[1] := by simp [fx]
   have e2 : xs[2]? = some xs[2] := by simp [fx]
   rw [e0] at g0; rw [e1] at g1; rw [e2] at g2
   obtain ⟨nm, r0, _⟩ := Lg S.str _ _ _ g0
   obtain ⟨ar, r1, _⟩ := Ay S _ _ _ g1
   obtain ⟨re, r2, _⟩ := Lf S.int _ _ _ g2
   obtain ⟨_, q0, r0⟩ := jQ r0
   obtain ⟨_, q1, r1⟩ := jQ r1
   obtain ⟨_, q2, r2⟩ := jQ r2
   simp at q0 q1 q2
   subst q0 q1 q2
   exact ⟨⟨nm, ar, re⟩, .cons _ _ _ _ r0 (.cons _ _ _ _ r1 (.cons _ _ _ _ r2 .nil)), trivial⟩
theorem Ti (S : qS P ti ts tis tss top tops tsig) : Rd enc P w base sp held tops (fun l : List gJ => .ap 0 (oB l)) C1 := wc S.ops S.c.2.2.2.2.1 (by decide) (XK S)
theorem Tj (S : qS P ti ts tis tss top tops tsig) : Rd enc P w base sp held tsig Sg.av (fun _ _ => True) := by
 intro fuel cs x h
 obtain ⟨f0, f1, hu, h0, o0, h1, o1⟩ := S.sig
 obtain ⟨c1, c2, c3, c4, c5, c6, c7⟩ := S.c
 obtain ⟨xs, m, rfl, rfl, hlen, fx, hf⟩ := DataW.trod_struct hu h
 have g0 := hf 0 f0 rfl
 have g1 := hf 1 f1 rfl
 rw [h0, o0, c4] at g0
 rw [h1, o1, c6] at g1
 simp at fx
 rw [c7] at hlen
 match cs, hlen with
 | [a, b], _ =>
   have e0 : xs[0]? = some xs[0] := by simp [fx]
   have e1 : xs[1]? = some xs[1] := by simp [fx]
   rw [e0] at g0; rw [e1] at g1
   obtain ⟨nm, r0, _⟩ := OC S _ _ _ g0
   obtain ⟨ar, r1, _⟩ := Ti S _ _ _ g1
   obtain ⟨_, q0, r0⟩ := jQ r0
   obtain ⟨_, q1, r1⟩ := jQ r1
   simp at q0 q1
   subst q0 q1
   exact ⟨⟨nm, ar⟩, .cons _ _ _ _ r0 (.cons _ _ _ _ r1 .nil), trivial⟩
theorem OD (S : qS P ti ts tis tss top tops tsig) {r : Reach} {b0 : Nat} {v : Value} {d : DataW H} {ps : List MemPlace} (kJ : Value.okWide P w r b0 tsig v) (hd : DataW.Trod enc P w base sp held tsig v d ps) : ∃ s : Sg, aR (fF w) [] v s.av := by
 obtain ⟨f0, f1, hu, _⟩ := S.sig
 obtain ⟨cs, rfl, _⟩ := WideShapes.okWide_struct hu kJ
 obtain ⟨fuel, hf⟩ := hd
 obtain ⟨o, h1, _⟩ := Tj S _ _ _ hf
 refine ⟨o, ?_⟩
 have : aR (fF w) [] (.agg cs.toList.toArray) o.av := .agg _ _ h1
 simpa using this
structure Tk (P : Program) (tis tod : TypeId) : Prop where
 od : ∃ f0 f1 : Field, P.underlying tod = some (.struct #[f0, f1]) ∧ f0.type = tis ∧ f0.offset = 0 ∧ f1.type = tis ∧ f1.offset = 1
 c : P.cellsOf tod = 2
theorem XL (S : qS P ti ts tis tss top tops tsig) {tod : TypeId} (O : Tk P tis tod) : Rd enc P w base sp held tod (fun o : List Int × List Int => ff o.1 o.2) (fun _ _ => True) := by
 intro fuel cs x h
 obtain ⟨f0, f1, hu, h0, o0, h1, o1⟩ := O.od
 obtain ⟨c1, c2, c3, c4, c5, c6, c7⟩ := S.c
 obtain ⟨xs, m, rfl, rfl, hlen, fx, hf⟩ := DataW.trod_struct hu h
 have g0 := hf 0 f0 rfl
 have g1 := hf 1 f1 rfl
 rw [h0, o0, c3] at g0
 rw [h1, o1, c3] at g1
 simp at fx
 rw [O.c] at hlen
 match cs, hlen with
 | [a, b], _ =>
   have e0 : xs[0]? = some xs[0] := by simp [fx]
   have e1 : xs[1]? = some xs[1] := by simp [fx]
   rw [e0] at g0; rw [e1] at g1
   obtain ⟨nm, r0, _⟩ := Ay S _ _ _ g0
   obtain ⟨ar, r1, _⟩ := Ay S _ _ _ g1
   obtain ⟨_, q0, r0⟩ := jQ r0
   obtain ⟨_, q1, r1⟩ := jQ r1
   simp at q0 q1
   subst q0 q1
   exact ⟨(nm, ar), .cons _ _ _ _ r0 (.cons _ _ _ _ r1 .nil), trivial⟩
theorem OE (S : qS P ti ts tis tss top tops tsig) {tod : TypeId} (O : Tk P tis tod) {r : Reach} {b0 : Nat} {v : Value} {d : DataW H} {ps : List MemPlace} (kJ : Value.okWide P w r b0 tod v) (hd : DataW.Trod enc P w base sp held tod v d ps) : ∃ pl st : List Int, aR (fF w) [] v (ff pl st) := by
 obtain ⟨f0, f1, hu, _⟩ := O.od
 obtain ⟨cs, rfl, _⟩ := WideShapes.okWide_struct hu kJ
 obtain ⟨fuel, hf⟩ := hd
 obtain ⟨o, h1, _⟩ := XL S O _ _ _ hf
 refine ⟨o.1, o.2, ?_⟩
 have : aR (fF w) [] (.agg cs.toList.toArray) (ff o.1 o.2) := .agg _ _ h1
 simpa using this
end
end Go.aK
end
section
set_option maxRecDepth 100000
namespace Go.Proofs.YtljchnfgjdjobaaGreat
open Go
theorem Tl : laidOutB Tryz.checked.prog = true := by kernel_rfl
theorem Tm : mapsRowed Tryz.checked.prog = true := by kernel_rfl
theorem OF : Tryz.checked.prog.stopsHeard = true := by kernel_rfl
theorem OG : Tryz.checked.prog.mayEnter = true := by kernel_rfl
theorem OH : Tryz.checked.prog.liftsFinal = false := by kernel_rfl
end Go.Proofs.YtljchnfgjdjobaaGreat
end
