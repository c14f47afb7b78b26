/- Part 15 of 18 of the proof. -/
import Derived.Test.YtljchnfgjdjobaaGreatSan
import Derived.Test.YtljchnfgjdjobaaGreatSag
import Derived.KernelRfl
set_option linter.unusedVariables false
set_option linter.unusedSimpArgs false
set_option linter.defProp false
set_option linter.unusedSectionVars false
section
set_option maxRecDepth 100000
namespace Go.aK
open Go Go.Proofs Go.fD
theorem WI {c : Cx} (hc : c.Ok) {i k : Int} (hi : c.dI i) (hk : c.dI k) (hR : R c.O (c.tm i) (c.tm k)) (hr : gC c i k 3) (jK : ∀ m, m < 3 → ¬ gC c i k m) (hp : ∀ y ∈ c.kd k, R c.O (c.tm i) (c.tm y) → ow c i y) (SJ : ∀ x ∈ c.kd i, ∀ y ∈ c.kd k, R c.O (c.tm x) (c.tm y) → ow c x y) : ow c i k := by
 intro H hD
 refine CD.2.calls rfl ?_
 simp only [CD, aI]
 have k2 : ∀ l, (bo l).ab = bo l := fun l => (aE l).2.1
 have ki := hc.kids i hi
 have kk := hc.kids k hk
 have l1 := hc.kl i hi
 have l2 := hc.kl k hk
 obtain ⟨a1, a2, a3, a4, a5⟩ := aE (c.kd i)
 obtain ⟨b1, b2, b3, b4, b5⟩ := aE (c.kd k)
 have ii : IL (bo (c.kd i)) (c.kd i) := .inl rfl
 have ik : IL (bo (c.kd k)) (c.kd k) := .inl rfl
 have ei : (c.nd.getD i.toNat default).snd = c.kd i := rfl
 have ek : (c.nd.getD k.toNat default).snd = c.kd k := rfl
 obtain ⟨m1, m2, m3⟩ := hD.lt
 have ed : ∀ X : List aa, (H ++ X)[c.d]? = H[c.d]? := fun X => List.getElem?_append_left m1
 have spv : ∀ x : AV, ag [AV.ah] 0 [x] = [x] := fun x => rfl
 have spq : ag [AV.int .i64 0, .int .i64 0, .ah, .ah] 0 [AV.int .i64 0, .int .i64 0, .ah, .ah] = [AV.int .i64 0, .int .i64 0, .ah, .ah] := rfl
 simp +contextual only [sZ, Nat.reduceEqDiff, Nat.reduceAdd, ↓reduceIte, reduceCtorEq]
 refine kT (K1 := fun e G => get e 1 = .int .i64 i ∧ get e 3 = .ai (.ptr c.d 0) ∧ get e 5 = .ai (.int .i64 k) ∧ get e 6 = .ptr H.length 0 ∧ ∃ x y, get e 7 = .ptr x 0 ∧ get e 8 = .ptr y 0 ∧ XY H x y ∧ PA c H x y i k G) ?_ ?_
 ·have P0 : aa := .cells [.int .i64 0, .int .i64 0, .ah, .ah]
  have A : ∃ x y, AV.ptr (H.length + 1) 0 = .ptr x 0 ∧ AV.ptr (H.length + 2) 0 = .ptr y 0 ∧ XY H x y ∧ PA c H x y i k (H ++ [.cells [.int .i64 0, .int .i64 0, .ah, .ah], .cells [bo (c.kd i)], .cells [bo (c.kd k)]]) :=
   ⟨_, _, rfl, rfl, ⟨by omega, by omega, by omega, by omega⟩, ⟨hD.rK _, by simp, by simp, by simp, by simp, fun j hj _ _ => List.getElem?_append_left hj⟩⟩
  have B : ∃ x y, AV.ptr (H.length + 2) 0 = .ptr x 0 ∧ AV.ptr (H.length + 1) 0 = .ptr y 0 ∧ XY H x y ∧ PA c H x y i k (H ++ [.cells [.int .i64 0, .int .i64 0, .ah, .ah], .cells [bo (c.kd k)], .cells [bo (c.kd i)]]) :=
   ⟨_, _, rfl, rfl, ⟨by omega, by omega, by omega, by omega⟩, ⟨hD.rK _, by simp, by simp, by simp, by simp, fun j hj _ _ => List.getElem?_append_left hj⟩⟩
  simp +contextual only [ed, hD.d, lT, C1, cu, bS, k2, ei, ek, a1, a3, a4, a5, b1, b3, b4, b5, List.map_cons, List.map_nil, spv, List.all_cons, List.all_nil, Bool.and_true, bL, cZ, sZ, Nat.reduceEqDiff, Nat.reduceAdd, Nat.reduceLT, ↓reduceIte]
  refine ⟨hi, ?_⟩
  repeat' apply And.intro
  all_goals first | exact hk.1 | exact hk.2 | exact A | exact B
 ·rintro e G ⟨e1, e3, e5, e6, x, y, e7, e8, w, Al⟩
  simp +contextual only [e1, e3, e5, e6, e7, e8, sZ, Nat.reduceEqDiff, ↓reduceIte]
  refine aM 2 (fun m (G : List aa) => PA c H x y i k G)
   (fun m G => [(1, .int .i64 i), (3, .ai (.ptr c.d 0)), (5, .ai (.int .i64 k)), (6, .ptr H.length 0), (7, .ptr x 0), (8, .ptr y 0), (9, .int .i64 ((m + 1 : Nat) : Int))]) (fun m G => G) G ⟨Al, aA _ _ _⟩ fun m G hm Al => ?_
  have hf : dR.cells[m + 1]? = some (.fn (.func (182 + (m + 1))) [] []) := by
   have : m = 0 ∨ m = 1 ∨ m = 2 ∨ m = 3 := by omega
   rcases this with rfl | rfl | rfl | rfl <;> rfl
  have en := Tq (m + 1) _ hf (by omega)
  simp +contextual only [sZ]
  refine aG J7 ?_
  simp +contextual only [lN, en _ rfl, sZ, Nat.reduceEqDiff, Nat.reduceAdd, ↓reduceIte, reduceCtorEq]
  refine af ((tR hc hi hk).at (n := m + 1) (by omega) (by omega) Al.du) ?_
  rintro r G1 ⟨z, rfl, hz, hU, ms⟩
  have pi := Al.call hD w hU ms
  by_cases Pc : m = 2
  rotate_left
  ·have : z = false := by
    cases z with
    | false => rfl
    | true => exact absurd (hz.1 rfl) (jK (m + 1) (by omega))
   subst this
   simp +contextual only [Bool.not_false, sZ, Nat.reduceEqDiff, ↓reduceIte]
   exact ⟨m + 1, G1, ⟨by omega, pi⟩, by omega, aF (by rw [au (m + 1) (by omega)]) rfl⟩
  subst Pc
  have : z = true := hz.2 hr
  subst this
  have wZ := pi.len
  have kq := fun es => pi.rK w es
  have SF := fun es => (kq es).gp
  have NI := fun es => (kq es).gx
  have WD := fun es => (kq es).gy
  have bP : ∀ (o o' : aa), (G1 ++ [o]).set (H.length + 3) o' = G1 ++ [o'] := fun o o' => by rw [← wZ]; simp
  have ec : ((3 : Nat) : Int) = 3 := rfl
  have zf : List.map AV.ab [AV.int .i64 (3 : Int), .int .i64 0, .ah, .ah] = [.int .i64 (3 : Int), .int .i64 0, .ah, .ah] := rfl
  have zf0 : List.map AV.ab [AV.int .i64 0, .int .i64 0, .ah, .ah] = [.int .i64 0, .int .i64 0, .ah, .ah] := rfl
  have e86 : ∀ a b : Int, decide (a = b) = decide (a = b) := fun _ _ => rfl
  simp +contextual only [decide_true, decide_false, Bool.not_true, Bool.not_true, XT, wZ, SF, bP, ec, zf, zf0, HH, sZ, Nat.reduceEqDiff, Nat.reduceAdd, ↓reduceIte, Int.reduceEq]
  have lY := kq [.int .i64 3, .int .i64 0, .ah, .ah]
  generalize G1 ++ [aa.cells [AV.int .i64 3, .int .i64 0, .ah, .ah]] = G2 at lY ⊢
  have ki2 : (c.tm i).k = 2 := (qt.1 hR).1
  have Zl : z5 c i k := by
   rcases hr with h | h | h | h
   ·exact absurd h.1 (by decide)
   ·exact absurd h.1 (by decide)
   ·exact h.2
   ·exact absurd h.1 (by decide)
  obtain ⟨Kl, Aj, hall0, n0, ZZ, YX, XH⟩ := Zl
  have Kq := jW.1 Kl
  have kk2 : (c.tm k).k = 2 := Kq.2.1
  have osi : dq c i = c.O.sp (c.O.pl (c.tm i).n) := by rw [dq, if_pos ki2]
  have hx : side (c.O.sp (c.O.pl (c.tm i).n)) (c.tm i).l = (bD (dq c i) (c.kd i)).map c.tm := by rw [← osi, ← ki.1, jh]
  have hy : side (c.O.sp (c.O.pl (c.tm i).n)) (c.tm k).l = (bD (dq c i) (c.kd k)).map c.tm := by rw [← osi, ← kk.1, jh]
  have lx : (bD (dq c i) (c.kd i)).length = (c.kd i).length := jf
  have ly : (bD (dq c i) (c.kd k)).length = (c.kd k).length := jf
  have nx : ∀ z ∈ bD (dq c i) (c.kd i), z ∈ c.kd i := fun z hz => oe.1 hz
  have ny : ∀ z ∈ bD (dq c i) (c.kd k), z ∈ c.kd k := fun z hz => oe.1 hz
  have hS : ∀ (n : Nat) (l : List PP), Sh c.O (.mk 3 n [] l) (c.tm i) (c.tm k) ↔ Cu (E c.O) (Sh c.O) n l (c.tm i) ((bD (dq c i) (c.kd i)).map c.tm) ((bD (dq c i) (c.kd k)).map c.tm) (c.tm k).l := by
   intro n l
   rw [Sh3 rfl ki2, hx, hy]
   rw [osi] at Aj
   exact ⟨fun h => h.2.2.2.2, fun h => ⟨rfl, kk2, Kq.2.2, Aj, h⟩⟩
  refine af (pe hc hi lY.du) ?_
  rintro r G3 ⟨rfl, rfl⟩
  have gx0 := lY.gx
  have gy0 := lY.gy
  simp +contextual only [k2, dt, fg, fh, fj, gx0, sZ, Nat.reduceEqDiff, Nat.reduceAdd, Nat.reduceLT, ↓reduceIte]
  refine aG (Ho (c.kd i) (dq c i) (by omega)) ?_
  simp +contextual only [k2, gy0, sZ, Nat.reduceEqDiff, Nat.reduceAdd, Nat.reduceLT, ↓reduceIte]
  refine aG (Ho (c.kd k) (dq c i) (by omega)) ?_
  generalize bD (dq c i) (c.kd i) = xs at *
  generalize bD (dq c i) (c.kd k) = ys at *
  have ix : IL (.ap 0 (ints xs)) xs := .inr rfl
  have iy : IL (.ap 0 (ints ys)) ys := .inr rfl
  simp +contextual only [sZ, Nat.reduceEqDiff, Nat.reduceAdd, ↓reduceIte, reduceCtorEq]
  refine af (V5 ix iy (by omega) (by omega) (fun z hz z' HW => jG hc (ki.2 z (nx z hz)) (kk.2 z' (ny z' HW))) lY.du) ?_
  rintro r G4 ⟨n, rfl, hn, Tn, To⟩
  have en0 := hn.Sf ZZ
  subst en0
  have vJ := lY.call hD w Tn To
  have gp4 := vJ.gp
  have pw := fun es => vJ.set (es' := es) hD w
  have gps := fun es => (pw es).gp
  have gxs := fun es => (pw es).gx
  have gys := fun es => (pw es).gy
  have un1 : List.map AV.ab [AV.int .i64 (n : Int)] = [.int .i64 (n : Int)] := rfl
  have hLS : ∀ l, Cu (E c.O) (Sh c.O) n l (c.tm i) (xs.map c.tm) (ys.map c.tm) (c.tm k).l ↔ (if (n : Int) = ys.length then kU (Sh c.O) l (c.tm i) ((c.kd k).map c.tm) else ∃ q r, l = q :: r ∧ Sh c.O q (c.tm (xs.getD n 0)) (c.tm (ys.getD n 0)) ∧ kU (Sh c.O) r (c.tm i) ((c.kd k).map c.tm)) := by
   intro l
   rw [Wy (kd := c.kd k) kk.1]
   have h1 : (0 : Int) ≤ n ∧ (n : Int) < xs.length ∧ (n : Int) ≤ ys.length := ⟨by omega, by omega, by have := hn.lb; omega⟩
   have h2 : ∀ j, j < (n : Int).toNat → E c.O (c.tm (xs.getD j 0)) (c.tm (ys.getD j 0)) := fun j hj => hn.eq j (by omega)
   rw [Int.toNat_natCast]
   exact ⟨fun h => h.2.2, fun h => ⟨h1, h2, h⟩⟩
  by_cases hny : n < ys.length
  ·have n4 : ((n : Int) < ys.length) = True := eq_true (by omega)
   simp +contextual only [decide_true, gp4, SE, un1, gps, iy.aL, iy.len (by omega), n4, ix.idx, iy.idx, ix.lens, iy.lens, Int.toNat_natCast, d3, s3, List.set_set, sZ, Nat.reduceEqDiff, Nat.reduceAdd, Nat.reduceLT, Nat.reduceLeDiff, ↓reduceIte, reduceCtorEq]
   have mx := nx _ (aO (l := xs) (i := n) (by omega))
   have my := ny _ (aO hny)
   have Dx : ow c (xs.getD n 0) (ys.getD n 0) := SJ _ mx _ my (XH.resolve_left (by omega))
   have SH : ∀ u qs, Sh c.O u (c.tm (xs.getD n 0)) (c.tm (ys.getD n 0)) → kU (Sh c.O) qs (c.tm i) ((c.kd k).map c.tm) → Sh c.O (.mk 3 n [] (u :: qs)) (c.tm i) (c.tm k) := by
    intro u qs hu hq
    rw [hS, hLS, if_neg (by omega)]; exact ⟨u, qs, rfl, hu, hq⟩
   repeat' apply And.intro
   all_goals first | omega | skip
   all_goals
    refine af (Dx _ (pw _).du) ?_
    rintro r G5 ⟨u, rfl, hu, WE, WG⟩
    replace SH := fun qs => SH u qs hu
    have Kp := (pw _).call hD w WE WG
    have gp5 := Kp.gp
    have Ey := fun es => Kp.set (es' := es) hD w
    have gps6 := fun es => (Ey es).gp
    have gys6 := fun es => (Ey es).gy
    obtain ⟨u1, u2, u3, u4, u5, u6, u7, u8, u9⟩ := aW u
    have ap1 : ∀ ψ, bE 4 64 .ah (.ap 0 [dU u]) ψ = ψ (dT ([] ++ [u])) := fun ψ => CE [] u (by simp) 0 ψ
    have ea : dT ([] ++ [u]) = [dU u] := rfl
    rw [ea] at ap1
    simp +contextual only [k2, ik.aL, ik.len (by omega), u1, u2, u6, ji, ap1, gp5, gps6, gys6, d3, s3, List.set_set, sZ, Nat.reduceEqDiff, Nat.reduceAdd, Nat.reduceLT, ↓reduceIte]
    refine kJ (Ew hD w (l0 := [u]) (by simp) ik l2 (fun z hz => hp z hz (hall0 z hz)) (Ey _)) ?_
    rintro e1 e G6 ⟨rfl, f6, f10, qs, jn, nA⟩
    replace nA : PB c H x y i k [.int .i64 3, .int .i64 n, .ah, ou (u :: qs)] G6 := nA
    have gp6 := nA.gp
    have g66 := nA.g6
    have lp := Pt 3 n [] (u :: qs)
    have tv0 : sT [] = AV.ah := rfl
    rw [tv0] at lp
    have hs : Sh c.O (.mk 3 n [] (u :: qs)) (c.tm i) (c.tm k) := SH qs jn
    obtain ⟨q1, q2, q3, q4, q5, q6, q7, q8, q9⟩ := aW (.mk 3 n [] (u :: qs))
    have lp2 := CG (.mk 3 n [] (u :: qs))
    have Ko := List.getElem?_set_self (a := aa.cells (dU (.mk 3 n [] (u :: qs))).cells) (aN g66)
    have N0 : aj (H.length + 1) (dU (.mk 3 n [] (u :: qs))).cells = true := cp (fE _ _)
    have kE := PB.fin (to := []) (l := (u :: qs)) hD nA hs
    simp +contextual only [f6, f10, gp6, g66, lp, q1, q2, q3, q9, Pv, Ko, lp2, N0, sZ, Nat.reduceEqDiff, Nat.reduceAdd, ↓reduceIte, reduceCtorEq]
    first | exact kE | exact ⟨by omega, kE⟩ | exact ⟨trivial, kE⟩
  ·have n4 : ((n : Int) < ys.length) = False := eq_false (by omega)
   have SH : ∀ qs, kU (Sh c.O) qs (c.tm i) ((c.kd k).map c.tm) → Sh c.O (.mk 3 n [] qs) (c.tm i) (c.tm k) := by
    intro qs hq
    rw [hS, hLS, if_pos (by have := hn.lb; omega)]; exact hq
   simp +contextual only [k2, ik.aL, ik.len (by omega), decide_false, gp4, SE, un1, gps, gys, iy.aL, iy.len (by omega), n4, sZ, Nat.reduceEqDiff, Nat.reduceAdd, Nat.reduceLT, Nat.reduceLeDiff, ↓reduceIte]
   refine kJ (Ew hD w (l0 := []) (by simp) ik l2 (fun z hz => hp z hz (hall0 z hz)) (pw _)) ?_
   rintro e1 e G6 ⟨rfl, f6, f10, qs, jn, nA⟩
   replace nA : PB c H x y i k [.int .i64 3, .int .i64 n, .ah, ou qs] G6 := nA
   have gp6 := nA.gp
   have g66 := nA.g6
   have lp := Pt 3 n [] qs
   have tv0 : sT [] = AV.ah := rfl
   rw [tv0] at lp
   have hs : Sh c.O (.mk 3 n [] qs) (c.tm i) (c.tm k) := SH qs jn
   obtain ⟨q1, q2, q3, q4, q5, q6, q7, q8, q9⟩ := aW (.mk 3 n [] qs)
   have lp2 := CG (.mk 3 n [] qs)
   have Ko := List.getElem?_set_self (a := aa.cells (dU (.mk 3 n [] qs)).cells) (aN g66)
   have N0 : aj (H.length + 1) (dU (.mk 3 n [] qs)).cells = true := cp (fE _ _)
   have kE := PB.fin (to := []) (l := qs) hD nA hs
   simp +contextual only [f6, f10, gp6, g66, lp, q1, q2, q3, q9, Pv, Ko, lp2, N0, sZ, Nat.reduceEqDiff, Nat.reduceAdd, ↓reduceIte, reduceCtorEq]
   first | exact kE | exact ⟨by omega, kE⟩ | exact ⟨trivial, kE⟩
end Go.aK
end
section
set_option maxRecDepth 100000
namespace Go.aK
open Go Go.Proofs Go.fD
structure PC (c : Cx) (H : List aa) (x y : Nat) (i k : Int) (es : List AV) (o : aa) (G : List aa) : Prop where
 du : Du c G
 gx : G[x]? = some (.cells [bo (c.kd i)])
 gy : G[y]? = some (.cells [bo (c.kd k)])
 g6 : G[H.length]? = some (.cells [.int .i64 0, .int .i64 0, .ah, .ah])
 gp : G[H.length + 3]? = some (.cells es)
 go : G[H.length + 4]? = some o
 len : G.length = H.length + 5
 up : ∀ j, j < H.length → j ≠ c.e → j ≠ c.g → G[j]? = H[j]?
theorem PB.Z0 {c : Cx} {H G : List aa} {x y : Nat} {i k : Int} {es : List AV} (w : XY H x y) (h : PB c H x y i k es G) (o : aa) : PC c H x y i k es o (G ++ [o]) := by
 obtain ⟨w1, w2, w3, w4⟩ := w
 have hl := h.len
 exact ⟨h.du.rK _, by rw [List.getElem?_append_left (by omega), h.gx], by rw [List.getElem?_append_left (by omega), h.gy], by rw [List.getElem?_append_left (by omega), h.g6], by rw [List.getElem?_append_left (by omega), h.gp], by rw [← hl]; simp, by simp [hl], fun j h1 h2 h3 => by rw [List.getElem?_append_left (by omega), h.up j h1 h2 h3]⟩
theorem PC.call {c : Cx} {H G G' : List aa} {x y : Nat} {i k : Int} {es : List AV} {o : aa} (hD : Du c H) (w : XY H x y) (h : PC c H x y i k es o G) (hU : Up c G G') (jb : Du c G') : PC c H x y i k es o G' := by
 obtain ⟨l1, l2, l3⟩ := hD.lt
 obtain ⟨w1, w2, w3, w4⟩ := w
 exact ⟨jb, by rw [hU.get x (by omega) (by omega), h.gx], by rw [hU.get y (by omega) (by omega), h.gy], by rw [hU.get _ (by omega) (by omega), h.g6], by rw [hU.get _ (by omega) (by omega), h.gp], by rw [hU.get _ (by omega) (by omega), h.go], by rw [hU.len, h.len], fun j h1 h2 h3 => by rw [hU.get j h2 h3, h.up j h1 h2 h3]⟩
theorem PC.set {c : Cx} {H G : List aa} {x y : Nat} {i k : Int} {es es' : List AV} {o : aa} (hD : Du c H) (w : XY H x y) (h : PC c H x y i k es o G) : PC c H x y i k es' o (G.set (H.length + 3) (.cells es')) := by
 obtain ⟨l1, l2, l3⟩ := hD.lt
 obtain ⟨w1, w2, w3, w4⟩ := w
 have hp := aN h.gp
 exact ⟨h.du.set (by omega) (by omega) (by omega), by rw [List.getElem?_set_ne (by omega), h.gx], by rw [List.getElem?_set_ne (by omega), h.gy], by rw [List.getElem?_set_ne (by omega), h.g6], by rw [List.getElem?_set_self hp], by rw [List.getElem?_set_ne (by omega), h.go], by rw [List.length_set, h.len], fun j h1 h2 h3 => by rw [List.getElem?_set_ne (by omega), h.up j h1 h2 h3]⟩
theorem PC.Z1 {c : Cx} {H G : List aa} {x y : Nat} {i k : Int} {es : List AV} {o o' : aa} (hD : Du c H) (w : XY H x y) (h : PC c H x y i k es o G) : PC c H x y i k es o' (G.set (H.length + 4) o') := by
 obtain ⟨l1, l2, l3⟩ := hD.lt
 obtain ⟨w1, w2, w3, w4⟩ := w
 have hp := aN h.go
 exact ⟨h.du.set (by omega) (by omega) (by omega), by rw [List.getElem?_set_ne (by omega), h.gx], by rw [List.getElem?_set_ne (by omega), h.gy], by rw [List.getElem?_set_ne (by omega), h.g6], by rw [List.getElem?_set_ne (by omega), h.gp], by rw [List.getElem?_set_self hp], by rw [List.length_set, h.len], fun j h1 h2 h3 => by rw [List.getElem?_set_ne (by omega), h.up j h1 h2 h3]⟩
theorem PC.drop {c : Cx} {H G : List aa} {x y : Nat} {i k : Int} {es : List AV} {o : aa} (hD : Du c H) (w : XY H x y) (h : PC c H x y i k es o G) : PB c H x y i k es (G.take (H.length + 4)) ∧ G = G.take (H.length + 4) ++ [o] := by
 obtain ⟨l1, l2, l3⟩ := hD.lt
 obtain ⟨w1, w2, w3, w4⟩ := w
 have hl := h.len
 have t : ∀ j, j < H.length + 4 → (G.take (H.length + 4))[j]? = G[j]? := fun j h1 => by rw [List.getElem?_take, if_pos h1]
 refine ⟨⟨h.du.take (by omega) (by omega) (by omega), by rw [t x (by omega), h.gx], by rw [t y (by omega), h.gy], by rw [t _ (by omega), h.g6], by rw [t _ (by omega), h.gp], by simp; omega, fun j h1 h2 h3 => by rw [t j (by omega), h.up j h1 h2 h3]⟩, ?_⟩
 have e : G.drop (H.length + 4) = [o] := by
  have h1 := h.go
  have aX : H.length + 4 < G.length := by omega
  rw [List.drop_eq_getElem_cons aX]
  rw [List.getElem?_eq_getElem aX] at h1
  simp only [Option.some.injEq] at h1
  rw [h1, List.drop_of_length_le (by omega)]
 rw [← e, List.take_append_drop]
structure MI (c : Cx) (a b : List Int) (us : List Bool) (to : List Int) (j : Nat) (ts : List Int) (ls : List PP) : Prop where
 lt : ts.length = j
 ll : ls.length = j
 pa : ∀ j', j' < j → 0 ≤ to.getD j' 0 → ts.getD j' 0 = to.getD j' 0 ∧ (ls.getD j' default).nil
 ov : ∀ j', j' < j → to.getD j' 0 < 0 → (¬ (ls.getD j' default).nil ∧ Sh c.O (ls.getD j' default) (c.tm (a.getD (ts.getD j' 0).toNat 0)) (c.tm (b.getD j' 0))) ∧ ∃ u : Nat, ts.getD j' 0 = u ∧ u < a.length ∧ us.getD u false = false
theorem MI.snoc {c : Cx} {a b : List Int} {us : List Bool} {to : List Int} {j : Nat} {ts : List Int} {ls : List PP} (h : MI c a b us to j ts ls) (v : Int) (q : PP)
 (h1 : 0 ≤ to.getD j 0 → v = to.getD j 0 ∧ q.nil) (h2 : to.getD j 0 < 0 → (¬ q.nil ∧ Sh c.O q (c.tm (a.getD v.toNat 0)) (c.tm (b.getD j 0))) ∧ ∃ u : Nat, v = u ∧ u < a.length ∧ us.getD u false = false) : MI c a b us to (j + 1) (ts ++ [v]) (ls ++ [q]) := by
 obtain ⟨k1, k2, k3, k4⟩ := h
 have e1 : ∀ j', j' < j → (ts ++ [v]).getD j' 0 = ts.getD j' 0 ∧ (ls ++ [q]).getD j' default = ls.getD j' default := fun j' tO => by
  constructor
  ·rw [List.getD_eq_getElem?_getD, List.getD_eq_getElem?_getD, List.getElem?_append_left (by omega)]
  ·rw [List.getD_eq_getElem?_getD, List.getD_eq_getElem?_getD, List.getElem?_append_left (by omega)]
 have e2 : (ts ++ [v]).getD j 0 = v ∧ (ls ++ [q]).getD j default = q := by
  constructor
  ·rw [← k1]; simp
  ·rw [← k2]; simp
 refine ⟨by simp [k1], by simp [k2], fun j' tO h0 => ?_, fun j' tO h0 => ?_⟩
 ·by_cases e : j' = j
  ·subst e; rw [e2.1, e2.2]; exact h1 h0
  ·have aX : j' < j := by omega
   rw [(e1 j' aX).1, (e1 j' aX).2]; exact k3 j' aX h0
 ·by_cases e : j' = j
  ·subst e; rw [e2.1, e2.2]; exact h2 h0
  ·have aX : j' < j := by omega
   rw [(e1 j' aX).1, (e1 j' aX).2]; exact k4 j' aX h0
theorem vK {to : List Int} {x : Int} : ∀ {n : Nat}, (∀ j j', j < n → j' < n → to.getD j 0 = x → to.getD j' 0 = x → j = j') → dj to x n ≤ 1
 | 0, _ => by simp [dj]
 | n + 1, h => by
   rw [dj]
   have ih := vK (n := n) fun j j' h1 h2 => h j j' (by omega) (by omega)
   by_cases e : to.getD n 0 = x
   ·rw [if_pos e]
    have : dj to x n = 0 := by
     have h0 : ∀ m, m ≤ n → dj to x m = 0 := by
      intro m
      induction m with
      | zero => intro _; rfl
      | succ m ihm =>
        intro hm
        rw [dj, ihm (by omega), if_neg (fun e' => by have := h m n (by omega) (by omega) e' e; omega)]
     exact h0 n (Nat.le_refl _)
    omega
   ·rw [if_neg e]; omega
theorem MI.cov {c : Cx} {a b : List Int} {us : List Bool} {to ts : List Int} {ls : List PP} (h : MI c a b us to b.length ts ls) (z7 : Pr (fun x y => E c.O (c.tm x) (c.tm y)) a b b.length us to) (hl : ∃ u : Nat, u < a.length ∧ us.getD u false = false) : HD c ts ls a b := by
 obtain ⟨k1, k2, k3, k4⟩ := h
 have cas : ∀ j, j < b.length → (∃ u : Nat, to.getD j 0 = u ∧ u < a.length ∧ us.getD u false = true ∧ E c.O (c.tm (a.getD u 0)) (c.tm (b.getD j 0))) ∨ to.getD j 0 < 0 := fun j hj => by
  rcases z7.t1 j hj with h | ⟨u, h1, h2, h3, h4⟩
  ·exact .inr (by omega)
  ·exact .inl ⟨u, h1, h2, h3, h4⟩
 refine ⟨k1, k2, fun j hj => ?_, fun x hx hp => ?_, ?_⟩
 ·rcases cas j hj with ⟨u, h1, h2, h3, h4⟩ | hn
  ·obtain ⟨e1, e2⟩ := k3 j hj (by omega)
   rw [if_pos e2, e1, h1]
   exact ⟨by omega, by rw [Int.toNat_natCast]; exact h4⟩
  ·obtain ⟨⟨e1, e2⟩, u, h1, h2, h3⟩ := k4 j hj hn
   rw [if_neg e1]
   exact ⟨by omega, e2⟩
 ·obtain ⟨j, hj, e1, e2⟩ := gV.1 hp
  have AA : ∀ j', j' < b.length → ts.getD j' 0 = (x : Int) → us.getD x false = true → to.getD j' 0 = (x : Int) := by
   intro j' tO e ht
   rcases cas j' tO with ⟨u, h1, _⟩ | hn
   ·rw [← (k3 j' tO (by omega)).1]; exact e
   ·obtain ⟨_, u, h1, h2, h3⟩ := k4 j' tO hn
    have : u = x := by omega
    subst this; rw [h3] at ht; cases ht
  have hux : us.getD x false = true := by
   rcases cas j hj with ⟨u, h1, h2, h3, _⟩ | hn
   ·have := (k3 j hj (by omega)).1
    have : u = x := by omega
    subst this; exact h3
   ·exact absurd e2 (k4 j hj hn).1.1
  refine vK fun j1 j2 h1 h2 e1 e2 => ?_
  have t1 := AA j1 h1 e1 hux
  have t2 := AA j2 h2 e2 hux
  exact z7.inj j1 j2 h1 h2 (by omega) (by omega)
 ·obtain ⟨u, hu, hf⟩ := hl
  refine ⟨u, hu, ?_⟩
  by_cases h0 : 0 < dd ts ls u b.length
  ·obtain ⟨j, hj, e1, e2⟩ := gV.1 h0
   rcases cas j hj with ⟨u', h1, h2, h3, _⟩ | hn
   ·have := (k3 j hj (by omega)).1
    have : u' = u := by omega
    subst this; rw [hf] at h3; cases h3
   ·exact absurd e2 (k4 j hj hn).1.1
  ·omega
theorem Sh.ne_nil {O : Od} {p : PP} {a b : T} (h : Sh O p a b) : ¬ p.nil := by
 rintro ⟨h1, _⟩
 exact Sh0 (by omega) (by omega) (by omega) (by omega) h
theorem WJ {c : Cx} (hc : c.Ok) {i k : Int} (hi : c.dI i) (hk : c.dI k) (hR : R c.O (c.tm i) (c.tm k)) (hr : gC c i k 4) (jK : ∀ m, m < 4 → ¬ gC c i k m) (SJ : ∀ x ∈ c.kd i, ∀ y ∈ c.kd k, R c.O (c.tm x) (c.tm y) → ow c x y) : ow c i k := by
 intro H hD
 refine CD.2.calls rfl ?_
 simp only [CD, aI]
 have k2 : ∀ l, (bo l).ab = bo l := fun l => (aE l).2.1
 have ki := hc.kids i hi
 have kk := hc.kids k hk
 have l1 := hc.kl i hi
 have l2 := hc.kl k hk
 obtain ⟨a1, a2, a3, a4, a5⟩ := aE (c.kd i)
 obtain ⟨b1, b2, b3, b4, b5⟩ := aE (c.kd k)
 have ii : IL (bo (c.kd i)) (c.kd i) := .inl rfl
 have ik : IL (bo (c.kd k)) (c.kd k) := .inl rfl
 have ei : (c.nd.getD i.toNat default).snd = c.kd i := rfl
 have ek : (c.nd.getD k.toNat default).snd = c.kd k := rfl
 obtain ⟨m1, m2, m3⟩ := hD.lt
 have ed : ∀ X : List aa, (H ++ X)[c.d]? = H[c.d]? := fun X => List.getElem?_append_left m1
 have spv : ∀ x : AV, ag [AV.ah] 0 [x] = [x] := fun x => rfl
 have spq : ag [AV.int .i64 0, .int .i64 0, .ah, .ah] 0 [AV.int .i64 0, .int .i64 0, .ah, .ah] = [AV.int .i64 0, .int .i64 0, .ah, .ah] := rfl
 simp +contextual only [sZ, Nat.reduceEqDiff, Nat.reduceAdd, ↓reduceIte, reduceCtorEq]
 refine kT (K1 := fun e G => get e 1 = .int .i64 i ∧ get e 3 = .ai (.ptr c.d 0) ∧ get e 5 = .ai (.int .i64 k) ∧ get e 6 = .ptr H.length 0 ∧ ∃ x y, get e 7 = .ptr x 0 ∧ get e 8 = .ptr y 0 ∧ XY H x y ∧ PA c H x y i k G) ?_ ?_
 ·have P0 : aa := .cells [.int .i64 0, .int .i64 0, .ah, .ah]
  have A : ∃ x y, AV.ptr (H.length + 1) 0 = .ptr x 0 ∧ AV.ptr (H.length + 2) 0 = .ptr y 0 ∧ XY H x y ∧ PA c H x y i k (H ++ [.cells [.int .i64 0, .int .i64 0, .ah, .ah], .cells [bo (c.kd i)], .cells [bo (c.kd k)]]) :=
   ⟨_, _, rfl, rfl, ⟨by omega, by omega, by omega, by omega⟩, ⟨hD.rK _, by simp, by simp, by simp, by simp, fun j hj _ _ => List.getElem?_append_left hj⟩⟩
  have B : ∃ x y, AV.ptr (H.length + 2) 0 = .ptr x 0 ∧ AV.ptr (H.length + 1) 0 = .ptr y 0 ∧ XY H x y ∧ PA c H x y i k (H ++ [.cells [.int .i64 0, .int .i64 0, .ah, .ah], .cells [bo (c.kd k)], .cells [bo (c.kd i)]]) :=
   ⟨_, _, rfl, rfl, ⟨by omega, by omega, by omega, by omega⟩, ⟨hD.rK _, by simp, by simp, by simp, by simp, fun j hj _ _ => List.getElem?_append_left hj⟩⟩
  simp +contextual only [ed, hD.d, lT, C1, cu, bS, k2, ei, ek, a1, a3, a4, a5, b1, b3, b4, b5, List.map_cons, List.map_nil, spv, List.all_cons, List.all_nil, Bool.and_true, bL, cZ, sZ, Nat.reduceEqDiff, Nat.reduceAdd, Nat.reduceLT, ↓reduceIte]
  refine ⟨hi, ?_⟩
  repeat' apply And.intro
  all_goals first | exact hk.1 | exact hk.2 | exact A | exact B
 ·rintro e G ⟨e1, e3, e5, e6, x, y, e7, e8, w, Al⟩
  simp +contextual only [e1, e3, e5, e6, e7, e8, sZ, Nat.reduceEqDiff, ↓reduceIte]
  refine aM 3 (fun m (G : List aa) => PA c H x y i k G)
   (fun m G => [(1, .int .i64 i), (3, .ai (.ptr c.d 0)), (5, .ai (.int .i64 k)), (6, .ptr H.length 0), (7, .ptr x 0), (8, .ptr y 0), (9, .int .i64 ((m + 1 : Nat) : Int))]) (fun m G => G) G ⟨Al, aA _ _ _⟩ fun m G hm Al => ?_
  have hf : dR.cells[m + 1]? = some (.fn (.func (182 + (m + 1))) [] []) := by
   have : m = 0 ∨ m = 1 ∨ m = 2 ∨ m = 3 := by omega
   rcases this with rfl | rfl | rfl | rfl <;> rfl
  have en := Tq (m + 1) _ hf (by omega)
  simp +contextual only [sZ]
  refine aG J7 ?_
  simp +contextual only [lN, en _ rfl, sZ, Nat.reduceEqDiff, Nat.reduceAdd, ↓reduceIte, reduceCtorEq]
  refine af ((tR hc hi hk).at (n := m + 1) (by omega) (by omega) Al.du) ?_
  rintro r G1 ⟨z, rfl, hz, hU, ms⟩
  have pi := Al.call hD w hU ms
  by_cases Pc : m = 3
  rotate_left
  ·have : z = false := by
    cases z with
    | false => rfl
    | true => exact absurd (hz.1 rfl) (jK (m + 1) (by omega))
   subst this
   simp +contextual only [Bool.not_false, sZ, Nat.reduceEqDiff, ↓reduceIte]
   exact ⟨m + 1, G1, ⟨by omega, pi⟩, by omega, aF (by rw [au (m + 1) (by omega)]) rfl⟩
  subst Pc
  have : z = true := hz.2 hr
  subst this
  have wZ := pi.len
  have kq := fun es => pi.rK w es
  have SF := fun es => (kq es).gp
  have NI := fun es => (kq es).gx
  have WD := fun es => (kq es).gy
  have bP : ∀ (o o' : aa), (G1 ++ [o]).set (H.length + 3) o' = G1 ++ [o'] := fun o o' => by rw [← wZ]; simp
  have ec : ((4 : Nat) : Int) = 4 := rfl
  have zf : List.map AV.ab [AV.int .i64 (4 : Int), .int .i64 0, .ah, .ah] = [.int .i64 (4 : Int), .int .i64 0, .ah, .ah] := rfl
  have zf0 : List.map AV.ab [AV.int .i64 0, .int .i64 0, .ah, .ah] = [.int .i64 0, .int .i64 0, .ah, .ah] := rfl
  have e86 : ∀ a b : Int, decide (a = b) = decide (a = b) := fun _ _ => rfl
  simp +contextual only [k2, decide_true, decide_false, Bool.not_true, Bool.not_true, XT, wZ, SF, bP, ec, zf, zf0, HH, NI, WD, sZ, Nat.reduceEqDiff, Nat.reduceAdd, Nat.reduceLT, ↓reduceIte, reduceCtorEq, Int.reduceEq]
  have lY := kq [.int .i64 4, .int .i64 0, .ah, .ah]
  generalize G1 ++ [aa.cells [AV.int .i64 4, .int .i64 0, .ah, .ah]] = G2 at lY ⊢
  have ki2 : (c.tm i).k = 2 := (qt.1 hR).1
  have hmq : wU c i k := by
   rcases hr with h | h | h | h
   ·exact absurd h.1 (by decide)
   ·exact absurd h.1 (by decide)
   ·exact absurd h.1 (by decide)
   ·exact h.2
  obtain ⟨Kl, Aj, XL⟩ := hmq
  have Kq := jW.1 Kl
  have kk2 : (c.tm k).k = 2 := Kq.2.1
  have osi : dq c i = c.O.sp (c.O.pl (c.tm i).n) := by rw [dq, if_pos ki2]
  have gx0 := lY.gx
  have gy0 := lY.gy
  simp +contextual only [sZ]
  refine af (Sl ii ik (by omega) (by omega) (fun z hz z' HW => jG hc (ki.2 z hz) (kk.2 z' HW)) lY.du) ?_
  rintro r G3 ⟨us, to, z7, rfl, V7, J4⟩
  have Ak := lY.call hD w V7 J4
  have Ta := (Pr.mu (f := nf c) (G := Gt c.O.sp) z7).1 XL
  have lbl := jg (c.kd i).length fun z => !us.getD z false
  have il : IL (bo (below (c.kd i).length fun z => !us.getD z false)) (below (c.kd i).length fun z => !us.getD z false) := .inl rfl
  have mml : ∀ {z : Int}, z ∈ below (c.kd i).length (fun z => !us.getD z false) → ∃ u : Nat, z = u ∧ u < (c.kd i).length ∧ us.getD u false = false := by
   intro z hz; obtain ⟨u, h1, h2, h3⟩ := fU.1 hz; exact ⟨u, h1, h2, by simpa using h3⟩
  have mmo : ∀ {j : Nat}, j < (c.kd k).length → to.getD j 0 < 0 → ∃ z ∈ below (c.kd i).length (fun z => !us.getD z false), R c.O (c.tm ((c.kd i).getD z.toNat 0)) (c.tm ((c.kd k).getD j 0)) := by
   intro j hj hn
   exact Ta.2 (j : Int) (fU.2 ⟨j, rfl, hj, by simpa using hn⟩)
  have Z2 := Ta.1
  generalize (below (c.kd i).length fun z => !us.getD z false) = L at *
  have lto := z7.lt
  obtain ⟨v1, v2, v3, v4, v5⟩ := aE L
  simp +contextual only [k2, aw, sZ, Nat.reduceEqDiff, Nat.reduceAdd, Nat.reduceLT, ↓reduceIte]
  intro _
  have hlne2 : ∃ u : Nat, u < (c.kd i).length ∧ us.getD u false = false := by
   cases L with
   | nil => exact absurd rfl Z2
   | cons z r =>
     obtain ⟨u, _, h2, h3⟩ := mml (List.mem_cons_self (a := z) (l := r))
     exact ⟨u, h2, h3⟩
  refine aM (c.kd k).length (fun j (s : List aa × List Int × List PP) => PB c H x y i k [.int .i64 4, .int .i64 0, sT s.2.1, ou s.2.2] s.1 ∧ MI c (c.kd i) (c.kd k) us to j s.2.1 s.2.2)
   (fun j s => [(3, .ai (.ptr c.d 0)), (6, .ptr H.length 0), (7, .ptr x 0), (8, .ptr y 0), (10, .ptr (H.length + 3) 0), (11, bo L), (89, .ap 0 (ints to)), (90, .int .i64 to.length), (91, .int .i64 j)]) (fun j s => s.1) (G3, [], [])
   ⟨⟨Ak, rfl, rfl, fun j h => by omega, fun j h => by omega⟩, aA _ _ _⟩ fun j s hj hI => ?_
  obtain ⟨G, ts, ls⟩ := s
  obtain ⟨kq, HN⟩ := hI
  simp only at kq HN
  have hlen := kq.len
  by_cases Kj : (j : Int) < to.length
  ·have mA : j < (c.kd k).length := by omega
   have zf4 : ∀ n, aj n (List.map AV.ab [AV.int .i64 0, .int .i64 0, .ah, .ah]) = true := fun _ => rfl
   have zf5 : List.map AV.ab [AV.int .i64 0, .int .i64 0, .ah, .ah] = [AV.int .i64 0, .int .i64 0, .ah, .ah] := rfl
   obtain ⟨tj, XU⟩ : ∃ tj, to.getD j 0 = tj := ⟨_, rfl⟩
   have WK := kq.Z0 w (.cells [.int .i64 0, .int .i64 0, .ah, .ah])
   by_cases wy : tj < 0
   ·simp +contextual only [k2, decide_true, Kj, cv, dy, Int.toNat_natCast, XU, wy, hlen, zf5, sZ, Nat.reduceEqDiff, Nat.reduceAdd, ↓reduceIte, reduceCtorEq]
    have mz := fun (G' : List aa) (dZ : SD c (G ++ [aa.cells [AV.int .i64 0, .int .i64 0, .ah, .ah]]) G') => WK.call hD w dZ.2 dZ.1
    have hjz : (0 : Int) ≤ j ∧ (j : Int) < (c.kd k).length := ⟨by omega, by omega⟩
    refine ⟨by omega, af (J3 (SD.z4 c (G ++ [.cells [.int .i64 0, .int .i64 0, .ah, .ah]])) il (by omega) 148 [] [.ai (.ptr c.d 0), .ptr x 0, .ptr y 0, .ai (.int .i64 j)] rfl rfl (Q := fun z => R c.O (c.tm ((c.kd i).getD z.toNat 0)) (c.tm ((c.kd k).getD (j : Int).toNat 0)))
     (fun z hz G' dZ => ?_) ⟨WK.du, Up.refl c _⟩) ?_⟩
    ·obtain ⟨u, rfl, hu, _⟩ := mml hz
     refine (ZX ii ik ⟨by omega, by omega⟩ hjz (jH hc (ki.2 _ (aO (by omega))) (kk.2 _ (aO (by omega)))) dZ.1 (mz G' dZ).gx (mz G' dZ).gy).mono fun r H' hr => hr.sb dZ
    rintro r G4 ⟨hG4, td⟩
    rcases td with ⟨_, td⟩ | ⟨m, rfl, hm, hQ, _⟩
    ·obtain ⟨z, hz, h⟩ := mmo mA (by rw [XU]; exact wy)
     exact absurd h (td z hz)
    obtain ⟨u, hu, yJ, huf⟩ := mml (aO hm)
    have N1 := mz G4 hG4
    have gx4 := N1.gx
    have gy4 := N1.gy
    rw [hu, Int.toNat_natCast, Int.toNat_natCast] at hQ
    simp +contextual only [k2, ii.lens, ik.lens, ii.idx, ik.idx, il.lens, il.idx, Int.toNat_natCast, hu, gx4, gy4, sZ, Nat.reduceEqDiff, Nat.reduceAdd, Nat.reduceLT, ↓reduceIte, reduceCtorEq]
    refine ⟨by omega, ⟨by omega, by omega⟩, by omega, ?_⟩
    refine af (SJ _ (aO yJ) _ (aO mA) hQ _ N1.du) ?_
    rintro r G5 ⟨q, rfl, hq, WE, WG⟩
    have WL := N1.call hD w WE WG
    have go5 := WL.go
    have Z3 := fun o => WL.Z1 (o' := o) hD w
    have kz := fun o es => (Z3 o).set (es' := es) hD w
    have gq5 := fun o => (Z3 o).go
    have gp5 := fun o => (Z3 o).gp
    have gqs := fun o es => (kz o es).go
    have gps := fun o es => (kz o es).gp
    obtain ⟨u1, u2, u3, u4, u5, u6, u7, u8, u9⟩ := aW q
    have bq : aj (H.length + 4 + 1) (dU q).cells = true := cp (fE _ _)
    have SK := HN.snoc (u : Int) q (fun h => by omega) (fun _ => ⟨⟨Sh.ne_nil hq, by rw [Int.toNat_natCast]; exact hq⟩, u, rfl, yJ, huf⟩)
    have t1 := HN.lt
    have t2 := HN.ll
    have Td : ∀ ψ, bE 1 8 (sT ts) (.ap 0 [.int .i64 (u : Int)]) ψ = ψ (ints (ts ++ [(u : Int)])) := fun ψ => Ps ts _ (by omega) 0 ψ
    have apl : ∀ ψ, bE 4 64 (ou ls) (.ap 0 [dU q]) ψ = ψ (dT (ls ++ [q])) := fun ψ => CE ls q (by omega) 0 ψ
    have lpq := CG q
    obtain ⟨x1, x2, x3, x4, x5, x6⟩ := kW (ts ++ [(u : Int)])
    obtain ⟨y1, y2, y3, y4, y5, y6⟩ := gW (ls ++ [q])
    obtain ⟨x1', x2', x3', x4', x5', x6'⟩ := kW ts
    obtain ⟨y1', y2', y3', y4', y5', y6'⟩ := gW ls
    have lvb : ∀ n, aj n (dT (ls ++ [q])) = true := fun n => iz _ _
    have tvb : ∀ n, aj n (ints (ts ++ [(u : Int)])) = true := fun n => bk _ _
    have pQ : ∀ G', PC c H x y i k [.int .i64 4, .int .i64 0, sT (ts ++ [(u : Int)]), ou (ls ++ [q])] (.cells (dU q).cells) G' → ∃ (j' : Nat) (t : List aa × List Int × List PP), (j' ≤ (c.kd k).length ∧ PB c H x y i k [.int .i64 4, .int .i64 0, sT t.2.1, ou t.2.2] t.1 ∧ MI c (c.kd i) (c.kd k) us to j' t.2.1 t.2.2) ∧ (c.kd k).length - j' < (c.kd k).length - j ∧
     sle H.length [(3, .ai (.ptr c.d 0)), (6, .ptr H.length 0), (7, .ptr x 0), (8, .ptr y 0), (10, .ptr (H.length + 3) 0), (11, bo L), (89, .ap 0 (ints to)), (90, .int .i64 to.length), (91, .int .i64 (IntKind.i64.wrap (j + 1)))] G' [(3, .ai (.ptr c.d 0)), (6, .ptr H.length 0), (7, .ptr x 0), (8, .ptr y 0), (10, .ptr (H.length + 3) 0), (11, bo L), (89, .ap 0 (ints to)), (90, .int .i64 to.length), (91, .int .i64 j')] t.1 := by
     intro G' dZ
     obtain ⟨z1, z2⟩ := dZ.drop hD w
     have zl := z1.len
     have Xw := v3
     refine ⟨j + 1, (G'.take (H.length + 4), ts ++ [(u : Int)], ls ++ [q]), ⟨mA, z1, SK⟩, by omega, qe (by rw [au j (by omega)]) (by rw [zl]; omega) ?_ _ z2⟩
     obtain ⟨w1, w2, w3, w4⟩ := w
     rw [zl]
     simp only [mZ, List.all_cons, List.all_nil, zC, rv, iO, cW, v3, bk, Bool.and_true, Bool.and_eq_true, decide_eq_true_eq]
     omega
    simp +contextual only [go5, Pv, u1, u2, u3, u9, bq, gq5, gp5, gqs, gps, d2, d3, s2, s3, List.set_set, ji, Td, apl, lpq, CF, qH, x3, x4, y3, y4, sZ, Nat.reduceEqDiff, Nat.reduceAdd, Nat.reduceLT, ↓reduceIte]
    repeat' apply And.intro
    all_goals exact pQ _ (kz _ _)
   ·have t1 := HN.lt
    have t2 := HN.ll
    obtain ⟨q0, hq0⟩ : ∃ q0, q0 = PP.mk 0 0 [] [] := ⟨_, rfl⟩
    have s7 : q0.nil := by rw [hq0]; exact ⟨rfl, rfl, rfl, rfl⟩
    have lpz : ∀ φ, db (some (.cells [.int .i64 0, .int .i64 0, .ah, .ah])) (some 4) 0 φ = φ (dU q0) := by rw [hq0]; exact Pt 0 0 [] []
    obtain ⟨u1, u2, u3, u4, u5, u6, u7, u8, u9⟩ := aW q0
    have SK := HN.snoc tj q0 (fun h => ⟨XU.symm, s7⟩) (fun h => by omega)
    have Td : ∀ ψ, bE 1 8 (sT ts) (.ap 0 [.int .i64 tj]) ψ = ψ (ints (ts ++ [tj])) := fun ψ => Ps ts _ (by omega) 0 ψ
    have apl : ∀ ψ, bE 4 64 (ou ls) (.ap 0 [dU q0]) ψ = ψ (dT (ls ++ [q0])) := fun ψ => CE ls q0 (by omega) 0 ψ
    have kz := fun es => WK.set (es' := es) hD w
    have gp5 := WK.gp
    have go5 := WK.go
    have gqs := fun es => (kz es).go
    have gps := fun es => (kz es).gp
    obtain ⟨x1, x2, x3, x4, x5, x6⟩ := kW (ts ++ [tj])
    obtain ⟨y1, y2, y3, y4, y5, y6⟩ := gW (ls ++ [q0])
    obtain ⟨x1', x2', x3', x4', x5', x6'⟩ := kW ts
    obtain ⟨y1', y2', y3', y4', y5', y6'⟩ := gW ls
    have lvb : ∀ n, aj n (dT (ls ++ [q0])) = true := fun n => iz _ _
    have tvb : ∀ n, aj n (ints (ts ++ [tj])) = true := fun n => bk _ _
    have pQ : ∀ G', PC c H x y i k [.int .i64 4, .int .i64 0, sT (ts ++ [tj]), ou (ls ++ [q0])] (.cells [.int .i64 0, .int .i64 0, .ah, .ah]) G' → ∃ (j' : Nat) (t : List aa × List Int × List PP), (j' ≤ (c.kd k).length ∧ PB c H x y i k [.int .i64 4, .int .i64 0, sT t.2.1, ou t.2.2] t.1 ∧ MI c (c.kd i) (c.kd k) us to j' t.2.1 t.2.2) ∧ (c.kd k).length - j' < (c.kd k).length - j ∧
     sle H.length [(3, .ai (.ptr c.d 0)), (6, .ptr H.length 0), (7, .ptr x 0), (8, .ptr y 0), (10, .ptr (H.length + 3) 0), (11, bo L), (89, .ap 0 (ints to)), (90, .int .i64 to.length), (91, .int .i64 (IntKind.i64.wrap (j + 1)))] G' [(3, .ai (.ptr c.d 0)), (6, .ptr H.length 0), (7, .ptr x 0), (8, .ptr y 0), (10, .ptr (H.length + 3) 0), (11, bo L), (89, .ap 0 (ints to)), (90, .int .i64 to.length), (91, .int .i64 j')] t.1 := by
     intro G' dZ
     obtain ⟨z1, z2⟩ := dZ.drop hD w
     have zl := z1.len
     have Xw := v3
     refine ⟨j + 1, (G'.take (H.length + 4), ts ++ [tj], ls ++ [q0]), ⟨mA, z1, SK⟩, by omega, qe (by rw [au j (by omega)]) (by rw [zl]; omega) ?_ _ z2⟩
     obtain ⟨w1, w2, w3, w4⟩ := w
     rw [zl]
     simp only [mZ, List.all_cons, List.all_nil, zC, rv, iO, cW, v3, bk, Bool.and_true, Bool.and_eq_true, decide_eq_true_eq]
     omega
    simp +contextual only [decide_true, decide_false, Kj, cv, dy, Int.toNat_natCast, XU, wy, hlen, zf5, u1, u2, gp5, go5, gqs, gps, d2, d3, s2, s3, List.set_set, ji, Td, apl, lpz, CF, qH, x3, x4, y3, y4, sZ, Nat.reduceEqDiff, Nat.reduceAdd, Nat.reduceLT, ↓reduceIte]
    refine ⟨by omega, ?_⟩
    repeat' apply And.intro
    all_goals exact pQ _ (kz _)
  ·have Ws : j = (c.kd k).length := by omega
   subst Ws
   have hs : Sh c.O (.mk 4 0 ts ls) (c.tm i) (c.tm k) := by
    rw [Sh4 rfl ki2]
    rw [osi] at Aj
    refine ⟨rfl, kk2, Kq.2.2, Aj, ?_⟩
    show Po (E c.O) (Sh c.O) ts ls (c.tm i).l (c.tm k).l
    rw [← ki.1, ← kk.1, ← Cz]
    exact HN.cov z7 hlne2
   have gp6 := kq.gp
   have g66 := kq.g6
   have lp := Pt 4 0 ts ls
   obtain ⟨q1, q2, q3, q4, q5, q6, q7, q8, q9⟩ := aW (.mk 4 0 ts ls)
   have lp2 := CG (.mk 4 0 ts ls)
   have Ko := List.getElem?_set_self (a := aa.cells (dU (.mk 4 0 ts ls)).cells) (aN g66)
   have N0 : aj (H.length + 1) (dU (.mk 4 0 ts ls)).cells = true := cp (fE _ _)
   have kE := PB.fin hD kq hs
   simp +contextual only [decide_false, Kj, gp6, g66, lp, q1, q2, q3, q9, Pv, Ko, lp2, N0, sZ, Nat.reduceEqDiff, Nat.reduceAdd, ↓reduceIte, reduceCtorEq]
   first | exact kE | exact ⟨by omega, kE⟩
end Go.aK
end
section
set_option maxRecDepth 100000
namespace Go.aK
open Go Go.Proofs Go.fD
theorem Kr {P : Nat → Prop} : ∀ {n : Nat}, P n → ∃ m, m ≤ n ∧ P m ∧ ∀ j, j < m → ¬ P j := by
 intro n
 induction n using Nat.strongRecOn with
 | _ n ih =>
   intro h
   by_cases hx : ∃ j, j < n ∧ P j
   ·obtain ⟨j, hj, hp⟩ := hx
    obtain ⟨m, h1, h2, h3⟩ := ih j hj hp
    exact ⟨m, by omega, h2, h3⟩
   ·exact ⟨n, Nat.le_refl _, h, fun j hj hp => hx ⟨j, hj, hp⟩⟩
theorem c86 {c : Cx} (hc : c.Ok) : ∀ (N : Nat) (i k : Int), c.dI i → c.dI k → wt (c.tm i) + wt (c.tm k) ≤ N → R c.O (c.tm i) (c.tm k) → ow c i k := by
 intro N
 induction N with
 | zero => intro i k _ _ h; have := gA (c.tm i); omega
 | succ N ih =>
 intro i k hi hk hN hR
 have hx : ∀ {j : Int}, c.dI j → ∀ x ∈ c.kd j, c.dI x ∧ wt (c.tm x) < wt (c.tm j) := fun {j} hj x hx => by
  have h1 := hc.kids j hj
  exact ⟨h1.2 x hx, cK (by rw [← h1.1]; exact List.mem_map.2 ⟨x, hx, rfl⟩)⟩
 have p1 : ∀ x ∈ c.kd i, R c.O (c.tm x) (c.tm k) → ow c x k := fun x h r => ih x k (hx hi x h).1 hk (by have := (hx hi x h).2; omega) r
 have p2 : ∀ y ∈ c.kd k, R c.O (c.tm i) (c.tm y) → ow c i y := fun y h r => ih i y hi (hx hk y h).1 (by have := (hx hk y h).2; omega) r
 have p3 : ∀ x ∈ c.kd i, ∀ y ∈ c.kd k, R c.O (c.tm x) (c.tm y) → ow c x y := fun x h y h' r => ih x y (hx hi x h).1 (hx hk y h').1 (by have := (hx hi x h).2; have := (hx hk y h').2; omega) r
 obtain ⟨_, n, hn, hr⟩ := (rR hc hi hk).2 hR
 obtain ⟨m, hm, hr, jK⟩ := Kr (P := fun n => gC c i k n) hr
 have : m = 1 ∨ m = 2 ∨ m = 3 ∨ m = 4 := by
  rcases hr with h | h | h | h
  ·exact .inl h.1
  ·exact .inr (.inl h.1)
  ·exact .inr (.inr (.inl h.1))
  ·exact .inr (.inr (.inr h.1))
 rcases this with rfl | rfl | rfl | rfl
 ·exact WC hc hi hk hR hr jK p1
 ·exact WH hc hi hk hR hr jK p2
 ·exact WI hc hi hk hR hr jK p2 p3
 ·exact WJ hc hi hk hR hr jK p3
theorem WM {c : Cx} (hc : c.Ok) {i k : Int} (hi : c.dI i) (hk : c.dI k) (hR : R c.O (c.tm i) (c.tm k)) : ow c i k := c86 hc _ i k hi hk (Nat.le_refl _) hR
def N2 : PP := .mk 0 0 [] []
def SL (s : Sg) (ps ss : List Int) (a b : T) (r : AV) : Prop :=
 (fO s ps ss [a, b] ≠ 0 ∧ r = .tuple [dU N2, .bool false, .int .i64 (fO s ps ss [a, b])]) ∨
 (fO s ps ss [a, b] = 0 ∧ ¬ R (ja ps ss) a b ∧ r = .tuple [dU N2, .bool false, .int .i64 0]) ∨
 (fO s ps ss [a, b] = 0 ∧ ∃ p, Sh (ja ps ss) p a b ∧ r = .tuple [dU p, .bool true, .int .i64 0])
theorem Up.jX {c : Cx} {G0 G : List aa} (h : Up c G0 G) {n : Nat} (he : n ≤ c.e) (hg : n ≤ c.g) : G.take n = G0.take n := by
 apply List.ext_getElem?
 intro j
 rw [List.getElem?_take, List.getElem?_take]
 split
 ·rename_i hj; exact h.get j (by omega) (by omega)
 ·rfl
theorem kX (n0 s s' s'' : Nat) (sz : Option Nat) (env : Env) (H : List aa) (R : AV → List aa → Prop) : bT n0 [.c s sz, .t s', .t s''] env H R = aS sz (get env s) H fun x => sO n0 [x, get env s', get env s''] H R := _root_.id rfl
theorem FH {Hs G : List aa} {n0 : Nat} {u v w : AV} {R : AV → List aa → Prop} (hH : Hs.take n0 = G) (hb : aj n0 [u, v, w] = true) (hu : [u, v, w].map AV.ab = [u, v, w]) (hR : R (.tuple [u, v, w]) G) : sO n0 [u, v, w] Hs R := by
 subst hH
 exact ⟨n0, Nat.le_refl _, _, by rw [hu]; exact b9 _, hb, hR⟩
theorem tS {H G : List aa} {o : aa} (h : G.take H.length = H) : (G.set H.length o).take H.length = H := by
 rw [List.take_set_of_le (Nat.le_refl _), h]
theorem c27 (s : Sg) (ps ss : List Int) (a b : T) (H : List aa) : aq Tryz.prog 27 [s.av, eG ps ss, a.av, b.av] H fun r H' => SL s ps ss a b r ∧ H' = H := by
 refine k27.2.calls rfl ?_
 simp only [k27, aI]
 obtain ⟨q1, q2, q3, q4, q5, q6⟩ := bi ps ss
 have zf4 : ∀ n, aj n (List.map AV.ab [AV.int .i64 0, .int .i64 0, .ah, .ah]) = true := fun _ => rfl
 have zf5 : List.map AV.ab [AV.int .i64 0, .int .i64 0, .ah, .ah] = [AV.int .i64 0, .int .i64 0, .ah, .ah] := rfl
 simp +contextual only [aC, q1, q4, cB, zf5, sZ, Nat.reduceEqDiff, Nat.reduceAdd, ↓reduceIte, reduceCtorEq]
 have g0 : (H ++ [aa.cells [AV.int .i64 0, .int .i64 0, .ah, .ah]])[H.length]? = some (.cells [.int .i64 0, .int .i64 0, .ah, .ah]) := by simp
 have tb : (H ++ [aa.cells [AV.int .i64 0, .int .i64 0, .ah, .ah]]).length = H.length + 1 := by simp
 have Sa : (H ++ [aa.cells [AV.int .i64 0, .int .i64 0, .ah, .ah]]).take H.length = H := by simp
 refine ae (Wl s ps ss [a, b]) ?_
 generalize H ++ [aa.cells [AV.int .i64 0, .int .i64 0, .ah, .ah]] = H1 at g0 tb Sa ⊢
 have ldz : ∀ φ, db (some (.cells [.int .i64 0, .int .i64 0, .ah, .ah])) (some 4) 0 φ = φ (dU N2) := Pt 0 0 [] []
 have zb : ∀ p b n, aj H.length [dU p, .bool b, .int .i64 n] = true := fun p b n => by simp [bL, cZ, fE, zB, iO]
 have zu : ∀ p b n, [dU p, AV.bool b, .int .i64 n].map AV.ab = [dU p, .bool b, .int .i64 n] := fun p b n => by simp [(aW p).2.2.2.1, nT, mY]
 by_cases h0 : fO s ps ss [a, b] = 0
 ·have hr := qE h0
  have hw := lW hr.tree
  have hc := hr.cx (by simp) (by simp) H1.length
  have hd := yh ps ss (ts := [a, b]) (by simp) H1
  simp +contextual only [q4, cB, h0, sZ, Nat.reduceEqDiff, Nat.reduceAdd, ↓reduceIte]
  refine af (VX ps ss [a, b] _ (by simp at hw; omega)) ?_
  rintro r G ⟨rfl, rfl⟩
  have a0 := sR (ps := ps) (ss := ss) (ts := [a, b]) (n := H1.length) (j := 0) (by simp)
  have a1 := sR (ps := ps) (ss := ss) (ts := [a, b]) (n := H1.length) (j := 1) (by simp)
  have hl := ct [a, b] 0
  rw [NS]
  generalize aU [a, b] 0 = ks at a0 a1 hl ⊢
  have nI : ks.length = 2 := hl
  simp +contextual only [cv, nI, dy, sZ, Nat.reduceEqDiff, Nat.reduceAdd, Nat.reduceLT, ↓reduceIte, reduceCtorEq]
  refine ⟨by decide, by decide, af (jH hc a0.1 a1.1 _ hd) ?_⟩
  rintro r G ⟨x, rfl, hx, hU, hD⟩
  rw [a0.2, a1.2] at hx
  have we : x = true ↔ R (ja ps ss) a b := hx
  have he : (fZ ps ss [a, b] H1.length).e = H.length + 1 := tb
  have hg : (fZ ps ss [a, b] H1.length).g = H.length + 2 := by show H1.length + 1 = _; omega
  have low : ∀ G', Up (fZ ps ss [a, b] H1.length) G G' → G'[H.length]? = some (.cells [.int .i64 0, .int .i64 0, .ah, .ah]) ∧ G'.take H.length = H := by
   intro G' hU'
   have Pj := hU.trans hU'
   refine ⟨by rw [Pj.get _ (by omega) (by omega), List.getElem?_append_left (by omega)]; exact g0, ?_⟩
   rw [Pj.jX (n := H.length) (by omega) (by omega), List.take_append_of_le_length (by omega), Sa]
  have gz := low G (Up.refl _ _)
  have gz1 := gz.1
  have gzs := fun o => List.getElem?_set_self (a := o) (aN gz1)
  have nilc : (dU N2).cells = [AV.int .i64 0, .int .i64 0, .ap 0 [], .ap 0 []] := rfl
  cases x with
  | false =>
    simp +contextual only [Bool.not_false, gz1, gzs, zf5, HH, kX, ldz, sZ, Nat.reduceEqDiff, Nat.reduceAdd, ↓reduceIte, reduceCtorEq]
    refine FH (tS gz.2) (zb _ _ _) (zu _ _ _) ⟨.inr (.inl ⟨h0, fun h => absurd (we.2 h) (by simp), rfl⟩), rfl⟩
  | true =>
    simp +contextual only [Bool.not_true, cv, nI, dy, sZ, Nat.reduceEqDiff, Nat.reduceAdd, ↓reduceIte, reduceCtorEq]
    refine ⟨by decide, by decide, af (WM hc a0.1 a1.1 (by rw [a0.2, a1.2]; exact we.1 rfl) _ hD) ?_⟩
    rintro r G2 ⟨p, rfl, hp, Pj, Ay⟩
    rw [a0.2, a1.2] at hp
    obtain ⟨gy1, gy2⟩ := low G2 Pj
    have gys := fun o => List.getElem?_set_self (a := o) (aN gy1)
    obtain ⟨u1, u2, u3, u4, u5, u6, u7, u8, u9⟩ := aW p
    have lpq := CG p
    have N0 : aj (H.length + 1) (dU p).cells = true := cp (fE _ _)
    simp +contextual only [gy1, gys, u1, u2, u3, u9, Pv, lpq, N0, kX, sZ, Nat.reduceEqDiff, Nat.reduceAdd, ↓reduceIte, reduceCtorEq]
    first | exact FH (tS gy2) (zb _ _ _) (zu _ _ _) ⟨.inr (.inr ⟨h0, p, hp, rfl⟩), rfl⟩ | exact ⟨by omega, FH (tS gy2) (zb _ _ _) (zu _ _ _) ⟨.inr (.inr ⟨h0, p, hp, rfl⟩), rfl⟩⟩
 ·have gs : ∀ o, (H1.set H.length o)[H.length]? = some o := fun o => List.getElem?_set_self (by omega)
  simp +contextual only [h0, g0, gs, zf5, HH, kX, ldz, sZ, Nat.reduceEqDiff, Nat.reduceAdd, ↓reduceIte, reduceCtorEq]
  refine FH (tS Sa) (zb _ _ _) (zu _ _ _) ⟨.inl ⟨h0, rfl⟩, rfl⟩
end Go.aK
end
section
set_option maxRecDepth 100000
namespace Go.aK
open Go Go.Proofs Go.fD
def tq (l : List mB) : List AV := l.map mB.av
theorem CH (l : List mB) : (tq l).length = l.length := by simp [tq]
theorem Ks (n : Nat) (l : List mB) : aj n (tq l) = true := by
 rw [a9]; intro x hx; obtain ⟨y, _, rfl⟩ := List.mem_map.1 hx
 exact y.facts.2.2.2.2.2 n
theorem FI (o : Nat) (l : List mB) : (∀ (own : Nat) (xs : List AV), AV.ap o (tq l) = AV.ap own xs → ∀ z ∈ xs, z.cells.length = 8) = True := by
 simp only [eq_iff_iff, iff_true]
 intro own xs e z hz
 cases e
 obtain ⟨y, _, rfl⟩ := List.mem_map.1 hz; rfl
theorem idx_eq (e o : Nat) (l : List mB) (k : IntKind) (i : Nat) (φ : AV → Prop) : ay e (.ap o (tq l)) (.int k (i : Int)) φ = (i < l.length ∧ φ (.ai (l.getD i default).av)) := by
 simp only [ay, CH, Int.toNat_natCast, eq_iff_iff]
 constructor
 ·rintro ⟨_, h, h2⟩; refine ⟨h, ?_⟩; simpa [tq, h] using h2
 ·rintro ⟨h, h2⟩; refine ⟨by omega, h, ?_⟩; simpa [tq, h] using h2
theorem Pw (e : mB) (H : List aa) (φ : AV → Prop) : aS (some 8) (.ai e.av) H φ = φ e.av := by simp [aS, mB.av, AV.cells]
structure Kt (ps : List Int) (e : mB) : Prop where
 few : e.cs.length ≤ 1000
 tree : ∀ t ∈ e.a :: e.rest, t.tree = true
 ops : ∀ t ∈ e.a :: e.rest, yc (fun n => 0 ≤ n ∧ n < ps.length) t
open Classical in
noncomputable def w5 (ps ss : List Int) (e : mB) : Bool := decide (NU ps ss e)
theorem WN (ps ss : List Int) (e : mB) (hv : Va ps ss) (he : Kt ps e) : Pure Tryz.prog 163 [eG ps ss, e.av] (.bool (w5 ps ss e)) := by
 intro H
 refine (ZK ps ss e hv he.few he.tree he.ops H).mono ?_
 rintro r H' ⟨⟨b, rfl, hb⟩, rfl⟩
 refine ⟨?_, rfl⟩
 congr 1
 rw [Bool.eq_iff_iff, hb]
 simp [w5]
theorem Z4 (ps ss : List Int) (e : mB) (hv : Va ps ss) (he : Kt ps e) : Pure Tryz.prog 162 [e.av, .ai (eG ps ss)] (.bool (!w5 ps ss e)) := by
 refine fun H => UD.2.calls rfl ?_
 simp only [UD, aI]
 obtain ⟨q1, q2, q3, q4, q5, q6⟩ := bi ps ss
 obtain ⟨e1, e2, e3, e4, e5, e6⟩ := mB.facts e
 simp +contextual only [q4, e1, e4, cB, Pw, sZ, Nat.reduceEqDiff, Nat.reduceAdd, ↓reduceIte, reduceCtorEq]
 refine ae (WN ps ss e hv he) ?_
 simp +contextual only [sZ, ↓reduceIte, reduceCtorEq]
 exact aY rfl rfl
def pj {α : Type} (p : α → Bool) : List α → Nat → Int
 | [], _ => -1
 | x :: r, i => if p x = true then (i : Int) else pj p r (i + 1)
theorem yr {α : Type} [Inhabited α] {p : α → Bool} {l : List α} {i : Nat} (h : i < l.length) : pj p (l.drop i) i = if p (l.getD i default) = true then (i : Int) else pj p (l.drop (i + 1)) (i + 1) := by
 have e : l.getD i default = l[i] := by simp [h]
 rw [List.drop_eq_getElem_cons h, pj, e]
theorem Z5 (ps ss : List Int) (l : List mB) (hv : Va ps ss) (he : ∀ e ∈ l, Kt ps e) : Pure Tryz.prog 161 [.ap 0 (tq l), .fn (.func 162) [] [.ai (eG ps ss)]] (.int .i64 (pj (fun e => !w5 ps ss e) l 0)) := by
 refine fun H => L5.2.calls rfl ?_
 simp only [L5, aI]
 simp +contextual only [CH, sZ, Nat.reduceEqDiff, Nat.reduceAdd, ↓reduceIte, reduceCtorEq]
 intro hl
 refine aB l.length (fun i => pj (fun e => !w5 ps ss e) (l.drop i) i = pj (fun e => !w5 ps ss e) l 0) (fun i => [(0, .ap 0 (tq l)), (1, .fn (.func 162) [] [.ai (eG ps ss)]), (7, .int .i64 l.length), (8, .int .i64 i)]) (fun _ => H) ⟨rfl, aA _ _ _⟩ fun i hi hI => ?_
 obtain ⟨e1, e2, e3, e4, e5, e6⟩ := mB.facts (l.getD i default)
 simp +contextual only [FI, idx_eq, Pw, e4, sZ, Nat.reduceEqDiff, Nat.reduceAdd, ↓reduceIte, reduceCtorEq]
 refine ⟨fun aX => ?_, fun iW => ?_⟩
 ·have aX := bZ aX
  have hm : l.getD i default ∈ l := by
   rw [List.getD_eq_getElem?_getD, List.getElem?_eq_getElem aX]; exact List.getElem_mem aX
  rw [yr aX] at hI
  refine ⟨aX, ae (Z4 ps ss _ hv (he _ hm)) ?_⟩
  cases hb : w5 ps ss (l.getD i default) with
  | false =>
    rw [if_pos (by rw [hb]; rfl)] at hI
    simp +contextual only [Bool.not_false, sZ, Nat.reduceEqDiff, ↓reduceIte, reduceCtorEq]
    exact aY rfl (by rw [← hI])
  | true =>
    rw [if_neg (by rw [hb]; simp)] at hI
    simp +contextual only [Bool.not_true, sZ, Nat.reduceEqDiff, ↓reduceIte, reduceCtorEq]
    exact ⟨i + 1, ⟨aX, hI⟩, by omega, aF (by rw [au i (by omega)]) rfl⟩
 ·rw [List.drop_of_length_le (dl iW)] at hI
  exact aY rfl (by rw [← hI]; rfl)
structure Ty where
 s : Sg
 es : List mB
deriving Inhabited
def Ty.av (t : Ty) : AV := .agg [.ap 0 (strs t.s.aZ), .ap 0 (ot t.s.ops), .ap 0 (tq t.es)]
theorem Ty.facts (t : Ty) : t.av.val = true ∧ t.av.cells.length = 3 ∧ t.av.cells.all AV.one = true ∧ t.av.ab = t.av ∧ t.av.drop = t.av ∧ ∀ n, t.av.a7 n = true :=
 ⟨rfl, rfl, rfl, rfl, rfl, fun n => by simp [Ty.av, AV.a7, aj, vB, vA, Ks]⟩
theorem Ku (t : Ty) (φ : AV → Prop) : ak 0 (some 2) (.ai t.av) φ = φ (.ai t.s.av) := by simp [ak, apart, Ty.av, Sg.av, AV.cells]
theorem fY2 (t : Ty) (φ : AV → Prop) : ak 2 none (.ai t.av) φ = φ (.ai (.ap 0 (tq t.es))) := by simp [ak, apart, Ty.av, AV.cells, AV.one]
theorem fS1 (s : Sg) (φ : AV → Prop) : ak 1 none (.ai s.av) φ = φ (.ai (.ap 0 (ot s.ops))) := by simp [ak, apart, Sg.av, AV.cells, AV.one]
theorem mg (t : Ty) (H : List aa) (φ : AV → Prop) : aS (some 3) (.ai t.av) H φ = φ t.av := by simp [aS, Ty.av, AV.cells]
noncomputable def qI (t : Ty) (ps ss : List Int) : Int := pj (fun e => !w5 ps ss e) t.es 0
theorem c89 (t : Ty) (ps ss : List Int) (hv : Va ps ss) (he : ∀ e ∈ t.es, Kt ps e) : Pure Tryz.prog 89 [t.av, eG ps ss] (.int .i64 (qI t ps ss)) := by
 refine fun H => k89.2.calls rfl ?_
 simp only [k89, aI]
 obtain ⟨q1, q2, q3, q4, q5, q6⟩ := bi ps ss
 obtain ⟨e1, e2, e3, e4, e5, e6⟩ := Ty.facts t
 simp +contextual only [q1, e1, fY2, sZ, Nat.reduceEqDiff, Nat.reduceAdd, ↓reduceIte, reduceCtorEq]
 refine ae (Z5 ps ss t.es hv he) ?_
 simp +contextual only [sZ, ↓reduceIte, reduceCtorEq]
 exact aY rfl rfl
end Go.aK
end
section
set_option maxRecDepth 100000
set_option maxHeartbeats 0
namespace Go.aK
open Go Go.Proofs
noncomputable def Py := aI Tryz.call112 Tryz.func112 Tryz.ntmps112 [(0,0,1),(8,0,3001)] [(0,[1,2,3,4,8]),(1,[1,2,3,8,9]),(2,[1,2,3,8,10]),(3,[2,3,8,10,24,25,26]),(4,[2,3,8,10,24,25,26,27]),(5,[2,3,8,10,11,12,24,25,26]),(6,[2,3,8,10,24,25,26]),(7,[2,3,8,10,24,25,26]),(8,[8])] [(6,(.take 0 true (.take 1 true (.take 2 true (.take 6 true (.take 7 true (.take 8 true (.take 9 true (.take 10 true (.take 11 true (.take 12 true (.take 13 true (.take 14 true (.take 3 false (.take 5 false (.br 4 (.br 15 (.take 16 true (.br 17 .done .nil)) .nil) (.br 15 (.take 4 true (.take 16 true (.br 17 .done .nil))) .nil)))))))))))))))))]
end Go.aK
end
section
set_option maxRecDepth 100000
namespace Go.aK
open Go Go.Proofs Go.fD
def iS : List Int → List Int → List Int → List Int
 | l, i :: r, x :: s => iS (l.set i.toNat x) r s
 | l, _, _ => l
def pk (n : Nat) (ops pl : List Int) : List Int := iS (List.replicate n 255) ops pl
def rW (n : Nat) (ops st : List Int) : List Int := iS (List.replicate n 1) ops st
theorem vL : ∀ (l r s : List Int), (iS l r s).length = l.length
 | l, [], _ => by cases l <;> rfl
 | l, _ :: _, [] => rfl
 | l, i :: r, x :: s => by rw [iS, vL]; simp
theorem Z6 (t : Ty) (ops pl st : List Int) {vo vp vs : AV} (ho : IL vo ops) (hp : IL vp pl) (hs : IL vs st) (tb : pl.length = ops.length) (nI : st.length = ops.length) (hr : ∀ i ∈ ops, 0 ≤ i ∧ i < t.s.ops.length) (hn : t.s.ops.length ≤ 1000000000) (jK : ops.length ≤ 1000000000) : Pure Tryz.prog 112 [t.av, vo, vp, vs] (eG (pk t.s.ops.length ops pl) (rW t.s.ops.length ops st)) := by
 refine fun H => Py.2.calls rfl ?_
 simp only [Py, aI]
 obtain ⟨e1, e2, e3, e4, e5, e6⟩ := Ty.facts t
 obtain ⟨a1, a2, a3, a4⟩ := ho.one
 obtain ⟨b1, b2, b3, b4⟩ := hp.one
 obtain ⟨c1, c2, c3, c4⟩ := hs.one
 simp +contextual only [e1, Ku, fS1, vz, sZ, Nat.reduceEqDiff, Nat.reduceAdd, ↓reduceIte, reduceCtorEq]
 intro _
 refine af (Sk 0 255 t.s.ops.length hn _) ?_
 rintro r G ⟨rfl, rfl⟩
 simp +contextual only [sZ, Nat.reduceEqDiff, Nat.reduceAdd, ↓reduceIte]
 refine af (Sk 0 1 t.s.ops.length hn _) ?_
 rintro r G ⟨rfl, rfl⟩
 simp +contextual only [sZ, Nat.reduceEqDiff, Nat.reduceAdd, ↓reduceIte]
 obtain ⟨n, hn'⟩ : ∃ n, n = t.s.ops.length := ⟨_, rfl⟩
 rw [← hn'] at hn hr ⊢
 have va : ∀ a b c d, (AV.bf a b c d).val = true := fun _ _ _ _ => rfl
 have vc : ∀ a b c d, (AV.bf a b c d).cells = [.bf a b c d] := fun _ _ _ _ => rfl
 have vo' : ∀ a b c d, (AV.bf a b c d).one = true := fun _ _ _ _ => rfl
 have vd : ∀ a b c d, (AV.bf a b c d).drop = .bf a b c d := fun _ _ _ _ => rfl
 have bdA : ∀ (a1 b1 c1 d1 a2 b2 c2 d2 : Nat) (φ : AV → Prop), cC [AV.ah, AV.ah] [(0, 1, .bf a1 b1 c1 d1), (1, 1, .bf a2 b2 c2 d2)] φ = φ (.agg [.bf a1 b1 c1 d1, .bf a2 b2 c2 d2]) := by
  intro a1 b1 c1 d1 a2 b2 c2 d2 φ
  simp only [cC, gI, eq_iff_iff]
  constructor
  ·rintro ⟨_, _, _, _, _, _, h⟩; exact h
  ·exact fun h => ⟨rfl, rfl, by simp, rfl, rfl, by simp [ag, AV.cells], h⟩
 have g3 : ∀ (a b c d : aa), [a, b, c, d][3]? = some d := fun _ _ _ _ => rfl
 have sp2 : ∀ (a b x y : AV), ag [a, b] 0 [x, y] = [x, y] := fun _ _ _ _ => rfl
 have lt1 : ∀ m : Nat, decide (m + 1 < m + 3 + 1) = true := fun m => by simp
 have lt2 : ∀ m : Nat, decide (m + 2 < m + 3 + 1) = true := fun m => by simp
 let S : List Int → List Int → List aa := fun P Q => H ++ [.cells [.ah, .ah], cN P, cN Q, .cells [.bf (H.length + 1) 0 n n, .bf (H.length + 2) 0 n n]]
 simp +contextual only [bdA, vo', g3, sp2, s3, lt1, lt2, Bool.and_self, a2, ho.aL, ho.len (by omega), sZ, Nat.reduceEqDiff, Nat.reduceAdd, ↓reduceIte]
 refine aM ops.length (fun j (s : List Int × List Int) => s.1.length = n ∧ s.2.length = n ∧ iS s.1 (ops.drop j) (pl.drop j) = pk n ops pl ∧ iS s.2 (ops.drop j) (st.drop j) = rW n ops st)
  (fun j s => [(2, vp), (3, vs), (8, .ptr H.length 0), (10, .ptr (H.length + 3) 0), (24, vo), (25, .int .i64 ops.length), (26, .int .i64 j)]) (fun j s => S s.1 s.2) (List.replicate n 255, List.replicate n 1) ⟨⟨by simp, by simp, rfl, rfl⟩, aA _ _ _⟩ fun j s hj hI => ?_
 obtain ⟨P, Q⟩ := s
 obtain ⟨hP, hQ, SM, SN⟩ := hI
 simp only at hP hQ SM SN
 by_cases hjo : (j : Int) < ops.length
 ·have mA : j < ops.length := by omega
  have hri := hr _ (aO mA)
  obtain ⟨x, hx⟩ := Int.eq_ofNat_of_zero_le hri.1
  have hxn : x < n := by omega
  have hxP : x < P.length := by omega
  have hxQ : x < Q.length := by omega
  simp +contextual only [S, hjo, decide_true, b2, c2, ho.lens, ho.idx, hp.lens, hp.idx, hs.lens, hs.idx, Int.toNat_natCast, hx, kr, g3, J5 hxP, J5 hxQ, sZ, Nat.reduceEqDiff, Nat.reduceAdd, Nat.reduceLT, ↓reduceIte, reduceCtorEq]
  have stp : ∀ (P q : List Int), q.length = ops.length → iS P (ops.drop j) (q.drop j) = iS (P.set x (q.getD j 0)) (ops.drop (j + 1)) (q.drop (j + 1)) := by
   intro P q hq
   have e1 : ops.drop j = ops.getD j 0 :: ops.drop (j + 1) := by rw [List.drop_eq_getElem_cons mA]; simp [mA]
   have hjq : j < q.length := by omega
   have e2 : q.drop j = q.getD j 0 :: q.drop (j + 1) := by rw [List.drop_eq_getElem_cons hjq]; simp [hjq]
   rw [e1, e2, iS, hx, Int.toNat_natCast]
  rw [stp P pl tb] at SM
  rw [stp Q st nI] at SN
  have hgo : ∃ (j' : Nat) (t : List Int × List Int), (j' ≤ ops.length ∧ t.1.length = n ∧ t.2.length = n ∧ iS t.1 (ops.drop j') (pl.drop j') = pk n ops pl ∧ iS t.2 (ops.drop j') (st.drop j') = rW n ops st) ∧ ops.length - j' < ops.length - j ∧
   sle H.length [(2, vp), (3, vs), (8, .ptr H.length 0), (10, .ptr (H.length + 3) 0), (24, vo), (25, .int .i64 ops.length), (26, .int .i64 (IntKind.i64.wrap (j + 1)))]
    (H ++ [.cells [.ah, .ah], cN (P.set x (pl.getD j 0)), cN (Q.set x (st.getD j 0)), .cells [.bf (H.length + 1) 0 n n, .bf (H.length + 2) 0 n n]])
    [(2, vp), (3, vs), (8, .ptr H.length 0), (10, .ptr (H.length + 3) 0), (24, vo), (25, .int .i64 ops.length), (26, .int .i64 j')]
    (H ++ [.cells [.ah, .ah], cN t.1, cN t.2, .cells [.bf (H.length + 1) 0 n n, .bf (H.length + 2) 0 n n]]) :=
   ⟨j + 1, (P.set x (pl.getD j 0), Q.set x (st.getD j 0)), ⟨mA, by simp [hP], by simp [hQ], SM, SN⟩, by omega, aF (by rw [au j (by omega)]) rfl⟩
  repeat' apply And.intro
  all_goals first | omega | exact hgo
 ·have Ws : j = ops.length := by omega
  subst Ws
  rw [List.drop_length] at SM SN
  have eP : P = pk n ops pl := by rw [← SM]; cases P <;> rfl
  have eQ : Q = rW n ops st := by rw [← SN]; cases Q <;> rfl
  simp +contextual only [JJ, S, hjo, decide_false, g3, vd, sZ, Nat.reduceEqDiff, ↓reduceIte]
  have f1 : (H ++ [aa.cells [AV.ah, .ah], cN P, cN Q, .cells [.bf (H.length + 1) 0 n n, .bf (H.length + 2) 0 n n]])[H.length + 1]? = some (cN P) := by simp
  have f2 : ((H ++ [aa.cells [AV.ah, .ah], cN P, cN Q, .cells [.bf (H.length + 1) 0 n n, .bf (H.length + 2) 0 n n]]).set (H.length + 1) .dead)[H.length + 2]? = some (cN Q) := by rw [List.getElem?_set_ne (by omega)]; simp
  have fz1 : ∀ {id n : Nat} {l : List Int} {H : List aa} (h : H[id]? = some (cN l)) (hn : l.length = n) {K : AV → List aa → Prop} (hK : K (.ap 0 (ints l)) (H.set id .dead)), dD 1 (.bf id 0 n n) H K := fun h hn K hK => by subst hn; exact Cl h hK
  refine fz1 f1 hP ?_
  refine fz1 f2 hQ ?_
  have es : ((H ++ [aa.cells [AV.ah, .ah], cN P, cN Q, .cells [.bf (H.length + 1) 0 n n, .bf (H.length + 2) 0 n n]]).set (H.length + 1) .dead).set (H.length + 2) .dead = H ++ [aa.cells [AV.ah, .ah], .dead, .dead, .cells [.bf (H.length + 1) 0 n n, .bf (H.length + 2) 0 n n]] := by simp []
  rw [es]
  have fb : ∀ m, aj m [AV.ap 0 (ints P), .ap 0 (ints Q)] = true := fun m => by simp [bL, cZ, cW, bk]
  simp +contextual only [fb, sp2, Bool.and_self, sZ, Nat.reduceEqDiff, Nat.reduceAdd, ↓reduceIte, reduceCtorEq]
  rw [eP, eQ]
  exact Fi ((bi _ _).2.2.2.2.2 _) rfl
end Go.aK
end
section
set_option maxRecDepth 100000
namespace Go.aK
open Go Go.Proofs Go.fD
def gX (vals : List Int) : Nat → List (List Int)
 | 0 => [[]]
 | n + 1 => vals.flatMap fun x => (gX vals n).map (x :: ·)
def eH {σ : Type} (step : σ → List Int → σ × Bool) : List (List Int) → σ → σ × Bool
 | [], s => (s, true)
 | l :: r, s => if (step s l).2 = true then eH step r (step s l).1 else ((step s l).1, false)
theorem vM {σ : Type} {step : σ → List Int → σ × Bool} : ∀ (a b : List (List Int)) (s : σ), eH step (a ++ b) s = if (eH step a s).2 = true then eH step b (eH step a s).1 else ((eH step a s).1, false)
 | [], b, s => by simp [eH]
 | x :: a, b, s => by
   rw [List.cons_append, eH, eH]
   split
   ·exact vM a b _
   ·simp
def df (lo : Int) (n : Nat) : List Int := (List.range n).map fun i => lo + (i : Nat)
theorem Ez (lo : Int) (n : Nat) : df lo (n + 1) = df lo n ++ [lo + (n : Nat)] := by simp [df, List.range_succ]
theorem yu {lo x : Int} {n : Nat} : x ∈ df lo n ↔ lo ≤ x ∧ x < lo + n := by
 simp only [df, List.mem_map, List.mem_range]
 constructor
 ·rintro ⟨j, h, rfl⟩; omega
 ·intro h; exact ⟨(x - lo).toNat, by omega, by omega⟩
def FJ (n : Nat) (id : Nat) (lo hi : Int) (q : Nat) : AV := .fn (.func 206) [] [.ai (.int .i64 n), .ai (.mC id), .ai (.int .i64 lo), .ai (.int .i64 hi), .ptr q 0]
structure YS {σ : Type} (n : Nat) (vals : List Int) (id : Nat) (St : σ → List aa) (Good : σ → Prop) (step : σ → List Int → σ × Bool) : Prop where
 y : ∀ l s X, l.length = n → (∀ x ∈ l, x ∈ vals) → Good s → jt Tryz.prog id [bo l] (St s ++ X) fun r H' => r = .bool (step s l).2 ∧ H' = St (step s l).1 ++ X
 Sr : ∀ l s, Good s → (step s l).2 = true → Good (step s l).1
 len : ∀ s s', (St s).length = (St s').length
theorem yv {σ : Type} {n : Nat} {vals : List Int} {id : Nat} {St : σ → List aa} {Good : σ → Prop} {step : σ → List Int → σ × Bool} (h : YS n vals id St Good step) : ∀ (a : List (List Int)) (s : σ), Good s → (eH step a s).2 = true → Good (eH step a s).1
 | [], s, hs, _ => hs
 | l :: r, s, hs, hr => by
   rw [eH] at hr ⊢
   split at hr
   ·rename_i h1
    rw [if_pos h1]
    exact yv h r _ (h.Sr l s hs h1) hr
   ·simp at hr
theorem N3 (l : List Int) (h : l ≠ []) : bo l = .ap 0 (ints l) := by cases l with
 | nil => exact absurd rfl h
 | cons a r => rfl
theorem WO (l : List Int) (hb : l.length * 8 ≤ 140737488355328) : Pure Tryz.prog 118 [bo l] (.ap 1 (ints l)) := by
 intro H
 cases l with
 | nil => exact xC H
 | cons a r => exact uT 0 (ints (a :: r)) H (of_eq_true (lO _)) (by rw [aw]; exact hb) (bk _ _)
theorem Z7 {σ : Type} {n : Nat} {lo hi : Int} (ud : -1000000 ≤ lo ∧ lo ≤ 1000000) (Im : -1000000 ≤ hi ∧ hi ≤ 1000000) (hn : n ≤ 1000000) {id : Nat} {St : σ → List aa} {Good : σ → Prop} {step : σ → List Int → σ × Bool} (hy : YS n (df lo (hi + 1 - lo).toNat) id St Good step) (q : Nat) :
 ∀ (r : Nat) (l : List Int) (s : σ) (X : List aa), l.length + r = n → (∀ x ∈ l, x ∈ df lo (hi + 1 - lo).toNat) → Good s → (∀ s', (St s' ++ X)[q]? = some (.cells [FJ n id lo hi q])) →
  aq Tryz.prog 206 [bo l, .ai (.int .i64 n), .ai (.mC id), .ai (.int .i64 lo), .ai (.int .i64 hi), .ptr q 0] (St s ++ X) fun rr H' => rr = .bool (eH step ((gX (df lo (hi + 1 - lo).toNat) r).map (l ++ ·)) s).2 ∧ H' = St (eH step ((gX (df lo (hi + 1 - lo).toNat) r).map (l ++ ·)) s).1 ++ X := by
 intro r
 induction r with
 | zero =>
   intro l s X hl hm hs hq
   refine Mg.2.calls rfl ?_
   simp only [Mg, aI]
   have ik : IL (bo l) l := .inl rfl
   obtain ⟨a1, a2, a3, a4, a5⟩ := aE l
   have e1 : ((l.length : Int) = (n : Int)) = True := eq_true (by omega)
   have lyld : ∀ (H : List aa) (φ : AV → Prop), aS none (.ai (.mC id)) H φ = φ (.mC id) := fun H φ => by simp [aS, AV.one, AV.ab]
   have e2 : eH step ((gX (df lo (hi + 1 - lo).toNat) 0).map (l ++ ·)) s = step s l := by
    simp only [gX, List.map_cons, List.map_nil, List.append_nil, eH]
    cases hb : (step s l).2 with
    | true => rw [if_pos rfl, ← hb]
    | false => rw [if_neg (by simp), ← hb]
   rw [e2]
   simp +contextual only [a2, ik.aL, ik.len (by omega), e1, decide_true, lyld, FG, sZ, Nat.reduceEqDiff, Nat.reduceAdd, ↓reduceIte, reduceCtorEq]
   refine yo (hy.y l s X (by omega) hm hs) ?_
   rintro rr H' ⟨rfl, rfl⟩
   simp +contextual only [sZ, ↓reduceIte, reduceCtorEq]
   refine aQ (St s ++ X).length (Nat.le_refl _) (by rw [ax, if_pos rfl]; rfl) ?_
   rw [ax, if_pos rfl]
   exact ⟨rfl, by rw [List.take_of_length_le (by rw [List.length_append, List.length_append, hy.len _ s]; exact Nat.le_refl _)]⟩
 | succ r ih =>
   intro l s X hl hm hs hq
   refine Mg.2.calls rfl ?_
   simp only [Mg, aI]
   have ik : IL (bo l) l := .inl rfl
   obtain ⟨a1, a2, a3, a4, a5⟩ := aE l
   have e1 : ((l.length : Int) = (n : Int)) = False := eq_false (by omega)
   have pQ : ∀ (b : Bool) (s' : σ), bT (St s ++ X).length [.t 7] [(7, .bool b)] (St s' ++ X) fun rr H' => rr = .bool b ∧ H' = St s' ++ X := by
    intro b s'
    refine aQ (St s ++ X).length (Nat.le_refl _) (by rw [ax, if_pos rfl]; rfl) ?_
    rw [ax, if_pos rfl]
    exact ⟨rfl, by rw [List.take_of_length_le (by rw [List.length_append, List.length_append, hy.len _ s]; exact Nat.le_refl _)]⟩
   obtain ⟨m, Ta⟩ : ∃ m, m = (hi + 1 - lo).toNat := ⟨_, rfl⟩
   rw [← Ta] at ih hm ⊢
   obtain ⟨F, hF⟩ : ∃ F : Nat → List (List Int), F = fun k => (df lo k).flatMap fun x => (gX (df lo m) r).map fun y => l ++ x :: y := ⟨_, rfl⟩
   have hF0 : F 0 = [] := by rw [hF]; rfl
   have hFs : ∀ k, F (k + 1) = F k ++ (gX (df lo m) r).map ((l ++ [lo + (k : Nat)]) ++ ·) := by
    intro k
    rw [hF]
    simp only [Ez, List.flatMap_append, List.flatMap_cons, List.flatMap_nil, List.append_nil, List.append_assoc, List.cons_append, List.nil_append]
   have hFm : (gX (df lo m) (r + 1)).map (l ++ ·) = F m := by
    rw [hF, gX, List.map_flatMap]
    congr 1
    funext x
    rw [List.map_map]; rfl
   rw [hFm]
   simp +contextual only [a2, ik.aL, ik.len (by omega), e1, decide_false, sZ, Nat.reduceEqDiff, Nat.reduceAdd, ↓reduceIte, reduceCtorEq]
   refine aM m (fun k (_ : Unit) => (eH step (F k) s).2 = true) (fun k _ => [(0, bo l), (4, .ai (.int .i64 hi)), (5, .ptr q 0), (8, .int .i64 (lo + (k : Nat)))]) (fun k _ => St (eH step (F k) s).1 ++ X) () ⟨by rw [hF0]; rfl, aF (by simp) (by rw [hF0]; rfl)⟩ fun k _ hk hI => ?_
   have hg := yv hy (F k) s hs hI
   generalize Ov : (eH step (F k) s).1 = s1 at hg ⊢
   by_cases hkm : lo + (k : Int) ≤ hi
   ·have EP : k < m := by omega
    have hql := hq s1
    simp +contextual only [hkm, decide_true, a2, sZ, Nat.reduceEqDiff, ↓reduceIte, reduceCtorEq]
    refine aG (WO l (by omega)) ?_
    have jL : s5 1 [AV.int .i64 (lo + (k : Int))] := of_eq_true (lO [_])
    have efn : (FJ n id lo hi q).ab = .fn (.func 206) [] [.ai (.int .i64 n), .ai (.mC id), .ai (.int .i64 lo), .ai (.int .i64 hi), .ptr q 0] := rfl
    have ea : ints l ++ [AV.int .i64 (lo + (k : Int))] = ints (l ++ [lo + (k : Int)]) := by simp [ints]
    have ek : AV.ap 0 (ints (l ++ [lo + (k : Int)])) = bo (l ++ [lo + (k : Int)]) := by rw [N3 _ (by simp)]
    simp +contextual only [hql, efn, aw, jL, ea, ek, Fc, sZ, Nat.reduceEqDiff, Nat.reduceAdd, Nat.reduceLT, ↓reduceIte, reduceCtorEq]
    refine ⟨by omega, af (ih (l ++ [lo + (k : Int)]) s1 X (by simp; omega) (fun x hx => ?_) hg hq) ?_⟩
    ·rcases List.mem_append.1 hx with h | h
     ·exact hm x h
     ·simp only [List.mem_cons, List.not_mem_nil, or_false] at h
      subst h
      exact yu.2 ⟨by omega, by omega⟩
    rintro rr H' ⟨rfl, rfl⟩
    have bG : eH step (F (k + 1)) s = eH step ((gX (df lo m) r).map ((l ++ [lo + (k : Int)]) ++ ·)) s1 := by
     rw [hFs, vM, if_pos hI, Ov]
    cases hb : (eH step ((gX (df lo m) r).map ((l ++ [lo + (k : Int)]) ++ ·)) s1).2 with
    | true =>
      simp +contextual only [Bool.not_true, sZ, Nat.reduceEqDiff, ↓reduceIte, reduceCtorEq]
      refine ⟨k + 1, (), ⟨EP, by rw [bG]; exact hb⟩, by omega, aF ?_ (by rw [bG])⟩
      rw [dJ _ (by omega)]
      have : lo + (k : Int) + 1 = lo + ((k + 1 : Nat) : Int) := by omega
      rw [this]
    | false =>
      simp +contextual only [Bool.not_false, sZ, Nat.reduceEqDiff, ↓reduceIte, reduceCtorEq]
      have jn : eH step (F m) s = ((eH step ((gX (df lo m) r).map ((l ++ [lo + (k : Int)]) ++ ·)) s1).1, false) := by
       have e : ∃ R, F m = F (k + 1) ++ R := by
        have : ∀ d, ∃ R, F (k + 1 + d) = F (k + 1) ++ R := by
         intro d
         induction d with
         | zero => exact ⟨[], by simp⟩
         | succ d Ys =>
           obtain ⟨R, hR⟩ := Ys
           exact ⟨R ++ _, by rw [show k + 1 + (d + 1) = (k + 1 + d) + 1 by omega, hFs, hR, List.append_assoc]⟩
        obtain ⟨R, hR⟩ := this (m - (k + 1))
        exact ⟨R, by rw [← hR]; congr 1; omega⟩
       obtain ⟨R, hR⟩ := e
       rw [hR, vM, bG, hb, if_neg (by simp)]
      rw [jn]
      exact pQ false _
   ·have hke : k = m := by omega
    simp +contextual only [hkm, decide_false, sZ, Nat.reduceEqDiff, ↓reduceIte, reduceCtorEq]
    rw [← hke, hI, Ov]
    exact pQ true s1
theorem WQ {σ : Type} {n : Nat} {lo hi : Int} (ud : -1000000 ≤ lo ∧ lo ≤ 1000000) (Im : -1000000 ≤ hi ∧ hi ≤ 1000000) (hn : n ≤ 1000000) {id : Nat} {St : σ → List aa} {Good : σ → Prop} {step : σ → List Int → σ × Bool} (hy : YS n (df lo (hi + 1 - lo).toNat) id St Good step) (bm : ∀ s, id < (St s).length) (s : σ) (hs : Good s) :
 aq Tryz.prog 205 [.mC id, .ai (.int .i64 n), .ai (.int .i64 lo), .ai (.int .i64 hi)] (St s) fun rr H' => rr = .tuple [] ∧ H' = St (eH step (gX (df lo (hi + 1 - lo).toNat) n) s).1 := by
 refine UY.2.calls rfl ?_
 simp only [UY, aI]
 have aez := bm s
 have vy : (AV.mC id).val = true := rfl
 have cy : (AV.mC id).cells = [.mC id] := rfl
 have oy : (AV.mC id).one = true := rfl
 have by' : ∀ m, (AV.mC id).a7 m = decide (id < m) := fun m => by simp [AV.a7]
 have d1 : decide (id < (St s).length + 1) = true := decide_eq_true (by omega)
 have d2' : decide ((St s).length < (St s).length + 1) = true := decide_eq_true (by omega)
 have efn : (FJ n id lo hi (St s).length).ab = .fn (.func 206) [] [.ai (.int .i64 n), .ai (.mC id), .ai (.int .i64 lo), .ai (.int .i64 hi), .ptr (St s).length 0] := rfl
 simp +contextual only [vy, by', d1, d2', Bool.and_self, YH, sZ, Nat.reduceEqDiff, Nat.reduceAdd, Nat.reduceLT, ↓reduceIte, reduceCtorEq]
 have h := Z7 ud Im hn hy (St s).length n [] s [.cells [FJ n id lo hi (St s).length]] (by simp) (fun x hx => by cases hx) hs (fun s' => by rw [← hy.len s' s]; simp)
 have em : (gX (df lo (hi + 1 - lo).toNat) n).map ([] ++ ·) = gX (df lo (hi + 1 - lo).toNat) n := by simp
 rw [em] at h
 refine af h ?_
 rintro rr H' ⟨rfl, rfl⟩
 simp +contextual only [sZ, reduceCtorEq]
 refine ⟨(St s).length, Nat.le_refl _, [], trivial, rfl, rfl, ?_⟩
 rw [hy.len s _, List.take_left]
theorem WR (n : Nat) (lo hi : Int) : Pure Tryz.prog 166 [.int .i64 n, .int .i64 lo, .int .i64 hi] (.fn (.func 205) [] [.ai (.int .i64 n), .ai (.int .i64 lo), .ai (.int .i64 hi)]) := by
 refine fun H => UF.2.calls rfl ?_
 simp only [UF, aI]
 simp +contextual only [sZ, Nat.reduceEqDiff, Nat.reduceAdd, ↓reduceIte, reduceCtorEq]
 exact aY rfl rfl
end Go.aK
end
section
set_option maxRecDepth 100000
namespace Go.aK
open Go Go.Proofs Go.fD
theorem Z8 (x : Int) (r : List Int) (hl : r.length ≤ 1000000000) : Pure Tryz.prog 207 [.ap 0 (ints (x :: r))] (.int .i64 (r.foldl max x)) := by
 refine fun H => UZ.2.calls rfl ?_
 simp only [UZ, aI]
 have ix : IL (.ap 0 (ints (x :: r))) (x :: r) := .inr rfl
 have n1 : (((x :: r).length : Int) < 1) = False := eq_false (by simp; omega)
 have g0' : (x :: r).getD (0 : Int).toNat 0 = x := rfl
 have ll : (x :: r).length ≤ 1000000001 := by simp; omega
 generalize fp : x :: r = xs at *
 have dG : 0 < xs.length := by rw [← fp]; simp
 simp +contextual only [ix.aL, ix.len (by omega), n1, decide_false, ix.lens, ix.idx, g0', sZ, Nat.reduceEqDiff, Nat.reduceAdd, ↓reduceIte, reduceCtorEq]
 refine ⟨by omega, ?_⟩
 have hsplit : ∀ j, j ≤ r.length → (r.take j).foldl max x = ((xs.take (j + 1)).drop 1).foldl max x := by intro j _; rw [← fp]; simp
 refine aB r.length (fun j => True) (fun j => [(0, .ap 0 (ints xs)), (3, .int .i64 ((r.take j).foldl max x)), (4, .int .i64 ((j + 1 : Nat) : Int))]) (fun _ => H) ⟨trivial, aA _ _ _⟩ fun j hj _ => ?_
 have Ig : xs.length = r.length + 1 := by rw [← fp]; simp
 by_cases Z9 : j < r.length
 ·have n2 : (((j + 1 : Nat) : Int) < xs.length) = True := eq_true (by omega)
  have gj : xs.getD (j + 1) 0 = r.getD j 0 := by rw [← fp]; simp
  have tk : (r.take (j + 1)).foldl max x = max ((r.take j).foldl max x) (r.getD j 0) := by
   rw [List.take_succ_eq_append_getElem Z9, List.foldl_append]
   simp [Z9]
  simp +contextual only [ix.aL, ix.len (by omega), n2, decide_true, ix.lens, ix.idx, Int.toNat_natCast, gj, sZ, Nat.reduceEqDiff, ↓reduceIte, reduceCtorEq]
  exact ⟨by omega, j + 1, Z9, by omega, aF (by rw [dJ _ (by omega), tk]; rfl) rfl⟩
 ·have e : j = r.length := by omega
  subst e
  have n2 : (((r.length + 1 : Nat) : Int) < xs.length) = False := eq_false (by omega)
  simp +contextual only [ix.aL, ix.len (by omega), n2, decide_false, sZ, Nat.reduceEqDiff, ↓reduceIte, reduceCtorEq]
  exact aY rfl (by rw [List.take_length])
theorem aaa (l : List Int) {v : AV} (h : IL v l) (hl : l.length ≤ 1000000000) (y : Int) : Pure Tryz.prog 111 [v, .int .i64 y] (.int .i64 (pj (fun z => decide (y = z)) l 0)) := by
 refine fun H => Uc.2.calls rfl ?_
 simp only [Uc, aI]
 obtain ⟨a1, a2, a3, a4⟩ := h.one
 simp +contextual only [a2, h.aL, h.len (by omega), sZ, Nat.reduceEqDiff, Nat.reduceAdd, ↓reduceIte, reduceCtorEq]
 refine aB l.length (fun i => pj (fun z => decide (y = z)) (l.drop i) i = pj (fun z => decide (y = z)) l 0) (fun i => [(0, v), (1, .int .i64 y), (7, .int .i64 l.length), (8, .int .i64 i)]) (fun _ => H) ⟨rfl, aA _ _ _⟩ fun i hi hI => ?_
 by_cases Aw : i < l.length
 ·have n1 : ((i : Int) < l.length) = True := eq_true (by omega)
  rw [yr Aw] at hI
  have egd : l.getD i default = l.getD i 0 := by simp [Aw]
  rw [egd] at hI
  simp +contextual only [n1, decide_true, a2, h.lens, h.idx, Int.toNat_natCast, sZ, Nat.reduceEqDiff, ↓reduceIte, reduceCtorEq]
  refine ⟨by omega, fun he => ?_, fun dG => ?_⟩
  ·rw [if_pos (by simpa using he)] at hI
   exact aY rfl (by rw [← hI])
  ·rw [if_neg (by simpa using dG)] at hI
   exact ⟨i + 1, ⟨Aw, hI⟩, by omega, aF (by rw [au i (by omega)]) rfl⟩
 ·have n1 : ((i : Int) < l.length) = False := eq_false (by omega)
  rw [List.drop_of_length_le (by omega)] at hI
  simp +contextual only [n1, decide_false, sZ, Nat.reduceEqDiff, ↓reduceIte, reduceCtorEq]
  exact aY rfl (by rw [← hI]; rfl)
theorem FK {α : Type} {p : α → Bool} : ∀ (l : List α) (i : Nat), 0 ≤ pj p l i ↔ ∃ x ∈ l, p x = true
 | [], i => by simp [pj]
 | x :: r, i => by
   rw [pj]
   by_cases h : p x = true
   ·rw [if_pos h]; exact ⟨fun _ => ⟨x, by simp, h⟩, fun _ => by omega⟩
   ·rw [if_neg h, FK r (i + 1)]
    simp [h]
theorem aab (l : List Int) {v : AV} (h : IL v l) (hl : l.length ≤ 1000000000) (y : Int) : Pure Tryz.prog 208 [v, .int .i64 y] (.bool (decide (y ∈ l))) := by
 refine fun H => U0.2.calls rfl ?_
 simp only [U0, aI]
 obtain ⟨a1, a2, a3, a4⟩ := h.one
 simp +contextual only [a2, sZ, Nat.reduceEqDiff, Nat.reduceAdd, ↓reduceIte, reduceCtorEq]
 refine ae (aaa l h hl y) ?_
 simp +contextual only [sZ, ↓reduceIte, reduceCtorEq]
 refine aY rfl ?_
 congr 1
 rw [decide_eq_decide, FK]
 simp
def CJ (l : List Int) : Int := l.foldl max (-1)
def nB (l : List Int) : Bool := (List.range (CJ l + 1).toNat).all fun j => decide ((j : Int) ∈ l)
theorem foldl_max : ∀ (l : List Int) (x b : Int), x ≤ b → (∀ y ∈ l, y ≤ b) → x ≤ l.foldl max x ∧ l.foldl max x ≤ b
 | [], x, b, h, _ => ⟨Int.le_refl _, h⟩
 | y :: r, x, b, h, hr => by
   have h1 := hr y (by simp)
   have := foldl_max r (max x y) b (by omega) (fun z hz => hr z (by simp [hz]))
   rw [List.foldl_cons]; omega
theorem aac (l : List Int) {v : AV} (h : IL v l) (hl : l.length ≤ 100000000) (hb : ∀ x ∈ l, x ≤ 1000000) : Pure Tryz.prog 167 [v] (.bool (nB l)) := by
 refine fun H => UG.2.calls rfl ?_
 simp only [UG, aI]
 obtain ⟨a1, a2, a3, a4⟩ := h.one
 have TX : ∀ ψ : List AV → Prop, bE 1 8 (.ap 1 [.int .i64 (-1)]) v ψ = ψ (ints (-1 :: l)) := by
  intro ψ
  have hr : dz v = some (ints l) := by
   rcases h with rfl | rfl
   ·cases l <;> rfl
   ·rfl
  have hal : ma 1 (.ap 1 [.int .i64 (-1)]) = some [.int .i64 (-1)] := rfl
  have ok : s5 1 (ints l) := of_eq_true (lO l)
  simp only [bE, hal, hr, eq_iff_iff]
  exact ⟨fun h => h.2.2, fun k => ⟨by simp [aw]; omega, ok, k⟩⟩
 have hm := foldl_max l (-1) 1000000 (by omega) hb
 simp +contextual only [a2, TX, sZ, Nat.reduceEqDiff, Nat.reduceAdd, ↓reduceIte, reduceCtorEq]
 refine ae (Z8 (-1) l (by omega)) ?_
 have em : l.foldl max (-1) = CJ l := rfl
 rw [em] at hm ⊢
 have hw : IntKind.i64.wrap (CJ l + 1) = CJ l + 1 := dJ _ (by omega)
 simp +contextual only [hw, sZ, Nat.reduceEqDiff, ↓reduceIte, reduceCtorEq]
 refine aB (CJ l + 1).toNat (fun j => ∀ i, i < j → (i : Int) ∈ l) (fun j => [(0, v), (8, .int .i64 (CJ l + 1)), (9, .int .i64 j)]) (fun _ => H) ⟨fun i hi => by omega, aA _ _ _⟩ fun j hj hI => ?_
 by_cases hjm : (j : Int) < CJ l + 1
 ·simp +contextual only [hjm, decide_true, a2, sZ, Nat.reduceEqDiff, Nat.reduceAdd, ↓reduceIte, reduceCtorEq]
  refine ae (aab l h (by omega) j) ?_
  by_cases Is : (j : Int) ∈ l
  ·simp +contextual only [Is, decide_true, Bool.not_true, sZ, Nat.reduceEqDiff, ↓reduceIte, reduceCtorEq]
   refine ⟨j + 1, ⟨by omega, fun i hi => ?_⟩, by omega, aF (by rw [au j (by omega)]) rfl⟩
   by_cases e : i = j
   ·subst e; exact Is
   ·exact hI i (by omega)
  ·simp +contextual only [Is, decide_false, Bool.not_false, sZ, Nat.reduceEqDiff, ↓reduceIte, reduceCtorEq]
   refine aY rfl ?_
   congr 1
   have : nB l = false := by
    unfold nB
    rw [List.all_eq_false]
    exact ⟨j, List.mem_range.2 (by omega), by simpa using Is⟩
   rw [this]
 ·have e : j = (CJ l + 1).toNat := by omega
  simp +contextual only [hjm, decide_false, sZ, Nat.reduceEqDiff, ↓reduceIte, reduceCtorEq]
  refine aY rfl ?_
  congr 1
  have : nB l = true := by
   unfold nB
   rw [List.all_eq_true]
   intro i hi
   exact decide_eq_true (hI i (by rw [e]; exact List.mem_range.1 hi))
  rw [this]
end Go.aK
end
section
set_option maxRecDepth 100000
namespace Go.aK
open Go Go.Proofs Go.fD
open Classical in
noncomputable def vN (t : Ty) (ops pl st : List Int) : Bool := decide (iR t.s (pk t.s.ops.length ops pl) (rW t.s.ops.length ops st) = 0 ∧ qI t (pk t.s.ops.length ops pl) (rW t.s.ops.length ops st) < 0)
abbrev Fo := Option (List Int × List Int)
noncomputable def dn (t : Ty) (ops pl : List Int) (s : Fo) (st : List Int) : Fo × Bool := if vN t ops pl st = true then (some (pk t.s.ops.length ops pl, rW t.s.ops.length ops st), false) else (s, true)
noncomputable def eS (t : Ty) (ops : List Int) (s : Fo) (pl : List Int) : Fo × Bool := if nB pl = true then eH (dn t ops pl) (gX (df 1 3) ops.length) s else (s, true)
noncomputable def w6 (t : Ty) (ops : List Int) : Fo := (eH (eS t ops) (gX (df 0 ops.length) ops.length) none).1
def o4 (s : Fo) : aa := match s with | none => .cells [.ah, .ah] | some (P, S) => .cells [.ap 0 (ints P), .ap 0 (ints S)]
def o5 (s : Fo) : aa := .cells [.bool s.isSome]
noncomputable def iA (s : Fo) : S6 := if s.isSome = true then .jump .ret else .ready
theorem Am : a8.n = 41 := by kernel_rfl
theorem An : bA.n = 41 := by kernel_rfl
theorem vO : a8.ps = [15] := by kernel_rfl
theorem vP : bA.ps = [22] := by kernel_rfl
theorem Kv {n0 id : Nat} {R : AV → List aa → Prop} {H : List aa} {lc : ij} {es : List AV} (h : H[id]? = some (.loop .busy lc es)) : pP n0 id R .ret H = Gv n0 false (H.set id (.loop (.jump .ret) lc es)) R := by
 unfold pP; rw [h]
theorem CK {id : Nat} {H : List aa} {K : Option Code → List aa → Prop} {lc : ij} {es : List AV} {c : Code} (h : H[id]? = some (.loop (.jump c) lc es)) : behind id H K = K (some c) (H.set id (.loop .ew lc es)) := by
 unfold behind; rw [h]
theorem Ao (t : Ty) (ops pl : List Int) : ∀ (a : List (List Int)) (s : Fo), s = none → (eH (dn t ops pl) a s).2 = (eH (dn t ops pl) a s).1.isNone
 | [], s, h => by subst h; rfl
 | l :: r, s, h => by
   subst h
   rw [eH]
   by_cases ht : vN t ops pl l = true
   ·have e : dn t ops pl none l = (some (pk t.s.ops.length ops pl, rW t.s.ops.length ops l), false) := if_pos ht
    rw [e]; rfl
   ·have e : dn t ops pl none l = (none, true) := if_neg ht
    rw [e]
    exact Ao t ops pl r none rfl
structure Ap (t : Ty) : Prop where
 n : t.s.ops.length ≤ 1000000000
 eq : ∀ e ∈ t.es, ∀ ps : List Int, ps.length = t.s.ops.length → Kt ps e
theorem Kw (n : Nat) (ops pl : List Int) : (pk n ops pl).length = n := by unfold pk; rw [vL]; simp
theorem tT (A : List aa) (x : aa) (Y : List aa) (k : Nat) (h : A.length = k) : (A ++ x :: Y)[k]? = some x := by subst h; simp
theorem tU (A : List aa) (x y : aa) (Y : List aa) (k : Nat) (h : A.length = k) : (A ++ x :: Y).set k y = A ++ y :: Y := by subst h; simp
def eU (H W : List aa) (s : Fo) : List aa := H ++ o4 s :: o5 s :: W
theorem eF (H W : List aa) (s : Fo) : (eU H W s).length = H.length + 2 + W.length := by simp [eU]; omega
theorem Pz (H W Y : List aa) (s : Fo) : (eU H W s ++ Y)[H.length]? = some (o4 s) := by rw [List.getElem?_append_left (by rw [eF]; omega)]; simp [eU]
theorem PD (H W Y : List aa) (s : Fo) : (eU H W s ++ Y)[H.length + 1]? = some (o5 s) := by rw [List.getElem?_append_left (by rw [eF]; omega)]; simp [eU]
theorem SO (H W Y : List aa) (s : Fo) (P S : List Int) : ((eU H W s ++ Y).set H.length (.cells [.ap 0 (ints P), .ap 0 (ints S)])).set (H.length + 1) (.cells [.bool true]) = eU H W (some (P, S)) ++ Y := by
 rw [List.set_append_left _ _ (by rw [eF]; omega), List.set_append_left _ _ (by rw [List.length_set, eF]; omega)]
 simp [eU, o4, o5]
theorem SP {s : Sg} {ps ss : List Int} (h : iR s ps ss = 0) : Va ps ss := (vD.1 h).2.va
theorem Kx {t : Ty} (ht : Ap t) {ops : List Int} {vo : AV} (ho : IL vo ops) (hr : ∀ i ∈ ops, 0 ≤ i ∧ i < t.s.ops.length) (jK : ops.length ≤ 1000000) {pl : List Int} (wc : pl.length = ops.length) (H W : List aa) (es : List AV) (yO : es = kg 41 [(2, .ai t.av), (3, .ai vo), (4, .ptr H.length 0), (5, .ptr (H.length + 1) 0), (6, .ai (bo pl)), (21, .fn (.func 205) [] [.ai (.int .i64 ops.length), .ai (.int .i64 1), .ai (.int .i64 3)])])
 (l : List Int) (hl : l.length = ops.length) (Y : List aa) (id : Nat) (bm : id = H.length + 2 + W.length) :
 jt Tryz.prog id [bo l] (eU H W none ++ .loop .ready bA es :: Y) fun r H' => r = .bool (dn t ops pl none l).2 ∧ H' = eU H W (dn t ops pl none l).1 ++ .loop (iA (dn t ops pl none l).1) bA es :: Y := by
 have ees : es = [.any, .any, .ai t.av, .ai vo, .ptr H.length 0, .ptr (H.length + 1) 0, .ai (bo pl), .any, .any, .any, .any, .any, .any, .any, .any, .any, .any, .any, .any, .any, .any, .fn (.func 205) [] [.ai (.int .i64 ops.length), .ai (.int .i64 1), .ai (.int .i64 3)], .any, .any, .any, .any, .any, .any, .any, .any, .any, .any, .any, .any, .any, .any, .any, .any, .any, .any, .any] := by rw [yO]; rfl
 have hk : ∀ s, (eU H W s).length = id := fun s => by rw [eF, bm]
 have e0 : ∀ s st, (eU H W s ++ aa.loop st bA es :: Y)[id]? = some (.loop st bA es) := fun s st => tT _ _ _ _ (hk s)
 have fV : ∀ s st st', (eU H W s ++ aa.loop st bA es :: Y).set id (.loop st' bA es) = eU H W s ++ aa.loop st' bA es :: Y := fun s st st' => tU _ _ _ _ _ (hk s)
 have hlen : ∀ s st, (eU H W s ++ aa.loop st bA es :: Y).length = (eU H W none ++ aa.loop .ready bA es :: Y).length := fun s st => by rw [List.length_append, List.length_append, hk, hk]; rfl
 refine nO (lc := bA) (es := es) (e0 none .ready) Qk Ql ⟨by rw [ees, An]; rfl, by rw [vP]; rfl, by rw [vP, An]; rfl, ?_, ?_⟩ (vI ?_)
 ·rw [ees]; intro x hx; simp only [List.mem_cons, List.not_mem_nil, or_false] at hx
  repeat' (first | (rcases hx with hx | hx; · subst hx; rfl) | (subst hx; rfl))
 ·intro x hx; simp only [List.mem_cons, List.not_mem_nil, or_false] at hx; subst hx; exact (aE l).2.1
 ·have ez : (bA.ps.zip [bo l]).reverse ++ bV 0 es = (22, bo l) :: bV 0 es := by rw [vP]; rfl
  rw [ez]
  generalize w7 : bV 0 es = ea
  have g2 : get ea 2 = .ai t.av := by rw [← w7, ees]; rfl
  have g3 : get ea 3 = .ai vo := by rw [← w7, ees]; rfl
  have g4 : get ea 4 = .ptr H.length 0 := by rw [← w7, ees]; rfl
  have g5 : get ea 5 = .ptr (H.length + 1) 0 := by rw [← w7, ees]; rfl
  have g6 : get ea 6 = .ai (bo pl) := by rw [← w7, ees]; rfl
  simp only [IT, IU]
  have hb : ∀ K, jB id (eU H W none ++ .loop .ready bA es :: Y) K = K (eU H W none ++ .loop .busy bA es :: Y) := fun K => by rw [rU (e0 none .ready), fV]
  obtain ⟨e1, e2, e3, e4, e5, e6⟩ := Ty.facts t
  obtain ⟨a1, a2, a3, a4⟩ := ho.one
  obtain ⟨b1, b2, b3, b4, b5⟩ := aE pl
  obtain ⟨c1, c2, c3, c4, c5⟩ := aE l
  have lvo : ∀ (H : List aa) (φ : AV → Prop), aS none (.ai vo) H φ = φ vo := fun H φ => by simp [aS, a1, a2]
  obtain ⟨q1, q2, q3, q4, q5, q6⟩ := bi (pk t.s.ops.length ops pl) (rW t.s.ops.length ops l)
  simp +contextual only [g2, g3, g4, g5, g6, c2, hb, mg, lvo, bS, b2, a2, e4, sZ, Nat.reduceEqDiff, Nat.reduceAdd, ↓reduceIte]
  refine ae (Z6 t ops pl l ho (.inl rfl) (.inl rfl) wc hl hr ht.n (by omega)) ?_
  generalize hP : pk t.s.ops.length ops pl = P at *
  generalize hS : rW t.s.ops.length ops l = S at *
  simp +contextual only [aC, q1, q2, q3, q4, Ku, cB, sZ, Nat.reduceEqDiff, Nat.reduceAdd, ↓reduceIte]
  refine ae (ZC t.s P S) ?_
  have endN : ∀ n0, n0 = id + (Y.length + 1) → dn t ops pl none l = (none, true) → pP n0 id (fun r H' => r = .bool (dn t ops pl none l).2 ∧ H' = eU H W (dn t ops pl none l).1 ++ .loop (iA (dn t ops pl none l).1) bA es :: Y) .normal (eU H W none ++ .loop .busy bA es :: Y) := by
   intro n0 LB bP
   rw [Eu (e0 none .busy), fV, bP]
   refine ⟨by rw [hlen, List.length_append, hk]; simp; omega, rfl, ?_⟩
   rw [List.take_of_length_le (by rw [hlen, List.length_append, hk]; simp; omega)]
   rfl
  have endR : ∀ n0, n0 = id + (Y.length + 1) → dn t ops pl none l = (some (P, S), false) → pP n0 id (fun r H' => r = .bool (dn t ops pl none l).2 ∧ H' = eU H W (dn t ops pl none l).1 ++ .loop (iA (dn t ops pl none l).1) bA es :: Y) .ret (eU H W (some (P, S)) ++ .loop .busy bA es :: Y) := by
   intro n0 LB bP
   rw [Kv (e0 _ .busy), fV, bP]
   refine ⟨by rw [hlen, List.length_append, hk]; simp; omega, rfl, ?_⟩
   rw [List.take_of_length_le (by rw [hlen, List.length_append, hk]; simp; omega)]
   rfl
  by_cases h0 : iR t.s P S = 0
  ·simp +contextual only [h0, mg, cB, e4, q4, sZ, Nat.reduceEqDiff, Nat.reduceAdd, ↓reduceIte]
   refine ae (c89 t P S (SP h0) (fun e he => ht.eq e he P (by rw [← hP]; exact Kw _ _ _))) ?_
   by_cases h1 : qI t P S < 0
   ·have bP : dn t ops pl none l = (some (P, S), false) := by
     rw [dn, if_pos (by rw [vN, hP, hS]; exact decide_eq_true ⟨h0, h1⟩), hP, hS]
    have k4 := Pz H W (.loop .busy bA es :: Y) none
    have k5 : ∀ o, ((eU H W none ++ .loop .busy bA es :: Y).set H.length o)[H.length + 1]? = some (o5 none) := fun o => by rw [List.getElem?_set_ne (by omega), PD]
    have ks := SO H W (.loop .busy bA es :: Y) none P S
    have o4n : o4 none = .cells [.ah, .ah] := rfl
    have o5n : o5 none = .cells [.bool false] := rfl
    rw [o4n] at k4
    simp only [o5n] at k5
    have qu : (eG P S).cells.map AV.ab = [.ap 0 (ints P), .ap 0 (ints S)] := rfl
    have sp2 : ∀ (a b x y : AV), ag [a, b] 0 [x, y] = [x, y] := fun _ _ _ _ => rfl
    have fb : ∀ m, aj m [AV.ap 0 (ints P), .ap 0 (ints S)] = true := fun m => by simp [bL, cZ, cW, bk]
    simp +contextual only [h1, decide_true, cB, k4, k5, ks, q1, q2, q3, qu, sp2, fb, Bool.and_self, sZ, Nat.reduceEqDiff, Nat.reduceAdd, ↓reduceIte]
    first
     | exact endR _ (by rw [hk]) bP
     | exact endR _ (by rw [hlen, List.length_append, hk]; rfl) bP
   ·simp +contextual only [h1, decide_false, sZ, Nat.reduceEqDiff, ↓reduceIte]
    have bP : dn t ops pl none l = (none, true) := by
     rw [dn, if_neg (by rw [vN, hP, hS]; simp [h1])]
    exact endN _ (by rw [hk]) bP
  ·simp +contextual only [h0, decide_false, sZ, Nat.reduceEqDiff, ↓reduceIte]
   have bP : dn t ops pl none l = (none, true) := by
    rw [dn, if_neg (by rw [vN, hP, hS]; simp [h0])]
   exact endN _ (by rw [hk]) bP
end Go.aK
end
section
set_option maxRecDepth 100000
namespace Go.aK
open Go Go.Proofs Go.fD
theorem ysI {t : Ty} (ht : Ap t) {ops : List Int} {vo : AV} (ho : IL vo ops) (hr : ∀ i ∈ ops, 0 ≤ i ∧ i < t.s.ops.length) (jK : ops.length ≤ 1000000) {pl : List Int} (wc : pl.length = ops.length) (H W : List aa) (es : List AV) (yO : es = kg 41 [(2, .ai t.av), (3, .ai vo), (4, .ptr H.length 0), (5, .ptr (H.length + 1) 0), (6, .ai (bo pl)), (21, .fn (.func 205) [] [.ai (.int .i64 ops.length), .ai (.int .i64 1), .ai (.int .i64 3)])]) :
 YS ops.length (df 1 ((3 : Int) + 1 - 1).toNat) (H.length + 2 + W.length) (fun s : Fo => eU H W s ++ [.loop (iA s) bA es]) (fun s => s = none) (dn t ops pl) := by
 refine ⟨fun l s X hl _ hs => ?_, fun l s hs bP => ?_, fun s s' => ?_⟩
 ·subst hs
  have := Kx ht ho hr jK wc H W es yO l hl X _ rfl
  have el : iA none = .ready := rfl
  refine fa.mono (by simpa [el, jt] using this) fun r H' h => ?_
  refine ⟨h.1, ?_⟩
  rw [h.2]; simp
 ·subst hs
  unfold dn at *
  split at bP
  ·cases bP
  ·rename_i h; rw [if_neg h]
 ·simp [eF]
theorem Ky {vals : List Int} : ∀ {n : Nat} {l : List Int}, l ∈ gX vals n → l.length = n ∧ ∀ x ∈ l, x ∈ vals
 | 0, l, h => by
   simp only [gX, List.mem_cons, List.not_mem_nil, or_false] at h
   subst h; exact ⟨rfl, fun x hx => by cases hx⟩
 | n + 1, l, h => by
   simp only [gX, List.mem_flatMap, List.mem_map] at h
   obtain ⟨x, hx, y, hy, rfl⟩ := h
   obtain ⟨h1, h2⟩ := Ky hy
   exact ⟨by simp [h1], fun z hz => by
    rcases List.mem_cons.1 hz with rfl | hz
    ·exact hx
    ·exact h2 z hz⟩
theorem Kz {t : Ty} (ht : Ap t) {ops : List Int} {vo : AV} (ho : IL vo ops) (hr : ∀ i ∈ ops, 0 ≤ i ∧ i < t.s.ops.length) (jK : ops.length ≤ 1000000) (H : List aa) (es : List AV) (yO : es = kg 41 [(2, .ai t.av), (3, .ai vo), (4, .ptr H.length 0), (5, .ptr (H.length + 1) 0), (14, .fn (.func 205) [] [.ai (.int .i64 ops.length), .ai (.int .i64 0), .ai (.int .i64 ((ops.length : Int) - 1))])])
 (pl : List Int) (wc : pl.length = ops.length) (kq : ∀ x ∈ pl, x ≤ 1000000) (Y : List aa) :
 jt Tryz.prog (H.length + 2) [bo pl] (eU H [] none ++ .loop .ready a8 es :: Y) fun r H' => r = .bool (eS t ops none pl).2 ∧ H' = eU H [] (eS t ops none pl).1 ++ .loop (iA (eS t ops none pl).1) a8 es :: Y := by
 have ees : es = [.any, .any, .ai t.av, .ai vo, .ptr H.length 0, .ptr (H.length + 1) 0, .any, .any, .any, .any, .any, .any, .any, .any, .fn (.func 205) [] [.ai (.int .i64 ops.length), .ai (.int .i64 0), .ai (.int .i64 ((ops.length : Int) - 1))], .any, .any, .any, .any, .any, .any, .any, .any, .any, .any, .any, .any, .any, .any, .any, .any, .any, .any, .any, .any, .any, .any, .any, .any, .any, .any] := by rw [yO]; rfl
 have hk : ∀ s, (eU H [] s).length = H.length + 2 := fun s => by rw [eF]; rfl
 have e0 : ∀ s st Y, (eU H [] s ++ aa.loop st a8 es :: Y)[H.length + 2]? = some (.loop st a8 es) := fun s st Y => tT _ _ _ _ (hk s)
 have fV : ∀ s st st' Y, (eU H [] s ++ aa.loop st a8 es :: Y).set (H.length + 2) (.loop st' a8 es) = eU H [] s ++ aa.loop st' a8 es :: Y := fun s st st' Y => tU _ _ _ _ _ (hk s)
 refine nO (lc := a8) (es := es) (e0 none .ready Y) Qm Qn ⟨by rw [ees, Am]; rfl, by rw [vO]; rfl, by rw [vO, Am]; rfl, ?_, ?_⟩ (vI ?_)
 ·rw [ees]; intro x hx; simp only [List.mem_cons, List.not_mem_nil, or_false] at hx
  repeat' (first | (rcases hx with hx | hx; · subst hx; rfl) | (subst hx; rfl))
 ·intro x hx; simp only [List.mem_cons, List.not_mem_nil, or_false] at hx; subst hx; exact (aE pl).2.1
 ·have ez : (a8.ps.zip [bo pl]).reverse ++ bV 0 es = (15, bo pl) :: bV 0 es := by rw [vO]; rfl
  rw [ez]
  generalize w7 : bV 0 es = ea
  have g2 : get ea 2 = .ai t.av := by rw [← w7, ees]; rfl
  have g3 : get ea 3 = .ai vo := by rw [← w7, ees]; rfl
  have g4 : get ea 4 = .ptr H.length 0 := by rw [← w7, ees]; rfl
  have g5 : get ea 5 = .ptr (H.length + 1) 0 := by rw [← w7, ees]; rfl
  simp only [IV, IW]
  have hb : ∀ K, jB (H.length + 2) (eU H [] none ++ .loop .ready a8 es :: Y) K = K (eU H [] none ++ .loop .busy a8 es :: Y) := fun K => by rw [rU (e0 none .ready Y), fV]
  obtain ⟨a1, a2, a3, a4⟩ := ho.one
  obtain ⟨b1, b2, b3, b4, b5⟩ := aE pl
  have lvo : ∀ (H : List aa) (φ : AV → Prop), aS none (.ai vo) H φ = φ vo := fun H φ => by simp [aS, a1, a2]
  have ip : IL (bo pl) pl := .inl rfl
  have hlen : (eU H [] none ++ .loop .ready a8 es :: Y).length = H.length + 2 + (Y.length + 1) := by rw [List.length_append, hk]; rfl
  have endN : ∀ n0 Z, n0 = H.length + 2 + (Y.length + 1) → eS t ops none pl = (none, true) → pP n0 (H.length + 2) (fun r H' => r = .bool (eS t ops none pl).2 ∧ H' = eU H [] (eS t ops none pl).1 ++ .loop (iA (eS t ops none pl).1) a8 es :: Y) .normal (eU H [] none ++ .loop .busy a8 es :: (Y ++ Z)) := by
   intro n0 Z LB bP
   rw [Eu (e0 none .busy _), fV, bP]
   refine ⟨by rw [List.length_append, hk]; simp; omega, rfl, ?_⟩
   rw [LB, ← hlen, show eU H [] none ++ aa.loop .ready a8 es :: (Y ++ Z) = (eU H [] none ++ aa.loop .ready a8 es :: Y) ++ Z by simp, List.take_left]
   rfl
  have endR : ∀ n0 Z s, n0 = H.length + 2 + (Y.length + 1) → eS t ops none pl = (s, false) → s.isSome = true → pP n0 (H.length + 2) (fun r H' => r = .bool (eS t ops none pl).2 ∧ H' = eU H [] (eS t ops none pl).1 ++ .loop (iA (eS t ops none pl).1) a8 es :: Y) .ret (eU H [] s ++ .loop .busy a8 es :: (Y ++ Z)) := by
   intro n0 Z s LB bP hs
   have hlen2 : (eU H [] s ++ .loop (.jump .ret) a8 es :: Y).length = H.length + 2 + (Y.length + 1) := by rw [List.length_append, hk]; rfl
   rw [Kv (e0 _ .busy _), fV, bP]
   refine ⟨by rw [List.length_append, hk]; simp; omega, rfl, ?_⟩
   rw [LB, ← hlen2, show eU H [] s ++ aa.loop (.jump .ret) a8 es :: (Y ++ Z) = (eU H [] s ++ aa.loop (.jump .ret) a8 es :: Y) ++ Z by simp, List.take_left]
   have : iA s = .jump .ret := if_pos hs
   rw [this]
  simp +contextual only [g2, g3, g4, g5, hb, bS, b1, b2, b4, b5, sZ, Nat.reduceEqDiff, Nat.reduceAdd, ↓reduceIte]
  refine ae (aac pl ip (by omega) kq) ?_
  cases hd : nB pl with
  | false =>
    have bP : eS t ops none pl = (none, true) := by rw [eS, if_neg (by rw [hd]; simp)]
    simp +contextual only [Bool.not_false, sZ, Nat.reduceEqDiff, ↓reduceIte]
    have := endN ((eU H [] none).length + (Y.length + 1)) [] (by rw [hk]) bP
    rwa [List.append_nil] at this
  | true =>
    have bP : eS t ops none pl = eH (dn t ops pl) (gX (df 1 3) ops.length) none := by rw [eS, if_pos hd]
    simp +contextual only [Bool.not_true, lvo, ho.aL, ho.len (by omega), sZ, Nat.reduceEqDiff, Nat.reduceAdd, ↓reduceIte]
    refine ae (WR ops.length 1 3) ?_
    simp +contextual only [lN, sZ, Nat.reduceEqDiff, ↓reduceIte]
    obtain ⟨W, hW⟩ : ∃ W, W = aa.loop .busy a8 es :: Y := ⟨_, rfl⟩
    have hH2 : eU H [] none ++ aa.loop .busy a8 es :: Y = eU H W none := by rw [hW]; simp [eU]
    have hA : ∀ s, eU H W s = eU H [] s ++ aa.loop .busy a8 es :: Y := fun s => by rw [hW]; simp [eU]
    obtain ⟨esI, WS⟩ : ∃ esI, esI = kg 41 [(2, AV.ai t.av), (3, .ai vo), (4, .ptr H.length 0), (5, .ptr (H.length + 1) 0), (6, .ai (bo pl)), (21, .fn (.func 205) [] [.ai (.int .i64 ops.length), .ai (.int .i64 1), .ai (.int .i64 3)])] := ⟨_, rfl⟩
    have ys := ysI ht ho hr jK wc H W esI WS
    have pB : (3 : Int) + 1 - 1 = 3 := rfl
    have hvt : ((3 : Int)).toNat = 3 := rfl
    rw [pB, hvt] at ys
    have KA := WQ (n := ops.length) (lo := 1) (hi := 3) (by omega) (by omega) jK (Good := fun s : Fo => s = none) (hy := by rw [pB, hvt]; exact ys) (fun s => by simp [eF]) none rfl
    rw [pB, hvt] at KA
    rw [hH2]
    have eln : (eU H W none).length = H.length + 2 + W.length := eF H W none
    refine rT (P := Tryz.prog) (R := fun r H' => r = .tuple [] ∧ H' = eU H W (eH (dn t ops pl) (gX (df 1 3) ops.length) none).1 ++ [.loop (iA (eH (dn t ops pl) (gX (df 1 3) ops.length) none).1) bA esI]) 205 [] _ bA _ _ _ Tryz.call205 ?_ ?_
    ·rw [An, ← WS, eln]
     exact KA
    ·have h2 := Ao t ops pl (gX (df 1 3) ops.length) none rfl
     rintro r H' ⟨rfl, rfl⟩
     generalize TO : (eH (dn t ops pl) (gX (df 1 3) ops.length) none).1 = s' at h2
     have WT : eS t ops none pl = (s', s'.isNone) := by rw [bP]; exact Prod.ext TO h2
     rw [eln]
     have eget : ∀ st, (eU H W s' ++ [aa.loop st bA esI])[H.length + 2 + W.length]? = some (.loop st bA esI) := fun st => tT _ _ _ _ (eF H W s')
     have eset : ∀ st st', (eU H W s' ++ [aa.loop st bA esI]).set (H.length + 2 + W.length) (.loop st' bA esI) = eU H W s' ++ [.loop st' bA esI] := fun st st' => tU _ _ _ _ _ (eF H W s')
     cases s' with
     | none =>
       have el : iA none = .ready := rfl
       rw [el, vH (eget _), eset]
       simp +contextual only [oR]
       have := endN ((eU H [] none).length + (Y.length + 1)) [.loop .ew bA esI] (by rw [hk]) WT
       rw [hA]
       simpa using this
     | some o =>
       have el : iA (some o) = .jump .ret := rfl
       rw [el, CK (eget _), eset]
       simp +contextual only [oR]
       have := endR ((eU H [] none).length + (Y.length + 1)) [.loop .ew bA esI] (some o) (by rw [hk]) WT rfl
       rw [hA]
       simpa using this
end Go.aK
end
section
set_option maxRecDepth 100000
namespace Go.aK
open Go Go.Proofs Go.fD
theorem ysO {t : Ty} (ht : Ap t) {ops : List Int} {vo : AV} (ho : IL vo ops) (hr : ∀ i ∈ ops, 0 ≤ i ∧ i < t.s.ops.length) (jK : ops.length ≤ 1000000) (H : List aa) (es : List AV) (yO : es = kg 41 [(2, .ai t.av), (3, .ai vo), (4, .ptr H.length 0), (5, .ptr (H.length + 1) 0), (14, .fn (.func 205) [] [.ai (.int .i64 ops.length), .ai (.int .i64 0), .ai (.int .i64 ((ops.length : Int) - 1))])]) :
 YS ops.length (df 0 ops.length) (H.length + 2) (fun s : Fo => eU H [] s ++ [.loop (iA s) a8 es]) (fun s => s = none) (eS t ops) := by
 refine ⟨fun l s X hl hm hs => ?_, fun l s hs bP => ?_, fun s s' => ?_⟩
 ·subst hs
  have := Kz ht ho hr jK H es yO l hl (fun x hx => by have := yu.1 (hm x hx); omega) X
  have el : iA none = .ready := rfl
  refine fa.mono (by simpa [el, jt] using this) fun r H' h => ?_
  refine ⟨h.1, ?_⟩
  rw [h.2]; simp
 ·subst hs
  have h2 : (eS t ops none l).2 = (eS t ops none l).1.isNone := by
   unfold eS
   split
   ·exact Ao t ops l _ none rfl
   ·rfl
  rw [bP] at h2
  exact Option.isNone_iff_eq_none.1 h2.symm
 ·simp [eF]
def foA (s : Fo) : AV := match s with | none => eG [] [] | some (P, S) => eG P S
theorem FL (n0 s s' : Nat) (sz sz' : Option Nat) (env : Env) (H : List aa) (R : AV → List aa → Prop) : bT n0 [.c s sz, .c s' sz'] env H R = aS sz (get env s) H fun x => aS sz' (get env s') H fun y => sO n0 [x, y] H R := _root_.id rfl
theorem c93 {t : Ty} (ht : Ap t) {ops : List Int} {vo : AV} (ho : IL vo ops) (hr : ∀ i ∈ ops, 0 ≤ i ∧ i < t.s.ops.length) (jK : ops.length ≤ 1000000) : Pure Tryz.prog 93 [t.av, vo] (.tuple [foA (w6 t ops), .bool (w6 t ops).isSome]) := by
 refine fun H => YD.calls rfl ?_
 simp only [T8, T7]
 obtain ⟨e1, e2, e3, e4, e5, e6⟩ := Ty.facts t
 obtain ⟨a1, a2, a3, a4⟩ := ho.one
 have lvo : ∀ (H : List aa) (φ : AV → Prop), aS none (.ai vo) H φ = φ vo := fun H φ => by simp [aS, a1, a2]
 have zf2 : List.map AV.ab [AV.ah, .ah] = [.ah, .ah] := rfl
 have zb2 : ∀ n, aj n [AV.ah, .ah] = true := fun _ => rfl
 have hw : IntKind.i64.wrap ((ops.length : Int) - 1) = (ops.length : Int) - 1 := dJ _ (by omega)
 simp +contextual only [e1, a3, lvo, zf2, zb2, ho.aL, ho.len (by omega), hw, sZ, Nat.reduceEqDiff, Nat.reduceAdd, ↓reduceIte, reduceCtorEq]
 refine ae (WR ops.length 0 ((ops.length : Int) - 1)) ?_
 simp +contextual only [lN, sZ, Nat.reduceEqDiff, ↓reduceIte, reduceCtorEq]
 have hA0 : H ++ [aa.cells [AV.ah, .ah], .cells [.bool false]] = eU H [] none := rfl
 rw [hA0]
 obtain ⟨esO, yO⟩ : ∃ esO, esO = kg 41 [(2, AV.ai t.av), (3, .ai vo), (4, .ptr H.length 0), (5, .ptr (H.length + 1) 0), (14, .fn (.func 205) [] [.ai (.int .i64 ops.length), .ai (.int .i64 0), .ai (.int .i64 ((ops.length : Int) - 1))])] := ⟨_, rfl⟩
 have ys := ysO ht ho hr jK H esO yO
 have hv : ((ops.length : Int) - 1 + 1 - 0).toNat = ops.length := by omega
 have KA := WQ (n := ops.length) (lo := 0) (hi := (ops.length : Int) - 1) (by omega) (by omega) jK (Good := fun s : Fo => s = none) (hy := by rw [hv]; exact ys) (fun s => by simp [eF]) none rfl
 rw [hv] at KA
 have eln : ∀ s, (eU H [] s).length = H.length + 2 := fun s => eF H [] s
 refine rT (P := Tryz.prog) (R := fun r H' => r = .tuple [] ∧ H' = eU H [] (w6 t ops) ++ [.loop (iA (w6 t ops)) a8 esO]) 205 [] _ a8 _ _ _ Tryz.call205 ?_ ?_
 ·rw [Am, ← yO, eln]
  exact KA
 ·rintro r H' ⟨rfl, rfl⟩
  generalize w6 t ops = s'
  have eget : ∀ st, (eU H [] s' ++ [aa.loop st a8 esO])[H.length + 2]? = some (.loop st a8 esO) := fun st => tT _ _ _ _ (eln s')
  have eset : ∀ st st', (eU H [] s' ++ [aa.loop st a8 esO]).set (H.length + 2) (.loop st' a8 esO) = eU H [] s' ++ [.loop st' a8 esO] := fun st st' => tU _ _ _ _ _ (eln s')
  have k4 := Pz H [] [.loop .ew a8 esO] s'
  have k5 := PD H [] [.loop .ew a8 esO] s'
  have htk : (eU H [] s' ++ [aa.loop .ew a8 esO]).take H.length = H := by rw [List.take_append_of_le_length (by rw [eln]; omega), eU, List.take_left]
  have sp2 : ∀ (a b x y : AV), ag [a, b] 0 [x, y] = [x, y] := fun _ _ _ _ => rfl
  rw [eln]
  cases s' with
  | none =>
    have el : iA none = .ready := rfl
    rw [el, vH (eget _), eset]
    have o4n : o4 none = .cells [.ah, .ah] := rfl
    have o5n : o5 none = .cells [.bool false] := rfl
    rw [o4n] at k4
    rw [o5n] at k5
    have k4s := fun o => List.getElem?_set_self (a := o) (aN k4)
    have k5s : ∀ o, ((eU H [] none ++ [aa.loop .ew a8 esO]).set H.length o)[H.length + 1]? = some (.cells [.bool false]) := fun o => by rw [List.getElem?_set_ne (by omega)]; exact k5
    have k5t : ∀ o o', (((eU H [] none ++ [aa.loop .ew a8 esO]).set H.length o).set (H.length + 1) o')[H.length + 1]? = some o' := fun o o' => List.getElem?_set_self (by rw [List.length_set]; exact aN k5)
    have k4t : ∀ o o', (((eU H [] none ++ [aa.loop .ew a8 esO]).set H.length o).set (H.length + 1) o')[H.length]? = some o := fun o o' => by rw [List.getElem?_set_ne (by omega)]; exact k4s o
    have aag : ∀ o o', (((eU H [] none ++ [aa.loop .ew a8 esO]).set H.length o).set (H.length + 1) o').take H.length = H := fun o o' => by rw [List.take_set_of_le (by omega), List.take_set_of_le (by omega), htk]
    simp +contextual only [oR, k4, k5s, k4t, k5t, zf2, zb2, sp2, FL, sZ, Nat.reduceEqDiff, Nat.reduceAdd, Nat.reduceLT, ↓reduceIte, reduceCtorEq]
    exact O5 (aag _ _) ((bi [] []).2.2.2.2.2 _) rfl rfl rfl ⟨rfl, rfl⟩
  | some o =>
    obtain ⟨P, S⟩ := o
    have el : iA (some (P, S)) = .jump .ret := rfl
    rw [el, CK (eget _), eset]
    have o4n : o4 (some (P, S)) = .cells [.ap 0 (ints P), .ap 0 (ints S)] := rfl
    have o5n : o5 (some (P, S)) = .cells [.bool true] := rfl
    rw [o4n] at k4
    rw [o5n] at k5
    simp +contextual only [oR, k4, k5, FL, sZ, Nat.reduceEqDiff, Nat.reduceAdd, Nat.reduceLT, ↓reduceIte, reduceCtorEq]
    exact O5 htk ((bi P S).2.2.2.2.2 _) rfl rfl rfl ⟨rfl, rfl⟩
end Go.aK
end
section
set_option maxRecDepth 100000
set_option maxHeartbeats 0
namespace Go.aK
open Go Go.Proofs
noncomputable def WU := aI Tryz.call75 Tryz.func75 Tryz.ntmps75 [(0,0,1),(5,2,1000),(6,0,1),(6,7,2),(6,8,1),(7,6,2),(7,9,2),(9,0,6004)] [(0,[1,2]),(1,[1,6]),(2,[1,6,7]),(3,[6,7,15,16,17]),(4,[6,7,15,16,17,18]),(5,[6,7,9,15,16,17]),(6,[6,7,9,15,16,17]),(7,[6,7,15,16,17]),(8,[6,7,15,16,17]),(9,[4,5])] [(7,(.take 1 true (.take 2 true (.take 3 true (.take 4 true (.take 5 true (.take 0 false (.br 6 (.take 7 true (.take 8 true (.br 9 .done .nil))) .nil))))))))]
end Go.aK
end
