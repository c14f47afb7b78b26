/- Part 15 of 18 of the proof. -/
import Derived.Test.YtljchnfgjdjobaaGreatUan
import Derived.Test.YtljchnfgjdjobaaGreatUag
import Derived.KernelRfl
set_option linter.unusedVariables false
set_option linter.unusedSimpArgs false
set_option linter.defProp false
set_option linter.unusedSectionVars false
section
set_option maxRecDepth 100000
namespace Go.aK
open Go Go.Proofs Go.fq
theorem WM {c : Cx} (hc : c.Ok) {i k : Int} (hi : c.dH i) (hk : c.dH k) (hR : R c.O (c.tm i) (c.tm k)) (hr : gC c i k 3) (jJ : ∀ m, m < 3 → ¬ gC c i k m) (hp : ∀ y ∈ c.kd k, R c.O (c.tm i) (c.tm y) → ow c i y) (SN : ∀ x ∈ c.kd i, ∀ y ∈ c.kd k, R c.O (c.tm x) (c.tm y) → ow c x y) : ow c i k := by
 intro H hD
 refine CD.2.calls rfl ?_
 simp only [CD, aI]
 have k2 : ∀ l, (bo l).ab = bo l := fun l => (aE l).2.1
 have ki := hc.kids i hi
 have kk := hc.kids k hk
 have l1 := hc.kl i hi
 have l2 := hc.kl k hk
 obtain ⟨a1, a2, a3, a4, a5⟩ := aE (c.kd i)
 obtain ⟨b1, b2, b3, b4, b5⟩ := aE (c.kd k)
 have ii : IL (bo (c.kd i)) (c.kd i) := .inl rfl
 have ik : IL (bo (c.kd k)) (c.kd k) := .inl rfl
 have ei : (c.nd.getD i.toNat default).snd = c.kd i := rfl
 have ek : (c.nd.getD k.toNat default).snd = c.kd k := rfl
 obtain ⟨m1, m2, m3⟩ := hD.lt
 have ed : ∀ X : List aa, (H ++ X)[c.d]? = H[c.d]? := fun X => List.getElem?_append_left m1
 have spv : ∀ x : AV, ag [AV.ah] 0 [x] = [x] := fun x => rfl
 have spq : ag [AV.int .i64 0, .int .i64 0, .ah, .ah] 0 [AV.int .i64 0, .int .i64 0, .ah, .ah] = [AV.int .i64 0, .int .i64 0, .ah, .ah] := rfl
 simp +contextual only [sZ, Nat.reduceEqDiff, Nat.reduceAdd, ↓reduceIte, reduceCtorEq]
 refine kT (K1 := fun e G => get e 1 = .int .i64 i ∧ get e 3 = .ai (.ptr c.d 0) ∧ get e 5 = .ai (.int .i64 k) ∧ get e 6 = .ptr H.length 0 ∧ ∃ x y, get e 7 = .ptr x 0 ∧ get e 8 = .ptr y 0 ∧ XY H x y ∧ PA c H x y i k G) ?_ ?_
 ·have P0 : aa := .cells [.int .i64 0, .int .i64 0, .ah, .ah]
  have A : ∃ x y, AV.ptr (H.length + 1) 0 = .ptr x 0 ∧ AV.ptr (H.length + 2) 0 = .ptr y 0 ∧ XY H x y ∧ PA c H x y i k (H ++ [.cells [.int .i64 0, .int .i64 0, .ah, .ah], .cells [bo (c.kd i)], .cells [bo (c.kd k)]]) :=
   ⟨_, _, rfl, rfl, ⟨by omega, by omega, by omega, by omega⟩, ⟨hD.rO _, by simp, by simp, by simp, by simp, fun j hj _ _ => List.getElem?_append_left hj⟩⟩
  have B : ∃ x y, AV.ptr (H.length + 2) 0 = .ptr x 0 ∧ AV.ptr (H.length + 1) 0 = .ptr y 0 ∧ XY H x y ∧ PA c H x y i k (H ++ [.cells [.int .i64 0, .int .i64 0, .ah, .ah], .cells [bo (c.kd k)], .cells [bo (c.kd i)]]) :=
   ⟨_, _, rfl, rfl, ⟨by omega, by omega, by omega, by omega⟩, ⟨hD.rO _, by simp, by simp, by simp, by simp, fun j hj _ _ => List.getElem?_append_left hj⟩⟩
  simp +contextual only [ed, hD.d, lT, C0, cu, bS, k2, ei, ek, a1, a3, a4, a5, b1, b3, b4, b5, List.map_cons, List.map_nil, spv, List.all_cons, List.all_nil, Bool.and_true, bL, cZ, sZ, Nat.reduceEqDiff, Nat.reduceAdd, Nat.reduceLT, ↓reduceIte]
  refine ⟨hi, ?_⟩
  repeat' apply And.intro
  all_goals first | exact hk.1 | exact hk.2 | exact A | exact B
 ·rintro e G ⟨e1, e3, e5, e6, x, y, e7, e8, w, Ao⟩
  simp +contextual only [e1, e3, e5, e6, e7, e8, sZ, Nat.reduceEqDiff, ↓reduceIte]
  refine aN 2 (fun m (G : List aa) => PA c H x y i k G)
   (fun m G => [(1, .int .i64 i), (3, .ai (.ptr c.d 0)), (5, .ai (.int .i64 k)), (6, .ptr H.length 0), (7, .ptr x 0), (8, .ptr y 0), (9, .int .i64 ((m + 1 : Nat) : Int))]) (fun m G => G) G ⟨Ao, aA _ _ _⟩ fun m G hm Ao => ?_
  have hf : dP.cells[m + 1]? = some (.fn (.func (182 + (m + 1))) [] []) := by
   have : m = 0 ∨ m = 1 ∨ m = 2 ∨ m = 3 := by omega
   rcases this with rfl | rfl | rfl | rfl <;> rfl
  have en := Ts (m + 1) _ hf (by omega)
  simp +contextual only [sZ]
  refine aH Kc ?_
  simp +contextual only [lN, en _ rfl, sZ, Nat.reduceEqDiff, Nat.reduceAdd, ↓reduceIte, reduceCtorEq]
  refine af ((tW hc hi hk).at (n := m + 1) (by omega) (by omega) Ao.du) ?_
  rintro r G1 ⟨z, rfl, hz, hU, mv⟩
  have pj := Ao.call hD w hU mv
  by_cases Pg : m = 2
  rotate_left
  ·have : z = false := by
    cases z with
    | false => rfl
    | true => exact absurd (hz.1 rfl) (jJ (m + 1) (by omega))
   subst this
   simp +contextual only [Bool.not_false, sZ, Nat.reduceEqDiff, ↓reduceIte]
   exact ⟨m + 1, G1, ⟨by omega, pj⟩, by omega, aG (by rw [au (m + 1) (by omega)]) rfl⟩
  subst Pg
  have : z = true := hz.2 hr
  subst this
  have xa := pj.len
  have kq := fun es => pj.rO w es
  have SL := fun es => (kq es).gp
  have NN := fun es => (kq es).gx
  have WI := fun es => (kq es).gy
  have bP : ∀ (o o' : aa), (G1 ++ [o]).set (H.length + 3) o' = G1 ++ [o'] := fun o o' => by rw [← xa]; simp
  have ec : ((3 : Nat) : Int) = 3 := rfl
  have zf : List.map AV.ab [AV.int .i64 (3 : Int), .int .i64 0, .ah, .ah] = [.int .i64 (3 : Int), .int .i64 0, .ah, .ah] := rfl
  have zf0 : List.map AV.ab [AV.int .i64 0, .int .i64 0, .ah, .ah] = [.int .i64 0, .int .i64 0, .ah, .ah] := rfl
  have e86 : ∀ a b : Int, decide (a = b) = decide (a = b) := fun _ _ => rfl
  simp +contextual only [decide_true, decide_false, Bool.not_true, Bool.not_true, XZ, xa, SL, bP, ec, zf, zf0, HK, sZ, Nat.reduceEqDiff, Nat.reduceAdd, ↓reduceIte, Int.reduceEq]
  have lY := kq [.int .i64 3, .int .i64 0, .ah, .ah]
  generalize G1 ++ [aa.cells [AV.int .i64 3, .int .i64 0, .ah, .ah]] = G2 at lY ⊢
  have ki2 : (c.tm i).k = 2 := (qw.1 hR).1
  have Zq : z8 c i k := by
   rcases hr with h | h | h | h
   ·exact absurd h.1 (by decide)
   ·exact absurd h.1 (by decide)
   ·exact h.2
   ·exact absurd h.1 (by decide)
  obtain ⟨Kq, Am, hall0, n0, Z4, Y2, XM⟩ := Zq
  have Kv := jV.1 Kq
  have kk2 : (c.tm k).k = 2 := Kv.2.1
  have osi : dq c i = c.O.sp (c.O.pl (c.tm i).n) := by rw [dq, if_pos ki2]
  have hx : side (c.O.sp (c.O.pl (c.tm i).n)) (c.tm i).l = (bD (dq c i) (c.kd i)).map c.tm := by rw [← osi, ← ki.1, jg]
  have hy : side (c.O.sp (c.O.pl (c.tm i).n)) (c.tm k).l = (bD (dq c i) (c.kd k)).map c.tm := by rw [← osi, ← kk.1, jg]
  have lx : (bD (dq c i) (c.kd i)).length = (c.kd i).length := je
  have ly : (bD (dq c i) (c.kd k)).length = (c.kd k).length := je
  have nx : ∀ z ∈ bD (dq c i) (c.kd i), z ∈ c.kd i := fun z hz => oe.1 hz
  have ny : ∀ z ∈ bD (dq c i) (c.kd k), z ∈ c.kd k := fun z hz => oe.1 hz
  have hS : ∀ (n : Nat) (l : List PP), Sh c.O (.mk 3 n [] l) (c.tm i) (c.tm k) ↔ Cu (E c.O) (Sh c.O) n l (c.tm i) ((bD (dq c i) (c.kd i)).map c.tm) ((bD (dq c i) (c.kd k)).map c.tm) (c.tm k).l := by
   intro n l
   rw [Sh3 rfl ki2, hx, hy]
   rw [osi] at Am
   exact ⟨fun h => h.2.2.2.2, fun h => ⟨rfl, kk2, Kv.2.2, Am, h⟩⟩
  refine af (pf hc hi lY.du) ?_
  rintro r G3 ⟨rfl, rfl⟩
  have gx0 := lY.gx
  have gy0 := lY.gy
  simp +contextual only [k2, dt, fg, fh, fj, gx0, sZ, Nat.reduceEqDiff, Nat.reduceAdd, Nat.reduceLT, ↓reduceIte]
  refine aH (Hr (c.kd i) (dq c i) (by omega)) ?_
  simp +contextual only [k2, gy0, sZ, Nat.reduceEqDiff, Nat.reduceAdd, Nat.reduceLT, ↓reduceIte]
  refine aH (Hr (c.kd k) (dq c i) (by omega)) ?_
  generalize bD (dq c i) (c.kd i) = xs at *
  generalize bD (dq c i) (c.kd k) = ys at *
  have ix : IL (.ap 0 (ints xs)) xs := .inr rfl
  have iy : IL (.ap 0 (ints ys)) ys := .inr rfl
  simp +contextual only [sZ, Nat.reduceEqDiff, Nat.reduceAdd, ↓reduceIte, reduceCtorEq]
  refine af (V8 ix iy (by omega) (by omega) (fun z hz z' H5 => jF hc (ki.2 z (nx z hz)) (kk.2 z' (ny z' H5))) lY.du) ?_
  rintro r G4 ⟨n, rfl, hn, Tp, Tq⟩
  have en0 := hn.Sl Z4
  subst en0
  have vO := lY.call hD w Tp Tq
  have gp4 := vO.gp
  have px := fun es => vO.set (es' := es) hD w
  have gps := fun es => (px es).gp
  have gxs := fun es => (px es).gx
  have gys := fun es => (px es).gy
  have un1 : List.map AV.ab [AV.int .i64 (n : Int)] = [.int .i64 (n : Int)] := rfl
  have hLS : ∀ l, Cu (E c.O) (Sh c.O) n l (c.tm i) (xs.map c.tm) (ys.map c.tm) (c.tm k).l ↔ (if (n : Int) = ys.length then kU (Sh c.O) l (c.tm i) ((c.kd k).map c.tm) else ∃ q r, l = q :: r ∧ Sh c.O q (c.tm (xs.getD n 0)) (c.tm (ys.getD n 0)) ∧ kU (Sh c.O) r (c.tm i) ((c.kd k).map c.tm)) := by
   intro l
   rw [WC (kd := c.kd k) kk.1]
   have h1 : (0 : Int) ≤ n ∧ (n : Int) < xs.length ∧ (n : Int) ≤ ys.length := ⟨by omega, by omega, by have := hn.lb; omega⟩
   have h2 : ∀ j, j < (n : Int).toNat → E c.O (c.tm (xs.getD j 0)) (c.tm (ys.getD j 0)) := fun j hj => hn.eq j (by omega)
   rw [Int.toNat_natCast]
   exact ⟨fun h => h.2.2, fun h => ⟨h1, h2, h⟩⟩
  by_cases hny : n < ys.length
  ·have n4 : ((n : Int) < ys.length) = True := eq_true (by omega)
   simp +contextual only [decide_true, gp4, SK, un1, gps, iy.aL, iy.len (by omega), n4, ix.idx, iy.idx, ix.lens, iy.lens, Int.toNat_natCast, d3, s3, List.set_set, sZ, Nat.reduceEqDiff, Nat.reduceAdd, Nat.reduceLT, Nat.reduceLeDiff, ↓reduceIte, reduceCtorEq]
   have mx := nx _ (aO (l := xs) (i := n) (by omega))
   have my := ny _ (aO hny)
   have Dw : ow c (xs.getD n 0) (ys.getD n 0) := SN _ mx _ my (XM.resolve_left (by omega))
   have SM : ∀ u qs, Sh c.O u (c.tm (xs.getD n 0)) (c.tm (ys.getD n 0)) → kU (Sh c.O) qs (c.tm i) ((c.kd k).map c.tm) → Sh c.O (.mk 3 n [] (u :: qs)) (c.tm i) (c.tm k) := by
    intro u qs hu hq
    rw [hS, hLS, if_neg (by omega)]; exact ⟨u, qs, rfl, hu, hq⟩
   repeat' apply And.intro
   all_goals first | omega | skip
   all_goals
    refine af (Dw _ (px _).du) ?_
    rintro r G5 ⟨u, rfl, hu, WJ, WK⟩
    replace SM := fun qs => SM u qs hu
    have Ku := (px _).call hD w WJ WK
    have gp5 := Ku.gp
    have Ew := fun es => Ku.set (es' := es) hD w
    have gps6 := fun es => (Ew es).gp
    have gys6 := fun es => (Ew es).gy
    obtain ⟨u1, u2, u3, u4, u5, u6, u7, u8, u9⟩ := aX u
    have ap1 : ∀ ψ, bE 4 64 .ah (.ap 0 [dT u]) ψ = ψ (dR ([] ++ [u])) := fun ψ => CE [] u (by simp) 0 ψ
    have ea : dR ([] ++ [u]) = [dT u] := rfl
    rw [ea] at ap1
    simp +contextual only [k2, ik.aL, ik.len (by omega), u1, u2, u6, jh, ap1, gp5, gps6, gys6, d3, s3, List.set_set, sZ, Nat.reduceEqDiff, Nat.reduceAdd, Nat.reduceLT, ↓reduceIte]
    refine kI (Ev hD w (l0 := [u]) (by simp) ik l2 (fun z hz => hp z hz (hall0 z hz)) (Ew _)) ?_
    rintro e1 e G6 ⟨rfl, f6, f10, qs, jm, nA⟩
    replace nA : PB c H x y i k [.int .i64 3, .int .i64 n, .ah, ou (u :: qs)] G6 := nA
    have gp6 := nA.gp
    have g66 := nA.g6
    have lp := Pw 3 n [] (u :: qs)
    have tv0 : sY [] = AV.ah := rfl
    rw [tv0] at lp
    have hs : Sh c.O (.mk 3 n [] (u :: qs)) (c.tm i) (c.tm k) := SM qs jm
    obtain ⟨q1, q2, q3, q4, q5, q6, q7, q8, q9⟩ := aX (.mk 3 n [] (u :: qs))
    have lp2 := CG (.mk 3 n [] (u :: qs))
    have Kt := List.getElem?_set_self (a := aa.cells (dT (.mk 3 n [] (u :: qs))).cells) (aM g66)
    have N5 : aj (H.length + 1) (dT (.mk 3 n [] (u :: qs))).cells = true := cn (fE _ _)
    have kD := PB.fin (to := []) (l := (u :: qs)) hD nA hs
    simp +contextual only [f6, f10, gp6, g66, lp, q1, q2, q3, q9, Pz, Kt, lp2, N5, sZ, Nat.reduceEqDiff, Nat.reduceAdd, ↓reduceIte, reduceCtorEq]
    first | exact kD | exact ⟨by omega, kD⟩ | exact ⟨trivial, kD⟩
  ·have n4 : ((n : Int) < ys.length) = False := eq_false (by omega)
   have SM : ∀ qs, kU (Sh c.O) qs (c.tm i) ((c.kd k).map c.tm) → Sh c.O (.mk 3 n [] qs) (c.tm i) (c.tm k) := by
    intro qs hq
    rw [hS, hLS, if_pos (by have := hn.lb; omega)]; exact hq
   simp +contextual only [k2, ik.aL, ik.len (by omega), decide_false, gp4, SK, un1, gps, gys, iy.aL, iy.len (by omega), n4, sZ, Nat.reduceEqDiff, Nat.reduceAdd, Nat.reduceLT, Nat.reduceLeDiff, ↓reduceIte]
   refine kI (Ev hD w (l0 := []) (by simp) ik l2 (fun z hz => hp z hz (hall0 z hz)) (px _)) ?_
   rintro e1 e G6 ⟨rfl, f6, f10, qs, jm, nA⟩
   replace nA : PB c H x y i k [.int .i64 3, .int .i64 n, .ah, ou qs] G6 := nA
   have gp6 := nA.gp
   have g66 := nA.g6
   have lp := Pw 3 n [] qs
   have tv0 : sY [] = AV.ah := rfl
   rw [tv0] at lp
   have hs : Sh c.O (.mk 3 n [] qs) (c.tm i) (c.tm k) := SM qs jm
   obtain ⟨q1, q2, q3, q4, q5, q6, q7, q8, q9⟩ := aX (.mk 3 n [] qs)
   have lp2 := CG (.mk 3 n [] qs)
   have Kt := List.getElem?_set_self (a := aa.cells (dT (.mk 3 n [] qs)).cells) (aM g66)
   have N5 : aj (H.length + 1) (dT (.mk 3 n [] qs)).cells = true := cn (fE _ _)
   have kD := PB.fin (to := []) (l := qs) hD nA hs
   simp +contextual only [f6, f10, gp6, g66, lp, q1, q2, q3, q9, Pz, Kt, lp2, N5, sZ, Nat.reduceEqDiff, Nat.reduceAdd, ↓reduceIte, reduceCtorEq]
   first | exact kD | exact ⟨by omega, kD⟩ | exact ⟨trivial, kD⟩
end Go.aK
end
section
set_option maxRecDepth 100000
namespace Go.aK
open Go Go.Proofs Go.fq
structure PC (c : Cx) (H : List aa) (x y : Nat) (i k : Int) (es : List AV) (o : aa) (G : List aa) : Prop where
 du : Du c G
 gx : G[x]? = some (.cells [bo (c.kd i)])
 gy : G[y]? = some (.cells [bo (c.kd k)])
 g6 : G[H.length]? = some (.cells [.int .i64 0, .int .i64 0, .ah, .ah])
 gp : G[H.length + 3]? = some (.cells es)
 go : G[H.length + 4]? = some o
 len : G.length = H.length + 5
 up : ∀ j, j < H.length → j ≠ c.e → j ≠ c.g → G[j]? = H[j]?
theorem PB.Z5 {c : Cx} {H G : List aa} {x y : Nat} {i k : Int} {es : List AV} (w : XY H x y) (h : PB c H x y i k es G) (o : aa) : PC c H x y i k es o (G ++ [o]) := by
 obtain ⟨w1, w2, w3, w4⟩ := w
 have hl := h.len
 exact ⟨h.du.rO _, by rw [List.getElem?_append_left (by omega), h.gx], by rw [List.getElem?_append_left (by omega), h.gy], by rw [List.getElem?_append_left (by omega), h.g6], by rw [List.getElem?_append_left (by omega), h.gp], by rw [← hl]; simp, by simp [hl], fun j h1 h2 h3 => by rw [List.getElem?_append_left (by omega), h.up j h1 h2 h3]⟩
theorem PC.call {c : Cx} {H G G' : List aa} {x y : Nat} {i k : Int} {es : List AV} {o : aa} (hD : Du c H) (w : XY H x y) (h : PC c H x y i k es o G) (hU : Up c G G') (ja : Du c G') : PC c H x y i k es o G' := by
 obtain ⟨l1, l2, l3⟩ := hD.lt
 obtain ⟨w1, w2, w3, w4⟩ := w
 exact ⟨ja, by rw [hU.get x (by omega) (by omega), h.gx], by rw [hU.get y (by omega) (by omega), h.gy], by rw [hU.get _ (by omega) (by omega), h.g6], by rw [hU.get _ (by omega) (by omega), h.gp], by rw [hU.get _ (by omega) (by omega), h.go], by rw [hU.len, h.len], fun j h1 h2 h3 => by rw [hU.get j h2 h3, h.up j h1 h2 h3]⟩
theorem PC.set {c : Cx} {H G : List aa} {x y : Nat} {i k : Int} {es es' : List AV} {o : aa} (hD : Du c H) (w : XY H x y) (h : PC c H x y i k es o G) : PC c H x y i k es' o (G.set (H.length + 3) (.cells es')) := by
 obtain ⟨l1, l2, l3⟩ := hD.lt
 obtain ⟨w1, w2, w3, w4⟩ := w
 have hp := aM h.gp
 exact ⟨h.du.set (by omega) (by omega) (by omega), by rw [List.getElem?_set_ne (by omega), h.gx], by rw [List.getElem?_set_ne (by omega), h.gy], by rw [List.getElem?_set_ne (by omega), h.g6], by rw [List.getElem?_set_self hp], by rw [List.getElem?_set_ne (by omega), h.go], by rw [List.length_set, h.len], fun j h1 h2 h3 => by rw [List.getElem?_set_ne (by omega), h.up j h1 h2 h3]⟩
theorem PC.Z6 {c : Cx} {H G : List aa} {x y : Nat} {i k : Int} {es : List AV} {o o' : aa} (hD : Du c H) (w : XY H x y) (h : PC c H x y i k es o G) : PC c H x y i k es o' (G.set (H.length + 4) o') := by
 obtain ⟨l1, l2, l3⟩ := hD.lt
 obtain ⟨w1, w2, w3, w4⟩ := w
 have hp := aM h.go
 exact ⟨h.du.set (by omega) (by omega) (by omega), by rw [List.getElem?_set_ne (by omega), h.gx], by rw [List.getElem?_set_ne (by omega), h.gy], by rw [List.getElem?_set_ne (by omega), h.g6], by rw [List.getElem?_set_ne (by omega), h.gp], by rw [List.getElem?_set_self hp], by rw [List.length_set, h.len], fun j h1 h2 h3 => by rw [List.getElem?_set_ne (by omega), h.up j h1 h2 h3]⟩
theorem PC.drop {c : Cx} {H G : List aa} {x y : Nat} {i k : Int} {es : List AV} {o : aa} (hD : Du c H) (w : XY H x y) (h : PC c H x y i k es o G) : PB c H x y i k es (G.take (H.length + 4)) ∧ G = G.take (H.length + 4) ++ [o] := by
 obtain ⟨l1, l2, l3⟩ := hD.lt
 obtain ⟨w1, w2, w3, w4⟩ := w
 have hl := h.len
 have t : ∀ j, j < H.length + 4 → (G.take (H.length + 4))[j]? = G[j]? := fun j h1 => by rw [List.getElem?_take, if_pos h1]
 refine ⟨⟨h.du.take (by omega) (by omega) (by omega), by rw [t x (by omega), h.gx], by rw [t y (by omega), h.gy], by rw [t _ (by omega), h.g6], by rw [t _ (by omega), h.gp], by simp; omega, fun j h1 h2 h3 => by rw [t j (by omega), h.up j h1 h2 h3]⟩, ?_⟩
 have e : G.drop (H.length + 4) = [o] := by
  have h1 := h.go
  have aY : H.length + 4 < G.length := by omega
  rw [List.drop_eq_getElem_cons aY]
  rw [List.getElem?_eq_getElem aY] at h1
  simp only [Option.some.injEq] at h1
  rw [h1, List.drop_of_length_le (by omega)]
 rw [← e, List.take_append_drop]
structure MI (c : Cx) (a b : List Int) (us : List Bool) (to : List Int) (j : Nat) (ts : List Int) (ls : List PP) : Prop where
 lt : ts.length = j
 ll : ls.length = j
 pa : ∀ j', j' < j → 0 ≤ to.getD j' 0 → ts.getD j' 0 = to.getD j' 0 ∧ (ls.getD j' default).nil
 ov : ∀ j', j' < j → to.getD j' 0 < 0 → (¬ (ls.getD j' default).nil ∧ Sh c.O (ls.getD j' default) (c.tm (a.getD (ts.getD j' 0).toNat 0)) (c.tm (b.getD j' 0))) ∧ ∃ u : Nat, ts.getD j' 0 = u ∧ u < a.length ∧ us.getD u false = false
theorem MI.snoc {c : Cx} {a b : List Int} {us : List Bool} {to : List Int} {j : Nat} {ts : List Int} {ls : List PP} (h : MI c a b us to j ts ls) (v : Int) (q : PP)
 (h1 : 0 ≤ to.getD j 0 → v = to.getD j 0 ∧ q.nil) (h2 : to.getD j 0 < 0 → (¬ q.nil ∧ Sh c.O q (c.tm (a.getD v.toNat 0)) (c.tm (b.getD j 0))) ∧ ∃ u : Nat, v = u ∧ u < a.length ∧ us.getD u false = false) : MI c a b us to (j + 1) (ts ++ [v]) (ls ++ [q]) := by
 obtain ⟨k1, k2, k3, k4⟩ := h
 have e1 : ∀ j', j' < j → (ts ++ [v]).getD j' 0 = ts.getD j' 0 ∧ (ls ++ [q]).getD j' default = ls.getD j' default := fun j' tT => by
  constructor
  ·rw [List.getD_eq_getElem?_getD, List.getD_eq_getElem?_getD, List.getElem?_append_left (by omega)]
  ·rw [List.getD_eq_getElem?_getD, List.getD_eq_getElem?_getD, List.getElem?_append_left (by omega)]
 have e2 : (ts ++ [v]).getD j 0 = v ∧ (ls ++ [q]).getD j default = q := by
  constructor
  ·rw [← k1]; simp
  ·rw [← k2]; simp
 refine ⟨by simp [k1], by simp [k2], fun j' tT h0 => ?_, fun j' tT h0 => ?_⟩
 ·by_cases e : j' = j
  ·subst e; rw [e2.1, e2.2]; exact h1 h0
  ·have aY : j' < j := by omega
   rw [(e1 j' aY).1, (e1 j' aY).2]; exact k3 j' aY h0
 ·by_cases e : j' = j
  ·subst e; rw [e2.1, e2.2]; exact h2 h0
  ·have aY : j' < j := by omega
   rw [(e1 j' aY).1, (e1 j' aY).2]; exact k4 j' aY h0
theorem vP {to : List Int} {x : Int} : ∀ {n : Nat}, (∀ j j', j < n → j' < n → to.getD j 0 = x → to.getD j' 0 = x → j = j') → dj to x n ≤ 1
 | 0, _ => by simp [dj]
 | n + 1, h => by
   rw [dj]
   have ih := vP (n := n) fun j j' h1 h2 => h j j' (by omega) (by omega)
   by_cases e : to.getD n 0 = x
   ·rw [if_pos e]
    have : dj to x n = 0 := by
     have h0 : ∀ m, m ≤ n → dj to x m = 0 := by
      intro m
      induction m with
      | zero => intro _; rfl
      | succ m ihm =>
        intro hm
        rw [dj, ihm (by omega), if_neg (fun e' => by have := h m n (by omega) (by omega) e' e; omega)]
     exact h0 n (Nat.le_refl _)
    omega
   ·rw [if_neg e]; omega
theorem MI.cov {c : Cx} {a b : List Int} {us : List Bool} {to ts : List Int} {ls : List PP} (h : MI c a b us to b.length ts ls) (Aa : Pr (fun x y => E c.O (c.tm x) (c.tm y)) a b b.length us to) (hl : ∃ u : Nat, u < a.length ∧ us.getD u false = false) : HG c ts ls a b := by
 obtain ⟨k1, k2, k3, k4⟩ := h
 have cas : ∀ j, j < b.length → (∃ u : Nat, to.getD j 0 = u ∧ u < a.length ∧ us.getD u false = true ∧ E c.O (c.tm (a.getD u 0)) (c.tm (b.getD j 0))) ∨ to.getD j 0 < 0 := fun j hj => by
  rcases Aa.t1 j hj with h | ⟨u, h1, h2, h3, h4⟩
  ·exact .inr (by omega)
  ·exact .inl ⟨u, h1, h2, h3, h4⟩
 refine ⟨k1, k2, fun j hj => ?_, fun x hx hp => ?_, ?_⟩
 ·rcases cas j hj with ⟨u, h1, h2, h3, h4⟩ | hn
  ·obtain ⟨e1, e2⟩ := k3 j hj (by omega)
   rw [if_pos e2, e1, h1]
   exact ⟨by omega, by rw [Int.toNat_natCast]; exact h4⟩
  ·obtain ⟨⟨e1, e2⟩, u, h1, h2, h3⟩ := k4 j hj hn
   rw [if_neg e1]
   exact ⟨by omega, e2⟩
 ·obtain ⟨j, hj, e1, e2⟩ := gV.1 hp
  have AD : ∀ j', j' < b.length → ts.getD j' 0 = (x : Int) → us.getD x false = true → to.getD j' 0 = (x : Int) := by
   intro j' tT e ht
   rcases cas j' tT with ⟨u, h1, _⟩ | hn
   ·rw [← (k3 j' tT (by omega)).1]; exact e
   ·obtain ⟨_, u, h1, h2, h3⟩ := k4 j' tT hn
    have : u = x := by omega
    subst this; rw [h3] at ht; cases ht
  have hux : us.getD x false = true := by
   rcases cas j hj with ⟨u, h1, h2, h3, _⟩ | hn
   ·have := (k3 j hj (by omega)).1
    have : u = x := by omega
    subst this; exact h3
   ·exact absurd e2 (k4 j hj hn).1.1
  refine vP fun j1 j2 h1 h2 e1 e2 => ?_
  have t1 := AD j1 h1 e1 hux
  have t2 := AD j2 h2 e2 hux
  exact Aa.inj j1 j2 h1 h2 (by omega) (by omega)
 ·obtain ⟨u, hu, hf⟩ := hl
  refine ⟨u, hu, ?_⟩
  by_cases h0 : 0 < dd ts ls u b.length
  ·obtain ⟨j, hj, e1, e2⟩ := gV.1 h0
   rcases cas j hj with ⟨u', h1, h2, h3, _⟩ | hn
   ·have := (k3 j hj (by omega)).1
    have : u' = u := by omega
    subst this; rw [hf] at h3; cases h3
   ·exact absurd e2 (k4 j hj hn).1.1
  ·omega
theorem Sh.ne_nil {O : Od} {p : PP} {a b : T} (h : Sh O p a b) : ¬ p.nil := by
 rintro ⟨h1, _⟩
 exact Sh0 (by omega) (by omega) (by omega) (by omega) h
theorem WN {c : Cx} (hc : c.Ok) {i k : Int} (hi : c.dH i) (hk : c.dH k) (hR : R c.O (c.tm i) (c.tm k)) (hr : gC c i k 4) (jJ : ∀ m, m < 4 → ¬ gC c i k m) (SN : ∀ x ∈ c.kd i, ∀ y ∈ c.kd k, R c.O (c.tm x) (c.tm y) → ow c x y) : ow c i k := by
 intro H hD
 refine CD.2.calls rfl ?_
 simp only [CD, aI]
 have k2 : ∀ l, (bo l).ab = bo l := fun l => (aE l).2.1
 have ki := hc.kids i hi
 have kk := hc.kids k hk
 have l1 := hc.kl i hi
 have l2 := hc.kl k hk
 obtain ⟨a1, a2, a3, a4, a5⟩ := aE (c.kd i)
 obtain ⟨b1, b2, b3, b4, b5⟩ := aE (c.kd k)
 have ii : IL (bo (c.kd i)) (c.kd i) := .inl rfl
 have ik : IL (bo (c.kd k)) (c.kd k) := .inl rfl
 have ei : (c.nd.getD i.toNat default).snd = c.kd i := rfl
 have ek : (c.nd.getD k.toNat default).snd = c.kd k := rfl
 obtain ⟨m1, m2, m3⟩ := hD.lt
 have ed : ∀ X : List aa, (H ++ X)[c.d]? = H[c.d]? := fun X => List.getElem?_append_left m1
 have spv : ∀ x : AV, ag [AV.ah] 0 [x] = [x] := fun x => rfl
 have spq : ag [AV.int .i64 0, .int .i64 0, .ah, .ah] 0 [AV.int .i64 0, .int .i64 0, .ah, .ah] = [AV.int .i64 0, .int .i64 0, .ah, .ah] := rfl
 simp +contextual only [sZ, Nat.reduceEqDiff, Nat.reduceAdd, ↓reduceIte, reduceCtorEq]
 refine kT (K1 := fun e G => get e 1 = .int .i64 i ∧ get e 3 = .ai (.ptr c.d 0) ∧ get e 5 = .ai (.int .i64 k) ∧ get e 6 = .ptr H.length 0 ∧ ∃ x y, get e 7 = .ptr x 0 ∧ get e 8 = .ptr y 0 ∧ XY H x y ∧ PA c H x y i k G) ?_ ?_
 ·have P0 : aa := .cells [.int .i64 0, .int .i64 0, .ah, .ah]
  have A : ∃ x y, AV.ptr (H.length + 1) 0 = .ptr x 0 ∧ AV.ptr (H.length + 2) 0 = .ptr y 0 ∧ XY H x y ∧ PA c H x y i k (H ++ [.cells [.int .i64 0, .int .i64 0, .ah, .ah], .cells [bo (c.kd i)], .cells [bo (c.kd k)]]) :=
   ⟨_, _, rfl, rfl, ⟨by omega, by omega, by omega, by omega⟩, ⟨hD.rO _, by simp, by simp, by simp, by simp, fun j hj _ _ => List.getElem?_append_left hj⟩⟩
  have B : ∃ x y, AV.ptr (H.length + 2) 0 = .ptr x 0 ∧ AV.ptr (H.length + 1) 0 = .ptr y 0 ∧ XY H x y ∧ PA c H x y i k (H ++ [.cells [.int .i64 0, .int .i64 0, .ah, .ah], .cells [bo (c.kd k)], .cells [bo (c.kd i)]]) :=
   ⟨_, _, rfl, rfl, ⟨by omega, by omega, by omega, by omega⟩, ⟨hD.rO _, by simp, by simp, by simp, by simp, fun j hj _ _ => List.getElem?_append_left hj⟩⟩
  simp +contextual only [ed, hD.d, lT, C0, cu, bS, k2, ei, ek, a1, a3, a4, a5, b1, b3, b4, b5, List.map_cons, List.map_nil, spv, List.all_cons, List.all_nil, Bool.and_true, bL, cZ, sZ, Nat.reduceEqDiff, Nat.reduceAdd, Nat.reduceLT, ↓reduceIte]
  refine ⟨hi, ?_⟩
  repeat' apply And.intro
  all_goals first | exact hk.1 | exact hk.2 | exact A | exact B
 ·rintro e G ⟨e1, e3, e5, e6, x, y, e7, e8, w, Ao⟩
  simp +contextual only [e1, e3, e5, e6, e7, e8, sZ, Nat.reduceEqDiff, ↓reduceIte]
  refine aN 3 (fun m (G : List aa) => PA c H x y i k G)
   (fun m G => [(1, .int .i64 i), (3, .ai (.ptr c.d 0)), (5, .ai (.int .i64 k)), (6, .ptr H.length 0), (7, .ptr x 0), (8, .ptr y 0), (9, .int .i64 ((m + 1 : Nat) : Int))]) (fun m G => G) G ⟨Ao, aA _ _ _⟩ fun m G hm Ao => ?_
  have hf : dP.cells[m + 1]? = some (.fn (.func (182 + (m + 1))) [] []) := by
   have : m = 0 ∨ m = 1 ∨ m = 2 ∨ m = 3 := by omega
   rcases this with rfl | rfl | rfl | rfl <;> rfl
  have en := Ts (m + 1) _ hf (by omega)
  simp +contextual only [sZ]
  refine aH Kc ?_
  simp +contextual only [lN, en _ rfl, sZ, Nat.reduceEqDiff, Nat.reduceAdd, ↓reduceIte, reduceCtorEq]
  refine af ((tW hc hi hk).at (n := m + 1) (by omega) (by omega) Ao.du) ?_
  rintro r G1 ⟨z, rfl, hz, hU, mv⟩
  have pj := Ao.call hD w hU mv
  by_cases Pg : m = 3
  rotate_left
  ·have : z = false := by
    cases z with
    | false => rfl
    | true => exact absurd (hz.1 rfl) (jJ (m + 1) (by omega))
   subst this
   simp +contextual only [Bool.not_false, sZ, Nat.reduceEqDiff, ↓reduceIte]
   exact ⟨m + 1, G1, ⟨by omega, pj⟩, by omega, aG (by rw [au (m + 1) (by omega)]) rfl⟩
  subst Pg
  have : z = true := hz.2 hr
  subst this
  have xa := pj.len
  have kq := fun es => pj.rO w es
  have SL := fun es => (kq es).gp
  have NN := fun es => (kq es).gx
  have WI := fun es => (kq es).gy
  have bP : ∀ (o o' : aa), (G1 ++ [o]).set (H.length + 3) o' = G1 ++ [o'] := fun o o' => by rw [← xa]; simp
  have ec : ((4 : Nat) : Int) = 4 := rfl
  have zf : List.map AV.ab [AV.int .i64 (4 : Int), .int .i64 0, .ah, .ah] = [.int .i64 (4 : Int), .int .i64 0, .ah, .ah] := rfl
  have zf0 : List.map AV.ab [AV.int .i64 0, .int .i64 0, .ah, .ah] = [.int .i64 0, .int .i64 0, .ah, .ah] := rfl
  have e86 : ∀ a b : Int, decide (a = b) = decide (a = b) := fun _ _ => rfl
  simp +contextual only [k2, decide_true, decide_false, Bool.not_true, Bool.not_true, XZ, xa, SL, bP, ec, zf, zf0, HK, NN, WI, sZ, Nat.reduceEqDiff, Nat.reduceAdd, Nat.reduceLT, ↓reduceIte, reduceCtorEq, Int.reduceEq]
  have lY := kq [.int .i64 4, .int .i64 0, .ah, .ah]
  generalize G1 ++ [aa.cells [AV.int .i64 4, .int .i64 0, .ah, .ah]] = G2 at lY ⊢
  have ki2 : (c.tm i).k = 2 := (qw.1 hR).1
  have hmq : wZ c i k := by
   rcases hr with h | h | h | h
   ·exact absurd h.1 (by decide)
   ·exact absurd h.1 (by decide)
   ·exact absurd h.1 (by decide)
   ·exact h.2
  obtain ⟨Kq, Am, XQ⟩ := hmq
  have Kv := jV.1 Kq
  have kk2 : (c.tm k).k = 2 := Kv.2.1
  have osi : dq c i = c.O.sp (c.O.pl (c.tm i).n) := by rw [dq, if_pos ki2]
  have gx0 := lY.gx
  have gy0 := lY.gy
  simp +contextual only [sZ]
  refine af (Sp ii ik (by omega) (by omega) (fun z hz z' H5 => jF hc (ki.2 z hz) (kk.2 z' H5)) lY.du) ?_
  rintro r G3 ⟨us, to, Aa, rfl, Wa, J9⟩
  have An := lY.call hD w Wa J9
  have Tc := (Pr.mu (f := nf c) (G := Gt c.O.sp) Aa).1 XQ
  have lbl := jf (c.kd i).length fun z => !us.getD z false
  have il : IL (bo (below (c.kd i).length fun z => !us.getD z false)) (below (c.kd i).length fun z => !us.getD z false) := .inl rfl
  have mml : ∀ {z : Int}, z ∈ below (c.kd i).length (fun z => !us.getD z false) → ∃ u : Nat, z = u ∧ u < (c.kd i).length ∧ us.getD u false = false := by
   intro z hz; obtain ⟨u, h1, h2, h3⟩ := fU.1 hz; exact ⟨u, h1, h2, by simpa using h3⟩
  have mmo : ∀ {j : Nat}, j < (c.kd k).length → to.getD j 0 < 0 → ∃ z ∈ below (c.kd i).length (fun z => !us.getD z false), R c.O (c.tm ((c.kd i).getD z.toNat 0)) (c.tm ((c.kd k).getD j 0)) := by
   intro j hj hn
   exact Tc.2 (j : Int) (fU.2 ⟨j, rfl, hj, by simpa using hn⟩)
  have Z7 := Tc.1
  generalize (below (c.kd i).length fun z => !us.getD z false) = L at *
  have lto := Aa.lt
  obtain ⟨v1, v2, v3, v4, v5⟩ := aE L
  simp +contextual only [k2, aw, sZ, Nat.reduceEqDiff, Nat.reduceAdd, Nat.reduceLT, ↓reduceIte]
  intro _
  have hlne2 : ∃ u : Nat, u < (c.kd i).length ∧ us.getD u false = false := by
   cases L with
   | nil => exact absurd rfl Z7
   | cons z r =>
     obtain ⟨u, _, h2, h3⟩ := mml (List.mem_cons_self (a := z) (l := r))
     exact ⟨u, h2, h3⟩
  refine aN (c.kd k).length (fun j (s : List aa × List Int × List PP) => PB c H x y i k [.int .i64 4, .int .i64 0, sY s.2.1, ou s.2.2] s.1 ∧ MI c (c.kd i) (c.kd k) us to j s.2.1 s.2.2)
   (fun j s => [(3, .ai (.ptr c.d 0)), (6, .ptr H.length 0), (7, .ptr x 0), (8, .ptr y 0), (10, .ptr (H.length + 3) 0), (11, bo L), (89, .ap 0 (ints to)), (90, .int .i64 to.length), (91, .int .i64 j)]) (fun j s => s.1) (G3, [], [])
   ⟨⟨An, rfl, rfl, fun j h => by omega, fun j h => by omega⟩, aA _ _ _⟩ fun j s hj hI => ?_
  obtain ⟨G, ts, ls⟩ := s
  obtain ⟨kq, HR⟩ := hI
  simp only at kq HR
  have hlen := kq.len
  by_cases Ko : (j : Int) < to.length
  ·have nG : j < (c.kd k).length := by omega
   have zf4 : ∀ n, aj n (List.map AV.ab [AV.int .i64 0, .int .i64 0, .ah, .ah]) = true := fun _ => rfl
   have zf5 : List.map AV.ab [AV.int .i64 0, .int .i64 0, .ah, .ah] = [AV.int .i64 0, .int .i64 0, .ah, .ah] := rfl
   obtain ⟨tj, X0⟩ : ∃ tj, to.getD j 0 = tj := ⟨_, rfl⟩
   have WO := kq.Z5 w (.cells [.int .i64 0, .int .i64 0, .ah, .ah])
   by_cases wE : tj < 0
   ·simp +contextual only [k2, decide_true, Ko, cw, dy, Int.toNat_natCast, X0, wE, hlen, zf5, sZ, Nat.reduceEqDiff, Nat.reduceAdd, ↓reduceIte, reduceCtorEq]
    have mz := fun (G' : List aa) (dZ : SD c (G ++ [aa.cells [AV.int .i64 0, .int .i64 0, .ah, .ah]]) G') => WO.call hD w dZ.2 dZ.1
    have hjz : (0 : Int) ≤ j ∧ (j : Int) < (c.kd k).length := ⟨by omega, by omega⟩
    refine ⟨by omega, af (J8 (SD.z7 c (G ++ [.cells [.int .i64 0, .int .i64 0, .ah, .ah]])) il (by omega) 148 [] [.ai (.ptr c.d 0), .ptr x 0, .ptr y 0, .ai (.int .i64 j)] rfl rfl (Q := fun z => R c.O (c.tm ((c.kd i).getD z.toNat 0)) (c.tm ((c.kd k).getD (j : Int).toNat 0)))
     (fun z hz G' dZ => ?_) ⟨WO.du, Up.refl c _⟩) ?_⟩
    ·obtain ⟨u, rfl, hu, _⟩ := mml hz
     refine (Z2 ii ik ⟨by omega, by omega⟩ hjz (jG hc (ki.2 _ (aO (by omega))) (kk.2 _ (aO (by omega)))) dZ.1 (mz G' dZ).gx (mz G' dZ).gy).mono fun r H' hr => hr.sb dZ
    rintro r G4 ⟨hG4, tq⟩
    rcases tq with ⟨_, tq⟩ | ⟨m, rfl, hm, hQ, _⟩
    ·obtain ⟨z, hz, h⟩ := mmo nG (by rw [X0]; exact wE)
     exact absurd h (tq z hz)
    obtain ⟨u, hu, yM, huf⟩ := mml (aO hm)
    have N6 := mz G4 hG4
    have gx4 := N6.gx
    have gy4 := N6.gy
    rw [hu, Int.toNat_natCast, Int.toNat_natCast] at hQ
    simp +contextual only [k2, ii.lens, ik.lens, ii.idx, ik.idx, il.lens, il.idx, Int.toNat_natCast, hu, gx4, gy4, sZ, Nat.reduceEqDiff, Nat.reduceAdd, Nat.reduceLT, ↓reduceIte, reduceCtorEq]
    refine ⟨by omega, ⟨by omega, by omega⟩, by omega, ?_⟩
    refine af (SN _ (aO yM) _ (aO nG) hQ _ N6.du) ?_
    rintro r G5 ⟨q, rfl, hq, WJ, WK⟩
    have WQ := N6.call hD w WJ WK
    have go5 := WQ.go
    have Z8 := fun o => WQ.Z6 (o' := o) hD w
    have mi := fun o es => (Z8 o).set (es' := es) hD w
    have gq5 := fun o => (Z8 o).go
    have gp5 := fun o => (Z8 o).gp
    have gqs := fun o es => (mi o es).go
    have gps := fun o es => (mi o es).gp
    obtain ⟨u1, u2, u3, u4, u5, u6, u7, u8, u9⟩ := aX q
    have bq : aj (H.length + 4 + 1) (dT q).cells = true := cn (fE _ _)
    have SO := HR.snoc (u : Int) q (fun h => by omega) (fun _ => ⟨⟨Sh.ne_nil hq, by rw [Int.toNat_natCast]; exact hq⟩, u, rfl, yM, huf⟩)
    have t1 := HR.lt
    have t2 := HR.ll
    have Tf : ∀ ψ, bE 1 8 (sY ts) (.ap 0 [.int .i64 (u : Int)]) ψ = ψ (ints (ts ++ [(u : Int)])) := fun ψ => Pv ts _ (by omega) 0 ψ
    have apl : ∀ ψ, bE 4 64 (ou ls) (.ap 0 [dT q]) ψ = ψ (dR (ls ++ [q])) := fun ψ => CE ls q (by omega) 0 ψ
    have lpq := CG q
    obtain ⟨x1, x2, x3, x4, x5, x6⟩ := kW (ts ++ [(u : Int)])
    obtain ⟨y1, y2, y3, y4, y5, y6⟩ := gW (ls ++ [q])
    obtain ⟨x1', x2', x3', x4', x5', x6'⟩ := kW ts
    obtain ⟨y1', y2', y3', y4', y5', y6'⟩ := gW ls
    have lvb : ∀ n, aj n (dR (ls ++ [q])) = true := fun n => iw _ _
    have tvb : ∀ n, aj n (ints (ts ++ [(u : Int)])) = true := fun n => bk _ _
    have pS : ∀ G', PC c H x y i k [.int .i64 4, .int .i64 0, sY (ts ++ [(u : Int)]), ou (ls ++ [q])] (.cells (dT q).cells) G' → ∃ (j' : Nat) (t : List aa × List Int × List PP), (j' ≤ (c.kd k).length ∧ PB c H x y i k [.int .i64 4, .int .i64 0, sY t.2.1, ou t.2.2] t.1 ∧ MI c (c.kd i) (c.kd k) us to j' t.2.1 t.2.2) ∧ (c.kd k).length - j' < (c.kd k).length - j ∧
     sle H.length [(3, .ai (.ptr c.d 0)), (6, .ptr H.length 0), (7, .ptr x 0), (8, .ptr y 0), (10, .ptr (H.length + 3) 0), (11, bo L), (89, .ap 0 (ints to)), (90, .int .i64 to.length), (91, .int .i64 (IntKind.i64.wrap (j + 1)))] G' [(3, .ai (.ptr c.d 0)), (6, .ptr H.length 0), (7, .ptr x 0), (8, .ptr y 0), (10, .ptr (H.length + 3) 0), (11, bo L), (89, .ap 0 (ints to)), (90, .int .i64 to.length), (91, .int .i64 j')] t.1 := by
     intro G' dZ
     obtain ⟨z1, z2⟩ := dZ.drop hD w
     have zl := z1.len
     have XB := v3
     refine ⟨j + 1, (G'.take (H.length + 4), ts ++ [(u : Int)], ls ++ [q]), ⟨nG, z1, SO⟩, by omega, qg (by rw [au j (by omega)]) (by rw [zl]; omega) ?_ _ z2⟩
     obtain ⟨w1, w2, w3, w4⟩ := w
     rw [zl]
     simp only [mZ, List.all_cons, List.all_nil, zF, rB, iO, cW, v3, bk, Bool.and_true, Bool.and_eq_true, decide_eq_true_eq]
     omega
    simp +contextual only [go5, Pz, u1, u2, u3, u9, bq, gq5, gp5, gqs, gps, d2, d3, s2, s3, List.set_set, jh, Tf, apl, lpq, CF, qJ, x3, x4, y3, y4, sZ, Nat.reduceEqDiff, Nat.reduceAdd, Nat.reduceLT, ↓reduceIte]
    repeat' apply And.intro
    all_goals exact pS _ (mi _ _)
   ·have t1 := HR.lt
    have t2 := HR.ll
    obtain ⟨q0, hq0⟩ : ∃ q0, q0 = PP.mk 0 0 [] [] := ⟨_, rfl⟩
    have tc : q0.nil := by rw [hq0]; exact ⟨rfl, rfl, rfl, rfl⟩
    have lpz : ∀ φ, db (some (.cells [.int .i64 0, .int .i64 0, .ah, .ah])) (some 4) 0 φ = φ (dT q0) := by rw [hq0]; exact Pw 0 0 [] []
    obtain ⟨u1, u2, u3, u4, u5, u6, u7, u8, u9⟩ := aX q0
    have SO := HR.snoc tj q0 (fun h => ⟨X0.symm, tc⟩) (fun h => by omega)
    have Tf : ∀ ψ, bE 1 8 (sY ts) (.ap 0 [.int .i64 tj]) ψ = ψ (ints (ts ++ [tj])) := fun ψ => Pv ts _ (by omega) 0 ψ
    have apl : ∀ ψ, bE 4 64 (ou ls) (.ap 0 [dT q0]) ψ = ψ (dR (ls ++ [q0])) := fun ψ => CE ls q0 (by omega) 0 ψ
    have mi := fun es => WO.set (es' := es) hD w
    have gp5 := WO.gp
    have go5 := WO.go
    have gqs := fun es => (mi es).go
    have gps := fun es => (mi es).gp
    obtain ⟨x1, x2, x3, x4, x5, x6⟩ := kW (ts ++ [tj])
    obtain ⟨y1, y2, y3, y4, y5, y6⟩ := gW (ls ++ [q0])
    obtain ⟨x1', x2', x3', x4', x5', x6'⟩ := kW ts
    obtain ⟨y1', y2', y3', y4', y5', y6'⟩ := gW ls
    have lvb : ∀ n, aj n (dR (ls ++ [q0])) = true := fun n => iw _ _
    have tvb : ∀ n, aj n (ints (ts ++ [tj])) = true := fun n => bk _ _
    have pS : ∀ G', PC c H x y i k [.int .i64 4, .int .i64 0, sY (ts ++ [tj]), ou (ls ++ [q0])] (.cells [.int .i64 0, .int .i64 0, .ah, .ah]) G' → ∃ (j' : Nat) (t : List aa × List Int × List PP), (j' ≤ (c.kd k).length ∧ PB c H x y i k [.int .i64 4, .int .i64 0, sY t.2.1, ou t.2.2] t.1 ∧ MI c (c.kd i) (c.kd k) us to j' t.2.1 t.2.2) ∧ (c.kd k).length - j' < (c.kd k).length - j ∧
     sle H.length [(3, .ai (.ptr c.d 0)), (6, .ptr H.length 0), (7, .ptr x 0), (8, .ptr y 0), (10, .ptr (H.length + 3) 0), (11, bo L), (89, .ap 0 (ints to)), (90, .int .i64 to.length), (91, .int .i64 (IntKind.i64.wrap (j + 1)))] G' [(3, .ai (.ptr c.d 0)), (6, .ptr H.length 0), (7, .ptr x 0), (8, .ptr y 0), (10, .ptr (H.length + 3) 0), (11, bo L), (89, .ap 0 (ints to)), (90, .int .i64 to.length), (91, .int .i64 j')] t.1 := by
     intro G' dZ
     obtain ⟨z1, z2⟩ := dZ.drop hD w
     have zl := z1.len
     have XB := v3
     refine ⟨j + 1, (G'.take (H.length + 4), ts ++ [tj], ls ++ [q0]), ⟨nG, z1, SO⟩, by omega, qg (by rw [au j (by omega)]) (by rw [zl]; omega) ?_ _ z2⟩
     obtain ⟨w1, w2, w3, w4⟩ := w
     rw [zl]
     simp only [mZ, List.all_cons, List.all_nil, zF, rB, iO, cW, v3, bk, Bool.and_true, Bool.and_eq_true, decide_eq_true_eq]
     omega
    simp +contextual only [decide_true, decide_false, Ko, cw, dy, Int.toNat_natCast, X0, wE, hlen, zf5, u1, u2, gp5, go5, gqs, gps, d2, d3, s2, s3, List.set_set, jh, Tf, apl, lpz, CF, qJ, x3, x4, y3, y4, sZ, Nat.reduceEqDiff, Nat.reduceAdd, Nat.reduceLT, ↓reduceIte]
    refine ⟨by omega, ?_⟩
    repeat' apply And.intro
    all_goals exact pS _ (mi _)
  ·have Ww : j = (c.kd k).length := by omega
   subst Ww
   have hs : Sh c.O (.mk 4 0 ts ls) (c.tm i) (c.tm k) := by
    rw [Sh4 rfl ki2]
    rw [osi] at Am
    refine ⟨rfl, kk2, Kv.2.2, Am, ?_⟩
    show Ps (E c.O) (Sh c.O) ts ls (c.tm i).l (c.tm k).l
    rw [← ki.1, ← kk.1, ← Cz]
    exact HR.cov Aa hlne2
   have gp6 := kq.gp
   have g66 := kq.g6
   have lp := Pw 4 0 ts ls
   obtain ⟨q1, q2, q3, q4, q5, q6, q7, q8, q9⟩ := aX (.mk 4 0 ts ls)
   have lp2 := CG (.mk 4 0 ts ls)
   have Kt := List.getElem?_set_self (a := aa.cells (dT (.mk 4 0 ts ls)).cells) (aM g66)
   have N5 : aj (H.length + 1) (dT (.mk 4 0 ts ls)).cells = true := cn (fE _ _)
   have kD := PB.fin hD kq hs
   simp +contextual only [decide_false, Ko, gp6, g66, lp, q1, q2, q3, q9, Pz, Kt, lp2, N5, sZ, Nat.reduceEqDiff, Nat.reduceAdd, ↓reduceIte, reduceCtorEq]
   first | exact kD | exact ⟨by omega, kD⟩
end Go.aK
end
section
set_option maxRecDepth 100000
namespace Go.aK
open Go Go.Proofs Go.fq
theorem Kw {P : Nat → Prop} : ∀ {n : Nat}, P n → ∃ m, m ≤ n ∧ P m ∧ ∀ j, j < m → ¬ P j := by
 intro n
 induction n using Nat.strongRecOn with
 | _ n ih =>
   intro h
   by_cases hx : ∃ j, j < n ∧ P j
   ·obtain ⟨j, hj, hp⟩ := hx
    obtain ⟨m, h1, h2, h3⟩ := ih j hj hp
    exact ⟨m, by omega, h2, h3⟩
   ·exact ⟨n, Nat.le_refl _, h, fun j hj hp => hx ⟨j, hj, hp⟩⟩
theorem c86 {c : Cx} (hc : c.Ok) : ∀ (N : Nat) (i k : Int), c.dH i → c.dH k → wt (c.tm i) + wt (c.tm k) ≤ N → R c.O (c.tm i) (c.tm k) → ow c i k := by
 intro N
 induction N with
 | zero => intro i k _ _ h; have := gA (c.tm i); omega
 | succ N ih =>
 intro i k hi hk hN hR
 have hx : ∀ {j : Int}, c.dH j → ∀ x ∈ c.kd j, c.dH x ∧ wt (c.tm x) < wt (c.tm j) := fun {j} hj x hx => by
  have h1 := hc.kids j hj
  exact ⟨h1.2 x hx, cK (by rw [← h1.1]; exact List.mem_map.2 ⟨x, hx, rfl⟩)⟩
 have p1 : ∀ x ∈ c.kd i, R c.O (c.tm x) (c.tm k) → ow c x k := fun x h r => ih x k (hx hi x h).1 hk (by have := (hx hi x h).2; omega) r
 have p2 : ∀ y ∈ c.kd k, R c.O (c.tm i) (c.tm y) → ow c i y := fun y h r => ih i y hi (hx hk y h).1 (by have := (hx hk y h).2; omega) r
 have p3 : ∀ x ∈ c.kd i, ∀ y ∈ c.kd k, R c.O (c.tm x) (c.tm y) → ow c x y := fun x h y h' r => ih x y (hx hi x h).1 (hx hk y h').1 (by have := (hx hi x h).2; have := (hx hk y h').2; omega) r
 obtain ⟨_, n, hn, hr⟩ := (rV hc hi hk).2 hR
 obtain ⟨m, hm, hr, jJ⟩ := Kw (P := fun n => gC c i k n) hr
 have : m = 1 ∨ m = 2 ∨ m = 3 ∨ m = 4 := by
  rcases hr with h | h | h | h
  ·exact .inl h.1
  ·exact .inr (.inl h.1)
  ·exact .inr (.inr (.inl h.1))
  ·exact .inr (.inr (.inr h.1))
 rcases this with rfl | rfl | rfl | rfl
 ·exact WH hc hi hk hR hr jJ p1
 ·exact WL hc hi hk hR hr jJ p2
 ·exact WM hc hi hk hR hr jJ p2 p3
 ·exact WN hc hi hk hR hr jJ p3
theorem WR {c : Cx} (hc : c.Ok) {i k : Int} (hi : c.dH i) (hk : c.dH k) (hR : R c.O (c.tm i) (c.tm k)) : ow c i k := c86 hc _ i k hi hk (Nat.le_refl _) hR
def N7 : PP := .mk 0 0 [] []
def SP (s : Sg) (ps ss : List Int) (a b : T) (r : AV) : Prop :=
 (fO s ps ss [a, b] ≠ 0 ∧ r = .tuple [dT N7, .bool false, .int .i64 (fO s ps ss [a, b])]) ∨
 (fO s ps ss [a, b] = 0 ∧ ¬ R (kP ps ss) a b ∧ r = .tuple [dT N7, .bool false, .int .i64 0]) ∨
 (fO s ps ss [a, b] = 0 ∧ ∃ p, Sh (kP ps ss) p a b ∧ r = .tuple [dT p, .bool true, .int .i64 0])
theorem Up.jX {c : Cx} {G0 G : List aa} (h : Up c G0 G) {n : Nat} (he : n ≤ c.e) (hg : n ≤ c.g) : G.take n = G0.take n := by
 apply List.ext_getElem?
 intro j
 rw [List.getElem?_take, List.getElem?_take]
 split
 ·rename_i hj; exact h.get j (by omega) (by omega)
 ·rfl
theorem kX (n0 s s' s'' : Nat) (sz : Option Nat) (env : Env) (H : List aa) (R : AV → List aa → Prop) : bT n0 [.c s sz, .t s', .t s''] env H R = aS sz (get env s) H fun x => sT n0 [x, get env s', get env s''] H R := _root_.id rfl
theorem FI {Hs G : List aa} {n0 : Nat} {u v w : AV} {R : AV → List aa → Prop} (hH : Hs.take n0 = G) (hb : aj n0 [u, v, w] = true) (hu : [u, v, w].map AV.ab = [u, v, w]) (hR : R (.tuple [u, v, w]) G) : sT n0 [u, v, w] Hs R := by
 subst hH
 exact ⟨n0, Nat.le_refl _, _, by rw [hu]; exact b9 _, hb, hR⟩
theorem tX {H G : List aa} {o : aa} (h : G.take H.length = H) : (G.set H.length o).take H.length = H := by
 rw [List.take_set_of_le (Nat.le_refl _), h]
theorem c27 (s : Sg) (ps ss : List Int) (a b : T) (H : List aa) : aq Tryz.prog 27 [s.av, eR ps ss, a.av, b.av] H fun r H' => SP s ps ss a b r ∧ H' = H := by
 refine k27.2.calls rfl ?_
 simp only [k27, aI]
 obtain ⟨q1, q2, q3, q4, q5, q6⟩ := bi ps ss
 have zf4 : ∀ n, aj n (List.map AV.ab [AV.int .i64 0, .int .i64 0, .ah, .ah]) = true := fun _ => rfl
 have zf5 : List.map AV.ab [AV.int .i64 0, .int .i64 0, .ah, .ah] = [AV.int .i64 0, .int .i64 0, .ah, .ah] := rfl
 simp +contextual only [aC, q1, q4, cv, zf5, sZ, Nat.reduceEqDiff, Nat.reduceAdd, ↓reduceIte, reduceCtorEq]
 have g0 : (H ++ [aa.cells [AV.int .i64 0, .int .i64 0, .ah, .ah]])[H.length]? = some (.cells [.int .i64 0, .int .i64 0, .ah, .ah]) := by simp
 have th : (H ++ [aa.cells [AV.int .i64 0, .int .i64 0, .ah, .ah]]).length = H.length + 1 := by simp
 have Se : (H ++ [aa.cells [AV.int .i64 0, .int .i64 0, .ah, .ah]]).take H.length = H := by simp
 refine ae (Wp s ps ss [a, b]) ?_
 generalize H ++ [aa.cells [AV.int .i64 0, .int .i64 0, .ah, .ah]] = H1 at g0 th Se ⊢
 have ldz : ∀ φ, db (some (.cells [.int .i64 0, .int .i64 0, .ah, .ah])) (some 4) 0 φ = φ (dT N7) := Pw 0 0 [] []
 have zb : ∀ p b n, aj H.length [dT p, .bool b, .int .i64 n] = true := fun p b n => by simp [bL, cZ, fE, zE, iO]
 have zu : ∀ p b n, [dT p, AV.bool b, .int .i64 n].map AV.ab = [dT p, .bool b, .int .i64 n] := fun p b n => by simp [(aX p).2.2.2.1, nU, mY]
 by_cases h0 : fO s ps ss [a, b] = 0
 ·have hr := qG h0
  have hw := lW hr.tree
  have hc := hr.cx (by simp) (by simp) H1.length
  have hd := yk ps ss (ts := [a, b]) (by simp) H1
  simp +contextual only [q4, cv, h0, sZ, Nat.reduceEqDiff, Nat.reduceAdd, ↓reduceIte]
  refine af (V0 ps ss [a, b] _ (by simp at hw; omega)) ?_
  rintro r G ⟨rfl, rfl⟩
  have a0 := sW (ps := ps) (ss := ss) (ts := [a, b]) (n := H1.length) (j := 0) (by simp)
  have a1 := sW (ps := ps) (ss := ss) (ts := [a, b]) (n := H1.length) (j := 1) (by simp)
  have hl := cr [a, b] 0
  rw [NX]
  generalize aU [a, b] 0 = ks at a0 a1 hl ⊢
  have nJ : ks.length = 2 := hl
  simp +contextual only [cw, nJ, dy, sZ, Nat.reduceEqDiff, Nat.reduceAdd, Nat.reduceLT, ↓reduceIte, reduceCtorEq]
  refine ⟨by decide, by decide, af (jG hc a0.1 a1.1 _ hd) ?_⟩
  rintro r G ⟨x, rfl, hx, hU, hD⟩
  rw [a0.2, a1.2] at hx
  have wo : x = true ↔ R (kP ps ss) a b := hx
  have he : (fZ ps ss [a, b] H1.length).e = H.length + 1 := th
  have hg : (fZ ps ss [a, b] H1.length).g = H.length + 2 := by show H1.length + 1 = _; omega
  have low : ∀ G', Up (fZ ps ss [a, b] H1.length) G G' → G'[H.length]? = some (.cells [.int .i64 0, .int .i64 0, .ah, .ah]) ∧ G'.take H.length = H := by
   intro G' hU'
   have Pn := hU.trans hU'
   refine ⟨by rw [Pn.get _ (by omega) (by omega), List.getElem?_append_left (by omega)]; exact g0, ?_⟩
   rw [Pn.jX (n := H.length) (by omega) (by omega), List.take_append_of_le_length (by omega), Se]
  have gz := low G (Up.refl _ _)
  have gz1 := gz.1
  have gzs := fun o => List.getElem?_set_self (a := o) (aM gz1)
  have nilc : (dT N7).cells = [AV.int .i64 0, .int .i64 0, .ap 0 [], .ap 0 []] := rfl
  cases x with
  | false =>
    simp +contextual only [Bool.not_false, gz1, gzs, zf5, HK, kX, ldz, sZ, Nat.reduceEqDiff, Nat.reduceAdd, ↓reduceIte, reduceCtorEq]
    refine FI (tX gz.2) (zb _ _ _) (zu _ _ _) ⟨.inr (.inl ⟨h0, fun h => absurd (wo.2 h) (by simp), rfl⟩), rfl⟩
  | true =>
    simp +contextual only [Bool.not_true, cw, nJ, dy, sZ, Nat.reduceEqDiff, Nat.reduceAdd, ↓reduceIte, reduceCtorEq]
    refine ⟨by decide, by decide, af (WR hc a0.1 a1.1 (by rw [a0.2, a1.2]; exact wo.1 rfl) _ hD) ?_⟩
    rintro r G2 ⟨p, rfl, hp, Pn, AA⟩
    rw [a0.2, a1.2] at hp
    obtain ⟨gy1, gy2⟩ := low G2 Pn
    have gys := fun o => List.getElem?_set_self (a := o) (aM gy1)
    obtain ⟨u1, u2, u3, u4, u5, u6, u7, u8, u9⟩ := aX p
    have lpq := CG p
    have N5 : aj (H.length + 1) (dT p).cells = true := cn (fE _ _)
    simp +contextual only [gy1, gys, u1, u2, u3, u9, Pz, lpq, N5, kX, sZ, Nat.reduceEqDiff, Nat.reduceAdd, ↓reduceIte, reduceCtorEq]
    first | exact FI (tX gy2) (zb _ _ _) (zu _ _ _) ⟨.inr (.inr ⟨h0, p, hp, rfl⟩), rfl⟩ | exact ⟨by omega, FI (tX gy2) (zb _ _ _) (zu _ _ _) ⟨.inr (.inr ⟨h0, p, hp, rfl⟩), rfl⟩⟩
 ·have gs : ∀ o, (H1.set H.length o)[H.length]? = some o := fun o => List.getElem?_set_self (by omega)
  simp +contextual only [h0, g0, gs, zf5, HK, kX, ldz, sZ, Nat.reduceEqDiff, Nat.reduceAdd, ↓reduceIte, reduceCtorEq]
  refine FI (tX Se) (zb _ _ _) (zu _ _ _) ⟨.inl ⟨h0, rfl⟩, rfl⟩
end Go.aK
end
section
set_option maxRecDepth 100000
namespace Go.aK
open Go Go.Proofs Go.fq
def tx (l : List mB) : List AV := l.map mB.av
theorem CH (l : List mB) : (tx l).length = l.length := by simp [tx]
theorem Kx (n : Nat) (l : List mB) : aj n (tx l) = true := by
 rw [a9]; intro x hx; obtain ⟨y, _, rfl⟩ := List.mem_map.1 hx
 exact y.facts.2.2.2.2.2 n
theorem FJ (o : Nat) (l : List mB) : (∀ (own : Nat) (xs : List AV), AV.ap o (tx l) = AV.ap own xs → ∀ z ∈ xs, z.cells.length = 8) = True := by
 simp only [eq_iff_iff, iff_true]
 intro own xs e z hz
 cases e
 obtain ⟨y, _, rfl⟩ := List.mem_map.1 hz; rfl
theorem idx_eq (e o : Nat) (l : List mB) (k : IntKind) (i : Nat) (φ : AV → Prop) : ay e (.ap o (tx l)) (.int k (i : Int)) φ = (i < l.length ∧ φ (.ai (l.getD i default).av)) := by
 simp only [ay, CH, Int.toNat_natCast, eq_iff_iff]
 constructor
 ·rintro ⟨_, h, h2⟩; refine ⟨h, ?_⟩; simpa [tx, h] using h2
 ·rintro ⟨h, h2⟩; refine ⟨by omega, h, ?_⟩; simpa [tx, h] using h2
theorem PD (e : mB) (H : List aa) (φ : AV → Prop) : aS (some 8) (.ai e.av) H φ = φ e.av := by simp [aS, mB.av, AV.cells]
structure Ky (ps : List Int) (e : mB) : Prop where
 few : e.cs.length ≤ 1000
 tree : ∀ t ∈ e.a :: e.rest, t.tree = true
 ops : ∀ t ∈ e.a :: e.rest, yf (fun n => 0 ≤ n ∧ n < ps.length) t
open Classical in
noncomputable def xb (ps ss : List Int) (e : mB) : Bool := decide (NZ ps ss e)
theorem WS (ps ss : List Int) (e : mB) (hv : Va ps ss) (he : Ky ps e) : Pure Tryz.prog 163 [eR ps ss, e.av] (.bool (xb ps ss e)) := by
 intro H
 refine (ZP ps ss e hv he.few he.tree he.ops H).mono ?_
 rintro r H' ⟨⟨b, rfl, hb⟩, rfl⟩
 refine ⟨?_, rfl⟩
 congr 1
 rw [Bool.eq_iff_iff, hb]
 simp [xb]
theorem Z9 (ps ss : List Int) (e : mB) (hv : Va ps ss) (he : Ky ps e) : Pure Tryz.prog 162 [e.av, .ai (eR ps ss)] (.bool (!xb ps ss e)) := by
 refine fun H => UG.2.calls rfl ?_
 simp only [UG, aI]
 obtain ⟨q1, q2, q3, q4, q5, q6⟩ := bi ps ss
 obtain ⟨e1, e2, e3, e4, e5, e6⟩ := mB.facts e
 simp +contextual only [q4, e1, e4, cv, PD, sZ, Nat.reduceEqDiff, Nat.reduceAdd, ↓reduceIte, reduceCtorEq]
 refine ae (WS ps ss e hv he) ?_
 simp +contextual only [sZ, ↓reduceIte, reduceCtorEq]
 exact aW rfl rfl
def pk {α : Type} (p : α → Bool) : List α → Nat → Int
 | [], _ => -1
 | x :: r, i => if p x = true then (i : Int) else pk p r (i + 1)
theorem yw {α : Type} [Inhabited α] {p : α → Bool} {l : List α} {i : Nat} (h : i < l.length) : pk p (l.drop i) i = if p (l.getD i default) = true then (i : Int) else pk p (l.drop (i + 1)) (i + 1) := by
 have e : l.getD i default = l[i] := by simp [h]
 rw [List.drop_eq_getElem_cons h, pk, e]
theorem aaa (ps ss : List Int) (l : List mB) (hv : Va ps ss) (he : ∀ e ∈ l, Ky ps e) : Pure Tryz.prog 161 [.ap 0 (tx l), .fn (.func 162) [] [.ai (eR ps ss)]] (.int .i64 (pk (fun e => !xb ps ss e) l 0)) := by
 refine fun H => Mb.2.calls rfl ?_
 simp only [Mb, aI]
 simp +contextual only [CH, sZ, Nat.reduceEqDiff, Nat.reduceAdd, ↓reduceIte, reduceCtorEq]
 intro hl
 refine aB l.length (fun i => pk (fun e => !xb ps ss e) (l.drop i) i = pk (fun e => !xb ps ss e) l 0) (fun i => [(0, .ap 0 (tx l)), (1, .fn (.func 162) [] [.ai (eR ps ss)]), (7, .int .i64 l.length), (8, .int .i64 i)]) (fun _ => H) ⟨rfl, aA _ _ _⟩ fun i hi hI => ?_
 obtain ⟨e1, e2, e3, e4, e5, e6⟩ := mB.facts (l.getD i default)
 simp +contextual only [FJ, idx_eq, PD, e4, sZ, Nat.reduceEqDiff, Nat.reduceAdd, ↓reduceIte, reduceCtorEq]
 refine ⟨fun aY => ?_, fun iW => ?_⟩
 ·have aY := bZ aY
  have hm : l.getD i default ∈ l := by
   rw [List.getD_eq_getElem?_getD, List.getElem?_eq_getElem aY]; exact List.getElem_mem aY
  rw [yw aY] at hI
  refine ⟨aY, ae (Z9 ps ss _ hv (he _ hm)) ?_⟩
  cases hb : xb ps ss (l.getD i default) with
  | false =>
    rw [if_pos (by rw [hb]; rfl)] at hI
    simp +contextual only [Bool.not_false, sZ, Nat.reduceEqDiff, ↓reduceIte, reduceCtorEq]
    exact aW rfl (by rw [← hI])
  | true =>
    rw [if_neg (by rw [hb]; simp)] at hI
    simp +contextual only [Bool.not_true, sZ, Nat.reduceEqDiff, ↓reduceIte, reduceCtorEq]
    exact ⟨i + 1, ⟨aY, hI⟩, by omega, aG (by rw [au i (by omega)]) rfl⟩
 ·rw [List.drop_of_length_le (dl iW)] at hI
  exact aW rfl (by rw [← hI]; rfl)
structure Ty where
 s : Sg
 es : List mB
deriving Inhabited
def Ty.av (t : Ty) : AV := .agg [.ap 0 (strs t.s.aZ), .ap 0 (ot t.s.ops), .ap 0 (tx t.es)]
theorem Ty.facts (t : Ty) : t.av.val = true ∧ t.av.cells.length = 3 ∧ t.av.cells.all AV.one = true ∧ t.av.ab = t.av ∧ t.av.drop = t.av ∧ ∀ n, t.av.a7 n = true :=
 ⟨rfl, rfl, rfl, rfl, rfl, fun n => by simp [Ty.av, AV.a7, aj, vG, vF, Kx]⟩
theorem Kz (t : Ty) (φ : AV → Prop) : ak 0 (some 2) (.ai t.av) φ = φ (.ai t.s.av) := by simp [ak, apart, Ty.av, Sg.av, AV.cells]
theorem fY2 (t : Ty) (φ : AV → Prop) : ak 2 none (.ai t.av) φ = φ (.ai (.ap 0 (tx t.es))) := by simp [ak, apart, Ty.av, AV.cells, AV.one]
theorem fS1 (s : Sg) (φ : AV → Prop) : ak 1 none (.ai s.av) φ = φ (.ai (.ap 0 (ot s.ops))) := by simp [ak, apart, Sg.av, AV.cells, AV.one]
theorem mg (t : Ty) (H : List aa) (φ : AV → Prop) : aS (some 3) (.ai t.av) H φ = φ t.av := by simp [aS, Ty.av, AV.cells]
noncomputable def qK (t : Ty) (ps ss : List Int) : Int := pk (fun e => !xb ps ss e) t.es 0
theorem c89 (t : Ty) (ps ss : List Int) (hv : Va ps ss) (he : ∀ e ∈ t.es, Ky ps e) : Pure Tryz.prog 89 [t.av, eR ps ss] (.int .i64 (qK t ps ss)) := by
 refine fun H => k89.2.calls rfl ?_
 simp only [k89, aI]
 obtain ⟨q1, q2, q3, q4, q5, q6⟩ := bi ps ss
 obtain ⟨e1, e2, e3, e4, e5, e6⟩ := Ty.facts t
 simp +contextual only [q1, e1, fY2, sZ, Nat.reduceEqDiff, Nat.reduceAdd, ↓reduceIte, reduceCtorEq]
 refine ae (aaa ps ss t.es hv he) ?_
 simp +contextual only [sZ, ↓reduceIte, reduceCtorEq]
 exact aW rfl rfl
end Go.aK
end
section
set_option maxRecDepth 100000
set_option maxHeartbeats 0
namespace Go.aK
open Go Go.Proofs
noncomputable def PE := aI Tryz.call112 Tryz.func112 Tryz.ntmps112 [(0,0,1),(8,0,3001)] [(0,[1,2,3,4,8]),(1,[1,2,3,8,9]),(2,[1,2,3,8,10]),(3,[2,3,8,10,24,25,26]),(4,[2,3,8,10,24,25,26,27]),(5,[2,3,8,10,11,12,24,25,26]),(6,[2,3,8,10,24,25,26]),(7,[2,3,8,10,24,25,26]),(8,[8])] [(6,(.take 0 true (.take 1 true (.take 2 true (.take 6 true (.take 7 true (.take 8 true (.take 9 true (.take 10 true (.take 11 true (.take 12 true (.take 13 true (.take 14 true (.take 3 false (.take 5 false (.br 4 (.br 15 (.take 16 true (.br 17 .done .nil)) .nil) (.br 15 (.take 4 true (.take 16 true (.br 17 .done .nil))) .nil)))))))))))))))))]
end Go.aK
end
section
set_option maxRecDepth 100000
namespace Go.aK
open Go Go.Proofs Go.fq
def iS : List Int → List Int → List Int → List Int
 | l, i :: r, x :: s => iS (l.set i.toNat x) r s
 | l, _, _ => l
def pn (n : Nat) (ops pl : List Int) : List Int := iS (List.replicate n 255) ops pl
def sc (n : Nat) (ops st : List Int) : List Int := iS (List.replicate n 1) ops st
theorem vQ : ∀ (l r s : List Int), (iS l r s).length = l.length
 | l, [], _ => by cases l <;> rfl
 | l, _ :: _, [] => rfl
 | l, i :: r, x :: s => by rw [iS, vQ]; simp
theorem aab (t : Ty) (ops pl st : List Int) {vo vp vs : AV} (ho : IL vo ops) (hp : IL vp pl) (hs : IL vs st) (th : pl.length = ops.length) (nJ : st.length = ops.length) (hr : ∀ i ∈ ops, 0 ≤ i ∧ i < t.s.ops.length) (hn : t.s.ops.length ≤ 1000000000) (jJ : ops.length ≤ 1000000000) : Pure Tryz.prog 112 [t.av, vo, vp, vs] (eR (pn t.s.ops.length ops pl) (sc t.s.ops.length ops st)) := by
 refine fun H => PE.2.calls rfl ?_
 simp only [PE, aI]
 obtain ⟨e1, e2, e3, e4, e5, e6⟩ := Ty.facts t
 obtain ⟨a1, a2, a3, a4⟩ := ho.one
 obtain ⟨b1, b2, b3, b4⟩ := hp.one
 obtain ⟨c1, c2, c3, c4⟩ := hs.one
 simp +contextual only [e1, Kz, fS1, vE, sZ, Nat.reduceEqDiff, Nat.reduceAdd, ↓reduceIte, reduceCtorEq]
 intro _
 refine af (So 0 255 t.s.ops.length hn _) ?_
 rintro r G ⟨rfl, rfl⟩
 simp +contextual only [sZ, Nat.reduceEqDiff, Nat.reduceAdd, ↓reduceIte]
 refine af (So 0 1 t.s.ops.length hn _) ?_
 rintro r G ⟨rfl, rfl⟩
 simp +contextual only [sZ, Nat.reduceEqDiff, Nat.reduceAdd, ↓reduceIte]
 obtain ⟨n, hn'⟩ : ∃ n, n = t.s.ops.length := ⟨_, rfl⟩
 rw [← hn'] at hn hr ⊢
 have va : ∀ a b c d, (AV.bf a b c d).val = true := fun _ _ _ _ => rfl
 have vc : ∀ a b c d, (AV.bf a b c d).cells = [.bf a b c d] := fun _ _ _ _ => rfl
 have vo' : ∀ a b c d, (AV.bf a b c d).one = true := fun _ _ _ _ => rfl
 have vd : ∀ a b c d, (AV.bf a b c d).drop = .bf a b c d := fun _ _ _ _ => rfl
 have bdA : ∀ (a1 b1 c1 d1 a2 b2 c2 d2 : Nat) (φ : AV → Prop), cC [AV.ah, AV.ah] [(0, 1, .bf a1 b1 c1 d1), (1, 1, .bf a2 b2 c2 d2)] φ = φ (.agg [.bf a1 b1 c1 d1, .bf a2 b2 c2 d2]) := by
  intro a1 b1 c1 d1 a2 b2 c2 d2 φ
  simp only [cC, gI, eq_iff_iff]
  constructor
  ·rintro ⟨_, _, _, _, _, _, h⟩; exact h
  ·exact fun h => ⟨rfl, rfl, by simp, rfl, rfl, by simp [ag, AV.cells], h⟩
 have g3 : ∀ (a b c d : aa), [a, b, c, d][3]? = some d := fun _ _ _ _ => rfl
 have sp2 : ∀ (a b x y : AV), ag [a, b] 0 [x, y] = [x, y] := fun _ _ _ _ => rfl
 have lt1 : ∀ m : Nat, decide (m + 1 < m + 3 + 1) = true := fun m => by simp
 have lt2 : ∀ m : Nat, decide (m + 2 < m + 3 + 1) = true := fun m => by simp
 let S : List Int → List Int → List aa := fun P Q => H ++ [.cells [.ah, .ah], cN P, cN Q, .cells [.bf (H.length + 1) 0 n n, .bf (H.length + 2) 0 n n]]
 simp +contextual only [bdA, vo', g3, sp2, s3, lt1, lt2, Bool.and_self, a2, ho.aL, ho.len (by omega), sZ, Nat.reduceEqDiff, Nat.reduceAdd, ↓reduceIte]
 refine aN ops.length (fun j (s : List Int × List Int) => s.1.length = n ∧ s.2.length = n ∧ iS s.1 (ops.drop j) (pl.drop j) = pn n ops pl ∧ iS s.2 (ops.drop j) (st.drop j) = sc n ops st)
  (fun j s => [(2, vp), (3, vs), (8, .ptr H.length 0), (10, .ptr (H.length + 3) 0), (24, vo), (25, .int .i64 ops.length), (26, .int .i64 j)]) (fun j s => S s.1 s.2) (List.replicate n 255, List.replicate n 1) ⟨⟨by simp, by simp, rfl, rfl⟩, aA _ _ _⟩ fun j s hj hI => ?_
 obtain ⟨P, Q⟩ := s
 obtain ⟨hP, hQ, SQ, WT⟩ := hI
 simp only at hP hQ SQ WT
 by_cases hjo : (j : Int) < ops.length
 ·have nG : j < ops.length := by omega
  have hri := hr _ (aO nG)
  obtain ⟨x, hx⟩ := Int.eq_ofNat_of_zero_le hri.1
  have hxn : x < n := by omega
  have hxP : x < P.length := by omega
  have hxQ : x < Q.length := by omega
  simp +contextual only [S, hjo, decide_true, b2, c2, ho.lens, ho.idx, hp.lens, hp.idx, hs.lens, hs.idx, Int.toNat_natCast, hx, kr, g3, Ka hxP, Ka hxQ, sZ, Nat.reduceEqDiff, Nat.reduceAdd, Nat.reduceLT, ↓reduceIte, reduceCtorEq]
  have stp : ∀ (P q : List Int), q.length = ops.length → iS P (ops.drop j) (q.drop j) = iS (P.set x (q.getD j 0)) (ops.drop (j + 1)) (q.drop (j + 1)) := by
   intro P q hq
   have e1 : ops.drop j = ops.getD j 0 :: ops.drop (j + 1) := by rw [List.drop_eq_getElem_cons nG]; simp [nG]
   have hjq : j < q.length := by omega
   have e2 : q.drop j = q.getD j 0 :: q.drop (j + 1) := by rw [List.drop_eq_getElem_cons hjq]; simp [hjq]
   rw [e1, e2, iS, hx, Int.toNat_natCast]
  rw [stp P pl th] at SQ
  rw [stp Q st nJ] at WT
  have hgo : ∃ (j' : Nat) (t : List Int × List Int), (j' ≤ ops.length ∧ t.1.length = n ∧ t.2.length = n ∧ iS t.1 (ops.drop j') (pl.drop j') = pn n ops pl ∧ iS t.2 (ops.drop j') (st.drop j') = sc n ops st) ∧ ops.length - j' < ops.length - j ∧
   sle H.length [(2, vp), (3, vs), (8, .ptr H.length 0), (10, .ptr (H.length + 3) 0), (24, vo), (25, .int .i64 ops.length), (26, .int .i64 (IntKind.i64.wrap (j + 1)))]
    (H ++ [.cells [.ah, .ah], cN (P.set x (pl.getD j 0)), cN (Q.set x (st.getD j 0)), .cells [.bf (H.length + 1) 0 n n, .bf (H.length + 2) 0 n n]])
    [(2, vp), (3, vs), (8, .ptr H.length 0), (10, .ptr (H.length + 3) 0), (24, vo), (25, .int .i64 ops.length), (26, .int .i64 j')]
    (H ++ [.cells [.ah, .ah], cN t.1, cN t.2, .cells [.bf (H.length + 1) 0 n n, .bf (H.length + 2) 0 n n]]) :=
   ⟨j + 1, (P.set x (pl.getD j 0), Q.set x (st.getD j 0)), ⟨nG, by simp [hP], by simp [hQ], SQ, WT⟩, by omega, aG (by rw [au j (by omega)]) rfl⟩
  repeat' apply And.intro
  all_goals first | omega | exact hgo
 ·have Ww : j = ops.length := by omega
  subst Ww
  rw [List.drop_length] at SQ WT
  have eP : P = pn n ops pl := by rw [← SQ]; cases P <;> rfl
  have eQ : Q = sc n ops st := by rw [← WT]; cases Q <;> rfl
  simp +contextual only [JM, S, hjo, decide_false, g3, vd, sZ, Nat.reduceEqDiff, ↓reduceIte]
  have f1 : (H ++ [aa.cells [AV.ah, .ah], cN P, cN Q, .cells [.bf (H.length + 1) 0 n n, .bf (H.length + 2) 0 n n]])[H.length + 1]? = some (cN P) := by simp
  have f2 : ((H ++ [aa.cells [AV.ah, .ah], cN P, cN Q, .cells [.bf (H.length + 1) 0 n n, .bf (H.length + 2) 0 n n]]).set (H.length + 1) .dead)[H.length + 2]? = some (cN Q) := by rw [List.getElem?_set_ne (by omega)]; simp
  have fz1 : ∀ {id n : Nat} {l : List Int} {H : List aa} (h : H[id]? = some (cN l)) (hn : l.length = n) {K : AV → List aa → Prop} (hK : K (.ap 0 (ints l)) (H.set id .dead)), dD 1 (.bf id 0 n n) H K := fun h hn K hK => by subst hn; exact Cl h hK
  refine fz1 f1 hP ?_
  refine fz1 f2 hQ ?_
  have es : ((H ++ [aa.cells [AV.ah, .ah], cN P, cN Q, .cells [.bf (H.length + 1) 0 n n, .bf (H.length + 2) 0 n n]]).set (H.length + 1) .dead).set (H.length + 2) .dead = H ++ [aa.cells [AV.ah, .ah], .dead, .dead, .cells [.bf (H.length + 1) 0 n n, .bf (H.length + 2) 0 n n]] := by simp []
  rw [es]
  have fb : ∀ m, aj m [AV.ap 0 (ints P), .ap 0 (ints Q)] = true := fun m => by simp [bL, cZ, cW, bk]
  simp +contextual only [fb, sp2, Bool.and_self, sZ, Nat.reduceEqDiff, Nat.reduceAdd, ↓reduceIte, reduceCtorEq]
  rw [eP, eQ]
  exact Fj ((bi _ _).2.2.2.2.2 _) rfl
end Go.aK
end
section
set_option maxRecDepth 100000
namespace Go.aK
open Go Go.Proofs Go.fq
def gX (vals : List Int) : Nat → List (List Int)
 | 0 => [[]]
 | n + 1 => vals.flatMap fun x => (gX vals n).map (x :: ·)
def eG {σ : Type} (step : σ → List Int → σ × Bool) : List (List Int) → σ → σ × Bool
 | [], s => (s, true)
 | l :: r, s => if (step s l).2 = true then eG step r (step s l).1 else ((step s l).1, false)
theorem vR {σ : Type} {step : σ → List Int → σ × Bool} : ∀ (a b : List (List Int)) (s : σ), eG step (a ++ b) s = if (eG step a s).2 = true then eG step b (eG step a s).1 else ((eG step a s).1, false)
 | [], b, s => by simp [eG]
 | x :: a, b, s => by
   rw [List.cons_append, eG, eG]
   split
   ·exact vR a b _
   ·simp
def df (lo : Int) (n : Nat) : List Int := (List.range n).map fun i => lo + (i : Nat)
theorem Ey (lo : Int) (n : Nat) : df lo (n + 1) = df lo n ++ [lo + (n : Nat)] := by simp [df, List.range_succ]
theorem yx {lo x : Int} {n : Nat} : x ∈ df lo n ↔ lo ≤ x ∧ x < lo + n := by
 simp only [df, List.mem_map, List.mem_range]
 constructor
 ·rintro ⟨j, h, rfl⟩; omega
 ·intro h; exact ⟨(x - lo).toNat, by omega, by omega⟩
def FK (n : Nat) (id : Nat) (lo hi : Int) (q : Nat) : AV := .fn (.func 206) [] [.ai (.int .i64 n), .ai (.mC id), .ai (.int .i64 lo), .ai (.int .i64 hi), .ptr q 0]
structure YS {σ : Type} (n : Nat) (vals : List Int) (id : Nat) (St : σ → List aa) (Good : σ → Prop) (step : σ → List Int → σ × Bool) : Prop where
 y : ∀ l s X, l.length = n → (∀ x ∈ l, x ∈ vals) → Good s → jr Tryz.prog id [bo l] (St s ++ X) fun r H' => r = .bool (step s l).2 ∧ H' = St (step s l).1 ++ X
 Sw : ∀ l s, Good s → (step s l).2 = true → Good (step s l).1
 len : ∀ s s', (St s).length = (St s').length
theorem yy {σ : Type} {n : Nat} {vals : List Int} {id : Nat} {St : σ → List aa} {Good : σ → Prop} {step : σ → List Int → σ × Bool} (h : YS n vals id St Good step) : ∀ (a : List (List Int)) (s : σ), Good s → (eG step a s).2 = true → Good (eG step a s).1
 | [], s, hs, _ => hs
 | l :: r, s, hs, hr => by
   rw [eG] at hr ⊢
   split at hr
   ·rename_i h1
    rw [if_pos h1]
    exact yy h r _ (h.Sw l s hs h1) hr
   ·simp at hr
theorem N8 (l : List Int) (h : l ≠ []) : bo l = .ap 0 (ints l) := by cases l with
 | nil => exact absurd rfl h
 | cons a r => rfl
theorem WU (l : List Int) (hb : l.length * 8 ≤ 140737488355328) : Pure Tryz.prog 118 [bo l] (.ap 1 (ints l)) := by
 intro H
 cases l with
 | nil => exact xH H
 | cons a r => exact uY 0 (ints (a :: r)) H (of_eq_true (lO _)) (by rw [aw]; exact hb) (bk _ _)
theorem aac {σ : Type} {n : Nat} {lo hi : Int} (ui : -1000000 ≤ lo ∧ lo ≤ 1000000) (Ir : -1000000 ≤ hi ∧ hi ≤ 1000000) (hn : n ≤ 1000000) {id : Nat} {St : σ → List aa} {Good : σ → Prop} {step : σ → List Int → σ × Bool} (hy : YS n (df lo (hi + 1 - lo).toNat) id St Good step) (q : Nat) :
 ∀ (r : Nat) (l : List Int) (s : σ) (X : List aa), l.length + r = n → (∀ x ∈ l, x ∈ df lo (hi + 1 - lo).toNat) → Good s → (∀ s', (St s' ++ X)[q]? = some (.cells [FK n id lo hi q])) →
  aq Tryz.prog 206 [bo l, .ai (.int .i64 n), .ai (.mC id), .ai (.int .i64 lo), .ai (.int .i64 hi), .ptr q 0] (St s ++ X) fun rr H' => rr = .bool (eG step ((gX (df lo (hi + 1 - lo).toNat) r).map (l ++ ·)) s).2 ∧ H' = St (eG step ((gX (df lo (hi + 1 - lo).toNat) r).map (l ++ ·)) s).1 ++ X := by
 intro r
 induction r with
 | zero =>
   intro l s X hl hm hs hq
   refine Mm.2.calls rfl ?_
   simp only [Mm, aI]
   have ik : IL (bo l) l := .inl rfl
   obtain ⟨a1, a2, a3, a4, a5⟩ := aE l
   have e1 : ((l.length : Int) = (n : Int)) = True := eq_true (by omega)
   have lyld : ∀ (H : List aa) (φ : AV → Prop), aS none (.ai (.mC id)) H φ = φ (.mC id) := fun H φ => by simp [aS, AV.one, AV.ab]
   have e2 : eG step ((gX (df lo (hi + 1 - lo).toNat) 0).map (l ++ ·)) s = step s l := by
    simp only [gX, List.map_cons, List.map_nil, List.append_nil, eG]
    cases hb : (step s l).2 with
    | true => rw [if_pos rfl, ← hb]
    | false => rw [if_neg (by simp), ← hb]
   rw [e2]
   simp +contextual only [a2, ik.aL, ik.len (by omega), e1, decide_true, lyld, FH, sZ, Nat.reduceEqDiff, Nat.reduceAdd, ↓reduceIte, reduceCtorEq]
   refine yr (hy.y l s X (by omega) hm hs) ?_
   rintro rr H' ⟨rfl, rfl⟩
   simp +contextual only [sZ, ↓reduceIte, reduceCtorEq]
   refine aQ (St s ++ X).length (Nat.le_refl _) (by rw [ax, if_pos rfl]; rfl) ?_
   rw [ax, if_pos rfl]
   exact ⟨rfl, by rw [List.take_of_length_le (by rw [List.length_append, List.length_append, hy.len _ s]; exact Nat.le_refl _)]⟩
 | succ r ih =>
   intro l s X hl hm hs hq
   refine Mm.2.calls rfl ?_
   simp only [Mm, aI]
   have ik : IL (bo l) l := .inl rfl
   obtain ⟨a1, a2, a3, a4, a5⟩ := aE l
   have e1 : ((l.length : Int) = (n : Int)) = False := eq_false (by omega)
   have pS : ∀ (b : Bool) (s' : σ), bT (St s ++ X).length [.t 7] [(7, .bool b)] (St s' ++ X) fun rr H' => rr = .bool b ∧ H' = St s' ++ X := by
    intro b s'
    refine aQ (St s ++ X).length (Nat.le_refl _) (by rw [ax, if_pos rfl]; rfl) ?_
    rw [ax, if_pos rfl]
    exact ⟨rfl, by rw [List.take_of_length_le (by rw [List.length_append, List.length_append, hy.len _ s]; exact Nat.le_refl _)]⟩
   obtain ⟨m, Tc⟩ : ∃ m, m = (hi + 1 - lo).toNat := ⟨_, rfl⟩
   rw [← Tc] at ih hm ⊢
   obtain ⟨F, hF⟩ : ∃ F : Nat → List (List Int), F = fun k => (df lo k).flatMap fun x => (gX (df lo m) r).map fun y => l ++ x :: y := ⟨_, rfl⟩
   have hF0 : F 0 = [] := by rw [hF]; rfl
   have hFs : ∀ k, F (k + 1) = F k ++ (gX (df lo m) r).map ((l ++ [lo + (k : Nat)]) ++ ·) := by
    intro k
    rw [hF]
    simp only [Ey, List.flatMap_append, List.flatMap_cons, List.flatMap_nil, List.append_nil, List.append_assoc, List.cons_append, List.nil_append]
   have hFm : (gX (df lo m) (r + 1)).map (l ++ ·) = F m := by
    rw [hF, gX, List.map_flatMap]
    congr 1
    funext x
    rw [List.map_map]; rfl
   rw [hFm]
   simp +contextual only [a2, ik.aL, ik.len (by omega), e1, decide_false, sZ, Nat.reduceEqDiff, Nat.reduceAdd, ↓reduceIte, reduceCtorEq]
   refine aN m (fun k (_ : Unit) => (eG step (F k) s).2 = true) (fun k _ => [(0, bo l), (4, .ai (.int .i64 hi)), (5, .ptr q 0), (8, .int .i64 (lo + (k : Nat)))]) (fun k _ => St (eG step (F k) s).1 ++ X) () ⟨by rw [hF0]; rfl, aG (by simp) (by rw [hF0]; rfl)⟩ fun k _ hk hI => ?_
   have hg := yy hy (F k) s hs hI
   generalize Oz : (eG step (F k) s).1 = s1 at hg ⊢
   by_cases hkm : lo + (k : Int) ≤ hi
   ·have EQ : k < m := by omega
    have hql := hq s1
    simp +contextual only [hkm, decide_true, a2, sZ, Nat.reduceEqDiff, ↓reduceIte, reduceCtorEq]
    refine aH (WU l (by omega)) ?_
    have jK : ta 1 [AV.int .i64 (lo + (k : Int))] := of_eq_true (lO [_])
    have efn : (FK n id lo hi q).ab = .fn (.func 206) [] [.ai (.int .i64 n), .ai (.mC id), .ai (.int .i64 lo), .ai (.int .i64 hi), .ptr q 0] := rfl
    have ea : ints l ++ [AV.int .i64 (lo + (k : Int))] = ints (l ++ [lo + (k : Int)]) := by simp [ints]
    have ek : AV.ap 0 (ints (l ++ [lo + (k : Int)])) = bo (l ++ [lo + (k : Int)]) := by rw [N8 _ (by simp)]
    simp +contextual only [hql, efn, aw, jK, ea, ek, Fe, sZ, Nat.reduceEqDiff, Nat.reduceAdd, Nat.reduceLT, ↓reduceIte, reduceCtorEq]
    refine ⟨by omega, af (ih (l ++ [lo + (k : Int)]) s1 X (by simp; omega) (fun x hx => ?_) hg hq) ?_⟩
    ·rcases List.mem_append.1 hx with h | h
     ·exact hm x h
     ·simp only [List.mem_cons, List.not_mem_nil, or_false] at h
      subst h
      exact yx.2 ⟨by omega, by omega⟩
    rintro rr H' ⟨rfl, rfl⟩
    have bG : eG step (F (k + 1)) s = eG step ((gX (df lo m) r).map ((l ++ [lo + (k : Int)]) ++ ·)) s1 := by
     rw [hFs, vR, if_pos hI, Oz]
    cases hb : (eG step ((gX (df lo m) r).map ((l ++ [lo + (k : Int)]) ++ ·)) s1).2 with
    | true =>
      simp +contextual only [Bool.not_true, sZ, Nat.reduceEqDiff, ↓reduceIte, reduceCtorEq]
      refine ⟨k + 1, (), ⟨EQ, by rw [bG]; exact hb⟩, by omega, aG ?_ (by rw [bG])⟩
      rw [dY _ (by omega)]
      have : lo + (k : Int) + 1 = lo + ((k + 1 : Nat) : Int) := by omega
      rw [this]
    | false =>
      simp +contextual only [Bool.not_false, sZ, Nat.reduceEqDiff, ↓reduceIte, reduceCtorEq]
      have jm : eG step (F m) s = ((eG step ((gX (df lo m) r).map ((l ++ [lo + (k : Int)]) ++ ·)) s1).1, false) := by
       have e : ∃ R, F m = F (k + 1) ++ R := by
        have : ∀ d, ∃ R, F (k + 1 + d) = F (k + 1) ++ R := by
         intro d
         induction d with
         | zero => exact ⟨[], by simp⟩
         | succ d Yw =>
           obtain ⟨R, hR⟩ := Yw
           exact ⟨R ++ _, by rw [show k + 1 + (d + 1) = (k + 1 + d) + 1 by omega, hFs, hR, List.append_assoc]⟩
        obtain ⟨R, hR⟩ := this (m - (k + 1))
        exact ⟨R, by rw [← hR]; congr 1; omega⟩
       obtain ⟨R, hR⟩ := e
       rw [hR, vR, bG, hb, if_neg (by simp)]
      rw [jm]
      exact pS false _
   ·have hke : k = m := by omega
    simp +contextual only [hkm, decide_false, sZ, Nat.reduceEqDiff, ↓reduceIte, reduceCtorEq]
    rw [← hke, hI, Oz]
    exact pS true s1
theorem WV {σ : Type} {n : Nat} {lo hi : Int} (ui : -1000000 ≤ lo ∧ lo ≤ 1000000) (Ir : -1000000 ≤ hi ∧ hi ≤ 1000000) (hn : n ≤ 1000000) {id : Nat} {St : σ → List aa} {Good : σ → Prop} {step : σ → List Int → σ × Bool} (hy : YS n (df lo (hi + 1 - lo).toNat) id St Good step) (bm : ∀ s, id < (St s).length) (s : σ) (hs : Good s) :
 aq Tryz.prog 205 [.mC id, .ai (.int .i64 n), .ai (.int .i64 lo), .ai (.int .i64 hi)] (St s) fun rr H' => rr = .tuple [] ∧ H' = St (eG step (gX (df lo (hi + 1 - lo).toNat) n) s).1 := by
 refine U1.2.calls rfl ?_
 simp only [U1, aI]
 have aeF := bm s
 have vy : (AV.mC id).val = true := rfl
 have cy : (AV.mC id).cells = [.mC id] := rfl
 have oy : (AV.mC id).one = true := rfl
 have by' : ∀ m, (AV.mC id).a7 m = decide (id < m) := fun m => by simp [AV.a7]
 have d1 : decide (id < (St s).length + 1) = true := decide_eq_true (by omega)
 have d2' : decide ((St s).length < (St s).length + 1) = true := decide_eq_true (by omega)
 have efn : (FK n id lo hi (St s).length).ab = .fn (.func 206) [] [.ai (.int .i64 n), .ai (.mC id), .ai (.int .i64 lo), .ai (.int .i64 hi), .ptr (St s).length 0] := rfl
 simp +contextual only [vy, by', d1, d2', Bool.and_self, YL, sZ, Nat.reduceEqDiff, Nat.reduceAdd, Nat.reduceLT, ↓reduceIte, reduceCtorEq]
 have h := aac ui Ir hn hy (St s).length n [] s [.cells [FK n id lo hi (St s).length]] (by simp) (fun x hx => by cases hx) hs (fun s' => by rw [← hy.len s' s]; simp)
 have em : (gX (df lo (hi + 1 - lo).toNat) n).map ([] ++ ·) = gX (df lo (hi + 1 - lo).toNat) n := by simp
 rw [em] at h
 refine af h ?_
 rintro rr H' ⟨rfl, rfl⟩
 simp +contextual only [sZ, reduceCtorEq]
 refine ⟨(St s).length, Nat.le_refl _, [], trivial, rfl, rfl, ?_⟩
 rw [hy.len s _, List.take_left]
theorem WW (n : Nat) (lo hi : Int) : Pure Tryz.prog 166 [.int .i64 n, .int .i64 lo, .int .i64 hi] (.fn (.func 205) [] [.ai (.int .i64 n), .ai (.int .i64 lo), .ai (.int .i64 hi)]) := by
 refine fun H => UI.2.calls rfl ?_
 simp only [UI, aI]
 simp +contextual only [sZ, Nat.reduceEqDiff, Nat.reduceAdd, ↓reduceIte, reduceCtorEq]
 exact aW rfl rfl
end Go.aK
end
section
set_option maxRecDepth 100000
namespace Go.aK
open Go Go.Proofs Go.fq
theorem aad (x : Int) (r : List Int) (hl : r.length ≤ 1000000000) : Pure Tryz.prog 207 [.ap 0 (ints (x :: r))] (.int .i64 (r.foldl max x)) := by
 refine fun H => U2.2.calls rfl ?_
 simp only [U2, aI]
 have ix : IL (.ap 0 (ints (x :: r))) (x :: r) := .inr rfl
 have n1 : (((x :: r).length : Int) < 1) = False := eq_false (by simp; omega)
 have g0' : (x :: r).getD (0 : Int).toNat 0 = x := rfl
 have ll : (x :: r).length ≤ 1000000001 := by simp; omega
 generalize fp : x :: r = xs at *
 have dS : 0 < xs.length := by rw [← fp]; simp
 simp +contextual only [ix.aL, ix.len (by omega), n1, decide_false, ix.lens, ix.idx, g0', sZ, Nat.reduceEqDiff, Nat.reduceAdd, ↓reduceIte, reduceCtorEq]
 refine ⟨by omega, ?_⟩
 have hsplit : ∀ j, j ≤ r.length → (r.take j).foldl max x = ((xs.take (j + 1)).drop 1).foldl max x := by intro j _; rw [← fp]; simp
 refine aB r.length (fun j => True) (fun j => [(0, .ap 0 (ints xs)), (3, .int .i64 ((r.take j).foldl max x)), (4, .int .i64 ((j + 1 : Nat) : Int))]) (fun _ => H) ⟨trivial, aA _ _ _⟩ fun j hj _ => ?_
 have Ik : xs.length = r.length + 1 := by rw [← fp]; simp
 by_cases hjr : j < r.length
 ·have n2 : (((j + 1 : Nat) : Int) < xs.length) = True := eq_true (by omega)
  have gj : xs.getD (j + 1) 0 = r.getD j 0 := by rw [← fp]; simp
  have tk : (r.take (j + 1)).foldl max x = max ((r.take j).foldl max x) (r.getD j 0) := by
   rw [List.take_succ_eq_append_getElem hjr, List.foldl_append]
   simp [hjr]
  simp +contextual only [ix.aL, ix.len (by omega), n2, decide_true, ix.lens, ix.idx, Int.toNat_natCast, gj, sZ, Nat.reduceEqDiff, ↓reduceIte, reduceCtorEq]
  exact ⟨by omega, j + 1, hjr, by omega, aG (by rw [dY _ (by omega), tk]; rfl) rfl⟩
 ·have e : j = r.length := by omega
  subst e
  have n2 : (((r.length + 1 : Nat) : Int) < xs.length) = False := eq_false (by omega)
  simp +contextual only [ix.aL, ix.len (by omega), n2, decide_false, sZ, Nat.reduceEqDiff, ↓reduceIte, reduceCtorEq]
  exact aW rfl (by rw [List.take_length])
theorem aaf (l : List Int) {v : AV} (h : IL v l) (hl : l.length ≤ 1000000000) (y : Int) : Pure Tryz.prog 111 [v, .int .i64 y] (.int .i64 (pk (fun z => decide (y = z)) l 0)) := by
 refine fun H => Uf.2.calls rfl ?_
 simp only [Uf, aI]
 obtain ⟨a1, a2, a3, a4⟩ := h.one
 simp +contextual only [a2, h.aL, h.len (by omega), sZ, Nat.reduceEqDiff, Nat.reduceAdd, ↓reduceIte, reduceCtorEq]
 refine aB l.length (fun i => pk (fun z => decide (y = z)) (l.drop i) i = pk (fun z => decide (y = z)) l 0) (fun i => [(0, v), (1, .int .i64 y), (7, .int .i64 l.length), (8, .int .i64 i)]) (fun _ => H) ⟨rfl, aA _ _ _⟩ fun i hi hI => ?_
 by_cases tA : i < l.length
 ·have n1 : ((i : Int) < l.length) = True := eq_true (by omega)
  rw [yw tA] at hI
  have egd : l.getD i default = l.getD i 0 := by simp [tA]
  rw [egd] at hI
  simp +contextual only [n1, decide_true, a2, h.lens, h.idx, Int.toNat_natCast, sZ, Nat.reduceEqDiff, ↓reduceIte, reduceCtorEq]
  refine ⟨by omega, fun he => ?_, fun dS => ?_⟩
  ·rw [if_pos (by simpa using he)] at hI
   exact aW rfl (by rw [← hI])
  ·rw [if_neg (by simpa using dS)] at hI
   exact ⟨i + 1, ⟨tA, hI⟩, by omega, aG (by rw [au i (by omega)]) rfl⟩
 ·have n1 : ((i : Int) < l.length) = False := eq_false (by omega)
  rw [List.drop_of_length_le (by omega)] at hI
  simp +contextual only [n1, decide_false, sZ, Nat.reduceEqDiff, ↓reduceIte, reduceCtorEq]
  exact aW rfl (by rw [← hI]; rfl)
theorem FL {α : Type} {p : α → Bool} : ∀ (l : List α) (i : Nat), 0 ≤ pk p l i ↔ ∃ x ∈ l, p x = true
 | [], i => by simp [pk]
 | x :: r, i => by
   rw [pk]
   by_cases h : p x = true
   ·rw [if_pos h]; exact ⟨fun _ => ⟨x, by simp, h⟩, fun _ => by omega⟩
   ·rw [if_neg h, FL r (i + 1)]
    simp [h]
theorem aag (l : List Int) {v : AV} (h : IL v l) (hl : l.length ≤ 1000000000) (y : Int) : Pure Tryz.prog 208 [v, .int .i64 y] (.bool (decide (y ∈ l))) := by
 refine fun H => U4.2.calls rfl ?_
 simp only [U4, aI]
 obtain ⟨a1, a2, a3, a4⟩ := h.one
 simp +contextual only [a2, sZ, Nat.reduceEqDiff, Nat.reduceAdd, ↓reduceIte, reduceCtorEq]
 refine ae (aaf l h hl y) ?_
 simp +contextual only [sZ, ↓reduceIte, reduceCtorEq]
 refine aW rfl ?_
 congr 1
 rw [decide_eq_decide, FL]
 simp
def CJ (l : List Int) : Int := l.foldl max (-1)
def nB (l : List Int) : Bool := (List.range (CJ l + 1).toNat).all fun j => decide ((j : Int) ∈ l)
theorem foldl_max : ∀ (l : List Int) (x b : Int), x ≤ b → (∀ y ∈ l, y ≤ b) → x ≤ l.foldl max x ∧ l.foldl max x ≤ b
 | [], x, b, h, _ => ⟨Int.le_refl _, h⟩
 | y :: r, x, b, h, hr => by
   have h1 := hr y (by simp)
   have := foldl_max r (max x y) b (by omega) (fun z hz => hr z (by simp [hz]))
   rw [List.foldl_cons]; omega
theorem aah (l : List Int) {v : AV} (h : IL v l) (hl : l.length ≤ 100000000) (hb : ∀ x ∈ l, x ≤ 1000000) : Pure Tryz.prog 167 [v] (.bool (nB l)) := by
 refine fun H => UJ.2.calls rfl ?_
 simp only [UJ, aI]
 obtain ⟨a1, a2, a3, a4⟩ := h.one
 have T1 : ∀ ψ : List AV → Prop, bE 1 8 (.ap 1 [.int .i64 (-1)]) v ψ = ψ (ints (-1 :: l)) := by
  intro ψ
  have hr : dz v = some (ints l) := by
   rcases h with rfl | rfl
   ·cases l <;> rfl
   ·rfl
  have hal : ma 1 (.ap 1 [.int .i64 (-1)]) = some [.int .i64 (-1)] := rfl
  have ok : ta 1 (ints l) := of_eq_true (lO l)
  simp only [bE, hal, hr, eq_iff_iff]
  exact ⟨fun h => h.2.2, fun k => ⟨by simp [aw]; omega, ok, k⟩⟩
 have hm := foldl_max l (-1) 1000000 (by omega) hb
 simp +contextual only [a2, T1, sZ, Nat.reduceEqDiff, Nat.reduceAdd, ↓reduceIte, reduceCtorEq]
 refine ae (aad (-1) l (by omega)) ?_
 have em : l.foldl max (-1) = CJ l := rfl
 rw [em] at hm ⊢
 have hw : IntKind.i64.wrap (CJ l + 1) = CJ l + 1 := dY _ (by omega)
 simp +contextual only [hw, sZ, Nat.reduceEqDiff, ↓reduceIte, reduceCtorEq]
 refine aB (CJ l + 1).toNat (fun j => ∀ i, i < j → (i : Int) ∈ l) (fun j => [(0, v), (8, .int .i64 (CJ l + 1)), (9, .int .i64 j)]) (fun _ => H) ⟨fun i hi => by omega, aA _ _ _⟩ fun j hj hI => ?_
 by_cases hjm : (j : Int) < CJ l + 1
 ·simp +contextual only [hjm, decide_true, a2, sZ, Nat.reduceEqDiff, Nat.reduceAdd, ↓reduceIte, reduceCtorEq]
  refine ae (aag l h (by omega) j) ?_
  by_cases Iv : (j : Int) ∈ l
  ·simp +contextual only [Iv, decide_true, Bool.not_true, sZ, Nat.reduceEqDiff, ↓reduceIte, reduceCtorEq]
   refine ⟨j + 1, ⟨by omega, fun i hi => ?_⟩, by omega, aG (by rw [au j (by omega)]) rfl⟩
   by_cases e : i = j
   ·subst e; exact Iv
   ·exact hI i (by omega)
  ·simp +contextual only [Iv, decide_false, Bool.not_false, sZ, Nat.reduceEqDiff, ↓reduceIte, reduceCtorEq]
   refine aW rfl ?_
   congr 1
   have : nB l = false := by
    unfold nB
    rw [List.all_eq_false]
    exact ⟨j, List.mem_range.2 (by omega), by simpa using Iv⟩
   rw [this]
 ·have e : j = (CJ l + 1).toNat := by omega
  simp +contextual only [hjm, decide_false, sZ, Nat.reduceEqDiff, ↓reduceIte, reduceCtorEq]
  refine aW rfl ?_
  congr 1
  have : nB l = true := by
   unfold nB
   rw [List.all_eq_true]
   intro i hi
   exact decide_eq_true (hI i (by rw [e]; exact List.mem_range.1 hi))
  rw [this]
end Go.aK
end
section
set_option maxRecDepth 100000
namespace Go.aK
open Go Go.Proofs Go.fq
open Classical in
noncomputable def vS (t : Ty) (ops pl st : List Int) : Bool := decide (iR t.s (pn t.s.ops.length ops pl) (sc t.s.ops.length ops st) = 0 ∧ qK t (pn t.s.ops.length ops pl) (sc t.s.ops.length ops st) < 0)
abbrev Fo := Option (List Int × List Int)
noncomputable def dn (t : Ty) (ops pl : List Int) (s : Fo) (st : List Int) : Fo × Bool := if vS t ops pl st = true then (some (pn t.s.ops.length ops pl, sc t.s.ops.length ops st), false) else (s, true)
noncomputable def eS (t : Ty) (ops : List Int) (s : Fo) (pl : List Int) : Fo × Bool := if nB pl = true then eG (dn t ops pl) (gX (df 1 3) ops.length) s else (s, true)
noncomputable def xc (t : Ty) (ops : List Int) : Fo := (eG (eS t ops) (gX (df 0 ops.length) ops.length) none).1
def o4 (s : Fo) : aa := match s with | none => .cells [.ah, .ah] | some (P, S) => .cells [.ap 0 (ints P), .ap 0 (ints S)]
def o5 (s : Fo) : aa := .cells [.bool s.isSome]
noncomputable def iz (s : Fo) : S8 := if s.isSome = true then .jump .ret else .ready
theorem Ap : a8.n = 41 := by kernel_rfl
theorem Aq : bA.n = 41 := by kernel_rfl
theorem vU : a8.ps = [15] := by kernel_rfl
theorem vV : bA.ps = [22] := by kernel_rfl
theorem KA {n0 id : Nat} {R : AV → List aa → Prop} {H : List aa} {lc : ig} {es : List AV} (h : H[id]? = some (.loop .busy lc es)) : pR n0 id R .ret H = Gx n0 false (H.set id (.loop (.jump .ret) lc es)) R := by
 unfold pR; rw [h]
theorem CK {id : Nat} {H : List aa} {K : Option Code → List aa → Prop} {lc : ig} {es : List AV} {c : Code} (h : H[id]? = some (.loop (.jump c) lc es)) : behind id H K = K (some c) (H.set id (.loop .ew lc es)) := by
 unfold behind; rw [h]
theorem Ar (t : Ty) (ops pl : List Int) : ∀ (a : List (List Int)) (s : Fo), s = none → (eG (dn t ops pl) a s).2 = (eG (dn t ops pl) a s).1.isNone
 | [], s, h => by subst h; rfl
 | l :: r, s, h => by
   subst h
   rw [eG]
   by_cases ht : vS t ops pl l = true
   ·have e : dn t ops pl none l = (some (pn t.s.ops.length ops pl, sc t.s.ops.length ops l), false) := if_pos ht
    rw [e]; rfl
   ·have e : dn t ops pl none l = (none, true) := if_neg ht
    rw [e]
    exact Ar t ops pl r none rfl
structure As (t : Ty) : Prop where
 n : t.s.ops.length ≤ 1000000000
 eq : ∀ e ∈ t.es, ∀ ps : List Int, ps.length = t.s.ops.length → Ky ps e
theorem KB (n : Nat) (ops pl : List Int) : (pn n ops pl).length = n := by unfold pn; rw [vQ]; simp
theorem tY (A : List aa) (x : aa) (Y : List aa) (k : Nat) (h : A.length = k) : (A ++ x :: Y)[k]? = some x := by subst h; simp
theorem tZ (A : List aa) (x y : aa) (Y : List aa) (k : Nat) (h : A.length = k) : (A ++ x :: Y).set k y = A ++ y :: Y := by subst h; simp
def eU (H W : List aa) (s : Fo) : List aa := H ++ o4 s :: o5 s :: W
theorem eF (H W : List aa) (s : Fo) : (eU H W s).length = H.length + 2 + W.length := by simp [eU]; omega
theorem PF (H W Y : List aa) (s : Fo) : (eU H W s ++ Y)[H.length]? = some (o4 s) := by rw [List.getElem?_append_left (by rw [eF]; omega)]; simp [eU]
theorem PG (H W Y : List aa) (s : Fo) : (eU H W s ++ Y)[H.length + 1]? = some (o5 s) := by rw [List.getElem?_append_left (by rw [eF]; omega)]; simp [eU]
theorem SR (H W Y : List aa) (s : Fo) (P S : List Int) : ((eU H W s ++ Y).set H.length (.cells [.ap 0 (ints P), .ap 0 (ints S)])).set (H.length + 1) (.cells [.bool true]) = eU H W (some (P, S)) ++ Y := by
 rw [List.set_append_left _ _ (by rw [eF]; omega), List.set_append_left _ _ (by rw [List.length_set, eF]; omega)]
 simp [eU, o4, o5]
theorem SS {s : Sg} {ps ss : List Int} (h : iR s ps ss = 0) : Va ps ss := (vI.1 h).2.va
theorem KC {t : Ty} (ht : As t) {ops : List Int} {vo : AV} (ho : IL vo ops) (hr : ∀ i ∈ ops, 0 ≤ i ∧ i < t.s.ops.length) (jJ : ops.length ≤ 1000000) {pl : List Int} (wm : pl.length = ops.length) (H W : List aa) (es : List AV) (yR : es = kg 41 [(2, .ai t.av), (3, .ai vo), (4, .ptr H.length 0), (5, .ptr (H.length + 1) 0), (6, .ai (bo pl)), (21, .fn (.func 205) [] [.ai (.int .i64 ops.length), .ai (.int .i64 1), .ai (.int .i64 3)])])
 (l : List Int) (hl : l.length = ops.length) (Y : List aa) (id : Nat) (bm : id = H.length + 2 + W.length) :
 jr Tryz.prog id [bo l] (eU H W none ++ .loop .ready bA es :: Y) fun r H' => r = .bool (dn t ops pl none l).2 ∧ H' = eU H W (dn t ops pl none l).1 ++ .loop (iz (dn t ops pl none l).1) bA es :: Y := by
 have ees : es = [.any, .any, .ai t.av, .ai vo, .ptr H.length 0, .ptr (H.length + 1) 0, .ai (bo pl), .any, .any, .any, .any, .any, .any, .any, .any, .any, .any, .any, .any, .any, .any, .fn (.func 205) [] [.ai (.int .i64 ops.length), .ai (.int .i64 1), .ai (.int .i64 3)], .any, .any, .any, .any, .any, .any, .any, .any, .any, .any, .any, .any, .any, .any, .any, .any, .any, .any, .any] := by rw [yR]; rfl
 have hk : ∀ s, (eU H W s).length = id := fun s => by rw [eF, bm]
 have e0 : ∀ s st, (eU H W s ++ aa.loop st bA es :: Y)[id]? = some (.loop st bA es) := fun s st => tY _ _ _ _ (hk s)
 have fV : ∀ s st st', (eU H W s ++ aa.loop st bA es :: Y).set id (.loop st' bA es) = eU H W s ++ aa.loop st' bA es :: Y := fun s st st' => tZ _ _ _ _ _ (hk s)
 have hlen : ∀ s st, (eU H W s ++ aa.loop st bA es :: Y).length = (eU H W none ++ aa.loop .ready bA es :: Y).length := fun s st => by rw [List.length_append, List.length_append, hk, hk]; rfl
 refine nP (lc := bA) (es := es) (e0 none .ready) Qn Qo ⟨by rw [ees, Aq]; rfl, by rw [vV]; rfl, by rw [vV, Aq]; rfl, ?_, ?_⟩ (vN ?_)
 ·rw [ees]; intro x hx; simp only [List.mem_cons, List.not_mem_nil, or_false] at hx
  repeat' (first | (rcases hx with hx | hx; · subst hx; rfl) | (subst hx; rfl))
 ·intro x hx; simp only [List.mem_cons, List.not_mem_nil, or_false] at hx; subst hx; exact (aE l).2.1
 ·have ez : (bA.ps.zip [bo l]).reverse ++ bV 0 es = (22, bo l) :: bV 0 es := by rw [vV]; rfl
  rw [ez]
  generalize xd : bV 0 es = ea
  have g2 : get ea 2 = .ai t.av := by rw [← xd, ees]; rfl
  have g3 : get ea 3 = .ai vo := by rw [← xd, ees]; rfl
  have g4 : get ea 4 = .ptr H.length 0 := by rw [← xd, ees]; rfl
  have g5 : get ea 5 = .ptr (H.length + 1) 0 := by rw [← xd, ees]; rfl
  have g6 : get ea 6 = .ai (bo pl) := by rw [← xd, ees]; rfl
  simp only [IW, IY]
  have hb : ∀ K, jA id (eU H W none ++ .loop .ready bA es :: Y) K = K (eU H W none ++ .loop .busy bA es :: Y) := fun K => by rw [rY (e0 none .ready), fV]
  obtain ⟨e1, e2, e3, e4, e5, e6⟩ := Ty.facts t
  obtain ⟨a1, a2, a3, a4⟩ := ho.one
  obtain ⟨b1, b2, b3, b4, b5⟩ := aE pl
  obtain ⟨c1, c2, c3, c4, c5⟩ := aE l
  have lvo : ∀ (H : List aa) (φ : AV → Prop), aS none (.ai vo) H φ = φ vo := fun H φ => by simp [aS, a1, a2]
  obtain ⟨q1, q2, q3, q4, q5, q6⟩ := bi (pn t.s.ops.length ops pl) (sc t.s.ops.length ops l)
  simp +contextual only [g2, g3, g4, g5, g6, c2, hb, mg, lvo, bS, b2, a2, e4, sZ, Nat.reduceEqDiff, Nat.reduceAdd, ↓reduceIte]
  refine ae (aab t ops pl l ho (.inl rfl) (.inl rfl) wm hl hr ht.n (by omega)) ?_
  generalize hP : pn t.s.ops.length ops pl = P at *
  generalize hS : sc t.s.ops.length ops l = S at *
  simp +contextual only [aC, q1, q2, q3, q4, Kz, cv, sZ, Nat.reduceEqDiff, Nat.reduceAdd, ↓reduceIte]
  refine ae (ZH t.s P S) ?_
  have endN : ∀ n0, n0 = id + (Y.length + 1) → dn t ops pl none l = (none, true) → pR n0 id (fun r H' => r = .bool (dn t ops pl none l).2 ∧ H' = eU H W (dn t ops pl none l).1 ++ .loop (iz (dn t ops pl none l).1) bA es :: Y) .normal (eU H W none ++ .loop .busy bA es :: Y) := by
   intro n0 LI bP
   rw [Et (e0 none .busy), fV, bP]
   refine ⟨by rw [hlen, List.length_append, hk]; simp; omega, rfl, ?_⟩
   rw [List.take_of_length_le (by rw [hlen, List.length_append, hk]; simp; omega)]
   rfl
  have endR : ∀ n0, n0 = id + (Y.length + 1) → dn t ops pl none l = (some (P, S), false) → pR n0 id (fun r H' => r = .bool (dn t ops pl none l).2 ∧ H' = eU H W (dn t ops pl none l).1 ++ .loop (iz (dn t ops pl none l).1) bA es :: Y) .ret (eU H W (some (P, S)) ++ .loop .busy bA es :: Y) := by
   intro n0 LI bP
   rw [KA (e0 _ .busy), fV, bP]
   refine ⟨by rw [hlen, List.length_append, hk]; simp; omega, rfl, ?_⟩
   rw [List.take_of_length_le (by rw [hlen, List.length_append, hk]; simp; omega)]
   rfl
  by_cases h0 : iR t.s P S = 0
  ·simp +contextual only [h0, mg, cv, e4, q4, sZ, Nat.reduceEqDiff, Nat.reduceAdd, ↓reduceIte]
   refine ae (c89 t P S (SS h0) (fun e he => ht.eq e he P (by rw [← hP]; exact KB _ _ _))) ?_
   by_cases h1 : qK t P S < 0
   ·have bP : dn t ops pl none l = (some (P, S), false) := by
     rw [dn, if_pos (by rw [vS, hP, hS]; exact decide_eq_true ⟨h0, h1⟩), hP, hS]
    have k4 := PF H W (.loop .busy bA es :: Y) none
    have k5 : ∀ o, ((eU H W none ++ .loop .busy bA es :: Y).set H.length o)[H.length + 1]? = some (o5 none) := fun o => by rw [List.getElem?_set_ne (by omega), PG]
    have ks := SR H W (.loop .busy bA es :: Y) none P S
    have o4n : o4 none = .cells [.ah, .ah] := rfl
    have o5n : o5 none = .cells [.bool false] := rfl
    rw [o4n] at k4
    simp only [o5n] at k5
    have qu : (eR P S).cells.map AV.ab = [.ap 0 (ints P), .ap 0 (ints S)] := rfl
    have sp2 : ∀ (a b x y : AV), ag [a, b] 0 [x, y] = [x, y] := fun _ _ _ _ => rfl
    have fb : ∀ m, aj m [AV.ap 0 (ints P), .ap 0 (ints S)] = true := fun m => by simp [bL, cZ, cW, bk]
    simp +contextual only [h1, decide_true, cv, k4, k5, ks, q1, q2, q3, qu, sp2, fb, Bool.and_self, sZ, Nat.reduceEqDiff, Nat.reduceAdd, ↓reduceIte]
    first
     | exact endR _ (by rw [hk]) bP
     | exact endR _ (by rw [hlen, List.length_append, hk]; rfl) bP
   ·simp +contextual only [h1, decide_false, sZ, Nat.reduceEqDiff, ↓reduceIte]
    have bP : dn t ops pl none l = (none, true) := by
     rw [dn, if_neg (by rw [vS, hP, hS]; simp [h1])]
    exact endN _ (by rw [hk]) bP
  ·simp +contextual only [h0, decide_false, sZ, Nat.reduceEqDiff, ↓reduceIte]
   have bP : dn t ops pl none l = (none, true) := by
    rw [dn, if_neg (by rw [vS, hP, hS]; simp [h0])]
   exact endN _ (by rw [hk]) bP
end Go.aK
end
section
set_option maxRecDepth 100000
namespace Go.aK
open Go Go.Proofs Go.fq
theorem ysI {t : Ty} (ht : As t) {ops : List Int} {vo : AV} (ho : IL vo ops) (hr : ∀ i ∈ ops, 0 ≤ i ∧ i < t.s.ops.length) (jJ : ops.length ≤ 1000000) {pl : List Int} (wm : pl.length = ops.length) (H W : List aa) (es : List AV) (yR : es = kg 41 [(2, .ai t.av), (3, .ai vo), (4, .ptr H.length 0), (5, .ptr (H.length + 1) 0), (6, .ai (bo pl)), (21, .fn (.func 205) [] [.ai (.int .i64 ops.length), .ai (.int .i64 1), .ai (.int .i64 3)])]) :
 YS ops.length (df 1 ((3 : Int) + 1 - 1).toNat) (H.length + 2 + W.length) (fun s : Fo => eU H W s ++ [.loop (iz s) bA es]) (fun s => s = none) (dn t ops pl) := by
 refine ⟨fun l s X hl _ hs => ?_, fun l s hs bP => ?_, fun s s' => ?_⟩
 ·subst hs
  have := KC ht ho hr jJ wm H W es yR l hl X _ rfl
  have el : iz none = .ready := rfl
  refine fa.mono (by simpa [el, jr] using this) fun r H' h => ?_
  refine ⟨h.1, ?_⟩
  rw [h.2]; simp
 ·subst hs
  unfold dn at *
  split at bP
  ·cases bP
  ·rename_i h; rw [if_neg h]
 ·simp [eF]
theorem KD {vals : List Int} : ∀ {n : Nat} {l : List Int}, l ∈ gX vals n → l.length = n ∧ ∀ x ∈ l, x ∈ vals
 | 0, l, h => by
   simp only [gX, List.mem_cons, List.not_mem_nil, or_false] at h
   subst h; exact ⟨rfl, fun x hx => by cases hx⟩
 | n + 1, l, h => by
   simp only [gX, List.mem_flatMap, List.mem_map] at h
   obtain ⟨x, hx, y, hy, rfl⟩ := h
   obtain ⟨h1, h2⟩ := KD hy
   exact ⟨by simp [h1], fun z hz => by
    rcases List.mem_cons.1 hz with rfl | hz
    ·exact hx
    ·exact h2 z hz⟩
theorem KE {t : Ty} (ht : As t) {ops : List Int} {vo : AV} (ho : IL vo ops) (hr : ∀ i ∈ ops, 0 ≤ i ∧ i < t.s.ops.length) (jJ : ops.length ≤ 1000000) (H : List aa) (es : List AV) (yR : es = kg 41 [(2, .ai t.av), (3, .ai vo), (4, .ptr H.length 0), (5, .ptr (H.length + 1) 0), (14, .fn (.func 205) [] [.ai (.int .i64 ops.length), .ai (.int .i64 0), .ai (.int .i64 ((ops.length : Int) - 1))])])
 (pl : List Int) (wm : pl.length = ops.length) (kq : ∀ x ∈ pl, x ≤ 1000000) (Y : List aa) :
 jr Tryz.prog (H.length + 2) [bo pl] (eU H [] none ++ .loop .ready a8 es :: Y) fun r H' => r = .bool (eS t ops none pl).2 ∧ H' = eU H [] (eS t ops none pl).1 ++ .loop (iz (eS t ops none pl).1) a8 es :: Y := by
 have ees : es = [.any, .any, .ai t.av, .ai vo, .ptr H.length 0, .ptr (H.length + 1) 0, .any, .any, .any, .any, .any, .any, .any, .any, .fn (.func 205) [] [.ai (.int .i64 ops.length), .ai (.int .i64 0), .ai (.int .i64 ((ops.length : Int) - 1))], .any, .any, .any, .any, .any, .any, .any, .any, .any, .any, .any, .any, .any, .any, .any, .any, .any, .any, .any, .any, .any, .any, .any, .any, .any, .any] := by rw [yR]; rfl
 have hk : ∀ s, (eU H [] s).length = H.length + 2 := fun s => by rw [eF]; rfl
 have e0 : ∀ s st Y, (eU H [] s ++ aa.loop st a8 es :: Y)[H.length + 2]? = some (.loop st a8 es) := fun s st Y => tY _ _ _ _ (hk s)
 have fV : ∀ s st st' Y, (eU H [] s ++ aa.loop st a8 es :: Y).set (H.length + 2) (.loop st' a8 es) = eU H [] s ++ aa.loop st' a8 es :: Y := fun s st st' Y => tZ _ _ _ _ _ (hk s)
 refine nP (lc := a8) (es := es) (e0 none .ready Y) Qp Qq ⟨by rw [ees, Ap]; rfl, by rw [vU]; rfl, by rw [vU, Ap]; rfl, ?_, ?_⟩ (vN ?_)
 ·rw [ees]; intro x hx; simp only [List.mem_cons, List.not_mem_nil, or_false] at hx
  repeat' (first | (rcases hx with hx | hx; · subst hx; rfl) | (subst hx; rfl))
 ·intro x hx; simp only [List.mem_cons, List.not_mem_nil, or_false] at hx; subst hx; exact (aE pl).2.1
 ·have ez : (a8.ps.zip [bo pl]).reverse ++ bV 0 es = (15, bo pl) :: bV 0 es := by rw [vU]; rfl
  rw [ez]
  generalize xd : bV 0 es = ea
  have g2 : get ea 2 = .ai t.av := by rw [← xd, ees]; rfl
  have g3 : get ea 3 = .ai vo := by rw [← xd, ees]; rfl
  have g4 : get ea 4 = .ptr H.length 0 := by rw [← xd, ees]; rfl
  have g5 : get ea 5 = .ptr (H.length + 1) 0 := by rw [← xd, ees]; rfl
  simp only [IZ, I0]
  have hb : ∀ K, jA (H.length + 2) (eU H [] none ++ .loop .ready a8 es :: Y) K = K (eU H [] none ++ .loop .busy a8 es :: Y) := fun K => by rw [rY (e0 none .ready Y), fV]
  obtain ⟨a1, a2, a3, a4⟩ := ho.one
  obtain ⟨b1, b2, b3, b4, b5⟩ := aE pl
  have lvo : ∀ (H : List aa) (φ : AV → Prop), aS none (.ai vo) H φ = φ vo := fun H φ => by simp [aS, a1, a2]
  have ip : IL (bo pl) pl := .inl rfl
  have hlen : (eU H [] none ++ .loop .ready a8 es :: Y).length = H.length + 2 + (Y.length + 1) := by rw [List.length_append, hk]; rfl
  have endN : ∀ n0 Z, n0 = H.length + 2 + (Y.length + 1) → eS t ops none pl = (none, true) → pR n0 (H.length + 2) (fun r H' => r = .bool (eS t ops none pl).2 ∧ H' = eU H [] (eS t ops none pl).1 ++ .loop (iz (eS t ops none pl).1) a8 es :: Y) .normal (eU H [] none ++ .loop .busy a8 es :: (Y ++ Z)) := by
   intro n0 Z LI bP
   rw [Et (e0 none .busy _), fV, bP]
   refine ⟨by rw [List.length_append, hk]; simp; omega, rfl, ?_⟩
   rw [LI, ← hlen, show eU H [] none ++ aa.loop .ready a8 es :: (Y ++ Z) = (eU H [] none ++ aa.loop .ready a8 es :: Y) ++ Z by simp, List.take_left]
   rfl
  have endR : ∀ n0 Z s, n0 = H.length + 2 + (Y.length + 1) → eS t ops none pl = (s, false) → s.isSome = true → pR n0 (H.length + 2) (fun r H' => r = .bool (eS t ops none pl).2 ∧ H' = eU H [] (eS t ops none pl).1 ++ .loop (iz (eS t ops none pl).1) a8 es :: Y) .ret (eU H [] s ++ .loop .busy a8 es :: (Y ++ Z)) := by
   intro n0 Z s LI bP hs
   have hlen2 : (eU H [] s ++ .loop (.jump .ret) a8 es :: Y).length = H.length + 2 + (Y.length + 1) := by rw [List.length_append, hk]; rfl
   rw [KA (e0 _ .busy _), fV, bP]
   refine ⟨by rw [List.length_append, hk]; simp; omega, rfl, ?_⟩
   rw [LI, ← hlen2, show eU H [] s ++ aa.loop (.jump .ret) a8 es :: (Y ++ Z) = (eU H [] s ++ aa.loop (.jump .ret) a8 es :: Y) ++ Z by simp, List.take_left]
   have : iz s = .jump .ret := if_pos hs
   rw [this]
  simp +contextual only [g2, g3, g4, g5, hb, bS, b1, b2, b4, b5, sZ, Nat.reduceEqDiff, Nat.reduceAdd, ↓reduceIte]
  refine ae (aah pl ip (by omega) kq) ?_
  cases hd : nB pl with
  | false =>
    have bP : eS t ops none pl = (none, true) := by rw [eS, if_neg (by rw [hd]; simp)]
    simp +contextual only [Bool.not_false, sZ, Nat.reduceEqDiff, ↓reduceIte]
    have := endN ((eU H [] none).length + (Y.length + 1)) [] (by rw [hk]) bP
    rwa [List.append_nil] at this
  | true =>
    have bP : eS t ops none pl = eG (dn t ops pl) (gX (df 1 3) ops.length) none := by rw [eS, if_pos hd]
    simp +contextual only [Bool.not_true, lvo, ho.aL, ho.len (by omega), sZ, Nat.reduceEqDiff, Nat.reduceAdd, ↓reduceIte]
    refine ae (WW ops.length 1 3) ?_
    simp +contextual only [lN, sZ, Nat.reduceEqDiff, ↓reduceIte]
    obtain ⟨W, hW⟩ : ∃ W, W = aa.loop .busy a8 es :: Y := ⟨_, rfl⟩
    have hH2 : eU H [] none ++ aa.loop .busy a8 es :: Y = eU H W none := by rw [hW]; simp [eU]
    have hA : ∀ s, eU H W s = eU H [] s ++ aa.loop .busy a8 es :: Y := fun s => by rw [hW]; simp [eU]
    obtain ⟨esI, WX⟩ : ∃ esI, esI = kg 41 [(2, AV.ai t.av), (3, .ai vo), (4, .ptr H.length 0), (5, .ptr (H.length + 1) 0), (6, .ai (bo pl)), (21, .fn (.func 205) [] [.ai (.int .i64 ops.length), .ai (.int .i64 1), .ai (.int .i64 3)])] := ⟨_, rfl⟩
    have ys := ysI ht ho hr jJ wm H W esI WX
    have pD : (3 : Int) + 1 - 1 = 3 := rfl
    have hvt : ((3 : Int)).toNat = 3 := rfl
    rw [pD, hvt] at ys
    have KF := WV (n := ops.length) (lo := 1) (hi := 3) (by omega) (by omega) jJ (Good := fun s : Fo => s = none) (hy := by rw [pD, hvt]; exact ys) (fun s => by simp [eF]) none rfl
    rw [pD, hvt] at KF
    rw [hH2]
    have eln : (eU H W none).length = H.length + 2 + W.length := eF H W none
    refine rX (P := Tryz.prog) (R := fun r H' => r = .tuple [] ∧ H' = eU H W (eG (dn t ops pl) (gX (df 1 3) ops.length) none).1 ++ [.loop (iz (eG (dn t ops pl) (gX (df 1 3) ops.length) none).1) bA esI]) 205 [] _ bA _ _ _ Tryz.call205 ?_ ?_
    ·rw [Aq, ← WX, eln]
     exact KF
    ·have h2 := Ar t ops pl (gX (df 1 3) ops.length) none rfl
     rintro r H' ⟨rfl, rfl⟩
     generalize TQ : (eG (dn t ops pl) (gX (df 1 3) ops.length) none).1 = s' at h2
     have WY : eS t ops none pl = (s', s'.isNone) := by rw [bP]; exact Prod.ext TQ h2
     rw [eln]
     have eget : ∀ st, (eU H W s' ++ [aa.loop st bA esI])[H.length + 2 + W.length]? = some (.loop st bA esI) := fun st => tY _ _ _ _ (eF H W s')
     have eset : ∀ st st', (eU H W s' ++ [aa.loop st bA esI]).set (H.length + 2 + W.length) (.loop st' bA esI) = eU H W s' ++ [.loop st' bA esI] := fun st st' => tZ _ _ _ _ _ (eF H W s')
     cases s' with
     | none =>
       have el : iz none = .ready := rfl
       rw [el, vM (eget _), eset]
       simp +contextual only [oS]
       have := endN ((eU H [] none).length + (Y.length + 1)) [.loop .ew bA esI] (by rw [hk]) WY
       rw [hA]
       simpa using this
     | some o =>
       have el : iz (some o) = .jump .ret := rfl
       rw [el, CK (eget _), eset]
       simp +contextual only [oS]
       have := endR ((eU H [] none).length + (Y.length + 1)) [.loop .ew bA esI] (some o) (by rw [hk]) WY rfl
       rw [hA]
       simpa using this
end Go.aK
end
section
set_option maxRecDepth 100000
namespace Go.aK
open Go Go.Proofs Go.fq
theorem ysO {t : Ty} (ht : As t) {ops : List Int} {vo : AV} (ho : IL vo ops) (hr : ∀ i ∈ ops, 0 ≤ i ∧ i < t.s.ops.length) (jJ : ops.length ≤ 1000000) (H : List aa) (es : List AV) (yR : es = kg 41 [(2, .ai t.av), (3, .ai vo), (4, .ptr H.length 0), (5, .ptr (H.length + 1) 0), (14, .fn (.func 205) [] [.ai (.int .i64 ops.length), .ai (.int .i64 0), .ai (.int .i64 ((ops.length : Int) - 1))])]) :
 YS ops.length (df 0 ops.length) (H.length + 2) (fun s : Fo => eU H [] s ++ [.loop (iz s) a8 es]) (fun s => s = none) (eS t ops) := by
 refine ⟨fun l s X hl hm hs => ?_, fun l s hs bP => ?_, fun s s' => ?_⟩
 ·subst hs
  have := KE ht ho hr jJ H es yR l hl (fun x hx => by have := yx.1 (hm x hx); omega) X
  have el : iz none = .ready := rfl
  refine fa.mono (by simpa [el, jr] using this) fun r H' h => ?_
  refine ⟨h.1, ?_⟩
  rw [h.2]; simp
 ·subst hs
  have h2 : (eS t ops none l).2 = (eS t ops none l).1.isNone := by
   unfold eS
   split
   ·exact Ar t ops l _ none rfl
   ·rfl
  rw [bP] at h2
  exact Option.isNone_iff_eq_none.1 h2.symm
 ·simp [eF]
def foA (s : Fo) : AV := match s with | none => eR [] [] | some (P, S) => eR P S
theorem FM (n0 s s' : Nat) (sz sz' : Option Nat) (env : Env) (H : List aa) (R : AV → List aa → Prop) : bT n0 [.c s sz, .c s' sz'] env H R = aS sz (get env s) H fun x => aS sz' (get env s') H fun y => sT n0 [x, y] H R := _root_.id rfl
theorem c93 {t : Ty} (ht : As t) {ops : List Int} {vo : AV} (ho : IL vo ops) (hr : ∀ i ∈ ops, 0 ≤ i ∧ i < t.s.ops.length) (jJ : ops.length ≤ 1000000) : Pure Tryz.prog 93 [t.av, vo] (.tuple [foA (xc t ops), .bool (xc t ops).isSome]) := by
 refine fun H => YH.calls rfl ?_
 simp only [Ub, Ua]
 obtain ⟨e1, e2, e3, e4, e5, e6⟩ := Ty.facts t
 obtain ⟨a1, a2, a3, a4⟩ := ho.one
 have lvo : ∀ (H : List aa) (φ : AV → Prop), aS none (.ai vo) H φ = φ vo := fun H φ => by simp [aS, a1, a2]
 have zf2 : List.map AV.ab [AV.ah, .ah] = [.ah, .ah] := rfl
 have zb2 : ∀ n, aj n [AV.ah, .ah] = true := fun _ => rfl
 have hw : IntKind.i64.wrap ((ops.length : Int) - 1) = (ops.length : Int) - 1 := dY _ (by omega)
 simp +contextual only [e1, a3, lvo, zf2, zb2, ho.aL, ho.len (by omega), hw, sZ, Nat.reduceEqDiff, Nat.reduceAdd, ↓reduceIte, reduceCtorEq]
 refine ae (WW ops.length 0 ((ops.length : Int) - 1)) ?_
 simp +contextual only [lN, sZ, Nat.reduceEqDiff, ↓reduceIte, reduceCtorEq]
 have hA0 : H ++ [aa.cells [AV.ah, .ah], .cells [.bool false]] = eU H [] none := rfl
 rw [hA0]
 obtain ⟨esO, yR⟩ : ∃ esO, esO = kg 41 [(2, AV.ai t.av), (3, .ai vo), (4, .ptr H.length 0), (5, .ptr (H.length + 1) 0), (14, .fn (.func 205) [] [.ai (.int .i64 ops.length), .ai (.int .i64 0), .ai (.int .i64 ((ops.length : Int) - 1))])] := ⟨_, rfl⟩
 have ys := ysO ht ho hr jJ H esO yR
 have hv : ((ops.length : Int) - 1 + 1 - 0).toNat = ops.length := by omega
 have KF := WV (n := ops.length) (lo := 0) (hi := (ops.length : Int) - 1) (by omega) (by omega) jJ (Good := fun s : Fo => s = none) (hy := by rw [hv]; exact ys) (fun s => by simp [eF]) none rfl
 rw [hv] at KF
 have eln : ∀ s, (eU H [] s).length = H.length + 2 := fun s => eF H [] s
 refine rX (P := Tryz.prog) (R := fun r H' => r = .tuple [] ∧ H' = eU H [] (xc t ops) ++ [.loop (iz (xc t ops)) a8 esO]) 205 [] _ a8 _ _ _ Tryz.call205 ?_ ?_
 ·rw [Ap, ← yR, eln]
  exact KF
 ·rintro r H' ⟨rfl, rfl⟩
  generalize xc t ops = s'
  have eget : ∀ st, (eU H [] s' ++ [aa.loop st a8 esO])[H.length + 2]? = some (.loop st a8 esO) := fun st => tY _ _ _ _ (eln s')
  have eset : ∀ st st', (eU H [] s' ++ [aa.loop st a8 esO]).set (H.length + 2) (.loop st' a8 esO) = eU H [] s' ++ [.loop st' a8 esO] := fun st st' => tZ _ _ _ _ _ (eln s')
  have k4 := PF H [] [.loop .ew a8 esO] s'
  have k5 := PG H [] [.loop .ew a8 esO] s'
  have htk : (eU H [] s' ++ [aa.loop .ew a8 esO]).take H.length = H := by rw [List.take_append_of_le_length (by rw [eln]; omega), eU, List.take_left]
  have sp2 : ∀ (a b x y : AV), ag [a, b] 0 [x, y] = [x, y] := fun _ _ _ _ => rfl
  rw [eln]
  cases s' with
  | none =>
    have el : iz none = .ready := rfl
    rw [el, vM (eget _), eset]
    have o4n : o4 none = .cells [.ah, .ah] := rfl
    have o5n : o5 none = .cells [.bool false] := rfl
    rw [o4n] at k4
    rw [o5n] at k5
    have k4s := fun o => List.getElem?_set_self (a := o) (aM k4)
    have k5s : ∀ o, ((eU H [] none ++ [aa.loop .ew a8 esO]).set H.length o)[H.length + 1]? = some (.cells [.bool false]) := fun o => by rw [List.getElem?_set_ne (by omega)]; exact k5
    have k5t : ∀ o o', (((eU H [] none ++ [aa.loop .ew a8 esO]).set H.length o).set (H.length + 1) o')[H.length + 1]? = some o' := fun o o' => List.getElem?_set_self (by rw [List.length_set]; exact aM k5)
    have k4t : ∀ o o', (((eU H [] none ++ [aa.loop .ew a8 esO]).set H.length o).set (H.length + 1) o')[H.length]? = some o := fun o o' => by rw [List.getElem?_set_ne (by omega)]; exact k4s o
    have aal : ∀ o o', (((eU H [] none ++ [aa.loop .ew a8 esO]).set H.length o).set (H.length + 1) o').take H.length = H := fun o o' => by rw [List.take_set_of_le (by omega), List.take_set_of_le (by omega), htk]
    simp +contextual only [oS, k4, k5s, k4t, k5t, zf2, zb2, sp2, FM, sZ, Nat.reduceEqDiff, Nat.reduceAdd, Nat.reduceLT, ↓reduceIte, reduceCtorEq]
    exact O9 (aal _ _) ((bi [] []).2.2.2.2.2 _) rfl rfl rfl ⟨rfl, rfl⟩
  | some o =>
    obtain ⟨P, S⟩ := o
    have el : iz (some (P, S)) = .jump .ret := rfl
    rw [el, CK (eget _), eset]
    have o4n : o4 (some (P, S)) = .cells [.ap 0 (ints P), .ap 0 (ints S)] := rfl
    have o5n : o5 (some (P, S)) = .cells [.bool true] := rfl
    rw [o4n] at k4
    rw [o5n] at k5
    simp +contextual only [oS, k4, k5, FM, sZ, Nat.reduceEqDiff, Nat.reduceAdd, Nat.reduceLT, ↓reduceIte, reduceCtorEq]
    exact O9 htk ((bi P S).2.2.2.2.2 _) rfl rfl rfl ⟨rfl, rfl⟩
end Go.aK
end
section
set_option maxRecDepth 100000
set_option maxHeartbeats 0
namespace Go.aK
open Go Go.Proofs
noncomputable def WZ := aI Tryz.call75 Tryz.func75 Tryz.ntmps75 [(0,0,1),(5,2,1000),(6,0,1),(6,7,2),(6,8,1),(7,6,2),(7,9,2),(9,0,6004)] [(0,[1,2]),(1,[1,6]),(2,[1,6,7]),(3,[6,7,15,16,17]),(4,[6,7,15,16,17,18]),(5,[6,7,9,15,16,17]),(6,[6,7,9,15,16,17]),(7,[6,7,15,16,17]),(8,[6,7,15,16,17]),(9,[4,5])] [(7,(.take 1 true (.take 2 true (.take 3 true (.take 4 true (.take 5 true (.take 0 false (.br 6 (.take 7 true (.take 8 true (.br 9 .done .nil))) .nil))))))))]
end Go.aK
end
