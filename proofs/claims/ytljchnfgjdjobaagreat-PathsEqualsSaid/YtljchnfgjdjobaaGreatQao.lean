/- Part 15 of 18 of the proof. -/
import Derived.Test.YtljchnfgjdjobaaGreatQan
import Derived.Test.YtljchnfgjdjobaaGreatQag
import Derived.KernelRfl
set_option linter.unusedVariables false
set_option linter.unusedSimpArgs false
set_option linter.defProp false
set_option linter.unusedSectionVars false
section
set_option maxRecDepth 100000
namespace Go.aK
open Go Go.Proofs Go.fE
theorem Wu {c : Cx} (hc : c.Ok) {i k : Int} (hi : c.dF i) (hk : c.dF k) (hR : R c.O (c.tm i) (c.tm k)) (hr : gA c i k 3) (jH : ∀ m, m < 3 → ¬ gA c i k m) (hp : ∀ y ∈ c.kd k, R c.O (c.tm i) (c.tm y) → ox c i y) (Su : ∀ x ∈ c.kd i, ∀ y ∈ c.kd k, R c.O (c.tm x) (c.tm y) → ox c x y) : ox c i k := by
 intro H hD
 refine Cr.2.calls rfl ?_
 simp only [Cr, aI]
 have k2 : ∀ l, (bn l).ab = bn l := fun l => (aD l).2.1
 have ki := hc.kids i hi
 have kk := hc.kids k hk
 have l1 := hc.kl i hi
 have l2 := hc.kl k hk
 obtain ⟨a1, a2, a3, a4, a5⟩ := aD (c.kd i)
 obtain ⟨b1, b2, b3, b4, b5⟩ := aD (c.kd k)
 have ii : IL (bn (c.kd i)) (c.kd i) := .inl rfl
 have ik : IL (bn (c.kd k)) (c.kd k) := .inl rfl
 have ei : (c.nd.getD i.toNat default).snd = c.kd i := rfl
 have ek : (c.nd.getD k.toNat default).snd = c.kd k := rfl
 obtain ⟨m1, m2, m3⟩ := hD.lt
 have ed : ∀ X : List aa, (H ++ X)[c.d]? = H[c.d]? := fun X => List.getElem?_append_left m1
 have spv : ∀ x : AV, ag [AV.ah] 0 [x] = [x] := fun x => rfl
 have spq : ag [AV.int .i64 0, .int .i64 0, .ah, .ah] 0 [AV.int .i64 0, .int .i64 0, .ah, .ah] = [AV.int .i64 0, .int .i64 0, .ah, .ah] := rfl
 simp +contextual only [sZ, Nat.reduceEqDiff, Nat.reduceAdd, ↓reduceIte, reduceCtorEq]
 refine kS (K1 := fun e G => get e 1 = .int .i64 i ∧ get e 3 = .ai (.ptr c.d 0) ∧ get e 5 = .ai (.int .i64 k) ∧ get e 6 = .ptr H.length 0 ∧ ∃ x y, get e 7 = .ptr x 0 ∧ get e 8 = .ptr y 0 ∧ XY H x y ∧ PA c H x y i k G) ?_ ?_
 ·have P0 : aa := .cells [.int .i64 0, .int .i64 0, .ah, .ah]
  have A : ∃ x y, AV.ptr (H.length + 1) 0 = .ptr x 0 ∧ AV.ptr (H.length + 2) 0 = .ptr y 0 ∧ XY H x y ∧ PA c H x y i k (H ++ [.cells [.int .i64 0, .int .i64 0, .ah, .ah], .cells [bn (c.kd i)], .cells [bn (c.kd k)]]) :=
   ⟨_, _, rfl, rfl, ⟨by omega, by omega, by omega, by omega⟩, ⟨hD.rI _, by simp, by simp, by simp, by simp, fun j hj _ _ => List.getElem?_append_left hj⟩⟩
  have B : ∃ x y, AV.ptr (H.length + 2) 0 = .ptr x 0 ∧ AV.ptr (H.length + 1) 0 = .ptr y 0 ∧ XY H x y ∧ PA c H x y i k (H ++ [.cells [.int .i64 0, .int .i64 0, .ah, .ah], .cells [bn (c.kd k)], .cells [bn (c.kd i)]]) :=
   ⟨_, _, rfl, rfl, ⟨by omega, by omega, by omega, by omega⟩, ⟨hD.rI _, by simp, by simp, by simp, by simp, fun j hj _ _ => List.getElem?_append_left hj⟩⟩
  simp +contextual only [ed, hD.d, lT, CM, ct, bS, k2, ei, ek, a1, a3, a4, a5, b1, b3, b4, b5, List.map_cons, List.map_nil, spv, List.all_cons, List.all_nil, Bool.and_true, bL, cV, sZ, Nat.reduceEqDiff, Nat.reduceAdd, Nat.reduceLT, ↓reduceIte]
  refine ⟨hi, ?_⟩
  repeat' apply And.intro
  all_goals first | exact hk.1 | exact hk.2 | exact A | exact B
 ·rintro e G ⟨e1, e3, e5, e6, x, y, e7, e8, w, Ad⟩
  simp +contextual only [e1, e3, e5, e6, e7, e8, sZ, Nat.reduceEqDiff, ↓reduceIte]
  refine aN 2 (fun m (G : List aa) => PA c H x y i k G)
   (fun m G => [(1, .int .i64 i), (3, .ai (.ptr c.d 0)), (5, .ai (.int .i64 k)), (6, .ptr H.length 0), (7, .ptr x 0), (8, .ptr y 0), (9, .int .i64 ((m + 1 : Nat) : Int))]) (fun m G => G) G ⟨Ad, aA _ _ _⟩ fun m G hm Ad => ?_
  have hf : dN.cells[m + 1]? = some (.fn (.func (182 + (m + 1))) [] []) := by
   have : m = 0 ∨ m = 1 ∨ m = 2 ∨ m = 3 := by omega
   rcases this with rfl | rfl | rfl | rfl <;> rfl
  have en := Tf (m + 1) _ hf (by omega)
  simp +contextual only [sZ]
  refine aF JU ?_
  simp +contextual only [lM, en _ rfl, sZ, Nat.reduceEqDiff, Nat.reduceAdd, ↓reduceIte, reduceCtorEq]
  refine af ((tO hc hi hk).at (n := m + 1) (by omega) (by omega) Ad.du) ?_
  rintro r G1 ⟨z, rfl, hz, hU, mB⟩
  have pn := Ad.call hD w hU mB
  by_cases OV : m = 2
  rotate_left
  ·have : z = false := by
    cases z with
    | false => rfl
    | true => exact absurd (hz.1 rfl) (jH (m + 1) (by omega))
   subst this
   simp +contextual only [Bool.not_false, sZ, Nat.reduceEqDiff, ↓reduceIte]
   exact ⟨m + 1, G1, ⟨by omega, pn⟩, by omega, aH (by rw [au (m + 1) (by omega)]) rfl⟩
  subst OV
  have : z = true := hz.2 hr
  subst this
  have wW := pn.len
  have ko := fun es => pn.rI w es
  have Sr := fun es => (ko es).gp
  have Ns := fun es => (ko es).gx
  have Wq := fun es => (ko es).gy
  have bP : ∀ (o o' : aa), (G1 ++ [o]).set (H.length + 3) o' = G1 ++ [o'] := fun o o' => by rw [← wW]; simp
  have ec : ((3 : Nat) : Int) = 3 := rfl
  have zf : List.map AV.ab [AV.int .i64 (3 : Int), .int .i64 0, .ah, .ah] = [.int .i64 (3 : Int), .int .i64 0, .ah, .ah] := rfl
  have zf0 : List.map AV.ab [AV.int .i64 0, .int .i64 0, .ah, .ah] = [.int .i64 0, .int .i64 0, .ah, .ah] := rfl
  have e86 : ∀ a b : Int, decide (a = b) = decide (a = b) := fun _ _ => rfl
  simp +contextual only [decide_true, decide_false, Bool.not_true, Bool.not_true, XJ, wW, Sr, bP, ec, zf, zf0, Hv, sZ, Nat.reduceEqDiff, Nat.reduceAdd, ↓reduceIte, Int.reduceEq]
  have lY := ko [.int .i64 3, .int .i64 0, .ah, .ah]
  generalize G1 ++ [aa.cells [AV.int .i64 3, .int .i64 0, .ah, .ah]] = G2 at lY ⊢
  have ki2 : (c.tm i).k = 2 := (qt.1 hR).1
  have Za : zU c i k := by
   rcases hr with h | h | h | h
   ·exact absurd h.1 (by decide)
   ·exact absurd h.1 (by decide)
   ·exact h.2
   ·exact absurd h.1 (by decide)
  obtain ⟨J8, Ab, hall0, n0, ZP, YL, Xw⟩ := Za
  have Kd := jT.1 J8
  have kk2 : (c.tm k).k = 2 := Kd.2.1
  have osi : dq c i = c.O.sp (c.O.pl (c.tm i).n) := by rw [dq, if_pos ki2]
  have hx : side (c.O.sp (c.O.pl (c.tm i).n)) (c.tm i).l = (bD (dq c i) (c.kd i)).map c.tm := by rw [← osi, ← ki.1, jd]
  have hy : side (c.O.sp (c.O.pl (c.tm i).n)) (c.tm k).l = (bD (dq c i) (c.kd k)).map c.tm := by rw [← osi, ← kk.1, jd]
  have lx : (bD (dq c i) (c.kd i)).length = (c.kd i).length := jb
  have ly : (bD (dq c i) (c.kd k)).length = (c.kd k).length := jb
  have nx : ∀ z ∈ bD (dq c i) (c.kd i), z ∈ c.kd i := fun z hz => og.1 hz
  have ny : ∀ z ∈ bD (dq c i) (c.kd k), z ∈ c.kd k := fun z hz => og.1 hz
  have hS : ∀ (n : Nat) (l : List PP), Sh c.O (.mk 3 n [] l) (c.tm i) (c.tm k) ↔ Ci (E c.O) (Sh c.O) n l (c.tm i) ((bD (dq c i) (c.kd i)).map c.tm) ((bD (dq c i) (c.kd k)).map c.tm) (c.tm k).l := by
   intro n l
   rw [Sh3 rfl ki2, hx, hy]
   rw [osi] at Ab
   exact ⟨fun h => h.2.2.2.2, fun h => ⟨rfl, kk2, Kd.2.2, Ab, h⟩⟩
  refine af (ph hc hi lY.du) ?_
  rintro r G3 ⟨rfl, rfl⟩
  have gx0 := lY.gx
  have gy0 := lY.gy
  simp +contextual only [k2, dr, fe, ff, fg, gx0, sZ, Nat.reduceEqDiff, Nat.reduceAdd, Nat.reduceLT, ↓reduceIte]
  refine aF (Hc (c.kd i) (dq c i) (by omega)) ?_
  simp +contextual only [k2, gy0, sZ, Nat.reduceEqDiff, Nat.reduceAdd, Nat.reduceLT, ↓reduceIte]
  refine aF (Hc (c.kd k) (dq c i) (by omega)) ?_
  generalize bD (dq c i) (c.kd i) = xs at *
  generalize bD (dq c i) (c.kd k) = ys at *
  have ix : IL (.ap 0 (ints xs)) xs := .inr rfl
  have iy : IL (.ap 0 (ints ys)) ys := .inr rfl
  simp +contextual only [sZ, Nat.reduceEqDiff, Nat.reduceAdd, ↓reduceIte, reduceCtorEq]
  refine af (VT ix iy (by omega) (by omega) (fun z hz z' HL => jC hc (ki.2 z (nx z hz)) (kk.2 z' (ny z' HL))) lY.du) ?_
  rintro r G4 ⟨n, rfl, hn, Tc, Td⟩
  have en0 := hn.R4 ZP
  subst en0
  have vF := lY.call hD w Tc Td
  have gp4 := vF.gp
  have pB := fun es => vF.set (es' := es) hD w
  have gps := fun es => (pB es).gp
  have gxs := fun es => (pB es).gx
  have gys := fun es => (pB es).gy
  have un1 : List.map AV.ab [AV.int .i64 (n : Int)] = [.int .i64 (n : Int)] := rfl
  have hLS : ∀ l, Ci (E c.O) (Sh c.O) n l (c.tm i) (xs.map c.tm) (ys.map c.tm) (c.tm k).l ↔ (if (n : Int) = ys.length then kT (Sh c.O) l (c.tm i) ((c.kd k).map c.tm) else ∃ q r, l = q :: r ∧ Sh c.O q (c.tm (xs.getD n 0)) (c.tm (ys.getD n 0)) ∧ kT (Sh c.O) r (c.tm i) ((c.kd k).map c.tm)) := by
   intro l
   rw [Wl (kd := c.kd k) kk.1]
   have h1 : (0 : Int) ≤ n ∧ (n : Int) < xs.length ∧ (n : Int) ≤ ys.length := ⟨by omega, by omega, by have := hn.lb; omega⟩
   have h2 : ∀ j, j < (n : Int).toNat → E c.O (c.tm (xs.getD j 0)) (c.tm (ys.getD j 0)) := fun j hj => hn.eq j (by omega)
   rw [Int.toNat_natCast]
   exact ⟨fun h => h.2.2, fun h => ⟨h1, h2, h⟩⟩
  by_cases hny : n < ys.length
  ·have n4 : ((n : Int) < ys.length) = True := eq_true (by omega)
   simp +contextual only [decide_true, gp4, Sq, un1, gps, iy.aL, iy.len (by omega), n4, ix.idx, iy.idx, ix.lens, iy.lens, Int.toNat_natCast, d3, s3, List.set_set, sZ, Nat.reduceEqDiff, Nat.reduceAdd, Nat.reduceLT, Nat.reduceLeDiff, ↓reduceIte, reduceCtorEq]
   have mx := nx _ (aO (l := xs) (i := n) (by omega))
   have my := ny _ (aO hny)
   have Dj : ox c (xs.getD n 0) (ys.getD n 0) := Su _ mx _ my (Xw.resolve_left (by omega))
   have Ss : ∀ u qs, Sh c.O u (c.tm (xs.getD n 0)) (c.tm (ys.getD n 0)) → kT (Sh c.O) qs (c.tm i) ((c.kd k).map c.tm) → Sh c.O (.mk 3 n [] (u :: qs)) (c.tm i) (c.tm k) := by
    intro u qs hu hq
    rw [hS, hLS, if_neg (by omega)]; exact ⟨u, qs, rfl, hu, hq⟩
   repeat' apply And.intro
   all_goals first | omega | skip
   all_goals
    refine af (Dj _ (pB _).du) ?_
    rintro r G5 ⟨u, rfl, hu, Wr, Ws⟩
    replace Ss := fun qs => Ss u qs hu
    have Kc := (pB _).call hD w Wr Ws
    have gp5 := Kc.gp
    have El := fun es => Kc.set (es' := es) hD w
    have gps6 := fun es => (El es).gp
    have gys6 := fun es => (El es).gy
    obtain ⟨u1, u2, u3, u4, u5, u6, u7, u8, u9⟩ := aW u
    have ap1 : ∀ ψ, bE 4 64 .ah (.ap 0 [dQ u]) ψ = ψ (dP ([] ++ [u])) := fun ψ => Cs [] u (by simp) 0 ψ
    have ea : dP ([] ++ [u]) = [dQ u] := rfl
    rw [ea] at ap1
    simp +contextual only [k2, ik.aL, ik.len (by omega), u1, u2, u6, je, ap1, gp5, gps6, gys6, d3, s3, List.set_set, sZ, Nat.reduceEqDiff, Nat.reduceAdd, Nat.reduceLT, ↓reduceIte]
    refine kH (Ek hD w (l0 := [u]) (by simp) ik l2 (fun z hz => hp z hz (hall0 z hz)) (El _)) ?_
    rintro e1 e G6 ⟨rfl, f6, f10, qs, jj, nB⟩
    replace nB : PB c H x y i k [.int .i64 3, .int .i64 n, .ah, ow (u :: qs)] G6 := nB
    have gp6 := nB.gp
    have g66 := nB.g6
    have lp := Pd 3 n [] (u :: qs)
    have tv0 : sR [] = AV.ah := rfl
    rw [tv0] at lp
    have hs : Sh c.O (.mk 3 n [] (u :: qs)) (c.tm i) (c.tm k) := Ss qs jj
    obtain ⟨q1, q2, q3, q4, q5, q6, q7, q8, q9⟩ := aW (.mk 3 n [] (u :: qs))
    have lp2 := Cu (.mk 3 n [] (u :: qs))
    have Kb := List.getElem?_set_self (a := aa.cells (dQ (.mk 3 n [] (u :: qs))).cells) (aM g66)
    have NM : aj (H.length + 1) (dQ (.mk 3 n [] (u :: qs))).cells = true := cj (fF _ _)
    have kC := PB.fin (to := []) (l := (u :: qs)) hD nB hs
    simp +contextual only [f6, f10, gp6, g66, lp, q1, q2, q3, q9, Pf, Kb, lp2, NM, sZ, Nat.reduceEqDiff, Nat.reduceAdd, ↓reduceIte, reduceCtorEq]
    first | exact kC | exact ⟨by omega, kC⟩ | exact ⟨trivial, kC⟩
  ·have n4 : ((n : Int) < ys.length) = False := eq_false (by omega)
   have Ss : ∀ qs, kT (Sh c.O) qs (c.tm i) ((c.kd k).map c.tm) → Sh c.O (.mk 3 n [] qs) (c.tm i) (c.tm k) := by
    intro qs hq
    rw [hS, hLS, if_pos (by have := hn.lb; omega)]; exact hq
   simp +contextual only [k2, ik.aL, ik.len (by omega), decide_false, gp4, Sq, un1, gps, gys, iy.aL, iy.len (by omega), n4, sZ, Nat.reduceEqDiff, Nat.reduceAdd, Nat.reduceLT, Nat.reduceLeDiff, ↓reduceIte]
   refine kH (Ek hD w (l0 := []) (by simp) ik l2 (fun z hz => hp z hz (hall0 z hz)) (pB _)) ?_
   rintro e1 e G6 ⟨rfl, f6, f10, qs, jj, nB⟩
   replace nB : PB c H x y i k [.int .i64 3, .int .i64 n, .ah, ow qs] G6 := nB
   have gp6 := nB.gp
   have g66 := nB.g6
   have lp := Pd 3 n [] qs
   have tv0 : sR [] = AV.ah := rfl
   rw [tv0] at lp
   have hs : Sh c.O (.mk 3 n [] qs) (c.tm i) (c.tm k) := Ss qs jj
   obtain ⟨q1, q2, q3, q4, q5, q6, q7, q8, q9⟩ := aW (.mk 3 n [] qs)
   have lp2 := Cu (.mk 3 n [] qs)
   have Kb := List.getElem?_set_self (a := aa.cells (dQ (.mk 3 n [] qs)).cells) (aM g66)
   have NM : aj (H.length + 1) (dQ (.mk 3 n [] qs)).cells = true := cj (fF _ _)
   have kC := PB.fin (to := []) (l := qs) hD nB hs
   simp +contextual only [f6, f10, gp6, g66, lp, q1, q2, q3, q9, Pf, Kb, lp2, NM, sZ, Nat.reduceEqDiff, Nat.reduceAdd, ↓reduceIte, reduceCtorEq]
   first | exact kC | exact ⟨by omega, kC⟩ | exact ⟨trivial, kC⟩
end Go.aK
end
section
set_option maxRecDepth 100000
namespace Go.aK
open Go Go.Proofs Go.fE
structure PC (c : Cx) (H : List aa) (x y : Nat) (i k : Int) (es : List AV) (o : aa) (G : List aa) : Prop where
 du : Du c G
 gx : G[x]? = some (.cells [bn (c.kd i)])
 gy : G[y]? = some (.cells [bn (c.kd k)])
 g6 : G[H.length]? = some (.cells [.int .i64 0, .int .i64 0, .ah, .ah])
 gp : G[H.length + 3]? = some (.cells es)
 go : G[H.length + 4]? = some o
 len : G.length = H.length + 5
 up : ∀ j, j < H.length → j ≠ c.e → j ≠ c.g → G[j]? = H[j]?
theorem PB.ZQ {c : Cx} {H G : List aa} {x y : Nat} {i k : Int} {es : List AV} (w : XY H x y) (h : PB c H x y i k es G) (o : aa) : PC c H x y i k es o (G ++ [o]) := by
 obtain ⟨w1, w2, w3, w4⟩ := w
 have hl := h.len
 exact ⟨h.du.rI _, by rw [List.getElem?_append_left (by omega), h.gx], by rw [List.getElem?_append_left (by omega), h.gy], by rw [List.getElem?_append_left (by omega), h.g6], by rw [List.getElem?_append_left (by omega), h.gp], by rw [← hl]; simp, by simp [hl], fun j h1 h2 h3 => by rw [List.getElem?_append_left (by omega), h.up j h1 h2 h3]⟩
theorem PC.call {c : Cx} {H G G' : List aa} {x y : Nat} {i k : Int} {es : List AV} {o : aa} (hD : Du c H) (w : XY H x y) (h : PC c H x y i k es o G) (hU : Up c G G') (iW : Du c G') : PC c H x y i k es o G' := by
 obtain ⟨l1, l2, l3⟩ := hD.lt
 obtain ⟨w1, w2, w3, w4⟩ := w
 exact ⟨iW, by rw [hU.get x (by omega) (by omega), h.gx], by rw [hU.get y (by omega) (by omega), h.gy], by rw [hU.get _ (by omega) (by omega), h.g6], by rw [hU.get _ (by omega) (by omega), h.gp], by rw [hU.get _ (by omega) (by omega), h.go], by rw [hU.len, h.len], fun j h1 h2 h3 => by rw [hU.get j h2 h3, h.up j h1 h2 h3]⟩
theorem PC.set {c : Cx} {H G : List aa} {x y : Nat} {i k : Int} {es es' : List AV} {o : aa} (hD : Du c H) (w : XY H x y) (h : PC c H x y i k es o G) : PC c H x y i k es' o (G.set (H.length + 3) (.cells es')) := by
 obtain ⟨l1, l2, l3⟩ := hD.lt
 obtain ⟨w1, w2, w3, w4⟩ := w
 have hp := aM h.gp
 exact ⟨h.du.set (by omega) (by omega) (by omega), by rw [List.getElem?_set_ne (by omega), h.gx], by rw [List.getElem?_set_ne (by omega), h.gy], by rw [List.getElem?_set_ne (by omega), h.g6], by rw [List.getElem?_set_self hp], by rw [List.getElem?_set_ne (by omega), h.go], by rw [List.length_set, h.len], fun j h1 h2 h3 => by rw [List.getElem?_set_ne (by omega), h.up j h1 h2 h3]⟩
theorem PC.ZR {c : Cx} {H G : List aa} {x y : Nat} {i k : Int} {es : List AV} {o o' : aa} (hD : Du c H) (w : XY H x y) (h : PC c H x y i k es o G) : PC c H x y i k es o' (G.set (H.length + 4) o') := by
 obtain ⟨l1, l2, l3⟩ := hD.lt
 obtain ⟨w1, w2, w3, w4⟩ := w
 have hp := aM h.go
 exact ⟨h.du.set (by omega) (by omega) (by omega), by rw [List.getElem?_set_ne (by omega), h.gx], by rw [List.getElem?_set_ne (by omega), h.gy], by rw [List.getElem?_set_ne (by omega), h.g6], by rw [List.getElem?_set_ne (by omega), h.gp], by rw [List.getElem?_set_self hp], by rw [List.length_set, h.len], fun j h1 h2 h3 => by rw [List.getElem?_set_ne (by omega), h.up j h1 h2 h3]⟩
theorem PC.drop {c : Cx} {H G : List aa} {x y : Nat} {i k : Int} {es : List AV} {o : aa} (hD : Du c H) (w : XY H x y) (h : PC c H x y i k es o G) : PB c H x y i k es (G.take (H.length + 4)) ∧ G = G.take (H.length + 4) ++ [o] := by
 obtain ⟨l1, l2, l3⟩ := hD.lt
 obtain ⟨w1, w2, w3, w4⟩ := w
 have hl := h.len
 have t : ∀ j, j < H.length + 4 → (G.take (H.length + 4))[j]? = G[j]? := fun j h1 => by rw [List.getElem?_take, if_pos h1]
 refine ⟨⟨h.du.take (by omega) (by omega) (by omega), by rw [t x (by omega), h.gx], by rw [t y (by omega), h.gy], by rw [t _ (by omega), h.g6], by rw [t _ (by omega), h.gp], by simp; omega, fun j h1 h2 h3 => by rw [t j (by omega), h.up j h1 h2 h3]⟩, ?_⟩
 have e : G.drop (H.length + 4) = [o] := by
  have h1 := h.go
  have a8 : H.length + 4 < G.length := by omega
  rw [List.drop_eq_getElem_cons a8]
  rw [List.getElem?_eq_getElem a8] at h1
  simp only [Option.some.injEq] at h1
  rw [h1, List.drop_of_length_le (by omega)]
 rw [← e, List.take_append_drop]
structure MI (c : Cx) (a b : List Int) (us : List Bool) (to : List Int) (j : Nat) (ts : List Int) (ls : List PP) : Prop where
 lt : ts.length = j
 ll : ls.length = j
 pa : ∀ j', j' < j → 0 ≤ to.getD j' 0 → ts.getD j' 0 = to.getD j' 0 ∧ (ls.getD j' default).nil
 ov : ∀ j', j' < j → to.getD j' 0 < 0 → (¬ (ls.getD j' default).nil ∧ Sh c.O (ls.getD j' default) (c.tm (a.getD (ts.getD j' 0).toNat 0)) (c.tm (b.getD j' 0))) ∧ ∃ u : Nat, ts.getD j' 0 = u ∧ u < a.length ∧ us.getD u false = false
theorem MI.snoc {c : Cx} {a b : List Int} {us : List Bool} {to : List Int} {j : Nat} {ts : List Int} {ls : List PP} (h : MI c a b us to j ts ls) (v : Int) (q : PP)
 (h1 : 0 ≤ to.getD j 0 → v = to.getD j 0 ∧ q.nil) (h2 : to.getD j 0 < 0 → (¬ q.nil ∧ Sh c.O q (c.tm (a.getD v.toNat 0)) (c.tm (b.getD j 0))) ∧ ∃ u : Nat, v = u ∧ u < a.length ∧ us.getD u false = false) : MI c a b us to (j + 1) (ts ++ [v]) (ls ++ [q]) := by
 obtain ⟨k1, k2, k3, k4⟩ := h
 have e1 : ∀ j', j' < j → (ts ++ [v]).getD j' 0 = ts.getD j' 0 ∧ (ls ++ [q]).getD j' default = ls.getD j' default := fun j' tL => by
  constructor
  ·rw [List.getD_eq_getElem?_getD, List.getD_eq_getElem?_getD, List.getElem?_append_left (by omega)]
  ·rw [List.getD_eq_getElem?_getD, List.getD_eq_getElem?_getD, List.getElem?_append_left (by omega)]
 have e2 : (ts ++ [v]).getD j 0 = v ∧ (ls ++ [q]).getD j default = q := by
  constructor
  ·rw [← k1]; simp
  ·rw [← k2]; simp
 refine ⟨by simp [k1], by simp [k2], fun j' tL h0 => ?_, fun j' tL h0 => ?_⟩
 ·by_cases e : j' = j
  ·subst e; rw [e2.1, e2.2]; exact h1 h0
  ·have a8 : j' < j := by omega
   rw [(e1 j' a8).1, (e1 j' a8).2]; exact k3 j' a8 h0
 ·by_cases e : j' = j
  ·subst e; rw [e2.1, e2.2]; exact h2 h0
  ·have a8 : j' < j := by omega
   rw [(e1 j' a8).1, (e1 j' a8).2]; exact k4 j' a8 h0
theorem vG {to : List Int} {x : Int} : ∀ {n : Nat}, (∀ j j', j < n → j' < n → to.getD j 0 = x → to.getD j' 0 = x → j = j') → dj to x n ≤ 1
 | 0, _ => by simp [dj]
 | n + 1, h => by
   rw [dj]
   have ih := vG (n := n) fun j j' h1 h2 => h j j' (by omega) (by omega)
   by_cases e : to.getD n 0 = x
   ·rw [if_pos e]
    have : dj to x n = 0 := by
     have h0 : ∀ m, m ≤ n → dj to x m = 0 := by
      intro m
      induction m with
      | zero => intro _; rfl
      | succ m ihm =>
        intro hm
        rw [dj, ihm (by omega), if_neg (fun e' => by have := h m n (by omega) (by omega) e' e; omega)]
     exact h0 n (Nat.le_refl _)
    omega
   ·rw [if_neg e]; omega
theorem MI.cov {c : Cx} {a b : List Int} {us : List Bool} {to ts : List Int} {ls : List PP} (h : MI c a b us to b.length ts ls) (zW : Pr (fun x y => E c.O (c.tm x) (c.tm y)) a b b.length us to) (hl : ∃ u : Nat, u < a.length ∧ us.getD u false = false) : Hq c ts ls a b := by
 obtain ⟨k1, k2, k3, k4⟩ := h
 have cas : ∀ j, j < b.length → (∃ u : Nat, to.getD j 0 = u ∧ u < a.length ∧ us.getD u false = true ∧ E c.O (c.tm (a.getD u 0)) (c.tm (b.getD j 0))) ∨ to.getD j 0 < 0 := fun j hj => by
  rcases zW.t1 j hj with h | ⟨u, h1, h2, h3, h4⟩
  ·exact .inr (by omega)
  ·exact .inl ⟨u, h1, h2, h3, h4⟩
 refine ⟨k1, k2, fun j hj => ?_, fun x hx hp => ?_, ?_⟩
 ·rcases cas j hj with ⟨u, h1, h2, h3, h4⟩ | hn
  ·obtain ⟨e1, e2⟩ := k3 j hj (by omega)
   rw [if_pos e2, e1, h1]
   exact ⟨by omega, by rw [Int.toNat_natCast]; exact h4⟩
  ·obtain ⟨⟨e1, e2⟩, u, h1, h2, h3⟩ := k4 j hj hn
   rw [if_neg e1]
   exact ⟨by omega, e2⟩
 ·obtain ⟨j, hj, e1, e2⟩ := gT.1 hp
  have As : ∀ j', j' < b.length → ts.getD j' 0 = (x : Int) → us.getD x false = true → to.getD j' 0 = (x : Int) := by
   intro j' tL e ht
   rcases cas j' tL with ⟨u, h1, _⟩ | hn
   ·rw [← (k3 j' tL (by omega)).1]; exact e
   ·obtain ⟨_, u, h1, h2, h3⟩ := k4 j' tL hn
    have : u = x := by omega
    subst this; rw [h3] at ht; cases ht
  have hux : us.getD x false = true := by
   rcases cas j hj with ⟨u, h1, h2, h3, _⟩ | hn
   ·have := (k3 j hj (by omega)).1
    have : u = x := by omega
    subst this; exact h3
   ·exact absurd e2 (k4 j hj hn).1.1
  refine vG fun j1 j2 h1 h2 e1 e2 => ?_
  have t1 := As j1 h1 e1 hux
  have t2 := As j2 h2 e2 hux
  exact zW.inj j1 j2 h1 h2 (by omega) (by omega)
 ·obtain ⟨u, hu, hf⟩ := hl
  refine ⟨u, hu, ?_⟩
  by_cases h0 : 0 < dd ts ls u b.length
  ·obtain ⟨j, hj, e1, e2⟩ := gT.1 h0
   rcases cas j hj with ⟨u', h1, h2, h3, _⟩ | hn
   ·have := (k3 j hj (by omega)).1
    have : u' = u := by omega
    subst this; rw [hf] at h3; cases h3
   ·exact absurd e2 (k4 j hj hn).1.1
  ·omega
theorem Sh.ne_nil {O : Od} {p : PP} {a b : T} (h : Sh O p a b) : ¬ p.nil := by
 rintro ⟨h1, _⟩
 exact Sh0 (by omega) (by omega) (by omega) (by omega) h
theorem Wv {c : Cx} (hc : c.Ok) {i k : Int} (hi : c.dF i) (hk : c.dF k) (hR : R c.O (c.tm i) (c.tm k)) (hr : gA c i k 4) (jH : ∀ m, m < 4 → ¬ gA c i k m) (Su : ∀ x ∈ c.kd i, ∀ y ∈ c.kd k, R c.O (c.tm x) (c.tm y) → ox c x y) : ox c i k := by
 intro H hD
 refine Cr.2.calls rfl ?_
 simp only [Cr, aI]
 have k2 : ∀ l, (bn l).ab = bn l := fun l => (aD l).2.1
 have ki := hc.kids i hi
 have kk := hc.kids k hk
 have l1 := hc.kl i hi
 have l2 := hc.kl k hk
 obtain ⟨a1, a2, a3, a4, a5⟩ := aD (c.kd i)
 obtain ⟨b1, b2, b3, b4, b5⟩ := aD (c.kd k)
 have ii : IL (bn (c.kd i)) (c.kd i) := .inl rfl
 have ik : IL (bn (c.kd k)) (c.kd k) := .inl rfl
 have ei : (c.nd.getD i.toNat default).snd = c.kd i := rfl
 have ek : (c.nd.getD k.toNat default).snd = c.kd k := rfl
 obtain ⟨m1, m2, m3⟩ := hD.lt
 have ed : ∀ X : List aa, (H ++ X)[c.d]? = H[c.d]? := fun X => List.getElem?_append_left m1
 have spv : ∀ x : AV, ag [AV.ah] 0 [x] = [x] := fun x => rfl
 have spq : ag [AV.int .i64 0, .int .i64 0, .ah, .ah] 0 [AV.int .i64 0, .int .i64 0, .ah, .ah] = [AV.int .i64 0, .int .i64 0, .ah, .ah] := rfl
 simp +contextual only [sZ, Nat.reduceEqDiff, Nat.reduceAdd, ↓reduceIte, reduceCtorEq]
 refine kS (K1 := fun e G => get e 1 = .int .i64 i ∧ get e 3 = .ai (.ptr c.d 0) ∧ get e 5 = .ai (.int .i64 k) ∧ get e 6 = .ptr H.length 0 ∧ ∃ x y, get e 7 = .ptr x 0 ∧ get e 8 = .ptr y 0 ∧ XY H x y ∧ PA c H x y i k G) ?_ ?_
 ·have P0 : aa := .cells [.int .i64 0, .int .i64 0, .ah, .ah]
  have A : ∃ x y, AV.ptr (H.length + 1) 0 = .ptr x 0 ∧ AV.ptr (H.length + 2) 0 = .ptr y 0 ∧ XY H x y ∧ PA c H x y i k (H ++ [.cells [.int .i64 0, .int .i64 0, .ah, .ah], .cells [bn (c.kd i)], .cells [bn (c.kd k)]]) :=
   ⟨_, _, rfl, rfl, ⟨by omega, by omega, by omega, by omega⟩, ⟨hD.rI _, by simp, by simp, by simp, by simp, fun j hj _ _ => List.getElem?_append_left hj⟩⟩
  have B : ∃ x y, AV.ptr (H.length + 2) 0 = .ptr x 0 ∧ AV.ptr (H.length + 1) 0 = .ptr y 0 ∧ XY H x y ∧ PA c H x y i k (H ++ [.cells [.int .i64 0, .int .i64 0, .ah, .ah], .cells [bn (c.kd k)], .cells [bn (c.kd i)]]) :=
   ⟨_, _, rfl, rfl, ⟨by omega, by omega, by omega, by omega⟩, ⟨hD.rI _, by simp, by simp, by simp, by simp, fun j hj _ _ => List.getElem?_append_left hj⟩⟩
  simp +contextual only [ed, hD.d, lT, CM, ct, bS, k2, ei, ek, a1, a3, a4, a5, b1, b3, b4, b5, List.map_cons, List.map_nil, spv, List.all_cons, List.all_nil, Bool.and_true, bL, cV, sZ, Nat.reduceEqDiff, Nat.reduceAdd, Nat.reduceLT, ↓reduceIte]
  refine ⟨hi, ?_⟩
  repeat' apply And.intro
  all_goals first | exact hk.1 | exact hk.2 | exact A | exact B
 ·rintro e G ⟨e1, e3, e5, e6, x, y, e7, e8, w, Ad⟩
  simp +contextual only [e1, e3, e5, e6, e7, e8, sZ, Nat.reduceEqDiff, ↓reduceIte]
  refine aN 3 (fun m (G : List aa) => PA c H x y i k G)
   (fun m G => [(1, .int .i64 i), (3, .ai (.ptr c.d 0)), (5, .ai (.int .i64 k)), (6, .ptr H.length 0), (7, .ptr x 0), (8, .ptr y 0), (9, .int .i64 ((m + 1 : Nat) : Int))]) (fun m G => G) G ⟨Ad, aA _ _ _⟩ fun m G hm Ad => ?_
  have hf : dN.cells[m + 1]? = some (.fn (.func (182 + (m + 1))) [] []) := by
   have : m = 0 ∨ m = 1 ∨ m = 2 ∨ m = 3 := by omega
   rcases this with rfl | rfl | rfl | rfl <;> rfl
  have en := Tf (m + 1) _ hf (by omega)
  simp +contextual only [sZ]
  refine aF JU ?_
  simp +contextual only [lM, en _ rfl, sZ, Nat.reduceEqDiff, Nat.reduceAdd, ↓reduceIte, reduceCtorEq]
  refine af ((tO hc hi hk).at (n := m + 1) (by omega) (by omega) Ad.du) ?_
  rintro r G1 ⟨z, rfl, hz, hU, mB⟩
  have pn := Ad.call hD w hU mB
  by_cases OV : m = 3
  rotate_left
  ·have : z = false := by
    cases z with
    | false => rfl
    | true => exact absurd (hz.1 rfl) (jH (m + 1) (by omega))
   subst this
   simp +contextual only [Bool.not_false, sZ, Nat.reduceEqDiff, ↓reduceIte]
   exact ⟨m + 1, G1, ⟨by omega, pn⟩, by omega, aH (by rw [au (m + 1) (by omega)]) rfl⟩
  subst OV
  have : z = true := hz.2 hr
  subst this
  have wW := pn.len
  have ko := fun es => pn.rI w es
  have Sr := fun es => (ko es).gp
  have Ns := fun es => (ko es).gx
  have Wq := fun es => (ko es).gy
  have bP : ∀ (o o' : aa), (G1 ++ [o]).set (H.length + 3) o' = G1 ++ [o'] := fun o o' => by rw [← wW]; simp
  have ec : ((4 : Nat) : Int) = 4 := rfl
  have zf : List.map AV.ab [AV.int .i64 (4 : Int), .int .i64 0, .ah, .ah] = [.int .i64 (4 : Int), .int .i64 0, .ah, .ah] := rfl
  have zf0 : List.map AV.ab [AV.int .i64 0, .int .i64 0, .ah, .ah] = [.int .i64 0, .int .i64 0, .ah, .ah] := rfl
  have e86 : ∀ a b : Int, decide (a = b) = decide (a = b) := fun _ _ => rfl
  simp +contextual only [k2, decide_true, decide_false, Bool.not_true, Bool.not_true, XJ, wW, Sr, bP, ec, zf, zf0, Hv, Ns, Wq, sZ, Nat.reduceEqDiff, Nat.reduceAdd, Nat.reduceLT, ↓reduceIte, reduceCtorEq, Int.reduceEq]
  have lY := ko [.int .i64 4, .int .i64 0, .ah, .ah]
  generalize G1 ++ [aa.cells [AV.int .i64 4, .int .i64 0, .ah, .ah]] = G2 at lY ⊢
  have ki2 : (c.tm i).k = 2 := (qt.1 hR).1
  have hmq : wR c i k := by
   rcases hr with h | h | h | h
   ·exact absurd h.1 (by decide)
   ·exact absurd h.1 (by decide)
   ·exact absurd h.1 (by decide)
   ·exact h.2
  obtain ⟨J8, Ab, XA⟩ := hmq
  have Kd := jT.1 J8
  have kk2 : (c.tm k).k = 2 := Kd.2.1
  have osi : dq c i = c.O.sp (c.O.pl (c.tm i).n) := by rw [dq, if_pos ki2]
  have gx0 := lY.gx
  have gy0 := lY.gy
  simp +contextual only [sZ]
  refine af (R8 ii ik (by omega) (by omega) (fun z hz z' HL => jC hc (ki.2 z hz) (kk.2 z' HL)) lY.du) ?_
  rintro r G3 ⟨us, to, zW, rfl, VV, JR⟩
  have Ac := lY.call hD w VV JR
  have SY := (Pr.mu (f := nf c) (G := Gt c.O.sp) zW).1 XA
  have lbl := jc (c.kd i).length fun z => !us.getD z false
  have il : IL (bn (below (c.kd i).length fun z => !us.getD z false)) (below (c.kd i).length fun z => !us.getD z false) := .inl rfl
  have mml : ∀ {z : Int}, z ∈ below (c.kd i).length (fun z => !us.getD z false) → ∃ u : Nat, z = u ∧ u < (c.kd i).length ∧ us.getD u false = false := by
   intro z hz; obtain ⟨u, h1, h2, h3⟩ := fS.1 hz; exact ⟨u, h1, h2, by simpa using h3⟩
  have mmo : ∀ {j : Nat}, j < (c.kd k).length → to.getD j 0 < 0 → ∃ z ∈ below (c.kd i).length (fun z => !us.getD z false), R c.O (c.tm ((c.kd i).getD z.toNat 0)) (c.tm ((c.kd k).getD j 0)) := by
   intro j hj hn
   exact SY.2 (j : Int) (fS.2 ⟨j, rfl, hj, by simpa using hn⟩)
  have ZS := SY.1
  generalize (below (c.kd i).length fun z => !us.getD z false) = L at *
  have lto := zW.lt
  obtain ⟨v1, v2, v3, v4, v5⟩ := aD L
  simp +contextual only [k2, aw, sZ, Nat.reduceEqDiff, Nat.reduceAdd, Nat.reduceLT, ↓reduceIte]
  intro _
  have hlne2 : ∃ u : Nat, u < (c.kd i).length ∧ us.getD u false = false := by
   cases L with
   | nil => exact absurd rfl ZS
   | cons z r =>
     obtain ⟨u, _, h2, h3⟩ := mml (List.mem_cons_self (a := z) (l := r))
     exact ⟨u, h2, h3⟩
  refine aN (c.kd k).length (fun j (s : List aa × List Int × List PP) => PB c H x y i k [.int .i64 4, .int .i64 0, sR s.2.1, ow s.2.2] s.1 ∧ MI c (c.kd i) (c.kd k) us to j s.2.1 s.2.2)
   (fun j s => [(3, .ai (.ptr c.d 0)), (6, .ptr H.length 0), (7, .ptr x 0), (8, .ptr y 0), (10, .ptr (H.length + 3) 0), (11, bn L), (89, .ap 0 (ints to)), (90, .int .i64 to.length), (91, .int .i64 j)]) (fun j s => s.1) (G3, [], [])
   ⟨⟨Ac, rfl, rfl, fun j h => by omega, fun j h => by omega⟩, aA _ _ _⟩ fun j s hj hI => ?_
  obtain ⟨G, ts, ls⟩ := s
  obtain ⟨ko, HC⟩ := hI
  simp only at ko HC
  have hlen := ko.len
  by_cases J6 : (j : Int) < to.length
  ·have px : j < (c.kd k).length := by omega
   have zf4 : ∀ n, aj n (List.map AV.ab [AV.int .i64 0, .int .i64 0, .ah, .ah]) = true := fun _ => rfl
   have zf5 : List.map AV.ab [AV.int .i64 0, .int .i64 0, .ah, .ah] = [AV.int .i64 0, .int .i64 0, .ah, .ah] := rfl
   obtain ⟨tj, XK⟩ : ∃ tj, to.getD j 0 = tj := ⟨_, rfl⟩
   have Ww := ko.ZQ w (.cells [.int .i64 0, .int .i64 0, .ah, .ah])
   by_cases wo : tj < 0
   ·simp +contextual only [k2, decide_true, J6, cu, dx, Int.toNat_natCast, XK, wo, hlen, zf5, sZ, Nat.reduceEqDiff, Nat.reduceAdd, ↓reduceIte, reduceCtorEq]
    have mz := fun (G' : List aa) (dX : SD c (G ++ [aa.cells [AV.int .i64 0, .int .i64 0, .ah, .ah]]) G') => Ww.call hD w dX.2 dX.1
    have hjz : (0 : Int) ≤ j ∧ (j : Int) < (c.kd k).length := ⟨by omega, by omega⟩
    refine ⟨by omega, af (JQ (SD.zS c (G ++ [.cells [.int .i64 0, .int .i64 0, .ah, .ah]])) il (by omega) 148 [] [.ai (.ptr c.d 0), .ptr x 0, .ptr y 0, .ai (.int .i64 j)] rfl rfl (Q := fun z => R c.O (c.tm ((c.kd i).getD z.toNat 0)) (c.tm ((c.kd k).getD (j : Int).toNat 0)))
     (fun z hz G' dX => ?_) ⟨Ww.du, Up.refl c _⟩) ?_⟩
    ·obtain ⟨u, rfl, hu, _⟩ := mml hz
     refine (ZN ii ik ⟨by omega, by omega⟩ hjz (jD hc (ki.2 _ (aO (by omega))) (kk.2 _ (aO (by omega)))) dX.1 (mz G' dX).gx (mz G' dX).gy).mono fun r H' hr => hr.sb dX
    rintro r G4 ⟨hG4, tb⟩
    rcases tb with ⟨_, tb⟩ | ⟨m, rfl, hm, hQ, _⟩
    ·obtain ⟨z, hz, h⟩ := mmo px (by rw [XK]; exact wo)
     exact absurd h (tb z hz)
    obtain ⟨u, hu, yC, huf⟩ := mml (aO hm)
    have NN := mz G4 hG4
    have gx4 := NN.gx
    have gy4 := NN.gy
    rw [hu, Int.toNat_natCast, Int.toNat_natCast] at hQ
    simp +contextual only [k2, ii.lens, ik.lens, ii.idx, ik.idx, il.lens, il.idx, Int.toNat_natCast, hu, gx4, gy4, sZ, Nat.reduceEqDiff, Nat.reduceAdd, Nat.reduceLT, ↓reduceIte, reduceCtorEq]
    refine ⟨by omega, ⟨by omega, by omega⟩, by omega, ?_⟩
    refine af (Su _ (aO yC) _ (aO px) hQ _ NN.du) ?_
    rintro r G5 ⟨q, rfl, hq, Wr, Ws⟩
    have Wx := NN.call hD w Wr Ws
    have go5 := Wx.go
    have ZT := fun o => Wx.ZR (o' := o) hD w
    have mq := fun o es => (ZT o).set (es' := es) hD w
    have gq5 := fun o => (ZT o).go
    have gp5 := fun o => (ZT o).gp
    have gqs := fun o es => (mq o es).go
    have gps := fun o es => (mq o es).gp
    obtain ⟨u1, u2, u3, u4, u5, u6, u7, u8, u9⟩ := aW q
    have bq : aj (H.length + 4 + 1) (dQ q).cells = true := cj (fF _ _)
    have Sv := HC.snoc (u : Int) q (fun h => by omega) (fun _ => ⟨⟨Sh.ne_nil hq, by rw [Int.toNat_natCast]; exact hq⟩, u, rfl, yC, huf⟩)
    have t1 := HC.lt
    have t2 := HC.ll
    have S1 : ∀ ψ, bE 1 8 (sR ts) (.ap 0 [.int .i64 (u : Int)]) ψ = ψ (ints (ts ++ [(u : Int)])) := fun ψ => Pc ts _ (by omega) 0 ψ
    have apl : ∀ ψ, bE 4 64 (ow ls) (.ap 0 [dQ q]) ψ = ψ (dP (ls ++ [q])) := fun ψ => Cs ls q (by omega) 0 ψ
    have lpq := Cu q
    obtain ⟨x1, x2, x3, x4, x5, x6⟩ := kV (ts ++ [(u : Int)])
    obtain ⟨y1, y2, y3, y4, y5, y6⟩ := gU (ls ++ [q])
    obtain ⟨x1', x2', x3', x4', x5', x6'⟩ := kV ts
    obtain ⟨y1', y2', y3', y4', y5', y6'⟩ := gU ls
    have lvb : ∀ n, aj n (dP (ls ++ [q])) = true := fun n => iq _ _
    have tvb : ∀ n, aj n (ints (ts ++ [(u : Int)])) = true := fun n => bk _ _
    have pU : ∀ G', PC c H x y i k [.int .i64 4, .int .i64 0, sR (ts ++ [(u : Int)]), ow (ls ++ [q])] (.cells (dQ q).cells) G' → ∃ (j' : Nat) (t : List aa × List Int × List PP), (j' ≤ (c.kd k).length ∧ PB c H x y i k [.int .i64 4, .int .i64 0, sR t.2.1, ow t.2.2] t.1 ∧ MI c (c.kd i) (c.kd k) us to j' t.2.1 t.2.2) ∧ (c.kd k).length - j' < (c.kd k).length - j ∧
     sle H.length [(3, .ai (.ptr c.d 0)), (6, .ptr H.length 0), (7, .ptr x 0), (8, .ptr y 0), (10, .ptr (H.length + 3) 0), (11, bn L), (89, .ap 0 (ints to)), (90, .int .i64 to.length), (91, .int .i64 (IntKind.i64.wrap (j + 1)))] G' [(3, .ai (.ptr c.d 0)), (6, .ptr H.length 0), (7, .ptr x 0), (8, .ptr y 0), (10, .ptr (H.length + 3) 0), (11, bn L), (89, .ap 0 (ints to)), (90, .int .i64 to.length), (91, .int .i64 j')] t.1 := by
     intro G' dX
     obtain ⟨z1, z2⟩ := dX.drop hD w
     have zl := z1.len
     have Xm := v3
     refine ⟨j + 1, (G'.take (H.length + 4), ts ++ [(u : Int)], ls ++ [q]), ⟨px, z1, Sv⟩, by omega, Bp (by rw [au j (by omega)]) (by rw [zl]; omega) ?_ _ z2⟩
     obtain ⟨w1, w2, w3, w4⟩ := w
     rw [zl]
     simp only [o8, List.all_cons, List.all_nil, zt, rv, iL, cU, v3, bk, Bool.and_true, Bool.and_eq_true, decide_eq_true_eq]
     omega
    simp +contextual only [go5, Pf, u1, u2, u3, u9, bq, gq5, gp5, gqs, gps, d2, d3, s2, s3, List.set_set, je, S1, apl, lpq, Ct, qH, x3, x4, y3, y4, sZ, Nat.reduceEqDiff, Nat.reduceAdd, Nat.reduceLT, ↓reduceIte]
    repeat' apply And.intro
    all_goals exact pU _ (mq _ _)
   ·have t1 := HC.lt
    have t2 := HC.ll
    obtain ⟨q0, hq0⟩ : ∃ q0, q0 = PP.mk 0 0 [] [] := ⟨_, rfl⟩
    have s5 : q0.nil := by rw [hq0]; exact ⟨rfl, rfl, rfl, rfl⟩
    have lpz : ∀ φ, db (some (.cells [.int .i64 0, .int .i64 0, .ah, .ah])) (some 4) 0 φ = φ (dQ q0) := by rw [hq0]; exact Pd 0 0 [] []
    obtain ⟨u1, u2, u3, u4, u5, u6, u7, u8, u9⟩ := aW q0
    have Sv := HC.snoc tj q0 (fun h => ⟨XK.symm, s5⟩) (fun h => by omega)
    have S1 : ∀ ψ, bE 1 8 (sR ts) (.ap 0 [.int .i64 tj]) ψ = ψ (ints (ts ++ [tj])) := fun ψ => Pc ts _ (by omega) 0 ψ
    have apl : ∀ ψ, bE 4 64 (ow ls) (.ap 0 [dQ q0]) ψ = ψ (dP (ls ++ [q0])) := fun ψ => Cs ls q0 (by omega) 0 ψ
    have mq := fun es => Ww.set (es' := es) hD w
    have gp5 := Ww.gp
    have go5 := Ww.go
    have gqs := fun es => (mq es).go
    have gps := fun es => (mq es).gp
    obtain ⟨x1, x2, x3, x4, x5, x6⟩ := kV (ts ++ [tj])
    obtain ⟨y1, y2, y3, y4, y5, y6⟩ := gU (ls ++ [q0])
    obtain ⟨x1', x2', x3', x4', x5', x6'⟩ := kV ts
    obtain ⟨y1', y2', y3', y4', y5', y6'⟩ := gU ls
    have lvb : ∀ n, aj n (dP (ls ++ [q0])) = true := fun n => iq _ _
    have tvb : ∀ n, aj n (ints (ts ++ [tj])) = true := fun n => bk _ _
    have pU : ∀ G', PC c H x y i k [.int .i64 4, .int .i64 0, sR (ts ++ [tj]), ow (ls ++ [q0])] (.cells [.int .i64 0, .int .i64 0, .ah, .ah]) G' → ∃ (j' : Nat) (t : List aa × List Int × List PP), (j' ≤ (c.kd k).length ∧ PB c H x y i k [.int .i64 4, .int .i64 0, sR t.2.1, ow t.2.2] t.1 ∧ MI c (c.kd i) (c.kd k) us to j' t.2.1 t.2.2) ∧ (c.kd k).length - j' < (c.kd k).length - j ∧
     sle H.length [(3, .ai (.ptr c.d 0)), (6, .ptr H.length 0), (7, .ptr x 0), (8, .ptr y 0), (10, .ptr (H.length + 3) 0), (11, bn L), (89, .ap 0 (ints to)), (90, .int .i64 to.length), (91, .int .i64 (IntKind.i64.wrap (j + 1)))] G' [(3, .ai (.ptr c.d 0)), (6, .ptr H.length 0), (7, .ptr x 0), (8, .ptr y 0), (10, .ptr (H.length + 3) 0), (11, bn L), (89, .ap 0 (ints to)), (90, .int .i64 to.length), (91, .int .i64 j')] t.1 := by
     intro G' dX
     obtain ⟨z1, z2⟩ := dX.drop hD w
     have zl := z1.len
     have Xm := v3
     refine ⟨j + 1, (G'.take (H.length + 4), ts ++ [tj], ls ++ [q0]), ⟨px, z1, Sv⟩, by omega, Bp (by rw [au j (by omega)]) (by rw [zl]; omega) ?_ _ z2⟩
     obtain ⟨w1, w2, w3, w4⟩ := w
     rw [zl]
     simp only [o8, List.all_cons, List.all_nil, zt, rv, iL, cU, v3, bk, Bool.and_true, Bool.and_eq_true, decide_eq_true_eq]
     omega
    simp +contextual only [decide_true, decide_false, J6, cu, dx, Int.toNat_natCast, XK, wo, hlen, zf5, u1, u2, gp5, go5, gqs, gps, d2, d3, s2, s3, List.set_set, je, S1, apl, lpz, Ct, qH, x3, x4, y3, y4, sZ, Nat.reduceEqDiff, Nat.reduceAdd, Nat.reduceLT, ↓reduceIte]
    refine ⟨by omega, ?_⟩
    repeat' apply And.intro
    all_goals exact pU _ (mq _)
  ·have Wf : j = (c.kd k).length := by omega
   subst Wf
   have hs : Sh c.O (.mk 4 0 ts ls) (c.tm i) (c.tm k) := by
    rw [Sh4 rfl ki2]
    rw [osi] at Ab
    refine ⟨rfl, kk2, Kd.2.2, Ab, ?_⟩
    show O9 (E c.O) (Sh c.O) ts ls (c.tm i).l (c.tm k).l
    rw [← ki.1, ← kk.1, ← Cm]
    exact HC.cov zW hlne2
   have gp6 := ko.gp
   have g66 := ko.g6
   have lp := Pd 4 0 ts ls
   obtain ⟨q1, q2, q3, q4, q5, q6, q7, q8, q9⟩ := aW (.mk 4 0 ts ls)
   have lp2 := Cu (.mk 4 0 ts ls)
   have Kb := List.getElem?_set_self (a := aa.cells (dQ (.mk 4 0 ts ls)).cells) (aM g66)
   have NM : aj (H.length + 1) (dQ (.mk 4 0 ts ls)).cells = true := cj (fF _ _)
   have kC := PB.fin hD ko hs
   simp +contextual only [decide_false, J6, gp6, g66, lp, q1, q2, q3, q9, Pf, Kb, lp2, NM, sZ, Nat.reduceEqDiff, Nat.reduceAdd, ↓reduceIte, reduceCtorEq]
   first | exact kC | exact ⟨by omega, kC⟩
end Go.aK
end
section
set_option maxRecDepth 100000
namespace Go.aK
open Go Go.Proofs Go.fE
theorem Ke {P : Nat → Prop} : ∀ {n : Nat}, P n → ∃ m, m ≤ n ∧ P m ∧ ∀ j, j < m → ¬ P j := by
 intro n
 induction n using Nat.strongRecOn with
 | _ n ih =>
   intro h
   by_cases hx : ∃ j, j < n ∧ P j
   ·obtain ⟨j, hj, hp⟩ := hx
    obtain ⟨m, h1, h2, h3⟩ := ih j hj hp
    exact ⟨m, by omega, h2, h3⟩
   ·exact ⟨n, Nat.le_refl _, h, fun j hj hp => hx ⟨j, hj, hp⟩⟩
theorem c86 {c : Cx} (hc : c.Ok) : ∀ (N : Nat) (i k : Int), c.dF i → c.dF k → wt (c.tm i) + wt (c.tm k) ≤ N → R c.O (c.tm i) (c.tm k) → ox c i k := by
 intro N
 induction N with
 | zero => intro i k _ _ h; have := gr (c.tm i); omega
 | succ N ih =>
 intro i k hi hk hN hR
 have hx : ∀ {j : Int}, c.dF j → ∀ x ∈ c.kd j, c.dF x ∧ wt (c.tm x) < wt (c.tm j) := fun {j} hj x hx => by
  have h1 := hc.kids j hj
  exact ⟨h1.2 x hx, cK (by rw [← h1.1]; exact List.mem_map.2 ⟨x, hx, rfl⟩)⟩
 have p1 : ∀ x ∈ c.kd i, R c.O (c.tm x) (c.tm k) → ox c x k := fun x h r => ih x k (hx hi x h).1 hk (by have := (hx hi x h).2; omega) r
 have p2 : ∀ y ∈ c.kd k, R c.O (c.tm i) (c.tm y) → ox c i y := fun y h r => ih i y hi (hx hk y h).1 (by have := (hx hk y h).2; omega) r
 have p3 : ∀ x ∈ c.kd i, ∀ y ∈ c.kd k, R c.O (c.tm x) (c.tm y) → ox c x y := fun x h y h' r => ih x y (hx hi x h).1 (hx hk y h').1 (by have := (hx hi x h).2; have := (hx hk y h').2; omega) r
 obtain ⟨_, n, hn, hr⟩ := (rP hc hi hk).2 hR
 obtain ⟨m, hm, hr, jH⟩ := Ke (P := fun n => gA c i k n) hr
 have : m = 1 ∨ m = 2 ∨ m = 3 ∨ m = 4 := by
  rcases hr with h | h | h | h
  ·exact .inl h.1
  ·exact .inr (.inl h.1)
  ·exact .inr (.inr (.inl h.1))
  ·exact .inr (.inr (.inr h.1))
 rcases this with rfl | rfl | rfl | rfl
 ·exact Wp hc hi hk hR hr jH p1
 ·exact Wt hc hi hk hR hr jH p2
 ·exact Wu hc hi hk hR hr jH p2 p3
 ·exact Wv hc hi hk hR hr jH p3
theorem Wy {c : Cx} (hc : c.Ok) {i k : Int} (hi : c.dF i) (hk : c.dF k) (hR : R c.O (c.tm i) (c.tm k)) : ox c i k := c86 hc _ i k hi hk (Nat.le_refl _) hR
def NO : PP := .mk 0 0 [] []
def Sw (s : Sg) (ps ss : List Int) (a b : T) (r : AV) : Prop :=
 (fo s ps ss [a, b] ≠ 0 ∧ r = .tuple [dQ NO, .bool false, .int .i64 (fo s ps ss [a, b])]) ∨
 (fo s ps ss [a, b] = 0 ∧ ¬ R (kO ps ss) a b ∧ r = .tuple [dQ NO, .bool false, .int .i64 0]) ∨
 (fo s ps ss [a, b] = 0 ∧ ∃ p, Sh (kO ps ss) p a b ∧ r = .tuple [dQ p, .bool true, .int .i64 0])
theorem Up.jV {c : Cx} {G0 G : List aa} (h : Up c G0 G) {n : Nat} (he : n ≤ c.e) (hg : n ≤ c.g) : G.take n = G0.take n := by
 apply List.ext_getElem?
 intro j
 rw [List.getElem?_take, List.getElem?_take]
 split
 ·rename_i hj; exact h.get j (by omega) (by omega)
 ·rfl
theorem kW (n0 s s' s'' : Nat) (sz : Option Nat) (env : Env) (H : List aa) (R : AV → List aa → Prop) : bT n0 [.c s sz, .t s', .t s''] env H R = aR sz (get env s) H fun x => sL n0 [x, get env s', get env s''] H R := _root_.id rfl
theorem Fu {Hs G : List aa} {n0 : Nat} {u v w : AV} {R : AV → List aa → Prop} (hH : Hs.take n0 = G) (hb : aj n0 [u, v, w] = true) (hu : [u, v, w].map AV.ab = [u, v, w]) (hR : R (.tuple [u, v, w]) G) : sL n0 [u, v, w] Hs R := by
 subst hH
 exact ⟨n0, Nat.le_refl _, _, by rw [hu]; exact b8 _, hb, hR⟩
theorem tP {H G : List aa} {o : aa} (h : G.take H.length = H) : (G.set H.length o).take H.length = H := by
 rw [List.take_set_of_le (Nat.le_refl _), h]
theorem c27 (s : Sg) (ps ss : List Int) (a b : T) (H : List aa) : aq Tryz.prog 27 [s.av, eN ps ss, a.av, b.av] H fun r H' => Sw s ps ss a b r ∧ H' = H := by
 refine k27.2.calls rfl ?_
 simp only [k27, aI]
 obtain ⟨q1, q2, q3, q4, q5, q6⟩ := bf ps ss
 have zf4 : ∀ n, aj n (List.map AV.ab [AV.int .i64 0, .int .i64 0, .ah, .ah]) = true := fun _ => rfl
 have zf5 : List.map AV.ab [AV.int .i64 0, .int .i64 0, .ah, .ah] = [AV.int .i64 0, .int .i64 0, .ah, .ah] := rfl
 simp +contextual only [aB, q1, q4, cA, zf5, sZ, Nat.reduceEqDiff, Nat.reduceAdd, ↓reduceIte, reduceCtorEq]
 have g0 : (H ++ [aa.cells [AV.int .i64 0, .int .i64 0, .ah, .ah]])[H.length]? = some (.cells [.int .i64 0, .int .i64 0, .ah, .ah]) := by simp
 have s9 : (H ++ [aa.cells [AV.int .i64 0, .int .i64 0, .ah, .ah]]).length = H.length + 1 := by simp
 have RZ : (H ++ [aa.cells [AV.int .i64 0, .int .i64 0, .ah, .ah]]).take H.length = H := by simp
 refine ae (V9 s ps ss [a, b]) ?_
 generalize H ++ [aa.cells [AV.int .i64 0, .int .i64 0, .ah, .ah]] = H1 at g0 s9 RZ ⊢
 have ldz : ∀ φ, db (some (.cells [.int .i64 0, .int .i64 0, .ah, .ah])) (some 4) 0 φ = φ (dQ NO) := Pd 0 0 [] []
 have zb : ∀ p b n, aj H.length [dQ p, .bool b, .int .i64 n] = true := fun p b n => by simp [bL, cV, fF, zr, iL]
 have zu : ∀ p b n, [dQ p, AV.bool b, .int .i64 n].map AV.ab = [dQ p, .bool b, .int .i64 n] := fun p b n => by simp [(aW p).2.2.2.1, nU, m9]
 by_cases h0 : fo s ps ss [a, b] = 0
 ·have hr := qE h0
  have hw := lW hr.tree
  have hc := hr.cx (by simp) (by simp) H1.length
  have hd := x9 ps ss (ts := [a, b]) (by simp) H1
  simp +contextual only [q4, cA, h0, sZ, Nat.reduceEqDiff, Nat.reduceAdd, ↓reduceIte]
  refine af (VL ps ss [a, b] _ (by simp at hw; omega)) ?_
  rintro r G ⟨rfl, rfl⟩
  have a0 := sP (ps := ps) (ss := ss) (ts := [a, b]) (n := H1.length) (j := 0) (by simp)
  have a1 := sP (ps := ps) (ss := ss) (ts := [a, b]) (n := H1.length) (j := 1) (by simp)
  have hl := cr [a, b] 0
  rw [NE]
  generalize aT [a, b] 0 = ks at a0 a1 hl ⊢
  have nJ : ks.length = 2 := hl
  simp +contextual only [cu, nJ, dx, sZ, Nat.reduceEqDiff, Nat.reduceAdd, Nat.reduceLT, ↓reduceIte, reduceCtorEq]
  refine ⟨by decide, by decide, af (jD hc a0.1 a1.1 _ hd) ?_⟩
  rintro r G ⟨x, rfl, hx, hU, hD⟩
  rw [a0.2, a1.2] at hx
  have v9 : x = true ↔ R (kO ps ss) a b := hx
  have he : (fW ps ss [a, b] H1.length).e = H.length + 1 := s9
  have hg : (fW ps ss [a, b] H1.length).g = H.length + 2 := by show H1.length + 1 = _; omega
  have low : ∀ G', Up (fW ps ss [a, b] H1.length) G G' → G'[H.length]? = some (.cells [.int .i64 0, .int .i64 0, .ah, .ah]) ∧ G'.take H.length = H := by
   intro G' hU'
   have O5 := hU.trans hU'
   refine ⟨by rw [O5.get _ (by omega) (by omega), List.getElem?_append_left (by omega)]; exact g0, ?_⟩
   rw [O5.jV (n := H.length) (by omega) (by omega), List.take_append_of_le_length (by omega), RZ]
  have gz := low G (Up.refl _ _)
  have gz1 := gz.1
  have gzs := fun o => List.getElem?_set_self (a := o) (aM gz1)
  have nilc : (dQ NO).cells = [AV.int .i64 0, .int .i64 0, .ap 0 [], .ap 0 []] := rfl
  cases x with
  | false =>
    simp +contextual only [Bool.not_false, gz1, gzs, zf5, Hv, kW, ldz, sZ, Nat.reduceEqDiff, Nat.reduceAdd, ↓reduceIte, reduceCtorEq]
    refine Fu (tP gz.2) (zb _ _ _) (zu _ _ _) ⟨.inr (.inl ⟨h0, fun h => absurd (v9.2 h) (by simp), rfl⟩), rfl⟩
  | true =>
    simp +contextual only [Bool.not_true, cu, nJ, dx, sZ, Nat.reduceEqDiff, Nat.reduceAdd, ↓reduceIte, reduceCtorEq]
    refine ⟨by decide, by decide, af (Wy hc a0.1 a1.1 (by rw [a0.2, a1.2]; exact v9.1 rfl) _ hD) ?_⟩
    rintro r G2 ⟨p, rfl, hp, O5, Aq⟩
    rw [a0.2, a1.2] at hp
    obtain ⟨gy1, gy2⟩ := low G2 O5
    have gys := fun o => List.getElem?_set_self (a := o) (aM gy1)
    obtain ⟨u1, u2, u3, u4, u5, u6, u7, u8, u9⟩ := aW p
    have lpq := Cu p
    have NM : aj (H.length + 1) (dQ p).cells = true := cj (fF _ _)
    simp +contextual only [gy1, gys, u1, u2, u3, u9, Pf, lpq, NM, kW, sZ, Nat.reduceEqDiff, Nat.reduceAdd, ↓reduceIte, reduceCtorEq]
    first | exact Fu (tP gy2) (zb _ _ _) (zu _ _ _) ⟨.inr (.inr ⟨h0, p, hp, rfl⟩), rfl⟩ | exact ⟨by omega, Fu (tP gy2) (zb _ _ _) (zu _ _ _) ⟨.inr (.inr ⟨h0, p, hp, rfl⟩), rfl⟩⟩
 ·have gs : ∀ o, (H1.set H.length o)[H.length]? = some o := fun o => List.getElem?_set_self (by omega)
  simp +contextual only [h0, g0, gs, zf5, Hv, kW, ldz, sZ, Nat.reduceEqDiff, Nat.reduceAdd, ↓reduceIte, reduceCtorEq]
  refine Fu (tP RZ) (zb _ _ _) (zu _ _ _) ⟨.inl ⟨h0, rfl⟩, rfl⟩
end Go.aK
end
section
set_option maxRecDepth 100000
namespace Go.aK
open Go Go.Proofs Go.fE
def tf (l : List mE) : List AV := l.map mE.av
theorem Cv (l : List mE) : (tf l).length = l.length := by simp [tf]
theorem Kf (n : Nat) (l : List mE) : aj n (tf l) = true := by
 rw [a9]; intro x hx; obtain ⟨y, _, rfl⟩ := List.mem_map.1 hx
 exact y.facts.2.2.2.2.2 n
theorem Fv (o : Nat) (l : List mE) : (∀ (own : Nat) (xs : List AV), AV.ap o (tf l) = AV.ap own xs → ∀ z ∈ xs, z.cells.length = 8) = True := by
 simp only [eq_iff_iff, iff_true]
 intro own xs e z hz
 cases e
 obtain ⟨y, _, rfl⟩ := List.mem_map.1 hz; rfl
theorem idx_eq (e o : Nat) (l : List mE) (k : IntKind) (i : Nat) (φ : AV → Prop) : ay e (.ap o (tf l)) (.int k (i : Int)) φ = (i < l.length ∧ φ (.ai (l.getD i default).av)) := by
 simp only [ay, Cv, Int.toNat_natCast, eq_iff_iff]
 constructor
 ·rintro ⟨_, h, h2⟩; refine ⟨h, ?_⟩; simpa [tf, h] using h2
 ·rintro ⟨h, h2⟩; refine ⟨by omega, h, ?_⟩; simpa [tf, h] using h2
theorem Pg (e : mE) (H : List aa) (φ : AV → Prop) : aR (some 8) (.ai e.av) H φ = φ e.av := by simp [aR, mE.av, AV.cells]
structure Kg (ps : List Int) (e : mE) : Prop where
 few : e.cs.length ≤ 1000
 tree : ∀ t ∈ e.a :: e.rest, t.tree = true
 ops : ∀ t ∈ e.a :: e.rest, xX (fun n => 0 ≤ n ∧ n < ps.length) t
open Classical in
noncomputable def wX (ps ss : List Int) (e : mE) : Bool := decide (NG ps ss e)
theorem Wz (ps ss : List Int) (e : mE) (hv : Va ps ss) (he : Kg ps e) : Pure Tryz.prog 163 [eN ps ss, e.av] (.bool (wX ps ss e)) := by
 intro H
 refine (ZA ps ss e hv he.few he.tree he.ops H).mono ?_
 rintro r H' ⟨⟨b, rfl, hb⟩, rfl⟩
 refine ⟨?_, rfl⟩
 congr 1
 rw [Bool.eq_iff_iff, hb]
 simp [wX]
theorem ZU (ps ss : List Int) (e : mE) (hv : Va ps ss) (he : Kg ps e) : Pure Tryz.prog 162 [e.av, .ai (eN ps ss)] (.bool (!wX ps ss e)) := by
 refine fun H => Ur.2.calls rfl ?_
 simp only [Ur, aI]
 obtain ⟨q1, q2, q3, q4, q5, q6⟩ := bf ps ss
 obtain ⟨e1, e2, e3, e4, e5, e6⟩ := mE.facts e
 simp +contextual only [q4, e1, e4, cA, Pg, sZ, Nat.reduceEqDiff, Nat.reduceAdd, ↓reduceIte, reduceCtorEq]
 refine ae (Wz ps ss e hv he) ?_
 simp +contextual only [sZ, ↓reduceIte, reduceCtorEq]
 exact aZ rfl rfl
def po {α : Type} (p : α → Bool) : List α → Nat → Int
 | [], _ => -1
 | x :: r, i => if p x = true then (i : Int) else po p r (i + 1)
theorem yk {α : Type} [Inhabited α] {p : α → Bool} {l : List α} {i : Nat} (h : i < l.length) : po p (l.drop i) i = if p (l.getD i default) = true then (i : Int) else po p (l.drop (i + 1)) (i + 1) := by
 have e : l.getD i default = l[i] := by simp [h]
 rw [List.drop_eq_getElem_cons h, po, e]
theorem ZV (ps ss : List Int) (l : List mE) (hv : Va ps ss) (he : ∀ e ∈ l, Kg ps e) : Pure Tryz.prog 161 [.ap 0 (tf l), .fn (.func 162) [] [.ai (eN ps ss)]] (.int .i64 (po (fun e => !wX ps ss e) l 0)) := by
 refine fun H => LP.2.calls rfl ?_
 simp only [LP, aI]
 simp +contextual only [Cv, sZ, Nat.reduceEqDiff, Nat.reduceAdd, ↓reduceIte, reduceCtorEq]
 intro hl
 refine aG l.length (fun i => po (fun e => !wX ps ss e) (l.drop i) i = po (fun e => !wX ps ss e) l 0) (fun i => [(0, .ap 0 (tf l)), (1, .fn (.func 162) [] [.ai (eN ps ss)]), (7, .int .i64 l.length), (8, .int .i64 i)]) (fun _ => H) ⟨rfl, aA _ _ _⟩ fun i hi hI => ?_
 obtain ⟨e1, e2, e3, e4, e5, e6⟩ := mE.facts (l.getD i default)
 simp +contextual only [Fv, idx_eq, Pg, e4, sZ, Nat.reduceEqDiff, Nat.reduceAdd, ↓reduceIte, reduceCtorEq]
 refine ⟨fun a8 => ?_, fun jG => ?_⟩
 ·have a8 := bY a8
  have hm : l.getD i default ∈ l := by
   rw [List.getD_eq_getElem?_getD, List.getElem?_eq_getElem a8]; exact List.getElem_mem a8
  rw [yk a8] at hI
  refine ⟨a8, ae (ZU ps ss _ hv (he _ hm)) ?_⟩
  cases hb : wX ps ss (l.getD i default) with
  | false =>
    rw [if_pos (by rw [hb]; rfl)] at hI
    simp +contextual only [Bool.not_false, sZ, Nat.reduceEqDiff, ↓reduceIte, reduceCtorEq]
    exact aZ rfl (by rw [← hI])
  | true =>
    rw [if_neg (by rw [hb]; simp)] at hI
    simp +contextual only [Bool.not_true, sZ, Nat.reduceEqDiff, ↓reduceIte, reduceCtorEq]
    exact ⟨i + 1, ⟨a8, hI⟩, by omega, aH (by rw [au i (by omega)]) rfl⟩
 ·rw [List.drop_of_length_le (dl jG)] at hI
  exact aZ rfl (by rw [← hI]; rfl)
structure Ty where
 s : Sg
 es : List mE
deriving Inhabited
def Ty.av (t : Ty) : AV := .agg [.ap 0 (strs t.s.aX), .ap 0 (ou t.s.ops), .ap 0 (tf t.es)]
theorem Ty.facts (t : Ty) : t.av.val = true ∧ t.av.cells.length = 3 ∧ t.av.cells.all AV.one = true ∧ t.av.ab = t.av ∧ t.av.drop = t.av ∧ ∀ n, t.av.aY n = true :=
 ⟨rfl, rfl, rfl, rfl, rfl, fun n => by simp [Ty.av, AV.aY, aj, vw, vv, Kf]⟩
theorem Kh (t : Ty) (φ : AV → Prop) : ak 0 (some 2) (.ai t.av) φ = φ (.ai t.s.av) := by simp [ak, apart, Ty.av, Sg.av, AV.cells]
theorem fY2 (t : Ty) (φ : AV → Prop) : ak 2 none (.ai t.av) φ = φ (.ai (.ap 0 (tf t.es))) := by simp [ak, apart, Ty.av, AV.cells, AV.one]
theorem fS1 (s : Sg) (φ : AV → Prop) : ak 1 none (.ai s.av) φ = φ (.ai (.ap 0 (ou s.ops))) := by simp [ak, apart, Sg.av, AV.cells, AV.one]
theorem mj (t : Ty) (H : List aa) (φ : AV → Prop) : aR (some 3) (.ai t.av) H φ = φ t.av := by simp [aR, Ty.av, AV.cells]
noncomputable def qI (t : Ty) (ps ss : List Int) : Int := po (fun e => !wX ps ss e) t.es 0
theorem c89 (t : Ty) (ps ss : List Int) (hv : Va ps ss) (he : ∀ e ∈ t.es, Kg ps e) : Pure Tryz.prog 89 [t.av, eN ps ss] (.int .i64 (qI t ps ss)) := by
 refine fun H => k89.2.calls rfl ?_
 simp only [k89, aI]
 obtain ⟨q1, q2, q3, q4, q5, q6⟩ := bf ps ss
 obtain ⟨e1, e2, e3, e4, e5, e6⟩ := Ty.facts t
 simp +contextual only [q1, e1, fY2, sZ, Nat.reduceEqDiff, Nat.reduceAdd, ↓reduceIte, reduceCtorEq]
 refine ae (ZV ps ss t.es hv he) ?_
 simp +contextual only [sZ, ↓reduceIte, reduceCtorEq]
 exact aZ rfl rfl
end Go.aK
end
section
set_option maxRecDepth 100000
set_option maxHeartbeats 0
namespace Go.aK
open Go Go.Proofs
noncomputable def Ph := aI Tryz.call112 Tryz.func112 Tryz.ntmps112 [(0,0,1),(8,0,3001)] [(0,[1,2,3,4,8]),(1,[1,2,3,8,9]),(2,[1,2,3,8,10]),(3,[2,3,8,10,24,25,26]),(4,[2,3,8,10,24,25,26,27]),(5,[2,3,8,10,11,12,24,25,26]),(6,[2,3,8,10,24,25,26]),(7,[2,3,8,10,24,25,26]),(8,[8])] [(6,(.take 0 true (.take 1 true (.take 2 true (.take 6 true (.take 7 true (.take 8 true (.take 9 true (.take 10 true (.take 11 true (.take 12 true (.take 13 true (.take 14 true (.take 3 false (.take 5 false (.br 4 (.br 15 (.take 16 true (.br 17 .done .nil)) .nil) (.br 15 (.take 4 true (.take 16 true (.br 17 .done .nil))) .nil)))))))))))))))))]
end Go.aK
end
section
set_option maxRecDepth 100000
namespace Go.aK
open Go Go.Proofs Go.fE
def iP : List Int → List Int → List Int → List Int
 | l, i :: r, x :: s => iP (l.set i.toNat x) r s
 | l, _, _ => l
def pq (n : Nat) (ops pl : List Int) : List Int := iP (List.replicate n 255) ops pl
def rU (n : Nat) (ops st : List Int) : List Int := iP (List.replicate n 1) ops st
theorem vH : ∀ (l r s : List Int), (iP l r s).length = l.length
 | l, [], _ => by cases l <;> rfl
 | l, _ :: _, [] => rfl
 | l, i :: r, x :: s => by rw [iP, vH]; simp
theorem ZW (t : Ty) (ops pl st : List Int) {vo vp vs : AV} (ho : IL vo ops) (hp : IL vp pl) (hs : IL vs st) (s9 : pl.length = ops.length) (nJ : st.length = ops.length) (hr : ∀ i ∈ ops, 0 ≤ i ∧ i < t.s.ops.length) (hn : t.s.ops.length ≤ 1000000000) (jH : ops.length ≤ 1000000000) : Pure Tryz.prog 112 [t.av, vo, vp, vs] (eN (pq t.s.ops.length ops pl) (rU t.s.ops.length ops st)) := by
 refine fun H => Ph.2.calls rfl ?_
 simp only [Ph, aI]
 obtain ⟨e1, e2, e3, e4, e5, e6⟩ := Ty.facts t
 obtain ⟨a1, a2, a3, a4⟩ := ho.one
 obtain ⟨b1, b2, b3, b4⟩ := hp.one
 obtain ⟨c1, c2, c3, c4⟩ := hs.one
 simp +contextual only [e1, Kh, fS1, vu, sZ, Nat.reduceEqDiff, Nat.reduceAdd, ↓reduceIte, reduceCtorEq]
 intro _
 refine af (R7 0 255 t.s.ops.length hn _) ?_
 rintro r G ⟨rfl, rfl⟩
 simp +contextual only [sZ, Nat.reduceEqDiff, Nat.reduceAdd, ↓reduceIte]
 refine af (R7 0 1 t.s.ops.length hn _) ?_
 rintro r G ⟨rfl, rfl⟩
 simp +contextual only [sZ, Nat.reduceEqDiff, Nat.reduceAdd, ↓reduceIte]
 obtain ⟨n, hn'⟩ : ∃ n, n = t.s.ops.length := ⟨_, rfl⟩
 rw [← hn'] at hn hr ⊢
 have va : ∀ a b c d, (AV.bg a b c d).val = true := fun _ _ _ _ => rfl
 have vc : ∀ a b c d, (AV.bg a b c d).cells = [.bg a b c d] := fun _ _ _ _ => rfl
 have vo' : ∀ a b c d, (AV.bg a b c d).one = true := fun _ _ _ _ => rfl
 have vd : ∀ a b c d, (AV.bg a b c d).drop = .bg a b c d := fun _ _ _ _ => rfl
 have bdA : ∀ (a1 b1 c1 d1 a2 b2 c2 d2 : Nat) (φ : AV → Prop), cB [AV.ah, AV.ah] [(0, 1, .bg a1 b1 c1 d1), (1, 1, .bg a2 b2 c2 d2)] φ = φ (.agg [.bg a1 b1 c1 d1, .bg a2 b2 c2 d2]) := by
  intro a1 b1 c1 d1 a2 b2 c2 d2 φ
  simp only [cB, gG, eq_iff_iff]
  constructor
  ·rintro ⟨_, _, _, _, _, _, h⟩; exact h
  ·exact fun h => ⟨rfl, rfl, by simp, rfl, rfl, by simp [ag, AV.cells], h⟩
 have g3 : ∀ (a b c d : aa), [a, b, c, d][3]? = some d := fun _ _ _ _ => rfl
 have sp2 : ∀ (a b x y : AV), ag [a, b] 0 [x, y] = [x, y] := fun _ _ _ _ => rfl
 have lt1 : ∀ m : Nat, decide (m + 1 < m + 3 + 1) = true := fun m => by simp
 have lt2 : ∀ m : Nat, decide (m + 2 < m + 3 + 1) = true := fun m => by simp
 let S : List Int → List Int → List aa := fun P Q => H ++ [.cells [.ah, .ah], cM P, cM Q, .cells [.bg (H.length + 1) 0 n n, .bg (H.length + 2) 0 n n]]
 simp +contextual only [bdA, vo', g3, sp2, s3, lt1, lt2, Bool.and_self, a2, ho.aL, ho.len (by omega), sZ, Nat.reduceEqDiff, Nat.reduceAdd, ↓reduceIte]
 refine aN ops.length (fun j (s : List Int × List Int) => s.1.length = n ∧ s.2.length = n ∧ iP s.1 (ops.drop j) (pl.drop j) = pq n ops pl ∧ iP s.2 (ops.drop j) (st.drop j) = rU n ops st)
  (fun j s => [(2, vp), (3, vs), (8, .ptr H.length 0), (10, .ptr (H.length + 3) 0), (24, vo), (25, .int .i64 ops.length), (26, .int .i64 j)]) (fun j s => S s.1 s.2) (List.replicate n 255, List.replicate n 1) ⟨⟨by simp, by simp, rfl, rfl⟩, aA _ _ _⟩ fun j s hj hI => ?_
 obtain ⟨P, Q⟩ := s
 obtain ⟨hP, hQ, Sx, WA⟩ := hI
 simp only at hP hQ Sx WA
 by_cases hjo : (j : Int) < ops.length
 ·have px : j < ops.length := by omega
  have hri := hr _ (aO px)
  obtain ⟨x, hx⟩ := Int.eq_ofNat_of_zero_le hri.1
  have hxn : x < n := by omega
  have hxP : x < P.length := by omega
  have hxQ : x < Q.length := by omega
  simp +contextual only [S, hjo, decide_true, b2, c2, ho.lens, ho.idx, hp.lens, hp.idx, hs.lens, hs.idx, Int.toNat_natCast, hx, kq, g3, JS hxP, JS hxQ, sZ, Nat.reduceEqDiff, Nat.reduceAdd, Nat.reduceLT, ↓reduceIte, reduceCtorEq]
  have stp : ∀ (P q : List Int), q.length = ops.length → iP P (ops.drop j) (q.drop j) = iP (P.set x (q.getD j 0)) (ops.drop (j + 1)) (q.drop (j + 1)) := by
   intro P q hq
   have e1 : ops.drop j = ops.getD j 0 :: ops.drop (j + 1) := by rw [List.drop_eq_getElem_cons px]; simp [px]
   have hjq : j < q.length := by omega
   have e2 : q.drop j = q.getD j 0 :: q.drop (j + 1) := by rw [List.drop_eq_getElem_cons hjq]; simp [hjq]
   rw [e1, e2, iP, hx, Int.toNat_natCast]
  rw [stp P pl s9] at Sx
  rw [stp Q st nJ] at WA
  have hgo : ∃ (j' : Nat) (t : List Int × List Int), (j' ≤ ops.length ∧ t.1.length = n ∧ t.2.length = n ∧ iP t.1 (ops.drop j') (pl.drop j') = pq n ops pl ∧ iP t.2 (ops.drop j') (st.drop j') = rU n ops st) ∧ ops.length - j' < ops.length - j ∧
   sle H.length [(2, vp), (3, vs), (8, .ptr H.length 0), (10, .ptr (H.length + 3) 0), (24, vo), (25, .int .i64 ops.length), (26, .int .i64 (IntKind.i64.wrap (j + 1)))]
    (H ++ [.cells [.ah, .ah], cM (P.set x (pl.getD j 0)), cM (Q.set x (st.getD j 0)), .cells [.bg (H.length + 1) 0 n n, .bg (H.length + 2) 0 n n]])
    [(2, vp), (3, vs), (8, .ptr H.length 0), (10, .ptr (H.length + 3) 0), (24, vo), (25, .int .i64 ops.length), (26, .int .i64 j')]
    (H ++ [.cells [.ah, .ah], cM t.1, cM t.2, .cells [.bg (H.length + 1) 0 n n, .bg (H.length + 2) 0 n n]]) :=
   ⟨j + 1, (P.set x (pl.getD j 0), Q.set x (st.getD j 0)), ⟨px, by simp [hP], by simp [hQ], Sx, WA⟩, by omega, aH (by rw [au j (by omega)]) rfl⟩
  repeat' apply And.intro
  all_goals first | omega | exact hgo
 ·have Wf : j = ops.length := by omega
  subst Wf
  rw [List.drop_length] at Sx WA
  have eP : P = pq n ops pl := by rw [← Sx]; cases P <;> rfl
  have eQ : Q = rU n ops st := by rw [← WA]; cases Q <;> rfl
  simp +contextual only [Jx, S, hjo, decide_false, g3, vd, sZ, Nat.reduceEqDiff, ↓reduceIte]
  have f1 : (H ++ [aa.cells [AV.ah, .ah], cM P, cM Q, .cells [.bg (H.length + 1) 0 n n, .bg (H.length + 2) 0 n n]])[H.length + 1]? = some (cM P) := by simp
  have f2 : ((H ++ [aa.cells [AV.ah, .ah], cM P, cM Q, .cells [.bg (H.length + 1) 0 n n, .bg (H.length + 2) 0 n n]]).set (H.length + 1) .dead)[H.length + 2]? = some (cM Q) := by rw [List.getElem?_set_ne (by omega)]; simp
  have fz1 : ∀ {id n : Nat} {l : List Int} {H : List aa} (h : H[id]? = some (cM l)) (hn : l.length = n) {K : AV → List aa → Prop} (hK : K (.ap 0 (ints l)) (H.set id .dead)), dB 1 (.bg id 0 n n) H K := fun h hn K hK => by subst hn; exact Ca h hK
  refine fz1 f1 hP ?_
  refine fz1 f2 hQ ?_
  have es : ((H ++ [aa.cells [AV.ah, .ah], cM P, cM Q, .cells [.bg (H.length + 1) 0 n n, .bg (H.length + 2) 0 n n]]).set (H.length + 1) .dead).set (H.length + 2) .dead = H ++ [aa.cells [AV.ah, .ah], .dead, .dead, .cells [.bg (H.length + 1) 0 n n, .bg (H.length + 2) 0 n n]] := by simp []
  rw [es]
  have fb : ∀ m, aj m [AV.ap 0 (ints P), .ap 0 (ints Q)] = true := fun m => by simp [bL, cV, cU, bk]
  simp +contextual only [fb, sp2, Bool.and_self, sZ, Nat.reduceEqDiff, Nat.reduceAdd, ↓reduceIte, reduceCtorEq]
  rw [eP, eQ]
  exact E7 ((bf _ _).2.2.2.2.2 _) rfl
end Go.aK
end
section
set_option maxRecDepth 100000
namespace Go.aK
open Go Go.Proofs Go.fE
def gV (vals : List Int) : Nat → List (List Int)
 | 0 => [[]]
 | n + 1 => vals.flatMap fun x => (gV vals n).map (x :: ·)
def eF {σ : Type} (step : σ → List Int → σ × Bool) : List (List Int) → σ → σ × Bool
 | [], s => (s, true)
 | l :: r, s => if (step s l).2 = true then eF step r (step s l).1 else ((step s l).1, false)
theorem vI {σ : Type} {step : σ → List Int → σ × Bool} : ∀ (a b : List (List Int)) (s : σ), eF step (a ++ b) s = if (eF step a s).2 = true then eF step b (eF step a s).1 else ((eF step a s).1, false)
 | [], b, s => by simp [eF]
 | x :: a, b, s => by
   rw [List.cons_append, eF, eF]
   split
   ·exact vI a b _
   ·simp
def df (lo : Int) (n : Nat) : List Int := (List.range n).map fun i => lo + (i : Nat)
theorem Em (lo : Int) (n : Nat) : df lo (n + 1) = df lo n ++ [lo + (n : Nat)] := by simp [df, List.range_succ]
theorem yl {lo x : Int} {n : Nat} : x ∈ df lo n ↔ lo ≤ x ∧ x < lo + n := by
 simp only [df, List.mem_map, List.mem_range]
 constructor
 ·rintro ⟨j, h, rfl⟩; omega
 ·intro h; exact ⟨(x - lo).toNat, by omega, by omega⟩
def Fx (n : Nat) (id : Nat) (lo hi : Int) (q : Nat) : AV := .fn (.func 206) [] [.ai (.int .i64 n), .ai (.mF id), .ai (.int .i64 lo), .ai (.int .i64 hi), .ptr q 0]
structure YS {σ : Type} (n : Nat) (vals : List Int) (id : Nat) (St : σ → List aa) (Good : σ → Prop) (step : σ → List Int → σ × Bool) : Prop where
 y : ∀ l s X, l.length = n → (∀ x ∈ l, x ∈ vals) → Good s → jn Tryz.prog id [bn l] (St s ++ X) fun r H' => r = .bool (step s l).2 ∧ H' = St (step s l).1 ++ X
 Se : ∀ l s, Good s → (step s l).2 = true → Good (step s l).1
 len : ∀ s s', (St s).length = (St s').length
theorem ym {σ : Type} {n : Nat} {vals : List Int} {id : Nat} {St : σ → List aa} {Good : σ → Prop} {step : σ → List Int → σ × Bool} (h : YS n vals id St Good step) : ∀ (a : List (List Int)) (s : σ), Good s → (eF step a s).2 = true → Good (eF step a s).1
 | [], s, hs, _ => hs
 | l :: r, s, hs, hr => by
   rw [eF] at hr ⊢
   split at hr
   ·rename_i h1
    rw [if_pos h1]
    exact ym h r _ (h.Se l s hs h1) hr
   ·simp at hr
theorem NP (l : List Int) (h : l ≠ []) : bn l = .ap 0 (ints l) := by cases l with
 | nil => exact absurd rfl h
 | cons a r => rfl
theorem WB (l : List Int) (hb : l.length * 8 ≤ 140737488355328) : Pure Tryz.prog 118 [bn l] (.ap 1 (ints l)) := by
 intro H
 cases l with
 | nil => exact xz H
 | cons a r => exact uQ 0 (ints (a :: r)) H (of_eq_true (lO _)) (by rw [aw]; exact hb) (bk _ _)
theorem ZX {σ : Type} {n : Nat} {lo hi : Int} (ua : -1000000 ≤ lo ∧ lo ≤ 1000000) (H9 : -1000000 ≤ hi ∧ hi ≤ 1000000) (hn : n ≤ 1000000) {id : Nat} {St : σ → List aa} {Good : σ → Prop} {step : σ → List Int → σ × Bool} (hy : YS n (df lo (hi + 1 - lo).toNat) id St Good step) (q : Nat) :
 ∀ (r : Nat) (l : List Int) (s : σ) (X : List aa), l.length + r = n → (∀ x ∈ l, x ∈ df lo (hi + 1 - lo).toNat) → Good s → (∀ s', (St s' ++ X)[q]? = some (.cells [Fx n id lo hi q])) →
  aq Tryz.prog 206 [bn l, .ai (.int .i64 n), .ai (.mF id), .ai (.int .i64 lo), .ai (.int .i64 hi), .ptr q 0] (St s ++ X) fun rr H' => rr = .bool (eF step ((gV (df lo (hi + 1 - lo).toNat) r).map (l ++ ·)) s).2 ∧ H' = St (eF step ((gV (df lo (hi + 1 - lo).toNat) r).map (l ++ ·)) s).1 ++ X := by
 intro r
 induction r with
 | zero =>
   intro l s X hl hm hs hq
   refine L4.2.calls rfl ?_
   simp only [L4, aI]
   have ik : IL (bn l) l := .inl rfl
   obtain ⟨a1, a2, a3, a4, a5⟩ := aD l
   have e1 : ((l.length : Int) = (n : Int)) = True := eq_true (by omega)
   have lyld : ∀ (H : List aa) (φ : AV → Prop), aR none (.ai (.mF id)) H φ = φ (.mF id) := fun H φ => by simp [aR, AV.one, AV.ab]
   have e2 : eF step ((gV (df lo (hi + 1 - lo).toNat) 0).map (l ++ ·)) s = step s l := by
    simp only [gV, List.map_cons, List.map_nil, List.append_nil, eF]
    cases hb : (step s l).2 with
    | true => rw [if_pos rfl, ← hb]
    | false => rw [if_neg (by simp), ← hb]
   rw [e2]
   simp +contextual only [a2, ik.aL, ik.len (by omega), e1, decide_true, lyld, Ft, sZ, Nat.reduceEqDiff, Nat.reduceAdd, ↓reduceIte, reduceCtorEq]
   refine yh (hy.y l s X (by omega) hm hs) ?_
   rintro rr H' ⟨rfl, rfl⟩
   simp +contextual only [sZ, ↓reduceIte, reduceCtorEq]
   refine aV (St s ++ X).length (Nat.le_refl _) (by rw [ax, if_pos rfl]; rfl) ?_
   rw [ax, if_pos rfl]
   exact ⟨rfl, by rw [List.take_of_length_le (by rw [List.length_append, List.length_append, hy.len _ s]; exact Nat.le_refl _)]⟩
 | succ r ih =>
   intro l s X hl hm hs hq
   refine L4.2.calls rfl ?_
   simp only [L4, aI]
   have ik : IL (bn l) l := .inl rfl
   obtain ⟨a1, a2, a3, a4, a5⟩ := aD l
   have e1 : ((l.length : Int) = (n : Int)) = False := eq_false (by omega)
   have pU : ∀ (b : Bool) (s' : σ), bT (St s ++ X).length [.t 7] [(7, .bool b)] (St s' ++ X) fun rr H' => rr = .bool b ∧ H' = St s' ++ X := by
    intro b s'
    refine aV (St s ++ X).length (Nat.le_refl _) (by rw [ax, if_pos rfl]; rfl) ?_
    rw [ax, if_pos rfl]
    exact ⟨rfl, by rw [List.take_of_length_le (by rw [List.length_append, List.length_append, hy.len _ s]; exact Nat.le_refl _)]⟩
   obtain ⟨m, SY⟩ : ∃ m, m = (hi + 1 - lo).toNat := ⟨_, rfl⟩
   rw [← SY] at ih hm ⊢
   obtain ⟨F, hF⟩ : ∃ F : Nat → List (List Int), F = fun k => (df lo k).flatMap fun x => (gV (df lo m) r).map fun y => l ++ x :: y := ⟨_, rfl⟩
   have hF0 : F 0 = [] := by rw [hF]; rfl
   have hFs : ∀ k, F (k + 1) = F k ++ (gV (df lo m) r).map ((l ++ [lo + (k : Nat)]) ++ ·) := by
    intro k
    rw [hF]
    simp only [Em, List.flatMap_append, List.flatMap_cons, List.flatMap_nil, List.append_nil, List.append_assoc, List.cons_append, List.nil_append]
   have hFm : (gV (df lo m) (r + 1)).map (l ++ ·) = F m := by
    rw [hF, gV, List.map_flatMap]
    congr 1
    funext x
    rw [List.map_map]; rfl
   rw [hFm]
   simp +contextual only [a2, ik.aL, ik.len (by omega), e1, decide_false, sZ, Nat.reduceEqDiff, Nat.reduceAdd, ↓reduceIte, reduceCtorEq]
   refine aN m (fun k (_ : Unit) => (eF step (F k) s).2 = true) (fun k _ => [(0, bn l), (4, .ai (.int .i64 hi)), (5, .ptr q 0), (8, .int .i64 (lo + (k : Nat)))]) (fun k _ => St (eF step (F k) s).1 ++ X) () ⟨by rw [hF0]; rfl, aH (by simp) (by rw [hF0]; rfl)⟩ fun k _ hk hI => ?_
   have hg := ym hy (F k) s hs hI
   generalize Ob : (eF step (F k) s).1 = s1 at hg ⊢
   by_cases hkm : lo + (k : Int) ≤ hi
   ·have EF : k < m := by omega
    have hql := hq s1
    simp +contextual only [hkm, decide_true, a2, sZ, Nat.reduceEqDiff, ↓reduceIte, reduceCtorEq]
    refine aF (WB l (by omega)) ?_
    have jI : sX 1 [AV.int .i64 (lo + (k : Int))] := of_eq_true (lO [_])
    have efn : (Fx n id lo hi q).ab = .fn (.func 206) [] [.ai (.int .i64 n), .ai (.mF id), .ai (.int .i64 lo), .ai (.int .i64 hi), .ptr q 0] := rfl
    have ea : ints l ++ [AV.int .i64 (lo + (k : Int))] = ints (l ++ [lo + (k : Int)]) := by simp [ints]
    have ek : AV.ap 0 (ints (l ++ [lo + (k : Int)])) = bn (l ++ [lo + (k : Int)]) := by rw [NP _ (by simp)]
    simp +contextual only [hql, efn, aw, jI, ea, ek, E2, sZ, Nat.reduceEqDiff, Nat.reduceAdd, Nat.reduceLT, ↓reduceIte, reduceCtorEq]
    refine ⟨by omega, af (ih (l ++ [lo + (k : Int)]) s1 X (by simp; omega) (fun x hx => ?_) hg hq) ?_⟩
    ·rcases List.mem_append.1 hx with h | h
     ·exact hm x h
     ·simp only [List.mem_cons, List.not_mem_nil, or_false] at h
      subst h
      exact yl.2 ⟨by omega, by omega⟩
    rintro rr H' ⟨rfl, rfl⟩
    have bG : eF step (F (k + 1)) s = eF step ((gV (df lo m) r).map ((l ++ [lo + (k : Int)]) ++ ·)) s1 := by
     rw [hFs, vI, if_pos hI, Ob]
    cases hb : (eF step ((gV (df lo m) r).map ((l ++ [lo + (k : Int)]) ++ ·)) s1).2 with
    | true =>
      simp +contextual only [Bool.not_true, sZ, Nat.reduceEqDiff, ↓reduceIte, reduceCtorEq]
      refine ⟨k + 1, (), ⟨EF, by rw [bG]; exact hb⟩, by omega, aH ?_ (by rw [bG])⟩
      rw [dV _ (by omega)]
      have : lo + (k : Int) + 1 = lo + ((k + 1 : Nat) : Int) := by omega
      rw [this]
    | false =>
      simp +contextual only [Bool.not_false, sZ, Nat.reduceEqDiff, ↓reduceIte, reduceCtorEq]
      have jj : eF step (F m) s = ((eF step ((gV (df lo m) r).map ((l ++ [lo + (k : Int)]) ++ ·)) s1).1, false) := by
       have e : ∃ R, F m = F (k + 1) ++ R := by
        have : ∀ d, ∃ R, F (k + 1 + d) = F (k + 1) ++ R := by
         intro d
         induction d with
         | zero => exact ⟨[], by simp⟩
         | succ d Yh =>
           obtain ⟨R, hR⟩ := Yh
           exact ⟨R ++ _, by rw [show k + 1 + (d + 1) = (k + 1 + d) + 1 by omega, hFs, hR, List.append_assoc]⟩
        obtain ⟨R, hR⟩ := this (m - (k + 1))
        exact ⟨R, by rw [← hR]; congr 1; omega⟩
       obtain ⟨R, hR⟩ := e
       rw [hR, vI, bG, hb, if_neg (by simp)]
      rw [jj]
      exact pU false _
   ·have hke : k = m := by omega
    simp +contextual only [hkm, decide_false, sZ, Nat.reduceEqDiff, ↓reduceIte, reduceCtorEq]
    rw [← hke, hI, Ob]
    exact pU true s1
theorem WC {σ : Type} {n : Nat} {lo hi : Int} (ua : -1000000 ≤ lo ∧ lo ≤ 1000000) (H9 : -1000000 ≤ hi ∧ hi ≤ 1000000) (hn : n ≤ 1000000) {id : Nat} {St : σ → List aa} {Good : σ → Prop} {step : σ → List Int → σ × Bool} (hy : YS n (df lo (hi + 1 - lo).toNat) id St Good step) (bm : ∀ s, id < (St s).length) (s : σ) (hs : Good s) :
 aq Tryz.prog 205 [.mF id, .ai (.int .i64 n), .ai (.int .i64 lo), .ai (.int .i64 hi)] (St s) fun rr H' => rr = .tuple [] ∧ H' = St (eF step (gV (df lo (hi + 1 - lo).toNat) n) s).1 := by
 refine UL.2.calls rfl ?_
 simp only [UL, aI]
 have aeh := bm s
 have vy : (AV.mF id).val = true := rfl
 have cy : (AV.mF id).cells = [.mF id] := rfl
 have oy : (AV.mF id).one = true := rfl
 have by' : ∀ m, (AV.mF id).aY m = decide (id < m) := fun m => by simp [AV.aY]
 have d1 : decide (id < (St s).length + 1) = true := decide_eq_true (by omega)
 have d2' : decide ((St s).length < (St s).length + 1) = true := decide_eq_true (by omega)
 have efn : (Fx n id lo hi (St s).length).ab = .fn (.func 206) [] [.ai (.int .i64 n), .ai (.mF id), .ai (.int .i64 lo), .ai (.int .i64 hi), .ptr (St s).length 0] := rfl
 simp +contextual only [vy, by', d1, d2', Bool.and_self, Yw, sZ, Nat.reduceEqDiff, Nat.reduceAdd, Nat.reduceLT, ↓reduceIte, reduceCtorEq]
 have h := ZX ua H9 hn hy (St s).length n [] s [.cells [Fx n id lo hi (St s).length]] (by simp) (fun x hx => by cases hx) hs (fun s' => by rw [← hy.len s' s]; simp)
 have em : (gV (df lo (hi + 1 - lo).toNat) n).map ([] ++ ·) = gV (df lo (hi + 1 - lo).toNat) n := by simp
 rw [em] at h
 refine af h ?_
 rintro rr H' ⟨rfl, rfl⟩
 simp +contextual only [sZ, reduceCtorEq]
 refine ⟨(St s).length, Nat.le_refl _, [], trivial, rfl, rfl, ?_⟩
 rw [hy.len s _, List.take_left]
theorem WD (n : Nat) (lo hi : Int) : Pure Tryz.prog 166 [.int .i64 n, .int .i64 lo, .int .i64 hi] (.fn (.func 205) [] [.ai (.int .i64 n), .ai (.int .i64 lo), .ai (.int .i64 hi)]) := by
 refine fun H => Ut.2.calls rfl ?_
 simp only [Ut, aI]
 simp +contextual only [sZ, Nat.reduceEqDiff, Nat.reduceAdd, ↓reduceIte, reduceCtorEq]
 exact aZ rfl rfl
end Go.aK
end
section
set_option maxRecDepth 100000
namespace Go.aK
open Go Go.Proofs Go.fE
theorem ZY (x : Int) (r : List Int) (hl : r.length ≤ 1000000000) : Pure Tryz.prog 207 [.ap 0 (ints (x :: r))] (.int .i64 (r.foldl max x)) := by
 refine fun H => UM.2.calls rfl ?_
 simp only [UM, aI]
 have ix : IL (.ap 0 (ints (x :: r))) (x :: r) := .inr rfl
 have n1 : (((x :: r).length : Int) < 1) = False := eq_false (by simp; omega)
 have g0' : (x :: r).getD (0 : Int).toNat 0 = x := rfl
 have ll : (x :: r).length ≤ 1000000001 := by simp; omega
 generalize fp : x :: r = xs at *
 have eo : 0 < xs.length := by rw [← fp]; simp
 simp +contextual only [ix.aL, ix.len (by omega), n1, decide_false, ix.lens, ix.idx, g0', sZ, Nat.reduceEqDiff, Nat.reduceAdd, ↓reduceIte, reduceCtorEq]
 refine ⟨by omega, ?_⟩
 have hsplit : ∀ j, j ≤ r.length → (r.take j).foldl max x = ((xs.take (j + 1)).drop 1).foldl max x := by intro j _; rw [← fp]; simp
 refine aG r.length (fun j => True) (fun j => [(0, .ap 0 (ints xs)), (3, .int .i64 ((r.take j).foldl max x)), (4, .int .i64 ((j + 1 : Nat) : Int))]) (fun _ => H) ⟨trivial, aA _ _ _⟩ fun j hj _ => ?_
 have HY : xs.length = r.length + 1 := by rw [← fp]; simp
 by_cases ZZ : j < r.length
 ·have n2 : (((j + 1 : Nat) : Int) < xs.length) = True := eq_true (by omega)
  have gj : xs.getD (j + 1) 0 = r.getD j 0 := by rw [← fp]; simp
  have tk : (r.take (j + 1)).foldl max x = max ((r.take j).foldl max x) (r.getD j 0) := by
   rw [List.take_succ_eq_append_getElem ZZ, List.foldl_append]
   simp [ZZ]
  simp +contextual only [ix.aL, ix.len (by omega), n2, decide_true, ix.lens, ix.idx, Int.toNat_natCast, gj, sZ, Nat.reduceEqDiff, ↓reduceIte, reduceCtorEq]
  exact ⟨by omega, j + 1, ZZ, by omega, aH (by rw [dV _ (by omega), tk]; rfl) rfl⟩
 ·have e : j = r.length := by omega
  subst e
  have n2 : (((r.length + 1 : Nat) : Int) < xs.length) = False := eq_false (by omega)
  simp +contextual only [ix.aL, ix.len (by omega), n2, decide_false, sZ, Nat.reduceEqDiff, ↓reduceIte, reduceCtorEq]
  exact aZ rfl (by rw [List.take_length])
theorem Z0 (l : List Int) {v : AV} (h : IL v l) (hl : l.length ≤ 1000000000) (y : Int) : Pure Tryz.prog 111 [v, .int .i64 y] (.int .i64 (po (fun z => decide (y = z)) l 0)) := by
 refine fun H => TZ.2.calls rfl ?_
 simp only [TZ, aI]
 obtain ⟨a1, a2, a3, a4⟩ := h.one
 simp +contextual only [a2, h.aL, h.len (by omega), sZ, Nat.reduceEqDiff, Nat.reduceAdd, ↓reduceIte, reduceCtorEq]
 refine aG l.length (fun i => po (fun z => decide (y = z)) (l.drop i) i = po (fun z => decide (y = z)) l 0) (fun i => [(0, v), (1, .int .i64 y), (7, .int .i64 l.length), (8, .int .i64 i)]) (fun _ => H) ⟨rfl, aA _ _ _⟩ fun i hi hI => ?_
 by_cases Ao : i < l.length
 ·have n1 : ((i : Int) < l.length) = True := eq_true (by omega)
  rw [yk Ao] at hI
  have egd : l.getD i default = l.getD i 0 := by simp [Ao]
  rw [egd] at hI
  simp +contextual only [n1, decide_true, a2, h.lens, h.idx, Int.toNat_natCast, sZ, Nat.reduceEqDiff, ↓reduceIte, reduceCtorEq]
  refine ⟨by omega, fun he => ?_, fun eo => ?_⟩
  ·rw [if_pos (by simpa using he)] at hI
   exact aZ rfl (by rw [← hI])
  ·rw [if_neg (by simpa using eo)] at hI
   exact ⟨i + 1, ⟨Ao, hI⟩, by omega, aH (by rw [au i (by omega)]) rfl⟩
 ·have n1 : ((i : Int) < l.length) = False := eq_false (by omega)
  rw [List.drop_of_length_le (by omega)] at hI
  simp +contextual only [n1, decide_false, sZ, Nat.reduceEqDiff, ↓reduceIte, reduceCtorEq]
  exact aZ rfl (by rw [← hI]; rfl)
theorem Fy {α : Type} {p : α → Bool} : ∀ (l : List α) (i : Nat), 0 ≤ po p l i ↔ ∃ x ∈ l, p x = true
 | [], i => by simp [po]
 | x :: r, i => by
   rw [po]
   by_cases h : p x = true
   ·rw [if_pos h]; exact ⟨fun _ => ⟨x, by simp, h⟩, fun _ => by omega⟩
   ·rw [if_neg h, Fy r (i + 1)]
    simp [h]
theorem Z1 (l : List Int) {v : AV} (h : IL v l) (hl : l.length ≤ 1000000000) (y : Int) : Pure Tryz.prog 208 [v, .int .i64 y] (.bool (decide (y ∈ l))) := by
 refine fun H => UN.2.calls rfl ?_
 simp only [UN, aI]
 obtain ⟨a1, a2, a3, a4⟩ := h.one
 simp +contextual only [a2, sZ, Nat.reduceEqDiff, Nat.reduceAdd, ↓reduceIte, reduceCtorEq]
 refine ae (Z0 l h hl y) ?_
 simp +contextual only [sZ, ↓reduceIte, reduceCtorEq]
 refine aZ rfl ?_
 congr 1
 rw [decide_eq_decide, Fy]
 simp
def Cw (l : List Int) : Int := l.foldl max (-1)
def nC (l : List Int) : Bool := (List.range (Cw l + 1).toNat).all fun j => decide ((j : Int) ∈ l)
theorem foldl_max : ∀ (l : List Int) (x b : Int), x ≤ b → (∀ y ∈ l, y ≤ b) → x ≤ l.foldl max x ∧ l.foldl max x ≤ b
 | [], x, b, h, _ => ⟨Int.le_refl _, h⟩
 | y :: r, x, b, h, hr => by
   have h1 := hr y (by simp)
   have := foldl_max r (max x y) b (by omega) (fun z hz => hr z (by simp [hz]))
   rw [List.foldl_cons]; omega
theorem Z2 (l : List Int) {v : AV} (h : IL v l) (hl : l.length ≤ 100000000) (hb : ∀ x ∈ l, x ≤ 1000000) : Pure Tryz.prog 167 [v] (.bool (nC l)) := by
 refine fun H => Uu.2.calls rfl ?_
 simp only [Uu, aI]
 obtain ⟨a1, a2, a3, a4⟩ := h.one
 have TL : ∀ ψ : List AV → Prop, bE 1 8 (.ap 1 [.int .i64 (-1)]) v ψ = ψ (ints (-1 :: l)) := by
  intro ψ
  have hr : dE v = some (ints l) := by
   rcases h with rfl | rfl
   ·cases l <;> rfl
   ·rfl
  have hal : me 1 (.ap 1 [.int .i64 (-1)]) = some [.int .i64 (-1)] := rfl
  have ok : sX 1 (ints l) := of_eq_true (lO l)
  simp only [bE, hal, hr, eq_iff_iff]
  exact ⟨fun h => h.2.2, fun k => ⟨by simp [aw]; omega, ok, k⟩⟩
 have hm := foldl_max l (-1) 1000000 (by omega) hb
 simp +contextual only [a2, TL, sZ, Nat.reduceEqDiff, Nat.reduceAdd, ↓reduceIte, reduceCtorEq]
 refine ae (ZY (-1) l (by omega)) ?_
 have em : l.foldl max (-1) = Cw l := rfl
 rw [em] at hm ⊢
 have hw : IntKind.i64.wrap (Cw l + 1) = Cw l + 1 := dV _ (by omega)
 simp +contextual only [hw, sZ, Nat.reduceEqDiff, ↓reduceIte, reduceCtorEq]
 refine aG (Cw l + 1).toNat (fun j => ∀ i, i < j → (i : Int) ∈ l) (fun j => [(0, v), (8, .int .i64 (Cw l + 1)), (9, .int .i64 j)]) (fun _ => H) ⟨fun i hi => by omega, aA _ _ _⟩ fun j hj hI => ?_
 by_cases hjm : (j : Int) < Cw l + 1
 ·simp +contextual only [hjm, decide_true, a2, sZ, Nat.reduceEqDiff, Nat.reduceAdd, ↓reduceIte, reduceCtorEq]
  refine ae (Z1 l h (by omega) j) ?_
  by_cases Ie : (j : Int) ∈ l
  ·simp +contextual only [Ie, decide_true, Bool.not_true, sZ, Nat.reduceEqDiff, ↓reduceIte, reduceCtorEq]
   refine ⟨j + 1, ⟨by omega, fun i hi => ?_⟩, by omega, aH (by rw [au j (by omega)]) rfl⟩
   by_cases e : i = j
   ·subst e; exact Ie
   ·exact hI i (by omega)
  ·simp +contextual only [Ie, decide_false, Bool.not_false, sZ, Nat.reduceEqDiff, ↓reduceIte, reduceCtorEq]
   refine aZ rfl ?_
   congr 1
   have : nC l = false := by
    unfold nC
    rw [List.all_eq_false]
    exact ⟨j, List.mem_range.2 (by omega), by simpa using Ie⟩
   rw [this]
 ·have e : j = (Cw l + 1).toNat := by omega
  simp +contextual only [hjm, decide_false, sZ, Nat.reduceEqDiff, ↓reduceIte, reduceCtorEq]
  refine aZ rfl ?_
  congr 1
  have : nC l = true := by
   unfold nC
   rw [List.all_eq_true]
   intro i hi
   exact decide_eq_true (hI i (by rw [e]; exact List.mem_range.1 hi))
  rw [this]
end Go.aK
end
section
set_option maxRecDepth 100000
namespace Go.aK
open Go Go.Proofs Go.fE
open Classical in
noncomputable def vJ (t : Ty) (ops pl st : List Int) : Bool := decide (iO t.s (pq t.s.ops.length ops pl) (rU t.s.ops.length ops st) = 0 ∧ qI t (pq t.s.ops.length ops pl) (rU t.s.ops.length ops st) < 0)
abbrev Fo := Option (List Int × List Int)
noncomputable def dn (t : Ty) (ops pl : List Int) (s : Fo) (st : List Int) : Fo × Bool := if vJ t ops pl st = true then (some (pq t.s.ops.length ops pl, rU t.s.ops.length ops st), false) else (s, true)
noncomputable def eO (t : Ty) (ops : List Int) (s : Fo) (pl : List Int) : Fo × Bool := if nC pl = true then eF (dn t ops pl) (gV (df 1 3) ops.length) s else (s, true)
noncomputable def wY (t : Ty) (ops : List Int) : Fo := (eF (eO t ops) (gV (df 0 ops.length) ops.length) none).1
def o4 (s : Fo) : aa := match s with | none => .cells [.ah, .ah] | some (P, S) => .cells [.ap 0 (ints P), .ap 0 (ints S)]
def o5 (s : Fo) : aa := .cells [.bool s.isSome]
noncomputable def iu (s : Fo) : SU := if s.isSome = true then .jump .ret else .ready
theorem Ae : a7.n = 41 := by kernel_rfl
theorem Af : bw.n = 41 := by kernel_rfl
theorem vK : a7.ps = [15] := by kernel_rfl
theorem vL : bw.ps = [22] := by kernel_rfl
theorem Ki {n0 id : Nat} {R : AV → List aa → Prop} {H : List aa} {lc : hJ} {es : List AV} (h : H[id]? = some (.loop .busy lc es)) : pT n0 id R .ret H = Gg n0 false (H.set id (.loop (.jump .ret) lc es)) R := by
 unfold pT; rw [h]
theorem Cy {id : Nat} {H : List aa} {K : Option Code → List aa → Prop} {lc : hJ} {es : List AV} {c : Code} (h : H[id]? = some (.loop (.jump c) lc es)) : behind id H K = K (some c) (H.set id (.loop .eu lc es)) := by
 unfold behind; rw [h]
theorem Ag (t : Ty) (ops pl : List Int) : ∀ (a : List (List Int)) (s : Fo), s = none → (eF (dn t ops pl) a s).2 = (eF (dn t ops pl) a s).1.isNone
 | [], s, h => by subst h; rfl
 | l :: r, s, h => by
   subst h
   rw [eF]
   by_cases ht : vJ t ops pl l = true
   ·have e : dn t ops pl none l = (some (pq t.s.ops.length ops pl, rU t.s.ops.length ops l), false) := if_pos ht
    rw [e]; rfl
   ·have e : dn t ops pl none l = (none, true) := if_neg ht
    rw [e]
    exact Ag t ops pl r none rfl
structure Ah (t : Ty) : Prop where
 n : t.s.ops.length ≤ 1000000000
 eq : ∀ e ∈ t.es, ∀ ps : List Int, ps.length = t.s.ops.length → Kg ps e
theorem Kj (n : Nat) (ops pl : List Int) : (pq n ops pl).length = n := by unfold pq; rw [vH]; simp
theorem tQ (A : List aa) (x : aa) (Y : List aa) (k : Nat) (h : A.length = k) : (A ++ x :: Y)[k]? = some x := by subst h; simp
theorem tR (A : List aa) (x y : aa) (Y : List aa) (k : Nat) (h : A.length = k) : (A ++ x :: Y).set k y = A ++ y :: Y := by subst h; simp
def eS (H W : List aa) (s : Fo) : List aa := H ++ o4 s :: o5 s :: W
theorem eE (H W : List aa) (s : Fo) : (eS H W s).length = H.length + 2 + W.length := by simp [eS]; omega
theorem Pj (H W Y : List aa) (s : Fo) : (eS H W s ++ Y)[H.length]? = some (o4 s) := by rw [List.getElem?_append_left (by rw [eE]; omega)]; simp [eS]
theorem Pk (H W Y : List aa) (s : Fo) : (eS H W s ++ Y)[H.length + 1]? = some (o5 s) := by rw [List.getElem?_append_left (by rw [eE]; omega)]; simp [eS]
theorem Sy (H W Y : List aa) (s : Fo) (P S : List Int) : ((eS H W s ++ Y).set H.length (.cells [.ap 0 (ints P), .ap 0 (ints S)])).set (H.length + 1) (.cells [.bool true]) = eS H W (some (P, S)) ++ Y := by
 rw [List.set_append_left _ _ (by rw [eE]; omega), List.set_append_left _ _ (by rw [List.length_set, eE]; omega)]
 simp [eS, o4, o5]
theorem Sz {s : Sg} {ps ss : List Int} (h : iO s ps ss = 0) : Va ps ss := (vz.1 h).2.va
theorem Kk {t : Ty} (ht : Ah t) {ops : List Int} {vo : AV} (ho : IL vo ops) (hr : ∀ i ∈ ops, 0 ≤ i ∧ i < t.s.ops.length) (jH : ops.length ≤ 1000000) {pl : List Int} (v8 : pl.length = ops.length) (H W : List aa) (es : List AV) (yH : es = ke 41 [(2, .ai t.av), (3, .ai vo), (4, .ptr H.length 0), (5, .ptr (H.length + 1) 0), (6, .ai (bn pl)), (21, .fn (.func 205) [] [.ai (.int .i64 ops.length), .ai (.int .i64 1), .ai (.int .i64 3)])])
 (l : List Int) (hl : l.length = ops.length) (Y : List aa) (id : Nat) (bm : id = H.length + 2 + W.length) :
 jn Tryz.prog id [bn l] (eS H W none ++ .loop .ready bw es :: Y) fun r H' => r = .bool (dn t ops pl none l).2 ∧ H' = eS H W (dn t ops pl none l).1 ++ .loop (iu (dn t ops pl none l).1) bw es :: Y := by
 have ees : es = [.any, .any, .ai t.av, .ai vo, .ptr H.length 0, .ptr (H.length + 1) 0, .ai (bn pl), .any, .any, .any, .any, .any, .any, .any, .any, .any, .any, .any, .any, .any, .any, .fn (.func 205) [] [.ai (.int .i64 ops.length), .ai (.int .i64 1), .ai (.int .i64 3)], .any, .any, .any, .any, .any, .any, .any, .any, .any, .any, .any, .any, .any, .any, .any, .any, .any, .any, .any] := by rw [yH]; rfl
 have hk : ∀ s, (eS H W s).length = id := fun s => by rw [eE, bm]
 have e0 : ∀ s st, (eS H W s ++ aa.loop st bw es :: Y)[id]? = some (.loop st bw es) := fun s st => tQ _ _ _ _ (hk s)
 have fT : ∀ s st st', (eS H W s ++ aa.loop st bw es :: Y).set id (.loop st' bw es) = eS H W s ++ aa.loop st' bw es :: Y := fun s st st' => tR _ _ _ _ _ (hk s)
 have hlen : ∀ s st, (eS H W s ++ aa.loop st bw es :: Y).length = (eS H W none ++ aa.loop .ready bw es :: Y).length := fun s st => by rw [List.length_append, List.length_append, hk, hk]; rfl
 refine nP (lc := bw) (es := es) (e0 none .ready) P7 P8 ⟨by rw [ees, Af]; rfl, by rw [vL]; rfl, by rw [vL, Af]; rfl, ?_, ?_⟩ (vE ?_)
 ·rw [ees]; intro x hx; simp only [List.mem_cons, List.not_mem_nil, or_false] at hx
  repeat' (first | (rcases hx with hx | hx; · subst hx; rfl) | (subst hx; rfl))
 ·intro x hx; simp only [List.mem_cons, List.not_mem_nil, or_false] at hx; subst hx; exact (aD l).2.1
 ·have ez : (bw.ps.zip [bn l]).reverse ++ bU 0 es = (22, bn l) :: bU 0 es := by rw [vL]; rfl
  rw [ez]
  generalize wZ : bU 0 es = ea
  have g2 : get ea 2 = .ai t.av := by rw [← wZ, ees]; rfl
  have g3 : get ea 3 = .ai vo := by rw [← wZ, ees]; rfl
  have g4 : get ea 4 = .ptr H.length 0 := by rw [← wZ, ees]; rfl
  have g5 : get ea 5 = .ptr (H.length + 1) 0 := by rw [← wZ, ees]; rfl
  have g6 : get ea 6 = .ai (bn pl) := by rw [← wZ, ees]; rfl
  simp only [IE, IF]
  have hb : ∀ K, jw id (eS H W none ++ .loop .ready bw es :: Y) K = K (eS H W none ++ .loop .busy bw es :: Y) := fun K => by rw [rS (e0 none .ready), fT]
  obtain ⟨e1, e2, e3, e4, e5, e6⟩ := Ty.facts t
  obtain ⟨a1, a2, a3, a4⟩ := ho.one
  obtain ⟨b1, b2, b3, b4, b5⟩ := aD pl
  obtain ⟨c1, c2, c3, c4, c5⟩ := aD l
  have lvo : ∀ (H : List aa) (φ : AV → Prop), aR none (.ai vo) H φ = φ vo := fun H φ => by simp [aR, a1, a2]
  obtain ⟨q1, q2, q3, q4, q5, q6⟩ := bf (pq t.s.ops.length ops pl) (rU t.s.ops.length ops l)
  simp +contextual only [g2, g3, g4, g5, g6, c2, hb, mj, lvo, bS, b2, a2, e4, sZ, Nat.reduceEqDiff, Nat.reduceAdd, ↓reduceIte]
  refine ae (ZW t ops pl l ho (.inl rfl) (.inl rfl) v8 hl hr ht.n (by omega)) ?_
  generalize hP : pq t.s.ops.length ops pl = P at *
  generalize hS : rU t.s.ops.length ops l = S at *
  simp +contextual only [aB, q1, q2, q3, q4, Kh, cA, sZ, Nat.reduceEqDiff, Nat.reduceAdd, ↓reduceIte]
  refine ae (Zr t.s P S) ?_
  have endN : ∀ n0, n0 = id + (Y.length + 1) → dn t ops pl none l = (none, true) → pT n0 id (fun r H' => r = .bool (dn t ops pl none l).2 ∧ H' = eS H W (dn t ops pl none l).1 ++ .loop (iu (dn t ops pl none l).1) bw es :: Y) .normal (eS H W none ++ .loop .busy bw es :: Y) := by
   intro n0 Lo bP
   rw [Ei (e0 none .busy), fT, bP]
   refine ⟨by rw [hlen, List.length_append, hk]; simp; omega, rfl, ?_⟩
   rw [List.take_of_length_le (by rw [hlen, List.length_append, hk]; simp; omega)]
   rfl
  have endR : ∀ n0, n0 = id + (Y.length + 1) → dn t ops pl none l = (some (P, S), false) → pT n0 id (fun r H' => r = .bool (dn t ops pl none l).2 ∧ H' = eS H W (dn t ops pl none l).1 ++ .loop (iu (dn t ops pl none l).1) bw es :: Y) .ret (eS H W (some (P, S)) ++ .loop .busy bw es :: Y) := by
   intro n0 Lo bP
   rw [Ki (e0 _ .busy), fT, bP]
   refine ⟨by rw [hlen, List.length_append, hk]; simp; omega, rfl, ?_⟩
   rw [List.take_of_length_le (by rw [hlen, List.length_append, hk]; simp; omega)]
   rfl
  by_cases h0 : iO t.s P S = 0
  ·simp +contextual only [h0, mj, cA, e4, q4, sZ, Nat.reduceEqDiff, Nat.reduceAdd, ↓reduceIte]
   refine ae (c89 t P S (Sz h0) (fun e he => ht.eq e he P (by rw [← hP]; exact Kj _ _ _))) ?_
   by_cases h1 : qI t P S < 0
   ·have bP : dn t ops pl none l = (some (P, S), false) := by
     rw [dn, if_pos (by rw [vJ, hP, hS]; exact decide_eq_true ⟨h0, h1⟩), hP, hS]
    have k4 := Pj H W (.loop .busy bw es :: Y) none
    have k5 : ∀ o, ((eS H W none ++ .loop .busy bw es :: Y).set H.length o)[H.length + 1]? = some (o5 none) := fun o => by rw [List.getElem?_set_ne (by omega), Pk]
    have ks := Sy H W (.loop .busy bw es :: Y) none P S
    have o4n : o4 none = .cells [.ah, .ah] := rfl
    have o5n : o5 none = .cells [.bool false] := rfl
    rw [o4n] at k4
    simp only [o5n] at k5
    have qu : (eN P S).cells.map AV.ab = [.ap 0 (ints P), .ap 0 (ints S)] := rfl
    have sp2 : ∀ (a b x y : AV), ag [a, b] 0 [x, y] = [x, y] := fun _ _ _ _ => rfl
    have fb : ∀ m, aj m [AV.ap 0 (ints P), .ap 0 (ints S)] = true := fun m => by simp [bL, cV, cU, bk]
    simp +contextual only [h1, decide_true, cA, k4, k5, ks, q1, q2, q3, qu, sp2, fb, Bool.and_self, sZ, Nat.reduceEqDiff, Nat.reduceAdd, ↓reduceIte]
    first
     | exact endR _ (by rw [hk]) bP
     | exact endR _ (by rw [hlen, List.length_append, hk]; rfl) bP
   ·simp +contextual only [h1, decide_false, sZ, Nat.reduceEqDiff, ↓reduceIte]
    have bP : dn t ops pl none l = (none, true) := by
     rw [dn, if_neg (by rw [vJ, hP, hS]; simp [h1])]
    exact endN _ (by rw [hk]) bP
  ·simp +contextual only [h0, decide_false, sZ, Nat.reduceEqDiff, ↓reduceIte]
   have bP : dn t ops pl none l = (none, true) := by
    rw [dn, if_neg (by rw [vJ, hP, hS]; simp [h0])]
   exact endN _ (by rw [hk]) bP
end Go.aK
end
section
set_option maxRecDepth 100000
namespace Go.aK
open Go Go.Proofs Go.fE
theorem ysI {t : Ty} (ht : Ah t) {ops : List Int} {vo : AV} (ho : IL vo ops) (hr : ∀ i ∈ ops, 0 ≤ i ∧ i < t.s.ops.length) (jH : ops.length ≤ 1000000) {pl : List Int} (v8 : pl.length = ops.length) (H W : List aa) (es : List AV) (yH : es = ke 41 [(2, .ai t.av), (3, .ai vo), (4, .ptr H.length 0), (5, .ptr (H.length + 1) 0), (6, .ai (bn pl)), (21, .fn (.func 205) [] [.ai (.int .i64 ops.length), .ai (.int .i64 1), .ai (.int .i64 3)])]) :
 YS ops.length (df 1 ((3 : Int) + 1 - 1).toNat) (H.length + 2 + W.length) (fun s : Fo => eS H W s ++ [.loop (iu s) bw es]) (fun s => s = none) (dn t ops pl) := by
 refine ⟨fun l s X hl _ hs => ?_, fun l s hs bP => ?_, fun s s' => ?_⟩
 ·subst hs
  have := Kk ht ho hr jH v8 H W es yH l hl X _ rfl
  have el : iu none = .ready := rfl
  refine eY.mono (by simpa [el, jn] using this) fun r H' h => ?_
  refine ⟨h.1, ?_⟩
  rw [h.2]; simp
 ·subst hs
  unfold dn at *
  split at bP
  ·cases bP
  ·rename_i h; rw [if_neg h]
 ·simp [eE]
theorem Kl {vals : List Int} : ∀ {n : Nat} {l : List Int}, l ∈ gV vals n → l.length = n ∧ ∀ x ∈ l, x ∈ vals
 | 0, l, h => by
   simp only [gV, List.mem_cons, List.not_mem_nil, or_false] at h
   subst h; exact ⟨rfl, fun x hx => by cases hx⟩
 | n + 1, l, h => by
   simp only [gV, List.mem_flatMap, List.mem_map] at h
   obtain ⟨x, hx, y, hy, rfl⟩ := h
   obtain ⟨h1, h2⟩ := Kl hy
   exact ⟨by simp [h1], fun z hz => by
    rcases List.mem_cons.1 hz with rfl | hz
    ·exact hx
    ·exact h2 z hz⟩
theorem Km {t : Ty} (ht : Ah t) {ops : List Int} {vo : AV} (ho : IL vo ops) (hr : ∀ i ∈ ops, 0 ≤ i ∧ i < t.s.ops.length) (jH : ops.length ≤ 1000000) (H : List aa) (es : List AV) (yH : es = ke 41 [(2, .ai t.av), (3, .ai vo), (4, .ptr H.length 0), (5, .ptr (H.length + 1) 0), (14, .fn (.func 205) [] [.ai (.int .i64 ops.length), .ai (.int .i64 0), .ai (.int .i64 ((ops.length : Int) - 1))])])
 (pl : List Int) (v8 : pl.length = ops.length) (ko : ∀ x ∈ pl, x ≤ 1000000) (Y : List aa) :
 jn Tryz.prog (H.length + 2) [bn pl] (eS H [] none ++ .loop .ready a7 es :: Y) fun r H' => r = .bool (eO t ops none pl).2 ∧ H' = eS H [] (eO t ops none pl).1 ++ .loop (iu (eO t ops none pl).1) a7 es :: Y := by
 have ees : es = [.any, .any, .ai t.av, .ai vo, .ptr H.length 0, .ptr (H.length + 1) 0, .any, .any, .any, .any, .any, .any, .any, .any, .fn (.func 205) [] [.ai (.int .i64 ops.length), .ai (.int .i64 0), .ai (.int .i64 ((ops.length : Int) - 1))], .any, .any, .any, .any, .any, .any, .any, .any, .any, .any, .any, .any, .any, .any, .any, .any, .any, .any, .any, .any, .any, .any, .any, .any, .any, .any] := by rw [yH]; rfl
 have hk : ∀ s, (eS H [] s).length = H.length + 2 := fun s => by rw [eE]; rfl
 have e0 : ∀ s st Y, (eS H [] s ++ aa.loop st a7 es :: Y)[H.length + 2]? = some (.loop st a7 es) := fun s st Y => tQ _ _ _ _ (hk s)
 have fT : ∀ s st st' Y, (eS H [] s ++ aa.loop st a7 es :: Y).set (H.length + 2) (.loop st' a7 es) = eS H [] s ++ aa.loop st' a7 es :: Y := fun s st st' Y => tR _ _ _ _ _ (hk s)
 refine nP (lc := a7) (es := es) (e0 none .ready Y) P9 Qa ⟨by rw [ees, Ae]; rfl, by rw [vK]; rfl, by rw [vK, Ae]; rfl, ?_, ?_⟩ (vE ?_)
 ·rw [ees]; intro x hx; simp only [List.mem_cons, List.not_mem_nil, or_false] at hx
  repeat' (first | (rcases hx with hx | hx; · subst hx; rfl) | (subst hx; rfl))
 ·intro x hx; simp only [List.mem_cons, List.not_mem_nil, or_false] at hx; subst hx; exact (aD pl).2.1
 ·have ez : (a7.ps.zip [bn pl]).reverse ++ bU 0 es = (15, bn pl) :: bU 0 es := by rw [vK]; rfl
  rw [ez]
  generalize wZ : bU 0 es = ea
  have g2 : get ea 2 = .ai t.av := by rw [← wZ, ees]; rfl
  have g3 : get ea 3 = .ai vo := by rw [← wZ, ees]; rfl
  have g4 : get ea 4 = .ptr H.length 0 := by rw [← wZ, ees]; rfl
  have g5 : get ea 5 = .ptr (H.length + 1) 0 := by rw [← wZ, ees]; rfl
  simp only [IG, IH]
  have hb : ∀ K, jw (H.length + 2) (eS H [] none ++ .loop .ready a7 es :: Y) K = K (eS H [] none ++ .loop .busy a7 es :: Y) := fun K => by rw [rS (e0 none .ready Y), fT]
  obtain ⟨a1, a2, a3, a4⟩ := ho.one
  obtain ⟨b1, b2, b3, b4, b5⟩ := aD pl
  have lvo : ∀ (H : List aa) (φ : AV → Prop), aR none (.ai vo) H φ = φ vo := fun H φ => by simp [aR, a1, a2]
  have ip : IL (bn pl) pl := .inl rfl
  have hlen : (eS H [] none ++ .loop .ready a7 es :: Y).length = H.length + 2 + (Y.length + 1) := by rw [List.length_append, hk]; rfl
  have endN : ∀ n0 Z, n0 = H.length + 2 + (Y.length + 1) → eO t ops none pl = (none, true) → pT n0 (H.length + 2) (fun r H' => r = .bool (eO t ops none pl).2 ∧ H' = eS H [] (eO t ops none pl).1 ++ .loop (iu (eO t ops none pl).1) a7 es :: Y) .normal (eS H [] none ++ .loop .busy a7 es :: (Y ++ Z)) := by
   intro n0 Z Lo bP
   rw [Ei (e0 none .busy _), fT, bP]
   refine ⟨by rw [List.length_append, hk]; simp; omega, rfl, ?_⟩
   rw [Lo, ← hlen, show eS H [] none ++ aa.loop .ready a7 es :: (Y ++ Z) = (eS H [] none ++ aa.loop .ready a7 es :: Y) ++ Z by simp, List.take_left]
   rfl
  have endR : ∀ n0 Z s, n0 = H.length + 2 + (Y.length + 1) → eO t ops none pl = (s, false) → s.isSome = true → pT n0 (H.length + 2) (fun r H' => r = .bool (eO t ops none pl).2 ∧ H' = eS H [] (eO t ops none pl).1 ++ .loop (iu (eO t ops none pl).1) a7 es :: Y) .ret (eS H [] s ++ .loop .busy a7 es :: (Y ++ Z)) := by
   intro n0 Z s Lo bP hs
   have hlen2 : (eS H [] s ++ .loop (.jump .ret) a7 es :: Y).length = H.length + 2 + (Y.length + 1) := by rw [List.length_append, hk]; rfl
   rw [Ki (e0 _ .busy _), fT, bP]
   refine ⟨by rw [List.length_append, hk]; simp; omega, rfl, ?_⟩
   rw [Lo, ← hlen2, show eS H [] s ++ aa.loop (.jump .ret) a7 es :: (Y ++ Z) = (eS H [] s ++ aa.loop (.jump .ret) a7 es :: Y) ++ Z by simp, List.take_left]
   have : iu s = .jump .ret := if_pos hs
   rw [this]
  simp +contextual only [g2, g3, g4, g5, hb, bS, b1, b2, b4, b5, sZ, Nat.reduceEqDiff, Nat.reduceAdd, ↓reduceIte]
  refine ae (Z2 pl ip (by omega) ko) ?_
  cases hd : nC pl with
  | false =>
    have bP : eO t ops none pl = (none, true) := by rw [eO, if_neg (by rw [hd]; simp)]
    simp +contextual only [Bool.not_false, sZ, Nat.reduceEqDiff, ↓reduceIte]
    have := endN ((eS H [] none).length + (Y.length + 1)) [] (by rw [hk]) bP
    rwa [List.append_nil] at this
  | true =>
    have bP : eO t ops none pl = eF (dn t ops pl) (gV (df 1 3) ops.length) none := by rw [eO, if_pos hd]
    simp +contextual only [Bool.not_true, lvo, ho.aL, ho.len (by omega), sZ, Nat.reduceEqDiff, Nat.reduceAdd, ↓reduceIte]
    refine ae (WD ops.length 1 3) ?_
    simp +contextual only [lM, sZ, Nat.reduceEqDiff, ↓reduceIte]
    obtain ⟨W, hW⟩ : ∃ W, W = aa.loop .busy a7 es :: Y := ⟨_, rfl⟩
    have hH2 : eS H [] none ++ aa.loop .busy a7 es :: Y = eS H W none := by rw [hW]; simp [eS]
    have hA : ∀ s, eS H W s = eS H [] s ++ aa.loop .busy a7 es :: Y := fun s => by rw [hW]; simp [eS]
    obtain ⟨esI, WE⟩ : ∃ esI, esI = ke 41 [(2, AV.ai t.av), (3, .ai vo), (4, .ptr H.length 0), (5, .ptr (H.length + 1) 0), (6, .ai (bn pl)), (21, .fn (.func 205) [] [.ai (.int .i64 ops.length), .ai (.int .i64 1), .ai (.int .i64 3)])] := ⟨_, rfl⟩
    have ys := ysI ht ho hr jH v8 H W esI WE
    have pF : (3 : Int) + 1 - 1 = 3 := rfl
    have Z3 : ((3 : Int)).toNat = 3 := rfl
    rw [pF, Z3] at ys
    have Kn := WC (n := ops.length) (lo := 1) (hi := 3) (by omega) (by omega) jH (Good := fun s : Fo => s = none) (hy := by rw [pF, Z3]; exact ys) (fun s => by simp [eE]) none rfl
    rw [pF, Z3] at Kn
    rw [hH2]
    have eln : (eS H W none).length = H.length + 2 + W.length := eE H W none
    refine rR (P := Tryz.prog) (R := fun r H' => r = .tuple [] ∧ H' = eS H W (eF (dn t ops pl) (gV (df 1 3) ops.length) none).1 ++ [.loop (iu (eF (dn t ops pl) (gV (df 1 3) ops.length) none).1) bw esI]) 205 [] _ bw _ _ _ Tryz.call205 ?_ ?_
    ·rw [Af, ← WE, eln]
     exact Kn
    ·have h2 := Ag t ops pl (gV (df 1 3) ops.length) none rfl
     rintro r H' ⟨rfl, rfl⟩
     generalize TC : (eF (dn t ops pl) (gV (df 1 3) ops.length) none).1 = s' at h2
     have WG : eO t ops none pl = (s', s'.isNone) := by rw [bP]; exact Prod.ext TC h2
     rw [eln]
     have eget : ∀ st, (eS H W s' ++ [aa.loop st bw esI])[H.length + 2 + W.length]? = some (.loop st bw esI) := fun st => tQ _ _ _ _ (eE H W s')
     have eset : ∀ st st', (eS H W s' ++ [aa.loop st bw esI]).set (H.length + 2 + W.length) (.loop st' bw esI) = eS H W s' ++ [.loop st' bw esI] := fun st st' => tR _ _ _ _ _ (eE H W s')
     cases s' with
     | none =>
       have el : iu none = .ready := rfl
       rw [el, vD (eget _), eset]
       simp +contextual only [oS]
       have := endN ((eS H [] none).length + (Y.length + 1)) [.loop .eu bw esI] (by rw [hk]) WG
       rw [hA]
       simpa using this
     | some o =>
       have el : iu (some o) = .jump .ret := rfl
       rw [el, Cy (eget _), eset]
       simp +contextual only [oS]
       have := endR ((eS H [] none).length + (Y.length + 1)) [.loop .eu bw esI] (some o) (by rw [hk]) WG rfl
       rw [hA]
       simpa using this
end Go.aK
end
section
set_option maxRecDepth 100000
namespace Go.aK
open Go Go.Proofs Go.fE
theorem ysO {t : Ty} (ht : Ah t) {ops : List Int} {vo : AV} (ho : IL vo ops) (hr : ∀ i ∈ ops, 0 ≤ i ∧ i < t.s.ops.length) (jH : ops.length ≤ 1000000) (H : List aa) (es : List AV) (yH : es = ke 41 [(2, .ai t.av), (3, .ai vo), (4, .ptr H.length 0), (5, .ptr (H.length + 1) 0), (14, .fn (.func 205) [] [.ai (.int .i64 ops.length), .ai (.int .i64 0), .ai (.int .i64 ((ops.length : Int) - 1))])]) :
 YS ops.length (df 0 ops.length) (H.length + 2) (fun s : Fo => eS H [] s ++ [.loop (iu s) a7 es]) (fun s => s = none) (eO t ops) := by
 refine ⟨fun l s X hl hm hs => ?_, fun l s hs bP => ?_, fun s s' => ?_⟩
 ·subst hs
  have := Km ht ho hr jH H es yH l hl (fun x hx => by have := yl.1 (hm x hx); omega) X
  have el : iu none = .ready := rfl
  refine eY.mono (by simpa [el, jn] using this) fun r H' h => ?_
  refine ⟨h.1, ?_⟩
  rw [h.2]; simp
 ·subst hs
  have h2 : (eO t ops none l).2 = (eO t ops none l).1.isNone := by
   unfold eO
   split
   ·exact Ag t ops l _ none rfl
   ·rfl
  rw [bP] at h2
  exact Option.isNone_iff_eq_none.1 h2.symm
 ·simp [eE]
def Z4 (s : Fo) : AV := match s with | none => eN [] [] | some (P, S) => eN P S
theorem Fz (n0 s s' : Nat) (sz sz' : Option Nat) (env : Env) (H : List aa) (R : AV → List aa → Prop) : bT n0 [.c s sz, .c s' sz'] env H R = aR sz (get env s) H fun x => aR sz' (get env s') H fun y => sL n0 [x, y] H R := _root_.id rfl
theorem c93 {t : Ty} (ht : Ah t) {ops : List Int} {vo : AV} (ho : IL vo ops) (hr : ∀ i ∈ ops, 0 ≤ i ∧ i < t.s.ops.length) (jH : ops.length ≤ 1000000) : Pure Tryz.prog 93 [t.av, vo] (.tuple [Z4 (wY t ops), .bool (wY t ops).isSome]) := by
 refine fun H => Ys.calls rfl ?_
 simp only [TV, TU]
 obtain ⟨e1, e2, e3, e4, e5, e6⟩ := Ty.facts t
 obtain ⟨a1, a2, a3, a4⟩ := ho.one
 have lvo : ∀ (H : List aa) (φ : AV → Prop), aR none (.ai vo) H φ = φ vo := fun H φ => by simp [aR, a1, a2]
 have zf2 : List.map AV.ab [AV.ah, .ah] = [.ah, .ah] := rfl
 have zb2 : ∀ n, aj n [AV.ah, .ah] = true := fun _ => rfl
 have hw : IntKind.i64.wrap ((ops.length : Int) - 1) = (ops.length : Int) - 1 := dV _ (by omega)
 simp +contextual only [e1, a3, lvo, zf2, zb2, ho.aL, ho.len (by omega), hw, sZ, Nat.reduceEqDiff, Nat.reduceAdd, ↓reduceIte, reduceCtorEq]
 refine ae (WD ops.length 0 ((ops.length : Int) - 1)) ?_
 simp +contextual only [lM, sZ, Nat.reduceEqDiff, ↓reduceIte, reduceCtorEq]
 have Z5 : H ++ [aa.cells [AV.ah, .ah], .cells [.bool false]] = eS H [] none := rfl
 rw [Z5]
 obtain ⟨esO, yH⟩ : ∃ esO, esO = ke 41 [(2, AV.ai t.av), (3, .ai vo), (4, .ptr H.length 0), (5, .ptr (H.length + 1) 0), (14, .fn (.func 205) [] [.ai (.int .i64 ops.length), .ai (.int .i64 0), .ai (.int .i64 ((ops.length : Int) - 1))])] := ⟨_, rfl⟩
 have ys := ysO ht ho hr jH H esO yH
 have hv : ((ops.length : Int) - 1 + 1 - 0).toNat = ops.length := by omega
 have Kn := WC (n := ops.length) (lo := 0) (hi := (ops.length : Int) - 1) (by omega) (by omega) jH (Good := fun s : Fo => s = none) (hy := by rw [hv]; exact ys) (fun s => by simp [eE]) none rfl
 rw [hv] at Kn
 have eln : ∀ s, (eS H [] s).length = H.length + 2 := fun s => eE H [] s
 refine rR (P := Tryz.prog) (R := fun r H' => r = .tuple [] ∧ H' = eS H [] (wY t ops) ++ [.loop (iu (wY t ops)) a7 esO]) 205 [] _ a7 _ _ _ Tryz.call205 ?_ ?_
 ·rw [Ae, ← yH, eln]
  exact Kn
 ·rintro r H' ⟨rfl, rfl⟩
  generalize wY t ops = s'
  have eget : ∀ st, (eS H [] s' ++ [aa.loop st a7 esO])[H.length + 2]? = some (.loop st a7 esO) := fun st => tQ _ _ _ _ (eln s')
  have eset : ∀ st st', (eS H [] s' ++ [aa.loop st a7 esO]).set (H.length + 2) (.loop st' a7 esO) = eS H [] s' ++ [.loop st' a7 esO] := fun st st' => tR _ _ _ _ _ (eln s')
  have k4 := Pj H [] [.loop .eu a7 esO] s'
  have k5 := Pk H [] [.loop .eu a7 esO] s'
  have htk : (eS H [] s' ++ [aa.loop .eu a7 esO]).take H.length = H := by rw [List.take_append_of_le_length (by rw [eln]; omega), eS, List.take_left]
  have sp2 : ∀ (a b x y : AV), ag [a, b] 0 [x, y] = [x, y] := fun _ _ _ _ => rfl
  rw [eln]
  cases s' with
  | none =>
    have el : iu none = .ready := rfl
    rw [el, vD (eget _), eset]
    have o4n : o4 none = .cells [.ah, .ah] := rfl
    have o5n : o5 none = .cells [.bool false] := rfl
    rw [o4n] at k4
    rw [o5n] at k5
    have k4s := fun o => List.getElem?_set_self (a := o) (aM k4)
    have k5s : ∀ o, ((eS H [] none ++ [aa.loop .eu a7 esO]).set H.length o)[H.length + 1]? = some (.cells [.bool false]) := fun o => by rw [List.getElem?_set_ne (by omega)]; exact k5
    have k5t : ∀ o o', (((eS H [] none ++ [aa.loop .eu a7 esO]).set H.length o).set (H.length + 1) o')[H.length + 1]? = some o' := fun o o' => List.getElem?_set_self (by rw [List.length_set]; exact aM k5)
    have k4t : ∀ o o', (((eS H [] none ++ [aa.loop .eu a7 esO]).set H.length o).set (H.length + 1) o')[H.length]? = some o := fun o o' => by rw [List.getElem?_set_ne (by omega)]; exact k4s o
    have Z6 : ∀ o o', (((eS H [] none ++ [aa.loop .eu a7 esO]).set H.length o).set (H.length + 1) o').take H.length = H := fun o o' => by rw [List.take_set_of_le (by omega), List.take_set_of_le (by omega), htk]
    simp +contextual only [oS, k4, k5s, k4t, k5t, zf2, zb2, sp2, Fz, sZ, Nat.reduceEqDiff, Nat.reduceAdd, Nat.reduceLT, ↓reduceIte, reduceCtorEq]
    exact OO (Z6 _ _) ((bf [] []).2.2.2.2.2 _) rfl rfl rfl ⟨rfl, rfl⟩
  | some o =>
    obtain ⟨P, S⟩ := o
    have el : iu (some (P, S)) = .jump .ret := rfl
    rw [el, Cy (eget _), eset]
    have o4n : o4 (some (P, S)) = .cells [.ap 0 (ints P), .ap 0 (ints S)] := rfl
    have o5n : o5 (some (P, S)) = .cells [.bool true] := rfl
    rw [o4n] at k4
    rw [o5n] at k5
    simp +contextual only [oS, k4, k5, Fz, sZ, Nat.reduceEqDiff, Nat.reduceAdd, Nat.reduceLT, ↓reduceIte, reduceCtorEq]
    exact OO htk ((bf P S).2.2.2.2.2 _) rfl rfl rfl ⟨rfl, rfl⟩
end Go.aK
end
section
set_option maxRecDepth 100000
set_option maxHeartbeats 0
namespace Go.aK
open Go Go.Proofs
noncomputable def WH := aI Tryz.call75 Tryz.func75 Tryz.ntmps75 [(0,0,1),(5,2,1000),(6,0,1),(6,7,2),(6,8,1),(7,6,2),(7,9,2),(9,0,6004)] [(0,[1,2]),(1,[1,6]),(2,[1,6,7]),(3,[6,7,15,16,17]),(4,[6,7,15,16,17,18]),(5,[6,7,9,15,16,17]),(6,[6,7,9,15,16,17]),(7,[6,7,15,16,17]),(8,[6,7,15,16,17]),(9,[4,5])] [(7,(.take 1 true (.take 2 true (.take 3 true (.take 4 true (.take 5 true (.take 0 false (.br 6 (.take 7 true (.take 8 true (.br 9 .done .nil))) .nil))))))))]
end Go.aK
end
