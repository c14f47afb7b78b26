/- Part 15 of 18 of the proof. -/
import Derived.Test.YtljchnfgjdjobaaGreatTan
import Derived.Test.YtljchnfgjdjobaaGreatTag
import Derived.KernelRfl
set_option linter.unusedVariables false
set_option linter.unusedSimpArgs false
set_option linter.defProp false
set_option linter.unusedSectionVars false
section
set_option maxRecDepth 100000
namespace Go.aL
open Go Go.Proofs Go.fw
structure PA (c : Cx) (H : List aa) (x y : Nat) (i k : Int) (G : List aa) : Prop where
 du : Du c G
 gx : G[x]? = some (.cells [bo (c.kd i)])
 gy : G[y]? = some (.cells [bo (c.kd k)])
 g6 : G[H.length]? = some (.cells [.int .i64 0, .int .i64 0, .ah, .ah])
 len : G.length = H.length + 3
 up : ∀ j, j < H.length → j ≠ c.e → j ≠ c.g → G[j]? = H[j]?
theorem PA.call {c : Cx} {H G G' : List aa} {x y : Nat} {i k : Int} (hD : Du c H) (w : XY H x y) (h : PA c H x y i k G) (hU : Up c G G') (jb : Du c G') : PA c H x y i k G' := by
 obtain ⟨l1, l2, l3⟩ := hD.lt
 obtain ⟨w1, w2, w3, w4⟩ := w
 exact ⟨jb, by rw [hU.get x (by omega) (by omega), h.gx], by rw [hU.get y (by omega) (by omega), h.gy], by rw [hU.get _ (by omega) (by omega), h.g6], by rw [hU.len, h.len], fun j h1 h2 h3 => by rw [hU.get j h2 h3, h.up j h1 h2 h3]⟩
theorem PA.rL {c : Cx} {H G : List aa} {x y : Nat} {i k : Int} (w : XY H x y) (h : PA c H x y i k G) (es : List AV) : PB c H x y i k es (G ++ [.cells es]) := by
 obtain ⟨w1, w2, w3, w4⟩ := w
 have hl := h.len
 exact ⟨h.du.rL _, by rw [List.getElem?_append_left (by omega), h.gx], by rw [List.getElem?_append_left (by omega), h.gy], by rw [List.getElem?_append_left (by omega), h.g6], by rw [← hl]; simp, by simp [hl], fun j h1 h2 h3 => by rw [List.getElem?_append_left (by omega), h.up j h1 h2 h3]⟩
theorem X4 (r : Int) (φ : AV → Prop) : cj [.int .i64 0, .int .i64 0, .ah, .ah] [(0, 1, .int .i64 r)] φ = φ (.agg [.int .i64 r, .int .i64 0, .ah, .ah]) := by
 simp only [cj, gk, eq_iff_iff]
 constructor
 ·rintro ⟨_, _, _, h⟩; exact h
 ·exact fun h => ⟨rfl, rfl, by simp, h⟩
theorem PB.fin {c : Cx} {H G : List aa} {x y : Nat} {i k : Int} {r i' : Int} {to : List Int} {l : List PP} (hD : Du c H) (h : PB c H x y i k [.int .i64 r, .int .i64 i', sY to, ox l] G) (hs : Sh c.O (.mk r i' to l) (c.tm i) (c.tm k)) :
 xO H.length (dS (.mk r i' to l)) (G.set H.length (.cells (dS (.mk r i' to l)).cells)) (WK c i k H) := by
 obtain ⟨l1, l2, l3⟩ := hD.lt
 refine Pd (G := (G.set H.length (.cells (dS (.mk r i' to l)).cells)).take H.length) rfl (fH _ _) rfl ⟨_, rfl, hs, ⟨?_, fun j h1 h2 => ?_⟩, ?_⟩
 ·have := h.len; simp; omega
 ·rw [List.getElem?_take]
  split
  ·rename_i hj; rw [List.getElem?_set_ne (by omega), h.up j hj h1 h2]
  ·rename_i hj; rw [List.getElem?_eq_none (by omega)]
 ·exact (h.du.set (by omega) (by omega) (by omega)).take l1 l2 l3
theorem CF (p : PP) (φ : AV → Prop) : db (some (.cells (dS p).cells)) (some 4) 0 φ = φ (dS p) := by
 obtain ⟨_, h2, _, _, _, _, h7, h8, _⟩ := aX p
 simp only [db, List.drop_zero, h2, List.take_of_length_le (Nat.le_of_eq h2), h8, h7]
 simp
theorem PF (p : PP) : ai [AV.int .i64 0, .int .i64 0, .ah, .ah] 0 (dS p).cells = (dS p).cells := by rw [nA]; rfl
theorem tZ {c : Cx} (hc : c.Ok) {i k : Int} (hi : c.dF i) (hk : c.dF k) : FF c i k := by
 have ki := hc.kids i hi
 have kk := hc.kids k hk
 exact ⟨fun H hD => Wb hc hi (fun x hx => jI hc (ki.2 x hx) hk) (fun x hx => jJ hc (ki.2 x hx) hk) hD, fun H hD => Wc hc hi hk (fun y hy => jJ hc hi (kk.2 y hy)) hD,
  fun H hD => We hc hi hk (fun y hy => jJ hc hi (kk.2 y hy)) (fun x hx y hy => jI hc (ki.2 x hx) (kk.2 y hy)) (fun x hx y hy => jJ hc (ki.2 x hx) (kk.2 y hy)) hD,
  fun H hD => Wk hc hi hk (fun x hx y hy => jI hc (ki.2 x hx) (kk.2 y hy)) (fun x hx y hy => jJ hc (ki.2 x hx) (kk.2 y hy)) hD⟩
theorem WL {c : Cx} (hc : c.Ok) {i k : Int} (hi : c.dF i) (hk : c.dF k) (hR : R c.O (c.tm i) (c.tm k)) (hr : gE c i k 1) (jM : ∀ m, m < 1 → ¬ gE c i k m) (hp : ∀ x ∈ c.kd i, R c.O (c.tm x) (c.tm k) → oz c x k) : oz c i k := by
 intro H hD
 refine CC.2.calls rfl ?_
 simp only [CC, aJ]
 have k2 : ∀ l, (bo l).ae = bo l := fun l => (aF l).2.1
 have ki := hc.kids i hi
 have kk := hc.kids k hk
 have l1 := hc.kl i hi
 have l2 := hc.kl k hk
 obtain ⟨a1, a2, a3, a4, a5⟩ := aF (c.kd i)
 obtain ⟨b1, b2, b3, b4, b5⟩ := aF (c.kd k)
 have ii : IL (bo (c.kd i)) (c.kd i) := .inl rfl
 have ik : IL (bo (c.kd k)) (c.kd k) := .inl rfl
 have ei : (c.nd.getD i.toNat default).snd = c.kd i := rfl
 have ek : (c.nd.getD k.toNat default).snd = c.kd k := rfl
 obtain ⟨m1, m2, m3⟩ := hD.lt
 have ed : ∀ X : List aa, (H ++ X)[c.d]? = H[c.d]? := fun X => List.getElem?_append_left m1
 have spv : ∀ x : AV, ai [AV.ah] 0 [x] = [x] := fun x => rfl
 have spq : ai [AV.int .i64 0, .int .i64 0, .ah, .ah] 0 [AV.int .i64 0, .int .i64 0, .ah, .ah] = [AV.int .i64 0, .int .i64 0, .ah, .ah] := rfl
 simp +contextual only [sZ, Nat.reduceEqDiff, Nat.reduceAdd, ↓reduceIte, reduceCtorEq]
 refine kT (K1 := fun e G => get e 1 = .int .i64 i ∧ get e 3 = .aj (.ptr c.d 0) ∧ get e 5 = .aj (.int .i64 k) ∧ get e 6 = .ptr H.length 0 ∧ ∃ x y, get e 7 = .ptr x 0 ∧ get e 8 = .ptr y 0 ∧ XY H x y ∧ PA c H x y i k G) ?_ ?_
 ·have P0 : aa := .cells [.int .i64 0, .int .i64 0, .ah, .ah]
  have A : ∃ x y, AV.ptr (H.length + 1) 0 = .ptr x 0 ∧ AV.ptr (H.length + 2) 0 = .ptr y 0 ∧ XY H x y ∧ PA c H x y i k (H ++ [.cells [.int .i64 0, .int .i64 0, .ah, .ah], .cells [bo (c.kd i)], .cells [bo (c.kd k)]]) :=
   ⟨_, _, rfl, rfl, ⟨by omega, by omega, by omega, by omega⟩, ⟨hD.rL _, by simp, by simp, by simp, by simp, fun j hj _ _ => List.getElem?_append_left hj⟩⟩
  have B : ∃ x y, AV.ptr (H.length + 2) 0 = .ptr x 0 ∧ AV.ptr (H.length + 1) 0 = .ptr y 0 ∧ XY H x y ∧ PA c H x y i k (H ++ [.cells [.int .i64 0, .int .i64 0, .ah, .ah], .cells [bo (c.kd k)], .cells [bo (c.kd i)]]) :=
   ⟨_, _, rfl, rfl, ⟨by omega, by omega, by omega, by omega⟩, ⟨hD.rL _, by simp, by simp, by simp, by simp, fun j hj _ _ => List.getElem?_append_left hj⟩⟩
  simp +contextual only [ed, hD.d, lV, C1, cv, bT, k2, ei, ek, a1, a3, a4, a5, b1, b3, b4, b5, List.map_cons, List.map_nil, spv, List.all_cons, List.all_nil, Bool.and_true, bM, cW, sZ, Nat.reduceEqDiff, Nat.reduceAdd, Nat.reduceLT, ↓reduceIte]
  refine ⟨hi, ?_⟩
  repeat' apply And.intro
  all_goals first | exact hk.1 | exact hk.2 | exact A | exact B
 ·rintro e G ⟨e1, e3, e5, e6, x, y, e7, e8, w, Ak⟩
  simp +contextual only [e1, e3, e5, e6, e7, e8, sZ, Nat.reduceEqDiff, ↓reduceIte]
  refine aO 0 (fun m (G : List aa) => PA c H x y i k G)
   (fun m G => [(1, .int .i64 i), (3, .aj (.ptr c.d 0)), (5, .aj (.int .i64 k)), (6, .ptr H.length 0), (7, .ptr x 0), (8, .ptr y 0), (9, .int .i64 ((m + 1 : Nat) : Int))]) (fun m G => G) G ⟨Ak, aB _ _ _⟩ fun m G hm Ak => ?_
  have hf : dO.cells[m + 1]? = some (.fn (.func (182 + (m + 1))) [] []) := by
   have : m = 0 ∨ m = 1 ∨ m = 2 ∨ m = 3 := by omega
   rcases this with rfl | rfl | rfl | rfl <;> rfl
  have en := TA (m + 1) _ hf (by omega)
  simp +contextual only [sZ]
  refine aI Ke ?_
  simp +contextual only [lO, en _ rfl, sZ, Nat.reduceEqDiff, Nat.reduceAdd, ↓reduceIte, reduceCtorEq]
  refine ag ((tZ hc hi hk).at (n := m + 1) (by omega) (by omega) Ak.du) ?_
  rintro r G1 ⟨z, rfl, hz, hU, mA⟩
  have po := Ak.call hD w hU mA
  by_cases Pk : m = 0
  rotate_left
  ·have : z = false := by
    cases z with
    | false => rfl
    | true => exact absurd (hz.1 rfl) (jM (m + 1) (by omega))
   subst this
   simp +contextual only [Bool.not_false, sZ, Nat.reduceEqDiff, ↓reduceIte]
   exact ⟨m + 1, G1, ⟨by omega, po⟩, by omega, aH (by rw [ax (m + 1) (by omega)]) rfl⟩
  subst Pk
  have : z = true := hz.2 hr
  subst this
  have w7 := po.len
  have kv := fun es => po.rL w es
  have SQ := fun es => (kv es).gp
  have NL := fun es => (kv es).gx
  have WM := fun es => (kv es).gy
  have bQ : ∀ (o o' : aa), (G1 ++ [o]).set (H.length + 3) o' = G1 ++ [o'] := fun o o' => by rw [← w7]; simp
  have ec : ((1 : Nat) : Int) = 1 := rfl
  have zf : List.map AV.ae [AV.int .i64 (1 : Int), .int .i64 0, .ah, .ah] = [.int .i64 (1 : Int), .int .i64 0, .ah, .ah] := rfl
  have zf0 : List.map AV.ae [AV.int .i64 0, .int .i64 0, .ah, .ah] = [.int .i64 0, .int .i64 0, .ah, .ah] := rfl
  have e86 : ∀ a b : Int, decide (a = b) = decide (a = b) := fun _ _ => rfl
  simp +contextual only [k2, decide_true, Bool.not_true, Bool.not_true, X4, w7, SQ, bQ, ec, zf, zf0, HK, NL, sZ, Nat.reduceEqDiff, Nat.reduceAdd, Nat.reduceLT, ↓reduceIte, reduceCtorEq]
  have l7 := kv [.int .i64 1, .int .i64 0, .ah, .ah]
  generalize G1 ++ [aa.cells [AV.int .i64 1, .int .i64 0, .ah, .ah]] = G2 at l7 ⊢
  have fJ : ∃ z ∈ c.kd i, E c.O (c.tm z) (c.tm k) ∨ R c.O (c.tm z) (c.tm k) := by
   rcases hr with h | h | h | h
   ·exact h.2
   all_goals (exact absurd h.1 (by decide))
  refine ag (Ka (SD.z3 c G2) ii (by omega) 147 [] [.aj (.ptr c.d 0), .aj (.int .i64 k)] rfl rfl (Q := fun z => E c.O (c.tm z) (c.tm k) ∨ R c.O (c.tm z) (c.tm k))
   (fun z hz G hG => (Z4 (jI hc (ki.2 z hz) hk) (jJ hc (ki.2 z hz) hk) hG.1).mono fun r H' hr => hr.sb hG) ⟨l7.du, Up.refl c _⟩) ?_
  rintro r G3 ⟨hG3, tu⟩
  rcases tu with ⟨_, tu⟩ | ⟨q, rfl, hq, hQ, _⟩
  ·obtain ⟨z, hz, h⟩ := fJ
   exact absurd h (tu z hz)
  have Aj := l7.call hD w hG3.2 hG3.1
  have pC := fun es => Aj.set (es' := es) hD w
  have gp3 := Aj.gp
  have gps := fun es => (pC es).gp
  have gxs := fun es => (pC es).gx
  have g6s := fun es => (pC es).g6
  have iF : (c.kd i).getD q 0 ∈ c.kd i := aP hq
  have un1 : List.map AV.ae [AV.int .i64 (q : Int)] = [.int .i64 (q : Int)] := rfl
  simp +contextual only [k2, ii.lens, ii.idx, gp3, SP, un1, gps, gxs, Int.toNat_natCast, sZ, Nat.reduceEqDiff, Nat.reduceAdd, Nat.reduceLT, Nat.reduceLeDiff, ↓reduceIte, reduceCtorEq]
  refine ⟨by omega, ?_⟩
  refine ag (jI hc (ki.2 _ iF) hk _ (pC _).du) ?_
  rintro r G4 ⟨v, rfl, hv, Tw, Tx⟩
  have vQ := (pC _).call hD w Tw Tx
  have gp4 := vQ.gp
  have gx4 := vQ.gx
  have g64 := vQ.g6
  have cod : ∀ l : List PP, ((c.tm i).l.getD q default) = c.tm ((c.kd i).getD q 0) := fun _ => by rw [← ki.1, cb hq]
  have klen : (c.tm i).l.length = (c.kd i).length := by rw [← ki.1]; simp
  have ki2 : (c.tm i).k = 2 := by
   have := (rS hc hi hk).1
   have hh := (nl.1 (show R c.O (c.tm i) (c.tm k) from hR)).1
   exact hh
  cases v with
  | true =>
    have hs : Sh c.O (.mk 1 q [] []) (c.tm i) (c.tm k) := by
     rw [Z2 rfl ki2]
     refine ⟨rfl, ⟨by show (0 : Int) ≤ q; omega, by show (q : Int) < _; omega⟩, .inl ⟨rfl, ?_⟩⟩
     show E c.O ((c.tm i).l.getD (q : Int).toNat default) (c.tm k)
     rw [Int.toNat_natCast, cod []]; exact hv.1 rfl
    have e4 : (AV.int .i64 (q : Int)) = AV.int .i64 (q : Int) := rfl
    have lp := PD 1 q [] []
    obtain ⟨q1, q2, q3, q4, q5, q6, q7, q8, q9⟩ := aX (.mk 1 q [] [])
    have lp2 := CF (.mk 1 q [] [])
    have Kv : (G4.set H.length (.cells (dS (.mk 1 q [] [])).cells))[H.length]? = some (.cells (dS (.mk 1 q [] [])).cells) := by rw [List.getElem?_set_self (aN g64)]
    change ∀ φ, db (some (.cells [.int .i64 1, .int .i64 (q : Int), .ah, .ah])) (some 4) 0 φ = φ (dS (.mk 1 q [] [])) at lp
    simp +contextual only [Bool.not_true, gp4, lp, g64, q1, q2, q3, q9, PF, Kv, lp2, sZ, Nat.reduceEqDiff, Nat.reduceAdd, ↓reduceIte, reduceCtorEq]
    refine ⟨by first | exact cq (fH _ _) | omega, vQ.fin hD hs⟩
  | false =>
    have hRx : R c.O (c.tm ((c.kd i).getD q 0)) (c.tm k) := hQ.resolve_left fun h => absurd (hv.2 h) (by simp)
    simp +contextual only [k2, ii.lens, ii.idx, Bool.not_false, gp4, gx4, Int.toNat_natCast, sZ, Nat.reduceEqDiff, Nat.reduceAdd, Nat.reduceLT, ↓reduceIte, reduceCtorEq]
    refine ⟨by omega, ag (hp _ iF hRx _ vQ.du) ?_⟩
    rintro r G5 ⟨u, rfl, hu, WN, WO⟩
    have Kw := vQ.call hD w WN WO
    have gp5 := Kw.gp
    have EA := fun es => Kw.set (es' := es) hD w
    have gp6 := fun es => (EA es).gp
    have g66 := fun es => (EA es).g6
    have hs : Sh c.O (.mk 1 q [] [u]) (c.tm i) (c.tm k) := by
     rw [Z2 rfl ki2]
     refine ⟨rfl, ⟨by show (0 : Int) ≤ q; omega, by show (q : Int) < _; omega⟩, .inr ⟨u, rfl, ?_⟩⟩
     show Sh c.O u ((c.tm i).l.getD (q : Int).toNat default) (c.tm k)
     rw [Int.toNat_natCast, cod []]; exact hu
    have lp := PD 1 q [] [u]
    change ∀ φ, db (some (.cells [.int .i64 1, .int .i64 (q : Int), .ah, .aq 4 [dS u]])) (some 4) 0 φ = φ (dS (.mk 1 q [] [u])) at lp
    obtain ⟨q1, q2, q3, q4, q5, q6, q7, q8, q9⟩ := aX (.mk 1 q [] [u])
    obtain ⟨u1, u2, u3, u4, u5, u6, u7, u8, u9⟩ := aX u
    have lp2 := CF (.mk 1 q [] [u])
    have Kv := fun es => List.getElem?_set_self (a := aa.cells (dS (.mk 1 q [] [u])).cells) (aN (g66 es))
    simp +contextual only [gp5, gp6, g66, lp, q1, q2, q3, q9, PF, Kv, lp2, u1, u2, u6, jj, s3, sZ, Nat.reduceEqDiff, Nat.reduceAdd, Nat.reduceLT, ↓reduceIte, reduceCtorEq]
    refine ⟨by first | exact cq (fH _ _) | omega, ?_⟩
    exact PB.fin (to := []) (l := [u]) hD (EA _) hs
end Go.aL
end
section
set_option maxRecDepth 100000
namespace Go.aL
open Go Go.Proofs Go.fw
theorem WQ {c : Cx} (hc : c.Ok) {i k : Int} (hi : c.dF i) (hk : c.dF k) (hR : R c.O (c.tm i) (c.tm k)) (hr : gE c i k 2) (jM : ∀ m, m < 2 → ¬ gE c i k m) (hp : ∀ y ∈ c.kd k, R c.O (c.tm i) (c.tm y) → oz c i y) : oz c i k := by
 intro H hD
 refine CC.2.calls rfl ?_
 simp only [CC, aJ]
 have k2 : ∀ l, (bo l).ae = bo l := fun l => (aF l).2.1
 have ki := hc.kids i hi
 have kk := hc.kids k hk
 have l1 := hc.kl i hi
 have l2 := hc.kl k hk
 obtain ⟨a1, a2, a3, a4, a5⟩ := aF (c.kd i)
 obtain ⟨b1, b2, b3, b4, b5⟩ := aF (c.kd k)
 have ii : IL (bo (c.kd i)) (c.kd i) := .inl rfl
 have ik : IL (bo (c.kd k)) (c.kd k) := .inl rfl
 have ei : (c.nd.getD i.toNat default).snd = c.kd i := rfl
 have ek : (c.nd.getD k.toNat default).snd = c.kd k := rfl
 obtain ⟨m1, m2, m3⟩ := hD.lt
 have ed : ∀ X : List aa, (H ++ X)[c.d]? = H[c.d]? := fun X => List.getElem?_append_left m1
 have spv : ∀ x : AV, ai [AV.ah] 0 [x] = [x] := fun x => rfl
 have spq : ai [AV.int .i64 0, .int .i64 0, .ah, .ah] 0 [AV.int .i64 0, .int .i64 0, .ah, .ah] = [AV.int .i64 0, .int .i64 0, .ah, .ah] := rfl
 simp +contextual only [sZ, Nat.reduceEqDiff, Nat.reduceAdd, ↓reduceIte, reduceCtorEq]
 refine kT (K1 := fun e G => get e 1 = .int .i64 i ∧ get e 3 = .aj (.ptr c.d 0) ∧ get e 5 = .aj (.int .i64 k) ∧ get e 6 = .ptr H.length 0 ∧ ∃ x y, get e 7 = .ptr x 0 ∧ get e 8 = .ptr y 0 ∧ XY H x y ∧ PA c H x y i k G) ?_ ?_
 ·have P0 : aa := .cells [.int .i64 0, .int .i64 0, .ah, .ah]
  have A : ∃ x y, AV.ptr (H.length + 1) 0 = .ptr x 0 ∧ AV.ptr (H.length + 2) 0 = .ptr y 0 ∧ XY H x y ∧ PA c H x y i k (H ++ [.cells [.int .i64 0, .int .i64 0, .ah, .ah], .cells [bo (c.kd i)], .cells [bo (c.kd k)]]) :=
   ⟨_, _, rfl, rfl, ⟨by omega, by omega, by omega, by omega⟩, ⟨hD.rL _, by simp, by simp, by simp, by simp, fun j hj _ _ => List.getElem?_append_left hj⟩⟩
  have B : ∃ x y, AV.ptr (H.length + 2) 0 = .ptr x 0 ∧ AV.ptr (H.length + 1) 0 = .ptr y 0 ∧ XY H x y ∧ PA c H x y i k (H ++ [.cells [.int .i64 0, .int .i64 0, .ah, .ah], .cells [bo (c.kd k)], .cells [bo (c.kd i)]]) :=
   ⟨_, _, rfl, rfl, ⟨by omega, by omega, by omega, by omega⟩, ⟨hD.rL _, by simp, by simp, by simp, by simp, fun j hj _ _ => List.getElem?_append_left hj⟩⟩
  simp +contextual only [ed, hD.d, lV, C1, cv, bT, k2, ei, ek, a1, a3, a4, a5, b1, b3, b4, b5, List.map_cons, List.map_nil, spv, List.all_cons, List.all_nil, Bool.and_true, bM, cW, sZ, Nat.reduceEqDiff, Nat.reduceAdd, Nat.reduceLT, ↓reduceIte]
  refine ⟨hi, ?_⟩
  repeat' apply And.intro
  all_goals first | exact hk.1 | exact hk.2 | exact A | exact B
 ·rintro e G ⟨e1, e3, e5, e6, x, y, e7, e8, w, Ak⟩
  simp +contextual only [e1, e3, e5, e6, e7, e8, sZ, Nat.reduceEqDiff, ↓reduceIte]
  refine aO 1 (fun m (G : List aa) => PA c H x y i k G)
   (fun m G => [(1, .int .i64 i), (3, .aj (.ptr c.d 0)), (5, .aj (.int .i64 k)), (6, .ptr H.length 0), (7, .ptr x 0), (8, .ptr y 0), (9, .int .i64 ((m + 1 : Nat) : Int))]) (fun m G => G) G ⟨Ak, aB _ _ _⟩ fun m G hm Ak => ?_
  have hf : dO.cells[m + 1]? = some (.fn (.func (182 + (m + 1))) [] []) := by
   have : m = 0 ∨ m = 1 ∨ m = 2 ∨ m = 3 := by omega
   rcases this with rfl | rfl | rfl | rfl <;> rfl
  have en := TA (m + 1) _ hf (by omega)
  simp +contextual only [sZ]
  refine aI Ke ?_
  simp +contextual only [lO, en _ rfl, sZ, Nat.reduceEqDiff, Nat.reduceAdd, ↓reduceIte, reduceCtorEq]
  refine ag ((tZ hc hi hk).at (n := m + 1) (by omega) (by omega) Ak.du) ?_
  rintro r G1 ⟨z, rfl, hz, hU, mA⟩
  have po := Ak.call hD w hU mA
  by_cases Pk : m = 1
  rotate_left
  ·have : z = false := by
    cases z with
    | false => rfl
    | true => exact absurd (hz.1 rfl) (jM (m + 1) (by omega))
   subst this
   simp +contextual only [Bool.not_false, sZ, Nat.reduceEqDiff, ↓reduceIte]
   exact ⟨m + 1, G1, ⟨by omega, po⟩, by omega, aH (by rw [ax (m + 1) (by omega)]) rfl⟩
  subst Pk
  have : z = true := hz.2 hr
  subst this
  have w7 := po.len
  have kv := fun es => po.rL w es
  have SQ := fun es => (kv es).gp
  have NL := fun es => (kv es).gx
  have WM := fun es => (kv es).gy
  have bQ : ∀ (o o' : aa), (G1 ++ [o]).set (H.length + 3) o' = G1 ++ [o'] := fun o o' => by rw [← w7]; simp
  have ec : ((2 : Nat) : Int) = 2 := rfl
  have zf : List.map AV.ae [AV.int .i64 (2 : Int), .int .i64 0, .ah, .ah] = [.int .i64 (2 : Int), .int .i64 0, .ah, .ah] := rfl
  have zf0 : List.map AV.ae [AV.int .i64 0, .int .i64 0, .ah, .ah] = [.int .i64 0, .int .i64 0, .ah, .ah] := rfl
  have e86 : ∀ a b : Int, decide (a = b) = decide (a = b) := fun _ _ => rfl
  simp +contextual only [k2, ik.aM, ik.len (by omega), decide_false, Bool.not_true, Bool.not_true, X4, w7, SQ, bQ, ec, zf, zf0, HK, WM, sZ, Nat.reduceEqDiff, Nat.reduceAdd, Nat.reduceLT, ↓reduceIte, Int.reduceEq]
  have l7 := kv [.int .i64 2, .int .i64 0, .ah, .ah]
  generalize G1 ++ [aa.cells [AV.int .i64 2, .int .i64 0, .ah, .ah]] = G2 at l7 ⊢
  have ki2 : (c.tm i).k = 2 := (nl.1 hR).1
  have uk : rR c i k := by
   rcases hr with h | h | h | h
   ·exact absurd h.1 (by decide)
   ·exact h.2
   all_goals (exact absurd h.1 (by decide))
  obtain ⟨Ep, a8, hall0⟩ := uk
  have kk2 : (c.tm k).k = 2 := of_decide_eq_true Ep
  have SR : ∀ qs, kV (Sh c.O) qs (c.tm i) ((c.kd k).map c.tm) → Sh c.O (.mk 2 0 [] qs) (c.tm i) (c.tm k) := by
   intro qs hq
   rw [Sh2 rfl ki2]
   rw [kk.1] at hq
   refine ⟨rfl, rfl, kk2, ?_, hq⟩
   rw [ph, if_pos kk2, ph, if_pos ki2] at a8; exact a8
  refine kL (Ez hD w (l0 := []) (by simp) ik l2 (fun z hz => hp z hz (hall0 z hz)) l7) ?_
  rintro e1 e G6 ⟨rfl, f6, f10, qs, jo, nB⟩
  replace nB : PB c H x y i k [.int .i64 2, .int .i64 0, .ah, ox qs] G6 := nB
  have gp6 := nB.gp
  have g66 := nB.g6
  have lp := PD 2 0 [] qs
  have tv0 : sY [] = AV.ah := rfl
  rw [tv0] at lp
  have hs : Sh c.O (.mk 2 0 [] qs) (c.tm i) (c.tm k) := SR qs jo
  obtain ⟨q1, q2, q3, q4, q5, q6, q7, q8, q9⟩ := aX (.mk 2 0 [] qs)
  have lp2 := CF (.mk 2 0 [] qs)
  have Kv := List.getElem?_set_self (a := aa.cells (dS (.mk 2 0 [] qs)).cells) (aN g66)
  have N6 : ak (H.length + 1) (dS (.mk 2 0 [] qs)).cells = true := cq (fH _ _)
  have kG := PB.fin (to := []) (l := qs) hD nB hs
  simp +contextual only [f6, f10, gp6, g66, lp, q1, q2, q3, q9, PF, Kv, lp2, N6, sZ, Nat.reduceEqDiff, Nat.reduceAdd, ↓reduceIte, reduceCtorEq]
  first | exact kG | exact ⟨by omega, kG⟩ | exact ⟨trivial, kG⟩
end Go.aL
end
section
set_option maxRecDepth 100000
namespace Go.aL
open Go Go.Proofs Go.fw
theorem WR {c : Cx} (hc : c.Ok) {i k : Int} (hi : c.dF i) (hk : c.dF k) (hR : R c.O (c.tm i) (c.tm k)) (hr : gE c i k 3) (jM : ∀ m, m < 3 → ¬ gE c i k m) (hp : ∀ y ∈ c.kd k, R c.O (c.tm i) (c.tm y) → oz c i y) (SS : ∀ x ∈ c.kd i, ∀ y ∈ c.kd k, R c.O (c.tm x) (c.tm y) → oz c x y) : oz c i k := by
 intro H hD
 refine CC.2.calls rfl ?_
 simp only [CC, aJ]
 have k2 : ∀ l, (bo l).ae = bo l := fun l => (aF l).2.1
 have ki := hc.kids i hi
 have kk := hc.kids k hk
 have l1 := hc.kl i hi
 have l2 := hc.kl k hk
 obtain ⟨a1, a2, a3, a4, a5⟩ := aF (c.kd i)
 obtain ⟨b1, b2, b3, b4, b5⟩ := aF (c.kd k)
 have ii : IL (bo (c.kd i)) (c.kd i) := .inl rfl
 have ik : IL (bo (c.kd k)) (c.kd k) := .inl rfl
 have ei : (c.nd.getD i.toNat default).snd = c.kd i := rfl
 have ek : (c.nd.getD k.toNat default).snd = c.kd k := rfl
 obtain ⟨m1, m2, m3⟩ := hD.lt
 have ed : ∀ X : List aa, (H ++ X)[c.d]? = H[c.d]? := fun X => List.getElem?_append_left m1
 have spv : ∀ x : AV, ai [AV.ah] 0 [x] = [x] := fun x => rfl
 have spq : ai [AV.int .i64 0, .int .i64 0, .ah, .ah] 0 [AV.int .i64 0, .int .i64 0, .ah, .ah] = [AV.int .i64 0, .int .i64 0, .ah, .ah] := rfl
 simp +contextual only [sZ, Nat.reduceEqDiff, Nat.reduceAdd, ↓reduceIte, reduceCtorEq]
 refine kT (K1 := fun e G => get e 1 = .int .i64 i ∧ get e 3 = .aj (.ptr c.d 0) ∧ get e 5 = .aj (.int .i64 k) ∧ get e 6 = .ptr H.length 0 ∧ ∃ x y, get e 7 = .ptr x 0 ∧ get e 8 = .ptr y 0 ∧ XY H x y ∧ PA c H x y i k G) ?_ ?_
 ·have P0 : aa := .cells [.int .i64 0, .int .i64 0, .ah, .ah]
  have A : ∃ x y, AV.ptr (H.length + 1) 0 = .ptr x 0 ∧ AV.ptr (H.length + 2) 0 = .ptr y 0 ∧ XY H x y ∧ PA c H x y i k (H ++ [.cells [.int .i64 0, .int .i64 0, .ah, .ah], .cells [bo (c.kd i)], .cells [bo (c.kd k)]]) :=
   ⟨_, _, rfl, rfl, ⟨by omega, by omega, by omega, by omega⟩, ⟨hD.rL _, by simp, by simp, by simp, by simp, fun j hj _ _ => List.getElem?_append_left hj⟩⟩
  have B : ∃ x y, AV.ptr (H.length + 2) 0 = .ptr x 0 ∧ AV.ptr (H.length + 1) 0 = .ptr y 0 ∧ XY H x y ∧ PA c H x y i k (H ++ [.cells [.int .i64 0, .int .i64 0, .ah, .ah], .cells [bo (c.kd k)], .cells [bo (c.kd i)]]) :=
   ⟨_, _, rfl, rfl, ⟨by omega, by omega, by omega, by omega⟩, ⟨hD.rL _, by simp, by simp, by simp, by simp, fun j hj _ _ => List.getElem?_append_left hj⟩⟩
  simp +contextual only [ed, hD.d, lV, C1, cv, bT, k2, ei, ek, a1, a3, a4, a5, b1, b3, b4, b5, List.map_cons, List.map_nil, spv, List.all_cons, List.all_nil, Bool.and_true, bM, cW, sZ, Nat.reduceEqDiff, Nat.reduceAdd, Nat.reduceLT, ↓reduceIte]
  refine ⟨hi, ?_⟩
  repeat' apply And.intro
  all_goals first | exact hk.1 | exact hk.2 | exact A | exact B
 ·rintro e G ⟨e1, e3, e5, e6, x, y, e7, e8, w, Ak⟩
  simp +contextual only [e1, e3, e5, e6, e7, e8, sZ, Nat.reduceEqDiff, ↓reduceIte]
  refine aO 2 (fun m (G : List aa) => PA c H x y i k G)
   (fun m G => [(1, .int .i64 i), (3, .aj (.ptr c.d 0)), (5, .aj (.int .i64 k)), (6, .ptr H.length 0), (7, .ptr x 0), (8, .ptr y 0), (9, .int .i64 ((m + 1 : Nat) : Int))]) (fun m G => G) G ⟨Ak, aB _ _ _⟩ fun m G hm Ak => ?_
  have hf : dO.cells[m + 1]? = some (.fn (.func (182 + (m + 1))) [] []) := by
   have : m = 0 ∨ m = 1 ∨ m = 2 ∨ m = 3 := by omega
   rcases this with rfl | rfl | rfl | rfl <;> rfl
  have en := TA (m + 1) _ hf (by omega)
  simp +contextual only [sZ]
  refine aI Ke ?_
  simp +contextual only [lO, en _ rfl, sZ, Nat.reduceEqDiff, Nat.reduceAdd, ↓reduceIte, reduceCtorEq]
  refine ag ((tZ hc hi hk).at (n := m + 1) (by omega) (by omega) Ak.du) ?_
  rintro r G1 ⟨z, rfl, hz, hU, mA⟩
  have po := Ak.call hD w hU mA
  by_cases Pk : m = 2
  rotate_left
  ·have : z = false := by
    cases z with
    | false => rfl
    | true => exact absurd (hz.1 rfl) (jM (m + 1) (by omega))
   subst this
   simp +contextual only [Bool.not_false, sZ, Nat.reduceEqDiff, ↓reduceIte]
   exact ⟨m + 1, G1, ⟨by omega, po⟩, by omega, aH (by rw [ax (m + 1) (by omega)]) rfl⟩
  subst Pk
  have : z = true := hz.2 hr
  subst this
  have w7 := po.len
  have kv := fun es => po.rL w es
  have SQ := fun es => (kv es).gp
  have NL := fun es => (kv es).gx
  have WM := fun es => (kv es).gy
  have bQ : ∀ (o o' : aa), (G1 ++ [o]).set (H.length + 3) o' = G1 ++ [o'] := fun o o' => by rw [← w7]; simp
  have ec : ((3 : Nat) : Int) = 3 := rfl
  have zf : List.map AV.ae [AV.int .i64 (3 : Int), .int .i64 0, .ah, .ah] = [.int .i64 (3 : Int), .int .i64 0, .ah, .ah] := rfl
  have zf0 : List.map AV.ae [AV.int .i64 0, .int .i64 0, .ah, .ah] = [.int .i64 0, .int .i64 0, .ah, .ah] := rfl
  have e86 : ∀ a b : Int, decide (a = b) = decide (a = b) := fun _ _ => rfl
  simp +contextual only [decide_true, decide_false, Bool.not_true, Bool.not_true, X4, w7, SQ, bQ, ec, zf, zf0, HK, sZ, Nat.reduceEqDiff, Nat.reduceAdd, ↓reduceIte, Int.reduceEq]
  have l7 := kv [.int .i64 3, .int .i64 0, .ah, .ah]
  generalize G1 ++ [aa.cells [AV.int .i64 3, .int .i64 0, .ah, .ah]] = G2 at l7 ⊢
  have ki2 : (c.tm i).k = 2 := (nl.1 hR).1
  have Zt : z4 c i k := by
   rcases hr with h | h | h | h
   ·exact absurd h.1 (by decide)
   ·exact absurd h.1 (by decide)
   ·exact h.2
   ·exact absurd h.1 (by decide)
  obtain ⟨Ks, Ai, hall0, n0, Z7, Y5, XQ⟩ := Zt
  have Kx := jZ.1 Ks
  have kk2 : (c.tm k).k = 2 := Kx.2.1
  have osi : dq c i = c.O.sp (c.O.pl (c.tm i).n) := by rw [dq, if_pos ki2]
  have hx : side (c.O.sp (c.O.pl (c.tm i).n)) (c.tm i).l = (bE (dq c i) (c.kd i)).map c.tm := by rw [← osi, ← ki.1, ji]
  have hy : side (c.O.sp (c.O.pl (c.tm i).n)) (c.tm k).l = (bE (dq c i) (c.kd k)).map c.tm := by rw [← osi, ← kk.1, ji]
  have lx : (bE (dq c i) (c.kd i)).length = (c.kd i).length := jg
  have ly : (bE (dq c i) (c.kd k)).length = (c.kd k).length := jg
  have nx : ∀ z ∈ bE (dq c i) (c.kd i), z ∈ c.kd i := fun z hz => ol.1 hz
  have ny : ∀ z ∈ bE (dq c i) (c.kd k), z ∈ c.kd k := fun z hz => ol.1 hz
  have hS : ∀ (n : Nat) (l : List PP), Sh c.O (.mk 3 n [] l) (c.tm i) (c.tm k) ↔ Ct (E c.O) (Sh c.O) n l (c.tm i) ((bE (dq c i) (c.kd i)).map c.tm) ((bE (dq c i) (c.kd k)).map c.tm) (c.tm k).l := by
   intro n l
   rw [Sh3 rfl ki2, hx, hy]
   rw [osi] at Ai
   exact ⟨fun h => h.2.2.2.2, fun h => ⟨rfl, kk2, Kx.2.2, Ai, h⟩⟩
  refine ag (pi hc hi l7.du) ?_
  rintro r G3 ⟨rfl, rfl⟩
  have gx0 := l7.gx
  have gy0 := l7.gy
  simp +contextual only [k2, dr, fh, fj, fm, gx0, sZ, Nat.reduceEqDiff, Nat.reduceAdd, Nat.reduceLT, ↓reduceIte]
  refine aI (Hr (c.kd i) (dq c i) (by omega)) ?_
  simp +contextual only [k2, gy0, sZ, Nat.reduceEqDiff, Nat.reduceAdd, Nat.reduceLT, ↓reduceIte]
  refine aI (Hr (c.kd k) (dq c i) (by omega)) ?_
  generalize bE (dq c i) (c.kd i) = xs at *
  generalize bE (dq c i) (c.kd k) = ys at *
  have ix : IL (.aq 0 (ints xs)) xs := .inr rfl
  have iy : IL (.aq 0 (ints ys)) ys := .inr rfl
  simp +contextual only [sZ, Nat.reduceEqDiff, Nat.reduceAdd, ↓reduceIte, reduceCtorEq]
  refine ag (Wd ix iy (by omega) (by omega) (fun z hz z' HZ => jI hc (ki.2 z (nx z hz)) (kk.2 z' (ny z' HZ))) l7.du) ?_
  rintro r G4 ⟨n, rfl, hn, Tw, Tx⟩
  have en0 := hn.Sp Z7
  subst en0
  have vQ := l7.call hD w Tw Tx
  have gp4 := vQ.gp
  have pC := fun es => vQ.set (es' := es) hD w
  have gps := fun es => (pC es).gp
  have gxs := fun es => (pC es).gx
  have gys := fun es => (pC es).gy
  have un1 : List.map AV.ae [AV.int .i64 (n : Int)] = [.int .i64 (n : Int)] := rfl
  have hLS : ∀ l, Ct (E c.O) (Sh c.O) n l (c.tm i) (xs.map c.tm) (ys.map c.tm) (c.tm k).l ↔ (if (n : Int) = ys.length then kV (Sh c.O) l (c.tm i) ((c.kd k).map c.tm) else ∃ q r, l = q :: r ∧ Sh c.O q (c.tm (xs.getD n 0)) (c.tm (ys.getD n 0)) ∧ kV (Sh c.O) r (c.tm i) ((c.kd k).map c.tm)) := by
   intro l
   rw [WH (kd := c.kd k) kk.1]
   have h1 : (0 : Int) ≤ n ∧ (n : Int) < xs.length ∧ (n : Int) ≤ ys.length := ⟨by omega, by omega, by have := hn.lb; omega⟩
   have h2 : ∀ j, j < (n : Int).toNat → E c.O (c.tm (xs.getD j 0)) (c.tm (ys.getD j 0)) := fun j hj => hn.eq j (by omega)
   rw [Int.toNat_natCast]
   exact ⟨fun h => h.2.2, fun h => ⟨h1, h2, h⟩⟩
  by_cases hny : n < ys.length
  ·have n4 : ((n : Int) < ys.length) = True := eq_true (by omega)
   simp +contextual only [decide_true, gp4, SP, un1, gps, iy.aM, iy.len (by omega), n4, ix.idx, iy.idx, ix.lens, iy.lens, Int.toNat_natCast, d3, s3, List.set_set, sZ, Nat.reduceEqDiff, Nat.reduceAdd, Nat.reduceLT, Nat.reduceLeDiff, ↓reduceIte, reduceCtorEq]
   have mx := nx _ (aP (l := xs) (i := n) (by omega))
   have my := ny _ (aP hny)
   have Dz : oz c (xs.getD n 0) (ys.getD n 0) := SS _ mx _ my (XQ.resolve_left (by omega))
   have SR : ∀ u qs, Sh c.O u (c.tm (xs.getD n 0)) (c.tm (ys.getD n 0)) → kV (Sh c.O) qs (c.tm i) ((c.kd k).map c.tm) → Sh c.O (.mk 3 n [] (u :: qs)) (c.tm i) (c.tm k) := by
    intro u qs hu hq
    rw [hS, hLS, if_neg (by omega)]; exact ⟨u, qs, rfl, hu, hq⟩
   repeat' apply And.intro
   all_goals first | omega | skip
   all_goals
    refine ag (Dz _ (pC _).du) ?_
    rintro r G5 ⟨u, rfl, hu, WN, WO⟩
    replace SR := fun qs => SR u qs hu
    have Kw := (pC _).call hD w WN WO
    have gp5 := Kw.gp
    have EA := fun es => Kw.set (es' := es) hD w
    have gps6 := fun es => (EA es).gp
    have gys6 := fun es => (EA es).gy
    obtain ⟨u1, u2, u3, u4, u5, u6, u7, u8, u9⟩ := aX u
    have ap1 : ∀ ψ, bF 4 64 .ah (.aq 0 [dS u]) ψ = ψ (dR ([] ++ [u])) := fun ψ => CD [] u (by simp) 0 ψ
    have ea : dR ([] ++ [u]) = [dS u] := rfl
    rw [ea] at ap1
    simp +contextual only [k2, ik.aM, ik.len (by omega), u1, u2, u6, jj, ap1, gp5, gps6, gys6, d3, s3, List.set_set, sZ, Nat.reduceEqDiff, Nat.reduceAdd, Nat.reduceLT, ↓reduceIte]
    refine kL (Ez hD w (l0 := [u]) (by simp) ik l2 (fun z hz => hp z hz (hall0 z hz)) (EA _)) ?_
    rintro e1 e G6 ⟨rfl, f6, f10, qs, jo, nB⟩
    replace nB : PB c H x y i k [.int .i64 3, .int .i64 n, .ah, ox (u :: qs)] G6 := nB
    have gp6 := nB.gp
    have g66 := nB.g6
    have lp := PD 3 n [] (u :: qs)
    have tv0 : sY [] = AV.ah := rfl
    rw [tv0] at lp
    have hs : Sh c.O (.mk 3 n [] (u :: qs)) (c.tm i) (c.tm k) := SR qs jo
    obtain ⟨q1, q2, q3, q4, q5, q6, q7, q8, q9⟩ := aX (.mk 3 n [] (u :: qs))
    have lp2 := CF (.mk 3 n [] (u :: qs))
    have Kv := List.getElem?_set_self (a := aa.cells (dS (.mk 3 n [] (u :: qs))).cells) (aN g66)
    have N6 : ak (H.length + 1) (dS (.mk 3 n [] (u :: qs))).cells = true := cq (fH _ _)
    have kG := PB.fin (to := []) (l := (u :: qs)) hD nB hs
    simp +contextual only [f6, f10, gp6, g66, lp, q1, q2, q3, q9, PF, Kv, lp2, N6, sZ, Nat.reduceEqDiff, Nat.reduceAdd, ↓reduceIte, reduceCtorEq]
    first | exact kG | exact ⟨by omega, kG⟩ | exact ⟨trivial, kG⟩
  ·have n4 : ((n : Int) < ys.length) = False := eq_false (by omega)
   have SR : ∀ qs, kV (Sh c.O) qs (c.tm i) ((c.kd k).map c.tm) → Sh c.O (.mk 3 n [] qs) (c.tm i) (c.tm k) := by
    intro qs hq
    rw [hS, hLS, if_pos (by have := hn.lb; omega)]; exact hq
   simp +contextual only [k2, ik.aM, ik.len (by omega), decide_false, gp4, SP, un1, gps, gys, iy.aM, iy.len (by omega), n4, sZ, Nat.reduceEqDiff, Nat.reduceAdd, Nat.reduceLT, Nat.reduceLeDiff, ↓reduceIte]
   refine kL (Ez hD w (l0 := []) (by simp) ik l2 (fun z hz => hp z hz (hall0 z hz)) (pC _)) ?_
   rintro e1 e G6 ⟨rfl, f6, f10, qs, jo, nB⟩
   replace nB : PB c H x y i k [.int .i64 3, .int .i64 n, .ah, ox qs] G6 := nB
   have gp6 := nB.gp
   have g66 := nB.g6
   have lp := PD 3 n [] qs
   have tv0 : sY [] = AV.ah := rfl
   rw [tv0] at lp
   have hs : Sh c.O (.mk 3 n [] qs) (c.tm i) (c.tm k) := SR qs jo
   obtain ⟨q1, q2, q3, q4, q5, q6, q7, q8, q9⟩ := aX (.mk 3 n [] qs)
   have lp2 := CF (.mk 3 n [] qs)
   have Kv := List.getElem?_set_self (a := aa.cells (dS (.mk 3 n [] qs)).cells) (aN g66)
   have N6 : ak (H.length + 1) (dS (.mk 3 n [] qs)).cells = true := cq (fH _ _)
   have kG := PB.fin (to := []) (l := qs) hD nB hs
   simp +contextual only [f6, f10, gp6, g66, lp, q1, q2, q3, q9, PF, Kv, lp2, N6, sZ, Nat.reduceEqDiff, Nat.reduceAdd, ↓reduceIte, reduceCtorEq]
   first | exact kG | exact ⟨by omega, kG⟩ | exact ⟨trivial, kG⟩
end Go.aL
end
section
set_option maxRecDepth 100000
namespace Go.aL
open Go Go.Proofs Go.fw
structure PC (c : Cx) (H : List aa) (x y : Nat) (i k : Int) (es : List AV) (o : aa) (G : List aa) : Prop where
 du : Du c G
 gx : G[x]? = some (.cells [bo (c.kd i)])
 gy : G[y]? = some (.cells [bo (c.kd k)])
 g6 : G[H.length]? = some (.cells [.int .i64 0, .int .i64 0, .ah, .ah])
 gp : G[H.length + 3]? = some (.cells es)
 go : G[H.length + 4]? = some o
 len : G.length = H.length + 5
 up : ∀ j, j < H.length → j ≠ c.e → j ≠ c.g → G[j]? = H[j]?
theorem PB.Z8 {c : Cx} {H G : List aa} {x y : Nat} {i k : Int} {es : List AV} (w : XY H x y) (h : PB c H x y i k es G) (o : aa) : PC c H x y i k es o (G ++ [o]) := by
 obtain ⟨w1, w2, w3, w4⟩ := w
 have hl := h.len
 exact ⟨h.du.rL _, by rw [List.getElem?_append_left (by omega), h.gx], by rw [List.getElem?_append_left (by omega), h.gy], by rw [List.getElem?_append_left (by omega), h.g6], by rw [List.getElem?_append_left (by omega), h.gp], by rw [← hl]; simp, by simp [hl], fun j h1 h2 h3 => by rw [List.getElem?_append_left (by omega), h.up j h1 h2 h3]⟩
theorem PC.call {c : Cx} {H G G' : List aa} {x y : Nat} {i k : Int} {es : List AV} {o : aa} (hD : Du c H) (w : XY H x y) (h : PC c H x y i k es o G) (hU : Up c G G') (jb : Du c G') : PC c H x y i k es o G' := by
 obtain ⟨l1, l2, l3⟩ := hD.lt
 obtain ⟨w1, w2, w3, w4⟩ := w
 exact ⟨jb, by rw [hU.get x (by omega) (by omega), h.gx], by rw [hU.get y (by omega) (by omega), h.gy], by rw [hU.get _ (by omega) (by omega), h.g6], by rw [hU.get _ (by omega) (by omega), h.gp], by rw [hU.get _ (by omega) (by omega), h.go], by rw [hU.len, h.len], fun j h1 h2 h3 => by rw [hU.get j h2 h3, h.up j h1 h2 h3]⟩
theorem PC.set {c : Cx} {H G : List aa} {x y : Nat} {i k : Int} {es es' : List AV} {o : aa} (hD : Du c H) (w : XY H x y) (h : PC c H x y i k es o G) : PC c H x y i k es' o (G.set (H.length + 3) (.cells es')) := by
 obtain ⟨l1, l2, l3⟩ := hD.lt
 obtain ⟨w1, w2, w3, w4⟩ := w
 have hp := aN h.gp
 exact ⟨h.du.set (by omega) (by omega) (by omega), by rw [List.getElem?_set_ne (by omega), h.gx], by rw [List.getElem?_set_ne (by omega), h.gy], by rw [List.getElem?_set_ne (by omega), h.g6], by rw [List.getElem?_set_self hp], by rw [List.getElem?_set_ne (by omega), h.go], by rw [List.length_set, h.len], fun j h1 h2 h3 => by rw [List.getElem?_set_ne (by omega), h.up j h1 h2 h3]⟩
theorem PC.Z9 {c : Cx} {H G : List aa} {x y : Nat} {i k : Int} {es : List AV} {o o' : aa} (hD : Du c H) (w : XY H x y) (h : PC c H x y i k es o G) : PC c H x y i k es o' (G.set (H.length + 4) o') := by
 obtain ⟨l1, l2, l3⟩ := hD.lt
 obtain ⟨w1, w2, w3, w4⟩ := w
 have hp := aN h.go
 exact ⟨h.du.set (by omega) (by omega) (by omega), by rw [List.getElem?_set_ne (by omega), h.gx], by rw [List.getElem?_set_ne (by omega), h.gy], by rw [List.getElem?_set_ne (by omega), h.g6], by rw [List.getElem?_set_ne (by omega), h.gp], by rw [List.getElem?_set_self hp], by rw [List.length_set, h.len], fun j h1 h2 h3 => by rw [List.getElem?_set_ne (by omega), h.up j h1 h2 h3]⟩
theorem PC.drop {c : Cx} {H G : List aa} {x y : Nat} {i k : Int} {es : List AV} {o : aa} (hD : Du c H) (w : XY H x y) (h : PC c H x y i k es o G) : PB c H x y i k es (G.take (H.length + 4)) ∧ G = G.take (H.length + 4) ++ [o] := by
 obtain ⟨l1, l2, l3⟩ := hD.lt
 obtain ⟨w1, w2, w3, w4⟩ := w
 have hl := h.len
 have t : ∀ j, j < H.length + 4 → (G.take (H.length + 4))[j]? = G[j]? := fun j h1 => by rw [List.getElem?_take, if_pos h1]
 refine ⟨⟨h.du.take (by omega) (by omega) (by omega), by rw [t x (by omega), h.gx], by rw [t y (by omega), h.gy], by rw [t _ (by omega), h.g6], by rw [t _ (by omega), h.gp], by simp; omega, fun j h1 h2 h3 => by rw [t j (by omega), h.up j h1 h2 h3]⟩, ?_⟩
 have e : G.drop (H.length + 4) = [o] := by
  have h1 := h.go
  have a8 : H.length + 4 < G.length := by omega
  rw [List.drop_eq_getElem_cons a8]
  rw [List.getElem?_eq_getElem a8] at h1
  simp only [Option.some.injEq] at h1
  rw [h1, List.drop_of_length_le (by omega)]
 rw [← e, List.take_append_drop]
structure MI (c : Cx) (a b : List Int) (us : List Bool) (to : List Int) (j : Nat) (ts : List Int) (ls : List PP) : Prop where
 lt : ts.length = j
 ll : ls.length = j
 pa : ∀ j', j' < j → 0 ≤ to.getD j' 0 → ts.getD j' 0 = to.getD j' 0 ∧ (ls.getD j' default).nil
 ov : ∀ j', j' < j → to.getD j' 0 < 0 → (¬ (ls.getD j' default).nil ∧ Sh c.O (ls.getD j' default) (c.tm (a.getD (ts.getD j' 0).toNat 0)) (c.tm (b.getD j' 0))) ∧ ∃ u : Nat, ts.getD j' 0 = u ∧ u < a.length ∧ us.getD u false = false
theorem MI.snoc {c : Cx} {a b : List Int} {us : List Bool} {to : List Int} {j : Nat} {ts : List Int} {ls : List PP} (h : MI c a b us to j ts ls) (v : Int) (q : PP)
 (h1 : 0 ≤ to.getD j 0 → v = to.getD j 0 ∧ q.nil) (h2 : to.getD j 0 < 0 → (¬ q.nil ∧ Sh c.O q (c.tm (a.getD v.toNat 0)) (c.tm (b.getD j 0))) ∧ ∃ u : Nat, v = u ∧ u < a.length ∧ us.getD u false = false) : MI c a b us to (j + 1) (ts ++ [v]) (ls ++ [q]) := by
 obtain ⟨k1, k2, k3, k4⟩ := h
 have e1 : ∀ j', j' < j → (ts ++ [v]).getD j' 0 = ts.getD j' 0 ∧ (ls ++ [q]).getD j' default = ls.getD j' default := fun j' tV => by
  constructor
  ·rw [List.getD_eq_getElem?_getD, List.getD_eq_getElem?_getD, List.getElem?_append_left (by omega)]
  ·rw [List.getD_eq_getElem?_getD, List.getD_eq_getElem?_getD, List.getElem?_append_left (by omega)]
 have e2 : (ts ++ [v]).getD j 0 = v ∧ (ls ++ [q]).getD j default = q := by
  constructor
  ·rw [← k1]; simp
  ·rw [← k2]; simp
 refine ⟨by simp [k1], by simp [k2], fun j' tV h0 => ?_, fun j' tV h0 => ?_⟩
 ·by_cases e : j' = j
  ·subst e; rw [e2.1, e2.2]; exact h1 h0
  ·have a8 : j' < j := by omega
   rw [(e1 j' a8).1, (e1 j' a8).2]; exact k3 j' a8 h0
 ·by_cases e : j' = j
  ·subst e; rw [e2.1, e2.2]; exact h2 h0
  ·have a8 : j' < j := by omega
   rw [(e1 j' a8).1, (e1 j' a8).2]; exact k4 j' a8 h0
theorem vR {to : List Int} {x : Int} : ∀ {n : Nat}, (∀ j j', j < n → j' < n → to.getD j 0 = x → to.getD j' 0 = x → j = j') → dj to x n ≤ 1
 | 0, _ => by simp [dj]
 | n + 1, h => by
   rw [dj]
   have ih := vR (n := n) fun j j' h1 h2 => h j j' (by omega) (by omega)
   by_cases e : to.getD n 0 = x
   ·rw [if_pos e]
    have : dj to x n = 0 := by
     have h0 : ∀ m, m ≤ n → dj to x m = 0 := by
      intro m
      induction m with
      | zero => intro _; rfl
      | succ m ihm =>
        intro hm
        rw [dj, ihm (by omega), if_neg (fun e' => by have := h m n (by omega) (by omega) e' e; omega)]
     exact h0 n (Nat.le_refl _)
    omega
   ·rw [if_neg e]; omega
theorem MI.cov {c : Cx} {a b : List Int} {us : List Bool} {to ts : List Int} {ls : List PP} (h : MI c a b us to b.length ts ls) (z6 : Pr (fun x y => E c.O (c.tm x) (c.tm y)) a b b.length us to) (hl : ∃ u : Nat, u < a.length ∧ us.getD u false = false) : HG c ts ls a b := by
 obtain ⟨k1, k2, k3, k4⟩ := h
 have cas : ∀ j, j < b.length → (∃ u : Nat, to.getD j 0 = u ∧ u < a.length ∧ us.getD u false = true ∧ E c.O (c.tm (a.getD u 0)) (c.tm (b.getD j 0))) ∨ to.getD j 0 < 0 := fun j hj => by
  rcases z6.t1 j hj with h | ⟨u, h1, h2, h3, h4⟩
  ·exact .inr (by omega)
  ·exact .inl ⟨u, h1, h2, h3, h4⟩
 refine ⟨k1, k2, fun j hj => ?_, fun x hx hp => ?_, ?_⟩
 ·rcases cas j hj with ⟨u, h1, h2, h3, h4⟩ | hn
  ·obtain ⟨e1, e2⟩ := k3 j hj (by omega)
   rw [if_pos e2, e1, h1]
   exact ⟨by omega, by rw [Int.toNat_natCast]; exact h4⟩
  ·obtain ⟨⟨e1, e2⟩, u, h1, h2, h3⟩ := k4 j hj hn
   rw [if_neg e1]
   exact ⟨by omega, e2⟩
 ·obtain ⟨j, hj, e1, e2⟩ := gW.1 hp
  have AA : ∀ j', j' < b.length → ts.getD j' 0 = (x : Int) → us.getD x false = true → to.getD j' 0 = (x : Int) := by
   intro j' tV e ht
   rcases cas j' tV with ⟨u, h1, _⟩ | hn
   ·rw [← (k3 j' tV (by omega)).1]; exact e
   ·obtain ⟨_, u, h1, h2, h3⟩ := k4 j' tV hn
    have : u = x := by omega
    subst this; rw [h3] at ht; cases ht
  have hux : us.getD x false = true := by
   rcases cas j hj with ⟨u, h1, h2, h3, _⟩ | hn
   ·have := (k3 j hj (by omega)).1
    have : u = x := by omega
    subst this; exact h3
   ·exact absurd e2 (k4 j hj hn).1.1
  refine vR fun j1 j2 h1 h2 e1 e2 => ?_
  have t1 := AA j1 h1 e1 hux
  have t2 := AA j2 h2 e2 hux
  exact z6.inj j1 j2 h1 h2 (by omega) (by omega)
 ·obtain ⟨u, hu, hf⟩ := hl
  refine ⟨u, hu, ?_⟩
  by_cases h0 : 0 < dd ts ls u b.length
  ·obtain ⟨j, hj, e1, e2⟩ := gW.1 h0
   rcases cas j hj with ⟨u', h1, h2, h3, _⟩ | hn
   ·have := (k3 j hj (by omega)).1
    have : u' = u := by omega
    subst this; rw [hf] at h3; cases h3
   ·exact absurd e2 (k4 j hj hn).1.1
  ·omega
theorem Sh.ne_nil {O : Od} {p : PP} {a b : T} (h : Sh O p a b) : ¬ p.nil := by
 rintro ⟨h1, _⟩
 exact Sh0 (by omega) (by omega) (by omega) (by omega) h
theorem WS {c : Cx} (hc : c.Ok) {i k : Int} (hi : c.dF i) (hk : c.dF k) (hR : R c.O (c.tm i) (c.tm k)) (hr : gE c i k 4) (jM : ∀ m, m < 4 → ¬ gE c i k m) (SS : ∀ x ∈ c.kd i, ∀ y ∈ c.kd k, R c.O (c.tm x) (c.tm y) → oz c x y) : oz c i k := by
 intro H hD
 refine CC.2.calls rfl ?_
 simp only [CC, aJ]
 have k2 : ∀ l, (bo l).ae = bo l := fun l => (aF l).2.1
 have ki := hc.kids i hi
 have kk := hc.kids k hk
 have l1 := hc.kl i hi
 have l2 := hc.kl k hk
 obtain ⟨a1, a2, a3, a4, a5⟩ := aF (c.kd i)
 obtain ⟨b1, b2, b3, b4, b5⟩ := aF (c.kd k)
 have ii : IL (bo (c.kd i)) (c.kd i) := .inl rfl
 have ik : IL (bo (c.kd k)) (c.kd k) := .inl rfl
 have ei : (c.nd.getD i.toNat default).snd = c.kd i := rfl
 have ek : (c.nd.getD k.toNat default).snd = c.kd k := rfl
 obtain ⟨m1, m2, m3⟩ := hD.lt
 have ed : ∀ X : List aa, (H ++ X)[c.d]? = H[c.d]? := fun X => List.getElem?_append_left m1
 have spv : ∀ x : AV, ai [AV.ah] 0 [x] = [x] := fun x => rfl
 have spq : ai [AV.int .i64 0, .int .i64 0, .ah, .ah] 0 [AV.int .i64 0, .int .i64 0, .ah, .ah] = [AV.int .i64 0, .int .i64 0, .ah, .ah] := rfl
 simp +contextual only [sZ, Nat.reduceEqDiff, Nat.reduceAdd, ↓reduceIte, reduceCtorEq]
 refine kT (K1 := fun e G => get e 1 = .int .i64 i ∧ get e 3 = .aj (.ptr c.d 0) ∧ get e 5 = .aj (.int .i64 k) ∧ get e 6 = .ptr H.length 0 ∧ ∃ x y, get e 7 = .ptr x 0 ∧ get e 8 = .ptr y 0 ∧ XY H x y ∧ PA c H x y i k G) ?_ ?_
 ·have P0 : aa := .cells [.int .i64 0, .int .i64 0, .ah, .ah]
  have A : ∃ x y, AV.ptr (H.length + 1) 0 = .ptr x 0 ∧ AV.ptr (H.length + 2) 0 = .ptr y 0 ∧ XY H x y ∧ PA c H x y i k (H ++ [.cells [.int .i64 0, .int .i64 0, .ah, .ah], .cells [bo (c.kd i)], .cells [bo (c.kd k)]]) :=
   ⟨_, _, rfl, rfl, ⟨by omega, by omega, by omega, by omega⟩, ⟨hD.rL _, by simp, by simp, by simp, by simp, fun j hj _ _ => List.getElem?_append_left hj⟩⟩
  have B : ∃ x y, AV.ptr (H.length + 2) 0 = .ptr x 0 ∧ AV.ptr (H.length + 1) 0 = .ptr y 0 ∧ XY H x y ∧ PA c H x y i k (H ++ [.cells [.int .i64 0, .int .i64 0, .ah, .ah], .cells [bo (c.kd k)], .cells [bo (c.kd i)]]) :=
   ⟨_, _, rfl, rfl, ⟨by omega, by omega, by omega, by omega⟩, ⟨hD.rL _, by simp, by simp, by simp, by simp, fun j hj _ _ => List.getElem?_append_left hj⟩⟩
  simp +contextual only [ed, hD.d, lV, C1, cv, bT, k2, ei, ek, a1, a3, a4, a5, b1, b3, b4, b5, List.map_cons, List.map_nil, spv, List.all_cons, List.all_nil, Bool.and_true, bM, cW, sZ, Nat.reduceEqDiff, Nat.reduceAdd, Nat.reduceLT, ↓reduceIte]
  refine ⟨hi, ?_⟩
  repeat' apply And.intro
  all_goals first | exact hk.1 | exact hk.2 | exact A | exact B
 ·rintro e G ⟨e1, e3, e5, e6, x, y, e7, e8, w, Ak⟩
  simp +contextual only [e1, e3, e5, e6, e7, e8, sZ, Nat.reduceEqDiff, ↓reduceIte]
  refine aO 3 (fun m (G : List aa) => PA c H x y i k G)
   (fun m G => [(1, .int .i64 i), (3, .aj (.ptr c.d 0)), (5, .aj (.int .i64 k)), (6, .ptr H.length 0), (7, .ptr x 0), (8, .ptr y 0), (9, .int .i64 ((m + 1 : Nat) : Int))]) (fun m G => G) G ⟨Ak, aB _ _ _⟩ fun m G hm Ak => ?_
  have hf : dO.cells[m + 1]? = some (.fn (.func (182 + (m + 1))) [] []) := by
   have : m = 0 ∨ m = 1 ∨ m = 2 ∨ m = 3 := by omega
   rcases this with rfl | rfl | rfl | rfl <;> rfl
  have en := TA (m + 1) _ hf (by omega)
  simp +contextual only [sZ]
  refine aI Ke ?_
  simp +contextual only [lO, en _ rfl, sZ, Nat.reduceEqDiff, Nat.reduceAdd, ↓reduceIte, reduceCtorEq]
  refine ag ((tZ hc hi hk).at (n := m + 1) (by omega) (by omega) Ak.du) ?_
  rintro r G1 ⟨z, rfl, hz, hU, mA⟩
  have po := Ak.call hD w hU mA
  by_cases Pk : m = 3
  rotate_left
  ·have : z = false := by
    cases z with
    | false => rfl
    | true => exact absurd (hz.1 rfl) (jM (m + 1) (by omega))
   subst this
   simp +contextual only [Bool.not_false, sZ, Nat.reduceEqDiff, ↓reduceIte]
   exact ⟨m + 1, G1, ⟨by omega, po⟩, by omega, aH (by rw [ax (m + 1) (by omega)]) rfl⟩
  subst Pk
  have : z = true := hz.2 hr
  subst this
  have w7 := po.len
  have kv := fun es => po.rL w es
  have SQ := fun es => (kv es).gp
  have NL := fun es => (kv es).gx
  have WM := fun es => (kv es).gy
  have bQ : ∀ (o o' : aa), (G1 ++ [o]).set (H.length + 3) o' = G1 ++ [o'] := fun o o' => by rw [← w7]; simp
  have ec : ((4 : Nat) : Int) = 4 := rfl
  have zf : List.map AV.ae [AV.int .i64 (4 : Int), .int .i64 0, .ah, .ah] = [.int .i64 (4 : Int), .int .i64 0, .ah, .ah] := rfl
  have zf0 : List.map AV.ae [AV.int .i64 0, .int .i64 0, .ah, .ah] = [.int .i64 0, .int .i64 0, .ah, .ah] := rfl
  have e86 : ∀ a b : Int, decide (a = b) = decide (a = b) := fun _ _ => rfl
  simp +contextual only [k2, decide_true, decide_false, Bool.not_true, Bool.not_true, X4, w7, SQ, bQ, ec, zf, zf0, HK, NL, WM, sZ, Nat.reduceEqDiff, Nat.reduceAdd, Nat.reduceLT, ↓reduceIte, reduceCtorEq, Int.reduceEq]
  have l7 := kv [.int .i64 4, .int .i64 0, .ah, .ah]
  generalize G1 ++ [aa.cells [AV.int .i64 4, .int .i64 0, .ah, .ah]] = G2 at l7 ⊢
  have ki2 : (c.tm i).k = 2 := (nl.1 hR).1
  have hmq : wY c i k := by
   rcases hr with h | h | h | h
   ·exact absurd h.1 (by decide)
   ·exact absurd h.1 (by decide)
   ·exact absurd h.1 (by decide)
   ·exact h.2
  obtain ⟨Ks, Ai, XU⟩ := hmq
  have Kx := jZ.1 Ks
  have kk2 : (c.tm k).k = 2 := Kx.2.1
  have osi : dq c i = c.O.sp (c.O.pl (c.tm i).n) := by rw [dq, if_pos ki2]
  have gx0 := l7.gx
  have gy0 := l7.gy
  simp +contextual only [sZ]
  refine ag (Su ii ik (by omega) (by omega) (fun z hz z' HZ => jI hc (ki.2 z hz) (kk.2 z' HZ)) l7.du) ?_
  rintro r G3 ⟨us, to, z6, rfl, Wf, Kb⟩
  have Aj := l7.call hD w Wf Kb
  have Ti := (Pr.mu (f := nf c) (G := Gt c.O.sp) z6).1 XU
  have lbl := jh (c.kd i).length fun z => !us.getD z false
  have il : IL (bo (below (c.kd i).length fun z => !us.getD z false)) (below (c.kd i).length fun z => !us.getD z false) := .inl rfl
  have mml : ∀ {z : Int}, z ∈ below (c.kd i).length (fun z => !us.getD z false) → ∃ u : Nat, z = u ∧ u < (c.kd i).length ∧ us.getD u false = false := by
   intro z hz; obtain ⟨u, h1, h2, h3⟩ := fV.1 hz; exact ⟨u, h1, h2, by simpa using h3⟩
  have mmo : ∀ {j : Nat}, j < (c.kd k).length → to.getD j 0 < 0 → ∃ z ∈ below (c.kd i).length (fun z => !us.getD z false), R c.O (c.tm ((c.kd i).getD z.toNat 0)) (c.tm ((c.kd k).getD j 0)) := by
   intro j hj hn
   exact Ti.2 (j : Int) (fV.2 ⟨j, rfl, hj, by simpa using hn⟩)
  have aaa := Ti.1
  generalize (below (c.kd i).length fun z => !us.getD z false) = L at *
  have lto := z6.lt
  obtain ⟨v1, v2, v3, v4, v5⟩ := aF L
  simp +contextual only [k2, aw, sZ, Nat.reduceEqDiff, Nat.reduceAdd, Nat.reduceLT, ↓reduceIte]
  intro _
  have hlne2 : ∃ u : Nat, u < (c.kd i).length ∧ us.getD u false = false := by
   cases L with
   | nil => exact absurd rfl aaa
   | cons z r =>
     obtain ⟨u, _, h2, h3⟩ := mml (List.mem_cons_self (a := z) (l := r))
     exact ⟨u, h2, h3⟩
  refine aO (c.kd k).length (fun j (s : List aa × List Int × List PP) => PB c H x y i k [.int .i64 4, .int .i64 0, sY s.2.1, ox s.2.2] s.1 ∧ MI c (c.kd i) (c.kd k) us to j s.2.1 s.2.2)
   (fun j s => [(3, .aj (.ptr c.d 0)), (6, .ptr H.length 0), (7, .ptr x 0), (8, .ptr y 0), (10, .ptr (H.length + 3) 0), (11, bo L), (89, .aq 0 (ints to)), (90, .int .i64 to.length), (91, .int .i64 j)]) (fun j s => s.1) (G3, [], [])
   ⟨⟨Aj, rfl, rfl, fun j h => by omega, fun j h => by omega⟩, aB _ _ _⟩ fun j s hj hI => ?_
  obtain ⟨G, ts, ls⟩ := s
  obtain ⟨kv, HQ⟩ := hI
  simp only at kv HQ
  have hlen := kv.len
  by_cases Kq : (j : Int) < to.length
  ·have py : j < (c.kd k).length := by omega
   have zf4 : ∀ n, ak n (List.map AV.ae [AV.int .i64 0, .int .i64 0, .ah, .ah]) = true := fun _ => rfl
   have zf5 : List.map AV.ae [AV.int .i64 0, .int .i64 0, .ah, .ah] = [AV.int .i64 0, .int .i64 0, .ah, .ah] := rfl
   obtain ⟨tj, X5⟩ : ∃ tj, to.getD j 0 = tj := ⟨_, rfl⟩
   have WT := kv.Z8 w (.cells [.int .i64 0, .int .i64 0, .ah, .ah])
   by_cases wC : tj < 0
   ·simp +contextual only [k2, decide_true, Kq, cw, dx, Int.toNat_natCast, X5, wC, hlen, zf5, sZ, Nat.reduceEqDiff, Nat.reduceAdd, ↓reduceIte, reduceCtorEq]
    have mz := fun (G' : List aa) (dY : SD c (G ++ [aa.cells [AV.int .i64 0, .int .i64 0, .ah, .ah]]) G') => WT.call hD w dY.2 dY.1
    have hjz : (0 : Int) ≤ j ∧ (j : Int) < (c.kd k).length := ⟨by omega, by omega⟩
    refine ⟨by omega, ag (Ka (SD.z3 c (G ++ [.cells [.int .i64 0, .int .i64 0, .ah, .ah]])) il (by omega) 148 [] [.aj (.ptr c.d 0), .ptr x 0, .ptr y 0, .aj (.int .i64 j)] rfl rfl (Q := fun z => R c.O (c.tm ((c.kd i).getD z.toNat 0)) (c.tm ((c.kd k).getD (j : Int).toNat 0)))
     (fun z hz G' dY => ?_) ⟨WT.du, Up.refl c _⟩) ?_⟩
    ·obtain ⟨u, rfl, hu, _⟩ := mml hz
     refine (Z5 ii ik ⟨by omega, by omega⟩ hjz (jJ hc (ki.2 _ (aP (by omega))) (kk.2 _ (aP (by omega)))) dY.1 (mz G' dY).gx (mz G' dY).gy).mono fun r H' hr => hr.sb dY
    rintro r G4 ⟨hG4, tu⟩
    rcases tu with ⟨_, tu⟩ | ⟨m, rfl, hm, hQ, _⟩
    ·obtain ⟨z, hz, h⟩ := mmo py (by rw [X5]; exact wC)
     exact absurd h (tu z hz)
    obtain ⟨u, hu, yJ, huf⟩ := mml (aP hm)
    have N7 := mz G4 hG4
    have gx4 := N7.gx
    have gy4 := N7.gy
    rw [hu, Int.toNat_natCast, Int.toNat_natCast] at hQ
    simp +contextual only [k2, ii.lens, ik.lens, ii.idx, ik.idx, il.lens, il.idx, Int.toNat_natCast, hu, gx4, gy4, sZ, Nat.reduceEqDiff, Nat.reduceAdd, Nat.reduceLT, ↓reduceIte, reduceCtorEq]
    refine ⟨by omega, ⟨by omega, by omega⟩, by omega, ?_⟩
    refine ag (SS _ (aP yJ) _ (aP py) hQ _ N7.du) ?_
    rintro r G5 ⟨q, rfl, hq, WN, WO⟩
    have WU := N7.call hD w WN WO
    have go5 := WU.go
    have hpo := fun o => WU.Z9 (o' := o) hD w
    have mn := fun o es => (hpo o).set (es' := es) hD w
    have gq5 := fun o => (hpo o).go
    have gp5 := fun o => (hpo o).gp
    have gqs := fun o es => (mn o es).go
    have gps := fun o es => (mn o es).gp
    obtain ⟨u1, u2, u3, u4, u5, u6, u7, u8, u9⟩ := aX q
    have bq : ak (H.length + 4 + 1) (dS q).cells = true := cq (fH _ _)
    have SU := HQ.snoc (u : Int) q (fun h => by omega) (fun _ => ⟨⟨Sh.ne_nil hq, by rw [Int.toNat_natCast]; exact hq⟩, u, rfl, yJ, huf⟩)
    have t1 := HQ.lt
    have t2 := HQ.ll
    have Tk : ∀ ψ, bF 1 8 (sY ts) (.aq 0 [.int .i64 (u : Int)]) ψ = ψ (ints (ts ++ [(u : Int)])) := fun ψ => Pz ts _ (by omega) 0 ψ
    have apl : ∀ ψ, bF 4 64 (ox ls) (.aq 0 [dS q]) ψ = ψ (dR (ls ++ [q])) := fun ψ => CD ls q (by omega) 0 ψ
    have lpq := CF q
    obtain ⟨x1, x2, x3, x4, x5, x6⟩ := kX (ts ++ [(u : Int)])
    obtain ⟨y1, y2, y3, y4, y5, y6⟩ := gX (ls ++ [q])
    obtain ⟨x1', x2', x3', x4', x5', x6'⟩ := kX ts
    obtain ⟨y1', y2', y3', y4', y5', y6'⟩ := gX ls
    have lvb : ∀ n, ak n (dR (ls ++ [q])) = true := fun n => iw _ _
    have tvb : ∀ n, ak n (ints (ts ++ [(u : Int)])) = true := fun n => bj _ _
    have pW : ∀ G', PC c H x y i k [.int .i64 4, .int .i64 0, sY (ts ++ [(u : Int)]), ox (ls ++ [q])] (.cells (dS q).cells) G' → ∃ (j' : Nat) (t : List aa × List Int × List PP), (j' ≤ (c.kd k).length ∧ PB c H x y i k [.int .i64 4, .int .i64 0, sY t.2.1, ox t.2.2] t.1 ∧ MI c (c.kd i) (c.kd k) us to j' t.2.1 t.2.2) ∧ (c.kd k).length - j' < (c.kd k).length - j ∧
     sle H.length [(3, .aj (.ptr c.d 0)), (6, .ptr H.length 0), (7, .ptr x 0), (8, .ptr y 0), (10, .ptr (H.length + 3) 0), (11, bo L), (89, .aq 0 (ints to)), (90, .int .i64 to.length), (91, .int .i64 (IntKind.i64.wrap (j + 1)))] G' [(3, .aj (.ptr c.d 0)), (6, .ptr H.length 0), (7, .ptr x 0), (8, .ptr y 0), (10, .ptr (H.length + 3) 0), (11, bo L), (89, .aq 0 (ints to)), (90, .int .i64 to.length), (91, .int .i64 j')] t.1 := by
     intro G' dY
     obtain ⟨z1, z2⟩ := dY.drop hD w
     have zl := z1.len
     have XG := v3
     refine ⟨j + 1, (G'.take (H.length + 4), ts ++ [(u : Int)], ls ++ [q]), ⟨py, z1, SU⟩, by omega, Bx (by rw [ax j (by omega)]) (by rw [zl]; omega) ?_ _ z2⟩
     obtain ⟨w1, w2, w3, w4⟩ := w
     rw [zl]
     simp only [o9, List.all_cons, List.all_nil, zC, rA, iP, cR, v3, bj, Bool.and_true, Bool.and_eq_true, decide_eq_true_eq]
     omega
    simp +contextual only [go5, PF, u1, u2, u3, u9, bq, gq5, gp5, gqs, gps, d2, d3, s2, s3, List.set_set, jj, Tk, apl, lpq, CE, qH, x3, x4, y3, y4, sZ, Nat.reduceEqDiff, Nat.reduceAdd, Nat.reduceLT, ↓reduceIte]
    repeat' apply And.intro
    all_goals exact pW _ (mn _ _)
   ·have t1 := HQ.lt
    have t2 := HQ.ll
    obtain ⟨q0, hq0⟩ : ∃ q0, q0 = PP.mk 0 0 [] [] := ⟨_, rfl⟩
    have td : q0.nil := by rw [hq0]; exact ⟨rfl, rfl, rfl, rfl⟩
    have lpz : ∀ φ, db (some (.cells [.int .i64 0, .int .i64 0, .ah, .ah])) (some 4) 0 φ = φ (dS q0) := by rw [hq0]; exact PD 0 0 [] []
    obtain ⟨u1, u2, u3, u4, u5, u6, u7, u8, u9⟩ := aX q0
    have SU := HQ.snoc tj q0 (fun h => ⟨X5.symm, td⟩) (fun h => by omega)
    have Tk : ∀ ψ, bF 1 8 (sY ts) (.aq 0 [.int .i64 tj]) ψ = ψ (ints (ts ++ [tj])) := fun ψ => Pz ts _ (by omega) 0 ψ
    have apl : ∀ ψ, bF 4 64 (ox ls) (.aq 0 [dS q0]) ψ = ψ (dR (ls ++ [q0])) := fun ψ => CD ls q0 (by omega) 0 ψ
    have mn := fun es => WT.set (es' := es) hD w
    have gp5 := WT.gp
    have go5 := WT.go
    have gqs := fun es => (mn es).go
    have gps := fun es => (mn es).gp
    obtain ⟨x1, x2, x3, x4, x5, x6⟩ := kX (ts ++ [tj])
    obtain ⟨y1, y2, y3, y4, y5, y6⟩ := gX (ls ++ [q0])
    obtain ⟨x1', x2', x3', x4', x5', x6'⟩ := kX ts
    obtain ⟨y1', y2', y3', y4', y5', y6'⟩ := gX ls
    have lvb : ∀ n, ak n (dR (ls ++ [q0])) = true := fun n => iw _ _
    have tvb : ∀ n, ak n (ints (ts ++ [tj])) = true := fun n => bj _ _
    have pW : ∀ G', PC c H x y i k [.int .i64 4, .int .i64 0, sY (ts ++ [tj]), ox (ls ++ [q0])] (.cells [.int .i64 0, .int .i64 0, .ah, .ah]) G' → ∃ (j' : Nat) (t : List aa × List Int × List PP), (j' ≤ (c.kd k).length ∧ PB c H x y i k [.int .i64 4, .int .i64 0, sY t.2.1, ox t.2.2] t.1 ∧ MI c (c.kd i) (c.kd k) us to j' t.2.1 t.2.2) ∧ (c.kd k).length - j' < (c.kd k).length - j ∧
     sle H.length [(3, .aj (.ptr c.d 0)), (6, .ptr H.length 0), (7, .ptr x 0), (8, .ptr y 0), (10, .ptr (H.length + 3) 0), (11, bo L), (89, .aq 0 (ints to)), (90, .int .i64 to.length), (91, .int .i64 (IntKind.i64.wrap (j + 1)))] G' [(3, .aj (.ptr c.d 0)), (6, .ptr H.length 0), (7, .ptr x 0), (8, .ptr y 0), (10, .ptr (H.length + 3) 0), (11, bo L), (89, .aq 0 (ints to)), (90, .int .i64 to.length), (91, .int .i64 j')] t.1 := by
     intro G' dY
     obtain ⟨z1, z2⟩ := dY.drop hD w
     have zl := z1.len
     have XG := v3
     refine ⟨j + 1, (G'.take (H.length + 4), ts ++ [tj], ls ++ [q0]), ⟨py, z1, SU⟩, by omega, Bx (by rw [ax j (by omega)]) (by rw [zl]; omega) ?_ _ z2⟩
     obtain ⟨w1, w2, w3, w4⟩ := w
     rw [zl]
     simp only [o9, List.all_cons, List.all_nil, zC, rA, iP, cR, v3, bj, Bool.and_true, Bool.and_eq_true, decide_eq_true_eq]
     omega
    simp +contextual only [decide_true, decide_false, Kq, cw, dx, Int.toNat_natCast, X5, wC, hlen, zf5, u1, u2, gp5, go5, gqs, gps, d2, d3, s2, s3, List.set_set, jj, Tk, apl, lpz, CE, qH, x3, x4, y3, y4, sZ, Nat.reduceEqDiff, Nat.reduceAdd, Nat.reduceLT, ↓reduceIte]
    refine ⟨by omega, ?_⟩
    repeat' apply And.intro
    all_goals exact pW _ (mn _)
  ·have WA : j = (c.kd k).length := by omega
   subst WA
   have hs : Sh c.O (.mk 4 0 ts ls) (c.tm i) (c.tm k) := by
    rw [Sh4 rfl ki2]
    rw [osi] at Ai
    refine ⟨rfl, kk2, Kx.2.2, Ai, ?_⟩
    show Pv (E c.O) (Sh c.O) ts ls (c.tm i).l (c.tm k).l
    rw [← ki.1, ← kk.1, ← Cy]
    exact HQ.cov z6 hlne2
   have gp6 := kv.gp
   have g66 := kv.g6
   have lp := PD 4 0 ts ls
   obtain ⟨q1, q2, q3, q4, q5, q6, q7, q8, q9⟩ := aX (.mk 4 0 ts ls)
   have lp2 := CF (.mk 4 0 ts ls)
   have Kv := List.getElem?_set_self (a := aa.cells (dS (.mk 4 0 ts ls)).cells) (aN g66)
   have N6 : ak (H.length + 1) (dS (.mk 4 0 ts ls)).cells = true := cq (fH _ _)
   have kG := PB.fin hD kv hs
   simp +contextual only [decide_false, Kq, gp6, g66, lp, q1, q2, q3, q9, PF, Kv, lp2, N6, sZ, Nat.reduceEqDiff, Nat.reduceAdd, ↓reduceIte, reduceCtorEq]
   first | exact kG | exact ⟨by omega, kG⟩
end Go.aL
end
section
set_option maxRecDepth 100000
namespace Go.aL
open Go Go.Proofs Go.fw
theorem Ky {P : Nat → Prop} : ∀ {n : Nat}, P n → ∃ m, m ≤ n ∧ P m ∧ ∀ j, j < m → ¬ P j := by
 intro n
 induction n using Nat.strongRecOn with
 | _ n ih =>
   intro h
   by_cases hx : ∃ j, j < n ∧ P j
   ·obtain ⟨j, hj, hp⟩ := hx
    obtain ⟨m, h1, h2, h3⟩ := ih j hj hp
    exact ⟨m, by omega, h2, h3⟩
   ·exact ⟨n, Nat.le_refl _, h, fun j hj hp => hx ⟨j, hj, hp⟩⟩
theorem c86 {c : Cx} (hc : c.Ok) : ∀ (N : Nat) (i k : Int), c.dF i → c.dF k → wt (c.tm i) + wt (c.tm k) ≤ N → R c.O (c.tm i) (c.tm k) → oz c i k := by
 intro N
 induction N with
 | zero => intro i k _ _ h; have := fQ (c.tm i); omega
 | succ N ih =>
 intro i k hi hk hN hR
 have hx : ∀ {j : Int}, c.dF j → ∀ x ∈ c.kd j, c.dF x ∧ wt (c.tm x) < wt (c.tm j) := fun {j} hj x hx => by
  have h1 := hc.kids j hj
  exact ⟨h1.2 x hx, bU (by rw [← h1.1]; exact List.mem_map.2 ⟨x, hx, rfl⟩)⟩
 have p1 : ∀ x ∈ c.kd i, R c.O (c.tm x) (c.tm k) → oz c x k := fun x h r => ih x k (hx hi x h).1 hk (by have := (hx hi x h).2; omega) r
 have p2 : ∀ y ∈ c.kd k, R c.O (c.tm i) (c.tm y) → oz c i y := fun y h r => ih i y hi (hx hk y h).1 (by have := (hx hk y h).2; omega) r
 have p3 : ∀ x ∈ c.kd i, ∀ y ∈ c.kd k, R c.O (c.tm x) (c.tm y) → oz c x y := fun x h y h' r => ih x y (hx hi x h).1 (hx hk y h').1 (by have := (hx hi x h).2; have := (hx hk y h').2; omega) r
 obtain ⟨_, n, hn, hr⟩ := (rS hc hi hk).2 hR
 obtain ⟨m, hm, hr, jM⟩ := Ky (P := fun n => gE c i k n) hr
 have : m = 1 ∨ m = 2 ∨ m = 3 ∨ m = 4 := by
  rcases hr with h | h | h | h
  ·exact .inl h.1
  ·exact .inr (.inl h.1)
  ·exact .inr (.inr (.inl h.1))
  ·exact .inr (.inr (.inr h.1))
 rcases this with rfl | rfl | rfl | rfl
 ·exact WL hc hi hk hR hr jM p1
 ·exact WQ hc hi hk hR hr jM p2
 ·exact WR hc hi hk hR hr jM p2 p3
 ·exact WS hc hi hk hR hr jM p3
theorem WV {c : Cx} (hc : c.Ok) {i k : Int} (hi : c.dF i) (hk : c.dF k) (hR : R c.O (c.tm i) (c.tm k)) : oz c i k := c86 hc _ i k hi hk (Nat.le_refl _) hR
def N8 : PP := .mk 0 0 [] []
def SV (s : Sg) (ps ss : List Int) (a b : T) (r : AV) : Prop :=
 (gb s ps ss [a, b] ≠ 0 ∧ r = .tuple [dS N8, .bool false, .int .i64 (gb s ps ss [a, b])]) ∨
 (gb s ps ss [a, b] = 0 ∧ ¬ R (jO ps ss) a b ∧ r = .tuple [dS N8, .bool false, .int .i64 0]) ∨
 (gb s ps ss [a, b] = 0 ∧ ∃ p, Sh (jO ps ss) p a b ∧ r = .tuple [dS p, .bool true, .int .i64 0])
theorem Up.j3 {c : Cx} {G0 G : List aa} (h : Up c G0 G) {n : Nat} (he : n ≤ c.e) (hg : n ≤ c.g) : G.take n = G0.take n := by
 apply List.ext_getElem?
 intro j
 rw [List.getElem?_take, List.getElem?_take]
 split
 ·rename_i hj; exact h.get j (by omega) (by omega)
 ·rfl
theorem kY (n0 s s' s'' : Nat) (sz : Option Nat) (env : Env) (H : List aa) (R : AV → List aa → Prop) : bV n0 [.c s sz, .t s', .t s''] env H R = aS sz (get env s) H fun x => sP n0 [x, get env s', get env s''] H R := _root_.id rfl
theorem FL {Hs G : List aa} {n0 : Nat} {u v w : AV} {R : AV → List aa → Prop} (hH : Hs.take n0 = G) (hb : ak n0 [u, v, w] = true) (hu : [u, v, w].map AV.ae = [u, v, w]) (hR : R (.tuple [u, v, w]) G) : sP n0 [u, v, w] Hs R := by
 subst hH
 exact ⟨n0, Nat.le_refl _, _, by rw [hu]; exact ca _, hb, hR⟩
theorem ua {H G : List aa} {o : aa} (h : G.take H.length = H) : (G.set H.length o).take H.length = H := by
 rw [List.take_set_of_le (Nat.le_refl _), h]
theorem c27 (s : Sg) (ps ss : List Int) (a b : T) (H : List aa) : au Tryz.prog 27 [s.av, eE ps ss, a.av, b.av] H fun r H' => SV s ps ss a b r ∧ H' = H := by
 refine k27.2.calls rfl ?_
 simp only [k27, aJ]
 obtain ⟨q1, q2, q3, q4, q5, q6⟩ := bh ps ss
 have zf4 : ∀ n, ak n (List.map AV.ae [AV.int .i64 0, .int .i64 0, .ah, .ah]) = true := fun _ => rfl
 have zf5 : List.map AV.ae [AV.int .i64 0, .int .i64 0, .ah, .ah] = [AV.int .i64 0, .int .i64 0, .ah, .ah] := rfl
 simp +contextual only [aC, q1, q4, cC, zf5, sZ, Nat.reduceEqDiff, Nat.reduceAdd, ↓reduceIte, reduceCtorEq]
 have g0 : (H ++ [aa.cells [AV.int .i64 0, .int .i64 0, .ah, .ah]])[H.length]? = some (.cells [.int .i64 0, .int .i64 0, .ah, .ah]) := by simp
 have tn : (H ++ [aa.cells [AV.int .i64 0, .int .i64 0, .ah, .ah]]).length = H.length + 1 := by simp
 have Sl : (H ++ [aa.cells [AV.int .i64 0, .int .i64 0, .ah, .ah]]).take H.length = H := by simp
 refine af (Wu s ps ss [a, b]) ?_
 generalize H ++ [aa.cells [AV.int .i64 0, .int .i64 0, .ah, .ah]] = H1 at g0 tn Sl ⊢
 have ldz : ∀ φ, db (some (.cells [.int .i64 0, .int .i64 0, .ah, .ah])) (some 4) 0 φ = φ (dS N8) := PD 0 0 [] []
 have zb : ∀ p b n, ak H.length [dS p, .bool b, .int .i64 n] = true := fun p b n => by simp [bM, cW, fH, zB, iP]
 have zu : ∀ p b n, [dS p, AV.bool b, .int .i64 n].map AV.ae = [dS p, .bool b, .int .i64 n] := fun p b n => by simp [(aX p).2.2.2.1, nU, m8]
 by_cases h0 : gb s ps ss [a, b] = 0
 ·have hr := oe h0
  have hw := lY hr.tree
  have hc := hr.cx (by simp) (by simp) H1.length
  have hd := yh ps ss (ts := [a, b]) (by simp) H1
  simp +contextual only [q4, cC, h0, sZ, Nat.reduceEqDiff, Nat.reduceAdd, ↓reduceIte]
  refine ag (V5 ps ss [a, b] _ (by simp at hw; omega)) ?_
  rintro r G ⟨rfl, rfl⟩
  have a0 := sW (ps := ps) (ss := ss) (ts := [a, b]) (n := H1.length) (j := 0) (by simp)
  have a1 := sW (ps := ps) (ss := ss) (ts := [a, b]) (n := H1.length) (j := 1) (by simp)
  have hl := cu [a, b] 0
  rw [NY]
  generalize aU [a, b] 0 = ks at a0 a1 hl ⊢
  have nJ : ks.length = 2 := hl
  simp +contextual only [cw, nJ, dx, sZ, Nat.reduceEqDiff, Nat.reduceAdd, Nat.reduceLT, ↓reduceIte, reduceCtorEq]
  refine ⟨by decide, by decide, ag (jJ hc a0.1 a1.1 _ hd) ?_⟩
  rintro r G ⟨x, rfl, hx, hU, hD⟩
  rw [a0.2, a1.2] at hx
  have sk : x = true ↔ R (jO ps ss) a b := hx
  have he : (fZ ps ss [a, b] H1.length).e = H.length + 1 := tn
  have hg : (fZ ps ss [a, b] H1.length).g = H.length + 2 := by show H1.length + 1 = _; omega
  have low : ∀ G', Up (fZ ps ss [a, b] H1.length) G G' → G'[H.length]? = some (.cells [.int .i64 0, .int .i64 0, .ah, .ah]) ∧ G'.take H.length = H := by
   intro G' hU'
   have Pq := hU.trans hU'
   refine ⟨by rw [Pq.get _ (by omega) (by omega), List.getElem?_append_left (by omega)]; exact g0, ?_⟩
   rw [Pq.j3 (n := H.length) (by omega) (by omega), List.take_append_of_le_length (by omega), Sl]
  have gz := low G (Up.refl _ _)
  have gz1 := gz.1
  have gzs := fun o => List.getElem?_set_self (a := o) (aN gz1)
  have nilc : (dS N8).cells = [AV.int .i64 0, .int .i64 0, .aq 0 [], .aq 0 []] := rfl
  cases x with
  | false =>
    simp +contextual only [Bool.not_false, gz1, gzs, zf5, HK, kY, ldz, sZ, Nat.reduceEqDiff, Nat.reduceAdd, ↓reduceIte, reduceCtorEq]
    refine FL (ua gz.2) (zb _ _ _) (zu _ _ _) ⟨.inr (.inl ⟨h0, fun h => absurd (sk.2 h) (by simp), rfl⟩), rfl⟩
  | true =>
    simp +contextual only [Bool.not_true, cw, nJ, dx, sZ, Nat.reduceEqDiff, Nat.reduceAdd, ↓reduceIte, reduceCtorEq]
    refine ⟨by decide, by decide, ag (WV hc a0.1 a1.1 (by rw [a0.2, a1.2]; exact sk.1 rfl) _ hD) ?_⟩
    rintro r G2 ⟨p, rfl, hp, Pq, Ay⟩
    rw [a0.2, a1.2] at hp
    obtain ⟨gy1, gy2⟩ := low G2 Pq
    have gys := fun o => List.getElem?_set_self (a := o) (aN gy1)
    obtain ⟨u1, u2, u3, u4, u5, u6, u7, u8, u9⟩ := aX p
    have lpq := CF p
    have N6 : ak (H.length + 1) (dS p).cells = true := cq (fH _ _)
    simp +contextual only [gy1, gys, u1, u2, u3, u9, PF, lpq, N6, kY, sZ, Nat.reduceEqDiff, Nat.reduceAdd, ↓reduceIte, reduceCtorEq]
    first | exact FL (ua gy2) (zb _ _ _) (zu _ _ _) ⟨.inr (.inr ⟨h0, p, hp, rfl⟩), rfl⟩ | exact ⟨by omega, FL (ua gy2) (zb _ _ _) (zu _ _ _) ⟨.inr (.inr ⟨h0, p, hp, rfl⟩), rfl⟩⟩
 ·have gs : ∀ o, (H1.set H.length o)[H.length]? = some o := fun o => List.getElem?_set_self (by omega)
  simp +contextual only [h0, g0, gs, zf5, HK, kY, ldz, sZ, Nat.reduceEqDiff, Nat.reduceAdd, ↓reduceIte, reduceCtorEq]
  refine FL (ua Sl) (zb _ _ _) (zu _ _ _) ⟨.inl ⟨h0, rfl⟩, rfl⟩
end Go.aL
end
section
set_option maxRecDepth 100000
namespace Go.aL
open Go Go.Proofs Go.fw
def tA (l : List mD) : List AV := l.map mD.av
theorem CG (l : List mD) : (tA l).length = l.length := by simp [tA]
theorem Kz (n : Nat) (l : List mD) : ak n (tA l) = true := by
 rw [ba]; intro x hx; obtain ⟨y, _, rfl⟩ := List.mem_map.1 hx
 exact y.facts.2.2.2.2.2 n
theorem FM (o : Nat) (l : List mD) : (∀ (own : Nat) (xs : List AV), AV.aq o (tA l) = AV.aq own xs → ∀ z ∈ xs, z.cells.length = 8) = True := by
 simp only [eq_iff_iff, iff_true]
 intro own xs e z hz
 cases e
 obtain ⟨y, _, rfl⟩ := List.mem_map.1 hz; rfl
theorem idx_eq (e o : Nat) (l : List mD) (k : IntKind) (i : Nat) (φ : AV → Prop) : aA e (.aq o (tA l)) (.int k (i : Int)) φ = (i < l.length ∧ φ (.aj (l.getD i default).av)) := by
 simp only [aA, CG, Int.toNat_natCast, eq_iff_iff]
 constructor
 ·rintro ⟨_, h, h2⟩; refine ⟨h, ?_⟩; simpa [tA, h] using h2
 ·rintro ⟨h, h2⟩; refine ⟨by omega, h, ?_⟩; simpa [tA, h] using h2
theorem PG (e : mD) (H : List aa) (φ : AV → Prop) : aS (some 8) (.aj e.av) H φ = φ e.av := by simp [aS, mD.av, AV.cells]
structure KA (ps : List Int) (e : mD) : Prop where
 few : e.cs.length ≤ 1000
 tree : ∀ t ∈ e.a :: e.rest, t.tree = true
 ops : ∀ t ∈ e.a :: e.rest, pD (fun n => 0 ≤ n ∧ n < ps.length) t
open Classical in
noncomputable def w8 (ps ss : List Int) (e : mD) : Bool := decide (N0 ps ss e)
theorem WW (ps ss : List Int) (e : mD) (hv : Va ps ss) (he : KA ps e) : Pure Tryz.prog 163 [eE ps ss, e.av] (.bool (w8 ps ss e)) := by
 intro H
 refine (ZS ps ss e hv he.few he.tree he.ops H).mono ?_
 rintro r H' ⟨⟨b, rfl, hb⟩, rfl⟩
 refine ⟨?_, rfl⟩
 congr 1
 rw [Bool.eq_iff_iff, hb]
 simp [w8]
theorem aac (ps ss : List Int) (e : mD) (hv : Va ps ss) (he : KA ps e) : Pure Tryz.prog 162 [e.av, .aj (eE ps ss)] (.bool (!w8 ps ss e)) := by
 refine fun H => UL.2.calls rfl ?_
 simp only [UL, aJ]
 obtain ⟨q1, q2, q3, q4, q5, q6⟩ := bh ps ss
 obtain ⟨e1, e2, e3, e4, e5, e6⟩ := mD.facts e
 simp +contextual only [q4, e1, e4, cC, PG, sZ, Nat.reduceEqDiff, Nat.reduceAdd, ↓reduceIte, reduceCtorEq]
 refine af (WW ps ss e hv he) ?_
 simp +contextual only [sZ, ↓reduceIte, reduceCtorEq]
 exact a9 rfl rfl
def pq {α : Type} (p : α → Bool) : List α → Nat → Int
 | [], _ => -1
 | x :: r, i => if p x = true then (i : Int) else pq p r (i + 1)
theorem yr {α : Type} [Inhabited α] {p : α → Bool} {l : List α} {i : Nat} (h : i < l.length) : pq p (l.drop i) i = if p (l.getD i default) = true then (i : Int) else pq p (l.drop (i + 1)) (i + 1) := by
 have e : l.getD i default = l[i] := by simp [h]
 rw [List.drop_eq_getElem_cons h, pq, e]
theorem aad (ps ss : List Int) (l : List mD) (hv : Va ps ss) (he : ∀ e ∈ l, KA ps e) : Pure Tryz.prog 161 [.aq 0 (tA l), .fn (.func 162) [] [.aj (eE ps ss)]] (.int .i64 (pq (fun e => !w8 ps ss e) l 0)) := by
 refine fun H => Mc.2.calls rfl ?_
 simp only [Mc, aJ]
 simp +contextual only [CG, sZ, Nat.reduceEqDiff, Nat.reduceAdd, ↓reduceIte, reduceCtorEq]
 intro hl
 refine aD l.length (fun i => pq (fun e => !w8 ps ss e) (l.drop i) i = pq (fun e => !w8 ps ss e) l 0) (fun i => [(0, .aq 0 (tA l)), (1, .fn (.func 162) [] [.aj (eE ps ss)]), (7, .int .i64 l.length), (8, .int .i64 i)]) (fun _ => H) ⟨rfl, aB _ _ _⟩ fun i hi hI => ?_
 obtain ⟨e1, e2, e3, e4, e5, e6⟩ := mD.facts (l.getD i default)
 simp +contextual only [FM, idx_eq, PG, e4, sZ, Nat.reduceEqDiff, Nat.reduceAdd, ↓reduceIte, reduceCtorEq]
 refine ⟨fun a8 => ?_, fun jL => ?_⟩
 ·have a8 := b7 a8
  have hm : l.getD i default ∈ l := by
   rw [List.getD_eq_getElem?_getD, List.getElem?_eq_getElem a8]; exact List.getElem_mem a8
  rw [yr a8] at hI
  refine ⟨a8, af (aac ps ss _ hv (he _ hm)) ?_⟩
  cases hb : w8 ps ss (l.getD i default) with
  | false =>
    rw [if_pos (by rw [hb]; rfl)] at hI
    simp +contextual only [Bool.not_false, sZ, Nat.reduceEqDiff, ↓reduceIte, reduceCtorEq]
    exact a9 rfl (by rw [← hI])
  | true =>
    rw [if_neg (by rw [hb]; simp)] at hI
    simp +contextual only [Bool.not_true, sZ, Nat.reduceEqDiff, ↓reduceIte, reduceCtorEq]
    exact ⟨i + 1, ⟨a8, hI⟩, by omega, aH (by rw [ax i (by omega)]) rfl⟩
 ·rw [List.drop_of_length_le (dl jL)] at hI
  exact a9 rfl (by rw [← hI]; rfl)
structure Ty where
 s : Sg
 es : List mD
deriving Inhabited
def Ty.av (t : Ty) : AV := .agg [.aq 0 (strs t.s.aY), .aq 0 (ow t.s.ops), .aq 0 (tA t.es)]
theorem Ty.facts (t : Ty) : t.av.val = true ∧ t.av.cells.length = 3 ∧ t.av.cells.all AV.one = true ∧ t.av.ae = t.av ∧ t.av.drop = t.av ∧ ∀ n, t.av.aZ n = true :=
 ⟨rfl, rfl, rfl, rfl, rfl, fun n => by simp [Ty.av, AV.aZ, ak, vI, vH, Kz]⟩
theorem KB (t : Ty) (φ : AV → Prop) : al 0 (some 2) (.aj t.av) φ = φ (.aj t.s.av) := by simp [al, apart, Ty.av, Sg.av, AV.cells]
theorem fY2 (t : Ty) (φ : AV → Prop) : al 2 none (.aj t.av) φ = φ (.aj (.aq 0 (tA t.es))) := by simp [al, apart, Ty.av, AV.cells, AV.one]
theorem fS1 (s : Sg) (φ : AV → Prop) : al 1 none (.aj s.av) φ = φ (.aj (.aq 0 (ow s.ops))) := by simp [al, apart, Sg.av, AV.cells, AV.one]
theorem mi (t : Ty) (H : List aa) (φ : AV → Prop) : aS (some 3) (.aj t.av) H φ = φ t.av := by simp [aS, Ty.av, AV.cells]
noncomputable def qI (t : Ty) (ps ss : List Int) : Int := pq (fun e => !w8 ps ss e) t.es 0
theorem c89 (t : Ty) (ps ss : List Int) (hv : Va ps ss) (he : ∀ e ∈ t.es, KA ps e) : Pure Tryz.prog 89 [t.av, eE ps ss] (.int .i64 (qI t ps ss)) := by
 refine fun H => k89.2.calls rfl ?_
 simp only [k89, aJ]
 obtain ⟨q1, q2, q3, q4, q5, q6⟩ := bh ps ss
 obtain ⟨e1, e2, e3, e4, e5, e6⟩ := Ty.facts t
 simp +contextual only [q1, e1, fY2, sZ, Nat.reduceEqDiff, Nat.reduceAdd, ↓reduceIte, reduceCtorEq]
 refine af (aad ps ss t.es hv he) ?_
 simp +contextual only [sZ, ↓reduceIte, reduceCtorEq]
 exact a9 rfl rfl
end Go.aL
end
section
set_option maxRecDepth 100000
set_option maxHeartbeats 0
namespace Go.aL
open Go Go.Proofs
noncomputable def PH := aJ Tryz.call112 Tryz.func112 Tryz.ntmps112 [(0,0,1),(8,0,3001)] [(0,[1,2,3,4,8]),(1,[1,2,3,8,9]),(2,[1,2,3,8,10]),(3,[2,3,8,10,24,25,26]),(4,[2,3,8,10,24,25,26,27]),(5,[2,3,8,10,11,12,24,25,26]),(6,[2,3,8,10,24,25,26]),(7,[2,3,8,10,24,25,26]),(8,[8])] [(6,(.take 0 true (.take 1 true (.take 2 true (.take 6 true (.take 7 true (.take 8 true (.take 9 true (.take 10 true (.take 11 true (.take 12 true (.take 13 true (.take 14 true (.take 3 false (.take 5 false (.br 4 (.br 15 (.take 16 true (.br 17 .done .nil)) .nil) (.br 15 (.take 4 true (.take 16 true (.br 17 .done .nil))) .nil)))))))))))))))))]
end Go.aL
end
section
set_option maxRecDepth 100000
namespace Go.aL
open Go Go.Proofs Go.fw
def iT : List Int → List Int → List Int → List Int
 | l, i :: r, x :: s => iT (l.set i.toNat x) r s
 | l, _, _ => l
def pr (n : Nat) (ops pl : List Int) : List Int := iT (List.replicate n 255) ops pl
def rX (n : Nat) (ops st : List Int) : List Int := iT (List.replicate n 1) ops st
theorem vS : ∀ (l r s : List Int), (iT l r s).length = l.length
 | l, [], _ => by cases l <;> rfl
 | l, _ :: _, [] => rfl
 | l, i :: r, x :: s => by rw [iT, vS]; simp
theorem aae (t : Ty) (ops pl st : List Int) {vo vp vs : AV} (ho : IL vo ops) (hp : IL vp pl) (hs : IL vs st) (tn : pl.length = ops.length) (nJ : st.length = ops.length) (hr : ∀ i ∈ ops, 0 ≤ i ∧ i < t.s.ops.length) (hn : t.s.ops.length ≤ 1000000000) (jM : ops.length ≤ 1000000000) : Pure Tryz.prog 112 [t.av, vo, vp, vs] (eE (pr t.s.ops.length ops pl) (rX t.s.ops.length ops st)) := by
 refine fun H => PH.2.calls rfl ?_
 simp only [PH, aJ]
 obtain ⟨e1, e2, e3, e4, e5, e6⟩ := Ty.facts t
 obtain ⟨a1, a2, a3, a4⟩ := ho.one
 obtain ⟨b1, b2, b3, b4⟩ := hp.one
 obtain ⟨c1, c2, c3, c4⟩ := hs.one
 simp +contextual only [e1, KB, fS1, vG, sZ, Nat.reduceEqDiff, Nat.reduceAdd, ↓reduceIte, reduceCtorEq]
 intro _
 refine ag (Ss 0 255 t.s.ops.length hn _) ?_
 rintro r G ⟨rfl, rfl⟩
 simp +contextual only [sZ, Nat.reduceEqDiff, Nat.reduceAdd, ↓reduceIte]
 refine ag (Ss 0 1 t.s.ops.length hn _) ?_
 rintro r G ⟨rfl, rfl⟩
 simp +contextual only [sZ, Nat.reduceEqDiff, Nat.reduceAdd, ↓reduceIte]
 obtain ⟨n, hn'⟩ : ∃ n, n = t.s.ops.length := ⟨_, rfl⟩
 rw [← hn'] at hn hr ⊢
 have va : ∀ a b c d, (AV.bg a b c d).val = true := fun _ _ _ _ => rfl
 have vc : ∀ a b c d, (AV.bg a b c d).cells = [.bg a b c d] := fun _ _ _ _ => rfl
 have vo' : ∀ a b c d, (AV.bg a b c d).one = true := fun _ _ _ _ => rfl
 have vd : ∀ a b c d, (AV.bg a b c d).drop = .bg a b c d := fun _ _ _ _ => rfl
 have bdA : ∀ (a1 b1 c1 d1 a2 b2 c2 d2 : Nat) (φ : AV → Prop), cj [AV.ah, AV.ah] [(0, 1, .bg a1 b1 c1 d1), (1, 1, .bg a2 b2 c2 d2)] φ = φ (.agg [.bg a1 b1 c1 d1, .bg a2 b2 c2 d2]) := by
  intro a1 b1 c1 d1 a2 b2 c2 d2 φ
  simp only [cj, gk, eq_iff_iff]
  constructor
  ·rintro ⟨_, _, _, _, _, _, h⟩; exact h
  ·exact fun h => ⟨rfl, rfl, by simp, rfl, rfl, by simp [ai, AV.cells], h⟩
 have g3 : ∀ (a b c d : aa), [a, b, c, d][3]? = some d := fun _ _ _ _ => rfl
 have sp2 : ∀ (a b x y : AV), ai [a, b] 0 [x, y] = [x, y] := fun _ _ _ _ => rfl
 have lt1 : ∀ m : Nat, decide (m + 1 < m + 3 + 1) = true := fun m => by simp
 have lt2 : ∀ m : Nat, decide (m + 2 < m + 3 + 1) = true := fun m => by simp
 let S : List Int → List Int → List aa := fun P Q => H ++ [.cells [.ah, .ah], cN P, cN Q, .cells [.bg (H.length + 1) 0 n n, .bg (H.length + 2) 0 n n]]
 simp +contextual only [bdA, vo', g3, sp2, s3, lt1, lt2, Bool.and_self, a2, ho.aM, ho.len (by omega), sZ, Nat.reduceEqDiff, Nat.reduceAdd, ↓reduceIte]
 refine aO ops.length (fun j (s : List Int × List Int) => s.1.length = n ∧ s.2.length = n ∧ iT s.1 (ops.drop j) (pl.drop j) = pr n ops pl ∧ iT s.2 (ops.drop j) (st.drop j) = rX n ops st)
  (fun j s => [(2, vp), (3, vs), (8, .ptr H.length 0), (10, .ptr (H.length + 3) 0), (24, vo), (25, .int .i64 ops.length), (26, .int .i64 j)]) (fun j s => S s.1 s.2) (List.replicate n 255, List.replicate n 1) ⟨⟨by simp, by simp, rfl, rfl⟩, aB _ _ _⟩ fun j s hj hI => ?_
 obtain ⟨P, Q⟩ := s
 obtain ⟨hP, hQ, SW, WX⟩ := hI
 simp only at hP hQ SW WX
 by_cases hjo : (j : Int) < ops.length
 ·have py : j < ops.length := by omega
  have hri := hr _ (aP py)
  obtain ⟨x, hx⟩ := Int.eq_ofNat_of_zero_le hri.1
  have hxn : x < n := by omega
  have hxP : x < P.length := by omega
  have hxQ : x < Q.length := by omega
  simp +contextual only [S, hjo, decide_true, b2, c2, ho.lens, ho.idx, hp.lens, hp.idx, hs.lens, hs.idx, Int.toNat_natCast, hx, kw, g3, Kc hxP, Kc hxQ, sZ, Nat.reduceEqDiff, Nat.reduceAdd, Nat.reduceLT, ↓reduceIte, reduceCtorEq]
  have stp : ∀ (P q : List Int), q.length = ops.length → iT P (ops.drop j) (q.drop j) = iT (P.set x (q.getD j 0)) (ops.drop (j + 1)) (q.drop (j + 1)) := by
   intro P q hq
   have e1 : ops.drop j = ops.getD j 0 :: ops.drop (j + 1) := by rw [List.drop_eq_getElem_cons py]; simp [py]
   have hjq : j < q.length := by omega
   have e2 : q.drop j = q.getD j 0 :: q.drop (j + 1) := by rw [List.drop_eq_getElem_cons hjq]; simp [hjq]
   rw [e1, e2, iT, hx, Int.toNat_natCast]
  rw [stp P pl tn] at SW
  rw [stp Q st nJ] at WX
  have hgo : ∃ (j' : Nat) (t : List Int × List Int), (j' ≤ ops.length ∧ t.1.length = n ∧ t.2.length = n ∧ iT t.1 (ops.drop j') (pl.drop j') = pr n ops pl ∧ iT t.2 (ops.drop j') (st.drop j') = rX n ops st) ∧ ops.length - j' < ops.length - j ∧
   sle H.length [(2, vp), (3, vs), (8, .ptr H.length 0), (10, .ptr (H.length + 3) 0), (24, vo), (25, .int .i64 ops.length), (26, .int .i64 (IntKind.i64.wrap (j + 1)))]
    (H ++ [.cells [.ah, .ah], cN (P.set x (pl.getD j 0)), cN (Q.set x (st.getD j 0)), .cells [.bg (H.length + 1) 0 n n, .bg (H.length + 2) 0 n n]])
    [(2, vp), (3, vs), (8, .ptr H.length 0), (10, .ptr (H.length + 3) 0), (24, vo), (25, .int .i64 ops.length), (26, .int .i64 j')]
    (H ++ [.cells [.ah, .ah], cN t.1, cN t.2, .cells [.bg (H.length + 1) 0 n n, .bg (H.length + 2) 0 n n]]) :=
   ⟨j + 1, (P.set x (pl.getD j 0), Q.set x (st.getD j 0)), ⟨py, by simp [hP], by simp [hQ], SW, WX⟩, by omega, aH (by rw [ax j (by omega)]) rfl⟩
  repeat' apply And.intro
  all_goals first | omega | exact hgo
 ·have WA : j = ops.length := by omega
  subst WA
  rw [List.drop_length] at SW WX
  have eP : P = pr n ops pl := by rw [← SW]; cases P <;> rfl
  have eQ : Q = rX n ops st := by rw [← WX]; cases Q <;> rfl
  simp +contextual only [JM, S, hjo, decide_false, g3, vd, sZ, Nat.reduceEqDiff, ↓reduceIte]
  have f1 : (H ++ [aa.cells [AV.ah, .ah], cN P, cN Q, .cells [.bg (H.length + 1) 0 n n, .bg (H.length + 2) 0 n n]])[H.length + 1]? = some (cN P) := by simp
  have f2 : ((H ++ [aa.cells [AV.ah, .ah], cN P, cN Q, .cells [.bg (H.length + 1) 0 n n, .bg (H.length + 2) 0 n n]]).set (H.length + 1) .dead)[H.length + 2]? = some (cN Q) := by rw [List.getElem?_set_ne (by omega)]; simp
  have fz1 : ∀ {id n : Nat} {l : List Int} {H : List aa} (h : H[id]? = some (cN l)) (hn : l.length = n) {K : AV → List aa → Prop} (hK : K (.aq 0 (ints l)) (H.set id .dead)), dB 1 (.bg id 0 n n) H K := fun h hn K hK => by subst hn; exact Ck h hK
  refine fz1 f1 hP ?_
  refine fz1 f2 hQ ?_
  have es : ((H ++ [aa.cells [AV.ah, .ah], cN P, cN Q, .cells [.bg (H.length + 1) 0 n n, .bg (H.length + 2) 0 n n]]).set (H.length + 1) .dead).set (H.length + 2) .dead = H ++ [aa.cells [AV.ah, .ah], .dead, .dead, .cells [.bg (H.length + 1) 0 n n, .bg (H.length + 2) 0 n n]] := by simp []
  rw [es]
  have fb : ∀ m, ak m [AV.aq 0 (ints P), .aq 0 (ints Q)] = true := fun m => by simp [bM, cW, cR, bj]
  simp +contextual only [fb, sp2, Bool.and_self, sZ, Nat.reduceEqDiff, Nat.reduceAdd, ↓reduceIte, reduceCtorEq]
  rw [eP, eQ]
  exact Fq ((bh _ _).2.2.2.2.2 _) rfl
end Go.aL
end
section
set_option maxRecDepth 100000
namespace Go.aL
open Go Go.Proofs Go.fw
def gY (vals : List Int) : Nat → List (List Int)
 | 0 => [[]]
 | n + 1 => vals.flatMap fun x => (gY vals n).map (x :: ·)
def eH {σ : Type} (step : σ → List Int → σ × Bool) : List (List Int) → σ → σ × Bool
 | [], s => (s, true)
 | l :: r, s => if (step s l).2 = true then eH step r (step s l).1 else ((step s l).1, false)
theorem vU {σ : Type} {step : σ → List Int → σ × Bool} : ∀ (a b : List (List Int)) (s : σ), eH step (a ++ b) s = if (eH step a s).2 = true then eH step b (eH step a s).1 else ((eH step a s).1, false)
 | [], b, s => by simp [eH]
 | x :: a, b, s => by
   rw [List.cons_append, eH, eH]
   split
   ·exact vU a b _
   ·simp
def df (lo : Int) (n : Nat) : List Int := (List.range n).map fun i => lo + (i : Nat)
theorem EB (lo : Int) (n : Nat) : df lo (n + 1) = df lo n ++ [lo + (n : Nat)] := by simp [df, List.range_succ]
theorem yu {lo x : Int} {n : Nat} : x ∈ df lo n ↔ lo ≤ x ∧ x < lo + n := by
 simp only [df, List.mem_map, List.mem_range]
 constructor
 ·rintro ⟨j, h, rfl⟩; omega
 ·intro h; exact ⟨(x - lo).toNat, by omega, by omega⟩
def FN (n : Nat) (id : Nat) (lo hi : Int) (q : Nat) : AV := .fn (.func 206) [] [.aj (.int .i64 n), .aj (.mE id), .aj (.int .i64 lo), .aj (.int .i64 hi), .ptr q 0]
structure YS {σ : Type} (n : Nat) (vals : List Int) (id : Nat) (St : σ → List aa) (Good : σ → Prop) (step : σ → List Int → σ × Bool) : Prop where
 y : ∀ l s X, l.length = n → (∀ x ∈ l, x ∈ vals) → Good s → jv Tryz.prog id [bo l] (St s ++ X) fun r H' => r = .bool (step s l).2 ∧ H' = St (step s l).1 ++ X
 SA : ∀ l s, Good s → (step s l).2 = true → Good (step s l).1
 len : ∀ s s', (St s).length = (St s').length
theorem yv {σ : Type} {n : Nat} {vals : List Int} {id : Nat} {St : σ → List aa} {Good : σ → Prop} {step : σ → List Int → σ × Bool} (h : YS n vals id St Good step) : ∀ (a : List (List Int)) (s : σ), Good s → (eH step a s).2 = true → Good (eH step a s).1
 | [], s, hs, _ => hs
 | l :: r, s, hs, hr => by
   rw [eH] at hr ⊢
   split at hr
   ·rename_i h1
    rw [if_pos h1]
    exact yv h r _ (h.SA l s hs h1) hr
   ·simp at hr
theorem N9 (l : List Int) (h : l ≠ []) : bo l = .aq 0 (ints l) := by cases l with
 | nil => exact absurd rfl h
 | cons a r => rfl
theorem WY (l : List Int) (hb : l.length * 8 ≤ 140737488355328) : Pure Tryz.prog 118 [bo l] (.aq 1 (ints l)) := by
 intro H
 cases l with
 | nil => exact xH H
 | cons a r => exact vf 0 (ints (a :: r)) H (of_eq_true (lQ _)) (by rw [aw]; exact hb) (bj _ _)
theorem aaf {σ : Type} {n : Nat} {lo hi : Int} (um : -1000000 ≤ lo ∧ lo ≤ 1000000) (Iq : -1000000 ≤ hi ∧ hi ≤ 1000000) (hn : n ≤ 1000000) {id : Nat} {St : σ → List aa} {Good : σ → Prop} {step : σ → List Int → σ × Bool} (hy : YS n (df lo (hi + 1 - lo).toNat) id St Good step) (q : Nat) :
 ∀ (r : Nat) (l : List Int) (s : σ) (X : List aa), l.length + r = n → (∀ x ∈ l, x ∈ df lo (hi + 1 - lo).toNat) → Good s → (∀ s', (St s' ++ X)[q]? = some (.cells [FN n id lo hi q])) →
  au Tryz.prog 206 [bo l, .aj (.int .i64 n), .aj (.mE id), .aj (.int .i64 lo), .aj (.int .i64 hi), .ptr q 0] (St s ++ X) fun rr H' => rr = .bool (eH step ((gY (df lo (hi + 1 - lo).toNat) r).map (l ++ ·)) s).2 ∧ H' = St (eH step ((gY (df lo (hi + 1 - lo).toNat) r).map (l ++ ·)) s).1 ++ X := by
 intro r
 induction r with
 | zero =>
   intro l s X hl hm hs hq
   refine Mn.2.calls rfl ?_
   simp only [Mn, aJ]
   have ik : IL (bo l) l := .inl rfl
   obtain ⟨a1, a2, a3, a4, a5⟩ := aF l
   have e1 : ((l.length : Int) = (n : Int)) = True := eq_true (by omega)
   have lyld : ∀ (H : List aa) (φ : AV → Prop), aS none (.aj (.mE id)) H φ = φ (.mE id) := fun H φ => by simp [aS, AV.one, AV.ae]
   have e2 : eH step ((gY (df lo (hi + 1 - lo).toNat) 0).map (l ++ ·)) s = step s l := by
    simp only [gY, List.map_cons, List.map_nil, List.append_nil, eH]
    cases hb : (step s l).2 with
    | true => rw [if_pos rfl, ← hb]
    | false => rw [if_neg (by simp), ← hb]
   rw [e2]
   simp +contextual only [a2, ik.aM, ik.len (by omega), e1, decide_true, lyld, FK, sZ, Nat.reduceEqDiff, Nat.reduceAdd, ↓reduceIte, reduceCtorEq]
   refine yo (hy.y l s X (by omega) hm hs) ?_
   rintro rr H' ⟨rfl, rfl⟩
   simp +contextual only [sZ, ↓reduceIte, reduceCtorEq]
   refine aW (St s ++ X).length (Nat.le_refl _) (by rw [ay, if_pos rfl]; rfl) ?_
   rw [ay, if_pos rfl]
   exact ⟨rfl, by rw [List.take_of_length_le (by rw [List.length_append, List.length_append, hy.len _ s]; exact Nat.le_refl _)]⟩
 | succ r ih =>
   intro l s X hl hm hs hq
   refine Mn.2.calls rfl ?_
   simp only [Mn, aJ]
   have ik : IL (bo l) l := .inl rfl
   obtain ⟨a1, a2, a3, a4, a5⟩ := aF l
   have e1 : ((l.length : Int) = (n : Int)) = False := eq_false (by omega)
   have pW : ∀ (b : Bool) (s' : σ), bV (St s ++ X).length [.t 7] [(7, .bool b)] (St s' ++ X) fun rr H' => rr = .bool b ∧ H' = St s' ++ X := by
    intro b s'
    refine aW (St s ++ X).length (Nat.le_refl _) (by rw [ay, if_pos rfl]; rfl) ?_
    rw [ay, if_pos rfl]
    exact ⟨rfl, by rw [List.take_of_length_le (by rw [List.length_append, List.length_append, hy.len _ s]; exact Nat.le_refl _)]⟩
   obtain ⟨m, Ti⟩ : ∃ m, m = (hi + 1 - lo).toNat := ⟨_, rfl⟩
   rw [← Ti] at ih hm ⊢
   obtain ⟨F, hF⟩ : ∃ F : Nat → List (List Int), F = fun k => (df lo k).flatMap fun x => (gY (df lo m) r).map fun y => l ++ x :: y := ⟨_, rfl⟩
   have hF0 : F 0 = [] := by rw [hF]; rfl
   have hFs : ∀ k, F (k + 1) = F k ++ (gY (df lo m) r).map ((l ++ [lo + (k : Nat)]) ++ ·) := by
    intro k
    rw [hF]
    simp only [EB, List.flatMap_append, List.flatMap_cons, List.flatMap_nil, List.append_nil, List.append_assoc, List.cons_append, List.nil_append]
   have hFm : (gY (df lo m) (r + 1)).map (l ++ ·) = F m := by
    rw [hF, gY, List.map_flatMap]
    congr 1
    funext x
    rw [List.map_map]; rfl
   rw [hFm]
   simp +contextual only [a2, ik.aM, ik.len (by omega), e1, decide_false, sZ, Nat.reduceEqDiff, Nat.reduceAdd, ↓reduceIte, reduceCtorEq]
   refine aO m (fun k (_ : Unit) => (eH step (F k) s).2 = true) (fun k _ => [(0, bo l), (4, .aj (.int .i64 hi)), (5, .ptr q 0), (8, .int .i64 (lo + (k : Nat)))]) (fun k _ => St (eH step (F k) s).1 ++ X) () ⟨by rw [hF0]; rfl, aH (by simp) (by rw [hF0]; rfl)⟩ fun k _ hk hI => ?_
   have hg := yv hy (F k) s hs hI
   generalize OC : (eH step (F k) s).1 = s1 at hg ⊢
   by_cases hkm : lo + (k : Int) ≤ hi
   ·have EU : k < m := by omega
    have hql := hq s1
    simp +contextual only [hkm, decide_true, a2, sZ, Nat.reduceEqDiff, ↓reduceIte, reduceCtorEq]
    refine aI (WY l (by omega)) ?_
    have jN : tb 1 [AV.int .i64 (lo + (k : Int))] := of_eq_true (lQ [_])
    have efn : (FN n id lo hi q).ae = .fn (.func 206) [] [.aj (.int .i64 n), .aj (.mE id), .aj (.int .i64 lo), .aj (.int .i64 hi), .ptr q 0] := rfl
    have ea : ints l ++ [AV.int .i64 (lo + (k : Int))] = ints (l ++ [lo + (k : Int)]) := by simp [ints]
    have ek : AV.aq 0 (ints (l ++ [lo + (k : Int)])) = bo (l ++ [lo + (k : Int)]) := by rw [N9 _ (by simp)]
    simp +contextual only [hql, efn, aw, jN, ea, ek, Fi, sZ, Nat.reduceEqDiff, Nat.reduceAdd, Nat.reduceLT, ↓reduceIte, reduceCtorEq]
    refine ⟨by omega, ag (ih (l ++ [lo + (k : Int)]) s1 X (by simp; omega) (fun x hx => ?_) hg hq) ?_⟩
    ·rcases List.mem_append.1 hx with h | h
     ·exact hm x h
     ·simp only [List.mem_cons, List.not_mem_nil, or_false] at h
      subst h
      exact yu.2 ⟨by omega, by omega⟩
    rintro rr H' ⟨rfl, rfl⟩
    have bH : eH step (F (k + 1)) s = eH step ((gY (df lo m) r).map ((l ++ [lo + (k : Int)]) ++ ·)) s1 := by
     rw [hFs, vU, if_pos hI, OC]
    cases hb : (eH step ((gY (df lo m) r).map ((l ++ [lo + (k : Int)]) ++ ·)) s1).2 with
    | true =>
      simp +contextual only [Bool.not_true, sZ, Nat.reduceEqDiff, ↓reduceIte, reduceCtorEq]
      refine ⟨k + 1, (), ⟨EU, by rw [bH]; exact hb⟩, by omega, aH ?_ (by rw [bH])⟩
      rw [dG _ (by omega)]
      have : lo + (k : Int) + 1 = lo + ((k + 1 : Nat) : Int) := by omega
      rw [this]
    | false =>
      simp +contextual only [Bool.not_false, sZ, Nat.reduceEqDiff, ↓reduceIte, reduceCtorEq]
      have jo : eH step (F m) s = ((eH step ((gY (df lo m) r).map ((l ++ [lo + (k : Int)]) ++ ·)) s1).1, false) := by
       have e : ∃ R, F m = F (k + 1) ++ R := by
        have : ∀ d, ∃ R, F (k + 1 + d) = F (k + 1) ++ R := by
         intro d
         induction d with
         | zero => exact ⟨[], by simp⟩
         | succ d YA =>
           obtain ⟨R, hR⟩ := YA
           exact ⟨R ++ _, by rw [show k + 1 + (d + 1) = (k + 1 + d) + 1 by omega, hFs, hR, List.append_assoc]⟩
        obtain ⟨R, hR⟩ := this (m - (k + 1))
        exact ⟨R, by rw [← hR]; congr 1; omega⟩
       obtain ⟨R, hR⟩ := e
       rw [hR, vU, bH, hb, if_neg (by simp)]
      rw [jo]
      exact pW false _
   ·have hke : k = m := by omega
    simp +contextual only [hkm, decide_false, sZ, Nat.reduceEqDiff, ↓reduceIte, reduceCtorEq]
    rw [← hke, hI, OC]
    exact pW true s1
theorem WZ {σ : Type} {n : Nat} {lo hi : Int} (um : -1000000 ≤ lo ∧ lo ≤ 1000000) (Iq : -1000000 ≤ hi ∧ hi ≤ 1000000) (hn : n ≤ 1000000) {id : Nat} {St : σ → List aa} {Good : σ → Prop} {step : σ → List Int → σ × Bool} (hy : YS n (df lo (hi + 1 - lo).toNat) id St Good step) (bn : ∀ s, id < (St s).length) (s : σ) (hs : Good s) :
 au Tryz.prog 205 [.mE id, .aj (.int .i64 n), .aj (.int .i64 lo), .aj (.int .i64 hi)] (St s) fun rr H' => rr = .tuple [] ∧ H' = St (eH step (gY (df lo (hi + 1 - lo).toNat) n) s).1 := by
 refine U7.2.calls rfl ?_
 simp only [U7, aJ]
 have aeB := bn s
 have vy : (AV.mE id).val = true := rfl
 have cy : (AV.mE id).cells = [.mE id] := rfl
 have oy : (AV.mE id).one = true := rfl
 have by' : ∀ m, (AV.mE id).aZ m = decide (id < m) := fun m => by simp [AV.aZ]
 have d1 : decide (id < (St s).length + 1) = true := decide_eq_true (by omega)
 have d2' : decide ((St s).length < (St s).length + 1) = true := decide_eq_true (by omega)
 have efn : (FN n id lo hi (St s).length).ae = .fn (.func 206) [] [.aj (.int .i64 n), .aj (.mE id), .aj (.int .i64 lo), .aj (.int .i64 hi), .ptr (St s).length 0] := rfl
 simp +contextual only [vy, by', d1, d2', Bool.and_self, YP, sZ, Nat.reduceEqDiff, Nat.reduceAdd, Nat.reduceLT, ↓reduceIte, reduceCtorEq]
 have h := aaf um Iq hn hy (St s).length n [] s [.cells [FN n id lo hi (St s).length]] (by simp) (fun x hx => by cases hx) hs (fun s' => by rw [← hy.len s' s]; simp)
 have em : (gY (df lo (hi + 1 - lo).toNat) n).map ([] ++ ·) = gY (df lo (hi + 1 - lo).toNat) n := by simp
 rw [em] at h
 refine ag h ?_
 rintro rr H' ⟨rfl, rfl⟩
 simp +contextual only [sZ, reduceCtorEq]
 refine ⟨(St s).length, Nat.le_refl _, [], trivial, rfl, rfl, ?_⟩
 rw [hy.len s _, List.take_left]
theorem W0 (n : Nat) (lo hi : Int) : Pure Tryz.prog 166 [.int .i64 n, .int .i64 lo, .int .i64 hi] (.fn (.func 205) [] [.aj (.int .i64 n), .aj (.int .i64 lo), .aj (.int .i64 hi)]) := by
 refine fun H => UN.2.calls rfl ?_
 simp only [UN, aJ]
 simp +contextual only [sZ, Nat.reduceEqDiff, Nat.reduceAdd, ↓reduceIte, reduceCtorEq]
 exact a9 rfl rfl
end Go.aL
end
section
set_option maxRecDepth 100000
namespace Go.aL
open Go Go.Proofs Go.fw
theorem aag (x : Int) (r : List Int) (hl : r.length ≤ 1000000000) : Pure Tryz.prog 207 [.aq 0 (ints (x :: r))] (.int .i64 (r.foldl max x)) := by
 refine fun H => U8.2.calls rfl ?_
 simp only [U8, aJ]
 have ix : IL (.aq 0 (ints (x :: r))) (x :: r) := .inr rfl
 have n1 : (((x :: r).length : Int) < 1) = False := eq_false (by simp; omega)
 have g0' : (x :: r).getD (0 : Int).toNat 0 = x := rfl
 have ll : (x :: r).length ≤ 1000000001 := by simp; omega
 generalize ft : x :: r = xs at *
 have ep : 0 < xs.length := by rw [← ft]; simp
 simp +contextual only [ix.aM, ix.len (by omega), n1, decide_false, ix.lens, ix.idx, g0', sZ, Nat.reduceEqDiff, Nat.reduceAdd, ↓reduceIte, reduceCtorEq]
 refine ⟨by omega, ?_⟩
 have hsplit : ∀ j, j ≤ r.length → (r.take j).foldl max x = ((xs.take (j + 1)).drop 1).foldl max x := by intro j _; rw [← ft]; simp
 refine aD r.length (fun j => True) (fun j => [(0, .aq 0 (ints xs)), (3, .int .i64 ((r.take j).foldl max x)), (4, .int .i64 ((j + 1 : Nat) : Int))]) (fun _ => H) ⟨trivial, aB _ _ _⟩ fun j hj _ => ?_
 have Ij : xs.length = r.length + 1 := by rw [← ft]; simp
 by_cases hjr : j < r.length
 ·have n2 : (((j + 1 : Nat) : Int) < xs.length) = True := eq_true (by omega)
  have gj : xs.getD (j + 1) 0 = r.getD j 0 := by rw [← ft]; simp
  have tk : (r.take (j + 1)).foldl max x = max ((r.take j).foldl max x) (r.getD j 0) := by
   rw [List.take_succ_eq_append_getElem hjr, List.foldl_append]
   simp [hjr]
  simp +contextual only [ix.aM, ix.len (by omega), n2, decide_true, ix.lens, ix.idx, Int.toNat_natCast, gj, sZ, Nat.reduceEqDiff, ↓reduceIte, reduceCtorEq]
  exact ⟨by omega, j + 1, hjr, by omega, aH (by rw [dG _ (by omega), tk]; rfl) rfl⟩
 ·have e : j = r.length := by omega
  subst e
  have n2 : (((r.length + 1 : Nat) : Int) < xs.length) = False := eq_false (by omega)
  simp +contextual only [ix.aM, ix.len (by omega), n2, decide_false, sZ, Nat.reduceEqDiff, ↓reduceIte, reduceCtorEq]
  exact a9 rfl (by rw [List.take_length])
theorem aai (l : List Int) {v : AV} (h : IL v l) (hl : l.length ≤ 1000000000) (y : Int) : Pure Tryz.prog 111 [v, .int .i64 y] (.int .i64 (pq (fun z => decide (y = z)) l 0)) := by
 refine fun H => Uk.2.calls rfl ?_
 simp only [Uk, aJ]
 obtain ⟨a1, a2, a3, a4⟩ := h.one
 simp +contextual only [a2, h.aM, h.len (by omega), sZ, Nat.reduceEqDiff, Nat.reduceAdd, ↓reduceIte, reduceCtorEq]
 refine aD l.length (fun i => pq (fun z => decide (y = z)) (l.drop i) i = pq (fun z => decide (y = z)) l 0) (fun i => [(0, v), (1, .int .i64 y), (7, .int .i64 l.length), (8, .int .i64 i)]) (fun _ => H) ⟨rfl, aB _ _ _⟩ fun i hi hI => ?_
 by_cases Aw : i < l.length
 ·have n1 : ((i : Int) < l.length) = True := eq_true (by omega)
  rw [yr Aw] at hI
  have egd : l.getD i default = l.getD i 0 := by simp [Aw]
  rw [egd] at hI
  simp +contextual only [n1, decide_true, a2, h.lens, h.idx, Int.toNat_natCast, sZ, Nat.reduceEqDiff, ↓reduceIte, reduceCtorEq]
  refine ⟨by omega, fun he => ?_, fun ep => ?_⟩
  ·rw [if_pos (by simpa using he)] at hI
   exact a9 rfl (by rw [← hI])
  ·rw [if_neg (by simpa using ep)] at hI
   exact ⟨i + 1, ⟨Aw, hI⟩, by omega, aH (by rw [ax i (by omega)]) rfl⟩
 ·have n1 : ((i : Int) < l.length) = False := eq_false (by omega)
  rw [List.drop_of_length_le (by omega)] at hI
  simp +contextual only [n1, decide_false, sZ, Nat.reduceEqDiff, ↓reduceIte, reduceCtorEq]
  exact a9 rfl (by rw [← hI]; rfl)
theorem FO {α : Type} {p : α → Bool} : ∀ (l : List α) (i : Nat), 0 ≤ pq p l i ↔ ∃ x ∈ l, p x = true
 | [], i => by simp [pq]
 | x :: r, i => by
   rw [pq]
   by_cases h : p x = true
   ·rw [if_pos h]; exact ⟨fun _ => ⟨x, by simp, h⟩, fun _ => by omega⟩
   ·rw [if_neg h, FO r (i + 1)]
    simp [h]
theorem aaj (l : List Int) {v : AV} (h : IL v l) (hl : l.length ≤ 1000000000) (y : Int) : Pure Tryz.prog 208 [v, .int .i64 y] (.bool (decide (y ∈ l))) := by
 refine fun H => U9.2.calls rfl ?_
 simp only [U9, aJ]
 obtain ⟨a1, a2, a3, a4⟩ := h.one
 simp +contextual only [a2, sZ, Nat.reduceEqDiff, Nat.reduceAdd, ↓reduceIte, reduceCtorEq]
 refine af (aai l h hl y) ?_
 simp +contextual only [sZ, ↓reduceIte, reduceCtorEq]
 refine a9 rfl ?_
 congr 1
 rw [decide_eq_decide, FO]
 simp
def CH (l : List Int) : Int := l.foldl max (-1)
def nC (l : List Int) : Bool := (List.range (CH l + 1).toNat).all fun j => decide ((j : Int) ∈ l)
theorem foldl_max : ∀ (l : List Int) (x b : Int), x ≤ b → (∀ y ∈ l, y ≤ b) → x ≤ l.foldl max x ∧ l.foldl max x ≤ b
 | [], x, b, h, _ => ⟨Int.le_refl _, h⟩
 | y :: r, x, b, h, hr => by
   have h1 := hr y (by simp)
   have := foldl_max r (max x y) b (by omega) (fun z hz => hr z (by simp [hz]))
   rw [List.foldl_cons]; omega
theorem aak (l : List Int) {v : AV} (h : IL v l) (hl : l.length ≤ 100000000) (hb : ∀ x ∈ l, x ≤ 1000000) : Pure Tryz.prog 167 [v] (.bool (nC l)) := by
 refine fun H => UO.2.calls rfl ?_
 simp only [UO, aJ]
 obtain ⟨a1, a2, a3, a4⟩ := h.one
 have T6 : ∀ ψ : List AV → Prop, bF 1 8 (.aq 1 [.int .i64 (-1)]) v ψ = ψ (ints (-1 :: l)) := by
  intro ψ
  have hr : dE v = some (ints l) := by
   rcases h with rfl | rfl
   ·cases l <;> rfl
   ·rfl
  have hal : mc 1 (.aq 1 [.int .i64 (-1)]) = some [.int .i64 (-1)] := rfl
  have ok : tb 1 (ints l) := of_eq_true (lQ l)
  simp only [bF, hal, hr, eq_iff_iff]
  exact ⟨fun h => h.2.2, fun k => ⟨by simp [aw]; omega, ok, k⟩⟩
 have hm := foldl_max l (-1) 1000000 (by omega) hb
 simp +contextual only [a2, T6, sZ, Nat.reduceEqDiff, Nat.reduceAdd, ↓reduceIte, reduceCtorEq]
 refine af (aag (-1) l (by omega)) ?_
 have em : l.foldl max (-1) = CH l := rfl
 rw [em] at hm ⊢
 have hw : IntKind.i64.wrap (CH l + 1) = CH l + 1 := dG _ (by omega)
 simp +contextual only [hw, sZ, Nat.reduceEqDiff, ↓reduceIte, reduceCtorEq]
 refine aD (CH l + 1).toNat (fun j => ∀ i, i < j → (i : Int) ∈ l) (fun j => [(0, v), (8, .int .i64 (CH l + 1)), (9, .int .i64 j)]) (fun _ => H) ⟨fun i hi => by omega, aB _ _ _⟩ fun j hj hI => ?_
 by_cases hjm : (j : Int) < CH l + 1
 ·simp +contextual only [hjm, decide_true, a2, sZ, Nat.reduceEqDiff, Nat.reduceAdd, ↓reduceIte, reduceCtorEq]
  refine af (aaj l h (by omega) j) ?_
  by_cases Iu : (j : Int) ∈ l
  ·simp +contextual only [Iu, decide_true, Bool.not_true, sZ, Nat.reduceEqDiff, ↓reduceIte, reduceCtorEq]
   refine ⟨j + 1, ⟨by omega, fun i hi => ?_⟩, by omega, aH (by rw [ax j (by omega)]) rfl⟩
   by_cases e : i = j
   ·subst e; exact Iu
   ·exact hI i (by omega)
  ·simp +contextual only [Iu, decide_false, Bool.not_false, sZ, Nat.reduceEqDiff, ↓reduceIte, reduceCtorEq]
   refine a9 rfl ?_
   congr 1
   have : nC l = false := by
    unfold nC
    rw [List.all_eq_false]
    exact ⟨j, List.mem_range.2 (by omega), by simpa using Iu⟩
   rw [this]
 ·have e : j = (CH l + 1).toNat := by omega
  simp +contextual only [hjm, decide_false, sZ, Nat.reduceEqDiff, ↓reduceIte, reduceCtorEq]
  refine a9 rfl ?_
  congr 1
  have : nC l = true := by
   unfold nC
   rw [List.all_eq_true]
   intro i hi
   exact decide_eq_true (hI i (by rw [e]; exact List.mem_range.1 hi))
  rw [this]
end Go.aL
end
section
set_option maxRecDepth 100000
namespace Go.aL
open Go Go.Proofs Go.fw
open Classical in
noncomputable def vV (t : Ty) (ops pl st : List Int) : Bool := decide (iS t.s (pr t.s.ops.length ops pl) (rX t.s.ops.length ops st) = 0 ∧ qI t (pr t.s.ops.length ops pl) (rX t.s.ops.length ops st) < 0)
abbrev Fo := Option (List Int × List Int)
noncomputable def dn (t : Ty) (ops pl : List Int) (s : Fo) (st : List Int) : Fo × Bool := if vV t ops pl st = true then (some (pr t.s.ops.length ops pl, rX t.s.ops.length ops st), false) else (s, true)
noncomputable def eR (t : Ty) (ops : List Int) (s : Fo) (pl : List Int) : Fo × Bool := if nC pl = true then eH (dn t ops pl) (gY (df 1 3) ops.length) s else (s, true)
noncomputable def w9 (t : Ty) (ops : List Int) : Fo := (eH (eR t ops) (gY (df 0 ops.length) ops.length) none).1
def o4 (s : Fo) : aa := match s with | none => .cells [.ah, .ah] | some (P, S) => .cells [.aq 0 (ints P), .aq 0 (ints S)]
def o5 (s : Fo) : aa := .cells [.bool s.isSome]
noncomputable def iz (s : Fo) : Te := if s.isSome = true then .jump .ret else .ready
theorem Al : a7.n = 41 := by kernel_rfl
theorem Am : bA.n = 41 := by kernel_rfl
theorem vW : a7.ps = [15] := by kernel_rfl
theorem vX : bA.ps = [22] := by kernel_rfl
theorem KC {n0 id : Nat} {R : AV → List aa → Prop} {H : List aa} {lc : ig} {es : List AV} (h : H[id]? = some (.loop .busy lc es)) : pV n0 id R .ret H = Gy n0 false (H.set id (.loop (.jump .ret) lc es)) R := by
 unfold pV; rw [h]
theorem CJ {id : Nat} {H : List aa} {K : Option Code → List aa → Prop} {lc : ig} {es : List AV} {c : Code} (h : H[id]? = some (.loop (.jump c) lc es)) : behind id H K = K (some c) (H.set id (.loop .ew lc es)) := by
 unfold behind; rw [h]
theorem An (t : Ty) (ops pl : List Int) : ∀ (a : List (List Int)) (s : Fo), s = none → (eH (dn t ops pl) a s).2 = (eH (dn t ops pl) a s).1.isNone
 | [], s, h => by subst h; rfl
 | l :: r, s, h => by
   subst h
   rw [eH]
   by_cases ht : vV t ops pl l = true
   ·have e : dn t ops pl none l = (some (pr t.s.ops.length ops pl, rX t.s.ops.length ops l), false) := if_pos ht
    rw [e]; rfl
   ·have e : dn t ops pl none l = (none, true) := if_neg ht
    rw [e]
    exact An t ops pl r none rfl
structure Ao (t : Ty) : Prop where
 n : t.s.ops.length ≤ 1000000000
 eq : ∀ e ∈ t.es, ∀ ps : List Int, ps.length = t.s.ops.length → KA ps e
theorem KD (n : Nat) (ops pl : List Int) : (pr n ops pl).length = n := by unfold pr; rw [vS]; simp
theorem ub (A : List aa) (x : aa) (Y : List aa) (k : Nat) (h : A.length = k) : (A ++ x :: Y)[k]? = some x := by subst h; simp
theorem uc (A : List aa) (x y : aa) (Y : List aa) (k : Nat) (h : A.length = k) : (A ++ x :: Y).set k y = A ++ y :: Y := by subst h; simp
def eT (H W : List aa) (s : Fo) : List aa := H ++ o4 s :: o5 s :: W
theorem eG (H W : List aa) (s : Fo) : (eT H W s).length = H.length + 2 + W.length := by simp [eT]; omega
theorem PI (H W Y : List aa) (s : Fo) : (eT H W s ++ Y)[H.length]? = some (o4 s) := by rw [List.getElem?_append_left (by rw [eG]; omega)]; simp [eT]
theorem PJ (H W Y : List aa) (s : Fo) : (eT H W s ++ Y)[H.length + 1]? = some (o5 s) := by rw [List.getElem?_append_left (by rw [eG]; omega)]; simp [eT]
theorem SX (H W Y : List aa) (s : Fo) (P S : List Int) : ((eT H W s ++ Y).set H.length (.cells [.aq 0 (ints P), .aq 0 (ints S)])).set (H.length + 1) (.cells [.bool true]) = eT H W (some (P, S)) ++ Y := by
 rw [List.set_append_left _ _ (by rw [eG]; omega), List.set_append_left _ _ (by rw [List.length_set, eG]; omega)]
 simp [eT, o4, o5]
theorem SY {s : Sg} {ps ss : List Int} (h : iS s ps ss = 0) : Va ps ss := (vK.1 h).2.va
theorem KE {t : Ty} (ht : Ao t) {ops : List Int} {vo : AV} (ho : IL vo ops) (hr : ∀ i ∈ ops, 0 ≤ i ∧ i < t.s.ops.length) (jM : ops.length ≤ 1000000) {pl : List Int} (uk : pl.length = ops.length) (H W : List aa) (es : List AV) (yO : es = km 41 [(2, .aj t.av), (3, .aj vo), (4, .ptr H.length 0), (5, .ptr (H.length + 1) 0), (6, .aj (bo pl)), (21, .fn (.func 205) [] [.aj (.int .i64 ops.length), .aj (.int .i64 1), .aj (.int .i64 3)])])
 (l : List Int) (hl : l.length = ops.length) (Y : List aa) (id : Nat) (bn : id = H.length + 2 + W.length) :
 jv Tryz.prog id [bo l] (eT H W none ++ .loop .ready bA es :: Y) fun r H' => r = .bool (dn t ops pl none l).2 ∧ H' = eT H W (dn t ops pl none l).1 ++ .loop (iz (dn t ops pl none l).1) bA es :: Y := by
 have ees : es = [.any, .any, .aj t.av, .aj vo, .ptr H.length 0, .ptr (H.length + 1) 0, .aj (bo pl), .any, .any, .any, .any, .any, .any, .any, .any, .any, .any, .any, .any, .any, .any, .fn (.func 205) [] [.aj (.int .i64 ops.length), .aj (.int .i64 1), .aj (.int .i64 3)], .any, .any, .any, .any, .any, .any, .any, .any, .any, .any, .any, .any, .any, .any, .any, .any, .any, .any, .any] := by rw [yO]; rfl
 have hk : ∀ s, (eT H W s).length = id := fun s => by rw [eG, bn]
 have e0 : ∀ s st, (eT H W s ++ aa.loop st bA es :: Y)[id]? = some (.loop st bA es) := fun s st => ub _ _ _ _ (hk s)
 have fW : ∀ s st st', (eT H W s ++ aa.loop st bA es :: Y).set id (.loop st' bA es) = eT H W s ++ aa.loop st' bA es :: Y := fun s st st' => uc _ _ _ _ _ (hk s)
 have hlen : ∀ s st, (eT H W s ++ aa.loop st bA es :: Y).length = (eT H W none ++ aa.loop .ready bA es :: Y).length := fun s st => by rw [List.length_append, List.length_append, hk, hk]; rfl
 refine nP (lc := bA) (es := es) (e0 none .ready) Qs Qt ⟨by rw [ees, Am]; rfl, by rw [vX]; rfl, by rw [vX, Am]; rfl, ?_, ?_⟩ (vP ?_)
 ·rw [ees]; intro x hx; simp only [List.mem_cons, List.not_mem_nil, or_false] at hx
  repeat' (first | (rcases hx with hx | hx; · subst hx; rfl) | (subst hx; rfl))
 ·intro x hx; simp only [List.mem_cons, List.not_mem_nil, or_false] at hx; subst hx; exact (aF l).2.1
 ·have ez : (bA.ps.zip [bo l]).reverse ++ bW 0 es = (22, bo l) :: bW 0 es := by rw [vX]; rfl
  rw [ez]
  generalize xa : bW 0 es = ea
  have g2 : get ea 2 = .aj t.av := by rw [← xa, ees]; rfl
  have g3 : get ea 3 = .aj vo := by rw [← xa, ees]; rfl
  have g4 : get ea 4 = .ptr H.length 0 := by rw [← xa, ees]; rfl
  have g5 : get ea 5 = .ptr (H.length + 1) 0 := by rw [← xa, ees]; rfl
  have g6 : get ea 6 = .aj (bo pl) := by rw [← xa, ees]; rfl
  simp only [IW, IY]
  have hb : ∀ K, jD id (eT H W none ++ .loop .ready bA es :: Y) K = K (eT H W none ++ .loop .busy bA es :: Y) := fun K => by rw [rV (e0 none .ready), fW]
  obtain ⟨e1, e2, e3, e4, e5, e6⟩ := Ty.facts t
  obtain ⟨a1, a2, a3, a4⟩ := ho.one
  obtain ⟨b1, b2, b3, b4, b5⟩ := aF pl
  obtain ⟨c1, c2, c3, c4, c5⟩ := aF l
  have lvo : ∀ (H : List aa) (φ : AV → Prop), aS none (.aj vo) H φ = φ vo := fun H φ => by simp [aS, a1, a2]
  obtain ⟨q1, q2, q3, q4, q5, q6⟩ := bh (pr t.s.ops.length ops pl) (rX t.s.ops.length ops l)
  simp +contextual only [g2, g3, g4, g5, g6, c2, hb, mi, lvo, bT, b2, a2, e4, sZ, Nat.reduceEqDiff, Nat.reduceAdd, ↓reduceIte]
  refine af (aae t ops pl l ho (.inl rfl) (.inl rfl) uk hl hr ht.n (by omega)) ?_
  generalize hP : pr t.s.ops.length ops pl = P at *
  generalize hS : rX t.s.ops.length ops l = S at *
  simp +contextual only [aC, q1, q2, q3, q4, KB, cC, sZ, Nat.reduceEqDiff, Nat.reduceAdd, ↓reduceIte]
  refine af (ZK t.s P S) ?_
  have endN : ∀ n0, n0 = id + (Y.length + 1) → dn t ops pl none l = (none, true) → pV n0 id (fun r H' => r = .bool (dn t ops pl none l).2 ∧ H' = eT H W (dn t ops pl none l).1 ++ .loop (iz (dn t ops pl none l).1) bA es :: Y) .normal (eT H W none ++ .loop .busy bA es :: Y) := by
   intro n0 LJ bQ
   rw [Ew (e0 none .busy), fW, bQ]
   refine ⟨by rw [hlen, List.length_append, hk]; simp; omega, rfl, ?_⟩
   rw [List.take_of_length_le (by rw [hlen, List.length_append, hk]; simp; omega)]
   rfl
  have endR : ∀ n0, n0 = id + (Y.length + 1) → dn t ops pl none l = (some (P, S), false) → pV n0 id (fun r H' => r = .bool (dn t ops pl none l).2 ∧ H' = eT H W (dn t ops pl none l).1 ++ .loop (iz (dn t ops pl none l).1) bA es :: Y) .ret (eT H W (some (P, S)) ++ .loop .busy bA es :: Y) := by
   intro n0 LJ bQ
   rw [KC (e0 _ .busy), fW, bQ]
   refine ⟨by rw [hlen, List.length_append, hk]; simp; omega, rfl, ?_⟩
   rw [List.take_of_length_le (by rw [hlen, List.length_append, hk]; simp; omega)]
   rfl
  by_cases h0 : iS t.s P S = 0
  ·simp +contextual only [h0, mi, cC, e4, q4, sZ, Nat.reduceEqDiff, Nat.reduceAdd, ↓reduceIte]
   refine af (c89 t P S (SY h0) (fun e he => ht.eq e he P (by rw [← hP]; exact KD _ _ _))) ?_
   by_cases h1 : qI t P S < 0
   ·have bQ : dn t ops pl none l = (some (P, S), false) := by
     rw [dn, if_pos (by rw [vV, hP, hS]; exact decide_eq_true ⟨h0, h1⟩), hP, hS]
    have k4 := PI H W (.loop .busy bA es :: Y) none
    have k5 : ∀ o, ((eT H W none ++ .loop .busy bA es :: Y).set H.length o)[H.length + 1]? = some (o5 none) := fun o => by rw [List.getElem?_set_ne (by omega), PJ]
    have ks := SX H W (.loop .busy bA es :: Y) none P S
    have o4n : o4 none = .cells [.ah, .ah] := rfl
    have o5n : o5 none = .cells [.bool false] := rfl
    rw [o4n] at k4
    simp only [o5n] at k5
    have qu : (eE P S).cells.map AV.ae = [.aq 0 (ints P), .aq 0 (ints S)] := rfl
    have sp2 : ∀ (a b x y : AV), ai [a, b] 0 [x, y] = [x, y] := fun _ _ _ _ => rfl
    have fb : ∀ m, ak m [AV.aq 0 (ints P), .aq 0 (ints S)] = true := fun m => by simp [bM, cW, cR, bj]
    simp +contextual only [h1, decide_true, cC, k4, k5, ks, q1, q2, q3, qu, sp2, fb, Bool.and_self, sZ, Nat.reduceEqDiff, Nat.reduceAdd, ↓reduceIte]
    first
     | exact endR _ (by rw [hk]) bQ
     | exact endR _ (by rw [hlen, List.length_append, hk]; rfl) bQ
   ·simp +contextual only [h1, decide_false, sZ, Nat.reduceEqDiff, ↓reduceIte]
    have bQ : dn t ops pl none l = (none, true) := by
     rw [dn, if_neg (by rw [vV, hP, hS]; simp [h1])]
    exact endN _ (by rw [hk]) bQ
  ·simp +contextual only [h0, decide_false, sZ, Nat.reduceEqDiff, ↓reduceIte]
   have bQ : dn t ops pl none l = (none, true) := by
    rw [dn, if_neg (by rw [vV, hP, hS]; simp [h0])]
   exact endN _ (by rw [hk]) bQ
end Go.aL
end
