/- Part 15 of 18 of the proof. -/
import Derived.Test.YtljchnfgjdjobaaGreatRan
import Derived.Test.YtljchnfgjdjobaaGreatRag
import Derived.KernelRfl
set_option linter.unusedVariables false
set_option linter.unusedSimpArgs false
set_option linter.defProp false
set_option linter.unusedSectionVars false
section
set_option maxRecDepth 100000
namespace Go.aK
open Go Go.Proofs Go.fJ
structure PA (c : Cx) (H : List aa) (x y : Nat) (i k : Int) (G : List aa) : Prop where
 du : Du c G
 gx : G[x]? = some (.cells [bn (c.kd i)])
 gy : G[y]? = some (.cells [bn (c.kd k)])
 g6 : G[H.length]? = some (.cells [.int .i64 0, .int .i64 0, .ah, .ah])
 len : G.length = H.length + 3
 up : ∀ j, j < H.length → j ≠ c.e → j ≠ c.g → G[j]? = H[j]?
theorem PA.call {c : Cx} {H G G' : List aa} {x y : Nat} {i k : Int} (hD : Du c H) (w : XY H x y) (h : PA c H x y i k G) (hU : Up c G G') (jf : Du c G') : PA c H x y i k G' := by
 obtain ⟨l1, l2, l3⟩ := hD.lt
 obtain ⟨w1, w2, w3, w4⟩ := w
 exact ⟨jf, by rw [hU.get x (by omega) (by omega), h.gx], by rw [hU.get y (by omega) (by omega), h.gy], by rw [hU.get _ (by omega) (by omega), h.g6], by rw [hU.len, h.len], fun j h1 h2 h3 => by rw [hU.get j h2 h3, h.up j h1 h2 h3]⟩
theorem PA.rQ {c : Cx} {H G : List aa} {x y : Nat} {i k : Int} (w : XY H x y) (h : PA c H x y i k G) (es : List AV) : PB c H x y i k es (G ++ [.cells es]) := by
 obtain ⟨w1, w2, w3, w4⟩ := w
 have hl := h.len
 exact ⟨h.du.rQ _, by rw [List.getElem?_append_left (by omega), h.gx], by rw [List.getElem?_append_left (by omega), h.gy], by rw [List.getElem?_append_left (by omega), h.g6], by rw [← hl]; simp, by simp [hl], fun j h1 h2 h3 => by rw [List.getElem?_append_left (by omega), h.up j h1 h2 h3]⟩
theorem Ye (r : Int) (φ : AV → Prop) : cE [.int .i64 0, .int .i64 0, .ah, .ah] [(0, 1, .int .i64 r)] φ = φ (.agg [.int .i64 r, .int .i64 0, .ah, .ah]) := by
 simp only [cE, gO, eq_iff_iff]
 constructor
 ·rintro ⟨_, _, _, h⟩; exact h
 ·exact fun h => ⟨rfl, rfl, by simp, h⟩
theorem PB.fin {c : Cx} {H G : List aa} {x y : Nat} {i k : Int} {r i' : Int} {to : List Int} {l : List PP} (hD : Du c H) (h : PB c H x y i k [.int .i64 r, .int .i64 i', sY to, oC l] G) (hs : Sh c.O (.mk r i' to l) (c.tm i) (c.tm k)) :
 xP H.length (dV (.mk r i' to l)) (G.set H.length (.cells (dV (.mk r i' to l)).cells)) (WW c i k H) := by
 obtain ⟨l1, l2, l3⟩ := hD.lt
 refine Po (G := (G.set H.length (.cells (dV (.mk r i' to l)).cells)).take H.length) rfl (fK _ _) rfl ⟨_, rfl, hs, ⟨?_, fun j h1 h2 => ?_⟩, ?_⟩
 ·have := h.len; simp; omega
 ·rw [List.getElem?_take]
  split
  ·rename_i hj; rw [List.getElem?_set_ne (by omega), h.up j hj h1 h2]
  ·rename_i hj; rw [List.getElem?_eq_none (by omega)]
 ·exact (h.du.set (by omega) (by omega) (by omega)).take l1 l2 l3
theorem CN (p : PP) (φ : AV → Prop) : dd (some (.cells (dV p).cells)) (some 4) 0 φ = φ (dV p) := by
 obtain ⟨_, h2, _, _, _, _, h7, h8, _⟩ := aX p
 simp only [dd, List.drop_zero, h2, List.take_of_length_le (Nat.le_of_eq h2), h8, h7]
 simp
theorem PR (p : PP) : ag [AV.int .i64 0, .int .i64 0, .ah, .ah] 0 (dV p).cells = (dV p).cells := by rw [nG]; rfl
theorem tV {c : Cx} (hc : c.Ok) {i k : Int} (hi : c.dJ i) (hk : c.dJ k) : FM c i k := by
 have ki := hc.kids i hi
 have kk := hc.kids k hk
 exact ⟨fun H hD => Wn hc hi (fun x hx => jN hc (ki.2 x hx) hk) (fun x hx => jO hc (ki.2 x hx) hk) hD, fun H hD => Wo hc hi hk (fun y hy => jO hc hi (kk.2 y hy)) hD,
  fun H hD => Wq hc hi hk (fun y hy => jO hc hi (kk.2 y hy)) (fun x hx y hy => jN hc (ki.2 x hx) (kk.2 y hy)) (fun x hx y hy => jO hc (ki.2 x hx) (kk.2 y hy)) hD,
  fun H hD => Ww hc hi hk (fun x hx y hy => jN hc (ki.2 x hx) (kk.2 y hy)) (fun x hx y hy => jO hc (ki.2 x hx) (kk.2 y hy)) hD⟩
theorem WX {c : Cx} (hc : c.Ok) {i k : Int} (hi : c.dJ i) (hk : c.dJ k) (hR : R c.O (c.tm i) (c.tm k)) (hr : gI c i k 1) (jR : ∀ m, m < 1 → ¬ gI c i k m) (hp : ∀ x ∈ c.kd i, R c.O (c.tm x) (c.tm k) → oD c x k) : oD c i k := by
 intro H hD
 refine CK.2.calls rfl ?_
 simp only [CK, aI]
 have k2 : ∀ l, (bn l).ab = bn l := fun l => (aD l).2.1
 have ki := hc.kids i hi
 have kk := hc.kids k hk
 have l1 := hc.kl i hi
 have l2 := hc.kl k hk
 obtain ⟨a1, a2, a3, a4, a5⟩ := aD (c.kd i)
 obtain ⟨b1, b2, b3, b4, b5⟩ := aD (c.kd k)
 have ii : IL (bn (c.kd i)) (c.kd i) := .inl rfl
 have ik : IL (bn (c.kd k)) (c.kd k) := .inl rfl
 have ei : (c.nd.getD i.toNat default).snd = c.kd i := rfl
 have ek : (c.nd.getD k.toNat default).snd = c.kd k := rfl
 obtain ⟨m1, m2, m3⟩ := hD.lt
 have ed : ∀ X : List aa, (H ++ X)[c.d]? = H[c.d]? := fun X => List.getElem?_append_left m1
 have spv : ∀ x : AV, ag [AV.ah] 0 [x] = [x] := fun x => rfl
 have spq : ag [AV.int .i64 0, .int .i64 0, .ah, .ah] 0 [AV.int .i64 0, .int .i64 0, .ah, .ah] = [AV.int .i64 0, .int .i64 0, .ah, .ah] := rfl
 simp +contextual only [sZ, Nat.reduceEqDiff, Nat.reduceAdd, ↓reduceIte, reduceCtorEq]
 refine k7 (K1 := fun e G => get e 1 = .int .i64 i ∧ get e 3 = .ai (.ptr c.d 0) ∧ get e 5 = .ai (.int .i64 k) ∧ get e 6 = .ptr H.length 0 ∧ ∃ x y, get e 7 = .ptr x 0 ∧ get e 8 = .ptr y 0 ∧ XY H x y ∧ PA c H x y i k G) ?_ ?_
 ·have P0 : aa := .cells [.int .i64 0, .int .i64 0, .ah, .ah]
  have A : ∃ x y, AV.ptr (H.length + 1) 0 = .ptr x 0 ∧ AV.ptr (H.length + 2) 0 = .ptr y 0 ∧ XY H x y ∧ PA c H x y i k (H ++ [.cells [.int .i64 0, .int .i64 0, .ah, .ah], .cells [bn (c.kd i)], .cells [bn (c.kd k)]]) :=
   ⟨_, _, rfl, rfl, ⟨by omega, by omega, by omega, by omega⟩, ⟨hD.rQ _, by simp, by simp, by simp, by simp, fun j hj _ _ => List.getElem?_append_left hj⟩⟩
  have B : ∃ x y, AV.ptr (H.length + 2) 0 = .ptr x 0 ∧ AV.ptr (H.length + 1) 0 = .ptr y 0 ∧ XY H x y ∧ PA c H x y i k (H ++ [.cells [.int .i64 0, .int .i64 0, .ah, .ah], .cells [bn (c.kd k)], .cells [bn (c.kd i)]]) :=
   ⟨_, _, rfl, rfl, ⟨by omega, by omega, by omega, by omega⟩, ⟨hD.rQ _, by simp, by simp, by simp, by simp, fun j hj _ _ => List.getElem?_append_left hj⟩⟩
  simp +contextual only [ed, hD.d, l9, C5, cw, bU, k2, ei, ek, a1, a3, a4, a5, b1, b3, b4, b5, List.map_cons, List.map_nil, spv, List.all_cons, List.all_nil, Bool.and_true, bM, c8, sZ, Nat.reduceEqDiff, Nat.reduceAdd, Nat.reduceLT, ↓reduceIte]
  refine ⟨hi, ?_⟩
  repeat' apply And.intro
  all_goals first | exact hk.1 | exact hk.2 | exact A | exact B
 ·rintro e G ⟨e1, e3, e5, e6, x, y, e7, e8, w, Ao⟩
  simp +contextual only [e1, e3, e5, e6, e7, e8, sZ, Nat.reduceEqDiff, ↓reduceIte]
  refine aM 0 (fun m (G : List aa) => PA c H x y i k G)
   (fun m G => [(1, .int .i64 i), (3, .ai (.ptr c.d 0)), (5, .ai (.int .i64 k)), (6, .ptr H.length 0), (7, .ptr x 0), (8, .ptr y 0), (9, .int .i64 ((m + 1 : Nat) : Int))]) (fun m G => G) G ⟨Ao, aA _ _ _⟩ fun m G hm Ao => ?_
  have hf : dS.cells[m + 1]? = some (.fn (.func (182 + (m + 1))) [] []) := by
   have : m = 0 ∨ m = 1 ∨ m = 2 ∨ m = 3 := by omega
   rcases this with rfl | rfl | rfl | rfl <;> rfl
  have en := TK (m + 1) _ hf (by omega)
  simp +contextual only [sZ]
  refine aH Km ?_
  simp +contextual only [lT, en _ rfl, sZ, Nat.reduceEqDiff, Nat.reduceAdd, ↓reduceIte, reduceCtorEq]
  refine af ((tV hc hi hk).at (n := m + 1) (by omega) (by omega) Ao.du) ?_
  rintro r G1 ⟨z, rfl, hz, hU, mI⟩
  have pw := Ao.call hD w hU mI
  by_cases Pv : m = 0
  rotate_left
  ·have : z = false := by
    cases z with
    | false => rfl
    | true => exact absurd (hz.1 rfl) (jR (m + 1) (by omega))
   subst this
   simp +contextual only [Bool.not_false, sZ, Nat.reduceEqDiff, ↓reduceIte]
   exact ⟨m + 1, G1, ⟨by omega, pw⟩, by omega, aF (by rw [au (m + 1) (by omega)]) rfl⟩
  subst Pv
  have : z = true := hz.2 hr
  subst this
  have xa := pw.len
  have kB := fun es => pw.rQ w es
  have S0 := fun es => (kB es).gp
  have NV := fun es => (kB es).gx
  have WY := fun es => (kB es).gy
  have bQ : ∀ (o o' : aa), (G1 ++ [o]).set (H.length + 3) o' = G1 ++ [o'] := fun o o' => by rw [← xa]; simp
  have ec : ((1 : Nat) : Int) = 1 := rfl
  have zf : List.map AV.ab [AV.int .i64 (1 : Int), .int .i64 0, .ah, .ah] = [.int .i64 (1 : Int), .int .i64 0, .ah, .ah] := rfl
  have zf0 : List.map AV.ab [AV.int .i64 0, .int .i64 0, .ah, .ah] = [.int .i64 0, .int .i64 0, .ah, .ah] := rfl
  have e86 : ∀ a b : Int, decide (a = b) = decide (a = b) := fun _ _ => rfl
  simp +contextual only [k2, decide_true, Bool.not_true, Bool.not_true, Ye, xa, S0, bQ, ec, zf, zf0, HU, NV, sZ, Nat.reduceEqDiff, Nat.reduceAdd, Nat.reduceLT, ↓reduceIte, reduceCtorEq]
  have mh := kB [.int .i64 1, .int .i64 0, .ah, .ah]
  generalize G1 ++ [aa.cells [AV.int .i64 1, .int .i64 0, .ah, .ah]] = G2 at mh ⊢
  have fM : ∃ z ∈ c.kd i, E c.O (c.tm z) (c.tm k) ∨ R c.O (c.tm z) (c.tm k) := by
   rcases hr with h | h | h | h
   ·exact h.2
   all_goals (exact absurd h.1 (by decide))
  refine af (Ki (SD.z7 c G2) ii (by omega) 147 [] [.ai (.ptr c.d 0), .ai (.int .i64 k)] rfl rfl (Q := fun z => E c.O (c.tm z) (c.tm k) ∨ R c.O (c.tm z) (c.tm k))
   (fun z hz G hG => (aah (jN hc (ki.2 z hz) hk) (jO hc (ki.2 z hz) hk) hG.1).mono fun r H' hr => hr.sb hG) ⟨mh.du, Up.refl c _⟩) ?_
  rintro r G3 ⟨hG3, tq⟩
  rcases tq with ⟨_, tq⟩ | ⟨q, rfl, hq, hQ, _⟩
  ·obtain ⟨z, hz, h⟩ := fM
   exact absurd h (tq z hz)
  have An := mh.call hD w hG3.2 hG3.1
  have pG := fun es => An.set (es' := es) hD w
  have gp3 := An.gp
  have gps := fun es => (pG es).gp
  have gxs := fun es => (pG es).gx
  have g6s := fun es => (pG es).g6
  have iK : (c.kd i).getD q 0 ∈ c.kd i := aO hq
  have un1 : List.map AV.ab [AV.int .i64 (q : Int)] = [.int .i64 (q : Int)] := rfl
  simp +contextual only [k2, ii.lens, ii.idx, gp3, SZ, un1, gps, gxs, Int.toNat_natCast, sZ, Nat.reduceEqDiff, Nat.reduceAdd, Nat.reduceLT, Nat.reduceLeDiff, ↓reduceIte, reduceCtorEq]
  refine ⟨by omega, ?_⟩
  refine af (jN hc (ki.2 _ iK) hk _ (pG _).du) ?_
  rintro r G4 ⟨v, rfl, hv, TH, TI⟩
  have vP := (pG _).call hD w TH TI
  have gp4 := vP.gp
  have gx4 := vP.gx
  have g64 := vP.g6
  have cod : ∀ l : List PP, ((c.tm i).l.getD q default) = c.tm ((c.kd i).getD q 0) := fun _ => by rw [← ki.1, cc hq]
  have klen : (c.tm i).l.length = (c.kd i).length := by rw [← ki.1]; simp
  have ki2 : (c.tm i).k = 2 := by
   have := (rX hc hi hk).1
   have hh := (qz.1 (show R c.O (c.tm i) (c.tm k) from hR)).1
   exact hh
  cases v with
  | true =>
    have hs : Sh c.O (.mk 1 q [] []) (c.tm i) (c.tm k) := by
     rw [Sh1 rfl ki2]
     refine ⟨rfl, ⟨by show (0 : Int) ≤ q; omega, by show (q : Int) < _; omega⟩, .inl ⟨rfl, ?_⟩⟩
     show E c.O ((c.tm i).l.getD (q : Int).toNat default) (c.tm k)
     rw [Int.toNat_natCast, cod []]; exact hv.1 rfl
    have e4 : (AV.int .i64 (q : Int)) = AV.int .i64 (q : Int) := rfl
    have lp := PN 1 q [] []
    obtain ⟨q1, q2, q3, q4, q5, q6, q7, q8, q9⟩ := aX (.mk 1 q [] [])
    have lp2 := CN (.mk 1 q [] [])
    have KD : (G4.set H.length (.cells (dV (.mk 1 q [] [])).cells))[H.length]? = some (.cells (dV (.mk 1 q [] [])).cells) := by rw [List.getElem?_set_self (aN g64)]
    change ∀ φ, dd (some (.cells [.int .i64 1, .int .i64 (q : Int), .ah, .ah])) (some 4) 0 φ = φ (dV (.mk 1 q [] [])) at lp
    simp +contextual only [Bool.not_true, gp4, lp, g64, q1, q2, q3, q9, PR, KD, lp2, sZ, Nat.reduceEqDiff, Nat.reduceAdd, ↓reduceIte, reduceCtorEq]
    refine ⟨by first | exact cq (fK _ _) | omega, vP.fin hD hs⟩
  | false =>
    have hRx : R c.O (c.tm ((c.kd i).getD q 0)) (c.tm k) := hQ.resolve_left fun h => absurd (hv.2 h) (by simp)
    simp +contextual only [k2, ii.lens, ii.idx, Bool.not_false, gp4, gx4, Int.toNat_natCast, sZ, Nat.reduceEqDiff, Nat.reduceAdd, Nat.reduceLT, ↓reduceIte, reduceCtorEq]
    refine ⟨by omega, af (hp _ iK hRx _ vP.du) ?_⟩
    rintro r G5 ⟨u, rfl, hu, WZ, W0⟩
    have KE := vP.call hD w WZ W0
    have gp5 := KE.gp
    have EI := fun es => KE.set (es' := es) hD w
    have gp6 := fun es => (EI es).gp
    have g66 := fun es => (EI es).g6
    have hs : Sh c.O (.mk 1 q [] [u]) (c.tm i) (c.tm k) := by
     rw [Sh1 rfl ki2]
     refine ⟨rfl, ⟨by show (0 : Int) ≤ q; omega, by show (q : Int) < _; omega⟩, .inr ⟨u, rfl, ?_⟩⟩
     show Sh c.O u ((c.tm i).l.getD (q : Int).toNat default) (c.tm k)
     rw [Int.toNat_natCast, cod []]; exact hu
    have lp := PN 1 q [] [u]
    change ∀ φ, dd (some (.cells [.int .i64 1, .int .i64 (q : Int), .ah, .ap 4 [dV u]])) (some 4) 0 φ = φ (dV (.mk 1 q [] [u])) at lp
    obtain ⟨q1, q2, q3, q4, q5, q6, q7, q8, q9⟩ := aX (.mk 1 q [] [u])
    obtain ⟨u1, u2, u3, u4, u5, u6, u7, u8, u9⟩ := aX u
    have lp2 := CN (.mk 1 q [] [u])
    have KD := fun es => List.getElem?_set_self (a := aa.cells (dV (.mk 1 q [] [u])).cells) (aN (g66 es))
    simp +contextual only [gp5, gp6, g66, lp, q1, q2, q3, q9, PR, KD, lp2, u1, u2, u6, jn, s3, sZ, Nat.reduceEqDiff, Nat.reduceAdd, Nat.reduceLT, ↓reduceIte, reduceCtorEq]
    refine ⟨by first | exact cq (fK _ _) | omega, ?_⟩
    exact PB.fin (to := []) (l := [u]) hD (EI _) hs
end Go.aK
end
section
set_option maxRecDepth 100000
namespace Go.aK
open Go Go.Proofs Go.fJ
theorem W1 {c : Cx} (hc : c.Ok) {i k : Int} (hi : c.dJ i) (hk : c.dJ k) (hR : R c.O (c.tm i) (c.tm k)) (hr : gI c i k 2) (jR : ∀ m, m < 2 → ¬ gI c i k m) (hp : ∀ y ∈ c.kd k, R c.O (c.tm i) (c.tm y) → oD c i y) : oD c i k := by
 intro H hD
 refine CK.2.calls rfl ?_
 simp only [CK, aI]
 have k2 : ∀ l, (bn l).ab = bn l := fun l => (aD l).2.1
 have ki := hc.kids i hi
 have kk := hc.kids k hk
 have l1 := hc.kl i hi
 have l2 := hc.kl k hk
 obtain ⟨a1, a2, a3, a4, a5⟩ := aD (c.kd i)
 obtain ⟨b1, b2, b3, b4, b5⟩ := aD (c.kd k)
 have ii : IL (bn (c.kd i)) (c.kd i) := .inl rfl
 have ik : IL (bn (c.kd k)) (c.kd k) := .inl rfl
 have ei : (c.nd.getD i.toNat default).snd = c.kd i := rfl
 have ek : (c.nd.getD k.toNat default).snd = c.kd k := rfl
 obtain ⟨m1, m2, m3⟩ := hD.lt
 have ed : ∀ X : List aa, (H ++ X)[c.d]? = H[c.d]? := fun X => List.getElem?_append_left m1
 have spv : ∀ x : AV, ag [AV.ah] 0 [x] = [x] := fun x => rfl
 have spq : ag [AV.int .i64 0, .int .i64 0, .ah, .ah] 0 [AV.int .i64 0, .int .i64 0, .ah, .ah] = [AV.int .i64 0, .int .i64 0, .ah, .ah] := rfl
 simp +contextual only [sZ, Nat.reduceEqDiff, Nat.reduceAdd, ↓reduceIte, reduceCtorEq]
 refine k7 (K1 := fun e G => get e 1 = .int .i64 i ∧ get e 3 = .ai (.ptr c.d 0) ∧ get e 5 = .ai (.int .i64 k) ∧ get e 6 = .ptr H.length 0 ∧ ∃ x y, get e 7 = .ptr x 0 ∧ get e 8 = .ptr y 0 ∧ XY H x y ∧ PA c H x y i k G) ?_ ?_
 ·have P0 : aa := .cells [.int .i64 0, .int .i64 0, .ah, .ah]
  have A : ∃ x y, AV.ptr (H.length + 1) 0 = .ptr x 0 ∧ AV.ptr (H.length + 2) 0 = .ptr y 0 ∧ XY H x y ∧ PA c H x y i k (H ++ [.cells [.int .i64 0, .int .i64 0, .ah, .ah], .cells [bn (c.kd i)], .cells [bn (c.kd k)]]) :=
   ⟨_, _, rfl, rfl, ⟨by omega, by omega, by omega, by omega⟩, ⟨hD.rQ _, by simp, by simp, by simp, by simp, fun j hj _ _ => List.getElem?_append_left hj⟩⟩
  have B : ∃ x y, AV.ptr (H.length + 2) 0 = .ptr x 0 ∧ AV.ptr (H.length + 1) 0 = .ptr y 0 ∧ XY H x y ∧ PA c H x y i k (H ++ [.cells [.int .i64 0, .int .i64 0, .ah, .ah], .cells [bn (c.kd k)], .cells [bn (c.kd i)]]) :=
   ⟨_, _, rfl, rfl, ⟨by omega, by omega, by omega, by omega⟩, ⟨hD.rQ _, by simp, by simp, by simp, by simp, fun j hj _ _ => List.getElem?_append_left hj⟩⟩
  simp +contextual only [ed, hD.d, l9, C5, cw, bU, k2, ei, ek, a1, a3, a4, a5, b1, b3, b4, b5, List.map_cons, List.map_nil, spv, List.all_cons, List.all_nil, Bool.and_true, bM, c8, sZ, Nat.reduceEqDiff, Nat.reduceAdd, Nat.reduceLT, ↓reduceIte]
  refine ⟨hi, ?_⟩
  repeat' apply And.intro
  all_goals first | exact hk.1 | exact hk.2 | exact A | exact B
 ·rintro e G ⟨e1, e3, e5, e6, x, y, e7, e8, w, Ao⟩
  simp +contextual only [e1, e3, e5, e6, e7, e8, sZ, Nat.reduceEqDiff, ↓reduceIte]
  refine aM 1 (fun m (G : List aa) => PA c H x y i k G)
   (fun m G => [(1, .int .i64 i), (3, .ai (.ptr c.d 0)), (5, .ai (.int .i64 k)), (6, .ptr H.length 0), (7, .ptr x 0), (8, .ptr y 0), (9, .int .i64 ((m + 1 : Nat) : Int))]) (fun m G => G) G ⟨Ao, aA _ _ _⟩ fun m G hm Ao => ?_
  have hf : dS.cells[m + 1]? = some (.fn (.func (182 + (m + 1))) [] []) := by
   have : m = 0 ∨ m = 1 ∨ m = 2 ∨ m = 3 := by omega
   rcases this with rfl | rfl | rfl | rfl <;> rfl
  have en := TK (m + 1) _ hf (by omega)
  simp +contextual only [sZ]
  refine aH Km ?_
  simp +contextual only [lT, en _ rfl, sZ, Nat.reduceEqDiff, Nat.reduceAdd, ↓reduceIte, reduceCtorEq]
  refine af ((tV hc hi hk).at (n := m + 1) (by omega) (by omega) Ao.du) ?_
  rintro r G1 ⟨z, rfl, hz, hU, mI⟩
  have pw := Ao.call hD w hU mI
  by_cases Pv : m = 1
  rotate_left
  ·have : z = false := by
    cases z with
    | false => rfl
    | true => exact absurd (hz.1 rfl) (jR (m + 1) (by omega))
   subst this
   simp +contextual only [Bool.not_false, sZ, Nat.reduceEqDiff, ↓reduceIte]
   exact ⟨m + 1, G1, ⟨by omega, pw⟩, by omega, aF (by rw [au (m + 1) (by omega)]) rfl⟩
  subst Pv
  have : z = true := hz.2 hr
  subst this
  have xa := pw.len
  have kB := fun es => pw.rQ w es
  have S0 := fun es => (kB es).gp
  have NV := fun es => (kB es).gx
  have WY := fun es => (kB es).gy
  have bQ : ∀ (o o' : aa), (G1 ++ [o]).set (H.length + 3) o' = G1 ++ [o'] := fun o o' => by rw [← xa]; simp
  have ec : ((2 : Nat) : Int) = 2 := rfl
  have zf : List.map AV.ab [AV.int .i64 (2 : Int), .int .i64 0, .ah, .ah] = [.int .i64 (2 : Int), .int .i64 0, .ah, .ah] := rfl
  have zf0 : List.map AV.ab [AV.int .i64 0, .int .i64 0, .ah, .ah] = [.int .i64 0, .int .i64 0, .ah, .ah] := rfl
  have e86 : ∀ a b : Int, decide (a = b) = decide (a = b) := fun _ _ => rfl
  simp +contextual only [k2, ik.aL, ik.len (by omega), decide_false, Bool.not_true, Bool.not_true, Ye, xa, S0, bQ, ec, zf, zf0, HU, WY, sZ, Nat.reduceEqDiff, Nat.reduceAdd, Nat.reduceLT, ↓reduceIte, Int.reduceEq]
  have mh := kB [.int .i64 2, .int .i64 0, .ah, .ah]
  generalize G1 ++ [aa.cells [AV.int .i64 2, .int .i64 0, .ah, .ah]] = G2 at mh ⊢
  have ki2 : (c.tm i).k = 2 := (qz.1 hR).1
  have wm : rW c i k := by
   rcases hr with h | h | h | h
   ·exact absurd h.1 (by decide)
   ·exact h.2
   all_goals (exact absurd h.1 (by decide))
  obtain ⟨Ez, aW, hall0⟩ := wm
  have kk2 : (c.tm k).k = 2 := of_decide_eq_true Ez
  have S1 : ∀ qs, k8 (Sh c.O) qs (c.tm i) ((c.kd k).map c.tm) → Sh c.O (.mk 2 0 [] qs) (c.tm i) (c.tm k) := by
   intro qs hq
   rw [Sh2 rfl ki2]
   rw [kk.1] at hq
   refine ⟨rfl, rfl, kk2, ?_, hq⟩
   rw [pn, if_pos kk2, pn, if_pos ki2] at aW; exact aW
  refine kT (EH hD w (l0 := []) (by simp) ik l2 (fun z hz => hp z hz (hall0 z hz)) mh) ?_
  rintro e1 e G6 ⟨rfl, f6, f10, qs, ju, nH⟩
  replace nH : PB c H x y i k [.int .i64 2, .int .i64 0, .ah, oC qs] G6 := nH
  have gp6 := nH.gp
  have g66 := nH.g6
  have lp := PN 2 0 [] qs
  have tv0 : sY [] = AV.ah := rfl
  rw [tv0] at lp
  have hs : Sh c.O (.mk 2 0 [] qs) (c.tm i) (c.tm k) := S1 qs ju
  obtain ⟨q1, q2, q3, q4, q5, q6, q7, q8, q9⟩ := aX (.mk 2 0 [] qs)
  have lp2 := CN (.mk 2 0 [] qs)
  have KD := List.getElem?_set_self (a := aa.cells (dV (.mk 2 0 [] qs)).cells) (aN g66)
  have Ol : aj (H.length + 1) (dV (.mk 2 0 [] qs)).cells = true := cq (fK _ _)
  have kO := PB.fin (to := []) (l := qs) hD nH hs
  simp +contextual only [f6, f10, gp6, g66, lp, q1, q2, q3, q9, PR, KD, lp2, Ol, sZ, Nat.reduceEqDiff, Nat.reduceAdd, ↓reduceIte, reduceCtorEq]
  first | exact kO | exact ⟨by omega, kO⟩ | exact ⟨trivial, kO⟩
end Go.aK
end
section
set_option maxRecDepth 100000
namespace Go.aK
open Go Go.Proofs Go.fJ
theorem W2 {c : Cx} (hc : c.Ok) {i k : Int} (hi : c.dJ i) (hk : c.dJ k) (hR : R c.O (c.tm i) (c.tm k)) (hr : gI c i k 3) (jR : ∀ m, m < 3 → ¬ gI c i k m) (hp : ∀ y ∈ c.kd k, R c.O (c.tm i) (c.tm y) → oD c i y) (S2 : ∀ x ∈ c.kd i, ∀ y ∈ c.kd k, R c.O (c.tm x) (c.tm y) → oD c x y) : oD c i k := by
 intro H hD
 refine CK.2.calls rfl ?_
 simp only [CK, aI]
 have k2 : ∀ l, (bn l).ab = bn l := fun l => (aD l).2.1
 have ki := hc.kids i hi
 have kk := hc.kids k hk
 have l1 := hc.kl i hi
 have l2 := hc.kl k hk
 obtain ⟨a1, a2, a3, a4, a5⟩ := aD (c.kd i)
 obtain ⟨b1, b2, b3, b4, b5⟩ := aD (c.kd k)
 have ii : IL (bn (c.kd i)) (c.kd i) := .inl rfl
 have ik : IL (bn (c.kd k)) (c.kd k) := .inl rfl
 have ei : (c.nd.getD i.toNat default).snd = c.kd i := rfl
 have ek : (c.nd.getD k.toNat default).snd = c.kd k := rfl
 obtain ⟨m1, m2, m3⟩ := hD.lt
 have ed : ∀ X : List aa, (H ++ X)[c.d]? = H[c.d]? := fun X => List.getElem?_append_left m1
 have spv : ∀ x : AV, ag [AV.ah] 0 [x] = [x] := fun x => rfl
 have spq : ag [AV.int .i64 0, .int .i64 0, .ah, .ah] 0 [AV.int .i64 0, .int .i64 0, .ah, .ah] = [AV.int .i64 0, .int .i64 0, .ah, .ah] := rfl
 simp +contextual only [sZ, Nat.reduceEqDiff, Nat.reduceAdd, ↓reduceIte, reduceCtorEq]
 refine k7 (K1 := fun e G => get e 1 = .int .i64 i ∧ get e 3 = .ai (.ptr c.d 0) ∧ get e 5 = .ai (.int .i64 k) ∧ get e 6 = .ptr H.length 0 ∧ ∃ x y, get e 7 = .ptr x 0 ∧ get e 8 = .ptr y 0 ∧ XY H x y ∧ PA c H x y i k G) ?_ ?_
 ·have P0 : aa := .cells [.int .i64 0, .int .i64 0, .ah, .ah]
  have A : ∃ x y, AV.ptr (H.length + 1) 0 = .ptr x 0 ∧ AV.ptr (H.length + 2) 0 = .ptr y 0 ∧ XY H x y ∧ PA c H x y i k (H ++ [.cells [.int .i64 0, .int .i64 0, .ah, .ah], .cells [bn (c.kd i)], .cells [bn (c.kd k)]]) :=
   ⟨_, _, rfl, rfl, ⟨by omega, by omega, by omega, by omega⟩, ⟨hD.rQ _, by simp, by simp, by simp, by simp, fun j hj _ _ => List.getElem?_append_left hj⟩⟩
  have B : ∃ x y, AV.ptr (H.length + 2) 0 = .ptr x 0 ∧ AV.ptr (H.length + 1) 0 = .ptr y 0 ∧ XY H x y ∧ PA c H x y i k (H ++ [.cells [.int .i64 0, .int .i64 0, .ah, .ah], .cells [bn (c.kd k)], .cells [bn (c.kd i)]]) :=
   ⟨_, _, rfl, rfl, ⟨by omega, by omega, by omega, by omega⟩, ⟨hD.rQ _, by simp, by simp, by simp, by simp, fun j hj _ _ => List.getElem?_append_left hj⟩⟩
  simp +contextual only [ed, hD.d, l9, C5, cw, bU, k2, ei, ek, a1, a3, a4, a5, b1, b3, b4, b5, List.map_cons, List.map_nil, spv, List.all_cons, List.all_nil, Bool.and_true, bM, c8, sZ, Nat.reduceEqDiff, Nat.reduceAdd, Nat.reduceLT, ↓reduceIte]
  refine ⟨hi, ?_⟩
  repeat' apply And.intro
  all_goals first | exact hk.1 | exact hk.2 | exact A | exact B
 ·rintro e G ⟨e1, e3, e5, e6, x, y, e7, e8, w, Ao⟩
  simp +contextual only [e1, e3, e5, e6, e7, e8, sZ, Nat.reduceEqDiff, ↓reduceIte]
  refine aM 2 (fun m (G : List aa) => PA c H x y i k G)
   (fun m G => [(1, .int .i64 i), (3, .ai (.ptr c.d 0)), (5, .ai (.int .i64 k)), (6, .ptr H.length 0), (7, .ptr x 0), (8, .ptr y 0), (9, .int .i64 ((m + 1 : Nat) : Int))]) (fun m G => G) G ⟨Ao, aA _ _ _⟩ fun m G hm Ao => ?_
  have hf : dS.cells[m + 1]? = some (.fn (.func (182 + (m + 1))) [] []) := by
   have : m = 0 ∨ m = 1 ∨ m = 2 ∨ m = 3 := by omega
   rcases this with rfl | rfl | rfl | rfl <;> rfl
  have en := TK (m + 1) _ hf (by omega)
  simp +contextual only [sZ]
  refine aH Km ?_
  simp +contextual only [lT, en _ rfl, sZ, Nat.reduceEqDiff, Nat.reduceAdd, ↓reduceIte, reduceCtorEq]
  refine af ((tV hc hi hk).at (n := m + 1) (by omega) (by omega) Ao.du) ?_
  rintro r G1 ⟨z, rfl, hz, hU, mI⟩
  have pw := Ao.call hD w hU mI
  by_cases Pv : m = 2
  rotate_left
  ·have : z = false := by
    cases z with
    | false => rfl
    | true => exact absurd (hz.1 rfl) (jR (m + 1) (by omega))
   subst this
   simp +contextual only [Bool.not_false, sZ, Nat.reduceEqDiff, ↓reduceIte]
   exact ⟨m + 1, G1, ⟨by omega, pw⟩, by omega, aF (by rw [au (m + 1) (by omega)]) rfl⟩
  subst Pv
  have : z = true := hz.2 hr
  subst this
  have xa := pw.len
  have kB := fun es => pw.rQ w es
  have S0 := fun es => (kB es).gp
  have NV := fun es => (kB es).gx
  have WY := fun es => (kB es).gy
  have bQ : ∀ (o o' : aa), (G1 ++ [o]).set (H.length + 3) o' = G1 ++ [o'] := fun o o' => by rw [← xa]; simp
  have ec : ((3 : Nat) : Int) = 3 := rfl
  have zf : List.map AV.ab [AV.int .i64 (3 : Int), .int .i64 0, .ah, .ah] = [.int .i64 (3 : Int), .int .i64 0, .ah, .ah] := rfl
  have zf0 : List.map AV.ab [AV.int .i64 0, .int .i64 0, .ah, .ah] = [.int .i64 0, .int .i64 0, .ah, .ah] := rfl
  have e86 : ∀ a b : Int, decide (a = b) = decide (a = b) := fun _ _ => rfl
  simp +contextual only [decide_true, decide_false, Bool.not_true, Bool.not_true, Ye, xa, S0, bQ, ec, zf, zf0, HU, sZ, Nat.reduceEqDiff, Nat.reduceAdd, ↓reduceIte, Int.reduceEq]
  have mh := kB [.int .i64 3, .int .i64 0, .ah, .ah]
  generalize G1 ++ [aa.cells [AV.int .i64 3, .int .i64 0, .ah, .ah]] = G2 at mh ⊢
  have ki2 : (c.tm i).k = 2 := (qz.1 hR).1
  have ZF : z8 c i k := by
   rcases hr with h | h | h | h
   ·exact absurd h.1 (by decide)
   ·exact absurd h.1 (by decide)
   ·exact h.2
   ·exact absurd h.1 (by decide)
  obtain ⟨KA, Am, hall0, n0, aak, Zg, X1⟩ := ZF
  have KF := kg.1 KA
  have kk2 : (c.tm k).k = 2 := KF.2.1
  have osi : dw c i = c.O.sp (c.O.pl (c.tm i).n) := by rw [dw, if_pos ki2]
  have hx : side (c.O.sp (c.O.pl (c.tm i).n)) (c.tm i).l = (bD (dw c i) (c.kd i)).map c.tm := by rw [← osi, ← ki.1, jm]
  have hy : side (c.O.sp (c.O.pl (c.tm i).n)) (c.tm k).l = (bD (dw c i) (c.kd k)).map c.tm := by rw [← osi, ← kk.1, jm]
  have lx : (bD (dw c i) (c.kd i)).length = (c.kd i).length := jk
  have ly : (bD (dw c i) (c.kd k)).length = (c.kd k).length := jk
  have nx : ∀ z ∈ bD (dw c i) (c.kd i), z ∈ c.kd i := fun z hz => oq.1 hz
  have ny : ∀ z ∈ bD (dw c i) (c.kd k), z ∈ c.kd k := fun z hz => oq.1 hz
  have hS : ∀ (n : Nat) (l : List PP), Sh c.O (.mk 3 n [] l) (c.tm i) (c.tm k) ↔ CB (E c.O) (Sh c.O) n l (c.tm i) ((bD (dw c i) (c.kd i)).map c.tm) ((bD (dw c i) (c.kd k)).map c.tm) (c.tm k).l := by
   intro n l
   rw [Sh3 rfl ki2, hx, hy]
   rw [osi] at Am
   exact ⟨fun h => h.2.2.2.2, fun h => ⟨rfl, kk2, KF.2.2, Am, h⟩⟩
  refine af (po hc hi mh.du) ?_
  rintro r G3 ⟨rfl, rfl⟩
  have gx0 := mh.gx
  have gy0 := mh.gy
  simp +contextual only [k2, dx, fj, fm, fo, gx0, sZ, Nat.reduceEqDiff, Nat.reduceAdd, Nat.reduceLT, ↓reduceIte]
  refine aH (HD (c.kd i) (dw c i) (by omega)) ?_
  simp +contextual only [k2, gy0, sZ, Nat.reduceEqDiff, Nat.reduceAdd, Nat.reduceLT, ↓reduceIte]
  refine aH (HD (c.kd k) (dw c i) (by omega)) ?_
  generalize bD (dw c i) (c.kd i) = xs at *
  generalize bD (dw c i) (c.kd k) = ys at *
  have ix : IL (.ap 0 (ints xs)) xs := .inr rfl
  have iy : IL (.ap 0 (ints ys)) ys := .inr rfl
  simp +contextual only [sZ, Nat.reduceEqDiff, Nat.reduceAdd, ↓reduceIte, reduceCtorEq]
  refine af (Wp ix iy (by omega) (by omega) (fun z hz z' Ie => jN hc (ki.2 z (nx z hz)) (kk.2 z' (ny z' Ie))) mh.du) ?_
  rintro r G4 ⟨n, rfl, hn, TH, TI⟩
  have en0 := hn.SA aak
  subst en0
  have vP := mh.call hD w TH TI
  have gp4 := vP.gp
  have pG := fun es => vP.set (es' := es) hD w
  have gps := fun es => (pG es).gp
  have gxs := fun es => (pG es).gx
  have gys := fun es => (pG es).gy
  have un1 : List.map AV.ab [AV.int .i64 (n : Int)] = [.int .i64 (n : Int)] := rfl
  have hLS : ∀ l, CB (E c.O) (Sh c.O) n l (c.tm i) (xs.map c.tm) (ys.map c.tm) (c.tm k).l ↔ (if (n : Int) = ys.length then k8 (Sh c.O) l (c.tm i) ((c.kd k).map c.tm) else ∃ q r, l = q :: r ∧ Sh c.O q (c.tm (xs.getD n 0)) (c.tm (ys.getD n 0)) ∧ k8 (Sh c.O) r (c.tm i) ((c.kd k).map c.tm)) := by
   intro l
   rw [WT (kd := c.kd k) kk.1]
   have h1 : (0 : Int) ≤ n ∧ (n : Int) < xs.length ∧ (n : Int) ≤ ys.length := ⟨by omega, by omega, by have := hn.lb; omega⟩
   have h2 : ∀ j, j < (n : Int).toNat → E c.O (c.tm (xs.getD j 0)) (c.tm (ys.getD j 0)) := fun j hj => hn.eq j (by omega)
   rw [Int.toNat_natCast]
   exact ⟨fun h => h.2.2, fun h => ⟨h1, h2, h⟩⟩
  by_cases hny : n < ys.length
  ·have n4 : ((n : Int) < ys.length) = True := eq_true (by omega)
   simp +contextual only [decide_true, gp4, SZ, un1, gps, iy.aL, iy.len (by omega), n4, ix.idx, iy.idx, ix.lens, iy.lens, Int.toNat_natCast, d3, s3, List.set_set, sZ, Nat.reduceEqDiff, Nat.reduceAdd, Nat.reduceLT, Nat.reduceLeDiff, ↓reduceIte, reduceCtorEq]
   have mx := nx _ (aO (l := xs) (i := n) (by omega))
   have my := ny _ (aO hny)
   have DC : oD c (xs.getD n 0) (ys.getD n 0) := S2 _ mx _ my (X1.resolve_left (by omega))
   have S1 : ∀ u qs, Sh c.O u (c.tm (xs.getD n 0)) (c.tm (ys.getD n 0)) → k8 (Sh c.O) qs (c.tm i) ((c.kd k).map c.tm) → Sh c.O (.mk 3 n [] (u :: qs)) (c.tm i) (c.tm k) := by
    intro u qs hu hq
    rw [hS, hLS, if_neg (by omega)]; exact ⟨u, qs, rfl, hu, hq⟩
   repeat' apply And.intro
   all_goals first | omega | skip
   all_goals
    refine af (DC _ (pG _).du) ?_
    rintro r G5 ⟨u, rfl, hu, WZ, W0⟩
    replace S1 := fun qs => S1 u qs hu
    have KE := (pG _).call hD w WZ W0
    have gp5 := KE.gp
    have EI := fun es => KE.set (es' := es) hD w
    have gps6 := fun es => (EI es).gp
    have gys6 := fun es => (EI es).gy
    obtain ⟨u1, u2, u3, u4, u5, u6, u7, u8, u9⟩ := aX u
    have ap1 : ∀ ψ, bE 4 64 .ah (.ap 0 [dV u]) ψ = ψ (dU ([] ++ [u])) := fun ψ => CL [] u (by simp) 0 ψ
    have ea : dU ([] ++ [u]) = [dV u] := rfl
    rw [ea] at ap1
    simp +contextual only [k2, ik.aL, ik.len (by omega), u1, u2, u6, jn, ap1, gp5, gps6, gys6, d3, s3, List.set_set, sZ, Nat.reduceEqDiff, Nat.reduceAdd, Nat.reduceLT, ↓reduceIte]
    refine kT (EH hD w (l0 := [u]) (by simp) ik l2 (fun z hz => hp z hz (hall0 z hz)) (EI _)) ?_
    rintro e1 e G6 ⟨rfl, f6, f10, qs, ju, nH⟩
    replace nH : PB c H x y i k [.int .i64 3, .int .i64 n, .ah, oC (u :: qs)] G6 := nH
    have gp6 := nH.gp
    have g66 := nH.g6
    have lp := PN 3 n [] (u :: qs)
    have tv0 : sY [] = AV.ah := rfl
    rw [tv0] at lp
    have hs : Sh c.O (.mk 3 n [] (u :: qs)) (c.tm i) (c.tm k) := S1 qs ju
    obtain ⟨q1, q2, q3, q4, q5, q6, q7, q8, q9⟩ := aX (.mk 3 n [] (u :: qs))
    have lp2 := CN (.mk 3 n [] (u :: qs))
    have KD := List.getElem?_set_self (a := aa.cells (dV (.mk 3 n [] (u :: qs))).cells) (aN g66)
    have Ol : aj (H.length + 1) (dV (.mk 3 n [] (u :: qs))).cells = true := cq (fK _ _)
    have kO := PB.fin (to := []) (l := (u :: qs)) hD nH hs
    simp +contextual only [f6, f10, gp6, g66, lp, q1, q2, q3, q9, PR, KD, lp2, Ol, sZ, Nat.reduceEqDiff, Nat.reduceAdd, ↓reduceIte, reduceCtorEq]
    first | exact kO | exact ⟨by omega, kO⟩ | exact ⟨trivial, kO⟩
  ·have n4 : ((n : Int) < ys.length) = False := eq_false (by omega)
   have S1 : ∀ qs, k8 (Sh c.O) qs (c.tm i) ((c.kd k).map c.tm) → Sh c.O (.mk 3 n [] qs) (c.tm i) (c.tm k) := by
    intro qs hq
    rw [hS, hLS, if_pos (by have := hn.lb; omega)]; exact hq
   simp +contextual only [k2, ik.aL, ik.len (by omega), decide_false, gp4, SZ, un1, gps, gys, iy.aL, iy.len (by omega), n4, sZ, Nat.reduceEqDiff, Nat.reduceAdd, Nat.reduceLT, Nat.reduceLeDiff, ↓reduceIte]
   refine kT (EH hD w (l0 := []) (by simp) ik l2 (fun z hz => hp z hz (hall0 z hz)) (pG _)) ?_
   rintro e1 e G6 ⟨rfl, f6, f10, qs, ju, nH⟩
   replace nH : PB c H x y i k [.int .i64 3, .int .i64 n, .ah, oC qs] G6 := nH
   have gp6 := nH.gp
   have g66 := nH.g6
   have lp := PN 3 n [] qs
   have tv0 : sY [] = AV.ah := rfl
   rw [tv0] at lp
   have hs : Sh c.O (.mk 3 n [] qs) (c.tm i) (c.tm k) := S1 qs ju
   obtain ⟨q1, q2, q3, q4, q5, q6, q7, q8, q9⟩ := aX (.mk 3 n [] qs)
   have lp2 := CN (.mk 3 n [] qs)
   have KD := List.getElem?_set_self (a := aa.cells (dV (.mk 3 n [] qs)).cells) (aN g66)
   have Ol : aj (H.length + 1) (dV (.mk 3 n [] qs)).cells = true := cq (fK _ _)
   have kO := PB.fin (to := []) (l := qs) hD nH hs
   simp +contextual only [f6, f10, gp6, g66, lp, q1, q2, q3, q9, PR, KD, lp2, Ol, sZ, Nat.reduceEqDiff, Nat.reduceAdd, ↓reduceIte, reduceCtorEq]
   first | exact kO | exact ⟨by omega, kO⟩ | exact ⟨trivial, kO⟩
end Go.aK
end
section
set_option maxRecDepth 100000
namespace Go.aK
open Go Go.Proofs Go.fJ
structure PC (c : Cx) (H : List aa) (x y : Nat) (i k : Int) (es : List AV) (o : aa) (G : List aa) : Prop where
 du : Du c G
 gx : G[x]? = some (.cells [bn (c.kd i)])
 gy : G[y]? = some (.cells [bn (c.kd k)])
 g6 : G[H.length]? = some (.cells [.int .i64 0, .int .i64 0, .ah, .ah])
 gp : G[H.length + 3]? = some (.cells es)
 go : G[H.length + 4]? = some o
 len : G.length = H.length + 5
 up : ∀ j, j < H.length → j ≠ c.e → j ≠ c.g → G[j]? = H[j]?
theorem PB.aal {c : Cx} {H G : List aa} {x y : Nat} {i k : Int} {es : List AV} (w : XY H x y) (h : PB c H x y i k es G) (o : aa) : PC c H x y i k es o (G ++ [o]) := by
 obtain ⟨w1, w2, w3, w4⟩ := w
 have hl := h.len
 exact ⟨h.du.rQ _, by rw [List.getElem?_append_left (by omega), h.gx], by rw [List.getElem?_append_left (by omega), h.gy], by rw [List.getElem?_append_left (by omega), h.g6], by rw [List.getElem?_append_left (by omega), h.gp], by rw [← hl]; simp, by simp [hl], fun j h1 h2 h3 => by rw [List.getElem?_append_left (by omega), h.up j h1 h2 h3]⟩
theorem PC.call {c : Cx} {H G G' : List aa} {x y : Nat} {i k : Int} {es : List AV} {o : aa} (hD : Du c H) (w : XY H x y) (h : PC c H x y i k es o G) (hU : Up c G G') (jf : Du c G') : PC c H x y i k es o G' := by
 obtain ⟨l1, l2, l3⟩ := hD.lt
 obtain ⟨w1, w2, w3, w4⟩ := w
 exact ⟨jf, by rw [hU.get x (by omega) (by omega), h.gx], by rw [hU.get y (by omega) (by omega), h.gy], by rw [hU.get _ (by omega) (by omega), h.g6], by rw [hU.get _ (by omega) (by omega), h.gp], by rw [hU.get _ (by omega) (by omega), h.go], by rw [hU.len, h.len], fun j h1 h2 h3 => by rw [hU.get j h2 h3, h.up j h1 h2 h3]⟩
theorem PC.set {c : Cx} {H G : List aa} {x y : Nat} {i k : Int} {es es' : List AV} {o : aa} (hD : Du c H) (w : XY H x y) (h : PC c H x y i k es o G) : PC c H x y i k es' o (G.set (H.length + 3) (.cells es')) := by
 obtain ⟨l1, l2, l3⟩ := hD.lt
 obtain ⟨w1, w2, w3, w4⟩ := w
 have hp := aN h.gp
 exact ⟨h.du.set (by omega) (by omega) (by omega), by rw [List.getElem?_set_ne (by omega), h.gx], by rw [List.getElem?_set_ne (by omega), h.gy], by rw [List.getElem?_set_ne (by omega), h.g6], by rw [List.getElem?_set_self hp], by rw [List.getElem?_set_ne (by omega), h.go], by rw [List.length_set, h.len], fun j h1 h2 h3 => by rw [List.getElem?_set_ne (by omega), h.up j h1 h2 h3]⟩
theorem PC.aam {c : Cx} {H G : List aa} {x y : Nat} {i k : Int} {es : List AV} {o o' : aa} (hD : Du c H) (w : XY H x y) (h : PC c H x y i k es o G) : PC c H x y i k es o' (G.set (H.length + 4) o') := by
 obtain ⟨l1, l2, l3⟩ := hD.lt
 obtain ⟨w1, w2, w3, w4⟩ := w
 have hp := aN h.go
 exact ⟨h.du.set (by omega) (by omega) (by omega), by rw [List.getElem?_set_ne (by omega), h.gx], by rw [List.getElem?_set_ne (by omega), h.gy], by rw [List.getElem?_set_ne (by omega), h.g6], by rw [List.getElem?_set_ne (by omega), h.gp], by rw [List.getElem?_set_self hp], by rw [List.length_set, h.len], fun j h1 h2 h3 => by rw [List.getElem?_set_ne (by omega), h.up j h1 h2 h3]⟩
theorem PC.drop {c : Cx} {H G : List aa} {x y : Nat} {i k : Int} {es : List AV} {o : aa} (hD : Du c H) (w : XY H x y) (h : PC c H x y i k es o G) : PB c H x y i k es (G.take (H.length + 4)) ∧ G = G.take (H.length + 4) ++ [o] := by
 obtain ⟨l1, l2, l3⟩ := hD.lt
 obtain ⟨w1, w2, w3, w4⟩ := w
 have hl := h.len
 have t : ∀ j, j < H.length + 4 → (G.take (H.length + 4))[j]? = G[j]? := fun j h1 => by rw [List.getElem?_take, if_pos h1]
 refine ⟨⟨h.du.take (by omega) (by omega) (by omega), by rw [t x (by omega), h.gx], by rw [t y (by omega), h.gy], by rw [t _ (by omega), h.g6], by rw [t _ (by omega), h.gp], by simp; omega, fun j h1 h2 h3 => by rw [t j (by omega), h.up j h1 h2 h3]⟩, ?_⟩
 have e : G.drop (H.length + 4) = [o] := by
  have h1 := h.go
  have aW : H.length + 4 < G.length := by omega
  rw [List.drop_eq_getElem_cons aW]
  rw [List.getElem?_eq_getElem aW] at h1
  simp only [Option.some.injEq] at h1
  rw [h1, List.drop_of_length_le (by omega)]
 rw [← e, List.take_append_drop]
structure MI (c : Cx) (a b : List Int) (us : List Bool) (to : List Int) (j : Nat) (ts : List Int) (ls : List PP) : Prop where
 lt : ts.length = j
 ll : ls.length = j
 pa : ∀ j', j' < j → 0 ≤ to.getD j' 0 → ts.getD j' 0 = to.getD j' 0 ∧ (ls.getD j' default).nil
 ov : ∀ j', j' < j → to.getD j' 0 < 0 → (¬ (ls.getD j' default).nil ∧ Sh c.O (ls.getD j' default) (c.tm (a.getD (ts.getD j' 0).toNat 0)) (c.tm (b.getD j' 0))) ∧ ∃ u : Nat, ts.getD j' 0 = u ∧ u < a.length ∧ us.getD u false = false
theorem MI.snoc {c : Cx} {a b : List Int} {us : List Bool} {to : List Int} {j : Nat} {ts : List Int} {ls : List PP} (h : MI c a b us to j ts ls) (v : Int) (q : PP)
 (h1 : 0 ≤ to.getD j 0 → v = to.getD j 0 ∧ q.nil) (h2 : to.getD j 0 < 0 → (¬ q.nil ∧ Sh c.O q (c.tm (a.getD v.toNat 0)) (c.tm (b.getD j 0))) ∧ ∃ u : Nat, v = u ∧ u < a.length ∧ us.getD u false = false) : MI c a b us to (j + 1) (ts ++ [v]) (ls ++ [q]) := by
 obtain ⟨k1, k2, k3, k4⟩ := h
 have e1 : ∀ j', j' < j → (ts ++ [v]).getD j' 0 = ts.getD j' 0 ∧ (ls ++ [q]).getD j' default = ls.getD j' default := fun j' tS => by
  constructor
  ·rw [List.getD_eq_getElem?_getD, List.getD_eq_getElem?_getD, List.getElem?_append_left (by omega)]
  ·rw [List.getD_eq_getElem?_getD, List.getD_eq_getElem?_getD, List.getElem?_append_left (by omega)]
 have e2 : (ts ++ [v]).getD j 0 = v ∧ (ls ++ [q]).getD j default = q := by
  constructor
  ·rw [← k1]; simp
  ·rw [← k2]; simp
 refine ⟨by simp [k1], by simp [k2], fun j' tS h0 => ?_, fun j' tS h0 => ?_⟩
 ·by_cases e : j' = j
  ·subst e; rw [e2.1, e2.2]; exact h1 h0
  ·have aW : j' < j := by omega
   rw [(e1 j' aW).1, (e1 j' aW).2]; exact k3 j' aW h0
 ·by_cases e : j' = j
  ·subst e; rw [e2.1, e2.2]; exact h2 h0
  ·have aW : j' < j := by omega
   rw [(e1 j' aW).1, (e1 j' aW).2]; exact k4 j' aW h0
theorem vQ {to : List Int} {x : Int} : ∀ {n : Nat}, (∀ j j', j < n → j' < n → to.getD j 0 = x → to.getD j' 0 = x → j = j') → dm to x n ≤ 1
 | 0, _ => by simp [dm]
 | n + 1, h => by
   rw [dm]
   have ih := vQ (n := n) fun j j' h1 h2 => h j j' (by omega) (by omega)
   by_cases e : to.getD n 0 = x
   ·rw [if_pos e]
    have : dm to x n = 0 := by
     have h0 : ∀ m, m ≤ n → dm to x m = 0 := by
      intro m
      induction m with
      | zero => intro _; rfl
      | succ m ihm =>
        intro hm
        rw [dm, ihm (by omega), if_neg (fun e' => by have := h m n (by omega) (by omega) e' e; omega)]
     exact h0 n (Nat.le_refl _)
    omega
   ·rw [if_neg e]; omega
theorem MI.cov {c : Cx} {a b : List Int} {us : List Bool} {to ts : List Int} {ls : List PP} (h : MI c a b us to b.length ts ls) (Aa : Pr (fun x y => E c.O (c.tm x) (c.tm y)) a b b.length us to) (hl : ∃ u : Nat, u < a.length ∧ us.getD u false = false) : HQ c ts ls a b := by
 obtain ⟨k1, k2, k3, k4⟩ := h
 have cas : ∀ j, j < b.length → (∃ u : Nat, to.getD j 0 = u ∧ u < a.length ∧ us.getD u false = true ∧ E c.O (c.tm (a.getD u 0)) (c.tm (b.getD j 0))) ∨ to.getD j 0 < 0 := fun j hj => by
  rcases Aa.t1 j hj with h | ⟨u, h1, h2, h3, h4⟩
  ·exact .inr (by omega)
  ·exact .inl ⟨u, h1, h2, h3, h4⟩
 refine ⟨k1, k2, fun j hj => ?_, fun x hx hp => ?_, ?_⟩
 ·rcases cas j hj with ⟨u, h1, h2, h3, h4⟩ | hn
  ·obtain ⟨e1, e2⟩ := k3 j hj (by omega)
   rw [if_pos e2, e1, h1]
   exact ⟨by omega, by rw [Int.toNat_natCast]; exact h4⟩
  ·obtain ⟨⟨e1, e2⟩, u, h1, h2, h3⟩ := k4 j hj hn
   rw [if_neg e1]
   exact ⟨by omega, e2⟩
 ·obtain ⟨j, hj, e1, e2⟩ := hJ.1 hp
  have AE : ∀ j', j' < b.length → ts.getD j' 0 = (x : Int) → us.getD x false = true → to.getD j' 0 = (x : Int) := by
   intro j' tS e ht
   rcases cas j' tS with ⟨u, h1, _⟩ | hn
   ·rw [← (k3 j' tS (by omega)).1]; exact e
   ·obtain ⟨_, u, h1, h2, h3⟩ := k4 j' tS hn
    have : u = x := by omega
    subst this; rw [h3] at ht; cases ht
  have hux : us.getD x false = true := by
   rcases cas j hj with ⟨u, h1, h2, h3, _⟩ | hn
   ·have := (k3 j hj (by omega)).1
    have : u = x := by omega
    subst this; exact h3
   ·exact absurd e2 (k4 j hj hn).1.1
  refine vQ fun j1 j2 h1 h2 e1 e2 => ?_
  have t1 := AE j1 h1 e1 hux
  have t2 := AE j2 h2 e2 hux
  exact Aa.inj j1 j2 h1 h2 (by omega) (by omega)
 ·obtain ⟨u, hu, hf⟩ := hl
  refine ⟨u, hu, ?_⟩
  by_cases h0 : 0 < dg ts ls u b.length
  ·obtain ⟨j, hj, e1, e2⟩ := hJ.1 h0
   rcases cas j hj with ⟨u', h1, h2, h3, _⟩ | hn
   ·have := (k3 j hj (by omega)).1
    have : u' = u := by omega
    subst this; rw [hf] at h3; cases h3
   ·exact absurd e2 (k4 j hj hn).1.1
  ·omega
theorem Sh.ne_nil {O : Od} {p : PP} {a b : T} (h : Sh O p a b) : ¬ p.nil := by
 rintro ⟨h1, _⟩
 exact Sh0 (by omega) (by omega) (by omega) (by omega) h
theorem W3 {c : Cx} (hc : c.Ok) {i k : Int} (hi : c.dJ i) (hk : c.dJ k) (hR : R c.O (c.tm i) (c.tm k)) (hr : gI c i k 4) (jR : ∀ m, m < 4 → ¬ gI c i k m) (S2 : ∀ x ∈ c.kd i, ∀ y ∈ c.kd k, R c.O (c.tm x) (c.tm y) → oD c x y) : oD c i k := by
 intro H hD
 refine CK.2.calls rfl ?_
 simp only [CK, aI]
 have k2 : ∀ l, (bn l).ab = bn l := fun l => (aD l).2.1
 have ki := hc.kids i hi
 have kk := hc.kids k hk
 have l1 := hc.kl i hi
 have l2 := hc.kl k hk
 obtain ⟨a1, a2, a3, a4, a5⟩ := aD (c.kd i)
 obtain ⟨b1, b2, b3, b4, b5⟩ := aD (c.kd k)
 have ii : IL (bn (c.kd i)) (c.kd i) := .inl rfl
 have ik : IL (bn (c.kd k)) (c.kd k) := .inl rfl
 have ei : (c.nd.getD i.toNat default).snd = c.kd i := rfl
 have ek : (c.nd.getD k.toNat default).snd = c.kd k := rfl
 obtain ⟨m1, m2, m3⟩ := hD.lt
 have ed : ∀ X : List aa, (H ++ X)[c.d]? = H[c.d]? := fun X => List.getElem?_append_left m1
 have spv : ∀ x : AV, ag [AV.ah] 0 [x] = [x] := fun x => rfl
 have spq : ag [AV.int .i64 0, .int .i64 0, .ah, .ah] 0 [AV.int .i64 0, .int .i64 0, .ah, .ah] = [AV.int .i64 0, .int .i64 0, .ah, .ah] := rfl
 simp +contextual only [sZ, Nat.reduceEqDiff, Nat.reduceAdd, ↓reduceIte, reduceCtorEq]
 refine k7 (K1 := fun e G => get e 1 = .int .i64 i ∧ get e 3 = .ai (.ptr c.d 0) ∧ get e 5 = .ai (.int .i64 k) ∧ get e 6 = .ptr H.length 0 ∧ ∃ x y, get e 7 = .ptr x 0 ∧ get e 8 = .ptr y 0 ∧ XY H x y ∧ PA c H x y i k G) ?_ ?_
 ·have P0 : aa := .cells [.int .i64 0, .int .i64 0, .ah, .ah]
  have A : ∃ x y, AV.ptr (H.length + 1) 0 = .ptr x 0 ∧ AV.ptr (H.length + 2) 0 = .ptr y 0 ∧ XY H x y ∧ PA c H x y i k (H ++ [.cells [.int .i64 0, .int .i64 0, .ah, .ah], .cells [bn (c.kd i)], .cells [bn (c.kd k)]]) :=
   ⟨_, _, rfl, rfl, ⟨by omega, by omega, by omega, by omega⟩, ⟨hD.rQ _, by simp, by simp, by simp, by simp, fun j hj _ _ => List.getElem?_append_left hj⟩⟩
  have B : ∃ x y, AV.ptr (H.length + 2) 0 = .ptr x 0 ∧ AV.ptr (H.length + 1) 0 = .ptr y 0 ∧ XY H x y ∧ PA c H x y i k (H ++ [.cells [.int .i64 0, .int .i64 0, .ah, .ah], .cells [bn (c.kd k)], .cells [bn (c.kd i)]]) :=
   ⟨_, _, rfl, rfl, ⟨by omega, by omega, by omega, by omega⟩, ⟨hD.rQ _, by simp, by simp, by simp, by simp, fun j hj _ _ => List.getElem?_append_left hj⟩⟩
  simp +contextual only [ed, hD.d, l9, C5, cw, bU, k2, ei, ek, a1, a3, a4, a5, b1, b3, b4, b5, List.map_cons, List.map_nil, spv, List.all_cons, List.all_nil, Bool.and_true, bM, c8, sZ, Nat.reduceEqDiff, Nat.reduceAdd, Nat.reduceLT, ↓reduceIte]
  refine ⟨hi, ?_⟩
  repeat' apply And.intro
  all_goals first | exact hk.1 | exact hk.2 | exact A | exact B
 ·rintro e G ⟨e1, e3, e5, e6, x, y, e7, e8, w, Ao⟩
  simp +contextual only [e1, e3, e5, e6, e7, e8, sZ, Nat.reduceEqDiff, ↓reduceIte]
  refine aM 3 (fun m (G : List aa) => PA c H x y i k G)
   (fun m G => [(1, .int .i64 i), (3, .ai (.ptr c.d 0)), (5, .ai (.int .i64 k)), (6, .ptr H.length 0), (7, .ptr x 0), (8, .ptr y 0), (9, .int .i64 ((m + 1 : Nat) : Int))]) (fun m G => G) G ⟨Ao, aA _ _ _⟩ fun m G hm Ao => ?_
  have hf : dS.cells[m + 1]? = some (.fn (.func (182 + (m + 1))) [] []) := by
   have : m = 0 ∨ m = 1 ∨ m = 2 ∨ m = 3 := by omega
   rcases this with rfl | rfl | rfl | rfl <;> rfl
  have en := TK (m + 1) _ hf (by omega)
  simp +contextual only [sZ]
  refine aH Km ?_
  simp +contextual only [lT, en _ rfl, sZ, Nat.reduceEqDiff, Nat.reduceAdd, ↓reduceIte, reduceCtorEq]
  refine af ((tV hc hi hk).at (n := m + 1) (by omega) (by omega) Ao.du) ?_
  rintro r G1 ⟨z, rfl, hz, hU, mI⟩
  have pw := Ao.call hD w hU mI
  by_cases Pv : m = 3
  rotate_left
  ·have : z = false := by
    cases z with
    | false => rfl
    | true => exact absurd (hz.1 rfl) (jR (m + 1) (by omega))
   subst this
   simp +contextual only [Bool.not_false, sZ, Nat.reduceEqDiff, ↓reduceIte]
   exact ⟨m + 1, G1, ⟨by omega, pw⟩, by omega, aF (by rw [au (m + 1) (by omega)]) rfl⟩
  subst Pv
  have : z = true := hz.2 hr
  subst this
  have xa := pw.len
  have kB := fun es => pw.rQ w es
  have S0 := fun es => (kB es).gp
  have NV := fun es => (kB es).gx
  have WY := fun es => (kB es).gy
  have bQ : ∀ (o o' : aa), (G1 ++ [o]).set (H.length + 3) o' = G1 ++ [o'] := fun o o' => by rw [← xa]; simp
  have ec : ((4 : Nat) : Int) = 4 := rfl
  have zf : List.map AV.ab [AV.int .i64 (4 : Int), .int .i64 0, .ah, .ah] = [.int .i64 (4 : Int), .int .i64 0, .ah, .ah] := rfl
  have zf0 : List.map AV.ab [AV.int .i64 0, .int .i64 0, .ah, .ah] = [.int .i64 0, .int .i64 0, .ah, .ah] := rfl
  have e86 : ∀ a b : Int, decide (a = b) = decide (a = b) := fun _ _ => rfl
  simp +contextual only [k2, decide_true, decide_false, Bool.not_true, Bool.not_true, Ye, xa, S0, bQ, ec, zf, zf0, HU, NV, WY, sZ, Nat.reduceEqDiff, Nat.reduceAdd, Nat.reduceLT, ↓reduceIte, reduceCtorEq, Int.reduceEq]
  have mh := kB [.int .i64 4, .int .i64 0, .ah, .ah]
  generalize G1 ++ [aa.cells [AV.int .i64 4, .int .i64 0, .ah, .ah]] = G2 at mh ⊢
  have ki2 : (c.tm i).k = 2 := (qz.1 hR).1
  have hmq : w5 c i k := by
   rcases hr with h | h | h | h
   ·exact absurd h.1 (by decide)
   ·exact absurd h.1 (by decide)
   ·exact absurd h.1 (by decide)
   ·exact h.2
  obtain ⟨KA, Am, X5⟩ := hmq
  have KF := kg.1 KA
  have kk2 : (c.tm k).k = 2 := KF.2.1
  have osi : dw c i = c.O.sp (c.O.pl (c.tm i).n) := by rw [dw, if_pos ki2]
  have gx0 := mh.gx
  have gy0 := mh.gy
  simp +contextual only [sZ]
  refine af (SH ii ik (by omega) (by omega) (fun z hz z' Ie => jN hc (ki.2 z hz) (kk.2 z' Ie)) mh.du) ?_
  rintro r G3 ⟨us, to, Aa, rfl, Wr, Kj⟩
  have An := mh.call hD w Wr Kj
  have Tr := (Pr.mu (f := nf c) (G := Gt c.O.sp) Aa).1 X5
  have lbl := jl (c.kd i).length fun z => !us.getD z false
  have il : IL (bn (below (c.kd i).length fun z => !us.getD z false)) (below (c.kd i).length fun z => !us.getD z false) := .inl rfl
  have mml : ∀ {z : Int}, z ∈ below (c.kd i).length (fun z => !us.getD z false) → ∃ u : Nat, z = u ∧ u < (c.kd i).length ∧ us.getD u false = false := by
   intro z hz; obtain ⟨u, h1, h2, h3⟩ := fX.1 hz; exact ⟨u, h1, h2, by simpa using h3⟩
  have mmo : ∀ {j : Nat}, j < (c.kd k).length → to.getD j 0 < 0 → ∃ z ∈ below (c.kd i).length (fun z => !us.getD z false), R c.O (c.tm ((c.kd i).getD z.toNat 0)) (c.tm ((c.kd k).getD j 0)) := by
   intro j hj hn
   exact Tr.2 (j : Int) (fX.2 ⟨j, rfl, hj, by simpa using hn⟩)
  have aan := Tr.1
  generalize (below (c.kd i).length fun z => !us.getD z false) = L at *
  have lto := Aa.lt
  obtain ⟨v1, v2, v3, v4, v5⟩ := aD L
  simp +contextual only [k2, aw, sZ, Nat.reduceEqDiff, Nat.reduceAdd, Nat.reduceLT, ↓reduceIte]
  intro _
  have hlne2 : ∃ u : Nat, u < (c.kd i).length ∧ us.getD u false = false := by
   cases L with
   | nil => exact absurd rfl aan
   | cons z r =>
     obtain ⟨u, _, h2, h3⟩ := mml (List.mem_cons_self (a := z) (l := r))
     exact ⟨u, h2, h3⟩
  refine aM (c.kd k).length (fun j (s : List aa × List Int × List PP) => PB c H x y i k [.int .i64 4, .int .i64 0, sY s.2.1, oC s.2.2] s.1 ∧ MI c (c.kd i) (c.kd k) us to j s.2.1 s.2.2)
   (fun j s => [(3, .ai (.ptr c.d 0)), (6, .ptr H.length 0), (7, .ptr x 0), (8, .ptr y 0), (10, .ptr (H.length + 3) 0), (11, bn L), (89, .ap 0 (ints to)), (90, .int .i64 to.length), (91, .int .i64 j)]) (fun j s => s.1) (G3, [], [])
   ⟨⟨An, rfl, rfl, fun j h => by omega, fun j h => by omega⟩, aA _ _ _⟩ fun j s hj hI => ?_
  obtain ⟨G, ts, ls⟩ := s
  obtain ⟨kB, H5⟩ := hI
  simp only at kB H5
  have hlen := kB.len
  by_cases Ky : (j : Int) < to.length
  ·have pD : j < (c.kd k).length := by omega
   have zf4 : ∀ n, aj n (List.map AV.ab [AV.int .i64 0, .int .i64 0, .ah, .ah]) = true := fun _ => rfl
   have zf5 : List.map AV.ab [AV.int .i64 0, .int .i64 0, .ah, .ah] = [AV.int .i64 0, .int .i64 0, .ah, .ah] := rfl
   obtain ⟨tj, Yf⟩ : ∃ tj, to.getD j 0 = tj := ⟨_, rfl⟩
   have W4 := kB.aal w (.cells [.int .i64 0, .int .i64 0, .ah, .ah])
   by_cases wF : tj < 0
   ·simp +contextual only [k2, decide_true, Ky, cA, dA, Int.toNat_natCast, Yf, wF, hlen, zf5, sZ, Nat.reduceEqDiff, Nat.reduceAdd, ↓reduceIte, reduceCtorEq]
    have mz := fun (G' : List aa) (ej : SD c (G ++ [aa.cells [AV.int .i64 0, .int .i64 0, .ah, .ah]]) G') => W4.call hD w ej.2 ej.1
    have hjz : (0 : Int) ≤ j ∧ (j : Int) < (c.kd k).length := ⟨by omega, by omega⟩
    refine ⟨by omega, af (Ki (SD.z7 c (G ++ [.cells [.int .i64 0, .int .i64 0, .ah, .ah]])) il (by omega) 148 [] [.ai (.ptr c.d 0), .ptr x 0, .ptr y 0, .ai (.int .i64 j)] rfl rfl (Q := fun z => R c.O (c.tm ((c.kd i).getD z.toNat 0)) (c.tm ((c.kd k).getD (j : Int).toNat 0)))
     (fun z hz G' ej => ?_) ⟨W4.du, Up.refl c _⟩) ?_⟩
    ·obtain ⟨u, rfl, hu, _⟩ := mml hz
     refine (aai ii ik ⟨by omega, by omega⟩ hjz (jO hc (ki.2 _ (aO (by omega))) (kk.2 _ (aO (by omega)))) ej.1 (mz G' ej).gx (mz G' ej).gy).mono fun r H' hr => hr.sb ej
    rintro r G4 ⟨hG4, tq⟩
    rcases tq with ⟨_, tq⟩ | ⟨m, rfl, hm, hQ, _⟩
    ·obtain ⟨z, hz, h⟩ := mmo pD (by rw [Yf]; exact wF)
     exact absurd h (tq z hz)
    obtain ⟨u, hu, yM, huf⟩ := mml (aO hm)
    have Om := mz G4 hG4
    have gx4 := Om.gx
    have gy4 := Om.gy
    rw [hu, Int.toNat_natCast, Int.toNat_natCast] at hQ
    simp +contextual only [k2, ii.lens, ik.lens, ii.idx, ik.idx, il.lens, il.idx, Int.toNat_natCast, hu, gx4, gy4, sZ, Nat.reduceEqDiff, Nat.reduceAdd, Nat.reduceLT, ↓reduceIte, reduceCtorEq]
    refine ⟨by omega, ⟨by omega, by omega⟩, by omega, ?_⟩
    refine af (S2 _ (aO yM) _ (aO pD) hQ _ Om.du) ?_
    rintro r G5 ⟨q, rfl, hq, WZ, W0⟩
    have W5 := Om.call hD w WZ W0
    have go5 := W5.go
    have hpo := fun o => W5.aam (o' := o) hD w
    have mC := fun o es => (hpo o).set (es' := es) hD w
    have gq5 := fun o => (hpo o).go
    have gp5 := fun o => (hpo o).gp
    have gqs := fun o es => (mC o es).go
    have gps := fun o es => (mC o es).gp
    obtain ⟨u1, u2, u3, u4, u5, u6, u7, u8, u9⟩ := aX q
    have bq : aj (H.length + 4 + 1) (dV q).cells = true := cq (fK _ _)
    have S3 := H5.snoc (u : Int) q (fun h => by omega) (fun _ => ⟨⟨Sh.ne_nil hq, by rw [Int.toNat_natCast]; exact hq⟩, u, rfl, yM, huf⟩)
    have t1 := H5.lt
    have t2 := H5.ll
    have Tv : ∀ ψ, bE 1 8 (sY ts) (.ap 0 [.int .i64 (u : Int)]) ψ = ψ (ints (ts ++ [(u : Int)])) := fun ψ => PM ts _ (by omega) 0 ψ
    have apl : ∀ ψ, bE 4 64 (oC ls) (.ap 0 [dV q]) ψ = ψ (dU (ls ++ [q])) := fun ψ => CL ls q (by omega) 0 ψ
    have lpq := CN q
    obtain ⟨x1, x2, x3, x4, x5, x6⟩ := lf (ts ++ [(u : Int)])
    obtain ⟨y1, y2, y3, y4, y5, y6⟩ := hZ (ls ++ [q])
    obtain ⟨x1', x2', x3', x4', x5', x6'⟩ := lf ts
    obtain ⟨y1', y2', y3', y4', y5', y6'⟩ := hZ ls
    have lvb : ∀ n, aj n (dU (ls ++ [q])) = true := fun n => iE _ _
    have tvb : ∀ n, aj n (ints (ts ++ [(u : Int)])) = true := fun n => bk _ _
    have qc : ∀ G', PC c H x y i k [.int .i64 4, .int .i64 0, sY (ts ++ [(u : Int)]), oC (ls ++ [q])] (.cells (dV q).cells) G' → ∃ (j' : Nat) (t : List aa × List Int × List PP), (j' ≤ (c.kd k).length ∧ PB c H x y i k [.int .i64 4, .int .i64 0, sY t.2.1, oC t.2.2] t.1 ∧ MI c (c.kd i) (c.kd k) us to j' t.2.1 t.2.2) ∧ (c.kd k).length - j' < (c.kd k).length - j ∧
     sle H.length [(3, .ai (.ptr c.d 0)), (6, .ptr H.length 0), (7, .ptr x 0), (8, .ptr y 0), (10, .ptr (H.length + 3) 0), (11, bn L), (89, .ap 0 (ints to)), (90, .int .i64 to.length), (91, .int .i64 (IntKind.i64.wrap (j + 1)))] G' [(3, .ai (.ptr c.d 0)), (6, .ptr H.length 0), (7, .ptr x 0), (8, .ptr y 0), (10, .ptr (H.length + 3) 0), (11, bn L), (89, .ap 0 (ints to)), (90, .int .i64 to.length), (91, .int .i64 j')] t.1 := by
     intro G' ej
     obtain ⟨z1, z2⟩ := ej.drop hD w
     have zl := z1.len
     have XQ := v3
     refine ⟨j + 1, (G'.take (H.length + 4), ts ++ [(u : Int)], ls ++ [q]), ⟨pD, z1, S3⟩, by omega, BA (by rw [au j (by omega)]) (by rw [zl]; omega) ?_ _ z2⟩
     obtain ⟨w1, w2, w3, w4⟩ := w
     rw [zl]
     simp only [pf, List.all_cons, List.all_nil, zF, rE, iU, cZ, v3, bk, Bool.and_true, Bool.and_eq_true, decide_eq_true_eq]
     omega
    simp +contextual only [go5, PR, u1, u2, u3, u9, bq, gq5, gp5, gqs, gps, d2, d3, s2, s3, List.set_set, jn, Tv, apl, lpq, CM, qN, x3, x4, y3, y4, sZ, Nat.reduceEqDiff, Nat.reduceAdd, Nat.reduceLT, ↓reduceIte]
    repeat' apply And.intro
    all_goals exact qc _ (mC _ _)
   ·have t1 := H5.lt
    have t2 := H5.ll
    obtain ⟨q0, hq0⟩ : ∃ q0, q0 = PP.mk 0 0 [] [] := ⟨_, rfl⟩
    have tc : q0.nil := by rw [hq0]; exact ⟨rfl, rfl, rfl, rfl⟩
    have lpz : ∀ φ, dd (some (.cells [.int .i64 0, .int .i64 0, .ah, .ah])) (some 4) 0 φ = φ (dV q0) := by rw [hq0]; exact PN 0 0 [] []
    obtain ⟨u1, u2, u3, u4, u5, u6, u7, u8, u9⟩ := aX q0
    have S3 := H5.snoc tj q0 (fun h => ⟨Yf.symm, tc⟩) (fun h => by omega)
    have Tv : ∀ ψ, bE 1 8 (sY ts) (.ap 0 [.int .i64 tj]) ψ = ψ (ints (ts ++ [tj])) := fun ψ => PM ts _ (by omega) 0 ψ
    have apl : ∀ ψ, bE 4 64 (oC ls) (.ap 0 [dV q0]) ψ = ψ (dU (ls ++ [q0])) := fun ψ => CL ls q0 (by omega) 0 ψ
    have mC := fun es => W4.set (es' := es) hD w
    have gp5 := W4.gp
    have go5 := W4.go
    have gqs := fun es => (mC es).go
    have gps := fun es => (mC es).gp
    obtain ⟨x1, x2, x3, x4, x5, x6⟩ := lf (ts ++ [tj])
    obtain ⟨y1, y2, y3, y4, y5, y6⟩ := hZ (ls ++ [q0])
    obtain ⟨x1', x2', x3', x4', x5', x6'⟩ := lf ts
    obtain ⟨y1', y2', y3', y4', y5', y6'⟩ := hZ ls
    have lvb : ∀ n, aj n (dU (ls ++ [q0])) = true := fun n => iE _ _
    have tvb : ∀ n, aj n (ints (ts ++ [tj])) = true := fun n => bk _ _
    have qc : ∀ G', PC c H x y i k [.int .i64 4, .int .i64 0, sY (ts ++ [tj]), oC (ls ++ [q0])] (.cells [.int .i64 0, .int .i64 0, .ah, .ah]) G' → ∃ (j' : Nat) (t : List aa × List Int × List PP), (j' ≤ (c.kd k).length ∧ PB c H x y i k [.int .i64 4, .int .i64 0, sY t.2.1, oC t.2.2] t.1 ∧ MI c (c.kd i) (c.kd k) us to j' t.2.1 t.2.2) ∧ (c.kd k).length - j' < (c.kd k).length - j ∧
     sle H.length [(3, .ai (.ptr c.d 0)), (6, .ptr H.length 0), (7, .ptr x 0), (8, .ptr y 0), (10, .ptr (H.length + 3) 0), (11, bn L), (89, .ap 0 (ints to)), (90, .int .i64 to.length), (91, .int .i64 (IntKind.i64.wrap (j + 1)))] G' [(3, .ai (.ptr c.d 0)), (6, .ptr H.length 0), (7, .ptr x 0), (8, .ptr y 0), (10, .ptr (H.length + 3) 0), (11, bn L), (89, .ap 0 (ints to)), (90, .int .i64 to.length), (91, .int .i64 j')] t.1 := by
     intro G' ej
     obtain ⟨z1, z2⟩ := ej.drop hD w
     have zl := z1.len
     have XQ := v3
     refine ⟨j + 1, (G'.take (H.length + 4), ts ++ [tj], ls ++ [q0]), ⟨pD, z1, S3⟩, by omega, BA (by rw [au j (by omega)]) (by rw [zl]; omega) ?_ _ z2⟩
     obtain ⟨w1, w2, w3, w4⟩ := w
     rw [zl]
     simp only [pf, List.all_cons, List.all_nil, zF, rE, iU, cZ, v3, bk, Bool.and_true, Bool.and_eq_true, decide_eq_true_eq]
     omega
    simp +contextual only [decide_true, decide_false, Ky, cA, dA, Int.toNat_natCast, Yf, wF, hlen, zf5, u1, u2, gp5, go5, gqs, gps, d2, d3, s2, s3, List.set_set, jn, Tv, apl, lpz, CM, qN, x3, x4, y3, y4, sZ, Nat.reduceEqDiff, Nat.reduceAdd, Nat.reduceLT, ↓reduceIte]
    refine ⟨by omega, ?_⟩
    repeat' apply And.intro
    all_goals exact qc _ (mC _)
  ·have WM : j = (c.kd k).length := by omega
   subst WM
   have hs : Sh c.O (.mk 4 0 ts ls) (c.tm i) (c.tm k) := by
    rw [Sh4 rfl ki2]
    rw [osi] at Am
    refine ⟨rfl, kk2, KF.2.2, Am, ?_⟩
    show PJ (E c.O) (Sh c.O) ts ls (c.tm i).l (c.tm k).l
    rw [← ki.1, ← kk.1, ← CF]
    exact H5.cov Aa hlne2
   have gp6 := kB.gp
   have g66 := kB.g6
   have lp := PN 4 0 ts ls
   obtain ⟨q1, q2, q3, q4, q5, q6, q7, q8, q9⟩ := aX (.mk 4 0 ts ls)
   have lp2 := CN (.mk 4 0 ts ls)
   have KD := List.getElem?_set_self (a := aa.cells (dV (.mk 4 0 ts ls)).cells) (aN g66)
   have Ol : aj (H.length + 1) (dV (.mk 4 0 ts ls)).cells = true := cq (fK _ _)
   have kO := PB.fin hD kB hs
   simp +contextual only [decide_false, Ky, gp6, g66, lp, q1, q2, q3, q9, PR, KD, lp2, Ol, sZ, Nat.reduceEqDiff, Nat.reduceAdd, ↓reduceIte, reduceCtorEq]
   first | exact kO | exact ⟨by omega, kO⟩
end Go.aK
end
section
set_option maxRecDepth 100000
namespace Go.aK
open Go Go.Proofs Go.fJ
theorem KG {P : Nat → Prop} : ∀ {n : Nat}, P n → ∃ m, m ≤ n ∧ P m ∧ ∀ j, j < m → ¬ P j := by
 intro n
 induction n using Nat.strongRecOn with
 | _ n ih =>
   intro h
   by_cases hx : ∃ j, j < n ∧ P j
   ·obtain ⟨j, hj, hp⟩ := hx
    obtain ⟨m, h1, h2, h3⟩ := ih j hj hp
    exact ⟨m, by omega, h2, h3⟩
   ·exact ⟨n, Nat.le_refl _, h, fun j hj hp => hx ⟨j, hj, hp⟩⟩
theorem c86 {c : Cx} (hc : c.Ok) : ∀ (N : Nat) (i k : Int), c.dJ i → c.dJ k → wt (c.tm i) + wt (c.tm k) ≤ N → R c.O (c.tm i) (c.tm k) → oD c i k := by
 intro N
 induction N with
 | zero => intro i k _ _ h; have := fw (c.tm i); omega
 | succ N ih =>
 intro i k hi hk hN hR
 have hx : ∀ {j : Int}, c.dJ j → ∀ x ∈ c.kd j, c.dJ x ∧ wt (c.tm x) < wt (c.tm j) := fun {j} hj x hx => by
  have h1 := hc.kids j hj
  exact ⟨h1.2 x hx, bJ (by rw [← h1.1]; exact List.mem_map.2 ⟨x, hx, rfl⟩)⟩
 have p1 : ∀ x ∈ c.kd i, R c.O (c.tm x) (c.tm k) → oD c x k := fun x h r => ih x k (hx hi x h).1 hk (by have := (hx hi x h).2; omega) r
 have p2 : ∀ y ∈ c.kd k, R c.O (c.tm i) (c.tm y) → oD c i y := fun y h r => ih i y hi (hx hk y h).1 (by have := (hx hk y h).2; omega) r
 have p3 : ∀ x ∈ c.kd i, ∀ y ∈ c.kd k, R c.O (c.tm x) (c.tm y) → oD c x y := fun x h y h' r => ih x y (hx hi x h).1 (hx hk y h').1 (by have := (hx hi x h).2; have := (hx hk y h').2; omega) r
 obtain ⟨_, n, hn, hr⟩ := (rX hc hi hk).2 hR
 obtain ⟨m, hm, hr, jR⟩ := KG (P := fun n => gI c i k n) hr
 have : m = 1 ∨ m = 2 ∨ m = 3 ∨ m = 4 := by
  rcases hr with h | h | h | h
  ·exact .inl h.1
  ·exact .inr (.inl h.1)
  ·exact .inr (.inr (.inl h.1))
  ·exact .inr (.inr (.inr h.1))
 rcases this with rfl | rfl | rfl | rfl
 ·exact WX hc hi hk hR hr jR p1
 ·exact W1 hc hi hk hR hr jR p2
 ·exact W2 hc hi hk hR hr jR p2 p3
 ·exact W3 hc hi hk hR hr jR p3
theorem W6 {c : Cx} (hc : c.Ok) {i k : Int} (hi : c.dJ i) (hk : c.dJ k) (hR : R c.O (c.tm i) (c.tm k)) : oD c i k := c86 hc _ i k hi hk (Nat.le_refl _) hR
def On : PP := .mk 0 0 [] []
def S4 (s : Sg) (ps ss : List Int) (a b : T) (r : AV) : Prop :=
 (fU s ps ss [a, b] ≠ 0 ∧ r = .tuple [dV On, .bool false, .int .i64 (fU s ps ss [a, b])]) ∨
 (fU s ps ss [a, b] = 0 ∧ ¬ R (kE ps ss) a b ∧ r = .tuple [dV On, .bool false, .int .i64 0]) ∨
 (fU s ps ss [a, b] = 0 ∧ ∃ p, Sh (kE ps ss) p a b ∧ r = .tuple [dV p, .bool true, .int .i64 0])
theorem Up.kh {c : Cx} {G0 G : List aa} (h : Up c G0 G) {n : Nat} (he : n ≤ c.e) (hg : n ≤ c.g) : G.take n = G0.take n := by
 apply List.ext_getElem?
 intro j
 rw [List.getElem?_take, List.getElem?_take]
 split
 ·rename_i hj; exact h.get j (by omega) (by omega)
 ·rfl
theorem lg (n0 s s' s'' : Nat) (sz : Option Nat) (env : Env) (H : List aa) (R : AV → List aa → Prop) : bV n0 [.c s sz, .t s', .t s''] env H R = aS sz (get env s) H fun x => sS n0 [x, get env s', get env s''] H R := _root_.id rfl
theorem FT {Hs G : List aa} {n0 : Nat} {u v w : AV} {R : AV → List aa → Prop} (hH : Hs.take n0 = G) (hb : aj n0 [u, v, w] = true) (hu : [u, v, w].map AV.ab = [u, v, w]) (hR : R (.tuple [u, v, w]) G) : sS n0 [u, v, w] Hs R := by
 subst hH
 exact ⟨n0, Nat.le_refl _, _, by rw [hu]; exact b9 _, hb, hR⟩
theorem tW {H G : List aa} {o : aa} (h : G.take H.length = H) : (G.set H.length o).take H.length = H := by
 rw [List.take_set_of_le (Nat.le_refl _), h]
theorem c27 (s : Sg) (ps ss : List Int) (a b : T) (H : List aa) : aq Tryz.prog 27 [s.av, ff ps ss, a.av, b.av] H fun r H' => S4 s ps ss a b r ∧ H' = H := by
 refine k27.2.calls rfl ?_
 simp only [k27, aI]
 obtain ⟨q1, q2, q3, q4, q5, q6⟩ := bi ps ss
 have zf4 : ∀ n, aj n (List.map AV.ab [AV.int .i64 0, .int .i64 0, .ah, .ah]) = true := fun _ => rfl
 have zf5 : List.map AV.ab [AV.int .i64 0, .int .i64 0, .ah, .ah] = [AV.int .i64 0, .int .i64 0, .ah, .ah] := rfl
 simp +contextual only [aB, q1, q4, cz, zf5, sZ, Nat.reduceEqDiff, Nat.reduceAdd, ↓reduceIte, reduceCtorEq]
 have g0 : (H ++ [aa.cells [AV.int .i64 0, .int .i64 0, .ah, .ah]])[H.length]? = some (.cells [.int .i64 0, .int .i64 0, .ah, .ah]) := by simp
 have th : (H ++ [aa.cells [AV.int .i64 0, .int .i64 0, .ah, .ah]]).length = H.length + 1 := by simp
 have Sv : (H ++ [aa.cells [AV.int .i64 0, .int .i64 0, .ah, .ah]]).take H.length = H := by simp
 refine ae (WG s ps ss [a, b]) ?_
 generalize H ++ [aa.cells [AV.int .i64 0, .int .i64 0, .ah, .ah]] = H1 at g0 th Sv ⊢
 have ldz : ∀ φ, dd (some (.cells [.int .i64 0, .int .i64 0, .ah, .ah])) (some 4) 0 φ = φ (dV On) := PN 0 0 [] []
 have zb : ∀ p b n, aj H.length [dV p, .bool b, .int .i64 n] = true := fun p b n => by simp [bM, c8, fK, zE, iU]
 have zu : ∀ p b n, [dV p, AV.bool b, .int .i64 n].map AV.ab = [dV p, .bool b, .int .i64 n] := fun p b n => by simp [(aX p).2.2.2.1, n7, nr]
 by_cases h0 : fU s ps ss [a, b] = 0
 ·have hr := qJ h0
  have hw := mf hr.tree
  have hc := hr.cx (by simp) (by simp) H1.length
  have hd := yk ps ss (ts := [a, b]) (by simp) H1
  simp +contextual only [q4, cz, h0, sZ, Nat.reduceEqDiff, Nat.reduceAdd, ↓reduceIte]
  refine af (Wh ps ss [a, b] _ (by simp at hw; omega)) ?_
  rintro r G ⟨rfl, rfl⟩
  have a0 := sW (ps := ps) (ss := ss) (ts := [a, b]) (n := H1.length) (j := 0) (by simp)
  have a1 := sW (ps := ps) (ss := ss) (ts := [a, b]) (n := H1.length) (j := 1) (by simp)
  have hl := cv [a, b] 0
  rw [N9]
  generalize aT [a, b] 0 = ks at a0 a1 hl ⊢
  have nP : ks.length = 2 := hl
  simp +contextual only [cA, nP, dA, sZ, Nat.reduceEqDiff, Nat.reduceAdd, Nat.reduceLT, ↓reduceIte, reduceCtorEq]
  refine ⟨by decide, by decide, af (jO hc a0.1 a1.1 _ hd) ?_⟩
  rintro r G ⟨x, rfl, hx, hU, hD⟩
  rw [a0.2, a1.2] at hx
  have wo : x = true ↔ R (kE ps ss) a b := hx
  have he : (gg ps ss [a, b] H1.length).e = H.length + 1 := th
  have hg : (gg ps ss [a, b] H1.length).g = H.length + 2 := by show H1.length + 1 = _; omega
  have low : ∀ G', Up (gg ps ss [a, b] H1.length) G G' → G'[H.length]? = some (.cells [.int .i64 0, .int .i64 0, .ah, .ah]) ∧ G'.take H.length = H := by
   intro G' hU'
   have PF := hU.trans hU'
   refine ⟨by rw [PF.get _ (by omega) (by omega), List.getElem?_append_left (by omega)]; exact g0, ?_⟩
   rw [PF.kh (n := H.length) (by omega) (by omega), List.take_append_of_le_length (by omega), Sv]
  have gz := low G (Up.refl _ _)
  have gz1 := gz.1
  have gzs := fun o => List.getElem?_set_self (a := o) (aN gz1)
  have nilc : (dV On).cells = [AV.int .i64 0, .int .i64 0, .ap 0 [], .ap 0 []] := rfl
  cases x with
  | false =>
    simp +contextual only [Bool.not_false, gz1, gzs, zf5, HU, lg, ldz, sZ, Nat.reduceEqDiff, Nat.reduceAdd, ↓reduceIte, reduceCtorEq]
    refine FT (tW gz.2) (zb _ _ _) (zu _ _ _) ⟨.inr (.inl ⟨h0, fun h => absurd (wo.2 h) (by simp), rfl⟩), rfl⟩
  | true =>
    simp +contextual only [Bool.not_true, cA, nP, dA, sZ, Nat.reduceEqDiff, Nat.reduceAdd, ↓reduceIte, reduceCtorEq]
    refine ⟨by decide, by decide, af (W6 hc a0.1 a1.1 (by rw [a0.2, a1.2]; exact wo.1 rfl) _ hD) ?_⟩
    rintro r G2 ⟨p, rfl, hp, PF, AB⟩
    rw [a0.2, a1.2] at hp
    obtain ⟨gy1, gy2⟩ := low G2 PF
    have gys := fun o => List.getElem?_set_self (a := o) (aN gy1)
    obtain ⟨u1, u2, u3, u4, u5, u6, u7, u8, u9⟩ := aX p
    have lpq := CN p
    have Ol : aj (H.length + 1) (dV p).cells = true := cq (fK _ _)
    simp +contextual only [gy1, gys, u1, u2, u3, u9, PR, lpq, Ol, lg, sZ, Nat.reduceEqDiff, Nat.reduceAdd, ↓reduceIte, reduceCtorEq]
    first | exact FT (tW gy2) (zb _ _ _) (zu _ _ _) ⟨.inr (.inr ⟨h0, p, hp, rfl⟩), rfl⟩ | exact ⟨by omega, FT (tW gy2) (zb _ _ _) (zu _ _ _) ⟨.inr (.inr ⟨h0, p, hp, rfl⟩), rfl⟩⟩
 ·have gs : ∀ o, (H1.set H.length o)[H.length]? = some o := fun o => List.getElem?_set_self (by omega)
  simp +contextual only [h0, g0, gs, zf5, HU, lg, ldz, sZ, Nat.reduceEqDiff, Nat.reduceAdd, ↓reduceIte, reduceCtorEq]
  refine FT (tW Sv) (zb _ _ _) (zu _ _ _) ⟨.inl ⟨h0, rfl⟩, rfl⟩
end Go.aK
end
section
set_option maxRecDepth 100000
namespace Go.aK
open Go Go.Proofs Go.fJ
def tw (l : List mL) : List AV := l.map mL.av
theorem CO (l : List mL) : (tw l).length = l.length := by simp [tw]
theorem KH (n : Nat) (l : List mL) : aj n (tw l) = true := by
 rw [a9]; intro x hx; obtain ⟨y, _, rfl⟩ := List.mem_map.1 hx
 exact y.facts.2.2.2.2.2 n
theorem FU (o : Nat) (l : List mL) : (∀ (own : Nat) (xs : List AV), AV.ap o (tw l) = AV.ap own xs → ∀ z ∈ xs, z.cells.length = 8) = True := by
 simp only [eq_iff_iff, iff_true]
 intro own xs e z hz
 cases e
 obtain ⟨y, _, rfl⟩ := List.mem_map.1 hz; rfl
theorem idx_eq (e o : Nat) (l : List mL) (k : IntKind) (i : Nat) (φ : AV → Prop) : ay e (.ap o (tw l)) (.int k (i : Int)) φ = (i < l.length ∧ φ (.ai (l.getD i default).av)) := by
 simp only [ay, CO, Int.toNat_natCast, eq_iff_iff]
 constructor
 ·rintro ⟨_, h, h2⟩; refine ⟨h, ?_⟩; simpa [tw, h] using h2
 ·rintro ⟨h, h2⟩; refine ⟨by omega, h, ?_⟩; simpa [tw, h] using h2
theorem PT (e : mL) (H : List aa) (φ : AV → Prop) : aS (some 8) (.ai e.av) H φ = φ e.av := by simp [aS, mL.av, AV.cells]
structure KI (ps : List Int) (e : mL) : Prop where
 few : e.cs.length ≤ 1000
 tree : ∀ t ∈ e.a :: e.rest, t.tree = true
 ops : ∀ t ∈ e.a :: e.rest, yf (fun n => 0 ≤ n ∧ n < ps.length) t
open Classical in
noncomputable def xb (ps ss : List Int) (e : mL) : Bool := decide (Oe ps ss e)
theorem W7 (ps ss : List Int) (e : mL) (hv : Va ps ss) (he : KI ps e) : Pure Tryz.prog 163 [ff ps ss, e.av] (.bool (xb ps ss e)) := by
 intro H
 refine (Z5 ps ss e hv he.few he.tree he.ops H).mono ?_
 rintro r H' ⟨⟨b, rfl, hb⟩, rfl⟩
 refine ⟨?_, rfl⟩
 congr 1
 rw [Bool.eq_iff_iff, hb]
 simp [xb]
theorem aap (ps ss : List Int) (e : mL) (hv : Va ps ss) (he : KI ps e) : Pure Tryz.prog 162 [e.av, .ai (ff ps ss)] (.bool (!xb ps ss e)) := by
 refine fun H => UW.2.calls rfl ?_
 simp only [UW, aI]
 obtain ⟨q1, q2, q3, q4, q5, q6⟩ := bi ps ss
 obtain ⟨e1, e2, e3, e4, e5, e6⟩ := mL.facts e
 simp +contextual only [q4, e1, e4, cz, PT, sZ, Nat.reduceEqDiff, Nat.reduceAdd, ↓reduceIte, reduceCtorEq]
 refine ae (W7 ps ss e hv he) ?_
 simp +contextual only [sZ, ↓reduceIte, reduceCtorEq]
 exact aY rfl rfl
def px {α : Type} (p : α → Bool) : List α → Nat → Int
 | [], _ => -1
 | x :: r, i => if p x = true then (i : Int) else px p r (i + 1)
theorem yw {α : Type} [Inhabited α] {p : α → Bool} {l : List α} {i : Nat} (h : i < l.length) : px p (l.drop i) i = if p (l.getD i default) = true then (i : Int) else px p (l.drop (i + 1)) (i + 1) := by
 have e : l.getD i default = l[i] := by simp [h]
 rw [List.drop_eq_getElem_cons h, px, e]
theorem aaq (ps ss : List Int) (l : List mL) (hv : Va ps ss) (he : ∀ e ∈ l, KI ps e) : Pure Tryz.prog 161 [.ap 0 (tw l), .fn (.func 162) [] [.ai (ff ps ss)]] (.int .i64 (px (fun e => !xb ps ss e) l 0)) := by
 refine fun H => Ml.2.calls rfl ?_
 simp only [Ml, aI]
 simp +contextual only [CO, sZ, Nat.reduceEqDiff, Nat.reduceAdd, ↓reduceIte, reduceCtorEq]
 intro hl
 refine aE l.length (fun i => px (fun e => !xb ps ss e) (l.drop i) i = px (fun e => !xb ps ss e) l 0) (fun i => [(0, .ap 0 (tw l)), (1, .fn (.func 162) [] [.ai (ff ps ss)]), (7, .int .i64 l.length), (8, .int .i64 i)]) (fun _ => H) ⟨rfl, aA _ _ _⟩ fun i hi hI => ?_
 obtain ⟨e1, e2, e3, e4, e5, e6⟩ := mL.facts (l.getD i default)
 simp +contextual only [FU, idx_eq, PT, e4, sZ, Nat.reduceEqDiff, Nat.reduceAdd, ↓reduceIte, reduceCtorEq]
 refine ⟨fun aW => ?_, fun ji => ?_⟩
 ·have aW := bT aW
  have hm : l.getD i default ∈ l := by
   rw [List.getD_eq_getElem?_getD, List.getElem?_eq_getElem aW]; exact List.getElem_mem aW
  rw [yw aW] at hI
  refine ⟨aW, ae (aap ps ss _ hv (he _ hm)) ?_⟩
  cases hb : xb ps ss (l.getD i default) with
  | false =>
    rw [if_pos (by rw [hb]; rfl)] at hI
    simp +contextual only [Bool.not_false, sZ, Nat.reduceEqDiff, ↓reduceIte, reduceCtorEq]
    exact aY rfl (by rw [← hI])
  | true =>
    rw [if_neg (by rw [hb]; simp)] at hI
    simp +contextual only [Bool.not_true, sZ, Nat.reduceEqDiff, ↓reduceIte, reduceCtorEq]
    exact ⟨i + 1, ⟨aW, hI⟩, by omega, aF (by rw [au i (by omega)]) rfl⟩
 ·rw [List.drop_of_length_le (df ji)] at hI
  exact aY rfl (by rw [← hI]; rfl)
structure Ty where
 s : Sg
 es : List mL
deriving Inhabited
def Ty.av (t : Ty) : AV := .agg [.ap 0 (strs t.s.aZ), .ap 0 (oB t.s.ops), .ap 0 (tw t.es)]
theorem Ty.facts (t : Ty) : t.av.val = true ∧ t.av.cells.length = 3 ∧ t.av.cells.all AV.one = true ∧ t.av.ab = t.av ∧ t.av.drop = t.av ∧ ∀ n, t.av.a7 n = true :=
 ⟨rfl, rfl, rfl, rfl, rfl, fun n => by simp [Ty.av, AV.a7, aj, vH, vG, KH]⟩
theorem KJ (t : Ty) (φ : AV → Prop) : ak 0 (some 2) (.ai t.av) φ = φ (.ai t.s.av) := by simp [ak, apart, Ty.av, Sg.av, AV.cells]
theorem fY2 (t : Ty) (φ : AV → Prop) : ak 2 none (.ai t.av) φ = φ (.ai (.ap 0 (tw t.es))) := by simp [ak, apart, Ty.av, AV.cells, AV.one]
theorem fS1 (s : Sg) (φ : AV → Prop) : ak 1 none (.ai s.av) φ = φ (.ai (.ap 0 (oB s.ops))) := by simp [ak, apart, Sg.av, AV.cells, AV.one]
theorem mA (t : Ty) (H : List aa) (φ : AV → Prop) : aS (some 3) (.ai t.av) H φ = φ t.av := by simp [aS, Ty.av, AV.cells]
noncomputable def qO (t : Ty) (ps ss : List Int) : Int := px (fun e => !xb ps ss e) t.es 0
theorem c89 (t : Ty) (ps ss : List Int) (hv : Va ps ss) (he : ∀ e ∈ t.es, KI ps e) : Pure Tryz.prog 89 [t.av, ff ps ss] (.int .i64 (qO t ps ss)) := by
 refine fun H => k89.2.calls rfl ?_
 simp only [k89, aI]
 obtain ⟨q1, q2, q3, q4, q5, q6⟩ := bi ps ss
 obtain ⟨e1, e2, e3, e4, e5, e6⟩ := Ty.facts t
 simp +contextual only [q1, e1, fY2, sZ, Nat.reduceEqDiff, Nat.reduceAdd, ↓reduceIte, reduceCtorEq]
 refine ae (aaq ps ss t.es hv he) ?_
 simp +contextual only [sZ, ↓reduceIte, reduceCtorEq]
 exact aY rfl rfl
end Go.aK
end
section
set_option maxRecDepth 100000
set_option maxHeartbeats 0
namespace Go.aK
open Go Go.Proofs
noncomputable def PU := aI Tryz.call112 Tryz.func112 Tryz.ntmps112 [(0,0,1),(8,0,3001)] [(0,[1,2,3,4,8]),(1,[1,2,3,8,9]),(2,[1,2,3,8,10]),(3,[2,3,8,10,24,25,26]),(4,[2,3,8,10,24,25,26,27]),(5,[2,3,8,10,11,12,24,25,26]),(6,[2,3,8,10,24,25,26]),(7,[2,3,8,10,24,25,26]),(8,[8])] [(6,(.take 0 true (.take 1 true (.take 2 true (.take 6 true (.take 7 true (.take 8 true (.take 9 true (.take 10 true (.take 11 true (.take 12 true (.take 13 true (.take 14 true (.take 3 false (.take 5 false (.br 4 (.br 15 (.take 16 true (.br 17 .done .nil)) .nil) (.br 15 (.take 4 true (.take 16 true (.br 17 .done .nil))) .nil)))))))))))))))))]
end Go.aK
end
section
set_option maxRecDepth 100000
namespace Go.aK
open Go Go.Proofs Go.fJ
def iY : List Int → List Int → List Int → List Int
 | l, i :: r, x :: s => iY (l.set i.toNat x) r s
 | l, _, _ => l
def py (n : Nat) (ops pl : List Int) : List Int := iY (List.replicate n 255) ops pl
def sf (n : Nat) (ops st : List Int) : List Int := iY (List.replicate n 1) ops st
theorem vR : ∀ (l r s : List Int), (iY l r s).length = l.length
 | l, [], _ => by cases l <;> rfl
 | l, _ :: _, [] => rfl
 | l, i :: r, x :: s => by rw [iY, vR]; simp
theorem aar (t : Ty) (ops pl st : List Int) {vo vp vs : AV} (ho : IL vo ops) (hp : IL vp pl) (hs : IL vs st) (th : pl.length = ops.length) (nP : st.length = ops.length) (hr : ∀ i ∈ ops, 0 ≤ i ∧ i < t.s.ops.length) (hn : t.s.ops.length ≤ 1000000000) (jR : ops.length ≤ 1000000000) : Pure Tryz.prog 112 [t.av, vo, vp, vs] (ff (py t.s.ops.length ops pl) (sf t.s.ops.length ops st)) := by
 refine fun H => PU.2.calls rfl ?_
 simp only [PU, aI]
 obtain ⟨e1, e2, e3, e4, e5, e6⟩ := Ty.facts t
 obtain ⟨a1, a2, a3, a4⟩ := ho.one
 obtain ⟨b1, b2, b3, b4⟩ := hp.one
 obtain ⟨c1, c2, c3, c4⟩ := hs.one
 simp +contextual only [e1, KJ, fS1, vF, sZ, Nat.reduceEqDiff, Nat.reduceAdd, ↓reduceIte, reduceCtorEq]
 intro _
 refine af (SF 0 255 t.s.ops.length hn _) ?_
 rintro r G ⟨rfl, rfl⟩
 simp +contextual only [sZ, Nat.reduceEqDiff, Nat.reduceAdd, ↓reduceIte]
 refine af (SF 0 1 t.s.ops.length hn _) ?_
 rintro r G ⟨rfl, rfl⟩
 simp +contextual only [sZ, Nat.reduceEqDiff, Nat.reduceAdd, ↓reduceIte]
 obtain ⟨n, hn'⟩ : ∃ n, n = t.s.ops.length := ⟨_, rfl⟩
 rw [← hn'] at hn hr ⊢
 have va : ∀ a b c d, (AV.bf a b c d).val = true := fun _ _ _ _ => rfl
 have vc : ∀ a b c d, (AV.bf a b c d).cells = [.bf a b c d] := fun _ _ _ _ => rfl
 have vo' : ∀ a b c d, (AV.bf a b c d).one = true := fun _ _ _ _ => rfl
 have vd : ∀ a b c d, (AV.bf a b c d).drop = .bf a b c d := fun _ _ _ _ => rfl
 have bdA : ∀ (a1 b1 c1 d1 a2 b2 c2 d2 : Nat) (φ : AV → Prop), cE [AV.ah, AV.ah] [(0, 1, .bf a1 b1 c1 d1), (1, 1, .bf a2 b2 c2 d2)] φ = φ (.agg [.bf a1 b1 c1 d1, .bf a2 b2 c2 d2]) := by
  intro a1 b1 c1 d1 a2 b2 c2 d2 φ
  simp only [cE, gO, eq_iff_iff]
  constructor
  ·rintro ⟨_, _, _, _, _, _, h⟩; exact h
  ·exact fun h => ⟨rfl, rfl, by simp, rfl, rfl, by simp [ag, AV.cells], h⟩
 have g3 : ∀ (a b c d : aa), [a, b, c, d][3]? = some d := fun _ _ _ _ => rfl
 have sp2 : ∀ (a b x y : AV), ag [a, b] 0 [x, y] = [x, y] := fun _ _ _ _ => rfl
 have lt1 : ∀ m : Nat, decide (m + 1 < m + 3 + 1) = true := fun m => by simp
 have lt2 : ∀ m : Nat, decide (m + 2 < m + 3 + 1) = true := fun m => by simp
 let S : List Int → List Int → List aa := fun P Q => H ++ [.cells [.ah, .ah], cQ P, cQ Q, .cells [.bf (H.length + 1) 0 n n, .bf (H.length + 2) 0 n n]]
 simp +contextual only [bdA, vo', g3, sp2, s3, lt1, lt2, Bool.and_self, a2, ho.aL, ho.len (by omega), sZ, Nat.reduceEqDiff, Nat.reduceAdd, ↓reduceIte]
 refine aM ops.length (fun j (s : List Int × List Int) => s.1.length = n ∧ s.2.length = n ∧ iY s.1 (ops.drop j) (pl.drop j) = py n ops pl ∧ iY s.2 (ops.drop j) (st.drop j) = sf n ops st)
  (fun j s => [(2, vp), (3, vs), (8, .ptr H.length 0), (10, .ptr (H.length + 3) 0), (24, vo), (25, .int .i64 ops.length), (26, .int .i64 j)]) (fun j s => S s.1 s.2) (List.replicate n 255, List.replicate n 1) ⟨⟨by simp, by simp, rfl, rfl⟩, aA _ _ _⟩ fun j s hj hI => ?_
 obtain ⟨P, Q⟩ := s
 obtain ⟨hP, hQ, S5, W8⟩ := hI
 simp only at hP hQ S5 W8
 by_cases hjo : (j : Int) < ops.length
 ·have pD : j < ops.length := by omega
  have hri := hr _ (aO pD)
  obtain ⟨x, hx⟩ := Int.eq_ofNat_of_zero_le hri.1
  have hxn : x < n := by omega
  have hxP : x < P.length := by omega
  have hxQ : x < Q.length := by omega
  simp +contextual only [S, hjo, decide_true, b2, c2, ho.lens, ho.idx, hp.lens, hp.idx, hs.lens, hs.idx, Int.toNat_natCast, hx, kC, g3, Kk hxP, Kk hxQ, sZ, Nat.reduceEqDiff, Nat.reduceAdd, Nat.reduceLT, ↓reduceIte, reduceCtorEq]
  have stp : ∀ (P q : List Int), q.length = ops.length → iY P (ops.drop j) (q.drop j) = iY (P.set x (q.getD j 0)) (ops.drop (j + 1)) (q.drop (j + 1)) := by
   intro P q hq
   have e1 : ops.drop j = ops.getD j 0 :: ops.drop (j + 1) := by rw [List.drop_eq_getElem_cons pD]; simp [pD]
   have hjq : j < q.length := by omega
   have e2 : q.drop j = q.getD j 0 :: q.drop (j + 1) := by rw [List.drop_eq_getElem_cons hjq]; simp [hjq]
   rw [e1, e2, iY, hx, Int.toNat_natCast]
  rw [stp P pl th] at S5
  rw [stp Q st nP] at W8
  have hgo : ∃ (j' : Nat) (t : List Int × List Int), (j' ≤ ops.length ∧ t.1.length = n ∧ t.2.length = n ∧ iY t.1 (ops.drop j') (pl.drop j') = py n ops pl ∧ iY t.2 (ops.drop j') (st.drop j') = sf n ops st) ∧ ops.length - j' < ops.length - j ∧
   sle H.length [(2, vp), (3, vs), (8, .ptr H.length 0), (10, .ptr (H.length + 3) 0), (24, vo), (25, .int .i64 ops.length), (26, .int .i64 (IntKind.i64.wrap (j + 1)))]
    (H ++ [.cells [.ah, .ah], cQ (P.set x (pl.getD j 0)), cQ (Q.set x (st.getD j 0)), .cells [.bf (H.length + 1) 0 n n, .bf (H.length + 2) 0 n n]])
    [(2, vp), (3, vs), (8, .ptr H.length 0), (10, .ptr (H.length + 3) 0), (24, vo), (25, .int .i64 ops.length), (26, .int .i64 j')]
    (H ++ [.cells [.ah, .ah], cQ t.1, cQ t.2, .cells [.bf (H.length + 1) 0 n n, .bf (H.length + 2) 0 n n]]) :=
   ⟨j + 1, (P.set x (pl.getD j 0), Q.set x (st.getD j 0)), ⟨pD, by simp [hP], by simp [hQ], S5, W8⟩, by omega, aF (by rw [au j (by omega)]) rfl⟩
  repeat' apply And.intro
  all_goals first | omega | exact hgo
 ·have WM : j = ops.length := by omega
  subst WM
  rw [List.drop_length] at S5 W8
  have eP : P = py n ops pl := by rw [← S5]; cases P <;> rfl
  have eQ : Q = sf n ops st := by rw [← W8]; cases Q <;> rfl
  simp +contextual only [JU, S, hjo, decide_false, g3, vd, sZ, Nat.reduceEqDiff, ↓reduceIte]
  have f1 : (H ++ [aa.cells [AV.ah, .ah], cQ P, cQ Q, .cells [.bf (H.length + 1) 0 n n, .bf (H.length + 2) 0 n n]])[H.length + 1]? = some (cQ P) := by simp
  have f2 : ((H ++ [aa.cells [AV.ah, .ah], cQ P, cQ Q, .cells [.bf (H.length + 1) 0 n n, .bf (H.length + 2) 0 n n]]).set (H.length + 1) .dead)[H.length + 2]? = some (cQ Q) := by rw [List.getElem?_set_ne (by omega)]; simp
  have fz1 : ∀ {id n : Nat} {l : List Int} {H : List aa} (h : H[id]? = some (cQ l)) (hn : l.length = n) {K : AV → List aa → Prop} (hK : K (.ap 0 (ints l)) (H.set id .dead)), dF 1 (.bf id 0 n n) H K := fun h hn K hK => by subst hn; exact Cs h hK
  refine fz1 f1 hP ?_
  refine fz1 f2 hQ ?_
  have es : ((H ++ [aa.cells [AV.ah, .ah], cQ P, cQ Q, .cells [.bf (H.length + 1) 0 n n, .bf (H.length + 2) 0 n n]]).set (H.length + 1) .dead).set (H.length + 2) .dead = H ++ [aa.cells [AV.ah, .ah], .dead, .dead, .cells [.bf (H.length + 1) 0 n n, .bf (H.length + 2) 0 n n]] := by simp []
  rw [es]
  have fb : ∀ m, aj m [AV.ap 0 (ints P), .ap 0 (ints Q)] = true := fun m => by simp [bM, c8, cZ, bk]
  simp +contextual only [fb, sp2, Bool.and_self, sZ, Nat.reduceEqDiff, Nat.reduceAdd, ↓reduceIte, reduceCtorEq]
  rw [eP, eQ]
  exact Fz ((bi _ _).2.2.2.2.2 _) rfl
end Go.aK
end
section
set_option maxRecDepth 100000
namespace Go.aK
open Go Go.Proofs Go.fJ
def ic (vals : List Int) : Nat → List (List Int)
 | 0 => [[]]
 | n + 1 => vals.flatMap fun x => (ic vals n).map (x :: ·)
def eK {σ : Type} (step : σ → List Int → σ × Bool) : List (List Int) → σ → σ × Bool
 | [], s => (s, true)
 | l :: r, s => if (step s l).2 = true then eK step r (step s l).1 else ((step s l).1, false)
theorem vS {σ : Type} {step : σ → List Int → σ × Bool} : ∀ (a b : List (List Int)) (s : σ), eK step (a ++ b) s = if (eK step a s).2 = true then eK step b (eK step a s).1 else ((eK step a s).1, false)
 | [], b, s => by simp [eK]
 | x :: a, b, s => by
   rw [List.cons_append, eK, eK]
   split
   ·exact vS a b _
   ·simp
def di (lo : Int) (n : Nat) : List Int := (List.range n).map fun i => lo + (i : Nat)
theorem EJ (lo : Int) (n : Nat) : di lo (n + 1) = di lo n ++ [lo + (n : Nat)] := by simp [di, List.range_succ]
theorem yx {lo x : Int} {n : Nat} : x ∈ di lo n ↔ lo ≤ x ∧ x < lo + n := by
 simp only [di, List.mem_map, List.mem_range]
 constructor
 ·rintro ⟨j, h, rfl⟩; omega
 ·intro h; exact ⟨(x - lo).toNat, by omega, by omega⟩
def FV (n : Nat) (id : Nat) (lo hi : Int) (q : Nat) : AV := .fn (.func 206) [] [.ai (.int .i64 n), .ai (.mM id), .ai (.int .i64 lo), .ai (.int .i64 hi), .ptr q 0]
structure YS {σ : Type} (n : Nat) (vals : List Int) (id : Nat) (St : σ → List aa) (Good : σ → Prop) (step : σ → List Int → σ × Bool) : Prop where
 y : ∀ l s X, l.length = n → (∀ x ∈ l, x ∈ vals) → Good s → jz Tryz.prog id [bn l] (St s ++ X) fun r H' => r = .bool (step s l).2 ∧ H' = St (step s l).1 ++ X
 SO : ∀ l s, Good s → (step s l).2 = true → Good (step s l).1
 len : ∀ s s', (St s).length = (St s').length
theorem yy {σ : Type} {n : Nat} {vals : List Int} {id : Nat} {St : σ → List aa} {Good : σ → Prop} {step : σ → List Int → σ × Bool} (h : YS n vals id St Good step) : ∀ (a : List (List Int)) (s : σ), Good s → (eK step a s).2 = true → Good (eK step a s).1
 | [], s, hs, _ => hs
 | l :: r, s, hs, hr => by
   rw [eK] at hr ⊢
   split at hr
   ·rename_i h1
    rw [if_pos h1]
    exact yy h r _ (h.SO l s hs h1) hr
   ·simp at hr
theorem Oo (l : List Int) (h : l ≠ []) : bn l = .ap 0 (ints l) := by cases l with
 | nil => exact absurd rfl h
 | cons a r => rfl
theorem W9 (l : List Int) (hb : l.length * 8 ≤ 140737488355328) : Pure Tryz.prog 118 [bn l] (.ap 1 (ints l)) := by
 intro H
 cases l with
 | nil => exact xI H
 | cons a r => exact uX 0 (ints (a :: r)) H (of_eq_true (lV _)) (by rw [aw]; exact hb) (bk _ _)
theorem aas {σ : Type} {n : Nat} {lo hi : Int} (uh : -1000000 ≤ lo ∧ lo ≤ 1000000) (Iz : -1000000 ≤ hi ∧ hi ≤ 1000000) (hn : n ≤ 1000000) {id : Nat} {St : σ → List aa} {Good : σ → Prop} {step : σ → List Int → σ × Bool} (hy : YS n (di lo (hi + 1 - lo).toNat) id St Good step) (q : Nat) :
 ∀ (r : Nat) (l : List Int) (s : σ) (X : List aa), l.length + r = n → (∀ x ∈ l, x ∈ di lo (hi + 1 - lo).toNat) → Good s → (∀ s', (St s' ++ X)[q]? = some (.cells [FV n id lo hi q])) →
  aq Tryz.prog 206 [bn l, .ai (.int .i64 n), .ai (.mM id), .ai (.int .i64 lo), .ai (.int .i64 hi), .ptr q 0] (St s ++ X) fun rr H' => rr = .bool (eK step ((ic (di lo (hi + 1 - lo).toNat) r).map (l ++ ·)) s).2 ∧ H' = St (eK step ((ic (di lo (hi + 1 - lo).toNat) r).map (l ++ ·)) s).1 ++ X := by
 intro r
 induction r with
 | zero =>
   intro l s X hl hm hs hq
   refine My.2.calls rfl ?_
   simp only [My, aI]
   have ik : IL (bn l) l := .inl rfl
   obtain ⟨a1, a2, a3, a4, a5⟩ := aD l
   have e1 : ((l.length : Int) = (n : Int)) = True := eq_true (by omega)
   have lyld : ∀ (H : List aa) (φ : AV → Prop), aS none (.ai (.mM id)) H φ = φ (.mM id) := fun H φ => by simp [aS, AV.one, AV.ab]
   have e2 : eK step ((ic (di lo (hi + 1 - lo).toNat) 0).map (l ++ ·)) s = step s l := by
    simp only [ic, List.map_cons, List.map_nil, List.append_nil, eK]
    cases hb : (step s l).2 with
    | true => rw [if_pos rfl, ← hb]
    | false => rw [if_neg (by simp), ← hb]
   rw [e2]
   simp +contextual only [a2, ik.aL, ik.len (by omega), e1, decide_true, lyld, FR, sZ, Nat.reduceEqDiff, Nat.reduceAdd, ↓reduceIte, reduceCtorEq]
   refine yr (hy.y l s X (by omega) hm hs) ?_
   rintro rr H' ⟨rfl, rfl⟩
   simp +contextual only [sZ, ↓reduceIte, reduceCtorEq]
   refine aV (St s ++ X).length (Nat.le_refl _) (by rw [ax, if_pos rfl]; rfl) ?_
   rw [ax, if_pos rfl]
   exact ⟨rfl, by rw [List.take_of_length_le (by rw [List.length_append, List.length_append, hy.len _ s]; exact Nat.le_refl _)]⟩
 | succ r ih =>
   intro l s X hl hm hs hq
   refine My.2.calls rfl ?_
   simp only [My, aI]
   have ik : IL (bn l) l := .inl rfl
   obtain ⟨a1, a2, a3, a4, a5⟩ := aD l
   have e1 : ((l.length : Int) = (n : Int)) = False := eq_false (by omega)
   have qc : ∀ (b : Bool) (s' : σ), bV (St s ++ X).length [.t 7] [(7, .bool b)] (St s' ++ X) fun rr H' => rr = .bool b ∧ H' = St s' ++ X := by
    intro b s'
    refine aV (St s ++ X).length (Nat.le_refl _) (by rw [ax, if_pos rfl]; rfl) ?_
    rw [ax, if_pos rfl]
    exact ⟨rfl, by rw [List.take_of_length_le (by rw [List.length_append, List.length_append, hy.len _ s]; exact Nat.le_refl _)]⟩
   obtain ⟨m, Tr⟩ : ∃ m, m = (hi + 1 - lo).toNat := ⟨_, rfl⟩
   rw [← Tr] at ih hm ⊢
   obtain ⟨F, hF⟩ : ∃ F : Nat → List (List Int), F = fun k => (di lo k).flatMap fun x => (ic (di lo m) r).map fun y => l ++ x :: y := ⟨_, rfl⟩
   have hF0 : F 0 = [] := by rw [hF]; rfl
   have hFs : ∀ k, F (k + 1) = F k ++ (ic (di lo m) r).map ((l ++ [lo + (k : Nat)]) ++ ·) := by
    intro k
    rw [hF]
    simp only [EJ, List.flatMap_append, List.flatMap_cons, List.flatMap_nil, List.append_nil, List.append_assoc, List.cons_append, List.nil_append]
   have hFm : (ic (di lo m) (r + 1)).map (l ++ ·) = F m := by
    rw [hF, ic, List.map_flatMap]
    congr 1
    funext x
    rw [List.map_map]; rfl
   rw [hFm]
   simp +contextual only [a2, ik.aL, ik.len (by omega), e1, decide_false, sZ, Nat.reduceEqDiff, Nat.reduceAdd, ↓reduceIte, reduceCtorEq]
   refine aM m (fun k (_ : Unit) => (eK step (F k) s).2 = true) (fun k _ => [(0, bn l), (4, .ai (.int .i64 hi)), (5, .ptr q 0), (8, .int .i64 (lo + (k : Nat)))]) (fun k _ => St (eK step (F k) s).1 ++ X) () ⟨by rw [hF0]; rfl, aF (by simp) (by rw [hF0]; rfl)⟩ fun k _ hk hI => ?_
   have hg := yy hy (F k) s hs hI
   generalize OM : (eK step (F k) s).1 = s1 at hg ⊢
   by_cases hkm : lo + (k : Int) ≤ hi
   ·have EZ : k < m := by omega
    have hql := hq s1
    simp +contextual only [hkm, decide_true, a2, sZ, Nat.reduceEqDiff, ↓reduceIte, reduceCtorEq]
    refine aH (W9 l (by omega)) ?_
    have jS : ta 1 [AV.int .i64 (lo + (k : Int))] := of_eq_true (lV [_])
    have efn : (FV n id lo hi q).ab = .fn (.func 206) [] [.ai (.int .i64 n), .ai (.mM id), .ai (.int .i64 lo), .ai (.int .i64 hi), .ptr q 0] := rfl
    have ea : ints l ++ [AV.int .i64 (lo + (k : Int))] = ints (l ++ [lo + (k : Int)]) := by simp [ints]
    have ek : AV.ap 0 (ints (l ++ [lo + (k : Int)])) = bn (l ++ [lo + (k : Int)]) := by rw [Oo _ (by simp)]
    simp +contextual only [hql, efn, aw, jS, ea, ek, Ft, sZ, Nat.reduceEqDiff, Nat.reduceAdd, Nat.reduceLT, ↓reduceIte, reduceCtorEq]
    refine ⟨by omega, af (ih (l ++ [lo + (k : Int)]) s1 X (by simp; omega) (fun x hx => ?_) hg hq) ?_⟩
    ·rcases List.mem_append.1 hx with h | h
     ·exact hm x h
     ·simp only [List.mem_cons, List.not_mem_nil, or_false] at h
      subst h
      exact yx.2 ⟨by omega, by omega⟩
    rintro rr H' ⟨rfl, rfl⟩
    have bG : eK step (F (k + 1)) s = eK step ((ic (di lo m) r).map ((l ++ [lo + (k : Int)]) ++ ·)) s1 := by
     rw [hFs, vS, if_pos hI, OM]
    cases hb : (eK step ((ic (di lo m) r).map ((l ++ [lo + (k : Int)]) ++ ·)) s1).2 with
    | true =>
      simp +contextual only [Bool.not_true, sZ, Nat.reduceEqDiff, ↓reduceIte, reduceCtorEq]
      refine ⟨k + 1, (), ⟨EZ, by rw [bG]; exact hb⟩, by omega, aF ?_ (by rw [bG])⟩
      rw [ee _ (by omega)]
      have : lo + (k : Int) + 1 = lo + ((k + 1 : Nat) : Int) := by omega
      rw [this]
    | false =>
      simp +contextual only [Bool.not_false, sZ, Nat.reduceEqDiff, ↓reduceIte, reduceCtorEq]
      have ju : eK step (F m) s = ((eK step ((ic (di lo m) r).map ((l ++ [lo + (k : Int)]) ++ ·)) s1).1, false) := by
       have e : ∃ R, F m = F (k + 1) ++ R := by
        have : ∀ d, ∃ R, F (k + 1 + d) = F (k + 1) ++ R := by
         intro d
         induction d with
         | zero => exact ⟨[], by simp⟩
         | succ d YL =>
           obtain ⟨R, hR⟩ := YL
           exact ⟨R ++ _, by rw [show k + 1 + (d + 1) = (k + 1 + d) + 1 by omega, hFs, hR, List.append_assoc]⟩
        obtain ⟨R, hR⟩ := this (m - (k + 1))
        exact ⟨R, by rw [← hR]; congr 1; omega⟩
       obtain ⟨R, hR⟩ := e
       rw [hR, vS, bG, hb, if_neg (by simp)]
      rw [ju]
      exact qc false _
   ·have hke : k = m := by omega
    simp +contextual only [hkm, decide_false, sZ, Nat.reduceEqDiff, ↓reduceIte, reduceCtorEq]
    rw [← hke, hI, OM]
    exact qc true s1
theorem Xa {σ : Type} {n : Nat} {lo hi : Int} (uh : -1000000 ≤ lo ∧ lo ≤ 1000000) (Iz : -1000000 ≤ hi ∧ hi ≤ 1000000) (hn : n ≤ 1000000) {id : Nat} {St : σ → List aa} {Good : σ → Prop} {step : σ → List Int → σ × Bool} (hy : YS n (di lo (hi + 1 - lo).toNat) id St Good step) (bm : ∀ s, id < (St s).length) (s : σ) (hs : Good s) :
 aq Tryz.prog 205 [.mM id, .ai (.int .i64 n), .ai (.int .i64 lo), .ai (.int .i64 hi)] (St s) fun rr H' => rr = .tuple [] ∧ H' = St (eK step (ic (di lo (hi + 1 - lo).toNat) n) s).1 := by
 refine Vi.2.calls rfl ?_
 simp only [Vi, aI]
 have aeO := bm s
 have vy : (AV.mM id).val = true := rfl
 have cy : (AV.mM id).cells = [.mM id] := rfl
 have oy : (AV.mM id).one = true := rfl
 have by' : ∀ m, (AV.mM id).a7 m = decide (id < m) := fun m => by simp [AV.a7]
 have d1 : decide (id < (St s).length + 1) = true := decide_eq_true (by omega)
 have d2' : decide ((St s).length < (St s).length + 1) = true := decide_eq_true (by omega)
 have efn : (FV n id lo hi (St s).length).ab = .fn (.func 206) [] [.ai (.int .i64 n), .ai (.mM id), .ai (.int .i64 lo), .ai (.int .i64 hi), .ptr (St s).length 0] := rfl
 simp +contextual only [vy, by', d1, d2', Bool.and_self, Y1, sZ, Nat.reduceEqDiff, Nat.reduceAdd, Nat.reduceLT, ↓reduceIte, reduceCtorEq]
 have h := aas uh Iz hn hy (St s).length n [] s [.cells [FV n id lo hi (St s).length]] (by simp) (fun x hx => by cases hx) hs (fun s' => by rw [← hy.len s' s]; simp)
 have em : (ic (di lo (hi + 1 - lo).toNat) n).map ([] ++ ·) = ic (di lo (hi + 1 - lo).toNat) n := by simp
 rw [em] at h
 refine af h ?_
 rintro rr H' ⟨rfl, rfl⟩
 simp +contextual only [sZ, reduceCtorEq]
 refine ⟨(St s).length, Nat.le_refl _, [], trivial, rfl, rfl, ?_⟩
 rw [hy.len s _, List.take_left]
theorem Xb (n : Nat) (lo hi : Int) : Pure Tryz.prog 166 [.int .i64 n, .int .i64 lo, .int .i64 hi] (.fn (.func 205) [] [.ai (.int .i64 n), .ai (.int .i64 lo), .ai (.int .i64 hi)]) := by
 refine fun H => UY.2.calls rfl ?_
 simp only [UY, aI]
 simp +contextual only [sZ, Nat.reduceEqDiff, Nat.reduceAdd, ↓reduceIte, reduceCtorEq]
 exact aY rfl rfl
end Go.aK
end
section
set_option maxRecDepth 100000
namespace Go.aK
open Go Go.Proofs Go.fJ
theorem aat (x : Int) (r : List Int) (hl : r.length ≤ 1000000000) : Pure Tryz.prog 207 [.ap 0 (ints (x :: r))] (.int .i64 (r.foldl max x)) := by
 refine fun H => Vj.2.calls rfl ?_
 simp only [Vj, aI]
 have ix : IL (.ap 0 (ints (x :: r))) (x :: r) := .inr rfl
 have n1 : (((x :: r).length : Int) < 1) = False := eq_false (by simp; omega)
 have g0' : (x :: r).getD (0 : Int).toNat 0 = x := rfl
 have ll : (x :: r).length ≤ 1000000001 := by simp; omega
 generalize fx : x :: r = xs at *
 have ep : 0 < xs.length := by rw [← fx]; simp
 simp +contextual only [ix.aL, ix.len (by omega), n1, decide_false, ix.lens, ix.idx, g0', sZ, Nat.reduceEqDiff, Nat.reduceAdd, ↓reduceIte, reduceCtorEq]
 refine ⟨by omega, ?_⟩
 have hsplit : ∀ j, j ≤ r.length → (r.take j).foldl max x = ((xs.take (j + 1)).drop 1).foldl max x := by intro j _; rw [← fx]; simp
 refine aE r.length (fun j => True) (fun j => [(0, .ap 0 (ints xs)), (3, .int .i64 ((r.take j).foldl max x)), (4, .int .i64 ((j + 1 : Nat) : Int))]) (fun _ => H) ⟨trivial, aA _ _ _⟩ fun j hj _ => ?_
 have It : xs.length = r.length + 1 := by rw [← fx]; simp
 by_cases hjr : j < r.length
 ·have n2 : (((j + 1 : Nat) : Int) < xs.length) = True := eq_true (by omega)
  have gj : xs.getD (j + 1) 0 = r.getD j 0 := by rw [← fx]; simp
  have tk : (r.take (j + 1)).foldl max x = max ((r.take j).foldl max x) (r.getD j 0) := by
   rw [List.take_succ_eq_append_getElem hjr, List.foldl_append]
   simp [hjr]
  simp +contextual only [ix.aL, ix.len (by omega), n2, decide_true, ix.lens, ix.idx, Int.toNat_natCast, gj, sZ, Nat.reduceEqDiff, ↓reduceIte, reduceCtorEq]
  exact ⟨by omega, j + 1, hjr, by omega, aF (by rw [ee _ (by omega), tk]; rfl) rfl⟩
 ·have e : j = r.length := by omega
  subst e
  have n2 : (((r.length + 1 : Nat) : Int) < xs.length) = False := eq_false (by omega)
  simp +contextual only [ix.aL, ix.len (by omega), n2, decide_false, sZ, Nat.reduceEqDiff, ↓reduceIte, reduceCtorEq]
  exact aY rfl (by rw [List.take_length])
theorem aav (l : List Int) {v : AV} (h : IL v l) (hl : l.length ≤ 1000000000) (y : Int) : Pure Tryz.prog 111 [v, .int .i64 y] (.int .i64 (px (fun z => decide (y = z)) l 0)) := by
 refine fun H => Uv.2.calls rfl ?_
 simp only [Uv, aI]
 obtain ⟨a1, a2, a3, a4⟩ := h.one
 simp +contextual only [a2, h.aL, h.len (by omega), sZ, Nat.reduceEqDiff, Nat.reduceAdd, ↓reduceIte, reduceCtorEq]
 refine aE l.length (fun i => px (fun z => decide (y = z)) (l.drop i) i = px (fun z => decide (y = z)) l 0) (fun i => [(0, v), (1, .int .i64 y), (7, .int .i64 l.length), (8, .int .i64 i)]) (fun _ => H) ⟨rfl, aA _ _ _⟩ fun i hi hI => ?_
 by_cases Az : i < l.length
 ·have n1 : ((i : Int) < l.length) = True := eq_true (by omega)
  rw [yw Az] at hI
  have egd : l.getD i default = l.getD i 0 := by simp [Az]
  rw [egd] at hI
  simp +contextual only [n1, decide_true, a2, h.lens, h.idx, Int.toNat_natCast, sZ, Nat.reduceEqDiff, ↓reduceIte, reduceCtorEq]
  refine ⟨by omega, fun he => ?_, fun ep => ?_⟩
  ·rw [if_pos (by simpa using he)] at hI
   exact aY rfl (by rw [← hI])
  ·rw [if_neg (by simpa using ep)] at hI
   exact ⟨i + 1, ⟨Az, hI⟩, by omega, aF (by rw [au i (by omega)]) rfl⟩
 ·have n1 : ((i : Int) < l.length) = False := eq_false (by omega)
  rw [List.drop_of_length_le (by omega)] at hI
  simp +contextual only [n1, decide_false, sZ, Nat.reduceEqDiff, ↓reduceIte, reduceCtorEq]
  exact aY rfl (by rw [← hI]; rfl)
theorem FW {α : Type} {p : α → Bool} : ∀ (l : List α) (i : Nat), 0 ≤ px p l i ↔ ∃ x ∈ l, p x = true
 | [], i => by simp [px]
 | x :: r, i => by
   rw [px]
   by_cases h : p x = true
   ·rw [if_pos h]; exact ⟨fun _ => ⟨x, by simp, h⟩, fun _ => by omega⟩
   ·rw [if_neg h, FW r (i + 1)]
    simp [h]
theorem aaw (l : List Int) {v : AV} (h : IL v l) (hl : l.length ≤ 1000000000) (y : Int) : Pure Tryz.prog 208 [v, .int .i64 y] (.bool (decide (y ∈ l))) := by
 refine fun H => Vk.2.calls rfl ?_
 simp only [Vk, aI]
 obtain ⟨a1, a2, a3, a4⟩ := h.one
 simp +contextual only [a2, sZ, Nat.reduceEqDiff, Nat.reduceAdd, ↓reduceIte, reduceCtorEq]
 refine ae (aav l h hl y) ?_
 simp +contextual only [sZ, ↓reduceIte, reduceCtorEq]
 refine aY rfl ?_
 congr 1
 rw [decide_eq_decide, FW]
 simp
def CP (l : List Int) : Int := l.foldl max (-1)
def nI (l : List Int) : Bool := (List.range (CP l + 1).toNat).all fun j => decide ((j : Int) ∈ l)
theorem foldl_max : ∀ (l : List Int) (x b : Int), x ≤ b → (∀ y ∈ l, y ≤ b) → x ≤ l.foldl max x ∧ l.foldl max x ≤ b
 | [], x, b, h, _ => ⟨Int.le_refl _, h⟩
 | y :: r, x, b, h, hr => by
   have h1 := hr y (by simp)
   have := foldl_max r (max x y) b (by omega) (fun z hz => hr z (by simp [hz]))
   rw [List.foldl_cons]; omega
theorem aax (l : List Int) {v : AV} (h : IL v l) (hl : l.length ≤ 100000000) (hb : ∀ x ∈ l, x ≤ 1000000) : Pure Tryz.prog 167 [v] (.bool (nI l)) := by
 refine fun H => UZ.2.calls rfl ?_
 simp only [UZ, aI]
 obtain ⟨a1, a2, a3, a4⟩ := h.one
 have Uf : ∀ ψ : List AV → Prop, bE 1 8 (.ap 1 [.int .i64 (-1)]) v ψ = ψ (ints (-1 :: l)) := by
  intro ψ
  have hr : dI v = some (ints l) := by
   rcases h with rfl | rfl
   ·cases l <;> rfl
   ·rfl
  have hal : mr 1 (.ap 1 [.int .i64 (-1)]) = some [.int .i64 (-1)] := rfl
  have ok : ta 1 (ints l) := of_eq_true (lV l)
  simp only [bE, hal, hr, eq_iff_iff]
  exact ⟨fun h => h.2.2, fun k => ⟨by simp [aw]; omega, ok, k⟩⟩
 have hm := foldl_max l (-1) 1000000 (by omega) hb
 simp +contextual only [a2, Uf, sZ, Nat.reduceEqDiff, Nat.reduceAdd, ↓reduceIte, reduceCtorEq]
 refine ae (aat (-1) l (by omega)) ?_
 have em : l.foldl max (-1) = CP l := rfl
 rw [em] at hm ⊢
 have hw : IntKind.i64.wrap (CP l + 1) = CP l + 1 := ee _ (by omega)
 simp +contextual only [hw, sZ, Nat.reduceEqDiff, ↓reduceIte, reduceCtorEq]
 refine aE (CP l + 1).toNat (fun j => ∀ i, i < j → (i : Int) ∈ l) (fun j => [(0, v), (8, .int .i64 (CP l + 1)), (9, .int .i64 j)]) (fun _ => H) ⟨fun i hi => by omega, aA _ _ _⟩ fun j hj hI => ?_
 by_cases hjm : (j : Int) < CP l + 1
 ·simp +contextual only [hjm, decide_true, a2, sZ, Nat.reduceEqDiff, Nat.reduceAdd, ↓reduceIte, reduceCtorEq]
  refine ae (aaw l h (by omega) j) ?_
  by_cases ID : (j : Int) ∈ l
  ·simp +contextual only [ID, decide_true, Bool.not_true, sZ, Nat.reduceEqDiff, ↓reduceIte, reduceCtorEq]
   refine ⟨j + 1, ⟨by omega, fun i hi => ?_⟩, by omega, aF (by rw [au j (by omega)]) rfl⟩
   by_cases e : i = j
   ·subst e; exact ID
   ·exact hI i (by omega)
  ·simp +contextual only [ID, decide_false, Bool.not_false, sZ, Nat.reduceEqDiff, ↓reduceIte, reduceCtorEq]
   refine aY rfl ?_
   congr 1
   have : nI l = false := by
    unfold nI
    rw [List.all_eq_false]
    exact ⟨j, List.mem_range.2 (by omega), by simpa using ID⟩
   rw [this]
 ·have e : j = (CP l + 1).toNat := by omega
  simp +contextual only [hjm, decide_false, sZ, Nat.reduceEqDiff, ↓reduceIte, reduceCtorEq]
  refine aY rfl ?_
  congr 1
  have : nI l = true := by
   unfold nI
   rw [List.all_eq_true]
   intro i hi
   exact decide_eq_true (hI i (by rw [e]; exact List.mem_range.1 hi))
  rw [this]
end Go.aK
end
section
set_option maxRecDepth 100000
namespace Go.aK
open Go Go.Proofs Go.fJ
open Classical in
noncomputable def vU (t : Ty) (ops pl st : List Int) : Bool := decide (iX t.s (py t.s.ops.length ops pl) (sf t.s.ops.length ops st) = 0 ∧ qO t (py t.s.ops.length ops pl) (sf t.s.ops.length ops st) < 0)
abbrev Fo := Option (List Int × List Int)
noncomputable def dt (t : Ty) (ops pl : List Int) (s : Fo) (st : List Int) : Fo × Bool := if vU t ops pl st = true then (some (py t.s.ops.length ops pl, sf t.s.ops.length ops st), false) else (s, true)
noncomputable def eU (t : Ty) (ops : List Int) (s : Fo) (pl : List Int) : Fo × Bool := if nI pl = true then eK (dt t ops pl) (ic (di 1 3) ops.length) s else (s, true)
noncomputable def xc (t : Ty) (ops : List Int) : Fo := (eK (eU t ops) (ic (di 0 ops.length) ops.length) none).1
def o4 (s : Fo) : aa := match s with | none => .cells [.ah, .ah] | some (P, S) => .cells [.ap 0 (ints P), .ap 0 (ints S)]
def o5 (s : Fo) : aa := .cells [.bool s.isSome]
noncomputable def iF (s : Fo) : Tn := if s.isSome = true then .jump .ret else .ready
theorem Ap : a8.n = 41 := by kernel_rfl
theorem Aq : bw.n = 41 := by kernel_rfl
theorem vV : a8.ps = [15] := by kernel_rfl
theorem vW : bw.ps = [22] := by kernel_rfl
theorem KK {n0 id : Nat} {R : AV → List aa → Prop} {H : List aa} {lc : iz} {es : List AV} (h : H[id]? = some (.loop .busy lc es)) : pZ n0 id R .ret H = GI n0 false (H.set id (.loop (.jump .ret) lc es)) R := by
 unfold pZ; rw [h]
theorem CQ {id : Nat} {H : List aa} {K : Option Code → List aa → Prop} {lc : iz} {es : List AV} {c : Code} (h : H[id]? = some (.loop (.jump c) lc es)) : behind id H K = K (some c) (H.set id (.loop .eD lc es)) := by
 unfold behind; rw [h]
theorem Ar (t : Ty) (ops pl : List Int) : ∀ (a : List (List Int)) (s : Fo), s = none → (eK (dt t ops pl) a s).2 = (eK (dt t ops pl) a s).1.isNone
 | [], s, h => by subst h; rfl
 | l :: r, s, h => by
   subst h
   rw [eK]
   by_cases ht : vU t ops pl l = true
   ·have e : dt t ops pl none l = (some (py t.s.ops.length ops pl, sf t.s.ops.length ops l), false) := if_pos ht
    rw [e]; rfl
   ·have e : dt t ops pl none l = (none, true) := if_neg ht
    rw [e]
    exact Ar t ops pl r none rfl
structure As (t : Ty) : Prop where
 n : t.s.ops.length ≤ 1000000000
 eq : ∀ e ∈ t.es, ∀ ps : List Int, ps.length = t.s.ops.length → KI ps e
theorem KL (n : Nat) (ops pl : List Int) : (py n ops pl).length = n := by unfold py; rw [vR]; simp
theorem tX (A : List aa) (x : aa) (Y : List aa) (k : Nat) (h : A.length = k) : (A ++ x :: Y)[k]? = some x := by subst h; simp
theorem tY (A : List aa) (x y : aa) (Y : List aa) (k : Nat) (h : A.length = k) : (A ++ x :: Y).set k y = A ++ y :: Y := by subst h; simp
def eW (H W : List aa) (s : Fo) : List aa := H ++ o4 s :: o5 s :: W
theorem eJ (H W : List aa) (s : Fo) : (eW H W s).length = H.length + 2 + W.length := by simp [eW]; omega
theorem PV (H W Y : List aa) (s : Fo) : (eW H W s ++ Y)[H.length]? = some (o4 s) := by rw [List.getElem?_append_left (by rw [eJ]; omega)]; simp [eW]
theorem PW (H W Y : List aa) (s : Fo) : (eW H W s ++ Y)[H.length + 1]? = some (o5 s) := by rw [List.getElem?_append_left (by rw [eJ]; omega)]; simp [eW]
theorem S6 (H W Y : List aa) (s : Fo) (P S : List Int) : ((eW H W s ++ Y).set H.length (.cells [.ap 0 (ints P), .ap 0 (ints S)])).set (H.length + 1) (.cells [.bool true]) = eW H W (some (P, S)) ++ Y := by
 rw [List.set_append_left _ _ (by rw [eJ]; omega), List.set_append_left _ _ (by rw [List.length_set, eJ]; omega)]
 simp [eW, o4, o5]
theorem S7 {s : Sg} {ps ss : List Int} (h : iX s ps ss = 0) : Va ps ss := (vJ.1 h).2.va
theorem KM {t : Ty} (ht : As t) {ops : List Int} {vo : AV} (ho : IL vo ops) (hr : ∀ i ∈ ops, 0 ≤ i ∧ i < t.s.ops.length) (jR : ops.length ≤ 1000000) {pl : List Int} (wm : pl.length = ops.length) (H W : List aa) (es : List AV) (yR : es = kw 41 [(2, .ai t.av), (3, .ai vo), (4, .ptr H.length 0), (5, .ptr (H.length + 1) 0), (6, .ai (bn pl)), (21, .fn (.func 205) [] [.ai (.int .i64 ops.length), .ai (.int .i64 1), .ai (.int .i64 3)])])
 (l : List Int) (hl : l.length = ops.length) (Y : List aa) (id : Nat) (bm : id = H.length + 2 + W.length) :
 jz Tryz.prog id [bn l] (eW H W none ++ .loop .ready bw es :: Y) fun r H' => r = .bool (dt t ops pl none l).2 ∧ H' = eW H W (dt t ops pl none l).1 ++ .loop (iF (dt t ops pl none l).1) bw es :: Y := by
 have ees : es = [.any, .any, .ai t.av, .ai vo, .ptr H.length 0, .ptr (H.length + 1) 0, .ai (bn pl), .any, .any, .any, .any, .any, .any, .any, .any, .any, .any, .any, .any, .any, .any, .fn (.func 205) [] [.ai (.int .i64 ops.length), .ai (.int .i64 1), .ai (.int .i64 3)], .any, .any, .any, .any, .any, .any, .any, .any, .any, .any, .any, .any, .any, .any, .any, .any, .any, .any, .any] := by rw [yR]; rfl
 have hk : ∀ s, (eW H W s).length = id := fun s => by rw [eJ, bm]
 have e0 : ∀ s st, (eW H W s ++ aa.loop st bw es :: Y)[id]? = some (.loop st bw es) := fun s st => tX _ _ _ _ (hk s)
 have fY : ∀ s st st', (eW H W s ++ aa.loop st bw es :: Y).set id (.loop st' bw es) = eW H W s ++ aa.loop st' bw es :: Y := fun s st st' => tY _ _ _ _ _ (hk s)
 have hlen : ∀ s st, (eW H W s ++ aa.loop st bw es :: Y).length = (eW H W none ++ aa.loop .ready bw es :: Y).length := fun s st => by rw [List.length_append, List.length_append, hk, hk]; rfl
 refine nV (lc := bw) (es := es) (e0 none .ready) QB QC ⟨by rw [ees, Aq]; rfl, by rw [vW]; rfl, by rw [vW, Aq]; rfl, ?_, ?_⟩ (vO ?_)
 ·rw [ees]; intro x hx; simp only [List.mem_cons, List.not_mem_nil, or_false] at hx
  repeat' (first | (rcases hx with hx | hx; · subst hx; rfl) | (subst hx; rfl))
 ·intro x hx; simp only [List.mem_cons, List.not_mem_nil, or_false] at hx; subst hx; exact (aD l).2.1
 ·have ez : (bw.ps.zip [bn l]).reverse ++ bW 0 es = (22, bn l) :: bW 0 es := by rw [vW]; rfl
  rw [ez]
  generalize xd : bW 0 es = ea
  have g2 : get ea 2 = .ai t.av := by rw [← xd, ees]; rfl
  have g3 : get ea 3 = .ai vo := by rw [← xd, ees]; rfl
  have g4 : get ea 4 = .ptr H.length 0 := by rw [← xd, ees]; rfl
  have g5 : get ea 5 = .ptr (H.length + 1) 0 := by rw [← xd, ees]; rfl
  have g6 : get ea 6 = .ai (bn pl) := by rw [← xd, ees]; rfl
  simp only [I5, I6]
  have hb : ∀ K, jG id (eW H W none ++ .loop .ready bw es :: Y) K = K (eW H W none ++ .loop .busy bw es :: Y) := fun K => by rw [sc (e0 none .ready), fY]
  obtain ⟨e1, e2, e3, e4, e5, e6⟩ := Ty.facts t
  obtain ⟨a1, a2, a3, a4⟩ := ho.one
  obtain ⟨b1, b2, b3, b4, b5⟩ := aD pl
  obtain ⟨c1, c2, c3, c4, c5⟩ := aD l
  have lvo : ∀ (H : List aa) (φ : AV → Prop), aS none (.ai vo) H φ = φ vo := fun H φ => by simp [aS, a1, a2]
  obtain ⟨q1, q2, q3, q4, q5, q6⟩ := bi (py t.s.ops.length ops pl) (sf t.s.ops.length ops l)
  simp +contextual only [g2, g3, g4, g5, g6, c2, hb, mA, lvo, bU, b2, a2, e4, sZ, Nat.reduceEqDiff, Nat.reduceAdd, ↓reduceIte]
  refine ae (aar t ops pl l ho (.inl rfl) (.inl rfl) wm hl hr ht.n (by omega)) ?_
  generalize hP : py t.s.ops.length ops pl = P at *
  generalize hS : sf t.s.ops.length ops l = S at *
  simp +contextual only [aB, q1, q2, q3, q4, KJ, cz, sZ, Nat.reduceEqDiff, Nat.reduceAdd, ↓reduceIte]
  refine ae (ZW t.s P S) ?_
  have endN : ∀ n0, n0 = id + (Y.length + 1) → dt t ops pl none l = (none, true) → pZ n0 id (fun r H' => r = .bool (dt t ops pl none l).2 ∧ H' = eW H W (dt t ops pl none l).1 ++ .loop (iF (dt t ops pl none l).1) bw es :: Y) .normal (eW H W none ++ .loop .busy bw es :: Y) := by
   intro n0 LS bQ
   rw [EF (e0 none .busy), fY, bQ]
   refine ⟨by rw [hlen, List.length_append, hk]; simp; omega, rfl, ?_⟩
   rw [List.take_of_length_le (by rw [hlen, List.length_append, hk]; simp; omega)]
   rfl
  have endR : ∀ n0, n0 = id + (Y.length + 1) → dt t ops pl none l = (some (P, S), false) → pZ n0 id (fun r H' => r = .bool (dt t ops pl none l).2 ∧ H' = eW H W (dt t ops pl none l).1 ++ .loop (iF (dt t ops pl none l).1) bw es :: Y) .ret (eW H W (some (P, S)) ++ .loop .busy bw es :: Y) := by
   intro n0 LS bQ
   rw [KK (e0 _ .busy), fY, bQ]
   refine ⟨by rw [hlen, List.length_append, hk]; simp; omega, rfl, ?_⟩
   rw [List.take_of_length_le (by rw [hlen, List.length_append, hk]; simp; omega)]
   rfl
  by_cases h0 : iX t.s P S = 0
  ·simp +contextual only [h0, mA, cz, e4, q4, sZ, Nat.reduceEqDiff, Nat.reduceAdd, ↓reduceIte]
   refine ae (c89 t P S (S7 h0) (fun e he => ht.eq e he P (by rw [← hP]; exact KL _ _ _))) ?_
   by_cases h1 : qO t P S < 0
   ·have bQ : dt t ops pl none l = (some (P, S), false) := by
     rw [dt, if_pos (by rw [vU, hP, hS]; exact decide_eq_true ⟨h0, h1⟩), hP, hS]
    have k4 := PV H W (.loop .busy bw es :: Y) none
    have k5 : ∀ o, ((eW H W none ++ .loop .busy bw es :: Y).set H.length o)[H.length + 1]? = some (o5 none) := fun o => by rw [List.getElem?_set_ne (by omega), PW]
    have ks := S6 H W (.loop .busy bw es :: Y) none P S
    have o4n : o4 none = .cells [.ah, .ah] := rfl
    have o5n : o5 none = .cells [.bool false] := rfl
    rw [o4n] at k4
    simp only [o5n] at k5
    have qu : (ff P S).cells.map AV.ab = [.ap 0 (ints P), .ap 0 (ints S)] := rfl
    have sp2 : ∀ (a b x y : AV), ag [a, b] 0 [x, y] = [x, y] := fun _ _ _ _ => rfl
    have fb : ∀ m, aj m [AV.ap 0 (ints P), .ap 0 (ints S)] = true := fun m => by simp [bM, c8, cZ, bk]
    simp +contextual only [h1, decide_true, cz, k4, k5, ks, q1, q2, q3, qu, sp2, fb, Bool.and_self, sZ, Nat.reduceEqDiff, Nat.reduceAdd, ↓reduceIte]
    first
     | exact endR _ (by rw [hk]) bQ
     | exact endR _ (by rw [hlen, List.length_append, hk]; rfl) bQ
   ·simp +contextual only [h1, decide_false, sZ, Nat.reduceEqDiff, ↓reduceIte]
    have bQ : dt t ops pl none l = (none, true) := by
     rw [dt, if_neg (by rw [vU, hP, hS]; simp [h1])]
    exact endN _ (by rw [hk]) bQ
  ·simp +contextual only [h0, decide_false, sZ, Nat.reduceEqDiff, ↓reduceIte]
   have bQ : dt t ops pl none l = (none, true) := by
    rw [dt, if_neg (by rw [vU, hP, hS]; simp [h0])]
   exact endN _ (by rw [hk]) bQ
end Go.aK
end
