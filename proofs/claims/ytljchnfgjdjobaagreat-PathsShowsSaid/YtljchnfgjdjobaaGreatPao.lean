/- Part 15 of 18 of the proof. -/
import Derived.Test.YtljchnfgjdjobaaGreatPan
import Derived.Test.YtljchnfgjdjobaaGreatPag
import Derived.KernelRfl
import Derived.Test.YtljchnfgjdjobaaGreatPam
set_option linter.unusedVariables false
set_option linter.unusedSimpArgs false
set_option linter.defProp false
set_option linter.unusedSectionVars false
section
set_option maxRecDepth 100000
namespace Go.Abs
open Go Go.Proofs Go.Rpo
structure PC (c : Cx) (H : List AObj) (x y : Nat) (i k : Int) (es : List AV) (o : AObj) (G : List AObj) : Prop where
 du : Du c G
 gx : G[x]? = some (.cells [kav (c.kd i)])
 gy : G[y]? = some (.cells [kav (c.kd k)])
 g6 : G[H.length]? = some (.cells [.int .i64 0, .int .i64 0, .nils, .nils])
 gp : G[H.length + 3]? = some (.cells es)
 go : G[H.length + 4]? = some o
 len : G.length = H.length + 5
 up : ∀ j, j < H.length → j ≠ c.e → j ≠ c.g → G[j]? = H[j]?
theorem PB.appC {c : Cx} {H G : List AObj} {x y : Nat} {i k : Int} {es : List AV} (w : XY H x y) (h : PB c H x y i k es G) (o : AObj) : PC c H x y i k es o (G ++ [o]) := by
 obtain ⟨w1, w2, w3, w4⟩ := w
 have hl := h.len
 exact ⟨h.du.app _, by rw [List.getElem?_append_left (by omega), h.gx], by rw [List.getElem?_append_left (by omega), h.gy], by rw [List.getElem?_append_left (by omega), h.g6], by rw [List.getElem?_append_left (by omega), h.gp], by rw [← hl]; simp, by simp [hl], fun j h1 h2 h3 => by rw [List.getElem?_append_left (by omega), h.up j h1 h2 h3]⟩
theorem PC.call {c : Cx} {H G G' : List AObj} {x y : Nat} {i k : Int} {es : List AV} {o : AObj} (hD : Du c H) (w : XY H x y) (h : PC c H x y i k es o G) (hU : Up c G G') (hD' : Du c G') : PC c H x y i k es o G' := by
 obtain ⟨l1, l2, l3⟩ := hD.lt
 obtain ⟨w1, w2, w3, w4⟩ := w
 exact ⟨hD', by rw [hU.get x (by omega) (by omega), h.gx], by rw [hU.get y (by omega) (by omega), h.gy], by rw [hU.get _ (by omega) (by omega), h.g6], by rw [hU.get _ (by omega) (by omega), h.gp], by rw [hU.get _ (by omega) (by omega), h.go], by rw [hU.len, h.len], fun j h1 h2 h3 => by rw [hU.get j h2 h3, h.up j h1 h2 h3]⟩
theorem PC.set {c : Cx} {H G : List AObj} {x y : Nat} {i k : Int} {es es' : List AV} {o : AObj} (hD : Du c H) (w : XY H x y) (h : PC c H x y i k es o G) : PC c H x y i k es' o (G.set (H.length + 3) (.cells es')) := by
 obtain ⟨l1, l2, l3⟩ := hD.lt
 obtain ⟨w1, w2, w3, w4⟩ := w
 have hp := get_lt h.gp
 exact ⟨h.du.set (by omega) (by omega) (by omega), by rw [List.getElem?_set_ne (by omega), h.gx], by rw [List.getElem?_set_ne (by omega), h.gy], by rw [List.getElem?_set_ne (by omega), h.g6], by rw [List.getElem?_set_self hp], by rw [List.getElem?_set_ne (by omega), h.go], by rw [List.length_set, h.len], fun j h1 h2 h3 => by rw [List.getElem?_set_ne (by omega), h.up j h1 h2 h3]⟩
theorem PC.setO {c : Cx} {H G : List AObj} {x y : Nat} {i k : Int} {es : List AV} {o o' : AObj} (hD : Du c H) (w : XY H x y) (h : PC c H x y i k es o G) : PC c H x y i k es o' (G.set (H.length + 4) o') := by
 obtain ⟨l1, l2, l3⟩ := hD.lt
 obtain ⟨w1, w2, w3, w4⟩ := w
 have hp := get_lt h.go
 exact ⟨h.du.set (by omega) (by omega) (by omega), by rw [List.getElem?_set_ne (by omega), h.gx], by rw [List.getElem?_set_ne (by omega), h.gy], by rw [List.getElem?_set_ne (by omega), h.g6], by rw [List.getElem?_set_ne (by omega), h.gp], by rw [List.getElem?_set_self hp], by rw [List.length_set, h.len], fun j h1 h2 h3 => by rw [List.getElem?_set_ne (by omega), h.up j h1 h2 h3]⟩
theorem PC.drop {c : Cx} {H G : List AObj} {x y : Nat} {i k : Int} {es : List AV} {o : AObj} (hD : Du c H) (w : XY H x y) (h : PC c H x y i k es o G) : PB c H x y i k es (G.take (H.length + 4)) ∧ G = G.take (H.length + 4) ++ [o] := by
 obtain ⟨l1, l2, l3⟩ := hD.lt
 obtain ⟨w1, w2, w3, w4⟩ := w
 have hl := h.len
 have t : ∀ j, j < H.length + 4 → (G.take (H.length + 4))[j]? = G[j]? := fun j h1 => by rw [List.getElem?_take, if_pos h1]
 refine ⟨⟨h.du.take (by omega) (by omega) (by omega), by rw [t x (by omega), h.gx], by rw [t y (by omega), h.gy], by rw [t _ (by omega), h.g6], by rw [t _ (by omega), h.gp], by simp; omega, fun j h1 h2 h3 => by rw [t j (by omega), h.up j h1 h2 h3]⟩, ?_⟩
 have e : G.drop (H.length + 4) = [o] := by
  have h1 := h.go
  have hlt : H.length + 4 < G.length := by omega
  rw [List.drop_eq_getElem_cons hlt]
  rw [List.getElem?_eq_getElem hlt] at h1
  simp only [Option.some.injEq] at h1
  rw [h1, List.drop_of_length_le (by omega)]
 rw [← e, List.take_append_drop]
structure MI (c : Cx) (a b : List Int) (us : List Bool) (to : List Int) (j : Nat) (ts : List Int) (ls : List PP) : Prop where
 lt : ts.length = j
 ll : ls.length = j
 pa : ∀ j', j' < j → 0 ≤ to.getD j' 0 → ts.getD j' 0 = to.getD j' 0 ∧ (ls.getD j' default).nil
 ov : ∀ j', j' < j → to.getD j' 0 < 0 → (¬ (ls.getD j' default).nil ∧ Sh c.O (ls.getD j' default) (c.tm (a.getD (ts.getD j' 0).toNat 0)) (c.tm (b.getD j' 0))) ∧ ∃ u : Nat, ts.getD j' 0 = u ∧ u < a.length ∧ us.getD u false = false
theorem MI.snoc {c : Cx} {a b : List Int} {us : List Bool} {to : List Int} {j : Nat} {ts : List Int} {ls : List PP} (h : MI c a b us to j ts ls) (v : Int) (q : PP)
 (h1 : 0 ≤ to.getD j 0 → v = to.getD j 0 ∧ q.nil) (h2 : to.getD j 0 < 0 → (¬ q.nil ∧ Sh c.O q (c.tm (a.getD v.toNat 0)) (c.tm (b.getD j 0))) ∧ ∃ u : Nat, v = u ∧ u < a.length ∧ us.getD u false = false) : MI c a b us to (j + 1) (ts ++ [v]) (ls ++ [q]) := by
 obtain ⟨k1, k2, k3, k4⟩ := h
 have e1 : ∀ j', j' < j → (ts ++ [v]).getD j' 0 = ts.getD j' 0 ∧ (ls ++ [q]).getD j' default = ls.getD j' default := fun j' hj' => by
  constructor
  ·rw [List.getD_eq_getElem?_getD, List.getD_eq_getElem?_getD, List.getElem?_append_left (by omega)]
  ·rw [List.getD_eq_getElem?_getD, List.getD_eq_getElem?_getD, List.getElem?_append_left (by omega)]
 have e2 : (ts ++ [v]).getD j 0 = v ∧ (ls ++ [q]).getD j default = q := by
  constructor
  ·rw [← k1]; simp
  ·rw [← k2]; simp
 refine ⟨by simp [k1], by simp [k2], fun j' hj' h0 => ?_, fun j' hj' h0 => ?_⟩
 ·by_cases e : j' = j
  ·subst e; rw [e2.1, e2.2]; exact h1 h0
  ·have hlt : j' < j := by omega
   rw [(e1 j' hlt).1, (e1 j' hlt).2]; exact k3 j' hlt h0
 ·by_cases e : j' = j
  ·subst e; rw [e2.1, e2.2]; exact h2 h0
  ·have hlt : j' < j := by omega
   rw [(e1 j' hlt).1, (e1 j' hlt).2]; exact k4 j' hlt h0
theorem times_uniq {to : List Int} {x : Int} : ∀ {n : Nat}, (∀ j j', j < n → j' < n → to.getD j 0 = x → to.getD j' 0 = x → j = j') → timesN to x n ≤ 1
 | 0, _ => by simp [timesN]
 | n + 1, h => by
   rw [timesN]
   have ih := times_uniq (n := n) fun j j' h1 h2 => h j j' (by omega) (by omega)
   by_cases e : to.getD n 0 = x
   ·rw [if_pos e]
    have : timesN to x n = 0 := by
     have h0 : ∀ m, m ≤ n → timesN to x m = 0 := by
      intro m
      induction m with
      | zero => intro _; rfl
      | succ m ihm =>
        intro hm
        rw [timesN, ihm (by omega), if_neg (fun e' => by have := h m n (by omega) (by omega) e' e; omega)]
     exact h0 n (Nat.le_refl _)
    omega
   ·rw [if_neg e]; omega
theorem MI.cov {c : Cx} {a b : List Int} {us : List Bool} {to ts : List Int} {ls : List PP} (h : MI c a b us to b.length ts ls) (hpr : Pr (fun x y => E c.O (c.tm x) (c.tm y)) a b b.length us to) (hl : ∃ u : Nat, u < a.length ∧ us.getD u false = false) : CovK c ts ls a b := by
 obtain ⟨k1, k2, k3, k4⟩ := h
 have cas : ∀ j, j < b.length → (∃ u : Nat, to.getD j 0 = u ∧ u < a.length ∧ us.getD u false = true ∧ E c.O (c.tm (a.getD u 0)) (c.tm (b.getD j 0))) ∨ to.getD j 0 < 0 := fun j hj => by
  rcases hpr.t1 j hj with h | ⟨u, h1, h2, h3, h4⟩
  ·exact .inr (by omega)
  ·exact .inl ⟨u, h1, h2, h3, h4⟩
 refine ⟨k1, k2, fun j hj => ?_, fun x hx hp => ?_, ?_⟩
 ·rcases cas j hj with ⟨u, h1, h2, h3, h4⟩ | hn
  ·obtain ⟨e1, e2⟩ := k3 j hj (by omega)
   rw [if_pos e2, e1, h1]
   exact ⟨by omega, by rw [Int.toNat_natCast]; exact h4⟩
  ·obtain ⟨⟨e1, e2⟩, u, h1, h2, h3⟩ := k4 j hj hn
   rw [if_neg e1]
   exact ⟨by omega, e2⟩
 ·obtain ⟨j, hj, e1, e2⟩ := pairs_pos.1 hp
  have hto : ∀ j', j' < b.length → ts.getD j' 0 = (x : Int) → us.getD x false = true → to.getD j' 0 = (x : Int) := by
   intro j' hj' e ht
   rcases cas j' hj' with ⟨u, h1, _⟩ | hn
   ·rw [← (k3 j' hj' (by omega)).1]; exact e
   ·obtain ⟨_, u, h1, h2, h3⟩ := k4 j' hj' hn
    have : u = x := by omega
    subst this; rw [h3] at ht; cases ht
  have hux : us.getD x false = true := by
   rcases cas j hj with ⟨u, h1, h2, h3, _⟩ | hn
   ·have := (k3 j hj (by omega)).1
    have : u = x := by omega
    subst this; exact h3
   ·exact absurd e2 (k4 j hj hn).1.1
  refine times_uniq fun j1 j2 h1 h2 e1 e2 => ?_
  have t1 := hto j1 h1 e1 hux
  have t2 := hto j2 h2 e2 hux
  exact hpr.inj j1 j2 h1 h2 (by omega) (by omega)
 ·obtain ⟨u, hu, hf⟩ := hl
  refine ⟨u, hu, ?_⟩
  by_cases h0 : 0 < pairsN ts ls u b.length
  ·obtain ⟨j, hj, e1, e2⟩ := pairs_pos.1 h0
   rcases cas j hj with ⟨u', h1, h2, h3, _⟩ | hn
   ·have := (k3 j hj (by omega)).1
    have : u' = u := by omega
    subst this; rw [hf] at h3; cases h3
   ·exact absurd e2 (k4 j hj hn).1.1
  ·omega
theorem Sh.ne_nil {O : Od} {p : PP} {a b : T} (h : Sh O p a b) : ¬ p.nil := by
 rintro ⟨h1, _⟩
 exact Sh0 (by omega) (by omega) (by omega) (by omega) h
theorem c86_4 {c : Cx} (hc : c.Ok) {i k : Int} (hi : c.isN i) (hk : c.isN k) (hR : R c.O (c.tm i) (c.tm k)) (hr : RuleQ c i k 4) (hno : ∀ m, m < 4 → ¬ RuleQ c i k m) (hp2 : ∀ x ∈ c.kd i, ∀ y ∈ c.kd k, R c.O (c.tm x) (c.tm y) → PrfC c x y) : PrfC c i k := by
 intro H hD
 refine k86w.2.calls rfl ?_
 simp only [k86w, mkF]
 have k2 : ∀ l, (kav l).unown = kav l := fun l => (kav_one l).2.1
 have ki := hc.kids i hi
 have kk := hc.kids k hk
 have l1 := hc.kl i hi
 have l2 := hc.kl k hk
 obtain ⟨a1, a2, a3, a4, a5⟩ := kav_one (c.kd i)
 obtain ⟨b1, b2, b3, b4, b5⟩ := kav_one (c.kd k)
 have ii : IL (kav (c.kd i)) (c.kd i) := .inl rfl
 have ik : IL (kav (c.kd k)) (c.kd k) := .inl rfl
 have ei : (c.nd.getD i.toNat default).snd = c.kd i := rfl
 have ek : (c.nd.getD k.toNat default).snd = c.kd k := rfl
 obtain ⟨m1, m2, m3⟩ := hD.lt
 have ed : ∀ X : List AObj, (H ++ X)[c.d]? = H[c.d]? := fun X => List.getElem?_append_left m1
 have spv : ∀ x : AV, asplice [AV.nils] 0 [x] = [x] := fun x => rfl
 have spq : asplice [AV.int .i64 0, .int .i64 0, .nils, .nils] 0 [AV.int .i64 0, .int .i64 0, .nils, .nils] = [AV.int .i64 0, .int .i64 0, .nils, .nils] := rfl
 simp +contextual only [sZ, Nat.reduceEqDiff, Nat.reduceAdd, ↓reduceIte, reduceCtorEq]
 refine ldad_mono (K1 := fun e G => get e 1 = .int .i64 i ∧ get e 3 = .iptr (.ptr c.d 0) ∧ get e 5 = .iptr (.int .i64 k) ∧ get e 6 = .ptr H.length 0 ∧ ∃ x y, get e 7 = .ptr x 0 ∧ get e 8 = .ptr y 0 ∧ XY H x y ∧ PA c H x y i k G) ?_ ?_
 ·have P0 : AObj := .cells [.int .i64 0, .int .i64 0, .nils, .nils]
  have A : ∃ x y, AV.ptr (H.length + 1) 0 = .ptr x 0 ∧ AV.ptr (H.length + 2) 0 = .ptr y 0 ∧ XY H x y ∧ PA c H x y i k (H ++ [.cells [.int .i64 0, .int .i64 0, .nils, .nils], .cells [kav (c.kd i)], .cells [kav (c.kd k)]]) :=
   ⟨_, _, rfl, rfl, ⟨by omega, by omega, by omega, by omega⟩, ⟨hD.app _, by simp, by simp, by simp, by simp, fun j hj _ _ => List.getElem?_append_left hj⟩⟩
  have B : ∃ x y, AV.ptr (H.length + 2) 0 = .ptr x 0 ∧ AV.ptr (H.length + 1) 0 = .ptr y 0 ∧ XY H x y ∧ PA c H x y i k (H ++ [.cells [.int .i64 0, .int .i64 0, .nils, .nils], .cells [kav (c.kd k)], .cells [kav (c.kd i)]]) :=
   ⟨_, _, rfl, rfl, ⟨by omega, by omega, by omega, by omega⟩, ⟨hD.app _, by simp, by simp, by simp, by simp, fun j hj _ _ => List.getElem?_append_left hj⟩⟩
  simp +contextual only [ed, hD.d, idxN, fN3, len_navs, aload_kav, k2, ei, ek, a1, a3, a4, a5, b1, b3, b4, b5, List.map_cons, List.map_nil, spv, List.all_cons, List.all_nil, Bool.and_true, bl_cons, bl_nil, sZ, Nat.reduceEqDiff, Nat.reduceAdd, Nat.reduceLT, ↓reduceIte]
  refine ⟨hi, ?_⟩
  repeat' apply And.intro
  all_goals first | exact hk.1 | exact hk.2 | exact A | exact B
 ·rintro e G ⟨e1, e3, e5, e6, x, y, e7, e8, w, hpa⟩
  simp +contextual only [e1, e3, e5, e6, e7, e8, sZ, Nat.reduceEqDiff, ↓reduceIte]
  refine swp_loop_st 3 (fun m (G : List AObj) => PA c H x y i k G)
   (fun m G => [(1, .int .i64 i), (3, .iptr (.ptr c.d 0)), (5, .iptr (.int .i64 k)), (6, .ptr H.length 0), (7, .ptr x 0), (8, .ptr y 0), (9, .int .i64 ((m + 1 : Nat) : Int))]) (fun m G => G) G ⟨hpa, sle_refl _ _ _⟩ fun m G hm hpa => ?_
  have hf : rulesA.cells[m + 1]? = some (.fn (.func (182 + (m + 1))) [] []) := by
   have : m = 0 ∨ m = 1 ∨ m = 2 ∨ m = 3 := by omega
   rcases this with rfl | rfl | rfl | rfl <;> rfl
  have en := ixR (m + 1) _ hf (by omega)
  simp +contextual only [sZ]
  refine dcall_pure c136 ?_
  simp +contextual only [stepsA, en _ rfl, sZ, Nat.reduceEqDiff, Nat.reduceAdd, ↓reduceIte, reduceCtorEq]
  refine scall_to ((rules_c hc hi hk).at (n := m + 1) (by omega) (by omega) hpa.du) ?_
  rintro r G1 ⟨z, rfl, hz, hU, hD1⟩
  have hpa1 := hpa.call hD w hU hD1
  by_cases hmn : m = 3
  rotate_left
  ·have : z = false := by
    cases z with
    | false => rfl
    | true => exact absurd (hz.1 rfl) (hno (m + 1) (by omega))
   subst this
   simp +contextual only [Bool.not_false, sZ, Nat.reduceEqDiff, ↓reduceIte]
   exact ⟨m + 1, G1, ⟨by omega, hpa1⟩, by omega, sle_eq (by rw [wrap_nat (m + 1) (by omega)]) rfl⟩
  subst hmn
  have : z = true := hz.2 hr
  subst this
  have hl3 := hpa1.len
  have hpb := fun es => hpa1.app w es
  have hgp := fun es => (hpb es).gp
  have hgx := fun es => (hpb es).gx
  have hgy := fun es => (hpb es).gy
  have hst : ∀ (o o' : AObj), (G1 ++ [o]).set (H.length + 3) o' = G1 ++ [o'] := fun o o' => by rw [← hl3]; simp
  have ec : ((4 : Nat) : Int) = 4 := rfl
  have zf : List.map AV.unown [AV.int .i64 (4 : Int), .int .i64 0, .nils, .nils] = [.int .i64 (4 : Int), .int .i64 0, .nils, .nils] := rfl
  have zf0 : List.map AV.unown [AV.int .i64 0, .int .i64 0, .nils, .nils] = [.int .i64 0, .int .i64 0, .nils, .nils] := rfl
  have e86 : ∀ a b : Int, decide (a = b) = decide (a = b) := fun _ _ => rfl
  simp +contextual only [k2, decide_true, decide_false, Bool.not_true, Bool.not_true, bdP, hl3, hgp, hst, ec, zf, zf0, sp44, hgx, hgy, sZ, Nat.reduceEqDiff, Nat.reduceAdd, Nat.reduceLT, ↓reduceIte, reduceCtorEq, Int.reduceEq]
  have hpb0 := hpb [.int .i64 4, .int .i64 0, .nils, .nils]
  generalize G1 ++ [AObj.cells [AV.int .i64 4, .int .i64 0, .nils, .nils]] = G2 at hpb0 ⊢
  have ki2 : (c.tm i).k = 2 := (R_iff.1 hR).1
  have hmq : MulQ c i k := by
   rcases hr with h | h | h | h
   ·exact absurd h.1 (by decide)
   ·exact absurd h.1 (by decide)
   ·exact absurd h.1 (by decide)
   ·exact h.2
  obtain ⟨hlv, hs3, hmu⟩ := hmq
  have hlv2 := lvB_iff.1 hlv
  have kk2 : (c.tm k).k = 2 := hlv2.2.1
  have osi : opS c i = c.O.sp (c.O.pl (c.tm i).n) := by rw [opS, if_pos ki2]
  have gx0 := hpb0.gx
  have gy0 := hpb0.gy
  simp +contextual only [sZ]
  refine scall_to (c139 ii ik (by omega) (by omega) (fun z hz z' hz' => same_c hc (ki.2 z hz) (kk.2 z' hz')) hpb0.du) ?_
  rintro r G3 ⟨us, to, hpr, rfl, hU3, hD3⟩
  have hpb3 := hpb0.call hD w hU3 hD3
  have hmm := (Pr.mu (f := nf c) (G := Gt c.O.sp) hpr).1 hmu
  have lbl := below_len (c.kd i).length fun z => !us.getD z false
  have il : IL (kav (below (c.kd i).length fun z => !us.getD z false)) (below (c.kd i).length fun z => !us.getD z false) := .inl rfl
  have mml : ∀ {z : Int}, z ∈ below (c.kd i).length (fun z => !us.getD z false) → ∃ u : Nat, z = u ∧ u < (c.kd i).length ∧ us.getD u false = false := by
   intro z hz; obtain ⟨u, h1, h2, h3⟩ := mem_below.1 hz; exact ⟨u, h1, h2, by simpa using h3⟩
  have mmo : ∀ {j : Nat}, j < (c.kd k).length → to.getD j 0 < 0 → ∃ z ∈ below (c.kd i).length (fun z => !us.getD z false), R c.O (c.tm ((c.kd i).getD z.toNat 0)) (c.tm ((c.kd k).getD j 0)) := by
   intro j hj hn
   exact hmm.2 (j : Int) (mem_below.2 ⟨j, rfl, hj, by simpa using hn⟩)
  have hlne := hmm.1
  generalize (below (c.kd i).length fun z => !us.getD z false) = L at *
  have lto := hpr.lt
  obtain ⟨v1, v2, v3, v4, v5⟩ := kav_one L
  simp +contextual only [k2, ints_len, sZ, Nat.reduceEqDiff, Nat.reduceAdd, Nat.reduceLT, ↓reduceIte]
  intro _
  have hlne2 : ∃ u : Nat, u < (c.kd i).length ∧ us.getD u false = false := by
   cases L with
   | nil => exact absurd rfl hlne
   | cons z r =>
     obtain ⟨u, _, h2, h3⟩ := mml (List.mem_cons_self (a := z) (l := r))
     exact ⟨u, h2, h3⟩
  refine swp_loop_st (c.kd k).length (fun j (s : List AObj × List Int × List PP) => PB c H x y i k [.int .i64 4, .int .i64 0, tvA s.2.1, lvA s.2.2] s.1 ∧ MI c (c.kd i) (c.kd k) us to j s.2.1 s.2.2)
   (fun j s => [(3, .iptr (.ptr c.d 0)), (6, .ptr H.length 0), (7, .ptr x 0), (8, .ptr y 0), (10, .ptr (H.length + 3) 0), (11, kav L), (89, .lst 0 (ints to)), (90, .int .i64 to.length), (91, .int .i64 j)]) (fun j s => s.1) (G3, [], [])
   ⟨⟨hpb3, rfl, rfl, fun j h => by omega, fun j h => by omega⟩, sle_refl _ _ _⟩ fun j s hj hI => ?_
  obtain ⟨G, ts, ls⟩ := s
  obtain ⟨hpb, hmi⟩ := hI
  simp only at hpb hmi
  have hlen := hpb.len
  by_cases hjb : (j : Int) < to.length
  ·have hjl : j < (c.kd k).length := by omega
   have zf4 : ∀ n, belowL n (List.map AV.unown [AV.int .i64 0, .int .i64 0, .nils, .nils]) = true := fun _ => rfl
   have zf5 : List.map AV.unown [AV.int .i64 0, .int .i64 0, .nils, .nils] = [AV.int .i64 0, .int .i64 0, .nils, .nils] := rfl
   obtain ⟨tj, htj⟩ : ∃ tj, to.getD j 0 = tj := ⟨_, rfl⟩
   have hpc := hpb.appC w (.cells [.int .i64 0, .int .i64 0, .nils, .nils])
   by_cases hneg : tj < 0
   ·simp +contextual only [k2, decide_true, hjb, idx_intsI, lens_ints, Int.toNat_natCast, htj, hneg, hlen, zf5, sZ, Nat.reduceEqDiff, Nat.reduceAdd, ↓reduceIte, reduceCtorEq]
    have mz := fun (G' : List AObj) (hG' : SD c (G ++ [AObj.cells [AV.int .i64 0, .int .i64 0, .nils, .nils]]) G') => hpc.call hD w hG'.2 hG'.1
    have hjz : (0 : Int) ≤ j ∧ (j : Int) < (c.kd k).length := ⟨by omega, by omega⟩
    refine ⟨by omega, scall_to (c100s (SD.lenS c (G ++ [.cells [.int .i64 0, .int .i64 0, .nils, .nils]])) il (by omega) 148 [] [.iptr (.ptr c.d 0), .ptr x 0, .ptr y 0, .iptr (.int .i64 j)] rfl rfl (Q := fun z => R c.O (c.tm ((c.kd i).getD z.toNat 0)) (c.tm ((c.kd k).getD (j : Int).toNat 0)))
     (fun z hz G' hG' => ?_) ⟨hpc.du, Up.refl c _⟩) ?_⟩
    ·obtain ⟨u, rfl, hu, _⟩ := mml hz
     refine (c148 ii ik ⟨by omega, by omega⟩ hjz (more_c hc (ki.2 _ (getD_mem (by omega))) (kk.2 _ (getD_mem (by omega)))) hG'.1 (mz G' hG').gx (mz G' hG').gy).mono fun r H' hr => hr.sb hG'
    rintro r G4 ⟨hG4, hres⟩
    rcases hres with ⟨_, hres⟩ | ⟨m, rfl, hm, hQ, _⟩
    ·obtain ⟨z, hz, h⟩ := mmo hjl (by rw [htj]; exact hneg)
     exact absurd h (hres z hz)
    obtain ⟨u, hu, hul, huf⟩ := mml (getD_mem hm)
    have hpc4 := mz G4 hG4
    have gx4 := hpc4.gx
    have gy4 := hpc4.gy
    rw [hu, Int.toNat_natCast, Int.toNat_natCast] at hQ
    simp +contextual only [k2, ii.lens, ik.lens, ii.idx, ik.idx, il.lens, il.idx, Int.toNat_natCast, hu, gx4, gy4, sZ, Nat.reduceEqDiff, Nat.reduceAdd, Nat.reduceLT, ↓reduceIte, reduceCtorEq]
    refine ⟨by omega, ⟨by omega, by omega⟩, by omega, ?_⟩
    refine scall_to (hp2 _ (getD_mem hul) _ (getD_mem hjl) hQ _ hpc4.du) ?_
    rintro r G5 ⟨q, rfl, hq, hU5, hD5⟩
    have hpc5 := hpc4.call hD w hU5 hD5
    have go5 := hpc5.go
    have hpo := fun o => hpc5.setO (o' := o) hD w
    have hpos := fun o es => (hpo o).set (es' := es) hD w
    have gq5 := fun o => (hpo o).go
    have gp5 := fun o => (hpo o).gp
    have gqs := fun o es => (hpos o es).go
    have gps := fun o es => (hpos o es).gp
    obtain ⟨u1, u2, u3, u4, u5, u6, u7, u8, u9⟩ := ppA_facts q
    have bq : belowL (H.length + 4 + 1) (ppA q).cells = true := belowL_cells (ppA_blw _ _)
    have hmi2 := hmi.snoc (u : Int) q (fun h => by omega) (fun _ => ⟨⟨Sh.ne_nil hq, by rw [Int.toNat_natCast]; exact hq⟩, u, rfl, hul, huf⟩)
    have t1 := hmi.lt
    have t2 := hmi.ll
    have apt : ∀ ψ, aappend 1 8 (tvA ts) (.lst 0 [.int .i64 (u : Int)]) ψ = ψ (ints (ts ++ [(u : Int)])) := fun ψ => ap_tv ts _ (by omega) 0 ψ
    have apl : ∀ ψ, aappend 4 64 (lvA ls) (.lst 0 [ppA q]) ψ = ψ (ppAs (ls ++ [q])) := fun ψ => ap_lv ls q (by omega) 0 ψ
    have lpq := ldP2 q
    obtain ⟨x1, x2, x3, x4, x5, x6⟩ := tvA_facts (ts ++ [(u : Int)])
    obtain ⟨y1, y2, y3, y4, y5, y6⟩ := lvA_facts (ls ++ [q])
    obtain ⟨x1', x2', x3', x4', x5', x6'⟩ := tvA_facts ts
    obtain ⟨y1', y2', y3', y4', y5', y6'⟩ := lvA_facts ls
    have lvb : ∀ n, belowL n (ppAs (ls ++ [q])) = true := fun n => ppAs_blw _ _
    have tvb : ∀ n, belowL n (ints (ts ++ [(u : Int)])) = true := fun n => ints_blw _ _
    have hend : ∀ G', PC c H x y i k [.int .i64 4, .int .i64 0, tvA (ts ++ [(u : Int)]), lvA (ls ++ [q])] (.cells (ppA q).cells) G' → ∃ (j' : Nat) (t : List AObj × List Int × List PP), (j' ≤ (c.kd k).length ∧ PB c H x y i k [.int .i64 4, .int .i64 0, tvA t.2.1, lvA t.2.2] t.1 ∧ MI c (c.kd i) (c.kd k) us to j' t.2.1 t.2.2) ∧ (c.kd k).length - j' < (c.kd k).length - j ∧
     sle H.length [(3, .iptr (.ptr c.d 0)), (6, .ptr H.length 0), (7, .ptr x 0), (8, .ptr y 0), (10, .ptr (H.length + 3) 0), (11, kav L), (89, .lst 0 (ints to)), (90, .int .i64 to.length), (91, .int .i64 (IntKind.i64.wrap (j + 1)))] G' [(3, .iptr (.ptr c.d 0)), (6, .ptr H.length 0), (7, .ptr x 0), (8, .ptr y 0), (10, .ptr (H.length + 3) 0), (11, kav L), (89, .lst 0 (ints to)), (90, .int .i64 to.length), (91, .int .i64 j')] t.1 := by
     intro G' hG'
     obtain ⟨z1, z2⟩ := hG'.drop hD w
     have zl := z1.len
     have hb3 := v3
     refine ⟨j + 1, (G'.take (H.length + 4), ts ++ [(u : Int)], ls ++ [q]), ⟨hjl, z1, hmi2⟩, by omega, sle_drop (by rw [wrap_nat j (by omega)]) (by rw [zl]; omega) ?_ _ z2⟩
     obtain ⟨w1, w2, w3, w4⟩ := w
     rw [zl]
     simp only [envBlw, List.all_cons, List.all_nil, bw_iptr, bw_ptr, bw_int, bw_lst, v3, ints_blw, Bool.and_true, Bool.and_eq_true, decide_eq_true_eq]
     omega
    simp +contextual only [go5, spP, u1, u2, u3, u9, bq, gq5, gp5, gqs, gps, d2, d3, s2, s3, List.set_set, ppA_canon, apt, apl, lpq, tvA_snoc, lvA_snoc, x3, x4, y3, y4, sZ, Nat.reduceEqDiff, Nat.reduceAdd, Nat.reduceLT, ↓reduceIte]
    repeat' apply And.intro
    all_goals exact hend _ (hpos _ _)
   ·have t1 := hmi.lt
    have t2 := hmi.ll
    obtain ⟨q0, hq0⟩ : ∃ q0, q0 = PP.mk 0 0 [] [] := ⟨_, rfl⟩
    have hnil : q0.nil := by rw [hq0]; exact ⟨rfl, rfl, rfl, rfl⟩
    have lpz : ∀ φ, loadC (some (.cells [.int .i64 0, .int .i64 0, .nils, .nils])) (some 4) 0 φ = φ (ppA q0) := by rw [hq0]; exact ldP 0 0 [] []
    obtain ⟨u1, u2, u3, u4, u5, u6, u7, u8, u9⟩ := ppA_facts q0
    have hmi2 := hmi.snoc tj q0 (fun h => ⟨htj.symm, hnil⟩) (fun h => by omega)
    have apt : ∀ ψ, aappend 1 8 (tvA ts) (.lst 0 [.int .i64 tj]) ψ = ψ (ints (ts ++ [tj])) := fun ψ => ap_tv ts _ (by omega) 0 ψ
    have apl : ∀ ψ, aappend 4 64 (lvA ls) (.lst 0 [ppA q0]) ψ = ψ (ppAs (ls ++ [q0])) := fun ψ => ap_lv ls q0 (by omega) 0 ψ
    have hpos := fun es => hpc.set (es' := es) hD w
    have gp5 := hpc.gp
    have go5 := hpc.go
    have gqs := fun es => (hpos es).go
    have gps := fun es => (hpos es).gp
    obtain ⟨x1, x2, x3, x4, x5, x6⟩ := tvA_facts (ts ++ [tj])
    obtain ⟨y1, y2, y3, y4, y5, y6⟩ := lvA_facts (ls ++ [q0])
    obtain ⟨x1', x2', x3', x4', x5', x6'⟩ := tvA_facts ts
    obtain ⟨y1', y2', y3', y4', y5', y6'⟩ := lvA_facts ls
    have lvb : ∀ n, belowL n (ppAs (ls ++ [q0])) = true := fun n => ppAs_blw _ _
    have tvb : ∀ n, belowL n (ints (ts ++ [tj])) = true := fun n => ints_blw _ _
    have hend : ∀ G', PC c H x y i k [.int .i64 4, .int .i64 0, tvA (ts ++ [tj]), lvA (ls ++ [q0])] (.cells [.int .i64 0, .int .i64 0, .nils, .nils]) G' → ∃ (j' : Nat) (t : List AObj × List Int × List PP), (j' ≤ (c.kd k).length ∧ PB c H x y i k [.int .i64 4, .int .i64 0, tvA t.2.1, lvA t.2.2] t.1 ∧ MI c (c.kd i) (c.kd k) us to j' t.2.1 t.2.2) ∧ (c.kd k).length - j' < (c.kd k).length - j ∧
     sle H.length [(3, .iptr (.ptr c.d 0)), (6, .ptr H.length 0), (7, .ptr x 0), (8, .ptr y 0), (10, .ptr (H.length + 3) 0), (11, kav L), (89, .lst 0 (ints to)), (90, .int .i64 to.length), (91, .int .i64 (IntKind.i64.wrap (j + 1)))] G' [(3, .iptr (.ptr c.d 0)), (6, .ptr H.length 0), (7, .ptr x 0), (8, .ptr y 0), (10, .ptr (H.length + 3) 0), (11, kav L), (89, .lst 0 (ints to)), (90, .int .i64 to.length), (91, .int .i64 j')] t.1 := by
     intro G' hG'
     obtain ⟨z1, z2⟩ := hG'.drop hD w
     have zl := z1.len
     have hb3 := v3
     refine ⟨j + 1, (G'.take (H.length + 4), ts ++ [tj], ls ++ [q0]), ⟨hjl, z1, hmi2⟩, by omega, sle_drop (by rw [wrap_nat j (by omega)]) (by rw [zl]; omega) ?_ _ z2⟩
     obtain ⟨w1, w2, w3, w4⟩ := w
     rw [zl]
     simp only [envBlw, List.all_cons, List.all_nil, bw_iptr, bw_ptr, bw_int, bw_lst, v3, ints_blw, Bool.and_true, Bool.and_eq_true, decide_eq_true_eq]
     omega
    simp +contextual only [decide_true, decide_false, hjb, idx_intsI, lens_ints, Int.toNat_natCast, htj, hneg, hlen, zf5, u1, u2, gp5, go5, gqs, gps, d2, d3, s2, s3, List.set_set, ppA_canon, apt, apl, lpz, tvA_snoc, lvA_snoc, x3, x4, y3, y4, sZ, Nat.reduceEqDiff, Nat.reduceAdd, Nat.reduceLT, ↓reduceIte]
    refine ⟨by omega, ?_⟩
    repeat' apply And.intro
    all_goals exact hend _ (hpos _)
  ·have hje : j = (c.kd k).length := by omega
   subst hje
   have hs : Sh c.O (.mk 4 0 ts ls) (c.tm i) (c.tm k) := by
    rw [Sh4 rfl ki2]
    rw [osi] at hs3
    refine ⟨rfl, kk2, hlv2.2.2, hs3, ?_⟩
    show Cov (E c.O) (Sh c.O) ts ls (c.tm i).l (c.tm k).l
    rw [← ki.1, ← kk.1, ← CovK_iff]
    exact hmi.cov hpr hlne2
   have gp6 := hpb.gp
   have g66 := hpb.g6
   have lp := ldP 4 0 ts ls
   obtain ⟨q1, q2, q3, q4, q5, q6, q7, q8, q9⟩ := ppA_facts (.mk 4 0 ts ls)
   have lp2 := ldP2 (.mk 4 0 ts ls)
   have hgs := List.getElem?_set_self (a := AObj.cells (ppA (.mk 4 0 ts ls)).cells) (get_lt g66)
   have hb6 : belowL (H.length + 1) (ppA (.mk 4 0 ts ls)).cells = true := belowL_cells (ppA_blw _ _)
   have hfin := PB.fin hD hpb hs
   simp +contextual only [decide_false, hjb, gp6, g66, lp, q1, q2, q3, q9, spP, hgs, lp2, hb6, sZ, Nat.reduceEqDiff, Nat.reduceAdd, ↓reduceIte, reduceCtorEq]
   first | exact hfin | exact ⟨by omega, hfin⟩
end Go.Abs
end
section
set_option maxRecDepth 100000
namespace Go.Abs
open Go Go.Proofs Go.Rpo
theorem least_of {P : Nat → Prop} : ∀ {n : Nat}, P n → ∃ m, m ≤ n ∧ P m ∧ ∀ j, j < m → ¬ P j := by
 intro n
 induction n using Nat.strongRecOn with
 | _ n ih =>
   intro h
   by_cases hx : ∃ j, j < n ∧ P j
   ·obtain ⟨j, hj, hp⟩ := hx
    obtain ⟨m, h1, h2, h3⟩ := ih j hj hp
    exact ⟨m, by omega, h2, h3⟩
   ·exact ⟨n, Nat.le_refl _, h, fun j hj hp => hx ⟨j, hj, hp⟩⟩
theorem c86 {c : Cx} (hc : c.Ok) : ∀ (N : Nat) (i k : Int), c.isN i → c.isN k → wt (c.tm i) + wt (c.tm k) ≤ N → R c.O (c.tm i) (c.tm k) → PrfC c i k := by
 intro N
 induction N with
 | zero => intro i k _ _ h; have := wt_pos (c.tm i); omega
 | succ N ih =>
 intro i k hi hk hN hR
 have hx : ∀ {j : Int}, c.isN j → ∀ x ∈ c.kd j, c.isN x ∧ wt (c.tm x) < wt (c.tm j) := fun {j} hj x hx => by
  have h1 := hc.kids j hj
  exact ⟨h1.2 x hx, wt_mem (by rw [← h1.1]; exact List.mem_map.2 ⟨x, hx, rfl⟩)⟩
 have p1 : ∀ x ∈ c.kd i, R c.O (c.tm x) (c.tm k) → PrfC c x k := fun x h r => ih x k (hx hi x h).1 hk (by have := (hx hi x h).2; omega) r
 have p2 : ∀ y ∈ c.kd k, R c.O (c.tm i) (c.tm y) → PrfC c i y := fun y h r => ih i y hi (hx hk y h).1 (by have := (hx hk y h).2; omega) r
 have p3 : ∀ x ∈ c.kd i, ∀ y ∈ c.kd k, R c.O (c.tm x) (c.tm y) → PrfC c x y := fun x h y h' r => ih x y (hx hi x h).1 (hx hk y h').1 (by have := (hx hi x h).2; have := (hx hk y h').2; omega) r
 obtain ⟨_, n, hn, hr⟩ := (rules_iff hc hi hk).2 hR
 obtain ⟨m, hm, hr, hno⟩ := least_of (P := fun n => RuleQ c i k n) hr
 have : m = 1 ∨ m = 2 ∨ m = 3 ∨ m = 4 := by
  rcases hr with h | h | h | h
  ·exact .inl h.1
  ·exact .inr (.inl h.1)
  ·exact .inr (.inr (.inl h.1))
  ·exact .inr (.inr (.inr h.1))
 rcases this with rfl | rfl | rfl | rfl
 ·exact c86_1 hc hi hk hR hr hno p1
 ·exact c86_2 hc hi hk hR hr hno p2
 ·exact c86_3 hc hi hk hR hr hno p2 p3
 ·exact c86_4 hc hi hk hR hr hno p3
theorem prf_c {c : Cx} (hc : c.Ok) {i k : Int} (hi : c.isN i) (hk : c.isN k) (hR : R c.O (c.tm i) (c.tm k)) : PrfC c i k := c86 hc _ i k hi hk (Nat.le_refl _) hR
def nilP : PP := .mk 0 0 [] []
def ProveR (s : Sg) (ps ss : List Int) (a b : T) (r : AV) : Prop :=
 (askS s ps ss [a, b] ≠ 0 ∧ r = .tuple [ppA nilP, .bool false, .int .i64 (askS s ps ss [a, b])]) ∨
 (askS s ps ss [a, b] = 0 ∧ ¬ R (odOf ps ss) a b ∧ r = .tuple [ppA nilP, .bool false, .int .i64 0]) ∨
 (askS s ps ss [a, b] = 0 ∧ ∃ p, Sh (odOf ps ss) p a b ∧ r = .tuple [ppA p, .bool true, .int .i64 0])
theorem Up.keep {c : Cx} {G0 G : List AObj} (h : Up c G0 G) {n : Nat} (he : n ≤ c.e) (hg : n ≤ c.g) : G.take n = G0.take n := by
 apply List.ext_getElem?
 intro j
 rw [List.getElem?_take, List.getElem?_take]
 split
 ·rename_i hj; exact h.get j (by omega) (by omega)
 ·rfl
theorem aret_ctt (n0 s s' s'' : Nat) (sz : Option Nat) (env : Env) (H : List AObj) (R : AV → List AObj → Prop) : aret n0 [.c s sz, .t s', .t s''] env H R = aload sz (get env s) H fun x => aret2 n0 [x, get env s', get env s''] H R := _root_.id rfl
theorem ret3w {Hs G : List AObj} {n0 : Nat} {u v w : AV} {R : AV → List AObj → Prop} (hH : Hs.take n0 = G) (hb : belowL n0 [u, v, w] = true) (hu : [u, v, w].map AV.unown = [u, v, w]) (hR : R (.tuple [u, v, w]) G) : aret2 n0 [u, v, w] Hs R := by
 subst hH
 exact ⟨n0, Nat.le_refl _, _, by rw [hu]; exact LeL_refl _, hb, hR⟩
theorem set_low {H G : List AObj} {o : AObj} (h : G.take H.length = H) : (G.set H.length o).take H.length = H := by
 rw [List.take_set_of_le (Nat.le_refl _), h]
theorem c27 (s : Sg) (ps ss : List Int) (a b : T) (H : List AObj) : ACalls Tryz.prog 27 [s.av, odA ps ss, a.av, b.av] H fun r H' => ProveR s ps ss a b r ∧ H' = H := by
 refine k27.2.calls rfl ?_
 simp only [k27, mkF]
 obtain ⟨q1, q2, q3, q4, q5, q6⟩ := odA_facts ps ss
 have zf4 : ∀ n, belowL n (List.map AV.unown [AV.int .i64 0, .int .i64 0, .nils, .nils]) = true := fun _ => rfl
 have zf5 : List.map AV.unown [AV.int .i64 0, .int .i64 0, .nils, .nils] = [AV.int .i64 0, .int .i64 0, .nils, .nils] := rfl
 simp +contextual only [stepsO, q1, q4, li_od, zf5, sZ, Nat.reduceEqDiff, Nat.reduceAdd, ↓reduceIte, reduceCtorEq]
 have g0 : (H ++ [AObj.cells [AV.int .i64 0, .int .i64 0, .nils, .nils]])[H.length]? = some (.cells [.int .i64 0, .int .i64 0, .nils, .nils]) := by simp
 have hl1 : (H ++ [AObj.cells [AV.int .i64 0, .int .i64 0, .nils, .nils]]).length = H.length + 1 := by simp
 have ht1 : (H ++ [AObj.cells [AV.int .i64 0, .int .i64 0, .nils, .nils]]).take H.length = H := by simp
 refine scall_pure (c74 s ps ss [a, b]) ?_
 generalize H ++ [AObj.cells [AV.int .i64 0, .int .i64 0, .nils, .nils]] = H1 at g0 hl1 ht1 ⊢
 have ldz : ∀ φ, loadC (some (.cells [.int .i64 0, .int .i64 0, .nils, .nils])) (some 4) 0 φ = φ (ppA nilP) := ldP 0 0 [] []
 have zb : ∀ p b n, belowL H.length [ppA p, .bool b, .int .i64 n] = true := fun p b n => by simp [bl_cons, bl_nil, ppA_blw, bw_bool, bw_int]
 have zu : ∀ p b n, [ppA p, AV.bool b, .int .i64 n].map AV.unown = [ppA p, .bool b, .int .i64 n] := fun p b n => by simp [(ppA_facts p).2.2.2.1, un_bool, un_int]
 by_cases h0 : askS s ps ss [a, b] = 0
 ·have hr := askS_ok h0
  have hw := wts_all hr.tree
  have hc := hr.cx (by simp) (by simp) H1.length
  have hd := cx_du ps ss (ts := [a, b]) (by simp) H1
  simp +contextual only [q4, li_od, h0, sZ, Nat.reduceEqDiff, Nat.reduceAdd, ↓reduceIte]
  refine scall_to (c75 ps ss [a, b] _ (by simp at hw; omega)) ?_
  rintro r G ⟨rfl, rfl⟩
  have a0 := cx_at (ps := ps) (ss := ss) (ts := [a, b]) (n := H1.length) (j := 0) (by simp)
  have a1 := cx_at (ps := ps) (ss := ss) (ts := [a, b]) (n := H1.length) (j := 1) (by simp)
  have hl := kidsOf_len [a, b] 0
  rw [kav2]
  generalize kidsOf [a, b] 0 = ks at a0 a1 hl ⊢
  have hl2 : ks.length = 2 := hl
  simp +contextual only [idx_intsI, hl2, lens_ints, sZ, Nat.reduceEqDiff, Nat.reduceAdd, Nat.reduceLT, ↓reduceIte, reduceCtorEq]
  refine ⟨by decide, by decide, scall_to (more_c hc a0.1 a1.1 _ hd) ?_⟩
  rintro r G ⟨x, rfl, hx, hU, hD⟩
  rw [a0.2, a1.2] at hx
  have hx' : x = true ↔ R (odOf ps ss) a b := hx
  have he : (cxOf ps ss [a, b] H1.length).e = H.length + 1 := hl1
  have hg : (cxOf ps ss [a, b] H1.length).g = H.length + 2 := by show H1.length + 1 = _; omega
  have low : ∀ G', Up (cxOf ps ss [a, b] H1.length) G G' → G'[H.length]? = some (.cells [.int .i64 0, .int .i64 0, .nils, .nils]) ∧ G'.take H.length = H := by
   intro G' hU'
   have hU2 := hU.trans hU'
   refine ⟨by rw [hU2.get _ (by omega) (by omega), List.getElem?_append_left (by omega)]; exact g0, ?_⟩
   rw [hU2.keep (n := H.length) (by omega) (by omega), List.take_append_of_le_length (by omega), ht1]
  have gz := low G (Up.refl _ _)
  have gz1 := gz.1
  have gzs := fun o => List.getElem?_set_self (a := o) (get_lt gz1)
  have nilc : (ppA nilP).cells = [AV.int .i64 0, .int .i64 0, .lst 0 [], .lst 0 []] := rfl
  cases x with
  | false =>
    simp +contextual only [Bool.not_false, gz1, gzs, zf5, sp44, aret_ctt, ldz, sZ, Nat.reduceEqDiff, Nat.reduceAdd, ↓reduceIte, reduceCtorEq]
    refine ret3w (set_low gz.2) (zb _ _ _) (zu _ _ _) ⟨.inr (.inl ⟨h0, fun h => absurd (hx'.2 h) (by simp), rfl⟩), rfl⟩
  | true =>
    simp +contextual only [Bool.not_true, idx_intsI, hl2, lens_ints, sZ, Nat.reduceEqDiff, Nat.reduceAdd, ↓reduceIte, reduceCtorEq]
    refine ⟨by decide, by decide, scall_to (prf_c hc a0.1 a1.1 (by rw [a0.2, a1.2]; exact hx'.1 rfl) _ hD) ?_⟩
    rintro r G2 ⟨p, rfl, hp, hU2, hD2⟩
    rw [a0.2, a1.2] at hp
    obtain ⟨gy1, gy2⟩ := low G2 hU2
    have gys := fun o => List.getElem?_set_self (a := o) (get_lt gy1)
    obtain ⟨u1, u2, u3, u4, u5, u6, u7, u8, u9⟩ := ppA_facts p
    have lpq := ldP2 p
    have hb6 : belowL (H.length + 1) (ppA p).cells = true := belowL_cells (ppA_blw _ _)
    simp +contextual only [gy1, gys, u1, u2, u3, u9, spP, lpq, hb6, aret_ctt, sZ, Nat.reduceEqDiff, Nat.reduceAdd, ↓reduceIte, reduceCtorEq]
    first | exact ret3w (set_low gy2) (zb _ _ _) (zu _ _ _) ⟨.inr (.inr ⟨h0, p, hp, rfl⟩), rfl⟩ | exact ⟨by omega, ret3w (set_low gy2) (zb _ _ _) (zu _ _ _) ⟨.inr (.inr ⟨h0, p, hp, rfl⟩), rfl⟩⟩
 ·have gs : ∀ o, (H1.set H.length o)[H.length]? = some o := fun o => List.getElem?_set_self (by omega)
  simp +contextual only [h0, g0, gs, zf5, sp44, aret_ctt, ldz, sZ, Nat.reduceEqDiff, Nat.reduceAdd, ↓reduceIte, reduceCtorEq]
  refine ret3w (set_low ht1) (zb _ _ _) (zu _ _ _) ⟨.inl ⟨h0, rfl⟩, rfl⟩
end Go.Abs
end
section
set_option maxRecDepth 100000
namespace Go.Abs
open Go Go.Proofs Go.Rpo
def eqas (l : List Eqt) : List AV := l.map Eqt.av
theorem eqas_len (l : List Eqt) : (eqas l).length = l.length := by simp [eqas]
theorem eqas_blw (n : Nat) (l : List Eqt) : belowL n (eqas l) = true := by
 rw [belowL_iff]; intro x hx; obtain ⟨y, _, rfl⟩ := List.mem_map.1 hx
 exact y.facts.2.2.2.2.2 n
theorem lens_eq (o : Nat) (l : List Eqt) : (∀ (own : Nat) (xs : List AV), AV.lst o (eqas l) = AV.lst own xs → ∀ z ∈ xs, z.cells.length = 8) = True := by
 simp only [eq_iff_iff, iff_true]
 intro own xs e z hz
 cases e
 obtain ⟨y, _, rfl⟩ := List.mem_map.1 hz; rfl
theorem idx_eq (e o : Nat) (l : List Eqt) (k : IntKind) (i : Nat) (φ : AV → Prop) : aindexAddr e (.lst o (eqas l)) (.int k (i : Int)) φ = (i < l.length ∧ φ (.iptr (l.getD i default).av)) := by
 simp only [aindexAddr, eqas_len, Int.toNat_natCast, eq_iff_iff]
 constructor
 ·rintro ⟨_, h, h2⟩; refine ⟨h, ?_⟩; simpa [eqas, h] using h2
 ·rintro ⟨h, h2⟩; refine ⟨by omega, h, ?_⟩; simpa [eqas, h] using h2
theorem li_eq (e : Eqt) (H : List AObj) (φ : AV → Prop) : aload (some 8) (.iptr e.av) H φ = φ e.av := by simp [aload, Eqt.av, AV.cells]
structure EqOk (ps : List Int) (e : Eqt) : Prop where
 few : e.cs.length ≤ 1000
 tree : ∀ t ∈ e.a :: e.rest, t.tree = true
 ops : ∀ t ∈ e.a :: e.rest, All (fun n => 0 ≤ n ∧ n < ps.length) t
open Classical in
noncomputable def decQ (ps ss : List Int) (e : Eqt) : Bool := decide (DecQ ps ss e)
theorem c163q (ps ss : List Int) (e : Eqt) (hv : Va ps ss) (he : EqOk ps e) : Pure Tryz.prog 163 [odA ps ss, e.av] (.bool (decQ ps ss e)) := by
 intro H
 refine (c163 ps ss e hv he.few he.tree he.ops H).mono ?_
 rintro r H' ⟨⟨b, rfl, hb⟩, rfl⟩
 refine ⟨?_, rfl⟩
 congr 1
 rw [Bool.eq_iff_iff, hb]
 simp [decQ]
theorem c162 (ps ss : List Int) (e : Eqt) (hv : Va ps ss) (he : EqOk ps e) : Pure Tryz.prog 162 [e.av, .iptr (odA ps ss)] (.bool (!decQ ps ss e)) := by
 refine fun H => k162.2.calls rfl ?_
 simp only [k162, mkF]
 obtain ⟨q1, q2, q3, q4, q5, q6⟩ := odA_facts ps ss
 obtain ⟨e1, e2, e3, e4, e5, e6⟩ := Eqt.facts e
 simp +contextual only [q4, e1, e4, li_od, li_eq, sZ, Nat.reduceEqDiff, Nat.reduceAdd, ↓reduceIte, reduceCtorEq]
 refine scall_pure (c163q ps ss e hv he) ?_
 simp +contextual only [sZ, ↓reduceIte, reduceCtorEq]
 exact ret0 rfl rfl
def idxB {α : Type} (p : α → Bool) : List α → Nat → Int
 | [], _ => -1
 | x :: r, i => if p x = true then (i : Int) else idxB p r (i + 1)
theorem idxB_drop {α : Type} [Inhabited α] {p : α → Bool} {l : List α} {i : Nat} (h : i < l.length) : idxB p (l.drop i) i = if p (l.getD i default) = true then (i : Int) else idxB p (l.drop (i + 1)) (i + 1) := by
 have e : l.getD i default = l[i] := by simp [h]
 rw [List.drop_eq_getElem_cons h, idxB, e]
theorem c161 (ps ss : List Int) (l : List Eqt) (hv : Va ps ss) (he : ∀ e ∈ l, EqOk ps e) : Pure Tryz.prog 161 [.lst 0 (eqas l), .fn (.func 162) [] [.iptr (odA ps ss)]] (.int .i64 (idxB (fun e => !decQ ps ss e) l 0)) := by
 refine fun H => k161.2.calls rfl ?_
 simp only [k161, mkF]
 simp +contextual only [eqas_len, sZ, Nat.reduceEqDiff, Nat.reduceAdd, ↓reduceIte, reduceCtorEq]
 intro hl
 refine swp_loop_nat l.length (fun i => idxB (fun e => !decQ ps ss e) (l.drop i) i = idxB (fun e => !decQ ps ss e) l 0) (fun i => [(0, .lst 0 (eqas l)), (1, .fn (.func 162) [] [.iptr (odA ps ss)]), (7, .int .i64 l.length), (8, .int .i64 i)]) (fun _ => H) ⟨rfl, sle_refl _ _ _⟩ fun i hi hI => ?_
 obtain ⟨e1, e2, e3, e4, e5, e6⟩ := Eqt.facts (l.getD i default)
 simp +contextual only [lens_eq, idx_eq, li_eq, e4, sZ, Nat.reduceEqDiff, Nat.reduceAdd, ↓reduceIte, reduceCtorEq]
 refine ⟨fun hlt => ?_, fun hge => ?_⟩
 ·have hlt := len_lt hlt
  have hm : l.getD i default ∈ l := by
   rw [List.getD_eq_getElem?_getD, List.getElem?_eq_getElem hlt]; exact List.getElem_mem hlt
  rw [idxB_drop hlt] at hI
  refine ⟨hlt, scall_pure (c162 ps ss _ hv (he _ hm)) ?_⟩
  cases hb : decQ ps ss (l.getD i default) with
  | false =>
    rw [if_pos (by rw [hb]; rfl)] at hI
    simp +contextual only [Bool.not_false, sZ, Nat.reduceEqDiff, ↓reduceIte, reduceCtorEq]
    exact ret0 rfl (by rw [← hI])
  | true =>
    rw [if_neg (by rw [hb]; simp)] at hI
    simp +contextual only [Bool.not_true, sZ, Nat.reduceEqDiff, ↓reduceIte, reduceCtorEq]
    exact ⟨i + 1, ⟨hlt, hI⟩, by omega, sle_eq (by rw [wrap_nat i (by omega)]) rfl⟩
 ·rw [List.drop_of_length_le (len_nlt hge)] at hI
  exact ret0 rfl (by rw [← hI]; rfl)
structure Ty where
 s : Sg
 es : List Eqt
deriving Inhabited
def Ty.av (t : Ty) : AV := .agg [.lst 0 (strs t.s.sorts), .lst 0 (opas t.s.ops), .lst 0 (eqas t.es)]
theorem Ty.facts (t : Ty) : t.av.val = true ∧ t.av.cells.length = 3 ∧ t.av.cells.all AV.one = true ∧ t.av.unown = t.av ∧ t.av.drop = t.av ∧ ∀ n, t.av.blw n = true :=
 ⟨rfl, rfl, rfl, rfl, rfl, fun n => by simp [Ty.av, AV.blw, belowL, strs_blw, opas_blw, eqas_blw]⟩
theorem fY0 (t : Ty) (φ : AV → Prop) : afieldAddr 0 (some 2) (.iptr t.av) φ = φ (.iptr t.s.av) := by simp [afieldAddr, apart, Ty.av, Sg.av, AV.cells]
theorem fY2 (t : Ty) (φ : AV → Prop) : afieldAddr 2 none (.iptr t.av) φ = φ (.iptr (.lst 0 (eqas t.es))) := by simp [afieldAddr, apart, Ty.av, AV.cells, AV.one]
theorem fS1 (s : Sg) (φ : AV → Prop) : afieldAddr 1 none (.iptr s.av) φ = φ (.iptr (.lst 0 (opas s.ops))) := by simp [afieldAddr, apart, Sg.av, AV.cells, AV.one]
theorem li_ty (t : Ty) (H : List AObj) (φ : AV → Prop) : aload (some 3) (.iptr t.av) H φ = φ t.av := by simp [aload, Ty.av, AV.cells]
noncomputable def blamS (t : Ty) (ps ss : List Int) : Int := idxB (fun e => !decQ ps ss e) t.es 0
theorem c89 (t : Ty) (ps ss : List Int) (hv : Va ps ss) (he : ∀ e ∈ t.es, EqOk ps e) : Pure Tryz.prog 89 [t.av, odA ps ss] (.int .i64 (blamS t ps ss)) := by
 refine fun H => k89.2.calls rfl ?_
 simp only [k89, mkF]
 obtain ⟨q1, q2, q3, q4, q5, q6⟩ := odA_facts ps ss
 obtain ⟨e1, e2, e3, e4, e5, e6⟩ := Ty.facts t
 simp +contextual only [q1, e1, fY2, sZ, Nat.reduceEqDiff, Nat.reduceAdd, ↓reduceIte, reduceCtorEq]
 refine scall_pure (c161 ps ss t.es hv he) ?_
 simp +contextual only [sZ, ↓reduceIte, reduceCtorEq]
 exact ret0 rfl rfl
end Go.Abs
end
section
set_option maxRecDepth 100000
set_option maxHeartbeats 0
namespace Go.Abs
open Go Go.Proofs
noncomputable def k112v := mkF Tryz.call112 Tryz.func112 Tryz.ntmps112 [(0,0,1),(8,0,3001)] [(0,[1,2,3,4,8]),(1,[1,2,3,8,9]),(2,[1,2,3,8,10]),(3,[2,3,8,10,24,25,26]),(4,[2,3,8,10,24,25,26,27]),(5,[2,3,8,10,11,12,24,25,26]),(6,[2,3,8,10,24,25,26]),(7,[2,3,8,10,24,25,26]),(8,[8])] [(6,(.take 0 true (.take 1 true (.take 2 true (.take 6 true (.take 7 true (.take 8 true (.take 9 true (.take 10 true (.take 11 true (.take 12 true (.take 13 true (.take 14 true (.take 3 false (.take 5 false (.br 4 (.br 15 (.take 16 true (.br 17 .done .nil)) .nil) (.br 15 (.take 4 true (.take 16 true (.br 17 .done .nil))) .nil)))))))))))))))))]
end Go.Abs
end
section
set_option maxRecDepth 100000
namespace Go.Abs
open Go Go.Proofs Go.Rpo
def setAll : List Int → List Int → List Int → List Int
 | l, i :: r, x :: s => setAll (l.set i.toNat x) r s
 | l, _, _ => l
def ordP (n : Nat) (ops pl : List Int) : List Int := setAll (List.replicate n 255) ops pl
def ordS (n : Nat) (ops st : List Int) : List Int := setAll (List.replicate n 1) ops st
theorem setAll_len : ∀ (l r s : List Int), (setAll l r s).length = l.length
 | l, [], _ => by cases l <;> rfl
 | l, _ :: _, [] => rfl
 | l, i :: r, x :: s => by rw [setAll, setAll_len]; simp
theorem c112 (t : Ty) (ops pl st : List Int) {vo vp vs : AV} (ho : IL vo ops) (hp : IL vp pl) (hs : IL vs st) (hl1 : pl.length = ops.length) (hl2 : st.length = ops.length) (hr : ∀ i ∈ ops, 0 ≤ i ∧ i < t.s.ops.length) (hn : t.s.ops.length ≤ 1000000000) (hno : ops.length ≤ 1000000000) : Pure Tryz.prog 112 [t.av, vo, vp, vs] (odA (ordP t.s.ops.length ops pl) (ordS t.s.ops.length ops st)) := by
 refine fun H => k112v.2.calls rfl ?_
 simp only [k112v, mkF]
 obtain ⟨e1, e2, e3, e4, e5, e6⟩ := Ty.facts t
 obtain ⟨a1, a2, a3, a4⟩ := ho.one
 obtain ⟨b1, b2, b3, b4⟩ := hp.one
 obtain ⟨c1, c2, c3, c4⟩ := hs.one
 simp +contextual only [e1, fY0, fS1, opas_len, sZ, Nat.reduceEqDiff, Nat.reduceAdd, ↓reduceIte, reduceCtorEq]
 intro _
 refine scall_to (c113 0 255 t.s.ops.length hn _) ?_
 rintro r G ⟨rfl, rfl⟩
 simp +contextual only [sZ, Nat.reduceEqDiff, Nat.reduceAdd, ↓reduceIte]
 refine scall_to (c113 0 1 t.s.ops.length hn _) ?_
 rintro r G ⟨rfl, rfl⟩
 simp +contextual only [sZ, Nat.reduceEqDiff, Nat.reduceAdd, ↓reduceIte]
 obtain ⟨n, hn'⟩ : ∃ n, n = t.s.ops.length := ⟨_, rfl⟩
 rw [← hn'] at hn hr ⊢
 have va : ∀ a b c d, (AV.arr a b c d).val = true := fun _ _ _ _ => rfl
 have vc : ∀ a b c d, (AV.arr a b c d).cells = [.arr a b c d] := fun _ _ _ _ => rfl
 have vo' : ∀ a b c d, (AV.arr a b c d).one = true := fun _ _ _ _ => rfl
 have vd : ∀ a b c d, (AV.arr a b c d).drop = .arr a b c d := fun _ _ _ _ => rfl
 have bdA : ∀ (a1 b1 c1 d1 a2 b2 c2 d2 : Nat) (φ : AV → Prop), abuild [AV.nils, AV.nils] [(0, 1, .arr a1 b1 c1 d1), (1, 1, .arr a2 b2 c2 d2)] φ = φ (.agg [.arr a1 b1 c1 d1, .arr a2 b2 c2 d2]) := by
  intro a1 b1 c1 d1 a2 b2 c2 d2 φ
  simp only [abuild, afill, eq_iff_iff]
  constructor
  ·rintro ⟨_, _, _, _, _, _, h⟩; exact h
  ·exact fun h => ⟨rfl, rfl, by simp, rfl, rfl, by simp [asplice, AV.cells], h⟩
 have g3 : ∀ (a b c d : AObj), [a, b, c, d][3]? = some d := fun _ _ _ _ => rfl
 have sp2 : ∀ (a b x y : AV), asplice [a, b] 0 [x, y] = [x, y] := fun _ _ _ _ => rfl
 have lt1 : ∀ m : Nat, decide (m + 1 < m + 3 + 1) = true := fun m => by simp
 have lt2 : ∀ m : Nat, decide (m + 2 < m + 3 + 1) = true := fun m => by simp
 let S : List Int → List Int → List AObj := fun P Q => H ++ [.cells [.nils, .nils], objI P, objI Q, .cells [.arr (H.length + 1) 0 n n, .arr (H.length + 2) 0 n n]]
 simp +contextual only [bdA, vo', g3, sp2, s3, lt1, lt2, Bool.and_self, a2, ho.lenOk, ho.len (by omega), sZ, Nat.reduceEqDiff, Nat.reduceAdd, ↓reduceIte]
 refine swp_loop_st ops.length (fun j (s : List Int × List Int) => s.1.length = n ∧ s.2.length = n ∧ setAll s.1 (ops.drop j) (pl.drop j) = ordP n ops pl ∧ setAll s.2 (ops.drop j) (st.drop j) = ordS n ops st)
  (fun j s => [(2, vp), (3, vs), (8, .ptr H.length 0), (10, .ptr (H.length + 3) 0), (24, vo), (25, .int .i64 ops.length), (26, .int .i64 j)]) (fun j s => S s.1 s.2) (List.replicate n 255, List.replicate n 1) ⟨⟨by simp, by simp, rfl, rfl⟩, sle_refl _ _ _⟩ fun j s hj hI => ?_
 obtain ⟨P, Q⟩ := s
 obtain ⟨hP, hQ, hI1, hI2⟩ := hI
 simp only at hP hQ hI1 hI2
 by_cases hjo : (j : Int) < ops.length
 ·have hjl : j < ops.length := by omega
  have hri := hr _ (getD_mem hjl)
  obtain ⟨x, hx⟩ := Int.eq_ofNat_of_zero_le hri.1
  have hxn : x < n := by omega
  have hxP : x < P.length := by omega
  have hxQ : x < Q.length := by omega
  simp +contextual only [S, hjo, decide_true, b2, c2, ho.lens, ho.idx, hp.lens, hp.idx, hs.lens, hs.idx, Int.toNat_natCast, hx, idxO, g3, stIo hxP, stIo hxQ, sZ, Nat.reduceEqDiff, Nat.reduceAdd, Nat.reduceLT, ↓reduceIte, reduceCtorEq]
  have stp : ∀ (P q : List Int), q.length = ops.length → setAll P (ops.drop j) (q.drop j) = setAll (P.set x (q.getD j 0)) (ops.drop (j + 1)) (q.drop (j + 1)) := by
   intro P q hq
   have e1 : ops.drop j = ops.getD j 0 :: ops.drop (j + 1) := by rw [List.drop_eq_getElem_cons hjl]; simp [hjl]
   have hjq : j < q.length := by omega
   have e2 : q.drop j = q.getD j 0 :: q.drop (j + 1) := by rw [List.drop_eq_getElem_cons hjq]; simp [hjq]
   rw [e1, e2, setAll, hx, Int.toNat_natCast]
  rw [stp P pl hl1] at hI1
  rw [stp Q st hl2] at hI2
  have hgo : ∃ (j' : Nat) (t : List Int × List Int), (j' ≤ ops.length ∧ t.1.length = n ∧ t.2.length = n ∧ setAll t.1 (ops.drop j') (pl.drop j') = ordP n ops pl ∧ setAll t.2 (ops.drop j') (st.drop j') = ordS n ops st) ∧ ops.length - j' < ops.length - j ∧
   sle H.length [(2, vp), (3, vs), (8, .ptr H.length 0), (10, .ptr (H.length + 3) 0), (24, vo), (25, .int .i64 ops.length), (26, .int .i64 (IntKind.i64.wrap (j + 1)))]
    (H ++ [.cells [.nils, .nils], objI (P.set x (pl.getD j 0)), objI (Q.set x (st.getD j 0)), .cells [.arr (H.length + 1) 0 n n, .arr (H.length + 2) 0 n n]])
    [(2, vp), (3, vs), (8, .ptr H.length 0), (10, .ptr (H.length + 3) 0), (24, vo), (25, .int .i64 ops.length), (26, .int .i64 j')]
    (H ++ [.cells [.nils, .nils], objI t.1, objI t.2, .cells [.arr (H.length + 1) 0 n n, .arr (H.length + 2) 0 n n]]) :=
   ⟨j + 1, (P.set x (pl.getD j 0), Q.set x (st.getD j 0)), ⟨hjl, by simp [hP], by simp [hQ], hI1, hI2⟩, by omega, sle_eq (by rw [wrap_nat j (by omega)]) rfl⟩
  repeat' apply And.intro
  all_goals first | omega | exact hgo
 ·have hje : j = ops.length := by omega
  subst hje
  rw [List.drop_length] at hI1 hI2
  have eP : P = ordP n ops pl := by rw [← hI1]; cases P <;> rfl
  have eQ : Q = ordS n ops st := by rw [← hI2]; cases Q <;> rfl
  simp +contextual only [stepsW, S, hjo, decide_false, g3, vd, sZ, Nat.reduceEqDiff, ↓reduceIte]
  have f1 : (H ++ [AObj.cells [AV.nils, .nils], objI P, objI Q, .cells [.arr (H.length + 1) 0 n n, .arr (H.length + 2) 0 n n]])[H.length + 1]? = some (objI P) := by simp
  have f2 : ((H ++ [AObj.cells [AV.nils, .nils], objI P, objI Q, .cells [.arr (H.length + 1) 0 n n, .arr (H.length + 2) 0 n n]]).set (H.length + 1) .dead)[H.length + 2]? = some (objI Q) := by rw [List.getElem?_set_ne (by omega)]; simp
  have fz1 : ∀ {id n : Nat} {l : List Int} {H : List AObj} (h : H[id]? = some (objI l)) (hn : l.length = n) {K : AV → List AObj → Prop} (hK : K (.lst 0 (ints l)) (H.set id .dead)), asetf1 1 (.arr id 0 n n) H K := fun h hn K hK => by subst hn; exact freezeIo h hK
  refine fz1 f1 hP ?_
  refine fz1 f2 hQ ?_
  have es : ((H ++ [AObj.cells [AV.nils, .nils], objI P, objI Q, .cells [.arr (H.length + 1) 0 n n, .arr (H.length + 2) 0 n n]]).set (H.length + 1) .dead).set (H.length + 2) .dead = H ++ [AObj.cells [AV.nils, .nils], .dead, .dead, .cells [.arr (H.length + 1) 0 n n, .arr (H.length + 2) 0 n n]] := by simp []
  rw [es]
  have fb : ∀ m, belowL m [AV.lst 0 (ints P), .lst 0 (ints Q)] = true := fun m => by simp [bl_cons, bl_nil, bw_lst, ints_blw]
  simp +contextual only [fb, sp2, Bool.and_self, sZ, Nat.reduceEqDiff, Nat.reduceAdd, ↓reduceIte, reduceCtorEq]
  rw [eP, eQ]
  exact ret1v ((odA_facts _ _).2.2.2.2.2 _) rfl
end Go.Abs
end
section
set_option maxRecDepth 100000
namespace Go.Abs
open Go Go.Proofs Go.Rpo
def allL (vals : List Int) : Nat → List (List Int)
 | 0 => [[]]
 | n + 1 => vals.flatMap fun x => (allL vals n).map (x :: ·)
def runL {σ : Type} (step : σ → List Int → σ × Bool) : List (List Int) → σ → σ × Bool
 | [], s => (s, true)
 | l :: r, s => if (step s l).2 = true then runL step r (step s l).1 else ((step s l).1, false)
theorem runL_app {σ : Type} {step : σ → List Int → σ × Bool} : ∀ (a b : List (List Int)) (s : σ), runL step (a ++ b) s = if (runL step a s).2 = true then runL step b (runL step a s).1 else ((runL step a s).1, false)
 | [], b, s => by simp [runL]
 | x :: a, b, s => by
   rw [List.cons_append, runL, runL]
   split
   ·exact runL_app a b _
   ·simp
def valsF (lo : Int) (n : Nat) : List Int := (List.range n).map fun i => lo + (i : Nat)
theorem valsF_succ (lo : Int) (n : Nat) : valsF lo (n + 1) = valsF lo n ++ [lo + (n : Nat)] := by simp [valsF, List.range_succ]
theorem mem_valsF {lo x : Int} {n : Nat} : x ∈ valsF lo n ↔ lo ≤ x ∧ x < lo + n := by
 simp only [valsF, List.mem_map, List.mem_range]
 constructor
 ·rintro ⟨j, h, rfl⟩; omega
 ·intro h; exact ⟨(x - lo).toNat, by omega, by omega⟩
def fn206 (n : Nat) (id : Nat) (lo hi : Int) (q : Nat) : AV := .fn (.func 206) [] [.iptr (.int .i64 n), .iptr (.yld id), .iptr (.int .i64 lo), .iptr (.int .i64 hi), .ptr q 0]
structure YS {σ : Type} (n : Nat) (vals : List Int) (id : Nat) (St : σ → List AObj) (Good : σ → Prop) (step : σ → List Int → σ × Bool) : Prop where
 y : ∀ l s X, l.length = n → (∀ x ∈ l, x ∈ vals) → Good s → YCalls Tryz.prog id [kav l] (St s ++ X) fun r H' => r = .bool (step s l).2 ∧ H' = St (step s l).1 ++ X
 good : ∀ l s, Good s → (step s l).2 = true → Good (step s l).1
 len : ∀ s s', (St s).length = (St s').length
theorem runL_good {σ : Type} {n : Nat} {vals : List Int} {id : Nat} {St : σ → List AObj} {Good : σ → Prop} {step : σ → List Int → σ × Bool} (h : YS n vals id St Good step) : ∀ (a : List (List Int)) (s : σ), Good s → (runL step a s).2 = true → Good (runL step a s).1
 | [], s, hs, _ => hs
 | l :: r, s, hs, hr => by
   rw [runL] at hr ⊢
   split at hr
   ·rename_i h1
    rw [if_pos h1]
    exact runL_good h r _ (h.good l s hs h1) hr
   ·simp at hr
theorem kav_lst (l : List Int) (h : l ≠ []) : kav l = .lst 0 (ints l) := by cases l with
 | nil => exact absurd rfl h
 | cons a r => rfl
theorem c118k (l : List Int) (hb : l.length * 8 ≤ 140737488355328) : Pure Tryz.prog 118 [kav l] (.lst 1 (ints l)) := by
 intro H
 cases l with
 | nil => exact clone118n H
 | cons a r => exact clone118 0 (ints (a :: r)) H (of_eq_true (ok_ints _)) (by rw [ints_len]; exact hb) (ints_blw _ _)
theorem c206 {σ : Type} {n : Nat} {lo hi : Int} (hlo : -1000000 ≤ lo ∧ lo ≤ 1000000) (hhi : -1000000 ≤ hi ∧ hi ≤ 1000000) (hn : n ≤ 1000000) {id : Nat} {St : σ → List AObj} {Good : σ → Prop} {step : σ → List Int → σ × Bool} (hy : YS n (valsF lo (hi + 1 - lo).toNat) id St Good step) (q : Nat) :
 ∀ (r : Nat) (l : List Int) (s : σ) (X : List AObj), l.length + r = n → (∀ x ∈ l, x ∈ valsF lo (hi + 1 - lo).toNat) → Good s → (∀ s', (St s' ++ X)[q]? = some (.cells [fn206 n id lo hi q])) →
  ACalls Tryz.prog 206 [kav l, .iptr (.int .i64 n), .iptr (.yld id), .iptr (.int .i64 lo), .iptr (.int .i64 hi), .ptr q 0] (St s ++ X) fun rr H' => rr = .bool (runL step ((allL (valsF lo (hi + 1 - lo).toNat) r).map (l ++ ·)) s).2 ∧ H' = St (runL step ((allL (valsF lo (hi + 1 - lo).toNat) r).map (l ++ ·)) s).1 ++ X := by
 intro r
 induction r with
 | zero =>
   intro l s X hl hm hs hq
   refine k206.2.calls rfl ?_
   simp only [k206, mkF]
   have ik : IL (kav l) l := .inl rfl
   obtain ⟨a1, a2, a3, a4, a5⟩ := kav_one l
   have e1 : ((l.length : Int) = (n : Int)) = True := eq_true (by omega)
   have lyld : ∀ (H : List AObj) (φ : AV → Prop), aload none (.iptr (.yld id)) H φ = φ (.yld id) := fun H φ => by simp [aload, AV.one, AV.unown]
   have e2 : runL step ((allL (valsF lo (hi + 1 - lo).toNat) 0).map (l ++ ·)) s = step s l := by
    simp only [allL, List.map_cons, List.map_nil, List.append_nil, runL]
    cases hb : (step s l).2 with
    | true => rw [if_pos rfl, ← hb]
    | false => rw [if_neg (by simp), ← hb]
   rw [e2]
   simp +contextual only [a2, ik.lenOk, ik.len (by omega), e1, decide_true, lyld, acall_y, sZ, Nat.reduceEqDiff, Nat.reduceAdd, ↓reduceIte, reduceCtorEq]
   refine sycall_to (hy.y l s X (by omega) hm hs) ?_
   rintro rr H' ⟨rfl, rfl⟩
   simp +contextual only [sZ, ↓reduceIte, reduceCtorEq]
   refine aret_one (St s ++ X).length (Nat.le_refl _) (by rw [gt_cons, if_pos rfl]; rfl) ?_
   rw [gt_cons, if_pos rfl]
   exact ⟨rfl, by rw [List.take_of_length_le (by rw [List.length_append, List.length_append, hy.len _ s]; exact Nat.le_refl _)]⟩
 | succ r ih =>
   intro l s X hl hm hs hq
   refine k206.2.calls rfl ?_
   simp only [k206, mkF]
   have ik : IL (kav l) l := .inl rfl
   obtain ⟨a1, a2, a3, a4, a5⟩ := kav_one l
   have e1 : ((l.length : Int) = (n : Int)) = False := eq_false (by omega)
   have hend : ∀ (b : Bool) (s' : σ), aret (St s ++ X).length [.t 7] [(7, .bool b)] (St s' ++ X) fun rr H' => rr = .bool b ∧ H' = St s' ++ X := by
    intro b s'
    refine aret_one (St s ++ X).length (Nat.le_refl _) (by rw [gt_cons, if_pos rfl]; rfl) ?_
    rw [gt_cons, if_pos rfl]
    exact ⟨rfl, by rw [List.take_of_length_le (by rw [List.length_append, List.length_append, hy.len _ s]; exact Nat.le_refl _)]⟩
   obtain ⟨m, hmm⟩ : ∃ m, m = (hi + 1 - lo).toNat := ⟨_, rfl⟩
   rw [← hmm] at ih hm ⊢
   obtain ⟨F, hF⟩ : ∃ F : Nat → List (List Int), F = fun k => (valsF lo k).flatMap fun x => (allL (valsF lo m) r).map fun y => l ++ x :: y := ⟨_, rfl⟩
   have hF0 : F 0 = [] := by rw [hF]; rfl
   have hFs : ∀ k, F (k + 1) = F k ++ (allL (valsF lo m) r).map ((l ++ [lo + (k : Nat)]) ++ ·) := by
    intro k
    rw [hF]
    simp only [valsF_succ, List.flatMap_append, List.flatMap_cons, List.flatMap_nil, List.append_nil, List.append_assoc, List.cons_append, List.nil_append]
   have hFm : (allL (valsF lo m) (r + 1)).map (l ++ ·) = F m := by
    rw [hF, allL, List.map_flatMap]
    congr 1
    funext x
    rw [List.map_map]; rfl
   rw [hFm]
   simp +contextual only [a2, ik.lenOk, ik.len (by omega), e1, decide_false, sZ, Nat.reduceEqDiff, Nat.reduceAdd, ↓reduceIte, reduceCtorEq]
   refine swp_loop_st m (fun k (_ : Unit) => (runL step (F k) s).2 = true) (fun k _ => [(0, kav l), (4, .iptr (.int .i64 hi)), (5, .ptr q 0), (8, .int .i64 (lo + (k : Nat)))]) (fun k _ => St (runL step (F k) s).1 ++ X) () ⟨by rw [hF0]; rfl, sle_eq (by simp) (by rw [hF0]; rfl)⟩ fun k _ hk hI => ?_
   have hg := runL_good hy (F k) s hs hI
   generalize hs1 : (runL step (F k) s).1 = s1 at hg ⊢
   by_cases hkm : lo + (k : Int) ≤ hi
   ·have hkl : k < m := by omega
    have hql := hq s1
    simp +contextual only [hkm, decide_true, a2, sZ, Nat.reduceEqDiff, ↓reduceIte, reduceCtorEq]
    refine dcall_pure (c118k l (by omega)) ?_
    have hok : okE 1 [AV.int .i64 (lo + (k : Int))] := of_eq_true (ok_ints [_])
    have efn : (fn206 n id lo hi q).unown = .fn (.func 206) [] [.iptr (.int .i64 n), .iptr (.yld id), .iptr (.int .i64 lo), .iptr (.int .i64 hi), .ptr q 0] := rfl
    have ea : ints l ++ [AV.int .i64 (lo + (k : Int))] = ints (l ++ [lo + (k : Int)]) := by simp [ints]
    have ek : AV.lst 0 (ints (l ++ [lo + (k : Int)])) = kav (l ++ [lo + (k : Int)]) := by rw [kav_lst _ (by simp)]
    simp +contextual only [hql, efn, ints_len, hok, ea, ek, un_iptr, sZ, Nat.reduceEqDiff, Nat.reduceAdd, Nat.reduceLT, ↓reduceIte, reduceCtorEq]
    refine ⟨by omega, scall_to (ih (l ++ [lo + (k : Int)]) s1 X (by simp; omega) (fun x hx => ?_) hg hq) ?_⟩
    ·rcases List.mem_append.1 hx with h | h
     ·exact hm x h
     ·simp only [List.mem_cons, List.not_mem_nil, or_false] at h
      subst h
      exact mem_valsF.2 ⟨by omega, by omega⟩
    rintro rr H' ⟨rfl, rfl⟩
    have hrun : runL step (F (k + 1)) s = runL step ((allL (valsF lo m) r).map ((l ++ [lo + (k : Int)]) ++ ·)) s1 := by
     rw [hFs, runL_app, if_pos hI, hs1]
    cases hb : (runL step ((allL (valsF lo m) r).map ((l ++ [lo + (k : Int)]) ++ ·)) s1).2 with
    | true =>
      simp +contextual only [Bool.not_true, sZ, Nat.reduceEqDiff, ↓reduceIte, reduceCtorEq]
      refine ⟨k + 1, (), ⟨hkl, by rw [hrun]; exact hb⟩, by omega, sle_eq ?_ (by rw [hrun])⟩
      rw [wrap_in _ (by omega)]
      have : lo + (k : Int) + 1 = lo + ((k + 1 : Nat) : Int) := by omega
      rw [this]
    | false =>
      simp +contextual only [Bool.not_false, sZ, Nat.reduceEqDiff, ↓reduceIte, reduceCtorEq]
      have hall : runL step (F m) s = ((runL step ((allL (valsF lo m) r).map ((l ++ [lo + (k : Int)]) ++ ·)) s1).1, false) := by
       have e : ∃ R, F m = F (k + 1) ++ R := by
        have : ∀ d, ∃ R, F (k + 1 + d) = F (k + 1) ++ R := by
         intro d
         induction d with
         | zero => exact ⟨[], by simp⟩
         | succ d ihd =>
           obtain ⟨R, hR⟩ := ihd
           exact ⟨R ++ _, by rw [show k + 1 + (d + 1) = (k + 1 + d) + 1 by omega, hFs, hR, List.append_assoc]⟩
        obtain ⟨R, hR⟩ := this (m - (k + 1))
        exact ⟨R, by rw [← hR]; congr 1; omega⟩
       obtain ⟨R, hR⟩ := e
       rw [hR, runL_app, hrun, hb, if_neg (by simp)]
      rw [hall]
      exact hend false _
   ·have hke : k = m := by omega
    simp +contextual only [hkm, decide_false, sZ, Nat.reduceEqDiff, ↓reduceIte, reduceCtorEq]
    rw [← hke, hI, hs1]
    exact hend true s1
theorem c205 {σ : Type} {n : Nat} {lo hi : Int} (hlo : -1000000 ≤ lo ∧ lo ≤ 1000000) (hhi : -1000000 ≤ hi ∧ hi ≤ 1000000) (hn : n ≤ 1000000) {id : Nat} {St : σ → List AObj} {Good : σ → Prop} {step : σ → List Int → σ × Bool} (hy : YS n (valsF lo (hi + 1 - lo).toNat) id St Good step) (hid : ∀ s, id < (St s).length) (s : σ) (hs : Good s) :
 ACalls Tryz.prog 205 [.yld id, .iptr (.int .i64 n), .iptr (.int .i64 lo), .iptr (.int .i64 hi)] (St s) fun rr H' => rr = .tuple [] ∧ H' = St (runL step (allL (valsF lo (hi + 1 - lo).toNat) n) s).1 := by
 refine k205.2.calls rfl ?_
 simp only [k205, mkF]
 have hids := hid s
 have vy : (AV.yld id).val = true := rfl
 have cy : (AV.yld id).cells = [.yld id] := rfl
 have oy : (AV.yld id).one = true := rfl
 have by' : ∀ m, (AV.yld id).blw m = decide (id < m) := fun m => by simp [AV.blw]
 have d1 : decide (id < (St s).length + 1) = true := decide_eq_true (by omega)
 have d2' : decide ((St s).length < (St s).length + 1) = true := decide_eq_true (by omega)
 have efn : (fn206 n id lo hi (St s).length).unown = .fn (.func 206) [] [.iptr (.int .i64 n), .iptr (.yld id), .iptr (.int .i64 lo), .iptr (.int .i64 hi), .ptr (St s).length 0] := rfl
 simp +contextual only [vy, by', d1, d2', Bool.and_self, sp1, sZ, Nat.reduceEqDiff, Nat.reduceAdd, Nat.reduceLT, ↓reduceIte, reduceCtorEq]
 have h := c206 hlo hhi hn hy (St s).length n [] s [.cells [fn206 n id lo hi (St s).length]] (by simp) (fun x hx => by cases hx) hs (fun s' => by rw [← hy.len s' s]; simp)
 have em : (allL (valsF lo (hi + 1 - lo).toNat) n).map ([] ++ ·) = allL (valsF lo (hi + 1 - lo).toNat) n := by simp
 rw [em] at h
 refine scall_to h ?_
 rintro rr H' ⟨rfl, rfl⟩
 simp +contextual only [sZ, reduceCtorEq]
 refine ⟨(St s).length, Nat.le_refl _, [], trivial, rfl, rfl, ?_⟩
 rw [hy.len s _, List.take_left]
theorem c166 (n : Nat) (lo hi : Int) : Pure Tryz.prog 166 [.int .i64 n, .int .i64 lo, .int .i64 hi] (.fn (.func 205) [] [.iptr (.int .i64 n), .iptr (.int .i64 lo), .iptr (.int .i64 hi)]) := by
 refine fun H => k166.2.calls rfl ?_
 simp only [k166, mkF]
 simp +contextual only [sZ, Nat.reduceEqDiff, Nat.reduceAdd, ↓reduceIte, reduceCtorEq]
 exact ret0 rfl rfl
end Go.Abs
end
section
set_option maxRecDepth 100000
namespace Go.Abs
open Go Go.Proofs Go.Rpo
theorem c207 (x : Int) (r : List Int) (hl : r.length ≤ 1000000000) : Pure Tryz.prog 207 [.lst 0 (ints (x :: r))] (.int .i64 (r.foldl max x)) := by
 refine fun H => k207.2.calls rfl ?_
 simp only [k207, mkF]
 have ix : IL (.lst 0 (ints (x :: r))) (x :: r) := .inr rfl
 have n1 : (((x :: r).length : Int) < 1) = False := eq_false (by simp; omega)
 have g0' : (x :: r).getD (0 : Int).toNat 0 = x := rfl
 have ll : (x :: r).length ≤ 1000000001 := by simp; omega
 generalize hxs : x :: r = xs at *
 have hne : 0 < xs.length := by rw [← hxs]; simp
 simp +contextual only [ix.lenOk, ix.len (by omega), n1, decide_false, ix.lens, ix.idx, g0', sZ, Nat.reduceEqDiff, Nat.reduceAdd, ↓reduceIte, reduceCtorEq]
 refine ⟨by omega, ?_⟩
 have hsplit : ∀ j, j ≤ r.length → (r.take j).foldl max x = ((xs.take (j + 1)).drop 1).foldl max x := by intro j _; rw [← hxs]; simp
 refine swp_loop_nat r.length (fun j => True) (fun j => [(0, .lst 0 (ints xs)), (3, .int .i64 ((r.take j).foldl max x)), (4, .int .i64 ((j + 1 : Nat) : Int))]) (fun _ => H) ⟨trivial, sle_refl _ _ _⟩ fun j hj _ => ?_
 have hxl : xs.length = r.length + 1 := by rw [← hxs]; simp
 by_cases hjr : j < r.length
 ·have n2 : (((j + 1 : Nat) : Int) < xs.length) = True := eq_true (by omega)
  have gj : xs.getD (j + 1) 0 = r.getD j 0 := by rw [← hxs]; simp
  have tk : (r.take (j + 1)).foldl max x = max ((r.take j).foldl max x) (r.getD j 0) := by
   rw [List.take_succ_eq_append_getElem hjr, List.foldl_append]
   simp [hjr]
  simp +contextual only [ix.lenOk, ix.len (by omega), n2, decide_true, ix.lens, ix.idx, Int.toNat_natCast, gj, sZ, Nat.reduceEqDiff, ↓reduceIte, reduceCtorEq]
  exact ⟨by omega, j + 1, hjr, by omega, sle_eq (by rw [wrap_in _ (by omega), tk]; rfl) rfl⟩
 ·have e : j = r.length := by omega
  subst e
  have n2 : (((r.length + 1 : Nat) : Int) < xs.length) = False := eq_false (by omega)
  simp +contextual only [ix.lenOk, ix.len (by omega), n2, decide_false, sZ, Nat.reduceEqDiff, ↓reduceIte, reduceCtorEq]
  exact ret0 rfl (by rw [List.take_length])
theorem c111 (l : List Int) {v : AV} (h : IL v l) (hl : l.length ≤ 1000000000) (y : Int) : Pure Tryz.prog 111 [v, .int .i64 y] (.int .i64 (idxB (fun z => decide (y = z)) l 0)) := by
 refine fun H => k111.2.calls rfl ?_
 simp only [k111, mkF]
 obtain ⟨a1, a2, a3, a4⟩ := h.one
 simp +contextual only [a2, h.lenOk, h.len (by omega), sZ, Nat.reduceEqDiff, Nat.reduceAdd, ↓reduceIte, reduceCtorEq]
 refine swp_loop_nat l.length (fun i => idxB (fun z => decide (y = z)) (l.drop i) i = idxB (fun z => decide (y = z)) l 0) (fun i => [(0, v), (1, .int .i64 y), (7, .int .i64 l.length), (8, .int .i64 i)]) (fun _ => H) ⟨rfl, sle_refl _ _ _⟩ fun i hi hI => ?_
 by_cases hil : i < l.length
 ·have n1 : ((i : Int) < l.length) = True := eq_true (by omega)
  rw [idxB_drop hil] at hI
  have egd : l.getD i default = l.getD i 0 := by simp [hil]
  rw [egd] at hI
  simp +contextual only [n1, decide_true, a2, h.lens, h.idx, Int.toNat_natCast, sZ, Nat.reduceEqDiff, ↓reduceIte, reduceCtorEq]
  refine ⟨by omega, fun he => ?_, fun hne => ?_⟩
  ·rw [if_pos (by simpa using he)] at hI
   exact ret0 rfl (by rw [← hI])
  ·rw [if_neg (by simpa using hne)] at hI
   exact ⟨i + 1, ⟨hil, hI⟩, by omega, sle_eq (by rw [wrap_nat i (by omega)]) rfl⟩
 ·have n1 : ((i : Int) < l.length) = False := eq_false (by omega)
  rw [List.drop_of_length_le (by omega)] at hI
  simp +contextual only [n1, decide_false, sZ, Nat.reduceEqDiff, ↓reduceIte, reduceCtorEq]
  exact ret0 rfl (by rw [← hI]; rfl)
theorem idxB_nn {α : Type} {p : α → Bool} : ∀ (l : List α) (i : Nat), 0 ≤ idxB p l i ↔ ∃ x ∈ l, p x = true
 | [], i => by simp [idxB]
 | x :: r, i => by
   rw [idxB]
   by_cases h : p x = true
   ·rw [if_pos h]; exact ⟨fun _ => ⟨x, by simp, h⟩, fun _ => by omega⟩
   ·rw [if_neg h, idxB_nn r (i + 1)]
    simp [h]
theorem c208 (l : List Int) {v : AV} (h : IL v l) (hl : l.length ≤ 1000000000) (y : Int) : Pure Tryz.prog 208 [v, .int .i64 y] (.bool (decide (y ∈ l))) := by
 refine fun H => k208.2.calls rfl ?_
 simp only [k208, mkF]
 obtain ⟨a1, a2, a3, a4⟩ := h.one
 simp +contextual only [a2, sZ, Nat.reduceEqDiff, Nat.reduceAdd, ↓reduceIte, reduceCtorEq]
 refine scall_pure (c111 l h hl y) ?_
 simp +contextual only [sZ, ↓reduceIte, reduceCtorEq]
 refine ret0 rfl ?_
 congr 1
 rw [decide_eq_decide, idxB_nn]
 simp
def maxL (l : List Int) : Int := l.foldl max (-1)
def denseB (l : List Int) : Bool := (List.range (maxL l + 1).toNat).all fun j => decide ((j : Int) ∈ l)
theorem foldl_max : ∀ (l : List Int) (x b : Int), x ≤ b → (∀ y ∈ l, y ≤ b) → x ≤ l.foldl max x ∧ l.foldl max x ≤ b
 | [], x, b, h, _ => ⟨Int.le_refl _, h⟩
 | y :: r, x, b, h, hr => by
   have h1 := hr y (by simp)
   have := foldl_max r (max x y) b (by omega) (fun z hz => hr z (by simp [hz]))
   rw [List.foldl_cons]; omega
theorem c167 (l : List Int) {v : AV} (h : IL v l) (hl : l.length ≤ 100000000) (hb : ∀ x ∈ l, x ≤ 1000000) : Pure Tryz.prog 167 [v] (.bool (denseB l)) := by
 refine fun H => k167.2.calls rfl ?_
 simp only [k167, mkF]
 obtain ⟨a1, a2, a3, a4⟩ := h.one
 have hap : ∀ ψ : List AV → Prop, aappend 1 8 (.lst 1 [.int .i64 (-1)]) v ψ = ψ (ints (-1 :: l)) := by
  intro ψ
  have hr : rlist v = some (ints l) := by
   rcases h with rfl | rfl
   ·cases l <;> rfl
   ·rfl
  have hal : alist 1 (.lst 1 [.int .i64 (-1)]) = some [.int .i64 (-1)] := rfl
  have ok : okE 1 (ints l) := of_eq_true (ok_ints l)
  simp only [aappend, hal, hr, eq_iff_iff]
  exact ⟨fun h => h.2.2, fun k => ⟨by simp [ints_len]; omega, ok, k⟩⟩
 have hm := foldl_max l (-1) 1000000 (by omega) hb
 simp +contextual only [a2, hap, sZ, Nat.reduceEqDiff, Nat.reduceAdd, ↓reduceIte, reduceCtorEq]
 refine scall_pure (c207 (-1) l (by omega)) ?_
 have em : l.foldl max (-1) = maxL l := rfl
 rw [em] at hm ⊢
 have hw : IntKind.i64.wrap (maxL l + 1) = maxL l + 1 := wrap_in _ (by omega)
 simp +contextual only [hw, sZ, Nat.reduceEqDiff, ↓reduceIte, reduceCtorEq]
 refine swp_loop_nat (maxL l + 1).toNat (fun j => ∀ i, i < j → (i : Int) ∈ l) (fun j => [(0, v), (8, .int .i64 (maxL l + 1)), (9, .int .i64 j)]) (fun _ => H) ⟨fun i hi => by omega, sle_refl _ _ _⟩ fun j hj hI => ?_
 by_cases hjm : (j : Int) < maxL l + 1
 ·simp +contextual only [hjm, decide_true, a2, sZ, Nat.reduceEqDiff, Nat.reduceAdd, ↓reduceIte, reduceCtorEq]
  refine scall_pure (c208 l h (by omega) j) ?_
  by_cases hin : (j : Int) ∈ l
  ·simp +contextual only [hin, decide_true, Bool.not_true, sZ, Nat.reduceEqDiff, ↓reduceIte, reduceCtorEq]
   refine ⟨j + 1, ⟨by omega, fun i hi => ?_⟩, by omega, sle_eq (by rw [wrap_nat j (by omega)]) rfl⟩
   by_cases e : i = j
   ·subst e; exact hin
   ·exact hI i (by omega)
  ·simp +contextual only [hin, decide_false, Bool.not_false, sZ, Nat.reduceEqDiff, ↓reduceIte, reduceCtorEq]
   refine ret0 rfl ?_
   congr 1
   have : denseB l = false := by
    unfold denseB
    rw [List.all_eq_false]
    exact ⟨j, List.mem_range.2 (by omega), by simpa using hin⟩
   rw [this]
 ·have e : j = (maxL l + 1).toNat := by omega
  simp +contextual only [hjm, decide_false, sZ, Nat.reduceEqDiff, ↓reduceIte, reduceCtorEq]
  refine ret0 rfl ?_
  congr 1
  have : denseB l = true := by
   unfold denseB
   rw [List.all_eq_true]
   intro i hi
   exact decide_eq_true (hI i (by rw [e]; exact List.mem_range.1 hi))
  rw [this]
end Go.Abs
end
section
set_option maxRecDepth 100000
namespace Go.Abs
open Go Go.Proofs Go.Rpo
open Classical in
noncomputable def testF (t : Ty) (ops pl st : List Int) : Bool := decide (chkO t.s (ordP t.s.ops.length ops pl) (ordS t.s.ops.length ops st) = 0 ∧ blamS t (ordP t.s.ops.length ops pl) (ordS t.s.ops.length ops st) < 0)
abbrev Fo := Option (List Int × List Int)
noncomputable def stepI (t : Ty) (ops pl : List Int) (s : Fo) (st : List Int) : Fo × Bool := if testF t ops pl st = true then (some (ordP t.s.ops.length ops pl, ordS t.s.ops.length ops st), false) else (s, true)
noncomputable def stepO (t : Ty) (ops : List Int) (s : Fo) (pl : List Int) : Fo × Bool := if denseB pl = true then runL (stepI t ops pl) (allL (valsF 1 3) ops.length) s else (s, true)
noncomputable def fndS (t : Ty) (ops : List Int) : Fo := (runL (stepO t ops) (allL (valsF 0 ops.length) ops.length) none).1
def o4 (s : Fo) : AObj := match s with | none => .cells [.nils, .nils] | some (P, S) => .cells [.lst 0 (ints P), .lst 0 (ints S)]
def o5 (s : Fo) : AObj := .cells [.bool s.isSome]
noncomputable def lst93 (s : Fo) : LSt := if s.isSome = true then .jump .ret else .ready
theorem lc93_0n : lc93_0.n = 41 := by kernel_rfl
theorem lc93_1n : lc93_1.n = 41 := by kernel_rfl
theorem lc93_0ps : lc93_0.ps = [15] := by kernel_rfl
theorem lc93_1ps : lc93_1.ps = [22] := by kernel_rfl
theorem endY_r {n0 id : Nat} {R : AV → List AObj → Prop} {H : List AObj} {lc : LCode} {es : List AV} (h : H[id]? = some (.loop .busy lc es)) : endY n0 id R .ret H = retY n0 false (H.set id (.loop (.jump .ret) lc es)) R := by
 unfold endY; rw [h]
theorem behind_j {id : Nat} {H : List AObj} {K : Option Code → List AObj → Prop} {lc : LCode} {es : List AV} {c : Code} (h : H[id]? = some (.loop (.jump c) lc es)) : behind id H K = K (some c) (H.set id (.loop .over lc es)) := by
 unfold behind; rw [h]
theorem stepI_2 (t : Ty) (ops pl : List Int) : ∀ (a : List (List Int)) (s : Fo), s = none → (runL (stepI t ops pl) a s).2 = (runL (stepI t ops pl) a s).1.isNone
 | [], s, h => by subst h; rfl
 | l :: r, s, h => by
   subst h
   rw [runL]
   by_cases ht : testF t ops pl l = true
   ·have e : stepI t ops pl none l = (some (ordP t.s.ops.length ops pl, ordS t.s.ops.length ops l), false) := if_pos ht
    rw [e]; rfl
   ·have e : stepI t ops pl none l = (none, true) := if_neg ht
    rw [e]
    exact stepI_2 t ops pl r none rfl
structure TyOk (t : Ty) : Prop where
 n : t.s.ops.length ≤ 1000000000
 eq : ∀ e ∈ t.es, ∀ ps : List Int, ps.length = t.s.ops.length → EqOk ps e
theorem ordP_len (n : Nat) (ops pl : List Int) : (ordP n ops pl).length = n := by unfold ordP; rw [setAll_len]; simp
theorem get_mid (A : List AObj) (x : AObj) (Y : List AObj) (k : Nat) (h : A.length = k) : (A ++ x :: Y)[k]? = some x := by subst h; simp
theorem set_mid (A : List AObj) (x y : AObj) (Y : List AObj) (k : Nat) (h : A.length = k) : (A ++ x :: Y).set k y = A ++ y :: Y := by subst h; simp
def A93 (H W : List AObj) (s : Fo) : List AObj := H ++ o4 s :: o5 s :: W
theorem A93_len (H W : List AObj) (s : Fo) : (A93 H W s).length = H.length + 2 + W.length := by simp [A93]; omega
theorem A93_4 (H W Y : List AObj) (s : Fo) : (A93 H W s ++ Y)[H.length]? = some (o4 s) := by rw [List.getElem?_append_left (by rw [A93_len]; omega)]; simp [A93]
theorem A93_5 (H W Y : List AObj) (s : Fo) : (A93 H W s ++ Y)[H.length + 1]? = some (o5 s) := by rw [List.getElem?_append_left (by rw [A93_len]; omega)]; simp [A93]
theorem A93_s4 (H W Y : List AObj) (s : Fo) (P S : List Int) : ((A93 H W s ++ Y).set H.length (.cells [.lst 0 (ints P), .lst 0 (ints S)])).set (H.length + 1) (.cells [.bool true]) = A93 H W (some (P, S)) ++ Y := by
 rw [List.set_append_left _ _ (by rw [A93_len]; omega), List.set_append_left _ _ (by rw [List.length_set, A93_len]; omega)]
 simp [A93, o4, o5]
theorem chk_va {s : Sg} {ps ss : List Int} (h : chkO s ps ss = 0) : Va ps ss := (chkO_iff.1 h).2.va
theorem round93i {t : Ty} (ht : TyOk t) {ops : List Int} {vo : AV} (ho : IL vo ops) (hr : ∀ i ∈ ops, 0 ≤ i ∧ i < t.s.ops.length) (hno : ops.length ≤ 1000000) {pl : List Int} (hpl : pl.length = ops.length) (H W : List AObj) (es : List AV) (hes : es = envL 41 [(2, .iptr t.av), (3, .iptr vo), (4, .ptr H.length 0), (5, .ptr (H.length + 1) 0), (6, .iptr (kav pl)), (21, .fn (.func 205) [] [.iptr (.int .i64 ops.length), .iptr (.int .i64 1), .iptr (.int .i64 3)])])
 (l : List Int) (hl : l.length = ops.length) (Y : List AObj) (id : Nat) (hid : id = H.length + 2 + W.length) :
 YCalls Tryz.prog id [kav l] (A93 H W none ++ .loop .ready lc93_1 es :: Y) fun r H' => r = .bool (stepI t ops pl none l).2 ∧ H' = A93 H W (stepI t ops pl none l).1 ++ .loop (lst93 (stepI t ops pl none l).1) lc93_1 es :: Y := by
 have ees : es = [.any, .any, .iptr t.av, .iptr vo, .ptr H.length 0, .ptr (H.length + 1) 0, .iptr (kav pl), .any, .any, .any, .any, .any, .any, .any, .any, .any, .any, .any, .any, .any, .any, .fn (.func 205) [] [.iptr (.int .i64 ops.length), .iptr (.int .i64 1), .iptr (.int .i64 3)], .any, .any, .any, .any, .any, .any, .any, .any, .any, .any, .any, .any, .any, .any, .any, .any, .any, .any, .any] := by rw [hes]; rfl
 have hk : ∀ s, (A93 H W s).length = id := fun s => by rw [A93_len, hid]
 have e0 : ∀ s st, (A93 H W s ++ AObj.loop st lc93_1 es :: Y)[id]? = some (.loop st lc93_1 es) := fun s st => get_mid _ _ _ _ (hk s)
 have hset : ∀ s st st', (A93 H W s ++ AObj.loop st lc93_1 es :: Y).set id (.loop st' lc93_1 es) = A93 H W s ++ AObj.loop st' lc93_1 es :: Y := fun s st st' => set_mid _ _ _ _ _ (hk s)
 have hlen : ∀ s st, (A93 H W s ++ AObj.loop st lc93_1 es :: Y).length = (A93 H W none ++ AObj.loop .ready lc93_1 es :: Y).length := fun s st => by rw [List.length_append, List.length_append, hk, hk]; rfl
 refine ycalls_of (lc := lc93_1) (es := es) (e0 none .ready) ca93_1 cb93_1 ⟨by rw [ees, lc93_1n]; rfl, by rw [lc93_1ps]; rfl, by rw [lc93_1ps, lc93_1n]; rfl, ?_, ?_⟩ (swp_awp2 ?_)
 ·rw [ees]; intro x hx; simp only [List.mem_cons, List.not_mem_nil, or_false] at hx
  repeat' (first | (rcases hx with hx | hx; · subst hx; rfl) | (subst hx; rfl))
 ·intro x hx; simp only [List.mem_cons, List.not_mem_nil, or_false] at hx; subst hx; exact (kav_one l).2.1
 ·have ez : (lc93_1.ps.zip [kav l]).reverse ++ argEnv 0 es = (22, kav l) :: argEnv 0 es := by rw [lc93_1ps]; rfl
  rw [ez]
  generalize hes2 : argEnv 0 es = ea
  have g2 : get ea 2 = .iptr t.av := by rw [← hes2, ees]; rfl
  have g3 : get ea 3 = .iptr vo := by rw [← hes2, ees]; rfl
  have g4 : get ea 4 = .ptr H.length 0 := by rw [← hes2, ees]; rfl
  have g5 : get ea 5 = .ptr (H.length + 1) 0 := by rw [← hes2, ees]; rfl
  have g6 : get ea 6 = .iptr (kav pl) := by rw [← hes2, ees]; rfl
  simp only [ia93_1, ib93_1]
  have hb : ∀ K, beginY id (A93 H W none ++ .loop .ready lc93_1 es :: Y) K = K (A93 H W none ++ .loop .busy lc93_1 es :: Y) := fun K => by rw [beginY_at (e0 none .ready), hset]
  obtain ⟨e1, e2, e3, e4, e5, e6⟩ := Ty.facts t
  obtain ⟨a1, a2, a3, a4⟩ := ho.one
  obtain ⟨b1, b2, b3, b4, b5⟩ := kav_one pl
  obtain ⟨c1, c2, c3, c4, c5⟩ := kav_one l
  have lvo : ∀ (H : List AObj) (φ : AV → Prop), aload none (.iptr vo) H φ = φ vo := fun H φ => by simp [aload, a1, a2]
  obtain ⟨q1, q2, q3, q4, q5, q6⟩ := odA_facts (ordP t.s.ops.length ops pl) (ordS t.s.ops.length ops l)
  simp +contextual only [g2, g3, g4, g5, g6, c2, hb, li_ty, lvo, aload_kav, b2, a2, e4, sZ, Nat.reduceEqDiff, Nat.reduceAdd, ↓reduceIte]
  refine scall_pure (c112 t ops pl l ho (.inl rfl) (.inl rfl) hpl hl hr ht.n (by omega)) ?_
  generalize hP : ordP t.s.ops.length ops pl = P at *
  generalize hS : ordS t.s.ops.length ops l = S at *
  simp +contextual only [stepsO, q1, q2, q3, q4, fY0, li_od, sZ, Nat.reduceEqDiff, Nat.reduceAdd, ↓reduceIte]
  refine scall_pure (c24 t.s P S) ?_
  have endN : ∀ n0, n0 = id + (Y.length + 1) → stepI t ops pl none l = (none, true) → endY n0 id (fun r H' => r = .bool (stepI t ops pl none l).2 ∧ H' = A93 H W (stepI t ops pl none l).1 ++ .loop (lst93 (stepI t ops pl none l).1) lc93_1 es :: Y) .normal (A93 H W none ++ .loop .busy lc93_1 es :: Y) := by
   intro n0 hn0 hst
   rw [endY_n (e0 none .busy), hset, hst]
   refine ⟨by rw [hlen, List.length_append, hk]; simp; omega, rfl, ?_⟩
   rw [List.take_of_length_le (by rw [hlen, List.length_append, hk]; simp; omega)]
   rfl
  have endR : ∀ n0, n0 = id + (Y.length + 1) → stepI t ops pl none l = (some (P, S), false) → endY n0 id (fun r H' => r = .bool (stepI t ops pl none l).2 ∧ H' = A93 H W (stepI t ops pl none l).1 ++ .loop (lst93 (stepI t ops pl none l).1) lc93_1 es :: Y) .ret (A93 H W (some (P, S)) ++ .loop .busy lc93_1 es :: Y) := by
   intro n0 hn0 hst
   rw [endY_r (e0 _ .busy), hset, hst]
   refine ⟨by rw [hlen, List.length_append, hk]; simp; omega, rfl, ?_⟩
   rw [List.take_of_length_le (by rw [hlen, List.length_append, hk]; simp; omega)]
   rfl
  by_cases h0 : chkO t.s P S = 0
  ·simp +contextual only [h0, li_ty, li_od, e4, q4, sZ, Nat.reduceEqDiff, Nat.reduceAdd, ↓reduceIte]
   refine scall_pure (c89 t P S (chk_va h0) (fun e he => ht.eq e he P (by rw [← hP]; exact ordP_len _ _ _))) ?_
   by_cases h1 : blamS t P S < 0
   ·have hst : stepI t ops pl none l = (some (P, S), false) := by
     rw [stepI, if_pos (by rw [testF, hP, hS]; exact decide_eq_true ⟨h0, h1⟩), hP, hS]
    have k4 := A93_4 H W (.loop .busy lc93_1 es :: Y) none
    have k5 : ∀ o, ((A93 H W none ++ .loop .busy lc93_1 es :: Y).set H.length o)[H.length + 1]? = some (o5 none) := fun o => by rw [List.getElem?_set_ne (by omega), A93_5]
    have ks := A93_s4 H W (.loop .busy lc93_1 es :: Y) none P S
    have o4n : o4 none = .cells [.nils, .nils] := rfl
    have o5n : o5 none = .cells [.bool false] := rfl
    rw [o4n] at k4
    simp only [o5n] at k5
    have qu : (odA P S).cells.map AV.unown = [.lst 0 (ints P), .lst 0 (ints S)] := rfl
    have sp2 : ∀ (a b x y : AV), asplice [a, b] 0 [x, y] = [x, y] := fun _ _ _ _ => rfl
    have fb : ∀ m, belowL m [AV.lst 0 (ints P), .lst 0 (ints S)] = true := fun m => by simp [bl_cons, bl_nil, bw_lst, ints_blw]
    simp +contextual only [h1, decide_true, li_od, k4, k5, ks, q1, q2, q3, qu, sp2, fb, Bool.and_self, sZ, Nat.reduceEqDiff, Nat.reduceAdd, ↓reduceIte]
    first
     | exact endR _ (by rw [hk]) hst
     | exact endR _ (by rw [hlen, List.length_append, hk]; rfl) hst
   ·simp +contextual only [h1, decide_false, sZ, Nat.reduceEqDiff, ↓reduceIte]
    have hst : stepI t ops pl none l = (none, true) := by
     rw [stepI, if_neg (by rw [testF, hP, hS]; simp [h1])]
    exact endN _ (by rw [hk]) hst
  ·simp +contextual only [h0, decide_false, sZ, Nat.reduceEqDiff, ↓reduceIte]
   have hst : stepI t ops pl none l = (none, true) := by
    rw [stepI, if_neg (by rw [testF, hP, hS]; simp [h0])]
   exact endN _ (by rw [hk]) hst
end Go.Abs
end
section
set_option maxRecDepth 100000
namespace Go.Abs
open Go Go.Proofs Go.Rpo
theorem ysI {t : Ty} (ht : TyOk t) {ops : List Int} {vo : AV} (ho : IL vo ops) (hr : ∀ i ∈ ops, 0 ≤ i ∧ i < t.s.ops.length) (hno : ops.length ≤ 1000000) {pl : List Int} (hpl : pl.length = ops.length) (H W : List AObj) (es : List AV) (hes : es = envL 41 [(2, .iptr t.av), (3, .iptr vo), (4, .ptr H.length 0), (5, .ptr (H.length + 1) 0), (6, .iptr (kav pl)), (21, .fn (.func 205) [] [.iptr (.int .i64 ops.length), .iptr (.int .i64 1), .iptr (.int .i64 3)])]) :
 YS ops.length (valsF 1 ((3 : Int) + 1 - 1).toNat) (H.length + 2 + W.length) (fun s : Fo => A93 H W s ++ [.loop (lst93 s) lc93_1 es]) (fun s => s = none) (stepI t ops pl) := by
 refine ⟨fun l s X hl _ hs => ?_, fun l s hs hst => ?_, fun s s' => ?_⟩
 ·subst hs
  have := round93i ht ho hr hno hpl H W es hes l hl X _ rfl
  have el : lst93 none = .ready := rfl
  refine YCallsX.mono (by simpa [el, YCalls] using this) fun r H' h => ?_
  refine ⟨h.1, ?_⟩
  rw [h.2]; simp
 ·subst hs
  unfold stepI at *
  split at hst
  ·cases hst
  ·rename_i h; rw [if_neg h]
 ·simp [A93_len]
theorem allL_mem {vals : List Int} : ∀ {n : Nat} {l : List Int}, l ∈ allL vals n → l.length = n ∧ ∀ x ∈ l, x ∈ vals
 | 0, l, h => by
   simp only [allL, List.mem_cons, List.not_mem_nil, or_false] at h
   subst h; exact ⟨rfl, fun x hx => by cases hx⟩
 | n + 1, l, h => by
   simp only [allL, List.mem_flatMap, List.mem_map] at h
   obtain ⟨x, hx, y, hy, rfl⟩ := h
   obtain ⟨h1, h2⟩ := allL_mem hy
   exact ⟨by simp [h1], fun z hz => by
    rcases List.mem_cons.1 hz with rfl | hz
    ·exact hx
    ·exact h2 z hz⟩
theorem round93o {t : Ty} (ht : TyOk t) {ops : List Int} {vo : AV} (ho : IL vo ops) (hr : ∀ i ∈ ops, 0 ≤ i ∧ i < t.s.ops.length) (hno : ops.length ≤ 1000000) (H : List AObj) (es : List AV) (hes : es = envL 41 [(2, .iptr t.av), (3, .iptr vo), (4, .ptr H.length 0), (5, .ptr (H.length + 1) 0), (14, .fn (.func 205) [] [.iptr (.int .i64 ops.length), .iptr (.int .i64 0), .iptr (.int .i64 ((ops.length : Int) - 1))])])
 (pl : List Int) (hpl : pl.length = ops.length) (hpb : ∀ x ∈ pl, x ≤ 1000000) (Y : List AObj) :
 YCalls Tryz.prog (H.length + 2) [kav pl] (A93 H [] none ++ .loop .ready lc93_0 es :: Y) fun r H' => r = .bool (stepO t ops none pl).2 ∧ H' = A93 H [] (stepO t ops none pl).1 ++ .loop (lst93 (stepO t ops none pl).1) lc93_0 es :: Y := by
 have ees : es = [.any, .any, .iptr t.av, .iptr vo, .ptr H.length 0, .ptr (H.length + 1) 0, .any, .any, .any, .any, .any, .any, .any, .any, .fn (.func 205) [] [.iptr (.int .i64 ops.length), .iptr (.int .i64 0), .iptr (.int .i64 ((ops.length : Int) - 1))], .any, .any, .any, .any, .any, .any, .any, .any, .any, .any, .any, .any, .any, .any, .any, .any, .any, .any, .any, .any, .any, .any, .any, .any, .any, .any] := by rw [hes]; rfl
 have hk : ∀ s, (A93 H [] s).length = H.length + 2 := fun s => by rw [A93_len]; rfl
 have e0 : ∀ s st Y, (A93 H [] s ++ AObj.loop st lc93_0 es :: Y)[H.length + 2]? = some (.loop st lc93_0 es) := fun s st Y => get_mid _ _ _ _ (hk s)
 have hset : ∀ s st st' Y, (A93 H [] s ++ AObj.loop st lc93_0 es :: Y).set (H.length + 2) (.loop st' lc93_0 es) = A93 H [] s ++ AObj.loop st' lc93_0 es :: Y := fun s st st' Y => set_mid _ _ _ _ _ (hk s)
 refine ycalls_of (lc := lc93_0) (es := es) (e0 none .ready Y) ca93_0 cb93_0 ⟨by rw [ees, lc93_0n]; rfl, by rw [lc93_0ps]; rfl, by rw [lc93_0ps, lc93_0n]; rfl, ?_, ?_⟩ (swp_awp2 ?_)
 ·rw [ees]; intro x hx; simp only [List.mem_cons, List.not_mem_nil, or_false] at hx
  repeat' (first | (rcases hx with hx | hx; · subst hx; rfl) | (subst hx; rfl))
 ·intro x hx; simp only [List.mem_cons, List.not_mem_nil, or_false] at hx; subst hx; exact (kav_one pl).2.1
 ·have ez : (lc93_0.ps.zip [kav pl]).reverse ++ argEnv 0 es = (15, kav pl) :: argEnv 0 es := by rw [lc93_0ps]; rfl
  rw [ez]
  generalize hes2 : argEnv 0 es = ea
  have g2 : get ea 2 = .iptr t.av := by rw [← hes2, ees]; rfl
  have g3 : get ea 3 = .iptr vo := by rw [← hes2, ees]; rfl
  have g4 : get ea 4 = .ptr H.length 0 := by rw [← hes2, ees]; rfl
  have g5 : get ea 5 = .ptr (H.length + 1) 0 := by rw [← hes2, ees]; rfl
  simp only [ia93_0, ib93_0]
  have hb : ∀ K, beginY (H.length + 2) (A93 H [] none ++ .loop .ready lc93_0 es :: Y) K = K (A93 H [] none ++ .loop .busy lc93_0 es :: Y) := fun K => by rw [beginY_at (e0 none .ready Y), hset]
  obtain ⟨a1, a2, a3, a4⟩ := ho.one
  obtain ⟨b1, b2, b3, b4, b5⟩ := kav_one pl
  have lvo : ∀ (H : List AObj) (φ : AV → Prop), aload none (.iptr vo) H φ = φ vo := fun H φ => by simp [aload, a1, a2]
  have ip : IL (kav pl) pl := .inl rfl
  have hlen : (A93 H [] none ++ .loop .ready lc93_0 es :: Y).length = H.length + 2 + (Y.length + 1) := by rw [List.length_append, hk]; rfl
  have endN : ∀ n0 Z, n0 = H.length + 2 + (Y.length + 1) → stepO t ops none pl = (none, true) → endY n0 (H.length + 2) (fun r H' => r = .bool (stepO t ops none pl).2 ∧ H' = A93 H [] (stepO t ops none pl).1 ++ .loop (lst93 (stepO t ops none pl).1) lc93_0 es :: Y) .normal (A93 H [] none ++ .loop .busy lc93_0 es :: (Y ++ Z)) := by
   intro n0 Z hn0 hst
   rw [endY_n (e0 none .busy _), hset, hst]
   refine ⟨by rw [List.length_append, hk]; simp; omega, rfl, ?_⟩
   rw [hn0, ← hlen, show A93 H [] none ++ AObj.loop .ready lc93_0 es :: (Y ++ Z) = (A93 H [] none ++ AObj.loop .ready lc93_0 es :: Y) ++ Z by simp, List.take_left]
   rfl
  have endR : ∀ n0 Z s, n0 = H.length + 2 + (Y.length + 1) → stepO t ops none pl = (s, false) → s.isSome = true → endY n0 (H.length + 2) (fun r H' => r = .bool (stepO t ops none pl).2 ∧ H' = A93 H [] (stepO t ops none pl).1 ++ .loop (lst93 (stepO t ops none pl).1) lc93_0 es :: Y) .ret (A93 H [] s ++ .loop .busy lc93_0 es :: (Y ++ Z)) := by
   intro n0 Z s hn0 hst hs
   have hlen2 : (A93 H [] s ++ .loop (.jump .ret) lc93_0 es :: Y).length = H.length + 2 + (Y.length + 1) := by rw [List.length_append, hk]; rfl
   rw [endY_r (e0 _ .busy _), hset, hst]
   refine ⟨by rw [List.length_append, hk]; simp; omega, rfl, ?_⟩
   rw [hn0, ← hlen2, show A93 H [] s ++ AObj.loop (.jump .ret) lc93_0 es :: (Y ++ Z) = (A93 H [] s ++ AObj.loop (.jump .ret) lc93_0 es :: Y) ++ Z by simp, List.take_left]
   have : lst93 s = .jump .ret := if_pos hs
   rw [this]
  simp +contextual only [g2, g3, g4, g5, hb, aload_kav, b1, b2, b4, b5, sZ, Nat.reduceEqDiff, Nat.reduceAdd, ↓reduceIte]
  refine scall_pure (c167 pl ip (by omega) hpb) ?_
  cases hd : denseB pl with
  | false =>
    have hst : stepO t ops none pl = (none, true) := by rw [stepO, if_neg (by rw [hd]; simp)]
    simp +contextual only [Bool.not_false, sZ, Nat.reduceEqDiff, ↓reduceIte]
    have := endN ((A93 H [] none).length + (Y.length + 1)) [] (by rw [hk]) hst
    rwa [List.append_nil] at this
  | true =>
    have hst : stepO t ops none pl = runL (stepI t ops pl) (allL (valsF 1 3) ops.length) none := by rw [stepO, if_pos hd]
    simp +contextual only [Bool.not_true, lvo, ho.lenOk, ho.len (by omega), sZ, Nat.reduceEqDiff, Nat.reduceAdd, ↓reduceIte]
    refine scall_pure (c166 ops.length 1 3) ?_
    simp +contextual only [stepsA, sZ, Nat.reduceEqDiff, ↓reduceIte]
    obtain ⟨W, hW⟩ : ∃ W, W = AObj.loop .busy lc93_0 es :: Y := ⟨_, rfl⟩
    have hH2 : A93 H [] none ++ AObj.loop .busy lc93_0 es :: Y = A93 H W none := by rw [hW]; simp [A93]
    have hA : ∀ s, A93 H W s = A93 H [] s ++ AObj.loop .busy lc93_0 es :: Y := fun s => by rw [hW]; simp [A93]
    obtain ⟨esI, hesI⟩ : ∃ esI, esI = envL 41 [(2, AV.iptr t.av), (3, .iptr vo), (4, .ptr H.length 0), (5, .ptr (H.length + 1) 0), (6, .iptr (kav pl)), (21, .fn (.func 205) [] [.iptr (.int .i64 ops.length), .iptr (.int .i64 1), .iptr (.int .i64 3)])] := ⟨_, rfl⟩
    have ys := ysI ht ho hr hno hpl H W esI hesI
    have hvl : (3 : Int) + 1 - 1 = 3 := rfl
    have hvt : ((3 : Int)).toNat = 3 := rfl
    rw [hvl, hvt] at ys
    have h205 := c205 (n := ops.length) (lo := 1) (hi := 3) (by omega) (by omega) hno (Good := fun s : Fo => s = none) (hy := by rw [hvl, hvt]; exact ys) (fun s => by simp [A93_len]) none rfl
    rw [hvl, hvt] at h205
    rw [hH2]
    have eln : (A93 H W none).length = H.length + 2 + W.length := A93_len H W none
    refine srange_fn (P := Tryz.prog) (R := fun r H' => r = .tuple [] ∧ H' = A93 H W (runL (stepI t ops pl) (allL (valsF 1 3) ops.length) none).1 ++ [.loop (lst93 (runL (stepI t ops pl) (allL (valsF 1 3) ops.length) none).1) lc93_1 esI]) 205 [] _ lc93_1 _ _ _ Tryz.call205 ?_ ?_
    ·rw [lc93_1n, ← hesI, eln]
     exact h205
    ·have h2 := stepI_2 t ops pl (allL (valsF 1 3) ops.length) none rfl
     rintro r H' ⟨rfl, rfl⟩
     generalize hs' : (runL (stepI t ops pl) (allL (valsF 1 3) ops.length) none).1 = s' at h2
     have hst2 : stepO t ops none pl = (s', s'.isNone) := by rw [hst]; exact Prod.ext hs' h2
     rw [eln]
     have eget : ∀ st, (A93 H W s' ++ [AObj.loop st lc93_1 esI])[H.length + 2 + W.length]? = some (.loop st lc93_1 esI) := fun st => get_mid _ _ _ _ (A93_len H W s')
     have eset : ∀ st st', (A93 H W s' ++ [AObj.loop st lc93_1 esI]).set (H.length + 2 + W.length) (.loop st' lc93_1 esI) = A93 H W s' ++ [.loop st' lc93_1 esI] := fun st st' => set_mid _ _ _ _ _ (A93_len H W s')
     cases s' with
     | none =>
       have el : lst93 none = .ready := rfl
       rw [el, behind_r (eget _), eset]
       simp +contextual only [goOn]
       have := endN ((A93 H [] none).length + (Y.length + 1)) [.loop .over lc93_1 esI] (by rw [hk]) hst2
       rw [hA]
       simpa using this
     | some o =>
       have el : lst93 (some o) = .jump .ret := rfl
       rw [el, behind_j (eget _), eset]
       simp +contextual only [goOn]
       have := endR ((A93 H [] none).length + (Y.length + 1)) [.loop .over lc93_1 esI] (some o) (by rw [hk]) hst2 rfl
       rw [hA]
       simpa using this
end Go.Abs
end
section
set_option maxRecDepth 100000
namespace Go.Abs
open Go Go.Proofs Go.Rpo
theorem ysO {t : Ty} (ht : TyOk t) {ops : List Int} {vo : AV} (ho : IL vo ops) (hr : ∀ i ∈ ops, 0 ≤ i ∧ i < t.s.ops.length) (hno : ops.length ≤ 1000000) (H : List AObj) (es : List AV) (hes : es = envL 41 [(2, .iptr t.av), (3, .iptr vo), (4, .ptr H.length 0), (5, .ptr (H.length + 1) 0), (14, .fn (.func 205) [] [.iptr (.int .i64 ops.length), .iptr (.int .i64 0), .iptr (.int .i64 ((ops.length : Int) - 1))])]) :
 YS ops.length (valsF 0 ops.length) (H.length + 2) (fun s : Fo => A93 H [] s ++ [.loop (lst93 s) lc93_0 es]) (fun s => s = none) (stepO t ops) := by
 refine ⟨fun l s X hl hm hs => ?_, fun l s hs hst => ?_, fun s s' => ?_⟩
 ·subst hs
  have := round93o ht ho hr hno H es hes l hl (fun x hx => by have := mem_valsF.1 (hm x hx); omega) X
  have el : lst93 none = .ready := rfl
  refine YCallsX.mono (by simpa [el, YCalls] using this) fun r H' h => ?_
  refine ⟨h.1, ?_⟩
  rw [h.2]; simp
 ·subst hs
  have h2 : (stepO t ops none l).2 = (stepO t ops none l).1.isNone := by
   unfold stepO
   split
   ·exact stepI_2 t ops l _ none rfl
   ·rfl
  rw [hst] at h2
  exact Option.isNone_iff_eq_none.1 h2.symm
 ·simp [A93_len]
def foA (s : Fo) : AV := match s with | none => odA [] [] | some (P, S) => odA P S
theorem aret_cc (n0 s s' : Nat) (sz sz' : Option Nat) (env : Env) (H : List AObj) (R : AV → List AObj → Prop) : aret n0 [.c s sz, .c s' sz'] env H R = aload sz (get env s) H fun x => aload sz' (get env s') H fun y => aret2 n0 [x, y] H R := _root_.id rfl
theorem c93 {t : Ty} (ht : TyOk t) {ops : List Int} {vo : AV} (ho : IL vo ops) (hr : ∀ i ∈ ops, 0 ≤ i ∧ i < t.s.ops.length) (hno : ops.length ≤ 1000000) : Pure Tryz.prog 93 [t.av, vo] (.tuple [foA (fndS t ops), .bool (fndS t ops).isSome]) := by
 refine fun H => ok93.calls rfl ?_
 simp only [fi93, ir93]
 obtain ⟨e1, e2, e3, e4, e5, e6⟩ := Ty.facts t
 obtain ⟨a1, a2, a3, a4⟩ := ho.one
 have lvo : ∀ (H : List AObj) (φ : AV → Prop), aload none (.iptr vo) H φ = φ vo := fun H φ => by simp [aload, a1, a2]
 have zf2 : List.map AV.unown [AV.nils, .nils] = [.nils, .nils] := rfl
 have zb2 : ∀ n, belowL n [AV.nils, .nils] = true := fun _ => rfl
 have hw : IntKind.i64.wrap ((ops.length : Int) - 1) = (ops.length : Int) - 1 := wrap_in _ (by omega)
 simp +contextual only [e1, a3, lvo, zf2, zb2, ho.lenOk, ho.len (by omega), hw, sZ, Nat.reduceEqDiff, Nat.reduceAdd, ↓reduceIte, reduceCtorEq]
 refine scall_pure (c166 ops.length 0 ((ops.length : Int) - 1)) ?_
 simp +contextual only [stepsA, sZ, Nat.reduceEqDiff, ↓reduceIte, reduceCtorEq]
 have hA0 : H ++ [AObj.cells [AV.nils, .nils], .cells [.bool false]] = A93 H [] none := rfl
 rw [hA0]
 obtain ⟨esO, hes⟩ : ∃ esO, esO = envL 41 [(2, AV.iptr t.av), (3, .iptr vo), (4, .ptr H.length 0), (5, .ptr (H.length + 1) 0), (14, .fn (.func 205) [] [.iptr (.int .i64 ops.length), .iptr (.int .i64 0), .iptr (.int .i64 ((ops.length : Int) - 1))])] := ⟨_, rfl⟩
 have ys := ysO ht ho hr hno H esO hes
 have hv : ((ops.length : Int) - 1 + 1 - 0).toNat = ops.length := by omega
 have h205 := c205 (n := ops.length) (lo := 0) (hi := (ops.length : Int) - 1) (by omega) (by omega) hno (Good := fun s : Fo => s = none) (hy := by rw [hv]; exact ys) (fun s => by simp [A93_len]) none rfl
 rw [hv] at h205
 have eln : ∀ s, (A93 H [] s).length = H.length + 2 := fun s => A93_len H [] s
 refine srange_fn (P := Tryz.prog) (R := fun r H' => r = .tuple [] ∧ H' = A93 H [] (fndS t ops) ++ [.loop (lst93 (fndS t ops)) lc93_0 esO]) 205 [] _ lc93_0 _ _ _ Tryz.call205 ?_ ?_
 ·rw [lc93_0n, ← hes, eln]
  exact h205
 ·rintro r H' ⟨rfl, rfl⟩
  generalize fndS t ops = s'
  have eget : ∀ st, (A93 H [] s' ++ [AObj.loop st lc93_0 esO])[H.length + 2]? = some (.loop st lc93_0 esO) := fun st => get_mid _ _ _ _ (eln s')
  have eset : ∀ st st', (A93 H [] s' ++ [AObj.loop st lc93_0 esO]).set (H.length + 2) (.loop st' lc93_0 esO) = A93 H [] s' ++ [.loop st' lc93_0 esO] := fun st st' => set_mid _ _ _ _ _ (eln s')
  have k4 := A93_4 H [] [.loop .over lc93_0 esO] s'
  have k5 := A93_5 H [] [.loop .over lc93_0 esO] s'
  have htk : (A93 H [] s' ++ [AObj.loop .over lc93_0 esO]).take H.length = H := by rw [List.take_append_of_le_length (by rw [eln]; omega), A93, List.take_left]
  have sp2 : ∀ (a b x y : AV), asplice [a, b] 0 [x, y] = [x, y] := fun _ _ _ _ => rfl
  rw [eln]
  cases s' with
  | none =>
    have el : lst93 none = .ready := rfl
    rw [el, behind_r (eget _), eset]
    have o4n : o4 none = .cells [.nils, .nils] := rfl
    have o5n : o5 none = .cells [.bool false] := rfl
    rw [o4n] at k4
    rw [o5n] at k5
    have k4s := fun o => List.getElem?_set_self (a := o) (get_lt k4)
    have k5s : ∀ o, ((A93 H [] none ++ [AObj.loop .over lc93_0 esO]).set H.length o)[H.length + 1]? = some (.cells [.bool false]) := fun o => by rw [List.getElem?_set_ne (by omega)]; exact k5
    have k5t : ∀ o o', (((A93 H [] none ++ [AObj.loop .over lc93_0 esO]).set H.length o).set (H.length + 1) o')[H.length + 1]? = some o' := fun o o' => List.getElem?_set_self (by rw [List.length_set]; exact get_lt k5)
    have k4t : ∀ o o', (((A93 H [] none ++ [AObj.loop .over lc93_0 esO]).set H.length o).set (H.length + 1) o')[H.length]? = some o := fun o o' => by rw [List.getElem?_set_ne (by omega)]; exact k4s o
    have htk2 : ∀ o o', (((A93 H [] none ++ [AObj.loop .over lc93_0 esO]).set H.length o).set (H.length + 1) o').take H.length = H := fun o o' => by rw [List.take_set_of_le (by omega), List.take_set_of_le (by omega), htk]
    simp +contextual only [goOn, k4, k5s, k4t, k5t, zf2, zb2, sp2, aret_cc, sZ, Nat.reduceEqDiff, Nat.reduceAdd, Nat.reduceLT, ↓reduceIte, reduceCtorEq]
    exact ret2w (htk2 _ _) ((odA_facts [] []).2.2.2.2.2 _) rfl rfl rfl ⟨rfl, rfl⟩
  | some o =>
    obtain ⟨P, S⟩ := o
    have el : lst93 (some (P, S)) = .jump .ret := rfl
    rw [el, behind_j (eget _), eset]
    have o4n : o4 (some (P, S)) = .cells [.lst 0 (ints P), .lst 0 (ints S)] := rfl
    have o5n : o5 (some (P, S)) = .cells [.bool true] := rfl
    rw [o4n] at k4
    rw [o5n] at k5
    simp +contextual only [goOn, k4, k5, aret_cc, sZ, Nat.reduceEqDiff, Nat.reduceAdd, Nat.reduceLT, ↓reduceIte, reduceCtorEq]
    exact ret2w htk ((odA_facts P S).2.2.2.2.2 _) rfl rfl rfl ⟨rfl, rfl⟩
end Go.Abs
end
section
set_option maxRecDepth 100000
set_option maxHeartbeats 0
namespace Go.Abs
open Go Go.Proofs
noncomputable def k75s := mkF Tryz.call75 Tryz.func75 Tryz.ntmps75 [(0,0,1),(5,2,1000),(6,0,1),(6,7,2),(6,8,1),(7,6,2),(7,9,2),(9,0,6004)] [(0,[1,2]),(1,[1,6]),(2,[1,6,7]),(3,[6,7,15,16,17]),(4,[6,7,15,16,17,18]),(5,[6,7,9,15,16,17]),(6,[6,7,9,15,16,17]),(7,[6,7,15,16,17]),(8,[6,7,15,16,17]),(9,[4,5])] [(7,(.take 1 true (.take 2 true (.take 3 true (.take 4 true (.take 5 true (.take 0 false (.br 6 (.take 7 true (.take 8 true (.br 9 .done .nil))) .nil))))))))]
end Go.Abs
end
section
set_option maxRecDepth 100000
namespace Go.Abs
open Go Go.Proofs Go.Rpo
def ROk (z : AV) (kp : Nat → Prop) (v : AV) (xs : List AV) (G : List AObj) : Prop :=
 (xs = [] ∧ v = .nils) ∨ ∃ id cap, ¬ kp id ∧ v = .arr id 0 xs.length cap ∧ G[id]? = some (cellsO z xs cap) ∧ xs.length ≤ cap ∧ xs ≠ []
section
variable {z : AV} {kp : Nat → Prop} {v : AV} {xs : List AV} {G : List AObj}
theorem ROk.one (h : ROk z kp v xs G) : v.one = true ∧ v.val = true ∧ v.unown = v ∧ v.cells = [v] := by
 rcases h with ⟨_, rfl⟩ | ⟨id, cap, _, rfl, _⟩ <;> exact ⟨rfl, rfl, rfl, rfl⟩
theorem ROk.blw (h : ROk z kp v xs G) {n : Nat} (hn : G.length ≤ n) : v.blw n = true := by
 rcases h with ⟨_, rfl⟩ | ⟨id, cap, _, rfl, c, _⟩
 ·rfl
 ·have := (List.getElem?_eq_some_iff.1 c).1
  rw [bw_arr]; simp; omega
theorem ROk.len (h : ROk z kp v xs G) {H : List AObj} (φ : AV → Prop) : alen v H φ = φ (.int .i64 xs.length) := by
 rcases h with ⟨rfl, rfl⟩ | ⟨id, cap, _, rfl, _⟩ <;> rfl
theorem ROk.lenOk (h : ROk z kp v xs G) : lenOk 1 v = True := by
 rcases h with ⟨_, rfl⟩ | ⟨id, cap, _, rfl, _⟩ <;> rfl
theorem ROk.set (h : ROk z kp v xs G) {j : Nat} (hj : ∀ l c, v ≠ .arr j 0 l c) (o : AObj) : ROk z kp v xs (G.set j o) := by
 rcases h with h | ⟨id, cap, a, b, c, d⟩
 ·exact .inl h
 ·exact .inr ⟨id, cap, a, b, by rw [List.getElem?_set_ne (fun e => hj _ _ (by rw [e]; exact b))]; exact c, d⟩
end
theorem appendROk {esz bytes : Nat} {z : AV} (hz : okO esz (zcanon z)) {kp : Nat → Prop} {v : AV} {xs : List AV} {G : List AObj} (h : ROk z kp v xs G) (hxs : ∀ x ∈ xs, okO esz x) (o : Nat) (ys : List AV) (hy : ys ≠ []) (hys : ∀ x ∈ ys, okO esz x)
 (hb : (xs.length + ys.length) * bytes ≤ 140737488355328) (hG : ∀ j, kp j → j < G.length) {K : AV → List AObj → Prop}
 (hK : ∀ v' G', ROk z kp v' (xs ++ ys) G' → (∀ j, kp j → G'[j]? = G[j]?) → G.length ≤ G'.length → K v' G') : aappendA esz bytes z v (.lst o ys) G K := by
 have hnew : ¬ kp G.length := fun h => Nat.lt_irrefl _ (hG _ h)
 have hok : okE esz ys := fun y hy => ⟨(hys y hy).len, (hys y hy).one⟩
 obtain ⟨f1, f2, f3, f4⟩ := okO.flat hys
 obtain ⟨g1, g2, g3, g4⟩ := okO.flat hxs
 have hpl := apad_len hz
 have hpb : ∀ n m, belowL n (apad z m) = true := fun n m => (okO.flat (apad_okO hz m)).2.2.1 n
 unfold aappendA
 simp only [rlist]
 refine ⟨hok, ?_⟩
 rcases h with ⟨rfl, rfl⟩ | ⟨id, cap, hid, rfl, hg, hle, _⟩
 ·refine ⟨by simpa using hb, fun e => absurd e hy, fun _ cap hc _ => ⟨?_, hK _ _ (.inr ⟨G.length, cap, hnew, by simp, ?_, by simpa using hc, by simpa using hy⟩) ?_ (by simp)⟩⟩
  ·rw [f2, belowL_append]; exact ⟨f3 _, hpb _ _⟩
  ·rw [f2]; simp [cellsO]
  ·intro j hj; have := hG j hj; rw [List.getElem?_append_left (by omega)]
 ·have hgl := (List.getElem?_eq_some_iff.1 hg).1
  simp only [hg, cellsO, List.length_append, g1, hpl, Nat.zero_add, List.drop_zero]
  refine ⟨hb, hle, by rw [← Nat.add_mul]; exact Nat.le_of_eq (by congr 1; omega), fun hroom => ⟨by rw [f2]; exact f3 _, ?_⟩, fun hno cap' hc _ => ⟨?_, ?_⟩⟩
  ·rw [f2]
   refine hK _ _ (.inr ⟨id, cap, hid, by simp, ?_, by simpa using hroom, by simp [hy]⟩) ?_ (by simp)
   ·rw [List.getElem?_set_self hgl, cellsO]
    congr 2
    unfold asplice
    rw [f1, List.take_append_of_le_length (by rw [g1]; exact Nat.le_refl _), List.take_of_length_le (by rw [g1]; exact Nat.le_refl _), List.drop_append, List.drop_of_length_le (by rw [g1]; omega), g1,
     show xs.length * esz + ys.length * esz - xs.length * esz = ys.length * esz by omega, apad_drop hz _ _ (by omega), flat_app, List.nil_append, List.length_append]
    rw [show cap - xs.length - ys.length = cap - (xs.length + ys.length) by omega, List.append_assoc]
   ·intro j hj; rw [List.getElem?_set_ne (fun e => hid (by rw [e]; exact hj))]
  ·rw [List.take_append_of_le_length (by rw [g1]; exact Nat.le_refl _), List.take_of_length_le (by rw [g1]; exact Nat.le_refl _), g2, f2, belowL_append, belowL_append]; exact ⟨⟨g3 _, f3 _⟩, hpb _ _⟩
  ·rw [List.take_append_of_le_length (by rw [g1]; exact Nat.le_refl _), List.take_of_length_le (by rw [g1]; exact Nat.le_refl _), g2, f2, ← flat_app]
   refine hK _ _ (.inr ⟨G.length, cap', hnew, by simp, ?_, by simpa using hc, by simp [hy]⟩) ?_ (by simp)
   ·simp [cellsO]
   ·intro j hj; have := hG j hj; rw [List.getElem?_append_left (by omega)]
def laidRk (kp : Nat → Prop) (H : List AObj) (xs : List AV) (r : AV) (H' : List AObj) : Prop := ROk zN kp r xs H' ∧ (∀ j, kp j → H'[j]? = H[j]?) ∧ H.length ≤ H'.length
theorem c132k : ∀ (N : Nat) (t : T), wt t ≤ N → ∀ (kp : Nat → Prop) (v : AV) (xs : List AV) (H : List AObj), ROk zN kp v xs H → (∀ x ∈ xs, okO 4 x) → (∀ j, kp j → j < H.length) → (xs.length + wt t) * 64 ≤ 140737488355328 →
 ACalls Tryz.prog 132 [t.av, v] H (laidRk kp H (xs ++ navs (layT t xs.length))) := by
 intro N
 induction N with
 | zero => intro t ht; have := wt_pos t; omega
 | succ N ih =>
 intro t ht kp v xs H hR hxs hbase hb
 have hw := wt_eq t
 have hlw := len_wts t.l
 refine k132v.2.calls rfl ?_
 simp only [k132v, mkF]
 obtain ⟨o1, o2, o3, o4⟩ := hR.one
 simp +contextual only [o3, hR.len, hR.lenOk, bdN, canN, sZ, Nat.reduceEqDiff, Nat.reduceAdd, ↓reduceIte, reduceCtorEq]
 refine appendROk okO_zN hR hxs 0 [nav0 t] (by simp) (by simp [okO_nav0]) (by simp; omega) hbase fun v1 G1 hR1 ht1 hl1 => ?_
 obtain ⟨o1', o2', o3', o4'⟩ := hR1.one
 simp +contextual only [sZ]
 intro _
 have hzl : ∀ i, (xs ++ nav0 t :: navs (layL (t.l.take i) (xs.length + 1))).length = xs.length + 1 + wts (t.l.take i) := by intro i; simp [navs_len, layL_len]; omega
 have hok : ∀ i, ∀ x ∈ xs ++ nav0 t :: navs (layL (t.l.take i) (xs.length + 1)), okO 4 x := by
  intro i x hx
  rcases List.mem_append.1 hx with hx | hx
  ·exact hxs x hx
  ·rcases List.mem_cons.1 hx with rfl | hx
   ·exact okO_nav0 t
   ·exact okO_navs _ x hx
 refine swp_loop_st t.l.length (fun i (p : AV × List AObj) => ROk zN kp p.1 (xs ++ nav0 t :: navs (layL (t.l.take i) (xs.length + 1))) p.2 ∧ (∀ j, kp j → p.2[j]? = H[j]?) ∧ H.length ≤ p.2.length)
  (fun i p => [(1, p.1), (5, .int .i64 xs.length), (6, outC (kidsOf (t.l.take i) (xs.length + 1))), (17, .lst 0 (avs t.l)), (18, .int .i64 t.l.length), (19, .int .i64 i)])
  (fun i p => p.2) (v1, G1) ⟨⟨hR1, ht1, hl1⟩, sle_refl _ _ _⟩ fun i p hi hI => ?_
 obtain ⟨v, G⟩ := p
 obtain ⟨hR, hG, hl⟩ := hI
 simp only at hR hG hl
 obtain ⟨o1, o2, o3, o4⟩ := hR.one
 have hle := wts_take_le t.l i
 have hkl := kidsOf_len (t.l.take i) (xs.length + 1)
 have hkl2 : (t.l.take i).length ≤ t.l.length := by simp; omega
 simp +contextual only [o3, hR.len, hR.lenOk, hzl, ap_out, (outC_facts _).2.1, outC_snoc, sZ, Nat.reduceEqDiff, Nat.reduceAdd, ↓reduceIte, reduceCtorEq]
 refine ⟨fun hlt => ⟨len_lt hlt, by omega, ?_⟩, fun hge => ?_⟩
 ·have hlt := len_lt hlt
  have hwt := wts_take hlt
  have hnext := wts_take_le t.l (i + 1)
  have e2 : t.l.take (i + 1) = t.l.take i ++ [t.l.getD i default] := by rw [List.take_succ_eq_append_getElem hlt]; simp [hlt]
  refine scall_to (ih (t.l.getD i default) (by have := wt_mem (mem_getD hlt); omega) kp v _ G hR (hok i) (fun j hj => by have := hbase j hj; omega) (by rw [hzl]; omega)) ?_
  rintro r G' ⟨hR', hG', hl'⟩
  obtain ⟨o1', o2', o3', o4'⟩ := hR'.one
  simp +contextual only [o3', sZ, Nat.reduceEqDiff, ↓reduceIte]
  refine ⟨i + 1, (r, G'), ⟨hlt, ?_, fun j hj => (hG' j hj).trans (hG j hj), Nat.le_trans hl hl'⟩, by omega, sle_eq ?_ rfl⟩
  ·rw [hzl] at hR'
   rw [e2, layL_snoc, navs_app, ← List.cons_append, ← List.append_assoc]
   exact hR'
  ·rw [e2, kidsOf_snoc, wrap_nat i (by omega)]
 ·have hi' : i = t.l.length := by have := len_nlt hge; omega
  subst hi'
  rw [List.take_length] at hR
  have hzl' := hzl t.l.length
  have hok' := hok t.l.length
  rw [List.take_length] at hzl' hok'
  have hset : (xs ++ nav0 t :: navs (layL t.l (xs.length + 1))).set xs.length (nav (t, kidsOf t.l (xs.length + 1))) = xs ++ navs (layT t xs.length) := by
   rw [List.set_append_right _ _ (Nat.le_refl _), Nat.sub_self, List.set_cons_zero, layT_eq]; rfl
  have hget : (xs ++ nav0 t :: navs (layL t.l (xs.length + 1))).getD xs.length .any = nav0 t := by simp
  generalize xs ++ nav0 t :: navs (layL t.l (xs.length + 1)) = ys at hR hzl' hok' hset hget
  rcases hR with ⟨rfl, _⟩ | ⟨id, cap, hid, rfl, hg, hcap, _⟩
  ·simp at hzl'
   omega
  have hgl := (List.getElem?_eq_some_iff.1 hg).1
  obtain ⟨k1, k2, k3, k4, k5⟩ := kav_one (kidsOf t.l (xs.length + 1))
  simp +contextual only [hg, idxO, List.take_length, sZ, Nat.reduceEqDiff, ↓reduceIte, reduceCtorEq]
  refine ⟨by omega, ?_⟩
  refine storeRO hok' (by omega) (by decide) (y := nav (t, kidsOf t.l (xs.length + 1))) k1 k4 (by rw [k2]; exact k3 _) (by rw [hget, k2]; rfl) ?_
  simp +contextual only [sZ, Nat.reduceEqDiff, ↓reduceIte, reduceCtorEq]
  rw [hset]
  refine aret_one (G.length) (by omega) (by rw [gt_cons, if_pos rfl, bw_arr]; simpa using hgl) ?_
  rw [gt_cons, if_pos rfl, List.take_of_length_le (by simp)]
  refine ⟨.inr ⟨id, cap, hid, ?_, ?_, ?_, ?_⟩, ?_, by simpa using hl⟩
  ·rw [← hset]; simp
  ·rw [List.getElem?_set_self hgl]
  ·rw [← hset]; simpa using hcap
  ·rw [layT_eq]; simp [navs]
  ·intro j hj; rw [List.getElem?_set_ne (fun e => hid (by rw [e]; exact hj))]; exact hG j hj
end Go.Abs
end
