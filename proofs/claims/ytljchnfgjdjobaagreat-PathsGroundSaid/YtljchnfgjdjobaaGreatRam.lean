/- Part 13 of 18 of the proof. -/
import Derived.Test.YtljchnfgjdjobaaGreatRal
import Derived.Test.YtljchnfgjdjobaaGreatRak
import Derived.Test.YtljchnfgjdjobaaGreatRai
import Derived.Test.YtljchnfgjdjobaaGreatRag
import Derived.KernelRfl
set_option linter.unusedVariables false
set_option linter.unusedSimpArgs false
set_option linter.defProp false
set_option linter.unusedSectionVars false
section
set_option maxRecDepth 100000
namespace Go.aK
open Go Go.Proofs Go.fJ
def nf (c : Cx) (x : Int) : T := norm c.O (c.tm x)
def w5 (c : Cx) (i k : Int) : Prop := tu c i k = true ∧ dw c i = 3 ∧ Mu (Gt c.O.sp) ((c.kd i).map (nf c)) ((c.kd k).map (nf c))
theorem ZA {c : Cx} {a b : List Int} {va vb : AV} (ha : IL va a) (hb : IL vb b) {p q : Nat} {x y : Int} (hx : 0 ≤ x ∧ x < a.length) (hy : 0 ≤ y ∧ y < b.length) (h : gS c (a.getD x.toNat 0) (b.getD y.toNat 0)) {G : List aa} (hD : Du c G) (gp : G[p]? = some (.cells [va])) (gq : G[q]? = some (.cells [vb])) :
 aq Tryz.prog 222 [.int .i64 x, .ai (.ptr c.d 0), .ptr p 0, .ptr q 0, .ai (.int .i64 y)] G (iv c (R c.O (c.tm (a.getD x.toNat 0)) (c.tm (b.getD y.toNat 0))) G) := by
 refine Vu.2.calls rfl ?_
 simp only [Vu, aI]
 obtain ⟨a1, a2, a3, a4⟩ := ha.one
 obtain ⟨b1, b2, b3, b4⟩ := hb.one
 simp +contextual only [gp, gq, a2, b2, ha.lens, hb.lens, ha.idx, hb.idx, sZ, Nat.reduceEqDiff, Nat.reduceAdd, Nat.reduceLT, ↓reduceIte, reduceCtorEq]
 refine ⟨hx, hy, af (h G hD) ?_⟩
 rintro r G' ⟨z, rfl, hz, hU, jf⟩
 simp +contextual only [sZ, ↓reduceIte, reduceCtorEq]
 exact eo rfl hz hU jf
theorem ZB {c : Cx} {a b l : List Int} {va vb vl : AV} (ha : IL va a) (hb : IL vb b) (hl : IL vl l) (ll : l.length ≤ 1000000000) {p q : Nat} {y : Int} (hx : ∀ x ∈ l, 0 ≤ x ∧ x < a.length) (hy : 0 ≤ y ∧ y < b.length) (h : ∀ x ∈ l, gS c (a.getD x.toNat 0) (b.getD y.toNat 0)) {G : List aa} (hD : Du c G)
 (gp : G[p]? = some (.cells [va])) (gq : G[q]? = some (.cells [vb])) (np : p ≠ c.e ∧ p ≠ c.g) (nq : q ≠ c.e ∧ q ≠ c.g) :
 aq Tryz.prog 221 [.int .i64 y, .ai vl, .ai (.ptr c.d 0), .ptr p 0, .ptr q 0] G (iv c (¬ ∃ x ∈ l, R c.O (c.tm (a.getD x.toNat 0)) (c.tm (b.getD y.toNat 0))) G) := by
 refine Vt.2.calls rfl ?_
 simp only [Vt, aI]
 obtain ⟨a1, a2, a3, a4⟩ := hl.one
 have ld : ∀ (H : List aa) (φ : AV → Prop), aS none (.ai vl) H φ = φ vl := fun H φ => by simp [aS, a1, a2]
 simp +contextual only [ld, a2, sZ, Nat.reduceEqDiff, Nat.reduceAdd, ↓reduceIte, reduceCtorEq]
 refine af (Cp (SD.z7 c G) hl ll 222 [] [.ai (.ptr c.d 0), .ptr p 0, .ptr q 0, .ai (.int .i64 y)] rfl rfl (Q := fun x => R c.O (c.tm (a.getD x.toNat 0)) (c.tm (b.getD y.toNat 0)))
  (fun x wo G' ej => (ZA ha hb (hx x wo) hy (h x wo) ej.1 (by rw [ej.2.get p np.1 np.2, gp]) (by rw [ej.2.get q nq.1 nq.2, gq])).mono fun r H' hr => hr.sb ej) ⟨hD, Up.refl c G⟩) ?_
 rintro r G' ⟨z, rfl, hz, ej⟩
 simp +contextual only [sZ, ↓reduceIte, reduceCtorEq]
 refine eo (b := !z) rfl ?_ ej.2 ej.1
 rw [← hz]; cases z <;> simp
theorem k7 {P : Px} {t : DT} {f : AV → Env} {H : List aa} {o : Option aa} {off : Nat} {K1 K2 : Env → List aa → Prop} (h : dd o none off fun x => iV P t (f x) H K1) (hk : ∀ e G, K1 e G → K2 e G) : dd o none off fun x => iV P t (f x) H K2 := by
 unfold dd at *
 split at h
 ·exact ⟨h.1, dz h.2 hk⟩
 ·exact h.elim
theorem Ww {c : Cx} (hc : c.Ok) {i k : Int} (hi : c.dJ i) (hk : c.dJ k) (h2 : ∀ x ∈ c.kd i, ∀ y ∈ c.kd k, ke c x y) (h3 : ∀ x ∈ c.kd i, ∀ y ∈ c.kd k, gS c x y) {H : List aa} (hD : Du c H) :
 aq Tryz.prog 186 [.ptr c.d 0, .int .i64 i, .int .i64 k] H (iv c (w5 c i k) H) := by
 refine PG.2.calls rfl ?_
 simp only [PG, aI]
 have k2 : ∀ l, (bn l).ab = bn l := fun l => (aD l).2.1
 have l1 := hc.kl i hi
 have l2 := hc.kl k hk
 simp +contextual only [sZ, Nat.reduceEqDiff, Nat.reduceAdd, ↓reduceIte, reduceCtorEq]
 refine af (Ew hc hi hk hD) ?_
 rintro r H1 ⟨rfl, rfl⟩
 simp +contextual only [sZ, Nat.reduceEqDiff, Nat.reduceAdd, Nat.reduceLT, ↓reduceIte]
 cases hl : tu c i k with
 | false =>
   simp +contextual only [Bool.not_false, sZ, Nat.reduceEqDiff, ↓reduceIte, reduceCtorEq]
   exact eo rfl ⟨fun h => by simp at h, fun h => by have := h.1; rw [hl] at this; simp at this⟩ (Up.refl c _) hD
 | true =>
   by_cases hs : dw c i = 3
   ·have d3 : decide (dw c i = 3) = true := decide_eq_true hs
    have d3' : decide (¬dw c i = 3) = false := decide_eq_false (fun h => h hs)
    simp +contextual only [Bool.not_true, hs, not_true_eq_false, decide_false, sZ, Nat.reduceEqDiff, Nat.reduceAdd, ↓reduceIte]
    obtain ⟨l4, l5, l6⟩ := hD.lt
    have ed : ∀ X : List aa, (H1 ++ X)[c.d]? = H1[c.d]? := fun X => List.getElem?_append_left l4
    refine k7 (K1 := fun e G => get e 3 = .ai (.ptr c.d 0) ∧ ∃ p q X, get e 9 = .ptr p 0 ∧ get e 10 = .ptr q 0 ∧ H1.length ≤ p ∧ H1.length ≤ q ∧ G = H1 ++ X ∧ G[p]? = some (.cells [bn (c.kd i)]) ∧ G[q]? = some (.cells [bn (c.kd k)])) ?_ ?_
    ·obtain ⟨k1, k3, k4, k5, k6⟩ := aD (c.kd i)
     obtain ⟨m1, m3, m4, m5, m6⟩ := aD (c.kd k)
     have g0 : ∀ (x : aa) (l : List aa), (H1 ++ x :: l)[H1.length]? = some x := fun x l => by simp
     have g1 : ∀ (x y : aa), (H1 ++ [x, y])[H1.length + 1]? = some y := fun x y => by simp
     have ei : (c.nd.getD i.toNat default).snd = c.kd i := rfl
     have ek : (c.nd.getD k.toNat default).snd = c.kd k := rfl
     have sp : ∀ x : AV, ag [AV.ah] 0 [x] = [x] := fun x => rfl
     have A : ∃ p q X, AV.ptr H1.length 0 = AV.ptr p 0 ∧ AV.ptr (H1.length + 1) 0 = AV.ptr q 0 ∧ H1.length ≤ p ∧ H1.length ≤ q ∧ H1 ++ [.cells [bn (c.kd i)], .cells [bn (c.kd k)]] = H1 ++ X ∧ (H1 ++ [aa.cells [bn (c.kd i)], .cells [bn (c.kd k)]])[p]? = some (.cells [bn (c.kd i)]) ∧ (H1 ++ [aa.cells [bn (c.kd i)], .cells [bn (c.kd k)]])[q]? = some (.cells [bn (c.kd k)]) :=
      ⟨_, _, _, rfl, rfl, Nat.le_refl _, Nat.le_succ _, rfl, g0 _ _, g1 _ _⟩
     have B : ∃ p q X, AV.ptr (H1.length + 1) 0 = AV.ptr p 0 ∧ AV.ptr H1.length 0 = AV.ptr q 0 ∧ H1.length ≤ p ∧ H1.length ≤ q ∧ H1 ++ [.cells [bn (c.kd k)], .cells [bn (c.kd i)]] = H1 ++ X ∧ (H1 ++ [aa.cells [bn (c.kd k)], .cells [bn (c.kd i)]])[p]? = some (.cells [bn (c.kd i)]) ∧ (H1 ++ [aa.cells [bn (c.kd k)], .cells [bn (c.kd i)]])[q]? = some (.cells [bn (c.kd k)]) :=
      ⟨_, _, _, rfl, rfl, Nat.le_succ _, Nat.le_refl _, rfl, g1 _ _, g0 _ _⟩
     simp +contextual only [ed, hD.d, l9, C5, cw, bU, k2, ei, ek, k1, k4, k5, k6, m1, m4, m5, m6, List.map_cons, List.map_nil, sp, List.all_cons, List.all_nil, Bool.and_true, bM, c8, sZ, Nat.reduceEqDiff, Nat.reduceAdd, Nat.reduceLT, ↓reduceIte]
     refine ⟨hi, ?_⟩
     repeat' apply And.intro
     all_goals first | exact hk.1 | exact hk.2 | exact A | exact B
    ·rintro e G ⟨e3, p, q, X, e9, e10, hp, hq, rfl, gp, gq⟩
     simp +contextual only [e3, e9, e10, gp, gq, k2, sZ, Nat.reduceEqDiff, Nat.reduceAdd, Nat.reduceLT, ↓reduceIte, reduceCtorEq]
     refine af (SH (.inl rfl : IL (bn (c.kd i)) (c.kd i)) (.inl rfl : IL (bn (c.kd k)) (c.kd k)) (by omega) (by omega) h2 (hD.rQ X)) ?_
     rintro r G' ⟨us, to, Aa, rfl, hU, jf⟩
     have X5 := Pr.mu (f := nf c) (G := Gt c.O.sp) Aa
     have lbl := jl (c.kd i).length fun i => !us.getD i false
     have lbo := jl (c.kd k).length fun j => decide (to.getD j 0 < 0)
     have il : IL (bn (below (c.kd i).length fun i => !us.getD i false)) (below (c.kd i).length fun i => !us.getD i false) := .inl rfl
     have io : IL (bn (below (c.kd k).length fun j => decide (to.getD j 0 < 0))) (below (c.kd k).length fun j => decide (to.getD j 0 < 0)) := .inl rfl
     have ml : ∀ x ∈ below (c.kd i).length (fun i => !us.getD i false), 0 ≤ x ∧ x < (c.kd i).length := by
      intro x hx; obtain ⟨j, rfl, hj, _⟩ := fX.1 hx; omega
     have mo : ∀ x ∈ below (c.kd k).length (fun j => decide (to.getD j 0 < 0)), 0 ≤ x ∧ x < (c.kd k).length := by
      intro x hx; obtain ⟨j, rfl, hj, _⟩ := fX.1 hx; omega
     generalize (below (c.kd i).length fun i => !us.getD i false) = L at *
     generalize (below (c.kd k).length fun j => decide (to.getD j 0 < 0)) = V at *
     obtain ⟨a1, a2, a3, a4⟩ := il.one
     obtain ⟨b1, b2, b3, b4⟩ := io.one
     have hG1 : ∀ G2, Up c (H1 ++ X) G2 → Du c G2 → Up c H1 (G2.take H1.length) ∧ Du c (G2.take H1.length) := fun G2 u d => ⟨u.take, d.take l4 l5 l6⟩
     have fin : ∀ G2 (b : Bool), Up c (H1 ++ X) G2 → Du c G2 → (b = true ↔ w5 c i k) → bV H1.length [.t 6] [(6, .bool b)] G2 (iv c (w5 c i k) H1) := by
      intro G2 b u d hb
      refine aV H1.length (Nat.le_refl _) (by rw [ax, if_pos rfl]; rfl) ?_
      rw [ax, if_pos rfl]
      exact ⟨b, rfl, hb, (hG1 G2 u d).1, (hG1 G2 u d).2⟩
     simp +contextual only [List.map_cons, List.map_nil, k2, a1, a3, a4, il.aL, il.len (by omega), bU, sZ, Nat.reduceEqDiff, Nat.reduceAdd, Nat.reduceLT, ↓reduceIte, reduceCtorEq]
     refine ⟨fun hL => ?_, fun hL => ?_⟩
     ·have gp' : G'[p]? = some (.cells [bn (c.kd i)]) := by rw [hU.get p (by omega) (by omega), gp]
      have gq' : G'[q]? = some (.cells [bn (c.kd k)]) := by rw [hU.get q (by omega) (by omega), gq]
      have gm : ∀ {x : Int} {l : List Int}, 0 ≤ x ∧ x < l.length → l.getD x.toNat 0 ∈ l := fun h => aO (by omega)
      refine af (Cp (SD.z7 c G') io (by omega) 221 [] [.ai (bn L), .ai (.ptr c.d 0), .ptr p 0, .ptr q 0] rfl rfl (Q := fun y => ¬ ∃ x ∈ L, R c.O (c.tm ((c.kd i).getD x.toNat 0)) (c.tm ((c.kd k).getD y.toNat 0)))
       (fun y hy G2 SJ => (ZB (.inl rfl) (.inl rfl) il (by omega) ml (mo y hy) (fun x hx => h3 _ (gm (ml x hx)) _ (gm (mo y hy))) SJ.1 (by rw [SJ.2.get p (by omega) (by omega), gp']) (by rw [SJ.2.get q (by omega) (by omega), gq']) ⟨by omega, by omega⟩ ⟨by omega, by omega⟩).mono fun r H' hr => hr.sb SJ) ⟨jf, Up.refl c G'⟩) ?_
      rintro r G2 ⟨z, rfl, hz, SJ⟩
      simp +contextual only [sZ, Nat.reduceEqDiff, ↓reduceIte, reduceCtorEq]
      refine fin G2 (!z) (hU.trans SJ.2) SJ.1 ?_
      have hLn : L ≠ [] := by intro e; rw [e] at hL; simp at hL
      rw [w5, X5]
      cases z with
      | true =>
        obtain ⟨y, hy, hn⟩ := hz.1 rfl
        exact ⟨fun h => by simp at h, fun ⟨_, _, _, h⟩ => absurd (h y hy) hn⟩
      | false =>
        refine ⟨fun _ => ⟨hl, hs, hLn, fun y hy => ?_⟩, fun _ => rfl⟩
        by_cases Gy : ∃ x ∈ L, R c.O (c.tm ((c.kd i).getD x.toNat 0)) (c.tm ((c.kd k).getD y.toNat 0))
        ·exact Gy
        ·exact absurd (hz.2 ⟨y, hy, Gy⟩) (by simp)
     ·refine fin G' false hU jf ⟨fun h => by simp at h, fun h => ?_⟩
      have := (X5.1 h.2.2).1
      exact absurd (List.length_eq_zero_iff.1 (by omega)) this
   ·have d3' : decide (¬dw c i = 3) = true := decide_eq_true hs
    simp +contextual only [Bool.not_true, hs, decide_true, not_false_eq_true, sZ, Nat.reduceEqDiff, ↓reduceIte, reduceCtorEq]
    exact eo rfl ⟨fun h => by simp at h, fun h => absurd h.2.1 hs⟩ (Up.refl c _) hD
theorem tT {c : Cx} (hc : c.Ok) {i : Int} (hi : c.dJ i) : (c.tm i).l.map (norm c.O) = (c.kd i).map (nf c) := by
 rw [← (hc.kids i hi).1, List.map_map]; rfl
theorem Ey {f : Int → T} {a b : List Int} : a.map f = b.map f ↔ a.length = b.length ∧ ∀ j, j < a.length → f (a.getD j 0) = f (b.getD j 0) := by
 constructor
 ·intro h
  have hl : a.length = b.length := by simpa using congrArg List.length h
  refine ⟨hl, fun j hj => ?_⟩
  have := congrArg (fun l => l[j]?) h
  have hb : j < b.length := by omega
  simpa [hj, hb] using this
 ·rintro ⟨hl, h⟩
  apply List.ext_getElem
  ·simpa using hl
  ·intro j h1 h2
   have h3 : j < a.length := by simpa using h1
   have h4 : j < b.length := by simpa using h2
   simpa [h3, h4] using h j h3
theorem ZC {c : Cx} (hc : c.Ok) {i k : Int} (hi : c.dJ i) (hk : c.dJ k) (h2 : ∀ x ∈ c.kd i, ∀ y ∈ c.kd k, ke c x y) {H : List aa} (hD : Du c H) : aq Tryz.prog 138 (Co c i k) H (iv c (E c.O (c.tm i) (c.tm k)) H) := by
 refine UJ.2.calls rfl ?_
 simp only [UJ, aI, Co]
 have k2 : ∀ l, (bn l).ab = bn l := fun l => (aD l).2.1
 have l1 := hc.kl i hi
 have l2 := hc.kl k hk
 simp +contextual only [sZ, Nat.reduceEqDiff, Nat.reduceAdd, ↓reduceIte, reduceCtorEq]
 refine af (po hc hi hD) ?_
 rintro r H1 ⟨rfl, rfl⟩
 simp +contextual only [dx, fj, fm, fo, sZ, Nat.reduceEqDiff, Nat.reduceAdd, ↓reduceIte, reduceCtorEq]
 refine af (po hc hk hD) ?_
 rintro r H1 ⟨rfl, rfl⟩
 simp +contextual only [dx, fj, fm, fo, sZ, Nat.reduceEqDiff, ↓reduceIte, reduceCtorEq]
 have eqf : ∀ b : Bool, cP false (.bool b) (.bool b) = fun φ => φ (.bool true) := fun b => by funext φ; cases b <;> simp [cP]
 have fT0 := FL
 have fT1 : ∀ (t : T) (φ : AV → Prop), ak 1 none (.ai t.av) φ = φ (.ai (.int .i64 t.n)) := fun t φ => by cases t; simp [ak, T.av, apart, AV.cells, AV.one, T.n]
 have ei : (c.nd.getD i.toNat default).fst = c.tm i := rfl
 have ek : (c.nd.getD k.toNat default).fst = c.tm k := rfl
 have hE := Wd (O := c.O) (a := c.tm i) (b := c.tm k)
 rw [tT hc hi, tT hc hk] at hE
 cases X6 : qT c i with
 | false =>
   have ki : (c.tm i).k ≠ 2 := of_decide_eq_false X6
   cases Ez : qT c k with
   | false =>
     have kk : (c.tm k).k ≠ 2 := of_decide_eq_false Ez
     simp +contextual only [Bool.not_false, hD.d, l9, Zq, fT1, cw, ei, ek, sZ, Nat.reduceEqDiff, Nat.reduceAdd, Nat.reduceLT, ↓reduceIte, reduceCtorEq]
     refine ⟨hi, hk, eo rfl ?_ (Up.refl c _) hD⟩
     rw [hE, decide_eq_true_eq]
     exact ⟨fun h => .inr ⟨ki, kk, h⟩, fun h => by rcases h with h | h; exact absurd h.1 ki; exact h.2.2⟩
   | true =>
     have kk : (c.tm k).k = 2 := of_decide_eq_true Ez
     simp +contextual only [Bool.not_false, sZ, Nat.reduceEqDiff, ↓reduceIte, reduceCtorEq]
     refine eo rfl ?_ (Up.refl c _) hD
     rw [hE]
     exact ⟨fun h => by simp at h, fun h => by rcases h with h | h; exact absurd h.1 ki; exact absurd kk h.2.1⟩
 | true =>
   have ki : (c.tm i).k = 2 := of_decide_eq_true X6
   cases Ez : qT c k with
   | false =>
     have kk : (c.tm k).k ≠ 2 := of_decide_eq_false Ez
     simp +contextual only [Bool.not_false, Bool.not_true, sZ, Nat.reduceEqDiff, ↓reduceIte, reduceCtorEq]
     refine eo rfl ?_ (Up.refl c _) hD
     rw [hE]
     exact ⟨fun h => by simp at h, fun h => by rcases h with h | h; exact absurd h.2.1 kk; exact absurd ki h.1⟩
   | true =>
     have kk : (c.tm k).k = 2 := of_decide_eq_true Ez
     have epi : pn c i = c.O.pl (c.tm i).n := if_pos ki
     have epk : pn c k = c.O.pl (c.tm k).n := if_pos kk
     have esi : dw c i = c.O.sp (c.O.pl (c.tm i).n) := if_pos ki
     have X7 : E c.O (c.tm i) (c.tm k) ↔ pn c i = pn c k ∧ (if dw c i = 3 then ((c.kd i).map (nf c)).Perm ((c.kd k).map (nf c)) else (c.kd i).map (nf c) = (c.kd k).map (nf c)) := by
      rw [hE, epi, epk, esi]
      exact ⟨fun h => by rcases h with h | h; exact h.2.2; exact absurd ki h.1, fun h => .inl ⟨ki, kk, h⟩⟩
     have eki : (c.nd.getD i.toNat default).snd = c.kd i := rfl
     have ekk : (c.nd.getD k.toNat default).snd = c.kd k := rfl
     have ii : IL (bn (c.kd i)) (c.kd i) := .inl rfl
     have ik : IL (bn (c.kd k)) (c.kd k) := .inl rfl
     have hlen : E c.O (c.tm i) (c.tm k) → (c.kd i).length = (c.kd k).length := by
      intro h
      have h := (X7.1 h).2
      split at h
      ·simpa using h.length_eq
      ·simpa using congrArg List.length h
     simp +contextual only [Bool.not_true, hD.d, l9, C5, cw, bU, k2, eki, ekk, ii.aL, ik.aL, ii.len (by omega), ik.len (by omega), sZ, Nat.reduceEqDiff, Nat.reduceAdd, Nat.reduceLT, ↓reduceIte, reduceCtorEq]
     refine ⟨hi, hk, fun hp => ⟨fun hn => ?_, fun hlk => ⟨fun h3 => ?_, fun h3 => ?_⟩⟩, fun hp => ?_⟩
     ·refine eo rfl ⟨fun h => by simp at h, fun h => absurd (hlen h) (by omega)⟩ (Up.refl c _) hD
     ·refine af (SH ii ik (by omega) (by omega) h2 hD) ?_
      rintro r G ⟨us, to, Aa, rfl, hU, jf⟩
      have Tw := Pr.perm (f := nf c) Aa (by omega)
      have lbl := jl (c.kd i).length fun i => !us.getD i false
      have il : IL (bn (below (c.kd i).length fun i => !us.getD i false)) (below (c.kd i).length fun i => !us.getD i false) := .inl rfl
      generalize (below (c.kd i).length fun i => !us.getD i false) = L at *
      simp +contextual only [k2, il.aL, il.len (by omega), sZ, Nat.reduceEqDiff, Nat.reduceAdd, Nat.reduceLT, ↓reduceIte, reduceCtorEq]
      refine eo rfl ?_ hU jf
      rw [X7, if_pos h3, Tw, decide_eq_true_eq]
      exact ⟨fun h => ⟨hp, List.length_eq_zero_iff.1 (by omega)⟩, fun h => by rw [h.2]; rfl⟩
     ·refine af (Wm (SD.z7 c _) ii ik (by omega) (by omega) 79 [.ptr c.d 0] [] rfl rfl (Q := fun x y => E c.O (c.tm x) (c.tm y)) (fun x hx y hy G hG => (h2 x hx y hy G hG.1).mono fun r H' hr => hr.sb hG) ⟨hD, Up.refl c _⟩) ?_
      rintro r G ⟨b, rfl, hb, hG⟩
      simp +contextual only [sZ, ↓reduceIte, reduceCtorEq]
      refine eo rfl ?_ hG.2 hG.1
      rw [X7, if_neg h3, hb]
      have := Ey (f := nf c) (a := c.kd i) (b := c.kd k)
      exact ⟨fun h => ⟨hp, this.2 h⟩, fun h => this.1 h.2⟩
     ·exact eo rfl ⟨fun h => by simp at h, fun h => absurd (X7.1 h).1 hp⟩ (Up.refl c _) hD
end Go.aK
end
section
set_option maxRecDepth 100000
namespace Go.aK
open Go Go.Proofs Go.fJ
def dS : AV := .agg [.fy, .fn (.func 183) [] [], .fn (.func 184) [] [], .fn (.func 185) [] [], .fn (.func 186) [] []]
theorem ZD (φ : AV → Prop) : cE [.fy, .fy, .fy, .fy, .fy] [(1, 1, .fn (.func 183) [] []), (2, 1, .fn (.func 184) [] []), (3, 1, .fn (.func 185) [] []), (4, 1, .fn (.func 186) [] [])] φ = φ dS := by
 simp only [cE, gO, eq_iff_iff]
 constructor
 ·rintro ⟨_, _, _, _, _, _, _, _, _, _, _, _, h⟩; exact h
 ·exact fun h => ⟨rfl, rfl, by decide, rfl, rfl, by decide, rfl, rfl, by decide, rfl, rfl, by decide, h⟩
theorem Ac : dS.val = true ∧ dS.cells.length = 5 ∧ dS.cells.all AV.one = true ∧ (∀ n, aj n (dS.cells.map AV.ab) = true) ∧ ag [AV.fy, .fy, .fy, .fy, .fy] 0 (dS.cells.map AV.ab) = dS.cells := ⟨rfl, rfl, rfl, fun _ => rfl, rfl⟩
theorem Km : Pure Tryz.prog 136 [] dS := by
 refine fun H => UI.2.calls rfl ?_
 simp only [UI, aI]
 obtain ⟨r1, r2, r3, r4, r5⟩ := Ac
 simp +contextual only [ZD, r1, r2, r3, r4, r5, sZ, Nat.reduceAdd, ↓reduceIte, reduceCtorEq]
 have e : dd (some (aa.cells dS.cells)) (some 5) 0 = fun φ => (5 ≤ 5 ∧ φ dS) := rfl
 rw [e]
 exact ⟨Nat.le_refl _, Po (n0 := H.length) (by simp) rfl rfl ⟨rfl, rfl⟩⟩
theorem TK (j : Nat) (f : AV) (h : dS.cells[j]? = some f) (hj : j < 5) (φ : AV → Prop) (hd : f.drop = f) : bR 5 dS (.int .i64 (j : Int)) φ = φ f := by
 simp only [bR, dS, Int.toNat_natCast, eq_iff_iff]
 have e : [AV.fy, .fn (.func 183) [] [], .fn (.func 184) [] [], .fn (.func 185) [] [], .fn (.func 186) [] []].getD j .any = f := by
  rw [List.getD_eq_getElem?_getD]; show (dS.cells[j]?).getD .any = f; rw [h]; rfl
 rw [e, hd]
 exact ⟨fun h => h.2.2.2, fun h => ⟨rfl, by omega, hj, h⟩⟩
def Kn (c : Cx) (i k : Int) : Prop := ∃ x ∈ c.kd i, E c.O (c.tm x) (c.tm k) ∨ R c.O (c.tm x) (c.tm k)
def rW (c : Cx) (i k : Int) : Prop := qT c k = true ∧ pn c k < pn c i ∧ ∀ x ∈ c.kd k, R c.O (c.tm i) (c.tm x)
def gI (c : Cx) (i k : Int) (n : Nat) : Prop := (n = 1 ∧ Kn c i k) ∨ (n = 2 ∧ rW c i k) ∨ (n = 3 ∧ z8 c i k) ∨ (n = 4 ∧ w5 c i k)
structure FM (c : Cx) (i k : Int) : Prop where
 r1 : ∀ H, Du c H → aq Tryz.prog 183 [.ptr c.d 0, .int .i64 i, .int .i64 k] H (iv c (Kn c i k) H)
 r2 : ∀ H, Du c H → aq Tryz.prog 184 [.ptr c.d 0, .int .i64 i, .int .i64 k] H (iv c (rW c i k) H)
 r3 : ∀ H, Du c H → aq Tryz.prog 185 [.ptr c.d 0, .int .i64 i, .int .i64 k] H (iv c (z8 c i k) H)
 r4 : ∀ H, Du c H → aq Tryz.prog 186 [.ptr c.d 0, .int .i64 i, .int .i64 k] H (iv c (w5 c i k) H)
theorem FM.at {c : Cx} {i k : Int} (h : FM c i k) {n : Nat} (h1 : 0 < n) (h2 : n < 5) {H : List aa} (hD : Du c H) : aq Tryz.prog (182 + n) [.ptr c.d 0, .int .i64 i, .int .i64 k] H (iv c (gI c i k n) H) := by
 have : n = 1 ∨ n = 2 ∨ n = 3 ∨ n = 4 := by omega
 have key : ∀ {Q Q' : Prop} {f : Nat}, aq Tryz.prog f [.ptr c.d 0, .int .i64 i, .int .i64 k] H (iv c Q H) → (Q ↔ Q') → aq Tryz.prog f [.ptr c.d 0, .int .i64 i, .int .i64 k] H (iv c Q' H) := by
  intro Q Q' f h e
  refine h.mono ?_
  rintro r H' ⟨b, h1, h2, h3, h4⟩
  exact ⟨b, h1, h2.trans e, h3, h4⟩
 rcases this with rfl | rfl | rfl | rfl
 ·exact key (h.r1 H hD) (by simp [gI])
 ·exact key (h.r2 H hD) (by simp [gI])
 ·exact key (h.r3 H hD) (by simp [gI])
 ·exact key (h.r4 H hD) (by simp [gI])
theorem ZE {c : Cx} (hc : c.Ok) {i k : Int} (hi : c.dJ i) (hr : FM c i k) {H : List aa} (hD : Du c H) : aq Tryz.prog 134 (Co c i k) H (iv c (qT c i = true ∧ ∃ n, n < 5 ∧ gI c i k n) H) := by
 refine UG.2.calls rfl ?_
 simp only [UG, aI, Co]
 simp +contextual only [sZ, Nat.reduceEqDiff, Nat.reduceAdd, ↓reduceIte, reduceCtorEq]
 refine af (po hc hi hD) ?_
 rintro r H1 ⟨rfl, rfl⟩
 simp +contextual only [dx, fj, fm, fo, sZ, Nat.reduceEqDiff, ↓reduceIte, reduceCtorEq]
 cases hb : qT c i with
 | false =>
   simp +contextual only [Bool.not_false, sZ, ↓reduceIte, reduceCtorEq]
   exact eo rfl ⟨fun h => by simp at h, fun h => absurd h.1 (by simp)⟩ (Up.refl c _) hD
 | true =>
   simp +contextual only [Bool.not_true, sZ]
   refine ae Km ?_
   simp +contextual only [sZ, Nat.reduceEqDiff, ↓reduceIte, reduceCtorEq]
   refine aM 5 (fun n (G : List aa) => SD c H1 G ∧ ∀ m, m < n → ¬ gI c i k m)
    (fun n G => [(0, .ai (.ptr c.d 0)), (1, .ai (.int .i64 i)), (2, .ai (.int .i64 k)), (18, dS), (19, .int .i64 n)]) (fun n G => G) H1 ⟨⟨⟨hD, Up.refl c _⟩, fun m hm => by omega⟩, aA _ _ _⟩ fun n G hn hI => ?_
   obtain ⟨hG, jR⟩ := hI
   by_cases h0 : n = 0
   ·subst h0
    have e0 := TK 0 .fy rfl (by decide)
    have d1 : decide (((0 : Nat) : Int) < 5) = true := rfl
    have d2 : decide ((0 : Int) < ((0 : Nat) : Int)) = false := rfl
    simp +contextual only [lT, e0 _ rfl, d1, d2, sZ, Nat.reduceEqDiff, ↓reduceIte, reduceCtorEq]
    refine ⟨1, G, ⟨by omega, hG, fun m hm => ?_⟩, by omega, aF rfl rfl⟩
    intro h
    simp only [gI] at h
    omega
   ·by_cases h5 : n < 5
    ·have hf : dS.cells[n]? = some (.fn (.func (182 + n)) [] []) := by
      have : n = 1 ∨ n = 2 ∨ n = 3 ∨ n = 4 := by omega
      rcases this with rfl | rfl | rfl | rfl <;> rfl
     have en := TK n _ hf h5
     have d1 : decide ((n : Int) < 5) = true := decide_eq_true (by omega)
     have d2 : decide ((0 : Int) < n) = true := decide_eq_true (by omega)
     simp +contextual only [lT, en _ rfl, d1, d2, sZ, Nat.reduceEqDiff, Nat.reduceAdd, ↓reduceIte, reduceCtorEq]
     refine af (hr.at (by omega) h5 hG.1) ?_
     rintro r G' ⟨b, rfl, dW, hU, jf⟩
     have ej : SD c H1 G' := ⟨jf, hG.2.trans hU⟩
     cases b with
     | true =>
       simp +contextual only [sZ, Nat.reduceEqDiff, ↓reduceIte, reduceCtorEq]
       exact eo rfl ⟨fun _ => ⟨rfl, n, h5, dW.1 rfl⟩, fun _ => rfl⟩ ej.2 ej.1
     | false =>
       simp +contextual only [sZ, Nat.reduceEqDiff, ↓reduceIte, reduceCtorEq]
       refine ⟨n + 1, G', ⟨by omega, ej, fun m hm => ?_⟩, by omega, aF (by rw [au n (by omega)]) rfl⟩
       by_cases e : m = n
       ·subst e; exact fun h => absurd (dW.2 h) (by simp)
       ·exact jR m (by omega)
    ·have d1 : decide ((n : Int) < 5) = false := decide_eq_false (by omega)
     simp +contextual only [d1, sZ, Nat.reduceEqDiff, ↓reduceIte, reduceCtorEq]
     exact eo rfl ⟨fun h => by simp at h, fun ⟨_, m, hm, h⟩ => absurd h (jR m (by omega))⟩ hG.2 hG.1
theorem jm {f : Int → T} {s : Int} {l : List Int} : side s (l.map f) = (bD s l).map f := by unfold side bD; split <;> simp
theorem Ic.lx {f : Int → T} {G : T → T → Prop} (irr : ∀ x, ¬ G x x) : ∀ {a b : List Int} {n : Nat}, Ic (fun x y => f x = f y) a b n → (Lx G (a.map f) (b.map f) ↔ n < a.length ∧ (n = b.length ∨ G (f (a.getD n 0)) (f (b.getD n 0))))
 | [], b, n, h => by simp [Lx]
 | x :: r, [], n, h => by
   have := h.lb
   simp at this
   subst this
   simp [Lx]
 | x :: r, y :: s, 0, h => by
   have ep : ¬ f x = f y := h.no (by simp) (by simp)
   simp [Lx, ep]
 | x :: r, y :: s, m + 1, h => by
   have Zr : f x = f y := h.eq 0 (by omega)
   have ih := Ic.lx irr (a := r) (b := s) (n := m) ⟨by have := h.la; simp at this; omega, by have := h.lb; simp at this; omega, fun j hj => h.eq (j + 1) (by omega), fun h1 h2 => h.no (by simpa using h1) (by simpa using h2)⟩
   simp only [List.map_cons, Lx, Zr, true_and, List.length_cons, List.getD_cons_succ, Nat.add_lt_add_iff_right, Nat.add_right_cancel_iff]
   rw [ih]
   exact ⟨fun h => by rcases h with h | h; exact h; exact absurd h (irr _), fun h => .inl h⟩
theorem vE {Q : Int → Int → Prop} : ∀ (a b : List Int), ∃ n, Ic Q a b n
 | [], b => ⟨0, by simp, by simp, fun j h => by omega, fun h => by simp at h⟩
 | x :: r, [] => ⟨0, by simp, by simp, fun j h => by omega, fun _ h => by simp at h⟩
 | x :: r, y :: s => by
   by_cases hq : Q x y
   ·obtain ⟨n, h⟩ := vE (Q := Q) r s
    refine ⟨n + 1, by have := h.la; simp; omega, by have := h.lb; simp; omega, fun j hj => ?_, fun h1 h2 => h.no (by simpa using h1) (by simpa using h2)⟩
    cases j with
    | zero => exact hq
    | succ j => exact h.eq j (by omega)
   ·exact ⟨0, by simp, by simp, fun j h => by omega, fun _ _ => hq⟩
theorem rX {c : Cx} (hc : c.Ok) {i k : Int} (hi : c.dJ i) (hk : c.dJ k) : (qT c i = true ∧ ∃ n, n < 5 ∧ gI c i k n) ↔ R c.O (c.tm i) (c.tm k) := by
 rw [qz, tT hc hi, tT hc hk]
 have X6 : qT c i = true ↔ (c.tm i).k = 2 := by simp [qT]
 have Ez : qT c k = true ↔ (c.tm k).k = 2 := by simp [qT]
 rw [X6]
 refine and_congr_right fun X8 => ?_
 have epi : pn c i = c.O.pl (c.tm i).n := if_pos X8
 have esi : dw c i = c.O.sp (c.O.pl (c.tm i).n) := if_pos X8
 have lk := (hc.kids k hk).1
 have li := (hc.kids i hi).1
 have all : (∀ x ∈ c.kd k, R c.O (c.tm i) (c.tm x)) ↔ ∀ y ∈ (c.tm k).l, R c.O (c.tm i) y := by rw [← lk]; simp
 have sub : Kn c i k ↔ ∃ x ∈ (c.tm i).l, E c.O x (c.tm k) ∨ R c.O x (c.tm k) := by
  rw [← li]; unfold Kn
  constructor
  ·rintro ⟨x, hx, h⟩; exact ⟨_, List.mem_map.2 ⟨x, hx, rfl⟩, h⟩
  ·rintro ⟨y, hy, h⟩; obtain ⟨x, hx, rfl⟩ := List.mem_map.1 hy; exact ⟨x, hx, h⟩
 have lex : z8 c i k ↔ (c.tm k).k = 2 ∧ c.O.pl (c.tm k).n = c.O.pl (c.tm i).n ∧ c.O.sp (c.O.pl (c.tm i).n) ≠ 3 ∧ (∀ y ∈ (c.tm k).l, R c.O (c.tm i) y) ∧ Lx (Gt c.O.sp) (side (c.O.sp (c.O.pl (c.tm i).n)) ((c.kd i).map (nf c))) (side (c.O.sp (c.O.pl (c.tm i).n)) ((c.kd k).map (nf c))) := by
  unfold z8
  rw [kg, all, ← esi, jm, jm]
  obtain ⟨n, hn⟩ := vE (Q := fun x y => nf c x = nf c y) (bD (dw c i) (c.kd i)) (bD (dw c i) (c.kd k))
  have ZF := Ic.lx (G := Gt c.O.sp) (fun x => rO x) hn
  rw [ZF]
  constructor
  ·rintro ⟨⟨_, h1, h2⟩, h3, h4, m, hm, h5⟩
   have := hm.SA hn
   subst this
   exact ⟨h1, h2.symm, h3, h4, h5⟩
  ·rintro ⟨h1, h2, h3, h4, h5⟩
   exact ⟨⟨X8, h1, h2.symm⟩, h3, h4, n, hn, h5⟩
 have mul : w5 c i k ↔ (c.tm k).k = 2 ∧ c.O.pl (c.tm k).n = c.O.pl (c.tm i).n ∧ c.O.sp (c.O.pl (c.tm i).n) = 3 ∧ Mu (Gt c.O.sp) ((c.kd i).map (nf c)) ((c.kd k).map (nf c)) := by
  unfold w5
  rw [kg, ← esi]
  exact ⟨fun ⟨⟨_, h1, h2⟩, h3⟩ => ⟨h1, h2.symm, h3⟩, fun ⟨h1, h2, h3⟩ => ⟨⟨X8, h1, h2.symm⟩, h3⟩⟩
 have pla : rW c i k ↔ (c.tm k).k = 2 ∧ c.O.pl (c.tm k).n < c.O.pl (c.tm i).n ∧ ∀ y ∈ (c.tm k).l, R c.O (c.tm i) y := by
  unfold rW
  rw [all, Ez, epi]
  refine and_congr_right fun h => ?_
  rw [show pn c k = c.O.pl (c.tm k).n from if_pos h]
 have e : (∃ n, n < 5 ∧ gI c i k n) ↔ Kn c i k ∨ rW c i k ∨ z8 c i k ∨ w5 c i k := by
  constructor
  ·rintro ⟨n, _, h | h | h | h⟩
   ·exact .inl h.2
   ·exact .inr (.inl h.2)
   ·exact .inr (.inr (.inl h.2))
   ·exact .inr (.inr (.inr h.2))
  ·rintro (h | h | h | h)
   ·exact ⟨1, by omega, .inl ⟨rfl, h⟩⟩
   ·exact ⟨2, by omega, .inr (.inl ⟨rfl, h⟩)⟩
   ·exact ⟨3, by omega, .inr (.inr (.inl ⟨rfl, h⟩))⟩
   ·exact ⟨4, by omega, .inr (.inr (.inr ⟨rfl, h⟩))⟩
 rw [e, sub, pla, lex, mul]
 refine or_congr_right ?_
 constructor
 ·rintro (⟨h1, h2⟩ | ⟨h1, h2⟩ | ⟨h1, h2⟩)
  ·exact ⟨h1, .inl h2⟩
  ·exact ⟨h1, .inr (.inl h2)⟩
  ·exact ⟨h1, .inr (.inr h2)⟩
 ·rintro ⟨h1, h2 | h2 | h2⟩
  ·exact .inl ⟨h1, h2⟩
  ·exact .inr (.inl ⟨h1, h2⟩)
  ·exact .inr (.inr ⟨h1, h2⟩)
theorem iv.iff {c : Cx} {Q Q' : Prop} {f : Nat} {args : List AV} {H : List aa} (h : aq Tryz.prog f args H (iv c Q H)) (e : Q ↔ Q') : aq Tryz.prog f args H (iv c Q' H) := by
 refine h.mono ?_
 rintro r H' ⟨b, h1, h2, h3, h4⟩
 exact ⟨b, h1, h2.trans e, h3, h4⟩
theorem Cv {c : Cx} (hc : c.Ok) : ∀ (N : Nat) (i k : Int), c.dJ i → c.dJ k → wt (c.tm i) + wt (c.tm k) ≤ N → ke c i k ∧ gS c i k := by
 intro N
 induction N with
 | zero => intro i k _ _ h; have := fw (c.tm i); omega
 | succ N ih =>
 intro i k hi hk hN
 have hx : ∀ {j : Int}, c.dJ j → ∀ x ∈ c.kd j, c.dJ x ∧ wt (c.tm x) < wt (c.tm j) := fun {j} hj x hx => by
  have h1 := hc.kids j hj
  exact ⟨h1.2 x hx, bJ (by rw [← h1.1]; exact List.mem_map.2 ⟨x, hx, rfl⟩)⟩
 have s1 : ∀ x ∈ c.kd i, ∀ y ∈ c.kd k, ke c x y := fun x h y h' => (ih x y (hx hi x h).1 (hx hk y h').1 (by have := (hx hi x h).2; have := (hx hk y h').2; omega)).1
 have m1 : ∀ x ∈ c.kd i, ∀ y ∈ c.kd k, gS c x y := fun x h y h' => (ih x y (hx hi x h).1 (hx hk y h').1 (by have := (hx hi x h).2; have := (hx hk y h').2; omega)).2
 have s2 : ∀ x ∈ c.kd i, ke c x k := fun x h => (ih x k (hx hi x h).1 hk (by have := (hx hi x h).2; omega)).1
 have m2 : ∀ x ∈ c.kd i, gS c x k := fun x h => (ih x k (hx hi x h).1 hk (by have := (hx hi x h).2; omega)).2
 have m3 : ∀ y ∈ c.kd k, gS c i y := fun y h => (ih i y hi (hx hk y h).1 (by have := (hx hk y h).2; omega)).2
 refine ⟨c79 hc fun H hD => ZC hc hi hk s1 hD, c76 hc fun H hD => iv.iff (ZE hc hi ⟨fun H hD => Wn hc hi s2 m2 hD, fun H hD => Wo hc hi hk m3 hD, fun H hD => Wq hc hi hk m3 s1 m1 hD, fun H hD => Ww hc hi hk s1 m1 hD⟩ hD) (rX hc hi hk)⟩
theorem jN {c : Cx} (hc : c.Ok) {i k : Int} (hi : c.dJ i) (hk : c.dJ k) : ke c i k := (Cv hc _ i k hi hk (Nat.le_refl _)).1
theorem jO {c : Cx} (hc : c.Ok) {i k : Int} (hi : c.dJ i) (hk : c.dJ k) : gS c i k := (Cv hc _ i k hi hk (Nat.le_refl _)).2
end Go.aK
end
section
set_option maxRecDepth 100000
namespace Go.aK
open Go Go.Proofs Go.fJ
def X9 (nd : List Nd) (t : T) (i : Nat) : Prop := ∀ j, j < wt t → nd[i + j]? = (vz t i)[j]?
def Ko (nd : List Nd) (l : List T) (i : Nat) : Prop := ∀ j, j < gM l → nd[i + j]? = (cT l i)[j]?
theorem X9.head {nd : List Nd} {t : T} {i : Nat} (h : X9 nd t i) : nd[i]? = some (t, aT t.l (i + 1)) ∧ Ko nd t.l (i + 1) := by
 have hw := Ck t
 constructor
 ·have := h 0 (fw t)
  rw [oh] at this
  simpa using this
 ·intro j hj
  have := h (j + 1) (by omega)
  rw [oh, List.getElem?_cons_succ] at this
  rw [← this]; congr 1; omega
theorem Ko.cons {nd : List Nd} {x : T} {r : List T} {i : Nat} (h : Ko nd (x :: r) i) : X9 nd x i ∧ Ko nd r (i + wt x) := by
 constructor
 ·intro j hj
  have := h j (by rw [gM]; omega)
  rw [cT, List.getElem?_append_left (by rw [qB]; exact hj)] at this
  exact this
 ·intro j hj
  have := h (wt x + j) (by rw [gM]; omega)
  rw [cT, List.getElem?_append_right (by rw [qB]; omega), qB] at this
  rw [show wt x + j - wt x = j by omega] at this
  rw [← this]; congr 1; omega
theorem Ko.kids {nd : List Nd} : ∀ {l : List T} {i : Nat}, Ko nd l i → (aT l i).map (fun k => (nd.getD k.toNat default).1) = l ∧ ∀ k ∈ aT l i, 0 ≤ k ∧ k < nd.length
 | [], i, _ => ⟨rfl, fun k h => by simp [aT] at h⟩
 | x :: r, i, h => by
   obtain ⟨h1, h2⟩ := h.cons
   obtain ⟨h3, h4⟩ := Ko.kids h2
   have h5 := h1.head.1
   have h6 := (List.getElem?_eq_some_iff.1 h5).1
   refine ⟨?_, ?_⟩
   ·rw [aT, List.map_cons, h3]
    congr 1
    rw [List.getD_eq_getElem?_getD, Int.toNat_natCast, h5]; rfl
   ·intro k hk
    rw [aT] at hk
    rcases List.mem_cons.1 hk with rfl | hk
    ·omega
    ·exact h4 k hk
def Gd (nd : List Nd) (p : Int → Prop) (i : Nat) : Prop := ∃ t, nd[i]? = some (t, aT t.l (i + 1)) ∧ Ko nd t.l (i + 1) ∧ yf p t
mutual
theorem gdT {nd : List Nd} {p : Int → Prop} : ∀ (t : T) (i : Nat), X9 nd t i → yf p t → ∀ j, j < wt t → Gd nd p (i + j)
 | .mk k n l, i, h, ha, j, hj => by
   obtain ⟨h1, h2⟩ := h.head
   cases j with
   | zero => exact ⟨_, h1, h2, ha⟩
   | succ j =>
     have := ZG l (i + 1) h2 (fun x hx => ha.mem hx) j (by rw [wt] at hj; omega)
     rw [show i + (j + 1) = i + 1 + j by omega]; exact this
theorem ZG {nd : List Nd} {p : Int → Prop} : ∀ (l : List T) (i : Nat), Ko nd l i → (∀ x ∈ l, yf p x) → ∀ j, j < gM l → Gd nd p (i + j)
 | [], i, h, ha, j, hj => by simp [gM] at hj
 | x :: r, i, h, ha, j, hj => by
   obtain ⟨h1, h2⟩ := h.cons
   by_cases hx : j < wt x
   ·exact gdT x i h1 (ha x List.mem_cons_self) j hx
   ·have := ZG r (i + wt x) h2 (fun y hy => ha y (List.mem_cons_of_mem _ hy)) (j - wt x) (by rw [gM] at hj; omega)
    rw [show i + j = i + wt x + (j - wt x) by omega]; exact this
end
def gg (ps ss : List Int) (ts : List T) (n : Nat) : Cx := ⟨ps, ss, cT ts 0, n + 2, n, n + 1⟩
theorem N5 (ts : List T) : Ko (cT ts 0) ts 0 := fun j _ => by rw [Nat.zero_add]
theorem PH {ps ss : List Int} (hv : Va ps ss) {ts : List T} (ep : ts ≠ []) (hw : gM ts ≤ 100000000) (ha : ∀ t ∈ ts, yf (fun n => 0 ≤ n ∧ n < ps.length) t) (n : Nat) : (gg ps ss ts n).Ok := by
 have hl : (cT ts 0).length = gM ts := gH ts 0
 have gd : ∀ i, (gg ps ss ts n).dJ i → ∃ t, (cT ts 0).getD i.toNat default = (t, aT t.l (i.toNat + 1)) ∧ Ko (cT ts 0) t.l (i.toNat + 1) ∧ yf (fun n => 0 ≤ n ∧ n < ps.length) t := by
  intro i hi
  have mD : i.toNat < gM ts := by have := hi.1; have := hi.2; simp only [gg] at *; omega
  obtain ⟨t, h1, h2, h3⟩ := ZG ts 0 (N5 ts) ha i.toNat mD
  rw [Nat.zero_add] at h1 h2
  exact ⟨t, by rw [List.getD_eq_getElem?_getD, h1]; rfl, h2, h3⟩
 refine ⟨hv, ?_, by simp [gg], by simp [gg], by simp [gg], fun i hi => ?_, fun i hi => ?_, fun i hi hk => ?_⟩
 ·intro e
  have e : cT ts 0 = [] := e
  rw [e] at hl
  have := iu ts
  have h0 : ts.length = 0 := by simp at hl; omega
  exact ep (List.length_eq_zero_iff.1 h0)
 ·obtain ⟨t, h1, h2, h3⟩ := gd i hi
  show ((cT ts 0).getD i.toNat default).2.length ≤ _
  rw [h1, cv]
  by_cases h0 : t.l = []
  ·rw [h0]; simp
  ·have : gM t.l ≤ (cT ts 0).length := by
    have hp : 0 < gM t.l := by
     have := iu t.l
     have := List.length_pos_iff.2 h0
     omega
    have := h2 (gM t.l - 1) (by omega)
    have h4 : (cT t.l (i.toNat + 1))[gM t.l - 1]? ≠ none := by rw [List.getElem?_eq_getElem (by rw [gH]; omega)]; simp
    rw [← this] at h4
    have h5 : i.toNat + 1 + (gM t.l - 1) < (cT ts 0).length := by
     apply Decidable.byContradiction
     intro hc
     exact h4 (List.getElem?_eq_none (by omega))
    omega
   have := iu t.l
   omega
 ·obtain ⟨t, h1, h2, h3⟩ := gd i hi
  have hk := h2.kids
  have e1 : (gg ps ss ts n).kd i = aT t.l (i.toNat + 1) := by show ((cT ts 0).getD i.toNat default).2 = _; rw [h1]
  have e2 : (gg ps ss ts n).tm i = t := by show ((cT ts 0).getD i.toNat default).1 = _; rw [h1]
  rw [e1, e2]
  exact hk
 ·obtain ⟨t, h1, h2, h3⟩ := gd i hi
  have e2 : (gg ps ss ts n).tm i = t := by show ((cT ts 0).getD i.toNat default).1 = _; rw [h1]
  rw [e2] at hk ⊢
  exact h3.op hk
theorem yk (ps ss : List Int) {ts : List T} (ep : ts ≠ []) (H : List aa) : Du (gg ps ss ts H.length) (H ++ [.map [], .map [], jM ps ss (cT ts 0) H.length (H.length + 1)]) := by
 have hn : cT ts 0 ≠ [] := by
  intro e
  have hl : (cT ts 0).length = gM ts := gH ts 0
  have := iu ts
  rw [e] at hl
  have h0 : ts.length = 0 := by simp at hl; omega
  exact ep (List.length_eq_zero_iff.1 h0)
 refine ⟨?_, ⟨[], ?_, fun p hp => by simp at hp⟩, ⟨[], ?_, fun p hp => by simp at hp⟩⟩
 ·show (H ++ [aa.map [], .map [], jM ps ss (cT ts 0) H.length (H.length + 1)])[H.length + 2]? = _
  rw [jM, nA, if_neg hn]
  simp [gg]
 ·show (H ++ [aa.map [], .map [], jM ps ss (cT ts 0) H.length (H.length + 1)])[H.length]? = _
  simp [l8]
 ·show (H ++ [aa.map [], .map [], jM ps ss (cT ts 0) H.length (H.length + 1)])[H.length + 1]? = _
  simp [l8]
theorem sW {ps ss : List Int} {ts : List T} {n j : Nat} (hj : j < ts.length) : (gg ps ss ts n).dJ ((aT ts 0).getD j 0) ∧ (gg ps ss ts n).tm ((aT ts 0).getD j 0) = ts.getD j default := by
 obtain ⟨h1, h2⟩ := (N5 ts).kids
 have hl := cv ts 0
 refine ⟨h2 _ (aO (by omega)), ?_⟩
 have := congrArg (fun l => l[j]?) h1
 have tS : j < (aT ts 0).length := by omega
 simp only [List.getElem?_map, List.getElem?_eq_getElem tS, List.getElem?_eq_getElem hj, Option.map_some, Option.some.injEq] at this
 have e1 : (aT ts 0).getD j 0 = (aT ts 0)[j] := by simp [tS]
 have e2 : ts.getD j default = ts[j] := by simp [hj]
 rw [e1, e2]
 exact this
end Go.aK
end
section
set_option maxRecDepth 100000
namespace Go.aK
open Go Go.Proofs
theorem ZH (s : ByteArray) (k : IntKind) (i : Nat) (φ : AV → Prop) : bH (.str s) (.int k (i : Int)) φ = (i < s.size ∧ φ (.int .u8 (s.data.toList.getD i 0).toNat)) := by
 simp only [bH, Int.toNat_natCast, eq_iff_iff]
 exact ⟨fun h => h.2, fun h => ⟨by omega, h⟩⟩
theorem pq (a b : ByteArray) (φ : AV → Prop) : cW .eql (.str a) (.str b) φ = φ (.bool (decide (a = b))) := by
 simp [cW]
theorem FN {g : Nat} {f : List AV → Option AV} (h : sP Tryz.prog g (.uU f)) {xs : List AV} {r : AV} (hr : f xs = some r) : Pure Tryz.prog g xs r := fun H => h xs r H hr
theorem ZI (s : ByteArray) (c : Int) : Pure Tryz.prog 238 [.str s, .int .u8 c] (.int .i64 (firstIdx s c.toNat.toUInt8)) := FN VE rfl
def mG (s : ByteArray) (c : Int) : Int := s.foldl (fun (n : Int) x => if x == c.toNat.toUInt8 then n + 1 else n) ((0 : Nat) : Int)
theorem ZJ (s : ByteArray) (c : Int) : Pure Tryz.prog 231 [.str s, .int .u8 c] (.int .i64 (mG s c)) := FN VF (by simp only [countP, mG])
theorem Wx (s : ByteArray) (c : Int) : Pure Tryz.prog 228 [.str s, .int .u8 c] (.int .i64 (firstIdx s c.toNat.toUInt8)) := by
 refine fun H => MA.2.calls rfl ?_
 simp only [MA, aI]
 simp +contextual only [zD, sZ, Nat.reduceEqDiff, Nat.reduceAdd, ↓reduceIte, reduceCtorEq]
 refine ae (ZI s c) ?_
 simp +contextual only [sZ, ↓reduceIte, reduceCtorEq]
 exact aY rfl rfl
theorem ZK (s : ByteArray) (c : Int) : Pure Tryz.prog 190 [.str s, .int .u8 c] (.int .i64 (firstIdx s c.toNat.toUInt8)) := by
 refine fun H => Mq.2.calls rfl ?_
 simp only [Mq, aI]
 simp +contextual only [zD, sZ, Nat.reduceEqDiff, Nat.reduceAdd, ↓reduceIte, reduceCtorEq]
 refine ae (Wx s c) ?_
 simp +contextual only [sZ, ↓reduceIte, reduceCtorEq]
 exact aY rfl rfl
def us : ByteArray := ⟨#[95]⟩
theorem Ya (k : IntKind) (φ : AV → Prop) : bH (.str us) (.int k 0) φ = φ (.int .u8 95) := by
 simp only [bH, eq_iff_iff]
 exact ⟨fun h => h.2.2, fun h => ⟨by omega, by decide, h⟩⟩
def N6 (s : ByteArray) : Int := if s = us then 0 else firstIdx s 95
theorem ZL (s : ByteArray) : Pure Tryz.prog 229 [.str s, .str us] (.int .i64 (N6 s)) := by
 refine fun H => MB.2.calls rfl ?_
 simp only [MB, aI]
 unfold N6
 have c9 : ((us.size : Nat) : Int) = 1 := rfl
 by_cases hs : s = us
 ·rw [if_pos hs]
  simp +contextual only [pq, c9, hs, Int.reduceEq, sZ, Nat.reduceEqDiff, Nat.reduceAdd, ↓reduceIte, reduceCtorEq, Int.reduceEq]
  exact aY rfl rfl
 ·rw [if_neg hs]
  have T6 : ¬ us = s := fun e => hs e.symm
  simp +contextual only [pq, c9, T6, Ya, Int.reduceEq, sZ, Nat.reduceEqDiff, Nat.reduceAdd, ↓reduceIte, reduceCtorEq, Int.reduceEq]
  refine ae (Wx s 95) ?_
  simp +contextual only [sZ, ↓reduceIte, reduceCtorEq]
  exact aY rfl rfl
theorem ZM (s : ByteArray) : Pure Tryz.prog 191 [.str s, .str us] (.int .i64 (N6 s)) := by
 refine fun H => Mr.2.calls rfl ?_
 simp only [Mr, aI]
 simp +contextual only [sZ, Nat.reduceEqDiff, Nat.reduceAdd, ↓reduceIte, reduceCtorEq]
 refine ae (ZL s) ?_
 simp +contextual only [sZ, ↓reduceIte, reduceCtorEq]
 exact aY rfl rfl
theorem ZN (s : ByteArray) : Pure Tryz.prog 142 [.str s, .str us] (.bool (decide (0 ≤ N6 s))) := by
 refine fun H => Mk.2.calls rfl ?_
 simp only [Mk, aI]
 simp +contextual only [sZ, Nat.reduceEqDiff, Nat.reduceAdd, ↓reduceIte, reduceCtorEq]
 refine ae (ZM s) ?_
 simp +contextual only [sZ, ↓reduceIte, reduceCtorEq]
 exact aY rfl rfl
theorem ZO (s : ByteArray) : Pure Tryz.prog 193 [.str s, .str us] (.int .i64 (mG s 95)) := by
 refine fun H => Mt.2.calls rfl ?_
 simp only [Mt, aI]
 have c9 : ((us.size : Nat) : Int) = 1 := rfl
 simp +contextual only [c9, Ya, Int.reduceEq, sZ, Nat.reduceEqDiff, Nat.reduceAdd, ↓reduceIte, reduceCtorEq, Int.reduceEq]
 refine ae (ZJ s 95) ?_
 simp +contextual only [sZ, ↓reduceIte, reduceCtorEq]
 exact aY rfl rfl
def Ad (c : UInt8) : Bool := decide (((c.toNat : Nat) : Int) < 33) || decide ((126 : Int) < ((c.toNat : Nat) : Int)) || decide (0 ≤ firstIdx ⟨#[40, 41, 44]⟩ ((c.toNat : Nat) : Int).toNat.toUInt8)
def oP (s : ByteArray) : Bool := !decide (((s.size : Nat) : Int) < 1) && !decide ((32 : Int) < ((s.size : Nat) : Int)) && s.data.toList.all fun c => !Ad c
theorem yl {p : UInt8 → Bool} {l : List UInt8} {i : Nat} (h : i < l.length) : (l.drop i).all p = (p (l.getD i 0) && (l.drop (i + 1)).all p) := by
 rw [List.drop_eq_getElem_cons h, List.all_cons]
 simp [h]
theorem Wy (s : ByteArray) : Pure Tryz.prog 141 [.str s] (.bool (oP s)) := by
 refine fun H => OW.calls rfl ?_
 simp only [I9, OV]
 have hl : s.data.toList.length = s.size := rfl
 unfold oP
 simp +contextual only [sZ, Nat.reduceEqDiff, Nat.reduceAdd, ↓reduceIte, reduceCtorEq]
 refine ⟨fun h1 => ⟨fun h2 => ?_, fun h2 => ?_⟩, fun h1 => ?_⟩
 ·exact aY rfl (by simp [h2])
 ·refine aE s.size (fun i => ((s.data.toList.drop i).all fun c => !Ad c) = (s.data.toList.all fun c => !Ad c))
   (fun i => [(0, .str s), (13, .int .i64 s.size), (14, .int .i64 i)]) (fun i => H) ⟨rfl, aA _ _ _⟩ fun i hi hI => ?_
  simp +contextual only [ZH, sZ, Nat.reduceEqDiff, Nat.reduceAdd, ↓reduceIte, reduceCtorEq]
  have fin : ∀ (aW : i < s.size), Ad (s.data.toList.getD i 0) = true → (s.data.toList.all fun c => !Ad c) = false := fun aW hb => by
   rw [← hI, yl (by omega), hb]; rfl
  refine ⟨fun aW => ?_, fun ji => ?_⟩
  ·have aW := bT aW
   have fin := fin aW
   rw [yl (by omega)] at hI
   have PD : Ad (s.data.toList.getD i 0) = (decide ((((s.data.toList.getD i 0).toNat : Nat) : Int) < 33) || decide ((126 : Int) < (((s.data.toList.getD i 0).toNat : Nat) : Int)) || decide (0 ≤ firstIdx ⟨#[40, 41, 44]⟩ (((s.data.toList.getD i 0).toNat : Nat) : Int).toNat.toUInt8)) := rfl
   generalize s.data.toList.getD i 0 = c at *
   refine ⟨aW, fun a => ⟨aW, fun b => ⟨aW, ae (ZK _ _) ?_⟩, fun b => ?_⟩, fun a => ?_⟩
   ·simp +contextual only [sZ, Nat.reduceEqDiff, ↓reduceIte, reduceCtorEq]
    refine ⟨fun d => ?_, fun d => ?_⟩
    ·exact aY rfl (by rw [fin (by rw [PD]; simp only [decide_eq_true d, Bool.or_true])]; simp)
    ·refine ⟨i + 1, ⟨aW, ?_⟩, by omega, aF (by rw [au i (by omega)]) rfl⟩
     rw [← hI]
     have : Ad c = false := by
      rw [PD]
      simp only [Bool.or_eq_false_iff, decide_eq_false_iff_not]
      omega
     rw [this]; simp
   ·exact aY rfl (by rw [fin (by rw [PD]; simp only [decide_eq_true b, Bool.or_true, Bool.true_or])]; simp)
   ·exact aY rfl (by rw [fin (by rw [PD]; simp only [decide_eq_true a, Bool.true_or])]; simp)
  ·rw [List.drop_of_length_le (by have := df ji; omega)] at hI
   exact aY rfl (by rw [← hI]; simp; omega)
 ·exact aY rfl (by simp [h1])
end Go.aK
end
section
set_option maxRecDepth 100000
namespace Go.aK
open Go Go.Proofs
structure gJ where
 name : ByteArray
 args : List Int
 AD : Int
 deriving Inhabited
structure Sg where
 aZ : List ByteArray
 ops : List gJ
 deriving Inhabited
def gJ.av (o : gJ) : AV := .agg [.str o.name, .ap 0 (ints o.args), .int .i64 o.AD]
def oB (l : List gJ) : List AV := l.map gJ.av
def strs (l : List ByteArray) : List AV := l.map AV.str
def Sg.av (s : Sg) : AV := .agg [.ap 0 (strs s.aZ), .ap 0 (oB s.ops)]
theorem vF (l : List gJ) : (oB l).length = l.length := by simp [oB]
theorem Cw (l : List ByteArray) : (strs l).length = l.length := by simp [strs]
theorem vG (n : Nat) (l : List gJ) : aj n (oB l) = true := by
 rw [a9]; intro x hx; obtain ⟨y, _, rfl⟩ := List.mem_map.1 hx
 simp [gJ.av, AV.a7, aj, bk]
theorem vH (n : Nat) (l : List ByteArray) : aj n (strs l) = true := by
 rw [a9]; intro x hx; obtain ⟨y, _, rfl⟩ := List.mem_map.1 hx; rfl
theorem gJ.pi (n : Nat) (o : gJ) : o.av.a7 n = true := by simp [gJ.av, AV.a7, aj, bk]
theorem gJ.vk (o : gJ) : o.av.val = true := rfl
theorem gJ.pj (o : gJ) : o.av.cells.all AV.one = true := rfl
theorem gJ.nv (o : gJ) : o.av.ab = o.av := rfl
theorem gJ.qw (o : gJ) : o.av.drop = o.av := rfl
theorem gJ.gE (o : gJ) : o.av.cells.length = 3 := rfl
theorem Sg.pi (n : Nat) (o : Sg) : o.av.a7 n = true := by simp [Sg.av, AV.a7, aj, vH, vG]
theorem Sg.vk (o : Sg) : o.av.val = true := rfl
theorem Sg.pj (o : Sg) : o.av.cells.all AV.one = true := rfl
theorem Sg.nv (o : Sg) : o.av.ab = o.av := rfl
theorem Sg.qw (o : Sg) : o.av.drop = o.av := rfl
theorem Sg.gE (o : Sg) : o.av.cells.length = 2 := rfl
theorem HG (o : Nat) (l : List gJ) : (∀ (own : Nat) (xs : List AV), AV.ap o (oB l) = AV.ap own xs → ∀ z ∈ xs, z.cells.length = 3) = True := by
 simp only [eq_iff_iff, iff_true]
 intro own xs e z hz
 cases e
 obtain ⟨y, _, rfl⟩ := List.mem_map.1 hz
 rfl
theorem HH (o : Nat) (l : List ByteArray) : (∀ (own : Nat) (xs : List AV), AV.ap o (strs l) = AV.ap own xs → ∀ z ∈ xs, z.cells.length = 1) = True := by
 simp only [eq_iff_iff, iff_true]
 intro own xs e z hz
 cases e
 obtain ⟨y, _, rfl⟩ := List.mem_map.1 hz
 rfl
theorem Kp (e o : Nat) (l : List gJ) (k : IntKind) (i : Nat) (φ : AV → Prop) : ay e (.ap o (oB l)) (.int k (i : Int)) φ = (i < l.length ∧ φ (.ai (l.getD i default).av)) := by
 simp only [ay, vF, Int.toNat_natCast, eq_iff_iff]
 constructor
 ·rintro ⟨_, h, h2⟩; refine ⟨h, ?_⟩; simpa [oB, h] using h2
 ·rintro ⟨h, h2⟩; refine ⟨by omega, h, ?_⟩; simpa [oB, h] using h2
theorem Kq (e o : Nat) (l : List ByteArray) (k : IntKind) (i : Nat) (φ : AV → Prop) : ay e (.ap o (strs l)) (.int k (i : Int)) φ = (i < l.length ∧ φ (.ai (.str (l.getD i default)))) := by
 simp only [ay, Cw, Int.toNat_natCast, eq_iff_iff]
 constructor
 ·rintro ⟨_, h, h2⟩; refine ⟨h, ?_⟩; simpa [strs, h] using h2
 ·rintro ⟨h, h2⟩; refine ⟨by omega, h, ?_⟩; simpa [strs, h] using h2
theorem Wz (o : gJ) (H : List aa) (φ : AV → Prop) : aS (some 3) (.ai o.av) H φ = φ o.av := by simp [aS, gJ.av, AV.cells]
theorem qG (o : Sg) (H : List aa) (φ : AV → Prop) : aS (some 2) (.ai o.av) H φ = φ o.av := by simp [aS, Sg.av, AV.cells]
theorem fo0 (x : gJ) (φ : AV → Prop) : ak 0 none (.ai x.av) φ = φ (.ai (.str x.name)) := by simp [ak, apart, gJ.av, AV.cells, AV.one]
theorem fo1 (x : gJ) (φ : AV → Prop) : ak 1 none (.ai x.av) φ = φ (.ai (.ap 0 (ints x.args))) := by simp [ak, apart, gJ.av, AV.cells, AV.one]
theorem fo2 (x : gJ) (φ : AV → Prop) : ak 2 none (.ai x.av) φ = φ (.ai (.int .i64 x.AD)) := by simp [ak, apart, gJ.av, AV.cells, AV.one]
theorem fs0 (x : Sg) (φ : AV → Prop) : ak 0 none (.ai x.av) φ = φ (.ai (.ap 0 (strs x.aZ))) := by simp [ak, apart, Sg.av, AV.cells, AV.one]
theorem fs1 (x : Sg) (φ : AV → Prop) : ak 1 none (.ai x.av) φ = φ (.ai (.ap 0 (oB x.ops))) := by simp [ak, apart, Sg.av, AV.cells, AV.one]
def aB := (And.intro (And.intro (And.intro (And.intro @vF @Cw) (And.intro @vG @vH)) (And.intro (And.intro @gJ.pi @gJ.vk) (And.intro (And.intro @gJ.pj @gJ.nv) (And.intro @gJ.qw @gJ.gE)))) (And.intro (And.intro (And.intro (And.intro @Sg.pi @Sg.vk) (And.intro (And.intro @Sg.pj @Sg.nv) (And.intro @Sg.qw @Sg.gE))) (And.intro (And.intro @HG @HH) (And.intro @Kp @Kq))) (And.intro (And.intro @Wz @qG) (And.intro (And.intro @fo0 @fo1) (And.intro @fo2 (And.intro @fs0 @fs1))))))
def w6 (p : Int → Bool) : List Int → Int → Int
 | [], _ => -1
 | x :: r, k => if p x = true then k else w6 p r (k + 1)
theorem Cy (p : Int → Bool) : ∀ (l : List Int) (k : Int), 0 ≤ k → (decide (0 ≤ w6 p l k) = l.any p)
 | [], k, _ => by simp [w6]
 | x :: r, k, h => by
   simp only [w6, List.any_cons]
   split
   ·rename_i hp; simp [hp, h]
   ·rename_i hp; simp [hp, Cy p r (k + 1) (by omega)]
theorem HI {p : Int → Bool} {l : List Int} {i : Nat} {k : Int} (h : i < l.length) : w6 p (l.drop i) k = if p (l.getD i 0) = true then k else w6 p (l.drop (i + 1)) (k + 1) := by
 rw [List.drop_eq_getElem_cons h]
 simp [w6, h]
theorem ZP (g : Nat) (cap : List AV) (cI : cap.map AV.ab = cap) (hb : aj 0 cap = true) (p : Int → Bool) (l : List Int) (hf : ∀ x ∈ l, Pure Tryz.prog g ([.int .i64 x] ++ cap) (.bool (p x))) :
 Pure Tryz.prog 100 [.ap 0 (ints l), .fn (.func g) [] cap] (.int .i64 (w6 p l 0)) := by
 refine fun H => Bt.2.calls rfl ?_
 simp only [Bt, aI]
 simp +contextual only [sZ, Nat.reduceEqDiff, Nat.reduceAdd, ↓reduceIte, reduceCtorEq]
 intro hl
 refine aE l.length (fun i => w6 p (l.drop i) i = w6 p l 0) (fun i => [(0, .ap 0 (ints l)), (1, .fn (.func g) [] cap), (7, .int .i64 l.length), (8, .int .i64 i)]) (fun _ => H) ⟨rfl, aA _ _ _⟩ fun i hi hI => ?_
 simp +contextual only [cI, sZ, Nat.reduceEqDiff, Nat.reduceAdd, ↓reduceIte, reduceCtorEq]
 refine ⟨fun aW => ?_, fun ji => ?_⟩
 ·have aW := bT aW
  rw [HI aW] at hI
  refine ⟨aW, ae (hf _ ?_) ?_⟩
  ·simp [aW]
  simp +contextual only [sZ, Nat.reduceEqDiff, ↓reduceIte, reduceCtorEq]
  refine tN (fun hb => ?_) (fun hb => ?_) <;> simp +contextual only [sZ, Nat.reduceEqDiff, ↓reduceIte, reduceCtorEq]
  ·rw [if_pos hb] at hI
   exact aY rfl (by rw [← hI])
  ·rw [if_neg (by rw [hb]; simp)] at hI
   exact ⟨i + 1, ⟨aW, hI⟩, by omega, aF (by rw [au i (by omega)]) rfl⟩
 ·rw [List.drop_of_length_le (df ji)] at hI
  exact aY rfl (by rw [← hI]; rfl)
theorem ZQ (g : Nat) (cap : List AV) (cI : cap.map AV.ab = cap) (hb : aj 0 cap = true) (p : Int → Bool) (l : List Int) (hf : ∀ x ∈ l, Pure Tryz.prog g ([.int .i64 x] ++ cap) (.bool (p x))) :
 Pure Tryz.prog 102 [.ap 0 (ints l), .fn (.func g) [] cap] (.bool (l.any p)) := by
 refine fun H => Bu.2.calls rfl ?_
 simp only [Bu, aI]
 simp +contextual only [sZ, Nat.reduceEqDiff, Nat.reduceAdd, ↓reduceIte, reduceCtorEq]
 refine ae (ZP g cap cI hb p l hf) ?_
 simp +contextual only [sZ, ↓reduceIte, reduceCtorEq]
 exact aY rfl (by rw [Cy p l 0 (by omega)])
end Go.aK
end
section
set_option maxRecDepth 100000
namespace Go.aK
open Go Go.Proofs
def HJ (n a : Int) : Bool := decide (0 ≤ a) && decide (a < n)
theorem WA (n a : Int) : Pure Tryz.prog 192 [.int .i64 a, .ai (.int .i64 n)] (.bool (HJ n a)) := by
 refine fun H => Ms.2.calls rfl ?_
 simp only [Ms, aI]
 unfold HJ
 simp +contextual only [sZ, Nat.reduceEqDiff, Nat.reduceAdd, ↓reduceIte, reduceCtorEq]
 refine ⟨fun h => aY rfl (by simp [h]), fun h => aY rfl (by simp; omega)⟩
theorem ZR (n a : Int) : Pure Tryz.prog 194 [.int .i64 a, .ai (.fn (.func 192) [] [.ai (.int .i64 n)])] (.bool (!HJ n a)) := by
 refine fun H => Mv.2.calls rfl ?_
 simp only [Mv, aI]
 simp +contextual only [sZ, Nat.reduceEqDiff, Nat.reduceAdd, ↓reduceIte, reduceCtorEq]
 refine ae (WA n a) ?_
 simp +contextual only [sZ, ↓reduceIte, reduceCtorEq]
 exact aY rfl rfl
def qH (o : gJ) (n : Int) : Bool :=
 oP o.name && (decide (mG o.name 95 < o.name.size) && ((decide (mG o.name 95 = 0) || decide (mG o.name 95 = o.args.length)) && (decide ((o.args.length : Int) ≤ 8) && (HJ n o.AD && !o.args.any fun a => !HJ n a))))
theorem ZS (o : gJ) (n : Int) : Pure Tryz.prog 143 [o.av, .int .i64 n] (.bool (qH o n)) := by
 refine fun H => OY.calls rfl ?_
 simp only [Ja, OX]
 unfold qH
 simp +contextual only [aB, sZ, Nat.reduceEqDiff, Nat.reduceAdd, ↓reduceIte, reduceCtorEq]
 refine ae (ZO o.name) ?_
 simp +contextual only [aB, sZ, Nat.reduceEqDiff, Nat.reduceAdd, ↓reduceIte]
 refine ae (Wy o.name) ?_
 cases hn : oP o.name with
 | false =>
   simp +contextual only [sZ, Nat.reduceEqDiff, ↓reduceIte, reduceCtorEq]
   exact aY rfl rfl
 | true =>
   have ZT := ZQ 194 [.ai (.fn (.func 192) [] [.ai (.int .i64 n)])] rfl rfl (fun a => !HJ n a) o.args (fun a _ => ZR n a)
   have Kr := WA n o.AD
   generalize HJ n o.AD = q at Kr ⊢
   generalize (o.args.any fun a => !HJ n a) = z at ZT ⊢
   by_cases h1 : mG o.name 95 < o.name.size
   ·have e1 : decide (mG o.name 95 < o.name.size) = true := decide_eq_true h1
    simp +contextual only [aB, h1, sZ, Nat.reduceEqDiff, Nat.reduceAdd, ↓reduceIte, reduceCtorEq]
    refine ⟨fun ZU _ => ⟨fun ZV => ?_, fun ZV => ?_⟩, fun ZU _ => ?_⟩
    ·have e2 : (decide (mG o.name 95 = 0) || decide (mG o.name 95 = (o.args.length : Int))) = true := by simp [ZV]
     refine ⟨fun h3 => ae Kr ?_, fun h3 => ?_⟩
     ·have e903 : decide ((o.args.length : Int) ≤ 8) = true := decide_eq_true h3
      rw [e1, e2, e903]
      cases q with
      | false =>
        simp +contextual only [sZ, Nat.reduceEqDiff, ↓reduceIte, reduceCtorEq]
        exact aY rfl (by simp)
      | true =>
        simp +contextual only [aB, sZ, Nat.reduceEqDiff, Nat.reduceAdd, ↓reduceIte, reduceCtorEq]
        refine ae ZT ?_
        simp +contextual only [sZ, Nat.reduceEqDiff, ↓reduceIte, reduceCtorEq]
        exact aY rfl (by simp)
     ·have e903 : decide ((o.args.length : Int) ≤ 8) = false := decide_eq_false (by omega)
      exact aY rfl (by rw [e903]; simp)
    ·have e2 : (decide (mG o.name 95 = 0) || decide (mG o.name 95 = (o.args.length : Int))) = false := by simp [ZU, ZV]
     exact aY rfl (by rw [e2]; simp)
    ·have e2 : (decide (mG o.name 95 = 0) || decide (mG o.name 95 = (o.args.length : Int))) = true := by simp [ZU]
     refine ⟨fun h3 => ae Kr ?_, fun h3 => ?_⟩
     ·have e903 : decide ((o.args.length : Int) ≤ 8) = true := decide_eq_true h3
      rw [e1, e2, e903]
      cases q with
      | false =>
        simp +contextual only [sZ, Nat.reduceEqDiff, ↓reduceIte, reduceCtorEq]
        exact aY rfl (by simp)
      | true =>
        simp +contextual only [aB, sZ, Nat.reduceEqDiff, Nat.reduceAdd, ↓reduceIte, reduceCtorEq]
        refine ae ZT ?_
        simp +contextual only [sZ, Nat.reduceEqDiff, ↓reduceIte, reduceCtorEq]
        exact aY rfl (by simp)
     ·have e903 : decide ((o.args.length : Int) ≤ 8) = false := decide_eq_false (by omega)
      exact aY rfl (by rw [e903]; simp)
   ·have e1 : decide (mG o.name 95 < o.name.size) = false := decide_eq_false h1
    rw [e1]
    simp +contextual only [aB, h1, sZ, Nat.reduceEqDiff, ↓reduceIte, reduceCtorEq]
    exact aY rfl (by simp)
end Go.aK
end
section
set_option maxRecDepth 100000
namespace Go.aK
open Go Go.Proofs
theorem WB (l : List Int) (hl : l.length * 8 ≤ 140737488355328) : Pure Tryz.prog 118 [.ap 0 (ints l)] (.ap 1 (ints l)) := fun H =>
 uX 0 (ints l) H (of_eq_true (lV l)) (by rw [aw]; exact hl) (bk _ _)
def HK (a : Int) : UInt8 := UInt8.ofNat (IntKind.u8.wrap a).toNat
theorem SK (a : Int) : AV.int .u8 (IntKind.u8.wrap a) = .int .u8 (HK a).toNat := by
 have h : 0 ≤ IntKind.u8.wrap a ∧ IntKind.u8.wrap a < 256 := by
  simp only [IntKind.wrap]
  have h1 : IntKind.u8.bits = 8 := rfl
  have h2 : IntKind.u8.signed = false := rfl
  rw [h1, h2]
  simp
  omega
 congr 1
 unfold HK
 rw [UInt8.toNat_ofNat']
 omega
def HL (o : gJ) : List UInt8 := (o.name ++ ⟨#[40]⟩).data.toList ++ (o.args ++ [o.AD]).map HK
def mH (o : gJ) : ByteArray := ⟨(HL o).toArray⟩
theorem EA (l : List UInt8) (a : Int) : bg l ++ [.int .u8 (IntKind.u8.wrap a)] = bg (l ++ [HK a]) := by
 rw [SK]; simp [bg]
theorem HM (l : List UInt8) : (bg l).length = l.length := by simp [bg]
theorem SL (s : ByteArray) (φ : AV → Prop) : eR 1 (.str s) φ = (s.size < 9223372036854775808 ∧ φ (.ap 1 (bg s.data.toList))) := _root_.id rfl
theorem SM (o : Nat) (l : List UInt8) (φ : AV → Prop) (h : φ (.str ⟨l.toArray⟩)) : jv (.ap o (bg l)) φ := ⟨l, rfl, h⟩
theorem SN (k k' : IntKind) (n : Int) (φ : AV → Prop) : cr k (.int k' n) φ = φ (.int k (k.wrap n)) := _root_.id rfl
theorem WC (o : gJ) (h1 : o.name.size ≤ 32) (h2 : o.args.length ≤ 8) : Pure Tryz.prog 144 [o.av] (.str (mH o)) := by
 refine fun H => O0.calls rfl ?_
 simp only [Jb, OZ]
 have c9 : (⟨#[40]⟩ : ByteArray).size = 1 := rfl
 have hs2 : (o.name ++ ⟨#[40]⟩ : ByteArray).size = o.name.size + 1 := by rw [ByteArray.size_append, c9]
 have hln : (o.name ++ ⟨#[40]⟩ : ByteArray).data.toList.length = o.name.size + 1 := hs2
 simp +contextual only [aB, SL, c9, hs2, sZ, Nat.reduceEqDiff, Nat.reduceAdd, ↓reduceIte]
 refine ⟨by omega, by omega, aH (WB o.args (by omega)) ?_⟩
 simp +contextual only [aB, ns, ok_int, rI, sZ, Nat.reduceEqDiff, Nat.reduceAdd, ↓reduceIte]
 refine ⟨by omega, ?_⟩
 generalize hv : o.args ++ [o.AD] = vs
 have pK : vs.length ≤ 9 := by rw [← hv]; simp; omega
 have hk : mH o = ⟨((o.name ++ ⟨#[40]⟩ : ByteArray).data.toList ++ vs.map HK).toArray⟩ := by rw [mH, HL, hv]
 rw [hk]
 generalize (o.name ++ ⟨#[40]⟩ : ByteArray).data.toList = nm at *
 refine aE vs.length (fun _ => True)
  (fun i => [(3, .ap 1 (bg (nm ++ (vs.take i).map HK))), (16, .ap 1 (ints vs)), (17, .int .i64 vs.length), (18, .int .i64 i)]) (fun _ => H) ⟨trivial, aF (by simp) rfl⟩ fun i hi hI => ?_
 simp +contextual only [sZ, Nat.reduceEqDiff, ↓reduceIte, reduceCtorEq]
 refine ⟨fun aW => ⟨bT aW, ?_⟩, fun ji => ?_⟩
 ·have aW := bT aW
  simp +contextual only [SN, ns, ok_int, EA, HM, sZ, Nat.reduceEqDiff, Nat.reduceAdd, ↓reduceIte]
  refine ⟨by simp; omega, i + 1, aW, by omega, aF ?_ rfl⟩
  rw [au i (by omega), List.take_add_one, List.map_append, ← List.append_assoc]
  simp [aW]
 ·rw [List.take_of_length_le (df ji)]
  refine SM 0 _ _ ?_
  simp +contextual only [sZ]
  exact aY rfl rfl
instance : LawfulBEq ByteArray where
 rfl := by intro a; rw [yQ]; simp
 eq_of_beq := by intro a b h; rw [yQ] at h; exact of_decide_eq_true h
def oQ (vs : List ByteArray) : List (AV × AV) := vs.map fun v => (.str v, .bool true)
theorem nC (n : ByteArray) : ∀ (vs : List ByteArray) (i : Nat), (n ∈ vs → ∃ j, dP 1 (.str n) (oQ vs) i = some (some (j, .bool true))) ∧ (n ∉ vs → dP 1 (.str n) (oQ vs) i = some none)
 | [], i => ⟨fun h => (by cases h), fun _ => rfl⟩
 | v :: r, i => by
   have ih := nC n r (i + 1)
   simp only [oQ, List.map_cons, dP, cR]
   by_cases hv : n = v
   ·subst hv
    simp
   ·simp only [List.mem_cons, hv, false_or]
    exact ih
theorem qI (n : ByteArray) (vs : List ByteArray) (φ : AV → Prop) : ij (some (.map (oQ vs))) 1 (.bool false) (.str n) false φ = φ (.bool (decide (n ∈ vs))) := by
 have h := nC n vs 0
 unfold ij
 by_cases hn : n ∈ vs
 ·obtain ⟨j, hj⟩ := h.1 hn
  simp [hj, hn, tM]
 ·simp [h.2 hn, hn, cR, aQ, bh.aQ, tM]
theorem Cz {n : ByteArray} {vs : List ByteArray} (hn : n ∉ vs) (id : Nat) (H : List aa) (K : List aa → Prop) : iq (some (.map (oQ vs))) 1 id (.str n) (.bool true) H K = K (H.set id (.map (oQ (vs ++ [n])))) := by
 have h := (nC n vs 0).2 hn
 unfold iq
 simp only [h]
 simp [cR, Jg, zE, Fu, oQ, aQ, bh.aQ, tM]
def me : List ByteArray → List ByteArray → Bool
 | [], _ => true
 | s :: r, seen => if oP s = true ∧ ¬ 0 ≤ N6 s ∧ s ∉ seen then me r (seen ++ [s]) else false
def Ae (n : Int) : List gJ → List ByteArray → Bool
 | [], _ => true
 | o :: r, seen => if qH o n = true ∧ mH o ∉ seen then Ae n r (seen ++ [mH o]) else false
def nD (s : Sg) : Bool := decide ((s.aZ.length : Int) ≤ 64) && decide ((s.ops.length : Int) ≤ 256) && me s.aZ [] && Ae s.aZ.length s.ops []
theorem sX {l : List ByteArray} {i : Nat} (h : i < l.length) (seen : List ByteArray) : me (l.drop i) seen = if oP (l.getD i default) = true ∧ ¬ 0 ≤ N6 (l.getD i default) ∧ l.getD i default ∉ seen then me (l.drop (i + 1)) (seen ++ [l.getD i default]) else false := by
 rw [List.drop_eq_getElem_cons h, me]
 have e : l.getD i default = l[i] := by simp [h]
 rw [e]
theorem ym {n : Int} {l : List gJ} {i : Nat} (h : i < l.length) (seen : List ByteArray) : Ae n (l.drop i) seen = if qH (l.getD i default) n = true ∧ mH (l.getD i default) ∉ seen then Ae n (l.drop (i + 1)) (seen ++ [mH (l.getD i default)]) else false := by
 rw [List.drop_eq_getElem_cons h, Ae]
 have e : l.getD i default = l[i] := by simp [h]
 rw [e]
theorem EB {o : gJ} {n : Int} (h : qH o n = true) : o.name.size ≤ 32 ∧ o.args.length ≤ 8 ∧ HJ n o.AD = true ∧ ∀ a ∈ o.args, HJ n a = true := by
 simp only [qH, oP, Bool.and_eq_true, Bool.not_eq_true', decide_eq_false_iff_not, decide_eq_true_eq] at h
 obtain ⟨⟨⟨_, h1⟩, _⟩, _, _, h2, h3, h4⟩ := h
 refine ⟨by omega, by omega, h3, fun a ha => ?_⟩
 cases hx : HJ n a with
 | true => rfl
 | false =>
   rw [Bool.eq_false_iff] at h4
   exact absurd (List.any_eq_true.2 ⟨a, ha, by rw [hx]; rfl⟩) h4
theorem c81 (s : Sg) : Pure Tryz.prog 81 [s.av] (.int .i64 (if nD s = true then 0 else 40)) := by
 refine fun H => Un.calls rfl ?_
 simp only [QA, Um]
 have bad : ∀ {G : List aa} {e : Bool}, e = false → G.take H.length = H → nD s = e → bV H.length [RX.t 2] [(2, AV.int IntKind.i64 40)] G fun r H' => r = AV.int IntKind.i64 (if nD s = true then 0 else 40) ∧ H' = H := by
  intro G e he hG hc
  rw [hc, he]
  exact NL hG rfl rfl ⟨rfl, rfl⟩
 simp +contextual only [aB, sZ, Nat.reduceEqDiff, Nat.reduceAdd, ↓reduceIte, reduceCtorEq]
 refine fun _ => ⟨fun h1 _ => ⟨fun h2 => ?_, fun h2 => ?_⟩, fun h1 => ?_⟩
 ·have h2' : ¬ (s.ops.length : Int) ≤ 256 := by omega
  exact bad rfl (by simp) (by rw [nD, decide_eq_false h2']; simp)
 ·refine aM s.aZ.length (fun i (seen : List ByteArray) => me (s.aZ.drop i) seen = me s.aZ [])
   (fun i seen => [(1, .ai s.av), (3, .map H.length), (21, .ap 0 (strs s.aZ)), (22, .int .i64 s.aZ.length), (23, .int .i64 i)]) (fun i seen => H ++ [.map (oQ seen)]) [] ⟨rfl, aA _ _ _⟩ fun i seen hi hI => ?_
  simp +contextual only [aB, sZ, Nat.reduceEqDiff, Nat.reduceAdd, ↓reduceIte]
  refine ⟨fun aW => ⟨bT aW, ?_⟩, fun ji => ?_⟩
  ·have aW := bT aW
   rw [sX aW] at hI
   generalize s.aZ.getD i default = x at *
   refine ae (Wy x) ?_
   cases hn : oP x with
   | false =>
     rw [hn, if_neg (by simp)] at hI
     simp +contextual only [sZ, Nat.reduceEqDiff, ↓reduceIte, reduceCtorEq]
     exact bad rfl (by simp) (by simp [nD, ← hI])
   | true =>
     rw [hn] at hI
     simp +contextual only [sZ, Nat.reduceEqDiff, Nat.reduceAdd, ↓reduceIte]
     refine ae (ZN x) ?_
     by_cases hu : 0 ≤ N6 x
     ·rw [if_neg (fun h => h.2.1 hu)] at hI
      simp +contextual only [hu, sZ, Nat.reduceEqDiff, ↓reduceIte, reduceCtorEq]
      exact bad rfl (by simp) (by simp [nD, ← hI])
     ·by_cases hm : x ∈ seen
      ·rw [if_neg (fun h => h.2.2 hm)] at hI
       simp +contextual only [hu, qI, hm, sZ, Nat.reduceEqDiff, ↓reduceIte, reduceCtorEq]
       exact bad rfl (by simp) (by simp [nD, ← hI])
      ·rw [if_pos ⟨rfl, hu, hm⟩] at hI
       simp +contextual only [hu, qI, hm, Cz hm, sZ, Nat.reduceEqDiff, ↓reduceIte]
       exact ⟨i + 1, seen ++ [x], ⟨aW, hI⟩, by omega, aF (by rw [au i (by omega)]) rfl⟩
  ·have hs : me s.aZ [] = true := by
    rw [← hI, List.drop_of_length_le (df ji)]; rfl
   have hc : nD s = Ae s.aZ.length s.ops [] := by simp [nD, h1, h2, hs]
   clear hI
   simp +contextual only [sZ]
   refine fun _ => aM s.ops.length (fun i (seen2 : List ByteArray) => Ae s.aZ.length (s.ops.drop i) seen2 = Ae s.aZ.length s.ops [])
    (fun i seen2 => [(1, .ai s.av), (6, .map (H.length + 1)), (44, .ap 0 (oB s.ops)), (45, .int .i64 s.ops.length), (46, .int .i64 i)]) (fun i seen2 => H ++ [.map (oQ seen), .map (oQ seen2)]) [] ⟨rfl, aA _ _ _⟩ fun i seen2 hi hI => ?_
   simp +contextual only [aB, sZ, Nat.reduceEqDiff, Nat.reduceAdd, ↓reduceIte, reduceCtorEq]
   refine ⟨fun aW => ⟨bT aW, ?_⟩, fun ji => ?_⟩
   ·have aW := bT aW
    rw [ym aW] at hI
    generalize s.ops.getD i default = x at *
    refine fun _ => ae (ZS x _) ?_
    cases hg : qH x s.aZ.length with
    | false =>
      rw [hg, if_neg (by simp)] at hI
      simp +contextual only [sZ, Nat.reduceEqDiff, ↓reduceIte, reduceCtorEq]
      exact bad rfl (by simp) (by rw [hc, ← hI])
    | true =>
      rw [hg] at hI
      have Yb := EB hg
      simp +contextual only [aB, sZ, Nat.reduceEqDiff, Nat.reduceAdd, ↓reduceIte]
      refine ae (WC x Yb.1 Yb.2.1) ?_
      by_cases hm : mH x ∈ seen2
      ·rw [if_neg (fun h => h.2 hm)] at hI
       simp +contextual only [qI, hm, sZ, Nat.reduceEqDiff, ↓reduceIte, reduceCtorEq]
       exact bad rfl (by simp) (by rw [hc, ← hI])
      ·rw [if_pos ⟨rfl, hm⟩] at hI
       simp +contextual only [aB, qI, hm, sZ, Nat.reduceEqDiff, Nat.reduceAdd, ↓reduceIte]
       refine ae (WC x Yb.1 Yb.2.1) ?_
       simp +contextual only [Cz hm, sZ, Nat.reduceEqDiff, ↓reduceIte]
       exact ⟨i + 1, seen2 ++ [mH x], ⟨aW, hI⟩, by omega, aF (by rw [au i (by omega)]) rfl⟩
   ·rw [List.drop_of_length_le (df ji)] at hI
    exact NL (by simp) rfl rfl ⟨by rw [hc, ← hI]; rfl, rfl⟩
 ·have YQ : ¬ (s.aZ.length : Int) ≤ 64 := by omega
  exact bad rfl (by simp) (by rw [nD, decide_eq_false YQ]; simp)
end Go.aK
end
section
set_option maxRecDepth 100000
namespace Go.aK
open Go Go.Proofs Go.fJ
def gT (w : List (Int × Int)) : List (AV × AV) := w.map fun p => (.int .i64 p.1, .int .i64 p.2)
theorem EC (n : Int) : ∀ (w : List (Int × Int)) (i : Nat), (∃ j s, w[j]? = some (n, s) ∧ dP 0 (.int .i64 n) (gT w) i = some (some (i + j, .int .i64 s))) ∨ ((∀ p ∈ w, p.1 ≠ n) ∧ dP 0 (.int .i64 n) (gT w) i = some none)
 | [], i => .inr ⟨(fun p h => by cases h), rfl⟩
 | (a, b) :: r, i => by
   have ih := EC n r (i + 1)
   simp only [gT, List.map_cons, dP, cR, if_true]
   by_cases h : n = a
   ·subst h
    exact .inl ⟨0, b, rfl, by simp⟩
   ·simp only [decide_eq_false h]
    rcases ih with ⟨j, s, h1, h2⟩ | ⟨h1, h2⟩
    ·exact .inl ⟨j + 1, s, h1, by rw [show i + (j + 1) = i + 1 + j by omega]; exact h2⟩
    ·refine .inr ⟨fun p hp => ?_, h2⟩
     rcases List.mem_cons.1 hp with rfl | hp
     ·exact fun e => h e.symm
     ·exact h1 p hp
theorem WD {n : Int} {w : List (Int × Int)} {φ : AV → Prop} (h1 : ∀ s, (n, s) ∈ w → φ (.tuple [.int .i64 s, .bool true])) (h2 : (∀ p ∈ w, p.1 ≠ n) → φ (.tuple [.int .i64 0, .bool false])) : ij (some (.map (gT w))) 0 (.int .i64 0) (.int .i64 n) true φ := by
 unfold ij
 rcases EC n w 0 with ⟨j, s, h3, h4⟩ | ⟨h3, h4⟩
 ·simp only [h4]; exact h1 s (List.mem_of_getElem? h3)
 ·simp only [h4]; exact ⟨by simp [cR], h2 h3⟩
theorem msW {n s : Int} {w : List (Int × Int)} {id : Nat} {H : List aa} {K : List aa → Prop} (h : ∀ w', (∀ p ∈ w', p ∈ w ∨ p = (n, s)) → (∀ p ∈ w, ∃ q ∈ w', q.1 = p.1) → (n, s) ∈ w' → K (H.set id (.map (gT w')))) : iq (some (.map (gT w))) 0 id (.int .i64 n) (.int .i64 s) H K := by
 unfold iq
 refine ⟨rfl, rfl, rfl, ?_⟩
 have ec : aQ (.int .i64 s) = .int .i64 s := rfl
 rcases EC n w 0 with ⟨j, x, h3, h4⟩ | ⟨h3, h4⟩
 ·simp only [h4, ec, Nat.zero_add]
  have e : (gT w).set j (.int .i64 n, .int .i64 s) = gT (w.set j (n, s)) := by simp [gT, List.map_set]
  rw [e]
  have hj := (List.getElem?_eq_some_iff.1 h3).1
  refine h _ (fun p hp => List.mem_or_eq_of_mem_set hp) (fun p hp => ?_) (List.mem_iff_getElem?.2 ⟨j, by rw [List.getElem?_set_self hj]⟩)
  obtain ⟨m, hm⟩ := List.mem_iff_getElem?.1 hp
  by_cases e : j = m
  ·subst e
   rw [h3] at hm; cases hm
   exact ⟨(n, s), List.mem_iff_getElem?.2 ⟨j, by rw [List.getElem?_set_self hj]⟩, rfl⟩
  ·exact ⟨p, List.mem_iff_getElem?.2 ⟨m, by rw [List.getElem?_set_ne e]; exact hm⟩, rfl⟩
 ·simp only [h4, ec]
  refine ⟨by simp [cR], ?_⟩
  have e : gT w ++ [(AV.int .i64 n, AV.int .i64 s)] = gT (w ++ [(n, s)]) := by simp [gT]
  rw [e]
  exact h _ (fun p hp => by simpa using hp) (fun p hp => ⟨p, List.mem_append.2 (.inl hp), rfl⟩) (by simp)
structure N7 (ps ss : List Int) (i : Nat) : Prop where
 OI : ∀ j, j < i → 0 ≤ ps.getD j 0 ∧ ps.getD j 0 ≤ 255 ∧ 1 ≤ ss.getD j 0 ∧ ss.getD j 0 ≤ 3
 st : ∀ j k, j < i → k < i → ps.getD j 0 = ps.getD k 0 → ss.getD j 0 = ss.getD k 0
def eI (s : Sg) (ps ss : List Int) : Prop := ps.length = s.ops.length ∧ ss.length = s.ops.length ∧ N7 ps ss ps.length
theorem eI.va {s : Sg} {ps ss : List Int} (h : eI s ps ss) : Va ps ss := ⟨by rw [h.2.1, h.1], h.2.2.st⟩
open Classical in
noncomputable def iX (s : Sg) (ps ss : List Int) : Int := if nD s = true then (if eI s ps ss then 0 else 60) else 40
theorem vI (ps ss : List Int) (φ : AV → Prop) : ak 0 none (.ai (ff ps ss)) φ = φ (.ai (.ap 0 (ints ps))) := by simp [ak, apart, ff, AV.cells, AV.one]
theorem w7 (ps ss : List Int) (φ : AV → Prop) : ak 1 none (.ai (ff ps ss)) φ = φ (.ai (.ap 0 (ints ss))) := by simp [ak, apart, ff, AV.cells, AV.one]
theorem bi (ps ss : List Int) : (ff ps ss).val = true ∧ (ff ps ss).cells.length = 2 ∧ (ff ps ss).cells.all AV.one = true ∧ (ff ps ss).ab = ff ps ss ∧ (ff ps ss).drop = ff ps ss ∧ ∀ n, (ff ps ss).a7 n = true :=
 ⟨rfl, rfl, rfl, rfl, rfl, fun n => by simp [ff, uZ, bM, c8, cZ, bk]⟩
theorem cz (ps ss : List Int) (H : List aa) (φ : AV → Prop) : aS (some 2) (.ai (ff ps ss)) H φ = φ (ff ps ss) := N0 _ _ _ _
theorem ZW (s : Sg) (ps ss : List Int) : Pure Tryz.prog 24 [s.av, ff ps ss] (.int .i64 (iX s ps ss)) := by
 refine fun H => k24.2.calls rfl ?_
 simp only [k24, aI]
 obtain ⟨q1, q2, q3, q4, q5, q6⟩ := bi ps ss
 simp +contextual only [aB, q1, sZ, Nat.reduceEqDiff, Nat.reduceAdd, ↓reduceIte, reduceCtorEq]
 refine ae (c81 s) ?_
 cases hs : nD s with
 | false =>
   have e : iX s ps ss = 40 := by rw [iX, if_neg (by rw [hs]; simp)]
   rw [e]
   simp +contextual only [Bool.false_eq_true, sZ, Nat.reduceEqDiff, ↓reduceIte, reduceCtorEq, Int.reduceEq]
   exact aY rfl rfl
 | true =>
   simp +contextual only [aB, vI, w7, aw, sZ, Nat.reduceEqDiff, ↓reduceIte, reduceCtorEq]
   have bad : ¬ eI s ps ss → iX s ps ss = 60 := fun h => by rw [iX, if_pos hs, if_neg h]
   have SO : eI s ps ss → iX s ps ss = 0 := fun h => by rw [iX, if_pos hs, if_pos h]
   have ret60 : ∀ (X : List aa), ¬ eI s ps ss → bV H.length [.t 4] [(4, .int .i64 60)] (H ++ X) fun r H' => r = .int .i64 (iX s ps ss) ∧ H' = H := fun X h => by rw [bad h]; exact JX rfl rfl
   have ret60' : ¬ eI s ps ss → bV H.length [.t 4] [(4, .int .i64 60)] H fun r H' => r = .int .i64 (iX s ps ss) ∧ H' = H := fun h => by rw [bad h]; exact aY rfl rfl
   refine fun _ _ => ⟨fun hl => ?_, fun hl => ?_⟩
   rotate_left
   ·first | exact ret60' fun h => hl (by omega) | (refine ret60' fun h => ?_; have := h.1; omega)
   refine fun _ => ⟨fun nP => ret60' fun h => nP (by have := h.2.1; omega), fun nP => ?_⟩
   have g0 : ∀ w, (H ++ [aa.map (gT w)])[H.length]? = some (.map (gT w)) := fun w => by simp
   have gs : ∀ w w', (H ++ [aa.map (gT w)]).set H.length (.map (gT w')) = H ++ [.map (gT w')] := fun w w' => by simp
   refine aM ps.length (fun i (w : List (Int × Int)) => N7 ps ss i ∧ (∀ p ∈ w, ∃ j, j < i ∧ ps.getD j 0 = p.1 ∧ ss.getD j 0 = p.2) ∧ ∀ j, j < i → ∃ p ∈ w, p.1 = ps.getD j 0)
    (fun i w => [(3, .ai (ff ps ss)), (6, .map H.length), (35, .ap 0 (ints ps)), (36, .int .i64 s.ops.length), (37, .int .i64 i)]) (fun i w => H ++ [.map (gT w)]) []
    ⟨⟨⟨fun j h => by omega, fun j k h => by omega⟩, (fun p h => by cases h), fun j h => by omega⟩, aA _ _ _⟩ fun i w hi hI => ?_
   ·obtain ⟨hu, hw1, hw2⟩ := hI
    have nbad : ∀ j, j < ps.length → ¬ (0 ≤ ps.getD j 0 ∧ ps.getD j 0 ≤ 255 ∧ 1 ≤ ss.getD j 0 ∧ ss.getD j 0 ≤ 3) → ¬ eI s ps ss := fun j hj h h' => h (h'.2.2.OI j hj)
    by_cases LD : (i : Int) < s.ops.length
    ·have SP : i < ps.length := by omega
     simp +contextual only [w7, cA, Int.toNat_natCast, g0, LD, decide_true, sZ, Nat.reduceEqDiff, ↓reduceIte]
     generalize hp : ps.getD i 0 = p
     generalize hq : ss.getD i 0 = q
     refine ⟨by omega, ⟨by omega, by omega⟩, ?_⟩
     by_cases r1 : p < 0
     ·refine WD (fun o _ => ?_) (fun _ => ?_)
      all_goals
       simp +contextual only [r1, decide_true, sZ, Nat.reduceEqDiff, Nat.reduceAdd, Nat.reduceLT, ↓reduceIte, reduceCtorEq]
       exact ret60 _ (nbad i SP (by rw [hp]; omega))
     ·by_cases r2 : 255 < p
      ·refine WD (fun o _ => ?_) (fun _ => ?_)
       all_goals
        simp +contextual only [r1, r2, decide_true, decide_false, sZ, Nat.reduceEqDiff, Nat.reduceAdd, Nat.reduceLT, ↓reduceIte, reduceCtorEq]
        exact ret60 _ (nbad i SP (by rw [hp]; omega))
      ·by_cases r3 : q < 1
       ·refine WD (fun o _ => ?_) (fun _ => ?_)
        all_goals
         simp +contextual only [r1, r2, r3, decide_true, decide_false, sZ, Nat.reduceEqDiff, Nat.reduceAdd, Nat.reduceLT, ↓reduceIte, reduceCtorEq]
         exact ret60 _ (nbad i SP (by rw [hq]; omega))
       ·by_cases r4 : 3 < q
        ·refine WD (fun o _ => ?_) (fun _ => ?_)
         all_goals
          simp +contextual only [r1, r2, r3, r4, decide_true, decide_false, sZ, Nat.reduceEqDiff, Nat.reduceAdd, Nat.reduceLT, ↓reduceIte, reduceCtorEq]
          exact ret60 _ (nbad i SP (by rw [hq]; omega))
        ·have ZX : 0 ≤ p ∧ p ≤ 255 ∧ 1 ≤ q ∧ q ≤ 3 := ⟨by omega, by omega, by omega, by omega⟩
         have next : (∀ j, j < i → ps.getD j 0 = p → ss.getD j 0 = q) → ∀ w' : List (Int × Int), (∀ x ∈ w', x ∈ w ∨ x = (p, q)) → (∀ x ∈ w, ∃ y ∈ w', y.1 = x.1) → (p, q) ∈ w' → N7 ps ss (i + 1) ∧ (∀ x ∈ w', ∃ j, j < i + 1 ∧ ps.getD j 0 = x.1 ∧ ss.getD j 0 = x.2) ∧ ∀ j, j < i + 1 → ∃ x ∈ w', x.1 = ps.getD j 0 := by
          intro hsame w' m1 m2 m3
          refine ⟨⟨fun j hj => ?_, fun j k hj hk he => ?_⟩, fun x hx => ?_, fun j hj => ?_⟩
          ·by_cases e : j = i
           ·subst e; rw [hp, hq]; exact ZX
           ·exact hu.OI j (by omega)
          ·by_cases e : j = i
           ·by_cases e' : k = i
            ·rw [e, e']
            ·subst e; rw [hp] at he; rw [hq]; exact (hsame k (by omega) he.symm).symm
           ·by_cases e' : k = i
            ·subst e'; rw [hp] at he; rw [hq]; exact hsame j (by omega) he
            ·exact hu.st j k (by omega) (by omega) he
          ·rcases m1 x hx with h | rfl
           ·obtain ⟨j, h1, h2, h3⟩ := hw1 x h; exact ⟨j, by omega, h2, h3⟩
           ·exact ⟨i, by omega, hp, hq⟩
          ·by_cases e : j = i
           ·subst e; rw [hp]; exact ⟨_, m3, rfl⟩
           ·obtain ⟨x, h1, h2⟩ := hw2 j (by omega)
            obtain ⟨y, h3, h4⟩ := m2 x h1
            exact ⟨y, h3, h4.trans h2⟩
         refine WD (fun o ho => ?_) (fun jR => ?_)
         ·obtain ⟨j0, hj1, ZY, ZZ⟩ := hw1 _ ho
          simp only at ZY ZZ
          by_cases V7 : o = q
          ·subst V7
           have d0 : decide (¬ o = o) = false := by simp
           simp +contextual only [r1, r2, r3, r4, decide_false, g0, sZ, Nat.reduceEqDiff, Nat.reduceAdd, Nat.reduceLT, ↓reduceIte]
           refine msW fun w' m1 m2 m3 => ?_
           simp +contextual only [gs, sZ, Nat.reduceEqDiff, ↓reduceIte]
           refine ⟨i + 1, w', ⟨SP, next (fun j hj he => ?_) w' m1 m2 m3⟩, by omega, aF (by rw [au i (by omega)]) rfl⟩
           rw [hu.st j j0 hj hj1 (he.trans ZY.symm), ZZ]
          ·have d0 : decide (¬ o = q) = true := by simp [V7]
           simp +contextual only [r1, r2, r3, r4, decide_false, d0, sZ, Nat.reduceEqDiff, Nat.reduceAdd, Nat.reduceLT, ↓reduceIte, reduceCtorEq]
           exact ret60 _ fun h => V7 (by rw [← ZZ, ← hq]; exact h.2.2.st j0 i (by omega) SP (ZY.trans hp.symm))
         ·simp +contextual only [r1, r2, r3, r4, decide_false, g0, sZ, Nat.reduceEqDiff, Nat.reduceAdd, Nat.reduceLT, ↓reduceIte]
          refine msW fun w' m1 m2 m3 => ?_
          simp +contextual only [gs, sZ, Nat.reduceEqDiff, ↓reduceIte]
          refine ⟨i + 1, w', ⟨SP, next (fun j hj he => ?_) w' m1 m2 m3⟩, by omega, aF (by rw [au i (by omega)]) rfl⟩
          obtain ⟨x, h1, h2⟩ := hw2 j hj
          exact absurd (h2.trans he) (jR x h1)
    ·have Zz : i = ps.length := by omega
     subst Zz
     rw [SO ⟨by omega, by omega, hu⟩]
     simp +contextual only [LD, decide_false, sZ, Nat.reduceEqDiff, ↓reduceIte, reduceCtorEq]
     exact JX rfl rfl
end Go.aK
end
section
set_option maxRecDepth 100000
namespace Go.aK
open Go Go.Proofs Go.fJ
theorem WE (g : Nat) (cB : List AV) (cI : cB.map AV.ab = cB) (p : T → Bool) (l : List T) (hf : ∀ x ∈ l, Pure Tryz.prog g ([x.av] ++ cB) (.bool (p x))) :
 Pure Tryz.prog 114 [.ap 0 (cG l), .fn (.func g) [] cB] (.int .i64 (rK p l 0)) := by
 refine fun H => Bv.2.calls rfl ?_
 simp only [Bv, aI]
 simp +contextual only [sZ, Nat.reduceEqDiff, Nat.reduceAdd, ↓reduceIte, reduceCtorEq]
 intro hl
 refine aE l.length (fun i => rK p (l.drop i) i = rK p l 0) (fun i => [(0, .ap 0 (cG l)), (1, .fn (.func g) [] cB), (7, .int .i64 l.length), (8, .int .i64 i)]) (fun _ => H) ⟨rfl, aA _ _ _⟩ fun i hi hI => ?_
 simp +contextual only [cI, sZ, Nat.reduceEqDiff, Nat.reduceAdd, ↓reduceIte, reduceCtorEq]
 refine ⟨fun aW => ?_, fun ji => ?_⟩
 ·have aW := bT aW
  rw [xV aW] at hI
  refine ⟨aW, ae (hf _ (fG aW)) ?_⟩
  cases hb : p (l.getD i default) with
  | true =>
    rw [if_pos hb] at hI
    simp +contextual only [sZ, Nat.reduceEqDiff, ↓reduceIte, reduceCtorEq]
    exact aY rfl (by rw [← hI])
  | false =>
    rw [if_neg (by rw [hb]; simp)] at hI
    simp +contextual only [sZ, Nat.reduceEqDiff, ↓reduceIte, reduceCtorEq]
    exact ⟨i + 1, ⟨aW, hI⟩, by omega, aF (by rw [au i (by omega)]) rfl⟩
 ·rw [List.drop_of_length_le (df ji)] at hI
  exact aY rfl (by rw [← hI]; rfl)
theorem SQ (g : Nat) (cB : List AV) (cI : cB.map AV.ab = cB) (p : T → Bool) (l : List T) (hf : ∀ x ∈ l, Pure Tryz.prog g ([x.av] ++ cB) (.bool (p x))) :
 Pure Tryz.prog 53 [.ap 0 (cG l), .fn (.func g) [] cB] (.bool (l.any p)) := by
 refine fun H => OU.2.calls rfl ?_
 simp only [OU, aI]
 simp +contextual only [sZ, Nat.reduceEqDiff, Nat.reduceAdd, ↓reduceIte, reduceCtorEq]
 refine ae (WE g cB cI p l hf) ?_
 simp +contextual only [sZ, ↓reduceIte, reduceCtorEq]
 exact aY rfl (by rw [vq p l 0 (by omega)])
theorem Z0 (x : T) : Pure Tryz.prog 130 [x.av] (.int .i64 (if x.tree = true then 0 else 4)) := by
 refine fun H => Mj.2.calls rfl ?_
 simp only [Mj, aI]
 simp +contextual only [sZ, Nat.reduceEqDiff, Nat.reduceAdd, ↓reduceIte]
 refine ae (V4 x) ?_
 cases h : x.tree with
 | true => simp +contextual only [Bool.not_true, sZ, ↓reduceIte, reduceCtorEq]; exact aY rfl rfl
 | false => simp +contextual only [Bool.not_false, sZ, ↓reduceIte, reduceCtorEq]; exact aY rfl rfl
mutual
def nE (s : Sg) : T → Bool
 | .mk k n l => !(decide (k = 2) && (decide ((s.ops.length : Int) ≤ n) || !decide ((l.length : Int) = ((s.ops.getD n.toNat default).args.length : Nat)))) && Yc s l
def Yc (s : Sg) : List T → Bool
 | [] => true
 | x :: r => nE s x && Yc s r
end
theorem tU (s : Sg) : ∀ l, Yc s l = !(l.any fun x => !nE s x)
 | [] => rfl
 | x :: r => by rw [Yc, tU s r, List.any_cons]; cases nE s x <;> simp
theorem Z1 (s : Sg) : ∀ t : T, t.shaped = true → Pure Tryz.prog 131 [s.av, t.av] (.bool (nE s t)) := by
 suffices h : ∀ N t, wt t ≤ N → t.shaped = true → Pure Tryz.prog 131 [s.av, t.av] (.bool (nE s t)) from fun t ht => h _ t (Nat.le_refl _) ht
 intro N
 induction N with
 | zero => intro t h; have := fw t; omega
 | succ N ih =>
 intro t hN hs H
 have hk := kc hs
 have c182 : ∀ x ∈ t.l, Pure Tryz.prog 182 ([x.av] ++ [.ai s.av]) (.bool (!nE s x)) := by
  intro x hx H
  refine U7.2.calls rfl ?_
  simp only [U7, aI]
  simp +contextual only [aB, sZ, Nat.reduceEqDiff, Nat.reduceAdd, ↓reduceIte, reduceCtorEq]
  refine ae (ih x (by have := bJ hx; omega) (hk.2 x hx)) ?_
  simp +contextual only [sZ, ↓reduceIte, reduceCtorEq]
  exact aY rfl rfl
 have hn : 0 ≤ t.n := by
  rw [T.dR] at hs
  simp only [Bool.and_eq_true, Bool.not_eq_true', Bool.or_eq_false_iff, decide_eq_false_iff_not] at hs
  have := hs.1.1.1.1
  omega
 obtain ⟨m, hm⟩ := Int.eq_ofNat_of_zero_le hn
 refine UE.2.calls rfl ?_
 simp only [UE, aI]
 have e : nE s t = (!(decide (t.k = 2) && (decide ((s.ops.length : Int) ≤ t.n) || !decide ((t.l.length : Int) = ((s.ops.getD t.n.toNat default).args.length : Nat)))) && !(t.l.any fun x => !nE s x)) := by
  rw [← tU]; cases t; rfl
 have fin : (!(decide (t.k = 2) && (decide ((s.ops.length : Int) ≤ t.n) || !decide ((t.l.length : Int) = ((s.ops.getD t.n.toNat default).args.length : Nat))))) = false → bV H.length [.t 4] [(4, .bool false)] H fun r H' => r = .bool (nE s t) ∧ H' = H := by
  intro h
  rw [e, h]; exact aY rfl rfl
 by_cases h2 : t.k = 2
 ·by_cases h3 : (s.ops.length : Int) ≤ t.n
  ·simp +contextual only [aB, h2, h3, decide_true, sZ, Nat.reduceEqDiff, Nat.reduceAdd, ↓reduceIte, reduceCtorEq]
   exact fin (by simp [h2, h3])
  ·have Yd : m < s.ops.length := by omega
   have Tt : ¬ (s.ops.length : Int) ≤ (m : Int) := by omega
   have em : t.n.toNat = m := by omega
   by_cases h4 : (t.l.length : Int) = ((s.ops.getD m default).args.length : Nat)
   ·simp +contextual only [aB, h2, Tt, h4, hm, Yd, aw, decide_true, decide_false, sZ, Nat.reduceEqDiff, Nat.reduceAdd, ↓reduceIte, reduceCtorEq]
    refine ae (SQ 182 [.ai s.av] rfl _ t.l c182) ?_
    simp +contextual only [sZ, ↓reduceIte, reduceCtorEq]
    refine aY rfl ?_
    rw [e, em, h4]
    simp [h2, h3]
   ·simp +contextual only [aB, h2, Tt, h4, hm, Yd, aw, decide_true, decide_false, sZ, Nat.reduceEqDiff, Nat.reduceAdd, ↓reduceIte, reduceCtorEq]
    exact fin (by rw [em, decide_eq_true h2, decide_eq_false h3, decide_eq_false h4]; rfl)
 ·simp +contextual only [aB, h2, decide_false, sZ, Nat.reduceEqDiff, Nat.reduceAdd, ↓reduceIte, reduceCtorEq]
  refine ae (SQ 182 [.ai s.av] rfl _ t.l c182) ?_
  simp +contextual only [sZ, ↓reduceIte, reduceCtorEq]
  refine aY rfl ?_
  rw [e]
  simp [h2]
noncomputable def fU (s : Sg) (ps ss : List Int) (l : List T) : Int := if iX s ps ss = 0 then (if (l.all fun t => t.tree && nE s t) = true then 0 else 4) else iX s ps ss
theorem HN {p : T → Bool} {l : List T} {i : Nat} (h : i < l.length) : (l.drop i).all p = (p (l.getD i default) && (l.drop (i + 1)).all p) := by
 have e : l.getD i default = l[i] := by simp [h]
 rw [List.drop_eq_getElem_cons h, List.all_cons, e]
theorem WG (s : Sg) (ps ss : List Int) (l : List T) : Pure Tryz.prog 74 [s.av, ff ps ss, .ap 0 (cG l)] (.int .i64 (fU s ps ss l)) := by
 refine fun H => k74.2.calls rfl ?_
 simp only [k74, aI]
 obtain ⟨q1, q2, q3, q4, q5, q6⟩ := bi ps ss
 simp +contextual only [aB, q1, q4, cz, sZ, Nat.reduceEqDiff, Nat.reduceAdd, ↓reduceIte, reduceCtorEq]
 refine ae (ZW s ps ss) ?_
 by_cases h0 : iX s ps ss = 0
 ·simp +contextual only [h0, sZ, Nat.reduceEqDiff, ↓reduceIte]
  intro _
  refine aE l.length (fun i => l.all (fun t => t.tree && nE s t) = (l.drop i).all fun t => t.tree && nE s t) (fun i => [(3, .ai s.av), (16, .ap 0 (cG l)), (17, .int .i64 l.length), (18, .int .i64 i)]) (fun _ => H) ⟨rfl, aA _ _ _⟩ fun i hi hI => ?_
  by_cases Az : (i : Int) < l.length
  ·have aW : i < l.length := by omega
   rw [HN aW] at hI
   simp +contextual only [Az, decide_true, sZ, Nat.reduceEqDiff, Nat.reduceAdd, ↓reduceIte]
   refine ⟨aW, ae (Z0 _) ?_⟩
   cases ht : (l.getD i default).tree with
   | false =>
     rw [ht, Bool.false_and, Bool.false_and] at hI
     simp +contextual only [sZ, Nat.reduceEqDiff, ↓reduceIte, reduceCtorEq, Int.reduceEq]
     refine aY rfl ?_
     rw [fU, if_pos h0, hI, if_neg (by simp)]
   | true =>
     rw [ht, Bool.true_and] at hI
     simp +contextual only [aB, sZ, Nat.reduceEqDiff, Nat.reduceAdd, ↓reduceIte]
     refine ae (Z1 s _ ((T.gG _).1 ht).2.2) ?_
     cases ho : nE s (l.getD i default) with
     | false =>
       rw [ho, Bool.false_and] at hI
       simp +contextual only [Bool.not_false, sZ, Nat.reduceEqDiff, ↓reduceIte, reduceCtorEq]
       refine aY rfl ?_
       rw [fU, if_pos h0, hI, if_neg (by simp)]
     | true =>
       rw [ho, Bool.true_and] at hI
       simp +contextual only [Bool.not_true, sZ, Nat.reduceEqDiff, ↓reduceIte]
       exact ⟨i + 1, ⟨aW, hI⟩, by omega, aF (by rw [au i (by omega)]) rfl⟩
  ·simp +contextual only [Az, decide_false, sZ, Nat.reduceEqDiff, ↓reduceIte, reduceCtorEq]
   rw [List.drop_of_length_le (by omega)] at hI
   refine aY rfl ?_
   rw [fU, if_pos h0, hI]; rfl
 ·simp +contextual only [h0, sZ, Nat.reduceEqDiff, ↓reduceIte, reduceCtorEq]
  refine aY rfl ?_
  rw [fU, if_neg h0]
theorem SR {s : Sg} : ∀ t : T, t.shaped = true → nE s t = true → yf (fun n => 0 ≤ n ∧ n < s.ops.length) t := by
 suffices h : ∀ N t, wt t ≤ N → t.shaped = true → nE s t = true → yf (fun n => 0 ≤ n ∧ n < s.ops.length) t from fun t => h _ t (Nat.le_refl _)
 intro N
 induction N with
 | zero => intro t h; have := fw t; omega
 | succ N ih =>
 intro t hN hs ho
 have hn : 0 ≤ t.n := by
  rw [T.dR] at hs
  simp only [Bool.and_eq_true, Bool.not_eq_true', Bool.or_eq_false_iff, decide_eq_false_iff_not] at hs
  have := hs.1.1.1.1
  omega
 have hk := (kc hs).2
 obtain ⟨k, n, l⟩ := t
 rw [nE, tU] at ho
 simp only [Bool.and_eq_true, Bool.not_eq_true', Bool.and_eq_false_iff, Bool.or_eq_false_iff, decide_eq_false_iff_not, List.any_eq_false, Bool.not_eq_false'] at ho
 refine yf.mk k n l (fun E9 => ?_) fun x hx => ih x (by have := bJ (a := .mk k n l) hx; omega) (hk x hx) ?_
 ·rcases ho.1 with h | h
  ·exact absurd E9 h
  ·exact ⟨hn, by omega⟩
 ·have := ho.2 x hx
  simpa using this
end Go.aK
end
section
set_option maxRecDepth 100000
namespace Go.aK
open Go Go.Proofs Go.fJ
mutual
theorem Ks : ∀ t : T, (wt t : Int) = t.sz
 | .mk k n l => by rw [wt, T.sz]; have := FO l; omega
theorem FO : ∀ l : List T, (gM l : Int) = Ef l
 | [] => rfl
 | x :: r => by rw [gM, Ef]; have := Ks x; have := FO r; omega
end
theorem mf {l : List T} (h : ∀ t ∈ l, t.tree = true) : gM l ≤ 2000 * l.length := by
 induction l with
 | nil => simp [gM]
 | cons x r ih =>
   have := ih fun t ht => h t (List.mem_cons_of_mem _ ht)
   have h1 := ((T.gG x).1 (h x List.mem_cons_self)).1
   have h2 := Ks x
   rw [gM, List.length_cons]; omega
structure Z2 (s : Sg) (ps ss : List Int) (l : List T) : Prop where
 ord : eI s ps ss
 tree : ∀ t ∈ l, t.tree = true
 all : ∀ t ∈ l, yf (fun n => 0 ≤ n ∧ n < ps.length) t
theorem vJ {s : Sg} {ps ss : List Int} : iX s ps ss = 0 ↔ nD s = true ∧ eI s ps ss := by
 unfold iX
 by_cases h : nD s = true
 ·by_cases h2 : eI s ps ss
  ·rw [if_pos h, if_pos h2]; simp [h, h2]
  ·rw [if_pos h, if_neg h2]; simp [h2]
 ·rw [if_neg h]; simp [h]
theorem qJ {s : Sg} {ps ss : List Int} {l : List T} (h : fU s ps ss l = 0) : Z2 s ps ss l := by
 unfold fU at h
 split at h
 ·rename_i h0
  have h1 := (vJ.1 h0).2
  split at h
  ·rename_i h2
   have h3 := List.all_eq_true.1 h2
   refine ⟨h1, fun t ht => ?_, fun t ht => ?_⟩
   ·have := h3 t ht; simp only [Bool.and_eq_true] at this; exact this.1
   ·have := h3 t ht
    simp only [Bool.and_eq_true] at this
    rw [h1.1]
    exact SR t ((T.gG t).1 this.1).2.2 this.2
  ·cases h
 ·rename_i h0; exact absurd h h0
theorem Z2.cx {s : Sg} {ps ss : List Int} {l : List T} (h : Z2 s ps ss l) (ep : l ≠ []) (hl : l.length ≤ 10000) (n : Nat) : (gg ps ss l n).Ok :=
 PH h.ord.va ep (by have := mf h.tree; omega) h.all n
open Classical in
noncomputable def wv (ps ss : List Int) (a b : T) : Bool := decide (R (kE ps ss) a b)
open Classical in
noncomputable def N8 (ps ss : List Int) (a b : T) : Bool := decide (E (kE ps ss) a b)
theorem iw {ps ss : List Int} {a b : T} : wv ps ss a b = true ↔ R (kE ps ss) a b := by simp [wv]
theorem qK {ps ss : List Int} {a b : T} : N8 ps ss a b = true ↔ E (kE ps ss) a b := by simp [N8]
theorem N9 (a b : T) : bn (aT [a, b] 0) = .ap 0 (ints (aT [a, b] 0)) := rfl
theorem FP {Hs G : List aa} {n0 a b : Nat} {u v x y : AV} {R : AV → List aa → Prop} (Cd : b ≠ a) (hH : Hs.take n0 = G) (hb : x.a7 n0 = true ∧ y.a7 n0 = true) (hx : u.ab = x) (hy : v.ab = y) (hR : R (.tuple [x, y]) G) : bV n0 [.t a, .t b] [(a, u), (b, v)] Hs R := by
 subst hH; subst hx; subst hy
 refine ⟨n0, Nat.le_refl _, [u.ab, v.ab], ?_, by simp only [aj, hb.1, hb.2, Bool.and_self], hR⟩
 simp only [ax, if_neg Cd, if_true, List.map]
 exact b9 _
theorem Up.low {c : Cx} {H X G : List aa} (h : Up c (H ++ X) G) (he : H.length ≤ c.e) (hg : H.length ≤ c.g) : G.take H.length = H := by
 apply List.ext_getElem?
 intro j
 rw [List.getElem?_take]
 split
 ·rename_i hj
  rw [h.get j (by omega) (by omega), List.getElem?_append_left hj]
 ·rename_i hj
  rw [List.getElem?_eq_none (by omega)]
theorem Z3 (s : Sg) (ps ss : List Int) (a b : T) : Pure Tryz.prog 20 [s.av, ff ps ss, a.av, b.av] (.tuple [.bool (if fU s ps ss [a, b] = 0 then wv ps ss a b else false), .int .i64 (fU s ps ss [a, b])]) := by
 refine fun H => k20.2.calls rfl ?_
 simp only [k20, aI]
 obtain ⟨q1, q2, q3, q4, q5, q6⟩ := bi ps ss
 simp +contextual only [aB, q1, q4, cz, sZ, Nat.reduceEqDiff, Nat.reduceAdd, ↓reduceIte, reduceCtorEq]
 refine ae (WG s ps ss [a, b]) ?_
 by_cases h0 : fU s ps ss [a, b] = 0
 ·rw [if_pos h0]
  have hr := qJ h0
  have hw := mf hr.tree
  have hc := hr.cx (by simp) (by simp) H.length
  have hd := yk ps ss (ts := [a, b]) (by simp) H
  simp +contextual only [q4, cz, h0, sZ, Nat.reduceEqDiff, Nat.reduceAdd, ↓reduceIte]
  refine af (Wh ps ss [a, b] H (by simp at hw; omega)) ?_
  rintro r G ⟨rfl, rfl⟩
  have a0 := sW (ps := ps) (ss := ss) (ts := [a, b]) (n := H.length) (j := 0) (by simp)
  have a1 := sW (ps := ps) (ss := ss) (ts := [a, b]) (n := H.length) (j := 1) (by simp)
  have hl := cv [a, b] 0
  rw [N9]
  generalize aT [a, b] 0 = ks at a0 a1 hl ⊢
  have nP : ks.length = 2 := hl
  simp +contextual only [cA, nP, dA, sZ, Nat.reduceEqDiff, Nat.reduceAdd, Nat.reduceLT, ↓reduceIte, reduceCtorEq]
  refine ⟨by decide, by decide, af (jO hc a0.1 a1.1 _ hd) ?_⟩
  rintro r G ⟨x, rfl, hx, hU, hD⟩
  rw [a0.2, a1.2] at hx
  simp +contextual only [sZ, Nat.reduceEqDiff, ↓reduceIte, reduceCtorEq]
  have ex : x = wv ps ss a b := by rw [Bool.eq_iff_iff, iw]; exact hx
  rw [ex]
  exact FP (by decide) (hU.low (by simp [gg]) (by simp [gg])) ⟨rfl, rfl⟩ rfl rfl ⟨by rw [h0]; rfl, rfl⟩
 ·rw [if_neg h0]
  simp +contextual only [h0, sZ, Nat.reduceEqDiff, ↓reduceIte, reduceCtorEq]
  exact FP (by decide) List.take_length ⟨rfl, rfl⟩ rfl rfl ⟨rfl, rfl⟩
theorem Z4 (s : Sg) (ps ss : List Int) (a b : T) : Pure Tryz.prog 22 [s.av, ff ps ss, a.av, b.av] (.tuple [.bool (if fU s ps ss [a, b] = 0 then N8 ps ss a b else false), .int .i64 (fU s ps ss [a, b])]) := by
 refine fun H => k22.2.calls rfl ?_
 simp only [k22, aI]
 obtain ⟨q1, q2, q3, q4, q5, q6⟩ := bi ps ss
 simp +contextual only [aB, q1, q4, cz, sZ, Nat.reduceEqDiff, Nat.reduceAdd, ↓reduceIte, reduceCtorEq]
 refine ae (WG s ps ss [a, b]) ?_
 by_cases h0 : fU s ps ss [a, b] = 0
 ·rw [if_pos h0]
  have hr := qJ h0
  have hw := mf hr.tree
  have hc := hr.cx (by simp) (by simp) H.length
  have hd := yk ps ss (ts := [a, b]) (by simp) H
  simp +contextual only [q4, cz, h0, sZ, Nat.reduceEqDiff, Nat.reduceAdd, ↓reduceIte]
  refine af (Wh ps ss [a, b] H (by simp at hw; omega)) ?_
  rintro r G ⟨rfl, rfl⟩
  have a0 := sW (ps := ps) (ss := ss) (ts := [a, b]) (n := H.length) (j := 0) (by simp)
  have a1 := sW (ps := ps) (ss := ss) (ts := [a, b]) (n := H.length) (j := 1) (by simp)
  have hl := cv [a, b] 0
  rw [N9]
  generalize aT [a, b] 0 = ks at a0 a1 hl ⊢
  have nP : ks.length = 2 := hl
  simp +contextual only [cA, nP, dA, sZ, Nat.reduceEqDiff, Nat.reduceAdd, Nat.reduceLT, ↓reduceIte, reduceCtorEq]
  refine ⟨by decide, by decide, af (jN hc a0.1 a1.1 _ hd) ?_⟩
  rintro r G ⟨x, rfl, hx, hU, hD⟩
  rw [a0.2, a1.2] at hx
  simp +contextual only [sZ, Nat.reduceEqDiff, ↓reduceIte, reduceCtorEq]
  have ex : x = N8 ps ss a b := by rw [Bool.eq_iff_iff, qK]; exact hx
  rw [ex]
  exact FP (by decide) (hU.low (by simp [gg]) (by simp [gg])) ⟨rfl, rfl⟩ rfl rfl ⟨by rw [h0]; rfl, rfl⟩
 ·rw [if_neg h0]
  simp +contextual only [h0, sZ, Nat.reduceEqDiff, ↓reduceIte, reduceCtorEq]
  exact FP (by decide) List.take_length ⟨rfl, rfl⟩ rfl rfl ⟨rfl, rfl⟩
end Go.aK
end
section
set_option maxRecDepth 100000
set_option maxHeartbeats 0
namespace Go.aK
open Go Go.Proofs
noncomputable def PI := aI Tryz.call163 Tryz.func163 Tryz.ntmps163 [(0,0,1),(0,1,1),(1,4,1),(1,5,1),(4,2,1000),(5,0,1),(5,7,1),(8,6,2000)] [(0,[2,3]),(1,[2,3,5]),(2,[2,5,16,17,18]),(3,[2,5,16,17,18,19]),(4,[2,5,7,16,17,18]),(5,[2,5,16,17,18]),(6,[2,5,16,17,18]),(7,[8,9]),(8,[4])] [(8,(.take 0 true (.take 1 true (.take 2 true (.take 3 true (.take 4 true (.take 5 true (.br 6 (.take 7 true .done) .nil))))))))]
end Go.aK
end
section
set_option maxRecDepth 100000
namespace Go.aK
open Go Go.Proofs Go.fJ
structure Cn where
 a : T
 b : T
deriving Inhabited
def Cn.av (c : Cn) : AV := .agg [.int .i64 c.a.k, .int .i64 c.a.n, .ap 0 (cG c.a.l), .int .i64 c.b.k, .int .i64 c.b.n, .ap 0 (cG c.b.l)]
def w8 (l : List Cn) : List AV := l.map Cn.av
structure mL where
 vs : List Int
 cs : List Cn
 a : T
 b : T
deriving Inhabited
def mL.av (e : mL) : AV := .agg [.ap 0 (ints e.vs), .ap 0 (w8 e.cs), .int .i64 e.a.k, .int .i64 e.a.n, .ap 0 (cG e.a.l), .int .i64 e.b.k, .int .i64 e.b.n, .ap 0 (cG e.b.l)]
def mL.rest (e : mL) : List T := e.b :: e.cs.flatMap fun c => [c.a, c.b]
theorem CA (l : List Cn) : (w8 l).length = l.length := by simp [w8]
theorem Kt (n : Nat) (l : List Cn) : aj n (w8 l) = true := by
 rw [a9]; intro x hx; obtain ⟨y, _, rfl⟩ := List.mem_map.1 hx
 simp [Cn.av, AV.a7, aj, eh]
theorem mL.facts (e : mL) : e.av.val = true ∧ e.av.cells.length = 8 ∧ e.av.cells.all AV.one = true ∧ e.av.ab = e.av ∧ e.av.drop = e.av ∧ ∀ n, e.av.a7 n = true :=
 ⟨rfl, rfl, rfl, rfl, rfl, fun n => by simp [mL.av, AV.a7, aj, eh, bk, Kt]⟩
theorem Cn.facts (e : Cn) : e.av.val = true ∧ e.av.cells.length = 6 ∧ e.av.cells.all AV.one = true ∧ e.av.ab = e.av ∧ e.av.drop = e.av ∧ ∀ n, e.av.a7 n = true :=
 ⟨rfl, rfl, rfl, rfl, rfl, fun n => by simp [Cn.av, AV.a7, aj, eh]⟩
theorem T.Af (t : T) : AV.agg [.int .i64 t.k, .int .i64 t.n, .ap 0 (cG t.l)] = t.av := by cases t; rfl
theorem feA (e : mL) (φ : AV → Prop) : ak 2 (some 3) (.ai e.av) φ = φ (.ai e.a.av) := by simp [ak, apart, mL.av, AV.cells, ← T.Af]
theorem feB (e : mL) (φ : AV → Prop) : ak 5 (some 3) (.ai e.av) φ = φ (.ai e.b.av) := by simp [ak, apart, mL.av, AV.cells, ← T.Af]
theorem feC (e : mL) (φ : AV → Prop) : ak 1 none (.ai e.av) φ = φ (.ai (.ap 0 (w8 e.cs))) := by simp [ak, apart, mL.av, AV.cells, AV.one]
theorem fcA (e : Cn) (φ : AV → Prop) : ak 0 (some 3) (.ai e.av) φ = φ (.ai e.a.av) := by simp [ak, apart, Cn.av, AV.cells, ← T.Af]
theorem fcB (e : Cn) (φ : AV → Prop) : ak 3 (some 3) (.ai e.av) φ = φ (.ai e.b.av) := by simp [ak, apart, Cn.av, AV.cells, ← T.Af]
theorem Ob (o : Nat) (l : List Cn) : (∀ (own : Nat) (xs : List AV), AV.ap o (w8 l) = AV.ap own xs → ∀ z ∈ xs, z.cells.length = 6) = True := by
 simp only [eq_iff_iff, iff_true]
 intro own xs e z hz
 cases e
 obtain ⟨y, _, rfl⟩ := List.mem_map.1 hz; rfl
theorem SS (e o : Nat) (l : List Cn) (k : IntKind) (i : Nat) (φ : AV → Prop) : ay e (.ap o (w8 l)) (.int k (i : Int)) φ = (i < l.length ∧ φ (.ai (l.getD i default).av)) := by
 simp only [ay, CA, Int.toNat_natCast, eq_iff_iff]
 constructor
 ·rintro ⟨_, h, h2⟩; refine ⟨h, ?_⟩; simpa [w8, h] using h2
 ·rintro ⟨h, h2⟩; refine ⟨by omega, h, ?_⟩; simpa [w8, h] using h2
theorem WH (e : Cn) (H : List aa) (φ : AV → Prop) : aS (some 6) (.ai e.av) H φ = φ e.av := by simp [aS, Cn.av, AV.cells]
def Oe (ps ss : List Int) (e : mL) : Prop := ∀ y ∈ e.rest, R (kE ps ss) e.a y
def tv (l : List Cn) : List T := l.flatMap fun c => [c.a, c.b]
theorem Ku {l : List Cn} {i : Nat} (h : i < l.length) : tv (l.take (i + 1)) = tv (l.take i) ++ [(l.getD i default).a, (l.getD i default).b] := by
 have e : l.getD i default = l[i] := by simp [h]
 rw [List.take_succ_eq_append_getElem h, e]
 unfold tv
 rw [List.flatMap_append]
 rfl
theorem Ag (l : List Cn) : (tv l).length = 2 * l.length := by
 induction l with
 | nil => rfl
 | cons x r ih => simp only [tv, List.flatMap_cons, List.length_append, List.length_cons, List.length_nil] at ih ⊢; omega
theorem Of (a b : List T) : cG (a ++ b) = cG a ++ cG b := by
 induction a with
 | nil => rfl
 | cons x r ih => rw [List.cons_append, cG, cG, ih]; rfl
theorem WI (x : Int) (r : List Int) (φ : AV → Prop) : bA 1 (.ap 0 (ints (x :: r))) (some (.int .i64 1)) none none φ = φ (.ap 0 (ints r)) := by
 have er : dI (AV.ap 0 (ints (x :: r))) = some (ints (x :: r)) := rfl
 have e1 : (1 : Int).toNat = 1 := rfl
 have e2 : ((ints (x :: r)).take (ints (x :: r)).length).drop 1 = ints r := by rw [List.take_length]; rfl
 simp only [bA, ft, er, dO, e1, e2, eq_iff_iff]
 constructor
 ·intro h; exact h.2.2.2.2
 ·intro h
  refine ⟨fun own xs he z hz => ?_, by omega, by simp [aw], Nat.le_refl _, h⟩
  cases he
  obtain ⟨y, _, rfl⟩ := List.mem_map.1 hz
  rfl
theorem Z5 (ps ss : List Int) (e : mL) (hv : Va ps ss) (hlen : e.cs.length ≤ 1000) (ht : ∀ t ∈ e.a :: e.rest, t.tree = true) (cL : ∀ t ∈ e.a :: e.rest, yf (fun n => 0 ≤ n ∧ n < ps.length) t) (H : List aa) :
 aq Tryz.prog 163 [ff ps ss, e.av] H fun r H' => (∃ b : Bool, r = .bool b ∧ (b = true ↔ Oe ps ss e)) ∧ H' = H := by
 refine PI.2.calls rfl ?_
 simp only [PI, aI]
 obtain ⟨q1, q2, q3, q4, q5, q6⟩ := bi ps ss
 obtain ⟨e1, e2, e3, e4, e5, e6⟩ := mL.facts e
 have cf := Cn.facts
 simp +contextual only [q1, e1, feA, feB, feC, CA, sZ, Nat.reduceEqDiff, Nat.reduceAdd, ↓reduceIte, reduceCtorEq]
 intro _
 have rest : e.rest = e.b :: tv e.cs := rfl
 refine aE e.cs.length (fun i => True) (fun i => [(2, .ai (ff ps ss)), (5, .ap 3 (cG (e.a :: e.b :: tv (e.cs.take i)))), (16, .ap 0 (w8 e.cs)), (17, .int .i64 e.cs.length), (18, .int .i64 i)]) (fun _ => H) ⟨trivial, aA _ _ _⟩ fun i hi _ => ?_
 by_cases Az : (i : Int) < e.cs.length
 ·have aW : i < e.cs.length := by omega
  obtain ⟨f1, f2, f3, f4, f5, f6⟩ := cf (e.cs.getD i default)
  have hl : (tv (e.cs.take i)).length ≤ 2000 := by rw [Ag]; simp; omega
  have hal := tQ (e.a :: e.b :: tv (e.cs.take i))
  have jS : ta 3 [(e.cs.getD i default).a.av, (e.cs.getD i default).b.av] := of_eq_true (Sq [_, _])
  simp +contextual only [Az, decide_true, Ob, SS, WH, f1, f2, f3, fcA, fcB, sZ, Nat.reduceEqDiff, Nat.reduceAdd, ↓reduceIte]
  have e7 : cG (e.a :: e.b :: tv (e.cs.take i)) ++ [(e.cs.getD i default).a.av, (e.cs.getD i default).b.av] = cG (e.a :: e.b :: tv (e.cs.take (i + 1))) := by
   rw [Ku aW, ← List.cons_append, ← List.cons_append, Of]; rfl
  exact ⟨aW, by omega, jS, i + 1, aW, by omega, aF (by rw [au i (by omega), e7]) rfl⟩
 ·have Is : i = e.cs.length := by omega
  subst Is
  rw [List.take_length]
  have ep : e.a :: e.b :: tv e.cs ≠ [] := by simp
  have hl : (e.a :: e.b :: tv e.cs).length ≤ 10000 := by simp [Ag]; omega
  have hw := mf (l := e.a :: e.b :: tv e.cs) ht
  have hc := PH hv ep (by omega) cL H.length
  have hd := yk ps ss ep H
  simp +contextual only [Az, decide_false, cz, q4, sZ, Nat.reduceEqDiff, Nat.reduceAdd, ↓reduceIte]
  refine af (Wh ps ss (e.a :: e.b :: tv e.cs) H (by omega)) ?_
  rintro r G ⟨rfl, rfl⟩
  have hk := (N5 (e.a :: e.b :: tv e.cs)).kids
  have ek : aT (e.a :: e.b :: tv e.cs) 0 = 0 :: aT (e.b :: tv e.cs) (0 + wt e.a) := by rw [aT]; rfl
  have EZ := cv (e.b :: tv e.cs) (0 + wt e.a)
  rw [ek] at hk ⊢
  generalize aT (e.b :: tv e.cs) (0 + wt e.a) = tl at hk EZ ⊢
  obtain ⟨N2, E9⟩ := hk
  simp only [List.map_cons, List.cons.injEq] at N2
  obtain ⟨ha, hb⟩ := N2
  have e0 : ([(0 : Int)] ++ tl).getD 0 0 = 0 := rfl
  have Ya : ∀ φ : AV → Prop, ay 1 (.ap 0 (ints (0 :: tl))) (.int .i64 0) φ = φ (.ai (.int .i64 0)) := fun φ => by
   have := cA 1 0 (0 :: tl) .i64 0 φ
   rw [this]
   simp
  simp +contextual only [bn, Ya, dA, Option.map_some, Option.map_none, WI, sZ, Nat.reduceEqDiff, Nat.reduceAdd, Nat.reduceLT, ↓reduceIte, reduceCtorEq]
  have itl : IL (.ap 0 (ints tl)) tl := .inr rfl
  refine af (Sz (c := gg ps ss (e.a :: e.b :: tv e.cs) H.length) (i := 0) itl (by rw [EZ]; simp [Ag]; omega) (fun x hx => jO hc (E9 0 List.mem_cons_self) (E9 x (List.mem_cons_of_mem _ hx))) hd) ?_
  rintro r G ⟨b, rfl, hbb, hU, hD⟩
  simp +contextual only [sZ, ↓reduceIte, reduceCtorEq]
  refine aV H.length (Nat.le_refl _) (by rw [ax, if_pos rfl]; rfl) ?_
  rw [ax, if_pos rfl]
  refine ⟨⟨b, rfl, ?_⟩, hU.low (by simp [gg]) (by simp [gg])⟩
  rw [hbb, Oe, rest]
  have ha' : (gg ps ss (e.a :: e.b :: tv e.cs) H.length).tm 0 = e.a := ha
  have dW : tl.map (gg ps ss (e.a :: e.b :: tv e.cs) H.length).tm = e.b :: tv e.cs := hb
  rw [ha']
  generalize (gg ps ss (e.a :: e.b :: tv e.cs) H.length).tm = f at dW
  rw [← dW]
  constructor
  ·intro h y hy
   obtain ⟨x, hx, rfl⟩ := List.mem_map.1 hy
   exact h x hx
  ·intro h x hx
   exact h _ (List.mem_map.2 ⟨x, hx, rfl⟩)
end Go.aK
end
