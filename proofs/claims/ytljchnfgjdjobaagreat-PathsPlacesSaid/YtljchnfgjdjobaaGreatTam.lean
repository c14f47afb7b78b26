/- Part 13 of 18 of the proof. -/
import Derived.Test.YtljchnfgjdjobaaGreatTal
import Derived.Test.YtljchnfgjdjobaaGreatTak
import Derived.Test.YtljchnfgjdjobaaGreatTai
import Derived.Test.YtljchnfgjdjobaaGreatTag
import Derived.KernelRfl
set_option linter.unusedVariables false
set_option linter.unusedSimpArgs false
set_option linter.defProp false
set_option linter.unusedSectionVars false
section
set_option maxRecDepth 100000
namespace Go.aL
open Go Go.Proofs Go.fw
def nf (c : Cx) (x : Int) : T := norm c.O (c.tm x)
def wY (c : Cx) (i k : Int) : Prop := tv c i k = true ∧ dq c i = 3 ∧ Mu (Gt c.O.sp) ((c.kd i).map (nf c)) ((c.kd k).map (nf c))
theorem Zo {c : Cx} {a b : List Int} {va vb : AV} (ha : IL va a) (hb : IL vb b) {p q : Nat} {x y : Int} (hx : 0 ≤ x ∧ x < a.length) (hy : 0 ≤ y ∧ y < b.length) (h : gN c (a.getD x.toNat 0) (b.getD y.toNat 0)) {G : List aa} (hD : Du c G) (gp : G[p]? = some (.cells [va])) (gq : G[q]? = some (.cells [vb])) :
 au Tryz.prog 222 [.int .i64 x, .aj (.ptr c.d 0), .ptr p 0, .ptr q 0, .aj (.int .i64 y)] G (ic c (R c.O (c.tm (a.getD x.toNat 0)) (c.tm (b.getD y.toNat 0))) G) := by
 refine Vk.2.calls rfl ?_
 simp only [Vk, aJ]
 obtain ⟨a1, a2, a3, a4⟩ := ha.one
 obtain ⟨b1, b2, b3, b4⟩ := hb.one
 simp +contextual only [gp, gq, a2, b2, ha.lens, hb.lens, ha.idx, hb.idx, sZ, Nat.reduceEqDiff, Nat.reduceAdd, Nat.reduceLT, ↓reduceIte, reduceCtorEq]
 refine ⟨hx, hy, ag (h G hD) ?_⟩
 rintro r G' ⟨z, rfl, hz, hU, jb⟩
 simp +contextual only [sZ, ↓reduceIte, reduceCtorEq]
 exact dZ rfl hz hU jb
theorem Zp {c : Cx} {a b l : List Int} {va vb vl : AV} (ha : IL va a) (hb : IL vb b) (hl : IL vl l) (ll : l.length ≤ 1000000000) {p q : Nat} {y : Int} (hx : ∀ x ∈ l, 0 ≤ x ∧ x < a.length) (hy : 0 ≤ y ∧ y < b.length) (h : ∀ x ∈ l, gN c (a.getD x.toNat 0) (b.getD y.toNat 0)) {G : List aa} (hD : Du c G)
 (gp : G[p]? = some (.cells [va])) (gq : G[q]? = some (.cells [vb])) (np : p ≠ c.e ∧ p ≠ c.g) (nq : q ≠ c.e ∧ q ≠ c.g) :
 au Tryz.prog 221 [.int .i64 y, .aj vl, .aj (.ptr c.d 0), .ptr p 0, .ptr q 0] G (ic c (¬ ∃ x ∈ l, R c.O (c.tm (a.getD x.toNat 0)) (c.tm (b.getD y.toNat 0))) G) := by
 refine Vj.2.calls rfl ?_
 simp only [Vj, aJ]
 obtain ⟨a1, a2, a3, a4⟩ := hl.one
 have ld : ∀ (H : List aa) (φ : AV → Prop), aS none (.aj vl) H φ = φ vl := fun H φ => by simp [aS, a1, a2]
 simp +contextual only [ld, a2, sZ, Nat.reduceEqDiff, Nat.reduceAdd, ↓reduceIte, reduceCtorEq]
 refine ag (Ch (SD.z3 c G) hl ll 222 [] [.aj (.ptr c.d 0), .ptr p 0, .ptr q 0, .aj (.int .i64 y)] rfl rfl (Q := fun x => R c.O (c.tm (a.getD x.toNat 0)) (c.tm (b.getD y.toNat 0)))
  (fun x sk G' dY => (Zo ha hb (hx x sk) hy (h x sk) dY.1 (by rw [dY.2.get p np.1 np.2, gp]) (by rw [dY.2.get q nq.1 nq.2, gq])).mono fun r H' hr => hr.sb dY) ⟨hD, Up.refl c G⟩) ?_
 rintro r G' ⟨z, rfl, hz, dY⟩
 simp +contextual only [sZ, ↓reduceIte, reduceCtorEq]
 refine dZ (b := !z) rfl ?_ dY.2 dY.1
 rw [← hz]; cases z <;> simp
theorem kT {P : Px} {t : DT} {f : AV → Env} {H : List aa} {o : Option aa} {off : Nat} {K1 K2 : Env → List aa → Prop} (h : db o none off fun x => iQ P t (f x) H K1) (hk : ∀ e G, K1 e G → K2 e G) : db o none off fun x => iQ P t (f x) H K2 := by
 unfold db at *
 split at h
 ·exact ⟨h.1, dw h.2 hk⟩
 ·exact h.elim
theorem Wk {c : Cx} (hc : c.Ok) {i k : Int} (hi : c.dF i) (hk : c.dF k) (h2 : ∀ x ∈ c.kd i, ∀ y ∈ c.kd k, jY c x y) (h3 : ∀ x ∈ c.kd i, ∀ y ∈ c.kd k, gN c x y) {H : List aa} (hD : Du c H) :
 au Tryz.prog 186 [.ptr c.d 0, .int .i64 i, .int .i64 k] H (ic c (wY c i k) H) := by
 refine Ps.2.calls rfl ?_
 simp only [Ps, aJ]
 have k2 : ∀ l, (bo l).ae = bo l := fun l => (aF l).2.1
 have l1 := hc.kl i hi
 have l2 := hc.kl k hk
 simp +contextual only [sZ, Nat.reduceEqDiff, Nat.reduceAdd, ↓reduceIte, reduceCtorEq]
 refine ag (En hc hi hk hD) ?_
 rintro r H1 ⟨rfl, rfl⟩
 simp +contextual only [sZ, Nat.reduceEqDiff, Nat.reduceAdd, Nat.reduceLT, ↓reduceIte]
 cases hl : tv c i k with
 | false =>
   simp +contextual only [Bool.not_false, sZ, Nat.reduceEqDiff, ↓reduceIte, reduceCtorEq]
   exact dZ rfl ⟨fun h => by simp at h, fun h => by have := h.1; rw [hl] at this; simp at this⟩ (Up.refl c _) hD
 | true =>
   by_cases hs : dq c i = 3
   ·have d3 : decide (dq c i = 3) = true := decide_eq_true hs
    have d3' : decide (¬dq c i = 3) = false := decide_eq_false (fun h => h hs)
    simp +contextual only [Bool.not_true, hs, not_true_eq_false, decide_false, sZ, Nat.reduceEqDiff, Nat.reduceAdd, ↓reduceIte]
    obtain ⟨l4, l5, l6⟩ := hD.lt
    have ed : ∀ X : List aa, (H1 ++ X)[c.d]? = H1[c.d]? := fun X => List.getElem?_append_left l4
    refine kT (K1 := fun e G => get e 3 = .aj (.ptr c.d 0) ∧ ∃ p q X, get e 9 = .ptr p 0 ∧ get e 10 = .ptr q 0 ∧ H1.length ≤ p ∧ H1.length ≤ q ∧ G = H1 ++ X ∧ G[p]? = some (.cells [bo (c.kd i)]) ∧ G[q]? = some (.cells [bo (c.kd k)])) ?_ ?_
    ·obtain ⟨k1, k3, k4, k5, k6⟩ := aF (c.kd i)
     obtain ⟨m1, m3, m4, m5, m6⟩ := aF (c.kd k)
     have g0 : ∀ (x : aa) (l : List aa), (H1 ++ x :: l)[H1.length]? = some x := fun x l => by simp
     have g1 : ∀ (x y : aa), (H1 ++ [x, y])[H1.length + 1]? = some y := fun x y => by simp
     have ei : (c.nd.getD i.toNat default).snd = c.kd i := rfl
     have ek : (c.nd.getD k.toNat default).snd = c.kd k := rfl
     have sp : ∀ x : AV, ai [AV.ah] 0 [x] = [x] := fun x => rfl
     have A : ∃ p q X, AV.ptr H1.length 0 = AV.ptr p 0 ∧ AV.ptr (H1.length + 1) 0 = AV.ptr q 0 ∧ H1.length ≤ p ∧ H1.length ≤ q ∧ H1 ++ [.cells [bo (c.kd i)], .cells [bo (c.kd k)]] = H1 ++ X ∧ (H1 ++ [aa.cells [bo (c.kd i)], .cells [bo (c.kd k)]])[p]? = some (.cells [bo (c.kd i)]) ∧ (H1 ++ [aa.cells [bo (c.kd i)], .cells [bo (c.kd k)]])[q]? = some (.cells [bo (c.kd k)]) :=
      ⟨_, _, _, rfl, rfl, Nat.le_refl _, Nat.le_succ _, rfl, g0 _ _, g1 _ _⟩
     have B : ∃ p q X, AV.ptr (H1.length + 1) 0 = AV.ptr p 0 ∧ AV.ptr H1.length 0 = AV.ptr q 0 ∧ H1.length ≤ p ∧ H1.length ≤ q ∧ H1 ++ [.cells [bo (c.kd k)], .cells [bo (c.kd i)]] = H1 ++ X ∧ (H1 ++ [aa.cells [bo (c.kd k)], .cells [bo (c.kd i)]])[p]? = some (.cells [bo (c.kd i)]) ∧ (H1 ++ [aa.cells [bo (c.kd k)], .cells [bo (c.kd i)]])[q]? = some (.cells [bo (c.kd k)]) :=
      ⟨_, _, _, rfl, rfl, Nat.le_succ _, Nat.le_refl _, rfl, g1 _ _, g0 _ _⟩
     simp +contextual only [ed, hD.d, lV, C1, cv, bT, k2, ei, ek, k1, k4, k5, k6, m1, m4, m5, m6, List.map_cons, List.map_nil, sp, List.all_cons, List.all_nil, Bool.and_true, bM, cW, sZ, Nat.reduceEqDiff, Nat.reduceAdd, Nat.reduceLT, ↓reduceIte]
     refine ⟨hi, ?_⟩
     repeat' apply And.intro
     all_goals first | exact hk.1 | exact hk.2 | exact A | exact B
    ·rintro e G ⟨e3, p, q, X, e9, e10, hp, hq, rfl, gp, gq⟩
     simp +contextual only [e3, e9, e10, gp, gq, k2, sZ, Nat.reduceEqDiff, Nat.reduceAdd, Nat.reduceLT, ↓reduceIte, reduceCtorEq]
     refine ag (Su (.inl rfl : IL (bo (c.kd i)) (c.kd i)) (.inl rfl : IL (bo (c.kd k)) (c.kd k)) (by omega) (by omega) h2 (hD.rL X)) ?_
     rintro r G' ⟨us, to, z6, rfl, hU, jb⟩
     have XU := Pr.mu (f := nf c) (G := Gt c.O.sp) z6
     have lbl := jh (c.kd i).length fun i => !us.getD i false
     have lbo := jh (c.kd k).length fun j => decide (to.getD j 0 < 0)
     have il : IL (bo (below (c.kd i).length fun i => !us.getD i false)) (below (c.kd i).length fun i => !us.getD i false) := .inl rfl
     have io : IL (bo (below (c.kd k).length fun j => decide (to.getD j 0 < 0))) (below (c.kd k).length fun j => decide (to.getD j 0 < 0)) := .inl rfl
     have ml : ∀ x ∈ below (c.kd i).length (fun i => !us.getD i false), 0 ≤ x ∧ x < (c.kd i).length := by
      intro x hx; obtain ⟨j, rfl, hj, _⟩ := fV.1 hx; omega
     have mo : ∀ x ∈ below (c.kd k).length (fun j => decide (to.getD j 0 < 0)), 0 ≤ x ∧ x < (c.kd k).length := by
      intro x hx; obtain ⟨j, rfl, hj, _⟩ := fV.1 hx; omega
     generalize (below (c.kd i).length fun i => !us.getD i false) = L at *
     generalize (below (c.kd k).length fun j => decide (to.getD j 0 < 0)) = V at *
     obtain ⟨a1, a2, a3, a4⟩ := il.one
     obtain ⟨b1, b2, b3, b4⟩ := io.one
     have hG1 : ∀ G2, Up c (H1 ++ X) G2 → Du c G2 → Up c H1 (G2.take H1.length) ∧ Du c (G2.take H1.length) := fun G2 u d => ⟨u.take, d.take l4 l5 l6⟩
     have fin : ∀ G2 (b : Bool), Up c (H1 ++ X) G2 → Du c G2 → (b = true ↔ wY c i k) → bV H1.length [.t 6] [(6, .bool b)] G2 (ic c (wY c i k) H1) := by
      intro G2 b u d hb
      refine aW H1.length (Nat.le_refl _) (by rw [ay, if_pos rfl]; rfl) ?_
      rw [ay, if_pos rfl]
      exact ⟨b, rfl, hb, (hG1 G2 u d).1, (hG1 G2 u d).2⟩
     simp +contextual only [List.map_cons, List.map_nil, k2, a1, a3, a4, il.aM, il.len (by omega), bT, sZ, Nat.reduceEqDiff, Nat.reduceAdd, Nat.reduceLT, ↓reduceIte, reduceCtorEq]
     refine ⟨fun hL => ?_, fun hL => ?_⟩
     ·have gp' : G'[p]? = some (.cells [bo (c.kd i)]) := by rw [hU.get p (by omega) (by omega), gp]
      have gq' : G'[q]? = some (.cells [bo (c.kd k)]) := by rw [hU.get q (by omega) (by omega), gq]
      have gm : ∀ {x : Int} {l : List Int}, 0 ≤ x ∧ x < l.length → l.getD x.toNat 0 ∈ l := fun h => aP (by omega)
      refine ag (Ch (SD.z3 c G') io (by omega) 221 [] [.aj (bo L), .aj (.ptr c.d 0), .ptr p 0, .ptr q 0] rfl rfl (Q := fun y => ¬ ∃ x ∈ L, R c.O (c.tm ((c.kd i).getD x.toNat 0)) (c.tm ((c.kd k).getD y.toNat 0)))
       (fun y hy G2 Sv => (Zp (.inl rfl) (.inl rfl) il (by omega) ml (mo y hy) (fun x hx => h3 _ (gm (ml x hx)) _ (gm (mo y hy))) Sv.1 (by rw [Sv.2.get p (by omega) (by omega), gp']) (by rw [Sv.2.get q (by omega) (by omega), gq']) ⟨by omega, by omega⟩ ⟨by omega, by omega⟩).mono fun r H' hr => hr.sb Sv) ⟨jb, Up.refl c G'⟩) ?_
      rintro r G2 ⟨z, rfl, hz, Sv⟩
      simp +contextual only [sZ, Nat.reduceEqDiff, ↓reduceIte, reduceCtorEq]
      refine fin G2 (!z) (hU.trans Sv.2) Sv.1 ?_
      have hLn : L ≠ [] := by intro e; rw [e] at hL; simp at hL
      rw [wY, XU]
      cases z with
      | true =>
        obtain ⟨y, hy, hn⟩ := hz.1 rfl
        exact ⟨fun h => by simp at h, fun ⟨_, _, _, h⟩ => absurd (h y hy) hn⟩
      | false =>
        refine ⟨fun _ => ⟨hl, hs, hLn, fun y hy => ?_⟩, fun _ => rfl⟩
        by_cases CZ : ∃ x ∈ L, R c.O (c.tm ((c.kd i).getD x.toNat 0)) (c.tm ((c.kd k).getD y.toNat 0))
        ·exact CZ
        ·exact absurd (hz.2 ⟨y, hy, CZ⟩) (by simp)
     ·refine fin G' false hU jb ⟨fun h => by simp at h, fun h => ?_⟩
      have := (XU.1 h.2.2).1
      exact absurd (List.length_eq_zero_iff.1 (by omega)) this
   ·have d3' : decide (¬dq c i = 3) = true := decide_eq_true hs
    simp +contextual only [Bool.not_true, hs, decide_true, not_false_eq_true, sZ, Nat.reduceEqDiff, ↓reduceIte, reduceCtorEq]
    exact dZ rfl ⟨fun h => by simp at h, fun h => absurd h.2.1 hs⟩ (Up.refl c _) hD
theorem tW {c : Cx} (hc : c.Ok) {i : Int} (hi : c.dF i) : (c.tm i).l.map (norm c.O) = (c.kd i).map (nf c) := by
 rw [← (hc.kids i hi).1, List.map_map]; rfl
theorem Eo {f : Int → T} {a b : List Int} : a.map f = b.map f ↔ a.length = b.length ∧ ∀ j, j < a.length → f (a.getD j 0) = f (b.getD j 0) := by
 constructor
 ·intro h
  have hl : a.length = b.length := by simpa using congrArg List.length h
  refine ⟨hl, fun j hj => ?_⟩
  have := congrArg (fun l => l[j]?) h
  have hb : j < b.length := by omega
  simpa [hj, hb] using this
 ·rintro ⟨hl, h⟩
  apply List.ext_getElem
  ·simpa using hl
  ·intro j h1 h2
   have h3 : j < a.length := by simpa using h1
   have h4 : j < b.length := by simpa using h2
   simpa [h3, h4] using h j h3
theorem Zq {c : Cx} (hc : c.Ok) {i k : Int} (hi : c.dF i) (hk : c.dF k) (h2 : ∀ x ∈ c.kd i, ∀ y ∈ c.kd k, jY c x y) {H : List aa} (hD : Du c H) : au Tryz.prog 138 (Cg c i k) H (ic c (E c.O (c.tm i) (c.tm k)) H) := by
 refine Uz.2.calls rfl ?_
 simp only [Uz, aJ, Cg]
 have k2 : ∀ l, (bo l).ae = bo l := fun l => (aF l).2.1
 have l1 := hc.kl i hi
 have l2 := hc.kl k hk
 simp +contextual only [sZ, Nat.reduceEqDiff, Nat.reduceAdd, ↓reduceIte, reduceCtorEq]
 refine ag (pi hc hi hD) ?_
 rintro r H1 ⟨rfl, rfl⟩
 simp +contextual only [dr, fh, fj, fm, sZ, Nat.reduceEqDiff, Nat.reduceAdd, ↓reduceIte, reduceCtorEq]
 refine ag (pi hc hk hD) ?_
 rintro r H1 ⟨rfl, rfl⟩
 simp +contextual only [dr, fh, fj, fm, sZ, Nat.reduceEqDiff, ↓reduceIte, reduceCtorEq]
 have eqf : ∀ b : Bool, cM false (.bool b) (.bool b) = fun φ => φ (.bool true) := fun b => by funext φ; cases b <;> simp [cM]
 have fT0 := FE
 have fT1 : ∀ (t : T) (φ : AV → Prop), al 1 none (.aj t.av) φ = φ (.aj (.int .i64 t.n)) := fun t φ => by cases t; simp [al, T.av, apart, AV.cells, AV.one, T.n]
 have ei : (c.nd.getD i.toNat default).fst = c.tm i := rfl
 have ek : (c.nd.getD k.toNat default).fst = c.tm k := rfl
 have hE := FB (O := c.O) (a := c.tm i) (b := c.tm k)
 rw [tW hc hi, tW hc hk] at hE
 cases XV : qP c i with
 | false =>
   have ki : (c.tm i).k ≠ 2 := of_decide_eq_false XV
   cases Ep : qP c k with
   | false =>
     have kk : (c.tm k).k ≠ 2 := of_decide_eq_false Ep
     simp +contextual only [Bool.not_false, hD.d, lV, Ze, fT1, cv, ei, ek, sZ, Nat.reduceEqDiff, Nat.reduceAdd, Nat.reduceLT, ↓reduceIte, reduceCtorEq]
     refine ⟨hi, hk, dZ rfl ?_ (Up.refl c _) hD⟩
     rw [hE, decide_eq_true_eq]
     exact ⟨fun h => .inr ⟨ki, kk, h⟩, fun h => by rcases h with h | h; exact absurd h.1 ki; exact h.2.2⟩
   | true =>
     have kk : (c.tm k).k = 2 := of_decide_eq_true Ep
     simp +contextual only [Bool.not_false, sZ, Nat.reduceEqDiff, ↓reduceIte, reduceCtorEq]
     refine dZ rfl ?_ (Up.refl c _) hD
     rw [hE]
     exact ⟨fun h => by simp at h, fun h => by rcases h with h | h; exact absurd h.1 ki; exact absurd kk h.2.1⟩
 | true =>
   have ki : (c.tm i).k = 2 := of_decide_eq_true XV
   cases Ep : qP c k with
   | false =>
     have kk : (c.tm k).k ≠ 2 := of_decide_eq_false Ep
     simp +contextual only [Bool.not_false, Bool.not_true, sZ, Nat.reduceEqDiff, ↓reduceIte, reduceCtorEq]
     refine dZ rfl ?_ (Up.refl c _) hD
     rw [hE]
     exact ⟨fun h => by simp at h, fun h => by rcases h with h | h; exact absurd h.2.1 kk; exact absurd ki h.1⟩
   | true =>
     have kk : (c.tm k).k = 2 := of_decide_eq_true Ep
     have epi : ph c i = c.O.pl (c.tm i).n := if_pos ki
     have epk : ph c k = c.O.pl (c.tm k).n := if_pos kk
     have esi : dq c i = c.O.sp (c.O.pl (c.tm i).n) := if_pos ki
     have XW : E c.O (c.tm i) (c.tm k) ↔ ph c i = ph c k ∧ (if dq c i = 3 then ((c.kd i).map (nf c)).Perm ((c.kd k).map (nf c)) else (c.kd i).map (nf c) = (c.kd k).map (nf c)) := by
      rw [hE, epi, epk, esi]
      exact ⟨fun h => by rcases h with h | h; exact h.2.2; exact absurd ki h.1, fun h => .inl ⟨ki, kk, h⟩⟩
     have eki : (c.nd.getD i.toNat default).snd = c.kd i := rfl
     have ekk : (c.nd.getD k.toNat default).snd = c.kd k := rfl
     have ii : IL (bo (c.kd i)) (c.kd i) := .inl rfl
     have ik : IL (bo (c.kd k)) (c.kd k) := .inl rfl
     have hlen : E c.O (c.tm i) (c.tm k) → (c.kd i).length = (c.kd k).length := by
      intro h
      have h := (XW.1 h).2
      split at h
      ·simpa using h.length_eq
      ·simpa using congrArg List.length h
     simp +contextual only [Bool.not_true, hD.d, lV, C1, cv, bT, k2, eki, ekk, ii.aM, ik.aM, ii.len (by omega), ik.len (by omega), sZ, Nat.reduceEqDiff, Nat.reduceAdd, Nat.reduceLT, ↓reduceIte, reduceCtorEq]
     refine ⟨hi, hk, fun hp => ⟨fun hn => ?_, fun hlk => ⟨fun h3 => ?_, fun h3 => ?_⟩⟩, fun hp => ?_⟩
     ·refine dZ rfl ⟨fun h => by simp at h, fun h => absurd (hlen h) (by omega)⟩ (Up.refl c _) hD
     ·refine ag (Su ii ik (by omega) (by omega) h2 hD) ?_
      rintro r G ⟨us, to, z6, rfl, hU, jb⟩
      have Tl := Pr.perm (f := nf c) z6 (by omega)
      have lbl := jh (c.kd i).length fun i => !us.getD i false
      have il : IL (bo (below (c.kd i).length fun i => !us.getD i false)) (below (c.kd i).length fun i => !us.getD i false) := .inl rfl
      generalize (below (c.kd i).length fun i => !us.getD i false) = L at *
      simp +contextual only [k2, il.aM, il.len (by omega), sZ, Nat.reduceEqDiff, Nat.reduceAdd, Nat.reduceLT, ↓reduceIte, reduceCtorEq]
      refine dZ rfl ?_ hU jb
      rw [XW, if_pos h3, Tl, decide_eq_true_eq]
      exact ⟨fun h => ⟨hp, List.length_eq_zero_iff.1 (by omega)⟩, fun h => by rw [h.2]; rfl⟩
     ·refine ag (Wa (SD.z3 c _) ii ik (by omega) (by omega) 79 [.ptr c.d 0] [] rfl rfl (Q := fun x y => E c.O (c.tm x) (c.tm y)) (fun x hx y hy G hG => (h2 x hx y hy G hG.1).mono fun r H' hr => hr.sb hG) ⟨hD, Up.refl c _⟩) ?_
      rintro r G ⟨b, rfl, hb, hG⟩
      simp +contextual only [sZ, ↓reduceIte, reduceCtorEq]
      refine dZ rfl ?_ hG.2 hG.1
      rw [XW, if_neg h3, hb]
      have := Eo (f := nf c) (a := c.kd i) (b := c.kd k)
      exact ⟨fun h => ⟨hp, this.2 h⟩, fun h => this.1 h.2⟩
     ·exact dZ rfl ⟨fun h => by simp at h, fun h => absurd (XW.1 h).1 hp⟩ (Up.refl c _) hD
end Go.aL
end
section
set_option maxRecDepth 100000
namespace Go.aL
open Go Go.Proofs Go.fw
def dO : AV := .agg [.fx, .fn (.func 183) [] [], .fn (.func 184) [] [], .fn (.func 185) [] [], .fn (.func 186) [] []]
theorem Zr (φ : AV → Prop) : cj [.fx, .fx, .fx, .fx, .fx] [(1, 1, .fn (.func 183) [] []), (2, 1, .fn (.func 184) [] []), (3, 1, .fn (.func 185) [] []), (4, 1, .fn (.func 186) [] [])] φ = φ dO := by
 simp only [cj, gk, eq_iff_iff]
 constructor
 ·rintro ⟨_, _, _, _, _, _, _, _, _, _, _, _, h⟩; exact h
 ·exact fun h => ⟨rfl, rfl, by decide, rfl, rfl, by decide, rfl, rfl, by decide, rfl, rfl, by decide, h⟩
theorem z8 : dO.val = true ∧ dO.cells.length = 5 ∧ dO.cells.all AV.one = true ∧ (∀ n, ak n (dO.cells.map AV.ae) = true) ∧ ai [AV.fx, .fx, .fx, .fx, .fx] 0 (dO.cells.map AV.ae) = dO.cells := ⟨rfl, rfl, rfl, fun _ => rfl, rfl⟩
theorem Ke : Pure Tryz.prog 136 [] dO := by
 refine fun H => Uy.2.calls rfl ?_
 simp only [Uy, aJ]
 obtain ⟨r1, r2, r3, r4, r5⟩ := z8
 simp +contextual only [Zr, r1, r2, r3, r4, r5, sZ, Nat.reduceAdd, ↓reduceIte, reduceCtorEq]
 have e : db (some (aa.cells dO.cells)) (some 5) 0 = fun φ => (5 ≤ 5 ∧ φ dO) := rfl
 rw [e]
 exact ⟨Nat.le_refl _, Pd (n0 := H.length) (by simp) rfl rfl ⟨rfl, rfl⟩⟩
theorem TA (j : Nat) (f : AV) (h : dO.cells[j]? = some f) (hj : j < 5) (φ : AV → Prop) (hd : f.drop = f) : bR 5 dO (.int .i64 (j : Int)) φ = φ f := by
 simp only [bR, dO, Int.toNat_natCast, eq_iff_iff]
 have e : [AV.fx, .fn (.func 183) [] [], .fn (.func 184) [] [], .fn (.func 185) [] [], .fn (.func 186) [] []].getD j .any = f := by
  rw [List.getD_eq_getElem?_getD]; show (dO.cells[j]?).getD .any = f; rw [h]; rfl
 rw [e, hd]
 exact ⟨fun h => h.2.2.2, fun h => ⟨rfl, by omega, hj, h⟩⟩
def Kf (c : Cx) (i k : Int) : Prop := ∃ x ∈ c.kd i, E c.O (c.tm x) (c.tm k) ∨ R c.O (c.tm x) (c.tm k)
def rR (c : Cx) (i k : Int) : Prop := qP c k = true ∧ ph c k < ph c i ∧ ∀ x ∈ c.kd k, R c.O (c.tm i) (c.tm x)
def gE (c : Cx) (i k : Int) (n : Nat) : Prop := (n = 1 ∧ Kf c i k) ∨ (n = 2 ∧ rR c i k) ∨ (n = 3 ∧ z4 c i k) ∨ (n = 4 ∧ wY c i k)
structure FF (c : Cx) (i k : Int) : Prop where
 r1 : ∀ H, Du c H → au Tryz.prog 183 [.ptr c.d 0, .int .i64 i, .int .i64 k] H (ic c (Kf c i k) H)
 r2 : ∀ H, Du c H → au Tryz.prog 184 [.ptr c.d 0, .int .i64 i, .int .i64 k] H (ic c (rR c i k) H)
 r3 : ∀ H, Du c H → au Tryz.prog 185 [.ptr c.d 0, .int .i64 i, .int .i64 k] H (ic c (z4 c i k) H)
 r4 : ∀ H, Du c H → au Tryz.prog 186 [.ptr c.d 0, .int .i64 i, .int .i64 k] H (ic c (wY c i k) H)
theorem FF.at {c : Cx} {i k : Int} (h : FF c i k) {n : Nat} (h1 : 0 < n) (h2 : n < 5) {H : List aa} (hD : Du c H) : au Tryz.prog (182 + n) [.ptr c.d 0, .int .i64 i, .int .i64 k] H (ic c (gE c i k n) H) := by
 have : n = 1 ∨ n = 2 ∨ n = 3 ∨ n = 4 := by omega
 have key : ∀ {Q Q' : Prop} {f : Nat}, au Tryz.prog f [.ptr c.d 0, .int .i64 i, .int .i64 k] H (ic c Q H) → (Q ↔ Q') → au Tryz.prog f [.ptr c.d 0, .int .i64 i, .int .i64 k] H (ic c Q' H) := by
  intro Q Q' f h e
  refine h.mono ?_
  rintro r H' ⟨b, h1, h2, h3, h4⟩
  exact ⟨b, h1, h2.trans e, h3, h4⟩
 rcases this with rfl | rfl | rfl | rfl
 ·exact key (h.r1 H hD) (by simp [gE])
 ·exact key (h.r2 H hD) (by simp [gE])
 ·exact key (h.r3 H hD) (by simp [gE])
 ·exact key (h.r4 H hD) (by simp [gE])
theorem Zs {c : Cx} (hc : c.Ok) {i k : Int} (hi : c.dF i) (hr : FF c i k) {H : List aa} (hD : Du c H) : au Tryz.prog 134 (Cg c i k) H (ic c (qP c i = true ∧ ∃ n, n < 5 ∧ gE c i k n) H) := by
 refine Uw.2.calls rfl ?_
 simp only [Uw, aJ, Cg]
 simp +contextual only [sZ, Nat.reduceEqDiff, Nat.reduceAdd, ↓reduceIte, reduceCtorEq]
 refine ag (pi hc hi hD) ?_
 rintro r H1 ⟨rfl, rfl⟩
 simp +contextual only [dr, fh, fj, fm, sZ, Nat.reduceEqDiff, ↓reduceIte, reduceCtorEq]
 cases hb : qP c i with
 | false =>
   simp +contextual only [Bool.not_false, sZ, ↓reduceIte, reduceCtorEq]
   exact dZ rfl ⟨fun h => by simp at h, fun h => absurd h.1 (by simp)⟩ (Up.refl c _) hD
 | true =>
   simp +contextual only [Bool.not_true, sZ]
   refine af Ke ?_
   simp +contextual only [sZ, Nat.reduceEqDiff, ↓reduceIte, reduceCtorEq]
   refine aO 5 (fun n (G : List aa) => SD c H1 G ∧ ∀ m, m < n → ¬ gE c i k m)
    (fun n G => [(0, .aj (.ptr c.d 0)), (1, .aj (.int .i64 i)), (2, .aj (.int .i64 k)), (18, dO), (19, .int .i64 n)]) (fun n G => G) H1 ⟨⟨⟨hD, Up.refl c _⟩, fun m hm => by omega⟩, aB _ _ _⟩ fun n G hn hI => ?_
   obtain ⟨hG, jM⟩ := hI
   by_cases h0 : n = 0
   ·subst h0
    have e0 := TA 0 .fx rfl (by decide)
    have d1 : decide (((0 : Nat) : Int) < 5) = true := rfl
    have d2 : decide ((0 : Int) < ((0 : Nat) : Int)) = false := rfl
    simp +contextual only [lO, e0 _ rfl, d1, d2, sZ, Nat.reduceEqDiff, ↓reduceIte, reduceCtorEq]
    refine ⟨1, G, ⟨by omega, hG, fun m hm => ?_⟩, by omega, aH rfl rfl⟩
    intro h
    simp only [gE] at h
    omega
   ·by_cases h5 : n < 5
    ·have hf : dO.cells[n]? = some (.fn (.func (182 + n)) [] []) := by
      have : n = 1 ∨ n = 2 ∨ n = 3 ∨ n = 4 := by omega
      rcases this with rfl | rfl | rfl | rfl <;> rfl
     have en := TA n _ hf h5
     have d1 : decide ((n : Int) < 5) = true := decide_eq_true (by omega)
     have d2 : decide ((0 : Int) < n) = true := decide_eq_true (by omega)
     simp +contextual only [lO, en _ rfl, d1, d2, sZ, Nat.reduceEqDiff, Nat.reduceAdd, ↓reduceIte, reduceCtorEq]
     refine ag (hr.at (by omega) h5 hG.1) ?_
     rintro r G' ⟨b, rfl, dT, hU, jb⟩
     have dY : SD c H1 G' := ⟨jb, hG.2.trans hU⟩
     cases b with
     | true =>
       simp +contextual only [sZ, Nat.reduceEqDiff, ↓reduceIte, reduceCtorEq]
       exact dZ rfl ⟨fun _ => ⟨rfl, n, h5, dT.1 rfl⟩, fun _ => rfl⟩ dY.2 dY.1
     | false =>
       simp +contextual only [sZ, Nat.reduceEqDiff, ↓reduceIte, reduceCtorEq]
       refine ⟨n + 1, G', ⟨by omega, dY, fun m hm => ?_⟩, by omega, aH (by rw [ax n (by omega)]) rfl⟩
       by_cases e : m = n
       ·subst e; exact fun h => absurd (dT.2 h) (by simp)
       ·exact jM m (by omega)
    ·have d1 : decide ((n : Int) < 5) = false := decide_eq_false (by omega)
     simp +contextual only [d1, sZ, Nat.reduceEqDiff, ↓reduceIte, reduceCtorEq]
     exact dZ rfl ⟨fun h => by simp at h, fun ⟨_, m, hm, h⟩ => absurd h (jM m (by omega))⟩ hG.2 hG.1
theorem ji {f : Int → T} {s : Int} {l : List Int} : side s (l.map f) = (bE s l).map f := by unfold side bE; split <;> simp
theorem HY.lx {f : Int → T} {G : T → T → Prop} (irr : ∀ x, ¬ G x x) : ∀ {a b : List Int} {n : Nat}, HY (fun x y => f x = f y) a b n → (Lx G (a.map f) (b.map f) ↔ n < a.length ∧ (n = b.length ∨ G (f (a.getD n 0)) (f (b.getD n 0))))
 | [], b, n, h => by simp [Lx]
 | x :: r, [], n, h => by
   have := h.lb
   simp at this
   subst this
   simp [Lx]
 | x :: r, y :: s, 0, h => by
   have ep : ¬ f x = f y := h.no (by simp) (by simp)
   simp [Lx, ep]
 | x :: r, y :: s, m + 1, h => by
   have Zf : f x = f y := h.eq 0 (by omega)
   have ih := HY.lx irr (a := r) (b := s) (n := m) ⟨by have := h.la; simp at this; omega, by have := h.lb; simp at this; omega, fun j hj => h.eq (j + 1) (by omega), fun h1 h2 => h.no (by simpa using h1) (by simpa using h2)⟩
   simp only [List.map_cons, Lx, Zf, true_and, List.length_cons, List.getD_cons_succ, Nat.add_lt_add_iff_right, Nat.add_right_cancel_iff]
   rw [ih]
   exact ⟨fun h => by rcases h with h | h; exact h; exact absurd h (irr _), fun h => .inl h⟩
theorem vF {Q : Int → Int → Prop} : ∀ (a b : List Int), ∃ n, HY Q a b n
 | [], b => ⟨0, by simp, by simp, fun j h => by omega, fun h => by simp at h⟩
 | x :: r, [] => ⟨0, by simp, by simp, fun j h => by omega, fun _ h => by simp at h⟩
 | x :: r, y :: s => by
   by_cases hq : Q x y
   ·obtain ⟨n, h⟩ := vF (Q := Q) r s
    refine ⟨n + 1, by have := h.la; simp; omega, by have := h.lb; simp; omega, fun j hj => ?_, fun h1 h2 => h.no (by simpa using h1) (by simpa using h2)⟩
    cases j with
    | zero => exact hq
    | succ j => exact h.eq j (by omega)
   ·exact ⟨0, by simp, by simp, fun j h => by omega, fun _ _ => hq⟩
theorem rS {c : Cx} (hc : c.Ok) {i k : Int} (hi : c.dF i) (hk : c.dF k) : (qP c i = true ∧ ∃ n, n < 5 ∧ gE c i k n) ↔ R c.O (c.tm i) (c.tm k) := by
 rw [nl, tW hc hi, tW hc hk]
 have XV : qP c i = true ↔ (c.tm i).k = 2 := by simp [qP]
 have Ep : qP c k = true ↔ (c.tm k).k = 2 := by simp [qP]
 rw [XV]
 refine and_congr_right fun XX => ?_
 have epi : ph c i = c.O.pl (c.tm i).n := if_pos XX
 have esi : dq c i = c.O.sp (c.O.pl (c.tm i).n) := if_pos XX
 have lk := (hc.kids k hk).1
 have li := (hc.kids i hi).1
 have all : (∀ x ∈ c.kd k, R c.O (c.tm i) (c.tm x)) ↔ ∀ y ∈ (c.tm k).l, R c.O (c.tm i) y := by rw [← lk]; simp
 have sub : Kf c i k ↔ ∃ x ∈ (c.tm i).l, E c.O x (c.tm k) ∨ R c.O x (c.tm k) := by
  rw [← li]; unfold Kf
  constructor
  ·rintro ⟨x, hx, h⟩; exact ⟨_, List.mem_map.2 ⟨x, hx, rfl⟩, h⟩
  ·rintro ⟨y, hy, h⟩; obtain ⟨x, hx, rfl⟩ := List.mem_map.1 hy; exact ⟨x, hx, h⟩
 have lex : z4 c i k ↔ (c.tm k).k = 2 ∧ c.O.pl (c.tm k).n = c.O.pl (c.tm i).n ∧ c.O.sp (c.O.pl (c.tm i).n) ≠ 3 ∧ (∀ y ∈ (c.tm k).l, R c.O (c.tm i) y) ∧ Lx (Gt c.O.sp) (side (c.O.sp (c.O.pl (c.tm i).n)) ((c.kd i).map (nf c))) (side (c.O.sp (c.O.pl (c.tm i).n)) ((c.kd k).map (nf c))) := by
  unfold z4
  rw [jZ, all, ← esi, ji, ji]
  obtain ⟨n, hn⟩ := vF (Q := fun x y => nf c x = nf c y) (bE (dq c i) (c.kd i)) (bE (dq c i) (c.kd k))
  have Zt := HY.lx (G := Gt c.O.sp) (fun x => zU x) hn
  rw [Zt]
  constructor
  ·rintro ⟨⟨_, h1, h2⟩, h3, h4, m, hm, h5⟩
   have := hm.Sp hn
   subst this
   exact ⟨h1, h2.symm, h3, h4, h5⟩
  ·rintro ⟨h1, h2, h3, h4, h5⟩
   exact ⟨⟨XX, h1, h2.symm⟩, h3, h4, n, hn, h5⟩
 have mul : wY c i k ↔ (c.tm k).k = 2 ∧ c.O.pl (c.tm k).n = c.O.pl (c.tm i).n ∧ c.O.sp (c.O.pl (c.tm i).n) = 3 ∧ Mu (Gt c.O.sp) ((c.kd i).map (nf c)) ((c.kd k).map (nf c)) := by
  unfold wY
  rw [jZ, ← esi]
  exact ⟨fun ⟨⟨_, h1, h2⟩, h3⟩ => ⟨h1, h2.symm, h3⟩, fun ⟨h1, h2, h3⟩ => ⟨⟨XX, h1, h2.symm⟩, h3⟩⟩
 have pla : rR c i k ↔ (c.tm k).k = 2 ∧ c.O.pl (c.tm k).n < c.O.pl (c.tm i).n ∧ ∀ y ∈ (c.tm k).l, R c.O (c.tm i) y := by
  unfold rR
  rw [all, Ep, epi]
  refine and_congr_right fun h => ?_
  rw [show ph c k = c.O.pl (c.tm k).n from if_pos h]
 have e : (∃ n, n < 5 ∧ gE c i k n) ↔ Kf c i k ∨ rR c i k ∨ z4 c i k ∨ wY c i k := by
  constructor
  ·rintro ⟨n, _, h | h | h | h⟩
   ·exact .inl h.2
   ·exact .inr (.inl h.2)
   ·exact .inr (.inr (.inl h.2))
   ·exact .inr (.inr (.inr h.2))
  ·rintro (h | h | h | h)
   ·exact ⟨1, by omega, .inl ⟨rfl, h⟩⟩
   ·exact ⟨2, by omega, .inr (.inl ⟨rfl, h⟩)⟩
   ·exact ⟨3, by omega, .inr (.inr (.inl ⟨rfl, h⟩))⟩
   ·exact ⟨4, by omega, .inr (.inr (.inr ⟨rfl, h⟩))⟩
 rw [e, sub, pla, lex, mul]
 refine or_congr_right ?_
 constructor
 ·rintro (⟨h1, h2⟩ | ⟨h1, h2⟩ | ⟨h1, h2⟩)
  ·exact ⟨h1, .inl h2⟩
  ·exact ⟨h1, .inr (.inl h2)⟩
  ·exact ⟨h1, .inr (.inr h2)⟩
 ·rintro ⟨h1, h2 | h2 | h2⟩
  ·exact .inl ⟨h1, h2⟩
  ·exact .inr (.inl ⟨h1, h2⟩)
  ·exact .inr (.inr ⟨h1, h2⟩)
theorem ic.iff {c : Cx} {Q Q' : Prop} {f : Nat} {args : List AV} {H : List aa} (h : au Tryz.prog f args H (ic c Q H)) (e : Q ↔ Q') : au Tryz.prog f args H (ic c Q' H) := by
 refine h.mono ?_
 rintro r H' ⟨b, h1, h2, h3, h4⟩
 exact ⟨b, h1, h2.trans e, h3, h4⟩
theorem Co {c : Cx} (hc : c.Ok) : ∀ (N : Nat) (i k : Int), c.dF i → c.dF k → wt (c.tm i) + wt (c.tm k) ≤ N → jY c i k ∧ gN c i k := by
 intro N
 induction N with
 | zero => intro i k _ _ h; have := fQ (c.tm i); omega
 | succ N ih =>
 intro i k hi hk hN
 have hx : ∀ {j : Int}, c.dF j → ∀ x ∈ c.kd j, c.dF x ∧ wt (c.tm x) < wt (c.tm j) := fun {j} hj x hx => by
  have h1 := hc.kids j hj
  exact ⟨h1.2 x hx, bU (by rw [← h1.1]; exact List.mem_map.2 ⟨x, hx, rfl⟩)⟩
 have s1 : ∀ x ∈ c.kd i, ∀ y ∈ c.kd k, jY c x y := fun x h y h' => (ih x y (hx hi x h).1 (hx hk y h').1 (by have := (hx hi x h).2; have := (hx hk y h').2; omega)).1
 have m1 : ∀ x ∈ c.kd i, ∀ y ∈ c.kd k, gN c x y := fun x h y h' => (ih x y (hx hi x h).1 (hx hk y h').1 (by have := (hx hi x h).2; have := (hx hk y h').2; omega)).2
 have s2 : ∀ x ∈ c.kd i, jY c x k := fun x h => (ih x k (hx hi x h).1 hk (by have := (hx hi x h).2; omega)).1
 have m2 : ∀ x ∈ c.kd i, gN c x k := fun x h => (ih x k (hx hi x h).1 hk (by have := (hx hi x h).2; omega)).2
 have m3 : ∀ y ∈ c.kd k, gN c i y := fun y h => (ih i y hi (hx hk y h).1 (by have := (hx hk y h).2; omega)).2
 refine ⟨c79 hc fun H hD => Zq hc hi hk s1 hD, c76 hc fun H hD => ic.iff (Zs hc hi ⟨fun H hD => Wb hc hi s2 m2 hD, fun H hD => Wc hc hi hk m3 hD, fun H hD => We hc hi hk m3 s1 m1 hD, fun H hD => Wk hc hi hk s1 m1 hD⟩ hD) (rS hc hi hk)⟩
theorem jI {c : Cx} (hc : c.Ok) {i k : Int} (hi : c.dF i) (hk : c.dF k) : jY c i k := (Co hc _ i k hi hk (Nat.le_refl _)).1
theorem jJ {c : Cx} (hc : c.Ok) {i k : Int} (hi : c.dF i) (hk : c.dF k) : gN c i k := (Co hc _ i k hi hk (Nat.le_refl _)).2
end Go.aL
end
section
set_option maxRecDepth 100000
namespace Go.aL
open Go Go.Proofs Go.fw
def XZ (nd : List Nd) (t : T) (i : Nat) : Prop := ∀ j, j < wt t → nd[i + j]? = (vA t i)[j]?
def Kg (nd : List Nd) (l : List T) (i : Nat) : Prop := ∀ j, j < gI l → nd[i + j]? = (cS l i)[j]?
theorem XZ.head {nd : List Nd} {t : T} {i : Nat} (h : XZ nd t i) : nd[i]? = some (t, aU t.l (i + 1)) ∧ Kg nd t.l (i + 1) := by
 have hw := Cd t
 constructor
 ·have := h 0 (fQ t)
  rw [n9] at this
  simpa using this
 ·intro j hj
  have := h (j + 1) (by omega)
  rw [n9, List.getElem?_cons_succ] at this
  rw [← this]; congr 1; omega
theorem Kg.cons {nd : List Nd} {x : T} {r : List T} {i : Nat} (h : Kg nd (x :: r) i) : XZ nd x i ∧ Kg nd r (i + wt x) := by
 constructor
 ·intro j hj
  have := h j (by rw [gI]; omega)
  rw [cS, List.getElem?_append_left (by rw [qx]; exact hj)] at this
  exact this
 ·intro j hj
  have := h (wt x + j) (by rw [gI]; omega)
  rw [cS, List.getElem?_append_right (by rw [qx]; omega), qx] at this
  rw [show wt x + j - wt x = j by omega] at this
  rw [← this]; congr 1; omega
theorem Kg.kids {nd : List Nd} : ∀ {l : List T} {i : Nat}, Kg nd l i → (aU l i).map (fun k => (nd.getD k.toNat default).1) = l ∧ ∀ k ∈ aU l i, 0 ≤ k ∧ k < nd.length
 | [], i, _ => ⟨rfl, fun k h => by simp [aU] at h⟩
 | x :: r, i, h => by
   obtain ⟨h1, h2⟩ := h.cons
   obtain ⟨h3, h4⟩ := Kg.kids h2
   have h5 := h1.head.1
   have h6 := (List.getElem?_eq_some_iff.1 h5).1
   refine ⟨?_, ?_⟩
   ·rw [aU, List.map_cons, h3]
    congr 1
    rw [List.getD_eq_getElem?_getD, Int.toNat_natCast, h5]; rfl
   ·intro k hk
    rw [aU] at hk
    rcases List.mem_cons.1 hk with rfl | hk
    ·omega
    ·exact h4 k hk
def Gd (nd : List Nd) (p : Int → Prop) (i : Nat) : Prop := ∃ t, nd[i]? = some (t, aU t.l (i + 1)) ∧ Kg nd t.l (i + 1) ∧ pD p t
mutual
theorem gdT {nd : List Nd} {p : Int → Prop} : ∀ (t : T) (i : Nat), XZ nd t i → pD p t → ∀ j, j < wt t → Gd nd p (i + j)
 | .mk k n l, i, h, ha, j, hj => by
   obtain ⟨h1, h2⟩ := h.head
   cases j with
   | zero => exact ⟨_, h1, h2, ha⟩
   | succ j =>
     have := Zu l (i + 1) h2 (fun x hx => ha.mem hx) j (by rw [wt] at hj; omega)
     rw [show i + (j + 1) = i + 1 + j by omega]; exact this
theorem Zu {nd : List Nd} {p : Int → Prop} : ∀ (l : List T) (i : Nat), Kg nd l i → (∀ x ∈ l, pD p x) → ∀ j, j < gI l → Gd nd p (i + j)
 | [], i, h, ha, j, hj => by simp [gI] at hj
 | x :: r, i, h, ha, j, hj => by
   obtain ⟨h1, h2⟩ := h.cons
   by_cases hx : j < wt x
   ·exact gdT x i h1 (ha x List.mem_cons_self) j hx
   ·have := Zu r (i + wt x) h2 (fun y hy => ha y (List.mem_cons_of_mem _ hy)) (j - wt x) (by rw [gI] at hj; omega)
    rw [show i + j = i + wt x + (j - wt x) by omega]; exact this
end
def fZ (ps ss : List Int) (ts : List T) (n : Nat) : Cx := ⟨ps, ss, cS ts 0, n + 2, n, n + 1⟩
theorem NU (ts : List T) : Kg (cS ts 0) ts 0 := fun j _ => by rw [Nat.zero_add]
theorem Pt {ps ss : List Int} (hv : Va ps ss) {ts : List T} (ep : ts ≠ []) (hw : gI ts ≤ 100000000) (ha : ∀ t ∈ ts, pD (fun n => 0 ≤ n ∧ n < ps.length) t) (n : Nat) : (fZ ps ss ts n).Ok := by
 have hl : (cS ts 0).length = gI ts := gD ts 0
 have gd : ∀ i, (fZ ps ss ts n).dF i → ∃ t, (cS ts 0).getD i.toNat default = (t, aU t.l (i.toNat + 1)) ∧ Kg (cS ts 0) t.l (i.toNat + 1) ∧ pD (fun n => 0 ≤ n ∧ n < ps.length) t := by
  intro i hi
  have mq : i.toNat < gI ts := by have := hi.1; have := hi.2; simp only [fZ] at *; omega
  obtain ⟨t, h1, h2, h3⟩ := Zu ts 0 (NU ts) ha i.toNat mq
  rw [Nat.zero_add] at h1 h2
  exact ⟨t, by rw [List.getD_eq_getElem?_getD, h1]; rfl, h2, h3⟩
 refine ⟨hv, ?_, by simp [fZ], by simp [fZ], by simp [fZ], fun i hi => ?_, fun i hi => ?_, fun i hi hk => ?_⟩
 ·intro e
  have e : cS ts 0 = [] := e
  rw [e] at hl
  have := hZ ts
  have h0 : ts.length = 0 := by simp at hl; omega
  exact ep (List.length_eq_zero_iff.1 h0)
 ·obtain ⟨t, h1, h2, h3⟩ := gd i hi
  show ((cS ts 0).getD i.toNat default).2.length ≤ _
  rw [h1, cu]
  by_cases h0 : t.l = []
  ·rw [h0]; simp
  ·have : gI t.l ≤ (cS ts 0).length := by
    have hp : 0 < gI t.l := by
     have := hZ t.l
     have := List.length_pos_iff.2 h0
     omega
    have := h2 (gI t.l - 1) (by omega)
    have h4 : (cS t.l (i.toNat + 1))[gI t.l - 1]? ≠ none := by rw [List.getElem?_eq_getElem (by rw [gD]; omega)]; simp
    rw [← this] at h4
    have h5 : i.toNat + 1 + (gI t.l - 1) < (cS ts 0).length := by
     apply Decidable.byContradiction
     intro hc
     exact h4 (List.getElem?_eq_none (by omega))
    omega
   have := hZ t.l
   omega
 ·obtain ⟨t, h1, h2, h3⟩ := gd i hi
  have hk := h2.kids
  have e1 : (fZ ps ss ts n).kd i = aU t.l (i.toNat + 1) := by show ((cS ts 0).getD i.toNat default).2 = _; rw [h1]
  have e2 : (fZ ps ss ts n).tm i = t := by show ((cS ts 0).getD i.toNat default).1 = _; rw [h1]
  rw [e1, e2]
  exact hk
 ·obtain ⟨t, h1, h2, h3⟩ := gd i hi
  have e2 : (fZ ps ss ts n).tm i = t := by show ((cS ts 0).getD i.toNat default).1 = _; rw [h1]
  rw [e2] at hk ⊢
  exact h3.op hk
theorem yh (ps ss : List Int) {ts : List T} (ep : ts ≠ []) (H : List aa) : Du (fZ ps ss ts H.length) (H ++ [.map [], .map [], jH ps ss (cS ts 0) H.length (H.length + 1)]) := by
 have hn : cS ts 0 ≠ [] := by
  intro e
  have hl : (cS ts 0).length = gI ts := gD ts 0
  have := hZ ts
  rw [e] at hl
  have h0 : ts.length = 0 := by simp at hl; omega
  exact ep (List.length_eq_zero_iff.1 h0)
 refine ⟨?_, ⟨[], ?_, fun p hp => by simp at hp⟩, ⟨[], ?_, fun p hp => by simp at hp⟩⟩
 ·show (H ++ [aa.map [], .map [], jH ps ss (cS ts 0) H.length (H.length + 1)])[H.length + 2]? = _
  rw [jH, ns, if_neg hn]
  simp [fZ]
 ·show (H ++ [aa.map [], .map [], jH ps ss (cS ts 0) H.length (H.length + 1)])[H.length]? = _
  simp [lU]
 ·show (H ++ [aa.map [], .map [], jH ps ss (cS ts 0) H.length (H.length + 1)])[H.length + 1]? = _
  simp [lU]
theorem sW {ps ss : List Int} {ts : List T} {n j : Nat} (hj : j < ts.length) : (fZ ps ss ts n).dF ((aU ts 0).getD j 0) ∧ (fZ ps ss ts n).tm ((aU ts 0).getD j 0) = ts.getD j default := by
 obtain ⟨h1, h2⟩ := (NU ts).kids
 have hl := cu ts 0
 refine ⟨h2 _ (aP (by omega)), ?_⟩
 have := congrArg (fun l => l[j]?) h1
 have tV : j < (aU ts 0).length := by omega
 simp only [List.getElem?_map, List.getElem?_eq_getElem tV, List.getElem?_eq_getElem hj, Option.map_some, Option.some.injEq] at this
 have e1 : (aU ts 0).getD j 0 = (aU ts 0)[j] := by simp [tV]
 have e2 : ts.getD j default = ts[j] := by simp [hj]
 rw [e1, e2]
 exact this
end Go.aL
end
section
set_option maxRecDepth 100000
namespace Go.aL
open Go Go.Proofs
theorem Zv (s : ByteArray) (k : IntKind) (i : Nat) (φ : AV → Prop) : bI (.str s) (.int k (i : Int)) φ = (i < s.size ∧ φ (.int .u8 (s.data.toList.getD i 0).toNat)) := by
 simp only [bI, Int.toNat_natCast, eq_iff_iff]
 exact ⟨fun h => h.2, fun h => ⟨by omega, h⟩⟩
theorem pj (a b : ByteArray) (φ : AV → Prop) : cV .eql (.str a) (.str b) φ = φ (.bool (decide (a = b))) := by
 simp [cV]
theorem FG {g : Nat} {f : List AV → Option AV} (h : sM Tryz.prog g (.uZ f)) {xs : List AV} {r : AV} (hr : f xs = some r) : Pure Tryz.prog g xs r := fun H => h xs r H hr
theorem Zw (s : ByteArray) (c : Int) : Pure Tryz.prog 238 [.str s, .int .u8 c] (.int .i64 (firstIdx s c.toNat.toUInt8)) := FG Vu rfl
def mv (s : ByteArray) (c : Int) : Int := s.foldl (fun (n : Int) x => if x == c.toNat.toUInt8 then n + 1 else n) ((0 : Nat) : Int)
theorem Zx (s : ByteArray) (c : Int) : Pure Tryz.prog 231 [.str s, .int .u8 c] (.int .i64 (mv s c)) := FG Vv (by simp only [countP, mv])
theorem Wl (s : ByteArray) (c : Int) : Pure Tryz.prog 228 [.str s, .int .u8 c] (.int .i64 (firstIdx s c.toNat.toUInt8)) := by
 refine fun H => Mq.2.calls rfl ?_
 simp only [Mq, aJ]
 simp +contextual only [zA, sZ, Nat.reduceEqDiff, Nat.reduceAdd, ↓reduceIte, reduceCtorEq]
 refine af (Zw s c) ?_
 simp +contextual only [sZ, ↓reduceIte, reduceCtorEq]
 exact a9 rfl rfl
theorem Zy (s : ByteArray) (c : Int) : Pure Tryz.prog 190 [.str s, .int .u8 c] (.int .i64 (firstIdx s c.toNat.toUInt8)) := by
 refine fun H => Mg.2.calls rfl ?_
 simp only [Mg, aJ]
 simp +contextual only [zA, sZ, Nat.reduceEqDiff, Nat.reduceAdd, ↓reduceIte, reduceCtorEq]
 refine af (Wl s c) ?_
 simp +contextual only [sZ, ↓reduceIte, reduceCtorEq]
 exact a9 rfl rfl
def us : ByteArray := ⟨#[95]⟩
theorem X0 (k : IntKind) (φ : AV → Prop) : bI (.str us) (.int k 0) φ = φ (.int .u8 95) := by
 simp only [bI, eq_iff_iff]
 exact ⟨fun h => h.2.2, fun h => ⟨by omega, by decide, h⟩⟩
def NV (s : ByteArray) : Int := if s = us then 0 else firstIdx s 95
theorem Zz (s : ByteArray) : Pure Tryz.prog 229 [.str s, .str us] (.int .i64 (NV s)) := by
 refine fun H => Mr.2.calls rfl ?_
 simp only [Mr, aJ]
 unfold NV
 have cZ : ((us.size : Nat) : Int) = 1 := rfl
 by_cases hs : s = us
 ·rw [if_pos hs]
  simp +contextual only [pj, cZ, hs, Int.reduceEq, sZ, Nat.reduceEqDiff, Nat.reduceAdd, ↓reduceIte, reduceCtorEq, Int.reduceEq]
  exact a9 rfl rfl
 ·rw [if_neg hs]
  have TW : ¬ us = s := fun e => hs e.symm
  simp +contextual only [pj, cZ, TW, X0, Int.reduceEq, sZ, Nat.reduceEqDiff, Nat.reduceAdd, ↓reduceIte, reduceCtorEq, Int.reduceEq]
  refine af (Wl s 95) ?_
  simp +contextual only [sZ, ↓reduceIte, reduceCtorEq]
  exact a9 rfl rfl
theorem ZA (s : ByteArray) : Pure Tryz.prog 191 [.str s, .str us] (.int .i64 (NV s)) := by
 refine fun H => Mh.2.calls rfl ?_
 simp only [Mh, aJ]
 simp +contextual only [sZ, Nat.reduceEqDiff, Nat.reduceAdd, ↓reduceIte, reduceCtorEq]
 refine af (Zz s) ?_
 simp +contextual only [sZ, ↓reduceIte, reduceCtorEq]
 exact a9 rfl rfl
theorem ZB (s : ByteArray) : Pure Tryz.prog 142 [.str s, .str us] (.bool (decide (0 ≤ NV s))) := by
 refine fun H => Mb.2.calls rfl ?_
 simp only [Mb, aJ]
 simp +contextual only [sZ, Nat.reduceEqDiff, Nat.reduceAdd, ↓reduceIte, reduceCtorEq]
 refine af (ZA s) ?_
 simp +contextual only [sZ, ↓reduceIte, reduceCtorEq]
 exact a9 rfl rfl
theorem ZC (s : ByteArray) : Pure Tryz.prog 193 [.str s, .str us] (.int .i64 (mv s 95)) := by
 refine fun H => Mj.2.calls rfl ?_
 simp only [Mj, aJ]
 have cZ : ((us.size : Nat) : Int) = 1 := rfl
 simp +contextual only [cZ, X0, Int.reduceEq, sZ, Nat.reduceEqDiff, Nat.reduceAdd, ↓reduceIte, reduceCtorEq, Int.reduceEq]
 refine af (Zx s 95) ?_
 simp +contextual only [sZ, ↓reduceIte, reduceCtorEq]
 exact a9 rfl rfl
def z9 (c : UInt8) : Bool := decide (((c.toNat : Nat) : Int) < 33) || decide ((126 : Int) < ((c.toNat : Nat) : Int)) || decide (0 ≤ firstIdx ⟨#[40, 41, 44]⟩ ((c.toNat : Nat) : Int).toNat.toUInt8)
def oL (s : ByteArray) : Bool := !decide (((s.size : Nat) : Int) < 1) && !decide ((32 : Int) < ((s.size : Nat) : Int)) && s.data.toList.all fun c => !z9 c
theorem yi {p : UInt8 → Bool} {l : List UInt8} {i : Nat} (h : i < l.length) : (l.drop i).all p = (p (l.getD i 0) && (l.drop (i + 1)).all p) := by
 rw [List.drop_eq_getElem_cons h, List.all_cons]
 simp [h]
theorem Wm (s : ByteArray) : Pure Tryz.prog 141 [.str s] (.bool (oL s)) := by
 refine fun H => OM.calls rfl ?_
 simp only [I1, OL]
 have hl : s.data.toList.length = s.size := rfl
 unfold oL
 simp +contextual only [sZ, Nat.reduceEqDiff, Nat.reduceAdd, ↓reduceIte, reduceCtorEq]
 refine ⟨fun h1 => ⟨fun h2 => ?_, fun h2 => ?_⟩, fun h1 => ?_⟩
 ·exact a9 rfl (by simp [h2])
 ·refine aD s.size (fun i => ((s.data.toList.drop i).all fun c => !z9 c) = (s.data.toList.all fun c => !z9 c))
   (fun i => [(0, .str s), (13, .int .i64 s.size), (14, .int .i64 i)]) (fun i => H) ⟨rfl, aB _ _ _⟩ fun i hi hI => ?_
  simp +contextual only [Zv, sZ, Nat.reduceEqDiff, Nat.reduceAdd, ↓reduceIte, reduceCtorEq]
  have fin : ∀ (a8 : i < s.size), z9 (s.data.toList.getD i 0) = true → (s.data.toList.all fun c => !z9 c) = false := fun a8 hb => by
   rw [← hI, yi (by omega), hb]; rfl
  refine ⟨fun a8 => ?_, fun jL => ?_⟩
  ·have a8 := b7 a8
   have fin := fin a8
   rw [yi (by omega)] at hI
   have Pn : z9 (s.data.toList.getD i 0) = (decide ((((s.data.toList.getD i 0).toNat : Nat) : Int) < 33) || decide ((126 : Int) < (((s.data.toList.getD i 0).toNat : Nat) : Int)) || decide (0 ≤ firstIdx ⟨#[40, 41, 44]⟩ (((s.data.toList.getD i 0).toNat : Nat) : Int).toNat.toUInt8)) := rfl
   generalize s.data.toList.getD i 0 = c at *
   refine ⟨a8, fun a => ⟨a8, fun b => ⟨a8, af (Zy _ _) ?_⟩, fun b => ?_⟩, fun a => ?_⟩
   ·simp +contextual only [sZ, Nat.reduceEqDiff, ↓reduceIte, reduceCtorEq]
    refine ⟨fun d => ?_, fun d => ?_⟩
    ·exact a9 rfl (by rw [fin (by rw [Pn]; simp only [decide_eq_true d, Bool.or_true])]; simp)
    ·refine ⟨i + 1, ⟨a8, ?_⟩, by omega, aH (by rw [ax i (by omega)]) rfl⟩
     rw [← hI]
     have : z9 c = false := by
      rw [Pn]
      simp only [Bool.or_eq_false_iff, decide_eq_false_iff_not]
      omega
     rw [this]; simp
   ·exact a9 rfl (by rw [fin (by rw [Pn]; simp only [decide_eq_true b, Bool.or_true, Bool.true_or])]; simp)
   ·exact a9 rfl (by rw [fin (by rw [Pn]; simp only [decide_eq_true a, Bool.true_or])]; simp)
  ·rw [List.drop_of_length_le (by have := dl jL; omega)] at hI
   exact a9 rfl (by rw [← hI]; simp; omega)
 ·exact a9 rfl (by simp [h1])
end Go.aL
end
section
set_option maxRecDepth 100000
namespace Go.aL
open Go Go.Proofs
structure gF where
 name : ByteArray
 args : List Int
 Az : Int
 deriving Inhabited
structure Sg where
 aY : List ByteArray
 ops : List gF
 deriving Inhabited
def gF.av (o : gF) : AV := .agg [.str o.name, .aq 0 (ints o.args), .int .i64 o.Az]
def ow (l : List gF) : List AV := l.map gF.av
def strs (l : List ByteArray) : List AV := l.map AV.str
def Sg.av (s : Sg) : AV := .agg [.aq 0 (strs s.aY), .aq 0 (ow s.ops)]
theorem vG (l : List gF) : (ow l).length = l.length := by simp [ow]
theorem Cp (l : List ByteArray) : (strs l).length = l.length := by simp [strs]
theorem vH (n : Nat) (l : List gF) : ak n (ow l) = true := by
 rw [ba]; intro x hx; obtain ⟨y, _, rfl⟩ := List.mem_map.1 hx
 simp [gF.av, AV.aZ, ak, bj]
theorem vI (n : Nat) (l : List ByteArray) : ak n (strs l) = true := by
 rw [ba]; intro x hx; obtain ⟨y, _, rfl⟩ := List.mem_map.1 hx; rfl
theorem gF.pe (n : Nat) (o : gF) : o.av.aZ n = true := by simp [gF.av, AV.aZ, ak, bj]
theorem gF.vu (o : gF) : o.av.val = true := rfl
theorem gF.pf (o : gF) : o.av.cells.all AV.one = true := rfl
theorem gF.ni (o : gF) : o.av.ae = o.av := rfl
theorem gF.qp (o : gF) : o.av.drop = o.av := rfl
theorem gF.gB (o : gF) : o.av.cells.length = 3 := rfl
theorem Sg.pe (n : Nat) (o : Sg) : o.av.aZ n = true := by simp [Sg.av, AV.aZ, ak, vI, vH]
theorem Sg.vu (o : Sg) : o.av.val = true := rfl
theorem Sg.pf (o : Sg) : o.av.cells.all AV.one = true := rfl
theorem Sg.ni (o : Sg) : o.av.ae = o.av := rfl
theorem Sg.qp (o : Sg) : o.av.drop = o.av := rfl
theorem Sg.gB (o : Sg) : o.av.cells.length = 2 := rfl
theorem Hv (o : Nat) (l : List gF) : (∀ (own : Nat) (xs : List AV), AV.aq o (ow l) = AV.aq own xs → ∀ z ∈ xs, z.cells.length = 3) = True := by
 simp only [eq_iff_iff, iff_true]
 intro own xs e z hz
 cases e
 obtain ⟨y, _, rfl⟩ := List.mem_map.1 hz
 rfl
theorem Hw (o : Nat) (l : List ByteArray) : (∀ (own : Nat) (xs : List AV), AV.aq o (strs l) = AV.aq own xs → ∀ z ∈ xs, z.cells.length = 1) = True := by
 simp only [eq_iff_iff, iff_true]
 intro own xs e z hz
 cases e
 obtain ⟨y, _, rfl⟩ := List.mem_map.1 hz
 rfl
theorem Kh (e o : Nat) (l : List gF) (k : IntKind) (i : Nat) (φ : AV → Prop) : aA e (.aq o (ow l)) (.int k (i : Int)) φ = (i < l.length ∧ φ (.aj (l.getD i default).av)) := by
 simp only [aA, vG, Int.toNat_natCast, eq_iff_iff]
 constructor
 ·rintro ⟨_, h, h2⟩; refine ⟨h, ?_⟩; simpa [ow, h] using h2
 ·rintro ⟨h, h2⟩; refine ⟨by omega, h, ?_⟩; simpa [ow, h] using h2
theorem Ki (e o : Nat) (l : List ByteArray) (k : IntKind) (i : Nat) (φ : AV → Prop) : aA e (.aq o (strs l)) (.int k (i : Int)) φ = (i < l.length ∧ φ (.aj (.str (l.getD i default)))) := by
 simp only [aA, Cp, Int.toNat_natCast, eq_iff_iff]
 constructor
 ·rintro ⟨_, h, h2⟩; refine ⟨h, ?_⟩; simpa [strs, h] using h2
 ·rintro ⟨h, h2⟩; refine ⟨by omega, h, ?_⟩; simpa [strs, h] using h2
theorem Wn (o : gF) (H : List aa) (φ : AV → Prop) : aS (some 3) (.aj o.av) H φ = φ o.av := by simp [aS, gF.av, AV.cells]
theorem kU (o : Sg) (H : List aa) (φ : AV → Prop) : aS (some 2) (.aj o.av) H φ = φ o.av := by simp [aS, Sg.av, AV.cells]
theorem fo0 (x : gF) (φ : AV → Prop) : al 0 none (.aj x.av) φ = φ (.aj (.str x.name)) := by simp [al, apart, gF.av, AV.cells, AV.one]
theorem fo1 (x : gF) (φ : AV → Prop) : al 1 none (.aj x.av) φ = φ (.aj (.aq 0 (ints x.args))) := by simp [al, apart, gF.av, AV.cells, AV.one]
theorem fo2 (x : gF) (φ : AV → Prop) : al 2 none (.aj x.av) φ = φ (.aj (.int .i64 x.Az)) := by simp [al, apart, gF.av, AV.cells, AV.one]
theorem fs0 (x : Sg) (φ : AV → Prop) : al 0 none (.aj x.av) φ = φ (.aj (.aq 0 (strs x.aY))) := by simp [al, apart, Sg.av, AV.cells, AV.one]
theorem fs1 (x : Sg) (φ : AV → Prop) : al 1 none (.aj x.av) φ = φ (.aj (.aq 0 (ow x.ops))) := by simp [al, apart, Sg.av, AV.cells, AV.one]
def aC := (And.intro (And.intro (And.intro (And.intro @vG @Cp) (And.intro @vH @vI)) (And.intro (And.intro @gF.pe @gF.vu) (And.intro (And.intro @gF.pf @gF.ni) (And.intro @gF.qp @gF.gB)))) (And.intro (And.intro (And.intro (And.intro @Sg.pe @Sg.vu) (And.intro (And.intro @Sg.pf @Sg.ni) (And.intro @Sg.qp @Sg.gB))) (And.intro (And.intro @Hv @Hw) (And.intro @Kh @Ki))) (And.intro (And.intro @Wn @kU) (And.intro (And.intro @fo0 @fo1) (And.intro @fo2 (And.intro @fs0 @fs1))))))
def wZ (p : Int → Bool) : List Int → Int → Int
 | [], _ => -1
 | x :: r, k => if p x = true then k else wZ p r (k + 1)
theorem Cq (p : Int → Bool) : ∀ (l : List Int) (k : Int), 0 ≤ k → (decide (0 ≤ wZ p l k) = l.any p)
 | [], k, _ => by simp [wZ]
 | x :: r, k, h => by
   simp only [wZ, List.any_cons]
   split
   ·rename_i hp; simp [hp, h]
   ·rename_i hp; simp [hp, Cq p r (k + 1) (by omega)]
theorem Hy {p : Int → Bool} {l : List Int} {i : Nat} {k : Int} (h : i < l.length) : wZ p (l.drop i) k = if p (l.getD i 0) = true then k else wZ p (l.drop (i + 1)) (k + 1) := by
 rw [List.drop_eq_getElem_cons h]
 simp [wZ, h]
theorem ZD (g : Nat) (cap : List AV) (cF : cap.map AV.ae = cap) (hb : ak 0 cap = true) (p : Int → Bool) (l : List Int) (hf : ∀ x ∈ l, Pure Tryz.prog g ([.int .i64 x] ++ cap) (.bool (p x))) :
 Pure Tryz.prog 100 [.aq 0 (ints l), .fn (.func g) [] cap] (.int .i64 (wZ p l 0)) := by
 refine fun H => Bq.2.calls rfl ?_
 simp only [Bq, aJ]
 simp +contextual only [sZ, Nat.reduceEqDiff, Nat.reduceAdd, ↓reduceIte, reduceCtorEq]
 intro hl
 refine aD l.length (fun i => wZ p (l.drop i) i = wZ p l 0) (fun i => [(0, .aq 0 (ints l)), (1, .fn (.func g) [] cap), (7, .int .i64 l.length), (8, .int .i64 i)]) (fun _ => H) ⟨rfl, aB _ _ _⟩ fun i hi hI => ?_
 simp +contextual only [cF, sZ, Nat.reduceEqDiff, Nat.reduceAdd, ↓reduceIte, reduceCtorEq]
 refine ⟨fun a8 => ?_, fun jL => ?_⟩
 ·have a8 := b7 a8
  rw [Hy a8] at hI
  refine ⟨a8, af (hf _ ?_) ?_⟩
  ·simp [a8]
  simp +contextual only [sZ, Nat.reduceEqDiff, ↓reduceIte, reduceCtorEq]
  refine tP (fun hb => ?_) (fun hb => ?_) <;> simp +contextual only [sZ, Nat.reduceEqDiff, ↓reduceIte, reduceCtorEq]
  ·rw [if_pos hb] at hI
   exact a9 rfl (by rw [← hI])
  ·rw [if_neg (by rw [hb]; simp)] at hI
   exact ⟨i + 1, ⟨a8, hI⟩, by omega, aH (by rw [ax i (by omega)]) rfl⟩
 ·rw [List.drop_of_length_le (dl jL)] at hI
  exact a9 rfl (by rw [← hI]; rfl)
theorem ZE (g : Nat) (cap : List AV) (cF : cap.map AV.ae = cap) (hb : ak 0 cap = true) (p : Int → Bool) (l : List Int) (hf : ∀ x ∈ l, Pure Tryz.prog g ([.int .i64 x] ++ cap) (.bool (p x))) :
 Pure Tryz.prog 102 [.aq 0 (ints l), .fn (.func g) [] cap] (.bool (l.any p)) := by
 refine fun H => Br.2.calls rfl ?_
 simp only [Br, aJ]
 simp +contextual only [sZ, Nat.reduceEqDiff, Nat.reduceAdd, ↓reduceIte, reduceCtorEq]
 refine af (ZD g cap cF hb p l hf) ?_
 simp +contextual only [sZ, ↓reduceIte, reduceCtorEq]
 exact a9 rfl (by rw [Cq p l 0 (by omega)])
end Go.aL
end
section
set_option maxRecDepth 100000
namespace Go.aL
open Go Go.Proofs
def Hz (n a : Int) : Bool := decide (0 ≤ a) && decide (a < n)
theorem Wo (n a : Int) : Pure Tryz.prog 192 [.int .i64 a, .aj (.int .i64 n)] (.bool (Hz n a)) := by
 refine fun H => Mi.2.calls rfl ?_
 simp only [Mi, aJ]
 unfold Hz
 simp +contextual only [sZ, Nat.reduceEqDiff, Nat.reduceAdd, ↓reduceIte, reduceCtorEq]
 refine ⟨fun h => a9 rfl (by simp [h]), fun h => a9 rfl (by simp; omega)⟩
theorem ZF (n a : Int) : Pure Tryz.prog 194 [.int .i64 a, .aj (.fn (.func 192) [] [.aj (.int .i64 n)])] (.bool (!Hz n a)) := by
 refine fun H => Mk.2.calls rfl ?_
 simp only [Mk, aJ]
 simp +contextual only [sZ, Nat.reduceEqDiff, Nat.reduceAdd, ↓reduceIte, reduceCtorEq]
 refine af (Wo n a) ?_
 simp +contextual only [sZ, ↓reduceIte, reduceCtorEq]
 exact a9 rfl rfl
def qD (o : gF) (n : Int) : Bool :=
 oL o.name && (decide (mv o.name 95 < o.name.size) && ((decide (mv o.name 95 = 0) || decide (mv o.name 95 = o.args.length)) && (decide ((o.args.length : Int) ≤ 8) && (Hz n o.Az && !o.args.any fun a => !Hz n a))))
theorem ZG (o : gF) (n : Int) : Pure Tryz.prog 143 [o.av, .int .i64 n] (.bool (qD o n)) := by
 refine fun H => OO.calls rfl ?_
 simp only [I2, ON]
 unfold qD
 simp +contextual only [aC, sZ, Nat.reduceEqDiff, Nat.reduceAdd, ↓reduceIte, reduceCtorEq]
 refine af (ZC o.name) ?_
 simp +contextual only [aC, sZ, Nat.reduceEqDiff, Nat.reduceAdd, ↓reduceIte]
 refine af (Wm o.name) ?_
 cases hn : oL o.name with
 | false =>
   simp +contextual only [sZ, Nat.reduceEqDiff, ↓reduceIte, reduceCtorEq]
   exact a9 rfl rfl
 | true =>
   have ZH := ZE 194 [.aj (.fn (.func 192) [] [.aj (.int .i64 n)])] rfl rfl (fun a => !Hz n a) o.args (fun a _ => ZF n a)
   have Kj := Wo n o.Az
   generalize Hz n o.Az = q at Kj ⊢
   generalize (o.args.any fun a => !Hz n a) = z at ZH ⊢
   by_cases h1 : mv o.name 95 < o.name.size
   ·have e1 : decide (mv o.name 95 < o.name.size) = true := decide_eq_true h1
    simp +contextual only [aC, h1, sZ, Nat.reduceEqDiff, Nat.reduceAdd, ↓reduceIte, reduceCtorEq]
    refine ⟨fun ZI _ => ⟨fun ZJ => ?_, fun ZJ => ?_⟩, fun ZI _ => ?_⟩
    ·have e2 : (decide (mv o.name 95 = 0) || decide (mv o.name 95 = (o.args.length : Int))) = true := by simp [ZJ]
     refine ⟨fun h3 => af Kj ?_, fun h3 => ?_⟩
     ·have e903 : decide ((o.args.length : Int) ≤ 8) = true := decide_eq_true h3
      rw [e1, e2, e903]
      cases q with
      | false =>
        simp +contextual only [sZ, Nat.reduceEqDiff, ↓reduceIte, reduceCtorEq]
        exact a9 rfl (by simp)
      | true =>
        simp +contextual only [aC, sZ, Nat.reduceEqDiff, Nat.reduceAdd, ↓reduceIte, reduceCtorEq]
        refine af ZH ?_
        simp +contextual only [sZ, Nat.reduceEqDiff, ↓reduceIte, reduceCtorEq]
        exact a9 rfl (by simp)
     ·have e903 : decide ((o.args.length : Int) ≤ 8) = false := decide_eq_false (by omega)
      exact a9 rfl (by rw [e903]; simp)
    ·have e2 : (decide (mv o.name 95 = 0) || decide (mv o.name 95 = (o.args.length : Int))) = false := by simp [ZI, ZJ]
     exact a9 rfl (by rw [e2]; simp)
    ·have e2 : (decide (mv o.name 95 = 0) || decide (mv o.name 95 = (o.args.length : Int))) = true := by simp [ZI]
     refine ⟨fun h3 => af Kj ?_, fun h3 => ?_⟩
     ·have e903 : decide ((o.args.length : Int) ≤ 8) = true := decide_eq_true h3
      rw [e1, e2, e903]
      cases q with
      | false =>
        simp +contextual only [sZ, Nat.reduceEqDiff, ↓reduceIte, reduceCtorEq]
        exact a9 rfl (by simp)
      | true =>
        simp +contextual only [aC, sZ, Nat.reduceEqDiff, Nat.reduceAdd, ↓reduceIte, reduceCtorEq]
        refine af ZH ?_
        simp +contextual only [sZ, Nat.reduceEqDiff, ↓reduceIte, reduceCtorEq]
        exact a9 rfl (by simp)
     ·have e903 : decide ((o.args.length : Int) ≤ 8) = false := decide_eq_false (by omega)
      exact a9 rfl (by rw [e903]; simp)
   ·have e1 : decide (mv o.name 95 < o.name.size) = false := decide_eq_false h1
    rw [e1]
    simp +contextual only [aC, h1, sZ, Nat.reduceEqDiff, ↓reduceIte, reduceCtorEq]
    exact a9 rfl (by simp)
end Go.aL
end
section
set_option maxRecDepth 100000
namespace Go.aL
open Go Go.Proofs
theorem Wp (l : List Int) (hl : l.length * 8 ≤ 140737488355328) : Pure Tryz.prog 118 [.aq 0 (ints l)] (.aq 1 (ints l)) := fun H =>
 vf 0 (ints l) H (of_eq_true (lQ l)) (by rw [aw]; exact hl) (bj _ _)
def HA (a : Int) : UInt8 := UInt8.ofNat (IntKind.u8.wrap a).toNat
theorem Sw (a : Int) : AV.int .u8 (IntKind.u8.wrap a) = .int .u8 (HA a).toNat := by
 have h : 0 ≤ IntKind.u8.wrap a ∧ IntKind.u8.wrap a < 256 := by
  simp only [IntKind.wrap]
  have h1 : IntKind.u8.bits = 8 := rfl
  have h2 : IntKind.u8.signed = false := rfl
  rw [h1, h2]
  simp
  omega
 congr 1
 unfold HA
 rw [UInt8.toNat_ofNat']
 omega
def HB (o : gF) : List UInt8 := (o.name ++ ⟨#[40]⟩).data.toList ++ (o.args ++ [o.Az]).map HA
def mw (o : gF) : ByteArray := ⟨(HB o).toArray⟩
theorem Er (l : List UInt8) (a : Int) : bi l ++ [.int .u8 (IntKind.u8.wrap a)] = bi (l ++ [HA a]) := by
 rw [Sw]; simp [bi]
theorem HC (l : List UInt8) : (bi l).length = l.length := by simp [bi]
theorem Sx (s : ByteArray) (φ : AV → Prop) : eM 1 (.str s) φ = (s.size < 9223372036854775808 ∧ φ (.aq 1 (bi s.data.toList))) := _root_.id rfl
theorem Sy (o : Nat) (l : List UInt8) (φ : AV → Prop) (h : φ (.str ⟨l.toArray⟩)) : jr (.aq o (bi l)) φ := ⟨l, rfl, h⟩
theorem Sz (k k' : IntKind) (n : Int) (φ : AV → Prop) : cr k (.int k' n) φ = φ (.int k (k.wrap n)) := _root_.id rfl
theorem Wq (o : gF) (h1 : o.name.size ≤ 32) (h2 : o.args.length ≤ 8) : Pure Tryz.prog 144 [o.av] (.str (mw o)) := by
 refine fun H => OQ.calls rfl ?_
 simp only [I3, OP]
 have cZ : (⟨#[40]⟩ : ByteArray).size = 1 := rfl
 have hs2 : (o.name ++ ⟨#[40]⟩ : ByteArray).size = o.name.size + 1 := by rw [ByteArray.size_append, cZ]
 have hln : (o.name ++ ⟨#[40]⟩ : ByteArray).data.toList.length = o.name.size + 1 := hs2
 simp +contextual only [aC, Sx, cZ, hs2, sZ, Nat.reduceEqDiff, Nat.reduceAdd, ↓reduceIte]
 refine ⟨by omega, by omega, aI (Wp o.args (by omega)) ?_⟩
 simp +contextual only [aC, m9, ok_int, rE, sZ, Nat.reduceEqDiff, Nat.reduceAdd, ↓reduceIte]
 refine ⟨by omega, ?_⟩
 generalize hv : o.args ++ [o.Az] = vs
 have pH : vs.length ≤ 9 := by rw [← hv]; simp; omega
 have hk : mw o = ⟨((o.name ++ ⟨#[40]⟩ : ByteArray).data.toList ++ vs.map HA).toArray⟩ := by rw [mw, HB, hv]
 rw [hk]
 generalize (o.name ++ ⟨#[40]⟩ : ByteArray).data.toList = nm at *
 refine aD vs.length (fun _ => True)
  (fun i => [(3, .aq 1 (bi (nm ++ (vs.take i).map HA))), (16, .aq 1 (ints vs)), (17, .int .i64 vs.length), (18, .int .i64 i)]) (fun _ => H) ⟨trivial, aH (by simp) rfl⟩ fun i hi hI => ?_
 simp +contextual only [sZ, Nat.reduceEqDiff, ↓reduceIte, reduceCtorEq]
 refine ⟨fun a8 => ⟨b7 a8, ?_⟩, fun jL => ?_⟩
 ·have a8 := b7 a8
  simp +contextual only [Sz, m9, ok_int, Er, HC, sZ, Nat.reduceEqDiff, Nat.reduceAdd, ↓reduceIte]
  refine ⟨by simp; omega, i + 1, a8, by omega, aH ?_ rfl⟩
  rw [ax i (by omega), List.take_add_one, List.map_append, ← List.append_assoc]
  simp [a8]
 ·rw [List.take_of_length_le (dl jL)]
  refine Sy 0 _ _ ?_
  simp +contextual only [sZ]
  exact a9 rfl rfl
instance : LawfulBEq ByteArray where
 rfl := by intro a; rw [yN]; simp
 eq_of_beq := by intro a b h; rw [yN] at h; exact of_decide_eq_true h
def oM (vs : List ByteArray) : List (AV × AV) := vs.map fun v => (.str v, .bool true)
theorem nu (n : ByteArray) : ∀ (vs : List ByteArray) (i : Nat), (n ∈ vs → ∃ j, dM 1 (.str n) (oM vs) i = some (some (j, .bool true))) ∧ (n ∉ vs → dM 1 (.str n) (oM vs) i = some none)
 | [], i => ⟨fun h => (by cases h), fun _ => rfl⟩
 | v :: r, i => by
   have ih := nu n r (i + 1)
   simp only [oM, List.map_cons, dM, cP]
   by_cases hv : n = v
   ·subst hv
    simp
   ·simp only [List.mem_cons, hv, false_or]
    exact ih
theorem qE (n : ByteArray) (vs : List ByteArray) (φ : AV → Prop) : g9 (some (.map (oM vs))) 1 (.bool false) (.str n) false φ = φ (.bool (decide (n ∈ vs))) := by
 have h := nu n vs 0
 unfold g9
 by_cases hn : n ∈ vs
 ·obtain ⟨j, hj⟩ := h.1 hn
  simp [hj, hn, tO]
 ·simp [h.2 hn, hn, cP, aT, bk.aT, tO]
theorem Cr {n : ByteArray} {vs : List ByteArray} (hn : n ∉ vs) (id : Nat) (H : List aa) (K : List aa → Prop) : hJ (some (.map (oM vs))) 1 id (.str n) (.bool true) H K = K (H.set id (.map (oM (vs ++ [n])))) := by
 have h := (nu n vs 0).2 hn
 unfold hJ
 simp only [h]
 simp [cP, I8, zB, Fj, oM, aT, bk.aT, tO]
def lX : List ByteArray → List ByteArray → Bool
 | [], _ => true
 | s :: r, seen => if oL s = true ∧ ¬ 0 ≤ NV s ∧ s ∉ seen then lX r (seen ++ [s]) else false
def Aa (n : Int) : List gF → List ByteArray → Bool
 | [], _ => true
 | o :: r, seen => if qD o n = true ∧ mw o ∉ seen then Aa n r (seen ++ [mw o]) else false
def nv (s : Sg) : Bool := decide ((s.aY.length : Int) ≤ 64) && decide ((s.ops.length : Int) ≤ 256) && lX s.aY [] && Aa s.aY.length s.ops []
theorem sX {l : List ByteArray} {i : Nat} (h : i < l.length) (seen : List ByteArray) : lX (l.drop i) seen = if oL (l.getD i default) = true ∧ ¬ 0 ≤ NV (l.getD i default) ∧ l.getD i default ∉ seen then lX (l.drop (i + 1)) (seen ++ [l.getD i default]) else false := by
 rw [List.drop_eq_getElem_cons h, lX]
 have e : l.getD i default = l[i] := by simp [h]
 rw [e]
theorem yj {n : Int} {l : List gF} {i : Nat} (h : i < l.length) (seen : List ByteArray) : Aa n (l.drop i) seen = if qD (l.getD i default) n = true ∧ mw (l.getD i default) ∉ seen then Aa n (l.drop (i + 1)) (seen ++ [mw (l.getD i default)]) else false := by
 rw [List.drop_eq_getElem_cons h, Aa]
 have e : l.getD i default = l[i] := by simp [h]
 rw [e]
theorem Es {o : gF} {n : Int} (h : qD o n = true) : o.name.size ≤ 32 ∧ o.args.length ≤ 8 ∧ Hz n o.Az = true ∧ ∀ a ∈ o.args, Hz n a = true := by
 simp only [qD, oL, Bool.and_eq_true, Bool.not_eq_true', decide_eq_false_iff_not, decide_eq_true_eq] at h
 obtain ⟨⟨⟨_, h1⟩, _⟩, _, _, h2, h3, h4⟩ := h
 refine ⟨by omega, by omega, h3, fun a ha => ?_⟩
 cases hx : Hz n a with
 | true => rfl
 | false =>
   rw [Bool.eq_false_iff] at h4
   exact absurd (List.any_eq_true.2 ⟨a, ha, by rw [hx]; rfl⟩) h4
theorem c81 (s : Sg) : Pure Tryz.prog 81 [s.av] (.int .i64 (if nv s = true then 0 else 40)) := by
 refine fun H => Ue.calls rfl ?_
 simp only [Qr, Ud]
 have bad : ∀ {G : List aa} {e : Bool}, e = false → G.take H.length = H → nv s = e → bV H.length [RX.t 2] [(2, AV.int IntKind.i64 40)] G fun r H' => r = AV.int IntKind.i64 (if nv s = true then 0 else 40) ∧ H' = H := by
  intro G e he hG hc
  rw [hc, he]
  exact NC hG rfl rfl ⟨rfl, rfl⟩
 simp +contextual only [aC, sZ, Nat.reduceEqDiff, Nat.reduceAdd, ↓reduceIte, reduceCtorEq]
 refine fun _ => ⟨fun h1 _ => ⟨fun h2 => ?_, fun h2 => ?_⟩, fun h1 => ?_⟩
 ·have Wr : ¬ (s.ops.length : Int) ≤ 256 := by omega
  exact bad rfl (by simp) (by rw [nv, decide_eq_false Wr]; simp)
 ·refine aO s.aY.length (fun i (seen : List ByteArray) => lX (s.aY.drop i) seen = lX s.aY [])
   (fun i seen => [(1, .aj s.av), (3, .map H.length), (21, .aq 0 (strs s.aY)), (22, .int .i64 s.aY.length), (23, .int .i64 i)]) (fun i seen => H ++ [.map (oM seen)]) [] ⟨rfl, aB _ _ _⟩ fun i seen hi hI => ?_
  simp +contextual only [aC, sZ, Nat.reduceEqDiff, Nat.reduceAdd, ↓reduceIte]
  refine ⟨fun a8 => ⟨b7 a8, ?_⟩, fun jL => ?_⟩
  ·have a8 := b7 a8
   rw [sX a8] at hI
   generalize s.aY.getD i default = x at *
   refine af (Wm x) ?_
   cases hn : oL x with
   | false =>
     rw [hn, if_neg (by simp)] at hI
     simp +contextual only [sZ, Nat.reduceEqDiff, ↓reduceIte, reduceCtorEq]
     exact bad rfl (by simp) (by simp [nv, ← hI])
   | true =>
     rw [hn] at hI
     simp +contextual only [sZ, Nat.reduceEqDiff, Nat.reduceAdd, ↓reduceIte]
     refine af (ZB x) ?_
     by_cases hu : 0 ≤ NV x
     ·rw [if_neg (fun h => h.2.1 hu)] at hI
      simp +contextual only [hu, sZ, Nat.reduceEqDiff, ↓reduceIte, reduceCtorEq]
      exact bad rfl (by simp) (by simp [nv, ← hI])
     ·by_cases hm : x ∈ seen
      ·rw [if_neg (fun h => h.2.2 hm)] at hI
       simp +contextual only [hu, qE, hm, sZ, Nat.reduceEqDiff, ↓reduceIte, reduceCtorEq]
       exact bad rfl (by simp) (by simp [nv, ← hI])
      ·rw [if_pos ⟨rfl, hu, hm⟩] at hI
       simp +contextual only [hu, qE, hm, Cr hm, sZ, Nat.reduceEqDiff, ↓reduceIte]
       exact ⟨i + 1, seen ++ [x], ⟨a8, hI⟩, by omega, aH (by rw [ax i (by omega)]) rfl⟩
  ·have hs : lX s.aY [] = true := by
    rw [← hI, List.drop_of_length_le (dl jL)]; rfl
   have hc : nv s = Aa s.aY.length s.ops [] := by simp [nv, h1, h2, hs]
   clear hI
   simp +contextual only [sZ]
   refine fun _ => aO s.ops.length (fun i (seen2 : List ByteArray) => Aa s.aY.length (s.ops.drop i) seen2 = Aa s.aY.length s.ops [])
    (fun i seen2 => [(1, .aj s.av), (6, .map (H.length + 1)), (44, .aq 0 (ow s.ops)), (45, .int .i64 s.ops.length), (46, .int .i64 i)]) (fun i seen2 => H ++ [.map (oM seen), .map (oM seen2)]) [] ⟨rfl, aB _ _ _⟩ fun i seen2 hi hI => ?_
   simp +contextual only [aC, sZ, Nat.reduceEqDiff, Nat.reduceAdd, ↓reduceIte, reduceCtorEq]
   refine ⟨fun a8 => ⟨b7 a8, ?_⟩, fun jL => ?_⟩
   ·have a8 := b7 a8
    rw [yj a8] at hI
    generalize s.ops.getD i default = x at *
    refine fun _ => af (ZG x _) ?_
    cases hg : qD x s.aY.length with
    | false =>
      rw [hg, if_neg (by simp)] at hI
      simp +contextual only [sZ, Nat.reduceEqDiff, ↓reduceIte, reduceCtorEq]
      exact bad rfl (by simp) (by rw [hc, ← hI])
    | true =>
      rw [hg] at hI
      have X1 := Es hg
      simp +contextual only [aC, sZ, Nat.reduceEqDiff, Nat.reduceAdd, ↓reduceIte]
      refine af (Wq x X1.1 X1.2.1) ?_
      by_cases hm : mw x ∈ seen2
      ·rw [if_neg (fun h => h.2 hm)] at hI
       simp +contextual only [qE, hm, sZ, Nat.reduceEqDiff, ↓reduceIte, reduceCtorEq]
       exact bad rfl (by simp) (by rw [hc, ← hI])
      ·rw [if_pos ⟨rfl, hm⟩] at hI
       simp +contextual only [aC, qE, hm, sZ, Nat.reduceEqDiff, Nat.reduceAdd, ↓reduceIte]
       refine af (Wq x X1.1 X1.2.1) ?_
       simp +contextual only [Cr hm, sZ, Nat.reduceEqDiff, ↓reduceIte]
       exact ⟨i + 1, seen2 ++ [mw x], ⟨a8, hI⟩, by omega, aH (by rw [ax i (by omega)]) rfl⟩
   ·rw [List.drop_of_length_le (dl jL)] at hI
    exact NC (by simp) rfl rfl ⟨by rw [hc, ← hI]; rfl, rfl⟩
 ·have YF : ¬ (s.aY.length : Int) ≤ 64 := by omega
  exact bad rfl (by simp) (by rw [nv, decide_eq_false YF]; simp)
end Go.aL
end
section
set_option maxRecDepth 100000
namespace Go.aL
open Go Go.Proofs Go.fw
def gO (w : List (Int × Int)) : List (AV × AV) := w.map fun p => (.int .i64 p.1, .int .i64 p.2)
theorem Et (n : Int) : ∀ (w : List (Int × Int)) (i : Nat), (∃ j s, w[j]? = some (n, s) ∧ dM 0 (.int .i64 n) (gO w) i = some (some (i + j, .int .i64 s))) ∨ ((∀ p ∈ w, p.1 ≠ n) ∧ dM 0 (.int .i64 n) (gO w) i = some none)
 | [], i => .inr ⟨(fun p h => by cases h), rfl⟩
 | (a, b) :: r, i => by
   have ih := Et n r (i + 1)
   simp only [gO, List.map_cons, dM, cP, if_true]
   by_cases h : n = a
   ·subst h
    exact .inl ⟨0, b, rfl, by simp⟩
   ·simp only [decide_eq_false h]
    rcases ih with ⟨j, s, h1, h2⟩ | ⟨h1, h2⟩
    ·exact .inl ⟨j + 1, s, h1, by rw [show i + (j + 1) = i + 1 + j by omega]; exact h2⟩
    ·refine .inr ⟨fun p hp => ?_, h2⟩
     rcases List.mem_cons.1 hp with rfl | hp
     ·exact fun e => h e.symm
     ·exact h1 p hp
theorem Ws {n : Int} {w : List (Int × Int)} {φ : AV → Prop} (h1 : ∀ s, (n, s) ∈ w → φ (.tuple [.int .i64 s, .bool true])) (h2 : (∀ p ∈ w, p.1 ≠ n) → φ (.tuple [.int .i64 0, .bool false])) : g9 (some (.map (gO w))) 0 (.int .i64 0) (.int .i64 n) true φ := by
 unfold g9
 rcases Et n w 0 with ⟨j, s, h3, h4⟩ | ⟨h3, h4⟩
 ·simp only [h4]; exact h1 s (List.mem_of_getElem? h3)
 ·simp only [h4]; exact ⟨by simp [cP], h2 h3⟩
theorem msW {n s : Int} {w : List (Int × Int)} {id : Nat} {H : List aa} {K : List aa → Prop} (h : ∀ w', (∀ p ∈ w', p ∈ w ∨ p = (n, s)) → (∀ p ∈ w, ∃ q ∈ w', q.1 = p.1) → (n, s) ∈ w' → K (H.set id (.map (gO w')))) : hJ (some (.map (gO w))) 0 id (.int .i64 n) (.int .i64 s) H K := by
 unfold hJ
 refine ⟨rfl, rfl, rfl, ?_⟩
 have ec : aT (.int .i64 s) = .int .i64 s := rfl
 rcases Et n w 0 with ⟨j, x, h3, h4⟩ | ⟨h3, h4⟩
 ·simp only [h4, ec, Nat.zero_add]
  have e : (gO w).set j (.int .i64 n, .int .i64 s) = gO (w.set j (n, s)) := by simp [gO, List.map_set]
  rw [e]
  have hj := (List.getElem?_eq_some_iff.1 h3).1
  refine h _ (fun p hp => List.mem_or_eq_of_mem_set hp) (fun p hp => ?_) (List.mem_iff_getElem?.2 ⟨j, by rw [List.getElem?_set_self hj]⟩)
  obtain ⟨m, hm⟩ := List.mem_iff_getElem?.1 hp
  by_cases e : j = m
  ·subst e
   rw [h3] at hm; cases hm
   exact ⟨(n, s), List.mem_iff_getElem?.2 ⟨j, by rw [List.getElem?_set_self hj]⟩, rfl⟩
  ·exact ⟨p, List.mem_iff_getElem?.2 ⟨m, by rw [List.getElem?_set_ne e]; exact hm⟩, rfl⟩
 ·simp only [h4, ec]
  refine ⟨by simp [cP], ?_⟩
  have e : gO w ++ [(AV.int .i64 n, AV.int .i64 s)] = gO (w ++ [(n, s)]) := by simp [gO]
  rw [e]
  exact h _ (fun p hp => by simpa using hp) (fun p hp => ⟨p, List.mem_append.2 (.inl hp), rfl⟩) (by simp)
structure NW (ps ss : List Int) (i : Nat) : Prop where
 CW : ∀ j, j < i → 0 ≤ ps.getD j 0 ∧ ps.getD j 0 ≤ 255 ∧ 1 ≤ ss.getD j 0 ∧ ss.getD j 0 ≤ 3
 st : ∀ j k, j < i → k < i → ps.getD j 0 = ps.getD k 0 → ss.getD j 0 = ss.getD k 0
def dP (s : Sg) (ps ss : List Int) : Prop := ps.length = s.ops.length ∧ ss.length = s.ops.length ∧ NW ps ss ps.length
theorem dP.va {s : Sg} {ps ss : List Int} (h : dP s ps ss) : Va ps ss := ⟨by rw [h.2.1, h.1], h.2.2.st⟩
open Classical in
noncomputable def iS (s : Sg) (ps ss : List Int) : Int := if nv s = true then (if dP s ps ss then 0 else 60) else 40
theorem tw (ps ss : List Int) (φ : AV → Prop) : al 0 none (.aj (eE ps ss)) φ = φ (.aj (.aq 0 (ints ps))) := by simp [al, apart, eE, AV.cells, AV.one]
theorem vJ (ps ss : List Int) (φ : AV → Prop) : al 1 none (.aj (eE ps ss)) φ = φ (.aj (.aq 0 (ints ss))) := by simp [al, apart, eE, AV.cells, AV.one]
theorem bh (ps ss : List Int) : (eE ps ss).val = true ∧ (eE ps ss).cells.length = 2 ∧ (eE ps ss).cells.all AV.one = true ∧ (eE ps ss).ae = eE ps ss ∧ (eE ps ss).drop = eE ps ss ∧ ∀ n, (eE ps ss).aZ n = true :=
 ⟨rfl, rfl, rfl, rfl, rfl, fun n => by simp [eE, vh, bM, cW, cR, bj]⟩
theorem cC (ps ss : List Int) (H : List aa) (φ : AV → Prop) : aS (some 2) (.aj (eE ps ss)) H φ = φ (eE ps ss) := NQ _ _ _ _
theorem ZK (s : Sg) (ps ss : List Int) : Pure Tryz.prog 24 [s.av, eE ps ss] (.int .i64 (iS s ps ss)) := by
 refine fun H => k24.2.calls rfl ?_
 simp only [k24, aJ]
 obtain ⟨q1, q2, q3, q4, q5, q6⟩ := bh ps ss
 simp +contextual only [aC, q1, sZ, Nat.reduceEqDiff, Nat.reduceAdd, ↓reduceIte, reduceCtorEq]
 refine af (c81 s) ?_
 cases hs : nv s with
 | false =>
   have e : iS s ps ss = 40 := by rw [iS, if_neg (by rw [hs]; simp)]
   rw [e]
   simp +contextual only [Bool.false_eq_true, sZ, Nat.reduceEqDiff, ↓reduceIte, reduceCtorEq, Int.reduceEq]
   exact a9 rfl rfl
 | true =>
   simp +contextual only [aC, tw, vJ, aw, sZ, Nat.reduceEqDiff, ↓reduceIte, reduceCtorEq]
   have bad : ¬ dP s ps ss → iS s ps ss = 60 := fun h => by rw [iS, if_pos hs, if_neg h]
   have SA : dP s ps ss → iS s ps ss = 0 := fun h => by rw [iS, if_pos hs, if_pos h]
   have ret60 : ∀ (X : List aa), ¬ dP s ps ss → bV H.length [.t 4] [(4, .int .i64 60)] (H ++ X) fun r H' => r = .int .i64 (iS s ps ss) ∧ H' = H := fun X h => by rw [bad h]; exact JP rfl rfl
   have ret60' : ¬ dP s ps ss → bV H.length [.t 4] [(4, .int .i64 60)] H fun r H' => r = .int .i64 (iS s ps ss) ∧ H' = H := fun h => by rw [bad h]; exact a9 rfl rfl
   refine fun _ _ => ⟨fun hl => ?_, fun hl => ?_⟩
   rotate_left
   ·first | exact ret60' fun h => hl (by omega) | (refine ret60' fun h => ?_; have := h.1; omega)
   refine fun _ => ⟨fun nJ => ret60' fun h => nJ (by have := h.2.1; omega), fun nJ => ?_⟩
   have g0 : ∀ w, (H ++ [aa.map (gO w)])[H.length]? = some (.map (gO w)) := fun w => by simp
   have gs : ∀ w w', (H ++ [aa.map (gO w)]).set H.length (.map (gO w')) = H ++ [.map (gO w')] := fun w w' => by simp
   refine aO ps.length (fun i (w : List (Int × Int)) => NW ps ss i ∧ (∀ p ∈ w, ∃ j, j < i ∧ ps.getD j 0 = p.1 ∧ ss.getD j 0 = p.2) ∧ ∀ j, j < i → ∃ p ∈ w, p.1 = ps.getD j 0)
    (fun i w => [(3, .aj (eE ps ss)), (6, .map H.length), (35, .aq 0 (ints ps)), (36, .int .i64 s.ops.length), (37, .int .i64 i)]) (fun i w => H ++ [.map (gO w)]) []
    ⟨⟨⟨fun j h => by omega, fun j k h => by omega⟩, (fun p h => by cases h), fun j h => by omega⟩, aB _ _ _⟩ fun i w hi hI => ?_
   ·obtain ⟨hu, hw1, hw2⟩ := hI
    have nbad : ∀ j, j < ps.length → ¬ (0 ≤ ps.getD j 0 ∧ ps.getD j 0 ≤ 255 ∧ 1 ≤ ss.getD j 0 ∧ ss.getD j 0 ≤ 3) → ¬ dP s ps ss := fun j hj h h' => h (h'.2.2.CW j hj)
    by_cases Lu : (i : Int) < s.ops.length
    ·have SC : i < ps.length := by omega
     simp +contextual only [vJ, cw, Int.toNat_natCast, g0, Lu, decide_true, sZ, Nat.reduceEqDiff, ↓reduceIte]
     generalize hp : ps.getD i 0 = p
     generalize hq : ss.getD i 0 = q
     refine ⟨by omega, ⟨by omega, by omega⟩, ?_⟩
     by_cases r1 : p < 0
     ·refine Ws (fun o _ => ?_) (fun _ => ?_)
      all_goals
       simp +contextual only [r1, decide_true, sZ, Nat.reduceEqDiff, Nat.reduceAdd, Nat.reduceLT, ↓reduceIte, reduceCtorEq]
       exact ret60 _ (nbad i SC (by rw [hp]; omega))
     ·by_cases r2 : 255 < p
      ·refine Ws (fun o _ => ?_) (fun _ => ?_)
       all_goals
        simp +contextual only [r1, r2, decide_true, decide_false, sZ, Nat.reduceEqDiff, Nat.reduceAdd, Nat.reduceLT, ↓reduceIte, reduceCtorEq]
        exact ret60 _ (nbad i SC (by rw [hp]; omega))
      ·by_cases r3 : q < 1
       ·refine Ws (fun o _ => ?_) (fun _ => ?_)
        all_goals
         simp +contextual only [r1, r2, r3, decide_true, decide_false, sZ, Nat.reduceEqDiff, Nat.reduceAdd, Nat.reduceLT, ↓reduceIte, reduceCtorEq]
         exact ret60 _ (nbad i SC (by rw [hq]; omega))
       ·by_cases r4 : 3 < q
        ·refine Ws (fun o _ => ?_) (fun _ => ?_)
         all_goals
          simp +contextual only [r1, r2, r3, r4, decide_true, decide_false, sZ, Nat.reduceEqDiff, Nat.reduceAdd, Nat.reduceLT, ↓reduceIte, reduceCtorEq]
          exact ret60 _ (nbad i SC (by rw [hq]; omega))
        ·have ZL : 0 ≤ p ∧ p ≤ 255 ∧ 1 ≤ q ∧ q ≤ 3 := ⟨by omega, by omega, by omega, by omega⟩
         have next : (∀ j, j < i → ps.getD j 0 = p → ss.getD j 0 = q) → ∀ w' : List (Int × Int), (∀ x ∈ w', x ∈ w ∨ x = (p, q)) → (∀ x ∈ w, ∃ y ∈ w', y.1 = x.1) → (p, q) ∈ w' → NW ps ss (i + 1) ∧ (∀ x ∈ w', ∃ j, j < i + 1 ∧ ps.getD j 0 = x.1 ∧ ss.getD j 0 = x.2) ∧ ∀ j, j < i + 1 → ∃ x ∈ w', x.1 = ps.getD j 0 := by
          intro hsame w' m1 m2 m3
          refine ⟨⟨fun j hj => ?_, fun j k hj hk he => ?_⟩, fun x hx => ?_, fun j hj => ?_⟩
          ·by_cases e : j = i
           ·subst e; rw [hp, hq]; exact ZL
           ·exact hu.CW j (by omega)
          ·by_cases e : j = i
           ·by_cases e' : k = i
            ·rw [e, e']
            ·subst e; rw [hp] at he; rw [hq]; exact (hsame k (by omega) he.symm).symm
           ·by_cases e' : k = i
            ·subst e'; rw [hp] at he; rw [hq]; exact hsame j (by omega) he
            ·exact hu.st j k (by omega) (by omega) he
          ·rcases m1 x hx with h | rfl
           ·obtain ⟨j, h1, h2, h3⟩ := hw1 x h; exact ⟨j, by omega, h2, h3⟩
           ·exact ⟨i, by omega, hp, hq⟩
          ·by_cases e : j = i
           ·subst e; rw [hp]; exact ⟨_, m3, rfl⟩
           ·obtain ⟨x, h1, h2⟩ := hw2 j (by omega)
            obtain ⟨y, h3, h4⟩ := m2 x h1
            exact ⟨y, h3, h4.trans h2⟩
         refine Ws (fun o ho => ?_) (fun jM => ?_)
         ·obtain ⟨j0, hj1, ZM, ZN⟩ := hw1 _ ho
          simp only at ZM ZN
          by_cases VW : o = q
          ·subst VW
           have d0 : decide (¬ o = o) = false := by simp
           simp +contextual only [r1, r2, r3, r4, decide_false, g0, sZ, Nat.reduceEqDiff, Nat.reduceAdd, Nat.reduceLT, ↓reduceIte]
           refine msW fun w' m1 m2 m3 => ?_
           simp +contextual only [gs, sZ, Nat.reduceEqDiff, ↓reduceIte]
           refine ⟨i + 1, w', ⟨SC, next (fun j hj he => ?_) w' m1 m2 m3⟩, by omega, aH (by rw [ax i (by omega)]) rfl⟩
           rw [hu.st j j0 hj hj1 (he.trans ZM.symm), ZN]
          ·have d0 : decide (¬ o = q) = true := by simp [VW]
           simp +contextual only [r1, r2, r3, r4, decide_false, d0, sZ, Nat.reduceEqDiff, Nat.reduceAdd, Nat.reduceLT, ↓reduceIte, reduceCtorEq]
           exact ret60 _ fun h => VW (by rw [← ZN, ← hq]; exact h.2.2.st j0 i (by omega) SC (ZM.trans hp.symm))
         ·simp +contextual only [r1, r2, r3, r4, decide_false, g0, sZ, Nat.reduceEqDiff, Nat.reduceAdd, Nat.reduceLT, ↓reduceIte]
          refine msW fun w' m1 m2 m3 => ?_
          simp +contextual only [gs, sZ, Nat.reduceEqDiff, ↓reduceIte]
          refine ⟨i + 1, w', ⟨SC, next (fun j hj he => ?_) w' m1 m2 m3⟩, by omega, aH (by rw [ax i (by omega)]) rfl⟩
          obtain ⟨x, h1, h2⟩ := hw2 j hj
          exact absurd (h2.trans he) (jM x h1)
    ·have Zn : i = ps.length := by omega
     subst Zn
     rw [SA ⟨by omega, by omega, hu⟩]
     simp +contextual only [Lu, decide_false, sZ, Nat.reduceEqDiff, ↓reduceIte, reduceCtorEq]
     exact JP rfl rfl
end Go.aL
end
section
set_option maxRecDepth 100000
namespace Go.aL
open Go Go.Proofs Go.fw
theorem Wt (g : Nat) (cz : List AV) (cF : cz.map AV.ae = cz) (p : T → Bool) (l : List T) (hf : ∀ x ∈ l, Pure Tryz.prog g ([x.av] ++ cz) (.bool (p x))) :
 Pure Tryz.prog 114 [.aq 0 (cK l), .fn (.func g) [] cz] (.int .i64 (rG p l 0)) := by
 refine fun H => Bs.2.calls rfl ?_
 simp only [Bs, aJ]
 simp +contextual only [sZ, Nat.reduceEqDiff, Nat.reduceAdd, ↓reduceIte, reduceCtorEq]
 intro hl
 refine aD l.length (fun i => rG p (l.drop i) i = rG p l 0) (fun i => [(0, .aq 0 (cK l)), (1, .fn (.func g) [] cz), (7, .int .i64 l.length), (8, .int .i64 i)]) (fun _ => H) ⟨rfl, aB _ _ _⟩ fun i hi hI => ?_
 simp +contextual only [cF, sZ, Nat.reduceEqDiff, Nat.reduceAdd, ↓reduceIte, reduceCtorEq]
 refine ⟨fun a8 => ?_, fun jL => ?_⟩
 ·have a8 := b7 a8
  rw [xU a8] at hI
  refine ⟨a8, af (hf _ (iu a8)) ?_⟩
  cases hb : p (l.getD i default) with
  | true =>
    rw [if_pos hb] at hI
    simp +contextual only [sZ, Nat.reduceEqDiff, ↓reduceIte, reduceCtorEq]
    exact a9 rfl (by rw [← hI])
  | false =>
    rw [if_neg (by rw [hb]; simp)] at hI
    simp +contextual only [sZ, Nat.reduceEqDiff, ↓reduceIte, reduceCtorEq]
    exact ⟨i + 1, ⟨a8, hI⟩, by omega, aH (by rw [ax i (by omega)]) rfl⟩
 ·rw [List.drop_of_length_le (dl jL)] at hI
  exact a9 rfl (by rw [← hI]; rfl)
theorem SE (g : Nat) (cz : List AV) (cF : cz.map AV.ae = cz) (p : T → Bool) (l : List T) (hf : ∀ x ∈ l, Pure Tryz.prog g ([x.av] ++ cz) (.bool (p x))) :
 Pure Tryz.prog 53 [.aq 0 (cK l), .fn (.func g) [] cz] (.bool (l.any p)) := by
 refine fun H => OK.2.calls rfl ?_
 simp only [OK, aJ]
 simp +contextual only [sZ, Nat.reduceEqDiff, Nat.reduceAdd, ↓reduceIte, reduceCtorEq]
 refine af (Wt g cz cF p l hf) ?_
 simp +contextual only [sZ, ↓reduceIte, reduceCtorEq]
 exact a9 rfl (by rw [vw p l 0 (by omega)])
theorem ZO (x : T) : Pure Tryz.prog 130 [x.av] (.int .i64 (if x.tree = true then 0 else 4)) := by
 refine fun H => Ma.2.calls rfl ?_
 simp only [Ma, aJ]
 simp +contextual only [sZ, Nat.reduceEqDiff, Nat.reduceAdd, ↓reduceIte]
 refine af (Y8 x) ?_
 cases h : x.tree with
 | true => simp +contextual only [Bool.not_true, sZ, ↓reduceIte, reduceCtorEq]; exact a9 rfl rfl
 | false => simp +contextual only [Bool.not_false, sZ, ↓reduceIte, reduceCtorEq]; exact a9 rfl rfl
mutual
def nw (s : Sg) : T → Bool
 | .mk k n l => !(decide (k = 2) && (decide ((s.ops.length : Int) ≤ n) || !decide ((l.length : Int) = ((s.ops.getD n.toNat default).args.length : Nat)))) && X2 s l
def X2 (s : Sg) : List T → Bool
 | [] => true
 | x :: r => nw s x && X2 s r
end
theorem tX (s : Sg) : ∀ l, X2 s l = !(l.any fun x => !nw s x)
 | [] => rfl
 | x :: r => by rw [X2, tX s r, List.any_cons]; cases nw s x <;> simp
theorem ZP (s : Sg) : ∀ t : T, t.shaped = true → Pure Tryz.prog 131 [s.av, t.av] (.bool (nw s t)) := by
 suffices h : ∀ N t, wt t ≤ N → t.shaped = true → Pure Tryz.prog 131 [s.av, t.av] (.bool (nw s t)) from fun t ht => h _ t (Nat.le_refl _) ht
 intro N
 induction N with
 | zero => intro t h; have := fQ t; omega
 | succ N ih =>
 intro t hN hs H
 have hk := nk hs
 have c182 : ∀ x ∈ t.l, Pure Tryz.prog 182 ([x.av] ++ [.aj s.av]) (.bool (!nw s x)) := by
  intro x hx H
  refine UW.2.calls rfl ?_
  simp only [UW, aJ]
  simp +contextual only [aC, sZ, Nat.reduceEqDiff, Nat.reduceAdd, ↓reduceIte, reduceCtorEq]
  refine af (ih x (by have := bU hx; omega) (hk.2 x hx)) ?_
  simp +contextual only [sZ, ↓reduceIte, reduceCtorEq]
  exact a9 rfl rfl
 have hn : 0 ≤ t.n := by
  rw [T.fU] at hs
  simp only [Bool.and_eq_true, Bool.not_eq_true', Bool.or_eq_false_iff, decide_eq_false_iff_not] at hs
  have := hs.1.1.1.1
  omega
 obtain ⟨m, hm⟩ := Int.eq_ofNat_of_zero_le hn
 refine Uu.2.calls rfl ?_
 simp only [Uu, aJ]
 have e : nw s t = (!(decide (t.k = 2) && (decide ((s.ops.length : Int) ≤ t.n) || !decide ((t.l.length : Int) = ((s.ops.getD t.n.toNat default).args.length : Nat)))) && !(t.l.any fun x => !nw s x)) := by
  rw [← tX]; cases t; rfl
 have fin : (!(decide (t.k = 2) && (decide ((s.ops.length : Int) ≤ t.n) || !decide ((t.l.length : Int) = ((s.ops.getD t.n.toNat default).args.length : Nat))))) = false → bV H.length [.t 4] [(4, .bool false)] H fun r H' => r = .bool (nw s t) ∧ H' = H := by
  intro h
  rw [e, h]; exact a9 rfl rfl
 by_cases h2 : t.k = 2
 ·by_cases h3 : (s.ops.length : Int) ≤ t.n
  ·simp +contextual only [aC, h2, h3, decide_true, sZ, Nat.reduceEqDiff, Nat.reduceAdd, ↓reduceIte, reduceCtorEq]
   exact fin (by simp [h2, h3])
  ·have NX : m < s.ops.length := by omega
   have Iy : ¬ (s.ops.length : Int) ≤ (m : Int) := by omega
   have em : t.n.toNat = m := by omega
   by_cases h4 : (t.l.length : Int) = ((s.ops.getD m default).args.length : Nat)
   ·simp +contextual only [aC, h2, Iy, h4, hm, NX, aw, decide_true, decide_false, sZ, Nat.reduceEqDiff, Nat.reduceAdd, ↓reduceIte, reduceCtorEq]
    refine af (SE 182 [.aj s.av] rfl _ t.l c182) ?_
    simp +contextual only [sZ, ↓reduceIte, reduceCtorEq]
    refine a9 rfl ?_
    rw [e, em, h4]
    simp [h2, h3]
   ·simp +contextual only [aC, h2, Iy, h4, hm, NX, aw, decide_true, decide_false, sZ, Nat.reduceEqDiff, Nat.reduceAdd, ↓reduceIte, reduceCtorEq]
    exact fin (by rw [em, decide_eq_true h2, decide_eq_false h3, decide_eq_false h4]; rfl)
 ·simp +contextual only [aC, h2, decide_false, sZ, Nat.reduceEqDiff, Nat.reduceAdd, ↓reduceIte, reduceCtorEq]
  refine af (SE 182 [.aj s.av] rfl _ t.l c182) ?_
  simp +contextual only [sZ, ↓reduceIte, reduceCtorEq]
  refine a9 rfl ?_
  rw [e]
  simp [h2]
noncomputable def gb (s : Sg) (ps ss : List Int) (l : List T) : Int := if iS s ps ss = 0 then (if (l.all fun t => t.tree && nw s t) = true then 0 else 4) else iS s ps ss
theorem HD {p : T → Bool} {l : List T} {i : Nat} (h : i < l.length) : (l.drop i).all p = (p (l.getD i default) && (l.drop (i + 1)).all p) := by
 have e : l.getD i default = l[i] := by simp [h]
 rw [List.drop_eq_getElem_cons h, List.all_cons, e]
theorem Wu (s : Sg) (ps ss : List Int) (l : List T) : Pure Tryz.prog 74 [s.av, eE ps ss, .aq 0 (cK l)] (.int .i64 (gb s ps ss l)) := by
 refine fun H => k74.2.calls rfl ?_
 simp only [k74, aJ]
 obtain ⟨q1, q2, q3, q4, q5, q6⟩ := bh ps ss
 simp +contextual only [aC, q1, q4, cC, sZ, Nat.reduceEqDiff, Nat.reduceAdd, ↓reduceIte, reduceCtorEq]
 refine af (ZK s ps ss) ?_
 by_cases h0 : iS s ps ss = 0
 ·simp +contextual only [h0, sZ, Nat.reduceEqDiff, ↓reduceIte]
  intro _
  refine aD l.length (fun i => l.all (fun t => t.tree && nw s t) = (l.drop i).all fun t => t.tree && nw s t) (fun i => [(3, .aj s.av), (16, .aq 0 (cK l)), (17, .int .i64 l.length), (18, .int .i64 i)]) (fun _ => H) ⟨rfl, aB _ _ _⟩ fun i hi hI => ?_
  by_cases Aw : (i : Int) < l.length
  ·have a8 : i < l.length := by omega
   rw [HD a8] at hI
   simp +contextual only [Aw, decide_true, sZ, Nat.reduceEqDiff, Nat.reduceAdd, ↓reduceIte]
   refine ⟨a8, af (ZO _) ?_⟩
   cases ht : (l.getD i default).tree with
   | false =>
     rw [ht, Bool.false_and, Bool.false_and] at hI
     simp +contextual only [sZ, Nat.reduceEqDiff, ↓reduceIte, reduceCtorEq, Int.reduceEq]
     refine a9 rfl ?_
     rw [gb, if_pos h0, hI, if_neg (by simp)]
   | true =>
     rw [ht, Bool.true_and] at hI
     simp +contextual only [aC, sZ, Nat.reduceEqDiff, Nat.reduceAdd, ↓reduceIte]
     refine af (ZP s _ ((T.kM _).1 ht).2.2) ?_
     cases ho : nw s (l.getD i default) with
     | false =>
       rw [ho, Bool.false_and] at hI
       simp +contextual only [Bool.not_false, sZ, Nat.reduceEqDiff, ↓reduceIte, reduceCtorEq]
       refine a9 rfl ?_
       rw [gb, if_pos h0, hI, if_neg (by simp)]
     | true =>
       rw [ho, Bool.true_and] at hI
       simp +contextual only [Bool.not_true, sZ, Nat.reduceEqDiff, ↓reduceIte]
       exact ⟨i + 1, ⟨a8, hI⟩, by omega, aH (by rw [ax i (by omega)]) rfl⟩
  ·simp +contextual only [Aw, decide_false, sZ, Nat.reduceEqDiff, ↓reduceIte, reduceCtorEq]
   rw [List.drop_of_length_le (by omega)] at hI
   refine a9 rfl ?_
   rw [gb, if_pos h0, hI]; rfl
 ·simp +contextual only [h0, sZ, Nat.reduceEqDiff, ↓reduceIte, reduceCtorEq]
  refine a9 rfl ?_
  rw [gb, if_neg h0]
theorem SF {s : Sg} : ∀ t : T, t.shaped = true → nw s t = true → pD (fun n => 0 ≤ n ∧ n < s.ops.length) t := by
 suffices h : ∀ N t, wt t ≤ N → t.shaped = true → nw s t = true → pD (fun n => 0 ≤ n ∧ n < s.ops.length) t from fun t => h _ t (Nat.le_refl _)
 intro N
 induction N with
 | zero => intro t h; have := fQ t; omega
 | succ N ih =>
 intro t hN hs ho
 have hn : 0 ≤ t.n := by
  rw [T.fU] at hs
  simp only [Bool.and_eq_true, Bool.not_eq_true', Bool.or_eq_false_iff, decide_eq_false_iff_not] at hs
  have := hs.1.1.1.1
  omega
 have hk := (nk hs).2
 obtain ⟨k, n, l⟩ := t
 rw [nw, tX] at ho
 simp only [Bool.and_eq_true, Bool.not_eq_true', Bool.and_eq_false_iff, Bool.or_eq_false_iff, decide_eq_false_iff_not, List.any_eq_false, Bool.not_eq_false'] at ho
 refine pD.mk k n l (fun HR => ?_) fun x hx => ih x (by have := bU (a := .mk k n l) hx; omega) (hk x hx) ?_
 ·rcases ho.1 with h | h
  ·exact absurd HR h
  ·exact ⟨hn, by omega⟩
 ·have := ho.2 x hx
  simpa using this
end Go.aL
end
section
set_option maxRecDepth 100000
namespace Go.aL
open Go Go.Proofs Go.fw
mutual
theorem Kk : ∀ t : T, (wt t : Int) = t.sz
 | .mk k n l => by rw [wt, T.sz]; have := FH l; omega
theorem FH : ∀ l : List T, (gI l : Int) = Ec l
 | [] => rfl
 | x :: r => by rw [gI, Ec]; have := Kk x; have := FH r; omega
end
theorem lY {l : List T} (h : ∀ t ∈ l, t.tree = true) : gI l ≤ 2000 * l.length := by
 induction l with
 | nil => simp [gI]
 | cons x r ih =>
   have := ih fun t ht => h t (List.mem_cons_of_mem _ ht)
   have h1 := ((T.kM x).1 (h x List.mem_cons_self)).1
   have h2 := Kk x
   rw [gI, List.length_cons]; omega
structure ZQ (s : Sg) (ps ss : List Int) (l : List T) : Prop where
 ord : dP s ps ss
 tree : ∀ t ∈ l, t.tree = true
 all : ∀ t ∈ l, pD (fun n => 0 ≤ n ∧ n < ps.length) t
theorem vK {s : Sg} {ps ss : List Int} : iS s ps ss = 0 ↔ nv s = true ∧ dP s ps ss := by
 unfold iS
 by_cases h : nv s = true
 ·by_cases h2 : dP s ps ss
  ·rw [if_pos h, if_pos h2]; simp [h, h2]
  ·rw [if_pos h, if_neg h2]; simp [h2]
 ·rw [if_neg h]; simp [h]
theorem oe {s : Sg} {ps ss : List Int} {l : List T} (h : gb s ps ss l = 0) : ZQ s ps ss l := by
 unfold gb at h
 split at h
 ·rename_i h0
  have h1 := (vK.1 h0).2
  split at h
  ·rename_i h2
   have h3 := List.all_eq_true.1 h2
   refine ⟨h1, fun t ht => ?_, fun t ht => ?_⟩
   ·have := h3 t ht; simp only [Bool.and_eq_true] at this; exact this.1
   ·have := h3 t ht
    simp only [Bool.and_eq_true] at this
    rw [h1.1]
    exact SF t ((T.kM t).1 this.1).2.2 this.2
  ·cases h
 ·rename_i h0; exact absurd h h0
theorem ZQ.cx {s : Sg} {ps ss : List Int} {l : List T} (h : ZQ s ps ss l) (ep : l ≠ []) (hl : l.length ≤ 10000) (n : Nat) : (fZ ps ss l n).Ok :=
 Pt h.ord.va ep (by have := lY h.tree; omega) h.all n
open Classical in
noncomputable def C2 (ps ss : List Int) (a b : T) : Bool := decide (R (jO ps ss) a b)
open Classical in
noncomputable def SH (ps ss : List Int) (a b : T) : Bool := decide (E (jO ps ss) a b)
theorem og {ps ss : List Int} {a b : T} : C2 ps ss a b = true ↔ R (jO ps ss) a b := by simp [C2]
theorem tY {ps ss : List Int} {a b : T} : SH ps ss a b = true ↔ E (jO ps ss) a b := by simp [SH]
theorem NY (a b : T) : bo (aU [a, b] 0) = .aq 0 (ints (aU [a, b] 0)) := rfl
theorem FI {Hs G : List aa} {n0 a b : Nat} {u v x y : AV} {R : AV → List aa → Prop} (B9 : b ≠ a) (hH : Hs.take n0 = G) (hb : x.aZ n0 = true ∧ y.aZ n0 = true) (hx : u.ae = x) (hy : v.ae = y) (hR : R (.tuple [x, y]) G) : bV n0 [.t a, .t b] [(a, u), (b, v)] Hs R := by
 subst hH; subst hx; subst hy
 refine ⟨n0, Nat.le_refl _, [u.ae, v.ae], ?_, by simp only [ak, hb.1, hb.2, Bool.and_self], hR⟩
 simp only [ay, if_neg B9, if_true, List.map]
 exact ca _
theorem Up.low {c : Cx} {H X G : List aa} (h : Up c (H ++ X) G) (he : H.length ≤ c.e) (hg : H.length ≤ c.g) : G.take H.length = H := by
 apply List.ext_getElem?
 intro j
 rw [List.getElem?_take]
 split
 ·rename_i hj
  rw [h.get j (by omega) (by omega), List.getElem?_append_left hj]
 ·rename_i hj
  rw [List.getElem?_eq_none (by omega)]
theorem ZR (s : Sg) (ps ss : List Int) (a b : T) : Pure Tryz.prog 20 [s.av, eE ps ss, a.av, b.av] (.tuple [.bool (if gb s ps ss [a, b] = 0 then C2 ps ss a b else false), .int .i64 (gb s ps ss [a, b])]) := by
 refine fun H => k20.2.calls rfl ?_
 simp only [k20, aJ]
 obtain ⟨q1, q2, q3, q4, q5, q6⟩ := bh ps ss
 simp +contextual only [aC, q1, q4, cC, sZ, Nat.reduceEqDiff, Nat.reduceAdd, ↓reduceIte, reduceCtorEq]
 refine af (Wu s ps ss [a, b]) ?_
 by_cases h0 : gb s ps ss [a, b] = 0
 ·rw [if_pos h0]
  have hr := oe h0
  have hw := lY hr.tree
  have hc := hr.cx (by simp) (by simp) H.length
  have hd := yh ps ss (ts := [a, b]) (by simp) H
  simp +contextual only [q4, cC, h0, sZ, Nat.reduceEqDiff, Nat.reduceAdd, ↓reduceIte]
  refine ag (V5 ps ss [a, b] H (by simp at hw; omega)) ?_
  rintro r G ⟨rfl, rfl⟩
  have a0 := sW (ps := ps) (ss := ss) (ts := [a, b]) (n := H.length) (j := 0) (by simp)
  have a1 := sW (ps := ps) (ss := ss) (ts := [a, b]) (n := H.length) (j := 1) (by simp)
  have hl := cu [a, b] 0
  rw [NY]
  generalize aU [a, b] 0 = ks at a0 a1 hl ⊢
  have nJ : ks.length = 2 := hl
  simp +contextual only [cw, nJ, dx, sZ, Nat.reduceEqDiff, Nat.reduceAdd, Nat.reduceLT, ↓reduceIte, reduceCtorEq]
  refine ⟨by decide, by decide, ag (jJ hc a0.1 a1.1 _ hd) ?_⟩
  rintro r G ⟨x, rfl, hx, hU, hD⟩
  rw [a0.2, a1.2] at hx
  simp +contextual only [sZ, Nat.reduceEqDiff, ↓reduceIte, reduceCtorEq]
  have ex : x = C2 ps ss a b := by rw [Bool.eq_iff_iff, og]; exact hx
  rw [ex]
  exact FI (by decide) (hU.low (by simp [fZ]) (by simp [fZ])) ⟨rfl, rfl⟩ rfl rfl ⟨by rw [h0]; rfl, rfl⟩
 ·rw [if_neg h0]
  simp +contextual only [h0, sZ, Nat.reduceEqDiff, ↓reduceIte, reduceCtorEq]
  exact FI (by decide) List.take_length ⟨rfl, rfl⟩ rfl rfl ⟨rfl, rfl⟩
theorem X3 (s : Sg) (ps ss : List Int) (a b : T) : Pure Tryz.prog 22 [s.av, eE ps ss, a.av, b.av] (.tuple [.bool (if gb s ps ss [a, b] = 0 then SH ps ss a b else false), .int .i64 (gb s ps ss [a, b])]) := by
 refine fun H => k22.2.calls rfl ?_
 simp only [k22, aJ]
 obtain ⟨q1, q2, q3, q4, q5, q6⟩ := bh ps ss
 simp +contextual only [aC, q1, q4, cC, sZ, Nat.reduceEqDiff, Nat.reduceAdd, ↓reduceIte, reduceCtorEq]
 refine af (Wu s ps ss [a, b]) ?_
 by_cases h0 : gb s ps ss [a, b] = 0
 ·rw [if_pos h0]
  have hr := oe h0
  have hw := lY hr.tree
  have hc := hr.cx (by simp) (by simp) H.length
  have hd := yh ps ss (ts := [a, b]) (by simp) H
  simp +contextual only [q4, cC, h0, sZ, Nat.reduceEqDiff, Nat.reduceAdd, ↓reduceIte]
  refine ag (V5 ps ss [a, b] H (by simp at hw; omega)) ?_
  rintro r G ⟨rfl, rfl⟩
  have a0 := sW (ps := ps) (ss := ss) (ts := [a, b]) (n := H.length) (j := 0) (by simp)
  have a1 := sW (ps := ps) (ss := ss) (ts := [a, b]) (n := H.length) (j := 1) (by simp)
  have hl := cu [a, b] 0
  rw [NY]
  generalize aU [a, b] 0 = ks at a0 a1 hl ⊢
  have nJ : ks.length = 2 := hl
  simp +contextual only [cw, nJ, dx, sZ, Nat.reduceEqDiff, Nat.reduceAdd, Nat.reduceLT, ↓reduceIte, reduceCtorEq]
  refine ⟨by decide, by decide, ag (jI hc a0.1 a1.1 _ hd) ?_⟩
  rintro r G ⟨x, rfl, hx, hU, hD⟩
  rw [a0.2, a1.2] at hx
  simp +contextual only [sZ, Nat.reduceEqDiff, ↓reduceIte, reduceCtorEq]
  have ex : x = SH ps ss a b := by rw [Bool.eq_iff_iff, tY]; exact hx
  rw [ex]
  exact FI (by decide) (hU.low (by simp [fZ]) (by simp [fZ])) ⟨rfl, rfl⟩ rfl rfl ⟨by rw [h0]; rfl, rfl⟩
 ·rw [if_neg h0]
  simp +contextual only [h0, sZ, Nat.reduceEqDiff, ↓reduceIte, reduceCtorEq]
  exact FI (by decide) List.take_length ⟨rfl, rfl⟩ rfl rfl ⟨rfl, rfl⟩
end Go.aL
end
section
set_option maxRecDepth 100000
set_option maxHeartbeats 0
namespace Go.aL
open Go Go.Proofs
noncomputable def Pu := aJ Tryz.call163 Tryz.func163 Tryz.ntmps163 [(0,0,1),(0,1,1),(1,4,1),(1,5,1),(4,2,1000),(5,0,1),(5,7,1),(8,6,2000)] [(0,[2,3]),(1,[2,3,5]),(2,[2,5,16,17,18]),(3,[2,5,16,17,18,19]),(4,[2,5,7,16,17,18]),(5,[2,5,16,17,18]),(6,[2,5,16,17,18]),(7,[8,9]),(8,[4])] [(8,(.take 0 true (.take 1 true (.take 2 true (.take 3 true (.take 4 true (.take 5 true (.br 6 (.take 7 true .done) .nil))))))))]
end Go.aL
end
section
set_option maxRecDepth 100000
namespace Go.aL
open Go Go.Proofs Go.fw
structure Cn where
 a : T
 b : T
deriving Inhabited
def Cn.av (c : Cn) : AV := .agg [.int .i64 c.a.k, .int .i64 c.a.n, .aq 0 (cK c.a.l), .int .i64 c.b.k, .int .i64 c.b.n, .aq 0 (cK c.b.l)]
def w5 (l : List Cn) : List AV := l.map Cn.av
structure mD where
 vs : List Int
 cs : List Cn
 a : T
 b : T
deriving Inhabited
def mD.av (e : mD) : AV := .agg [.aq 0 (ints e.vs), .aq 0 (w5 e.cs), .int .i64 e.a.k, .int .i64 e.a.n, .aq 0 (cK e.a.l), .int .i64 e.b.k, .int .i64 e.b.n, .aq 0 (cK e.b.l)]
def mD.rest (e : mD) : List T := e.b :: e.cs.flatMap fun c => [c.a, c.b]
theorem Cs (l : List Cn) : (w5 l).length = l.length := by simp [w5]
theorem Kl (n : Nat) (l : List Cn) : ak n (w5 l) = true := by
 rw [ba]; intro x hx; obtain ⟨y, _, rfl⟩ := List.mem_map.1 hx
 simp [Cn.av, AV.aZ, ak, dX]
theorem mD.facts (e : mD) : e.av.val = true ∧ e.av.cells.length = 8 ∧ e.av.cells.all AV.one = true ∧ e.av.ae = e.av ∧ e.av.drop = e.av ∧ ∀ n, e.av.aZ n = true :=
 ⟨rfl, rfl, rfl, rfl, rfl, fun n => by simp [mD.av, AV.aZ, ak, dX, bj, Kl]⟩
theorem Cn.facts (e : Cn) : e.av.val = true ∧ e.av.cells.length = 6 ∧ e.av.cells.all AV.one = true ∧ e.av.ae = e.av ∧ e.av.drop = e.av ∧ ∀ n, e.av.aZ n = true :=
 ⟨rfl, rfl, rfl, rfl, rfl, fun n => by simp [Cn.av, AV.aZ, ak, dX]⟩
theorem T.Ab (t : T) : AV.agg [.int .i64 t.k, .int .i64 t.n, .aq 0 (cK t.l)] = t.av := by cases t; rfl
theorem feA (e : mD) (φ : AV → Prop) : al 2 (some 3) (.aj e.av) φ = φ (.aj e.a.av) := by simp [al, apart, mD.av, AV.cells, ← T.Ab]
theorem feB (e : mD) (φ : AV → Prop) : al 5 (some 3) (.aj e.av) φ = φ (.aj e.b.av) := by simp [al, apart, mD.av, AV.cells, ← T.Ab]
theorem feC (e : mD) (φ : AV → Prop) : al 1 none (.aj e.av) φ = φ (.aj (.aq 0 (w5 e.cs))) := by simp [al, apart, mD.av, AV.cells, AV.one]
theorem fcA (e : Cn) (φ : AV → Prop) : al 0 (some 3) (.aj e.av) φ = φ (.aj e.a.av) := by simp [al, apart, Cn.av, AV.cells, ← T.Ab]
theorem fcB (e : Cn) (φ : AV → Prop) : al 3 (some 3) (.aj e.av) φ = φ (.aj e.b.av) := by simp [al, apart, Cn.av, AV.cells, ← T.Ab]
theorem NZ (o : Nat) (l : List Cn) : (∀ (own : Nat) (xs : List AV), AV.aq o (w5 l) = AV.aq own xs → ∀ z ∈ xs, z.cells.length = 6) = True := by
 simp only [eq_iff_iff, iff_true]
 intro own xs e z hz
 cases e
 obtain ⟨y, _, rfl⟩ := List.mem_map.1 hz; rfl
theorem SJ (e o : Nat) (l : List Cn) (k : IntKind) (i : Nat) (φ : AV → Prop) : aA e (.aq o (w5 l)) (.int k (i : Int)) φ = (i < l.length ∧ φ (.aj (l.getD i default).av)) := by
 simp only [aA, Cs, Int.toNat_natCast, eq_iff_iff]
 constructor
 ·rintro ⟨_, h, h2⟩; refine ⟨h, ?_⟩; simpa [w5, h] using h2
 ·rintro ⟨h, h2⟩; refine ⟨by omega, h, ?_⟩; simpa [w5, h] using h2
theorem Wv (e : Cn) (H : List aa) (φ : AV → Prop) : aS (some 6) (.aj e.av) H φ = φ e.av := by simp [aS, Cn.av, AV.cells]
def N0 (ps ss : List Int) (e : mD) : Prop := ∀ y ∈ e.rest, R (jO ps ss) e.a y
def tx (l : List Cn) : List T := l.flatMap fun c => [c.a, c.b]
theorem Km {l : List Cn} {i : Nat} (h : i < l.length) : tx (l.take (i + 1)) = tx (l.take i) ++ [(l.getD i default).a, (l.getD i default).b] := by
 have e : l.getD i default = l[i] := by simp [h]
 rw [List.take_succ_eq_append_getElem h, e]
 unfold tx
 rw [List.flatMap_append]
 rfl
theorem Ac (l : List Cn) : (tx l).length = 2 * l.length := by
 induction l with
 | nil => rfl
 | cons x r ih => simp only [tx, List.flatMap_cons, List.length_append, List.length_cons, List.length_nil] at ih ⊢; omega
theorem N1 (a b : List T) : cK (a ++ b) = cK a ++ cK b := by
 induction a with
 | nil => rfl
 | cons x r ih => rw [List.cons_append, cK, cK, ih]; rfl
theorem Ww (x : Int) (r : List Int) (φ : AV → Prop) : bB 1 (.aq 0 (ints (x :: r))) (some (.int .i64 1)) none none φ = φ (.aq 0 (ints r)) := by
 have er : dE (AV.aq 0 (ints (x :: r))) = some (ints (x :: r)) := rfl
 have e1 : (1 : Int).toNat = 1 := rfl
 have e2 : ((ints (x :: r)).take (ints (x :: r)).length).drop 1 = ints r := by rw [List.take_length]; rfl
 simp only [bB, fq, er, dL, e1, e2, eq_iff_iff]
 constructor
 ·intro h; exact h.2.2.2.2
 ·intro h
  refine ⟨fun own xs he z hz => ?_, by omega, by simp [aw], Nat.le_refl _, h⟩
  cases he
  obtain ⟨y, _, rfl⟩ := List.mem_map.1 hz
  rfl
theorem ZS (ps ss : List Int) (e : mD) (hv : Va ps ss) (hlen : e.cs.length ≤ 1000) (ht : ∀ t ∈ e.a :: e.rest, t.tree = true) (cI : ∀ t ∈ e.a :: e.rest, pD (fun n => 0 ≤ n ∧ n < ps.length) t) (H : List aa) :
 au Tryz.prog 163 [eE ps ss, e.av] H fun r H' => (∃ b : Bool, r = .bool b ∧ (b = true ↔ N0 ps ss e)) ∧ H' = H := by
 refine Pu.2.calls rfl ?_
 simp only [Pu, aJ]
 obtain ⟨q1, q2, q3, q4, q5, q6⟩ := bh ps ss
 obtain ⟨e1, e2, e3, e4, e5, e6⟩ := mD.facts e
 have cf := Cn.facts
 simp +contextual only [q1, e1, feA, feB, feC, Cs, sZ, Nat.reduceEqDiff, Nat.reduceAdd, ↓reduceIte, reduceCtorEq]
 intro _
 have rest : e.rest = e.b :: tx e.cs := rfl
 refine aD e.cs.length (fun i => True) (fun i => [(2, .aj (eE ps ss)), (5, .aq 3 (cK (e.a :: e.b :: tx (e.cs.take i)))), (16, .aq 0 (w5 e.cs)), (17, .int .i64 e.cs.length), (18, .int .i64 i)]) (fun _ => H) ⟨trivial, aB _ _ _⟩ fun i hi _ => ?_
 by_cases Aw : (i : Int) < e.cs.length
 ·have a8 : i < e.cs.length := by omega
  obtain ⟨f1, f2, f3, f4, f5, f6⟩ := cf (e.cs.getD i default)
  have hl : (tx (e.cs.take i)).length ≤ 2000 := by rw [Ac]; simp; omega
  have hal := tS (e.a :: e.b :: tx (e.cs.take i))
  have jN : tb 3 [(e.cs.getD i default).a.av, (e.cs.getD i default).b.av] := of_eq_true (Se [_, _])
  simp +contextual only [Aw, decide_true, NZ, SJ, Wv, f1, f2, f3, fcA, fcB, sZ, Nat.reduceEqDiff, Nat.reduceAdd, ↓reduceIte]
  have e7 : cK (e.a :: e.b :: tx (e.cs.take i)) ++ [(e.cs.getD i default).a.av, (e.cs.getD i default).b.av] = cK (e.a :: e.b :: tx (e.cs.take (i + 1))) := by
   rw [Km a8, ← List.cons_append, ← List.cons_append, N1]; rfl
  exact ⟨a8, by omega, jN, i + 1, a8, by omega, aH (by rw [ax i (by omega), e7]) rfl⟩
 ·have Ii : i = e.cs.length := by omega
  subst Ii
  rw [List.take_length]
  have ep : e.a :: e.b :: tx e.cs ≠ [] := by simp
  have hl : (e.a :: e.b :: tx e.cs).length ≤ 10000 := by simp [Ac]; omega
  have hw := lY (l := e.a :: e.b :: tx e.cs) ht
  have hc := Pt hv ep (by omega) cI H.length
  have hd := yh ps ss ep H
  simp +contextual only [Aw, decide_false, cC, q4, sZ, Nat.reduceEqDiff, Nat.reduceAdd, ↓reduceIte]
  refine ag (V5 ps ss (e.a :: e.b :: tx e.cs) H (by omega)) ?_
  rintro r G ⟨rfl, rfl⟩
  have hk := (NU (e.a :: e.b :: tx e.cs)).kids
  have ek : aU (e.a :: e.b :: tx e.cs) 0 = 0 :: aU (e.b :: tx e.cs) (0 + wt e.a) := by rw [aU]; rfl
  have EU := cu (e.b :: tx e.cs) (0 + wt e.a)
  rw [ek] at hk ⊢
  generalize aU (e.b :: tx e.cs) (0 + wt e.a) = tl at hk EU ⊢
  obtain ⟨Pp, HR⟩ := hk
  simp only [List.map_cons, List.cons.injEq] at Pp
  obtain ⟨ha, hb⟩ := Pp
  have e0 : ([(0 : Int)] ++ tl).getD 0 0 = 0 := rfl
  have X0 : ∀ φ : AV → Prop, aA 1 (.aq 0 (ints (0 :: tl))) (.int .i64 0) φ = φ (.aj (.int .i64 0)) := fun φ => by
   have := cw 1 0 (0 :: tl) .i64 0 φ
   rw [this]
   simp
  simp +contextual only [bo, X0, dx, Option.map_some, Option.map_none, Ww, sZ, Nat.reduceEqDiff, Nat.reduceAdd, Nat.reduceLT, ↓reduceIte, reduceCtorEq]
  have itl : IL (.aq 0 (ints tl)) tl := .inr rfl
  refine ag (So (c := fZ ps ss (e.a :: e.b :: tx e.cs) H.length) (i := 0) itl (by rw [EU]; simp [Ac]; omega) (fun x hx => jJ hc (HR 0 List.mem_cons_self) (HR x (List.mem_cons_of_mem _ hx))) hd) ?_
  rintro r G ⟨b, rfl, hbb, hU, hD⟩
  simp +contextual only [sZ, ↓reduceIte, reduceCtorEq]
  refine aW H.length (Nat.le_refl _) (by rw [ay, if_pos rfl]; rfl) ?_
  rw [ay, if_pos rfl]
  refine ⟨⟨b, rfl, ?_⟩, hU.low (by simp [fZ]) (by simp [fZ])⟩
  rw [hbb, N0, rest]
  have ha' : (fZ ps ss (e.a :: e.b :: tx e.cs) H.length).tm 0 = e.a := ha
  have dT : tl.map (fZ ps ss (e.a :: e.b :: tx e.cs) H.length).tm = e.b :: tx e.cs := hb
  rw [ha']
  generalize (fZ ps ss (e.a :: e.b :: tx e.cs) H.length).tm = f at dT
  rw [← dT]
  constructor
  ·intro h y hy
   obtain ⟨x, hx, rfl⟩ := List.mem_map.1 hy
   exact h x hx
  ·intro h x hx
   exact h _ (List.mem_map.2 ⟨x, hx, rfl⟩)
end Go.aL
end
