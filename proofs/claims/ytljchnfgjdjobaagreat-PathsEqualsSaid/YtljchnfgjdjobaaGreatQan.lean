/- Part 14 of 18 of the proof. -/
import Derived.Test.YtljchnfgjdjobaaGreatQam
import Derived.Test.YtljchnfgjdjobaaGreatQag
import Derived.KernelRfl
set_option linter.unusedVariables false
set_option linter.unusedSimpArgs false
set_option linter.defProp false
set_option linter.unusedSectionVars false
section
set_option maxRecDepth 100000
namespace Go.aK
open Go Go.Proofs Go.fE
def upto (n : Nat) : List Int := (List.range n).map Int.ofNat
theorem yi (n : Nat) : upto (n + 1) = upto n ++ [(n : Int)] := by simp [upto, List.range_succ]
theorem Cl (n : Nat) : (upto n).length = n := by simp [upto]
theorem vA {n : Nat} {x : Int} : x ∈ upto n ↔ 0 ≤ x ∧ x < n := by
 simp only [upto, List.mem_map, List.mem_range]
 constructor
 ·rintro ⟨j, h, rfl⟩; exact ⟨Int.natCast_nonneg j, Int.ofNat_lt.2 h⟩
 ·intro h; exact ⟨x.toNat, by omega, by simp; omega⟩
def vB (j : Nat) : AV := match j with | 0 => .ah | j + 1 => .ap 1 (ints (upto (j + 1)))
theorem J4 (j : Nat) (h : j < 1000000000) (ψ : List AV → Prop) (hψ : ψ (ints (upto (j + 1)))) : bE 1 8 (vB j) (.ap 0 [.int .i64 (j : Int)]) ψ := by
 have e1 : ints (upto j) ++ [AV.int .i64 (j : Int)] = ints (upto (j + 1)) := by rw [yi]; simp [ints]
 have jI : sX 1 [AV.int .i64 (j : Int)] := of_eq_true (lO [(j : Int)])
 cases j with
 | zero =>
   rw [vB, nX]
   exact ⟨by simp, jI, hψ⟩
 | succ j =>
   rw [vB, nc]
   exact ⟨by rw [aw, Cl]; simp; omega, jI, by rw [e1]; exact hψ⟩
theorem J5 (j : Nat) : (vB j).ab = bn (upto j) := by
 cases j with
 | zero => rfl
 | succ j => rw [vB, yi]; cases h : upto j <;> rfl
theorem Aa : bW.n = 13 := by kernel_rfl
theorem vC : bW.ps = [7] := by kernel_rfl
theorem rS {id : Nat} {H : List aa} {K : List aa → Prop} {lc : hJ} {es : List AV} (h : H[id]? = some (.loop .ready lc es)) : jw id H K = K (H.set id (.loop .busy lc es)) := by
 unfold jw; rw [h]
theorem Ei {n0 id : Nat} {R : AV → List aa → Prop} {H : List aa} {lc : hJ} {es : List AV} (h : H[id]? = some (.loop .busy lc es)) : pT n0 id R .normal H = Gg n0 true (H.set id (.loop .ready lc es)) R := by
 unfold pT; rw [h]
theorem vD {id : Nat} {H : List aa} {K : Option Code → List aa → Prop} {lc : hJ} {es : List AV} (h : H[id]? = some (.loop .ready lc es)) : behind id H K = K none (H.set id (.loop .eu lc es)) := by
 unfold behind; rw [h]
theorem vE {P : Px} {n0 : Nat} {ia ib : IR} {env : Env} {H : List aa} {id : Nat} {R : AV → List aa → Prop}
 (h : kY P n0 ia env H fun e env1 H1 => e = .normal ∧ jw id H1 fun H2 => kY P n0 ib env1 H2 fun e _ H3 => pT n0 id R e H3) : mf P n0 ia env H fun e env1 H1 => e = .normal ∧ jw id H1 fun H2 => mf P n0 ib env1 H2 fun e _ H3 => pT n0 id R e H3 := by
 refine tH h ?_
 rintro x e H' ⟨h1, h2⟩
 refine ⟨h1, ?_⟩
 unfold jw at *
 split at h2
 ·rename_i e'
  exact tH h2 fun _ _ _ h => h
 ·exact h2.elim
theorem ZD (n : Nat) (hn : n < 1000000000) : Pure Tryz.prog 200 [.ah, .fn (.func 201) [] [.ai (.int .i64 n)]] (bn (upto n)) := by
 refine fun H => UI.calls rfl ?_
 simp only [Ox, Ow]
 simp +contextual only [lM, sZ, Nat.reduceEqDiff, Nat.reduceAdd, ↓reduceIte, reduceCtorEq]
 have el : ∀ X : List aa, (H ++ X).length = H.length + X.length := fun X => List.length_append
 obtain ⟨es, yH⟩ : ∃ es, es = ke bW.n [(2, AV.ptr H.length 0), (6, AV.fn (.func 201) [] [.ai (.int .i64 n)])] := ⟨_, rfl⟩
 have ees : es = [.any, .any, .ptr H.length 0, .any, .any, .any, .fn (.func 201) [] [.ai (.int .i64 n)], .any, .any, .any, .any, .any, .any] := by rw [yH, Aa]; rfl
 let G : Nat → List aa := fun j => H ++ [.cells [vB j], .loop .ready bW es]
 have hG : ∀ j, (G j).length = H.length + 2 := fun j => by simp [G]
 have g1 : ∀ j, (G j)[H.length + 1]? = some (.loop .ready bW es) := fun j => by simp [G]
 refine rR (P := Tryz.prog) (R := fun r H' => r = .tuple [] ∧ H' = G n) 201 [] [.ai (.int .i64 n)] bW _ _ _ Tryz.call201 ?_ ?_
 ·rw [← yH]
  have e1 : (H ++ [aa.cells [AV.ah]]).length = H.length + 1 := by simp
  have e2 : (H ++ [aa.cells [AV.ah]] ++ [.loop .ready bW es]) = G 0 := by simp [G, vB]
  rw [e1, e2]
  refine ZC n (by omega) (H.length + 1) G (fun j => by rw [hG, hG]) fun j hj => ?_
  refine nP (lc := bW) (es := es) (g1 j) LZ L3 ⟨by rw [ees, Aa]; rfl, by rw [vC]; rfl, by rw [vC, Aa]; rfl, ?_, ?_⟩ (vE ?_)
  ·rw [ees]; intro x hx; simp only [List.mem_cons, List.not_mem_nil, or_false] at hx
   rcases hx with rfl | rfl | rfl | rfl | rfl | rfl | rfl | rfl | rfl | rfl | rfl | rfl | rfl <;> rfl
  ·intro x hx; simp only [List.mem_cons, List.not_mem_nil, or_false] at hx; subst hx; rfl
  ·have ez : (bW.ps.zip [AV.int .i64 (j : Int)]).reverse ++ bU 0 es = (7, .int .i64 (j : Int)) :: bU 0 es := by rw [vC]; rfl
   rw [ez, ees]
   simp only [EZ, E0]
   have hb : ∀ K, jw (H.length + 1) (G j) K = K (H ++ [.cells [vB j], .loop .busy bW es]) := fun K => by rw [rS (g1 j)]; simp [G]
   simp +contextual only [hb, sZ, Nat.reduceEqDiff, Nat.reduceAdd, Nat.reduceLT, ↓reduceIte, reduceCtorEq]
   refine J4 j (by omega) _ ?_
   have hz : ∀ x : AV, (H ++ [aa.cells [x], .loop .busy bW es])[H.length + 1]? = some (.loop .busy bW es) := fun x => by simp
   have jY : (AV.ap 1 (ints (upto (j + 1)))).aY (H.length + 1) = true := by rw [cU]; exact bk _ _
   simp +contextual only [jY, sZ, Nat.reduceEqDiff, Nat.reduceAdd, Nat.reduceLT, ↓reduceIte]
   rw [Ei (hz _)]
   refine ⟨by simp [G], rfl, ?_⟩
   simp [G, vB]
   exact List.take_of_length_le (by simp)
 ·rintro r G' ⟨rfl, rfl⟩
  have e1 : (H ++ [aa.cells [AV.ah]]).length = H.length + 1 := by simp
  rw [e1, vD (g1 n)]
  have e3 : (G n).set (H.length + 1) (.loop .eu bW es) = H ++ [.cells [vB n], .loop .eu bW es] := by simp [G]
  rw [e3]
  simp +contextual only [oS, sZ, Nat.reduceAdd, Nat.reduceLT, ↓reduceIte, reduceCtorEq]
  have e4 : (vB n).ab.ab = bn (upto n) := by rw [J5]; exact (aD _).2.1
  rw [e4]
  exact JA ((aD _).2.2.1 _) rfl
theorem ZE (n : Nat) (hn : n < 1000000000) : Pure Tryz.prog 152 [.fn (.func 201) [] [.ai (.int .i64 n)]] (bn (upto n)) := by
 refine fun H => Ul.2.calls rfl ?_
 simp only [Ul, aI]
 simp +contextual only [sZ, Nat.reduceAdd, ↓reduceIte, reduceCtorEq]
 refine ae (ZD n hn) ?_
 have e4 : (bn (upto n)).ab = bn (upto n) := (aD _).2.1
 simp +contextual only [e4, sZ, ↓reduceIte, reduceCtorEq]
 exact aZ ((aD _).2.2.1 _) rfl
theorem ZF (n : Int) : Pure Tryz.prog 153 [.int .i64 n] (.fn (.func 201) [] [.ai (.int .i64 n)]) := by
 refine fun H => Um.2.calls rfl ?_
 simp only [Um, aI]
 simp +contextual only [sZ, Nat.reduceEqDiff, Nat.reduceAdd, ↓reduceIte, reduceCtorEq]
 exact aZ rfl rfl
end Go.aK
end
section
set_option maxRecDepth 100000
namespace Go.aK
open Go Go.Proofs Go.fE
def iR (c : Cx) (i k : Int) (p : PP) : Prop := ∀ H, Du c H → aq Tryz.prog 87 [.ptr c.d 0, .int .i64 i, .int .i64 k, dQ p] H (g9 c (Sh c.O p (c.tm i) (c.tm k)) H)
theorem ZG {c : Cx} {b : List Int} {vb : AV} (hb : IL vb b) {q : Nat} {i j : Int} {l : List PP} (hj : 0 ≤ j ∧ j < b.length) (hl : l.length = b.length) (h : iR c i (b.getD j.toNat 0) (l.getD j.toNat default)) {G : List aa} (hD : Du c G) (gq : G[q]? = some (.cells [vb])) :
 aq Tryz.prog 154 [.int .i64 j, .ai (.ptr c.d 0), .ai (.int .i64 i), .ptr q 0, .ai (.ap 0 (dP l))] G (g9 c (¬ Sh c.O (l.getD j.toNat default) (c.tm i) (c.tm (b.getD j.toNat 0))) G) := by
 refine Un.2.calls rfl ?_
 simp only [Un, aI]
 obtain ⟨b1, b2, b3, b4⟩ := hb.one
 obtain ⟨p1, p2, p3, p4, p5, p6, p7, p8, p9⟩ := aW (l.getD j.toNat default)
 simp +contextual only [gq, b2, hb.lens, hb.idx, z8, qF, qG, p4, sZ, Nat.reduceEqDiff, Nat.reduceAdd, Nat.reduceLT, ↓reduceIte, reduceCtorEq]
 refine ⟨hj, ⟨hj.1, by omega⟩, af (h G hD) ?_⟩
 rintro r G' ⟨z, rfl, hz, hU, iW⟩
 simp +contextual only [sZ, ↓reduceIte, reduceCtorEq]
 refine dY (b := !z) rfl ?_ hU iW
 rw [← hz]; cases z <;> simp
theorem b9 {b : List Int} {f : Int → T} {j : Nat} (h : j < b.length) : (b.map f).getD j default = f (b.getD j 0) := by simp [h]
theorem So {c : Cx} {b : List Int} {vb : AV} (hb : IL vb b) (lb : b.length < 1000000000) {q : Nat} (hq : q ≠ c.e ∧ q ≠ c.g) {i : Int} {l : List PP} (h : ∀ j, j < b.length → j < l.length → iR c i (b.getD j 0) (l.getD j default)) {G : List aa} (hD : Du c G) (gq : G[q]? = some (.cells [vb])) :
 aq Tryz.prog 151 [.ap 0 (dP l), .ptr q 0, .ai (.ptr c.d 0), .ai (.int .i64 i)] G (g9 c (kT (Sh c.O) l (c.tm i) (b.map c.tm)) G) := by
 refine Uk.2.calls rfl ?_
 simp only [Uk, aI]
 obtain ⟨b1, b2, b3, b4⟩ := hb.one
 simp +contextual only [gq, b2, hb.aL, hb.len (by omega), ej, sZ, Nat.reduceEqDiff, Nat.reduceAdd, Nat.reduceLT, ↓reduceIte, reduceCtorEq]
 have e1 : kT (Sh c.O) l (c.tm i) (b.map c.tm) ↔ l.length = b.length ∧ ∀ j, j < b.length → Sh c.O (l.getD j default) (c.tm i) (c.tm (b.getD j 0)) := by
  unfold kT
  rw [List.length_map]
  refine and_congr_right fun _ => ⟨fun h j hj => ?_, fun h j hj => ?_⟩
  ·have := h j hj; rwa [b9 hj] at this
  ·rw [b9 hj]; exact h j hj
 refine fun KR => ⟨fun he => ?_, fun eo => ?_⟩
 ·refine ae (ZF _) ?_
  simp +contextual only [sZ, Nat.reduceEqDiff, Nat.reduceAdd, ↓reduceIte]
  refine ae (ZE b.length lb) ?_
  have k2 : ∀ l, (bn l).ab = bn l := fun l => (aD l).2.1
  simp +contextual only [k2, sZ, Nat.reduceEqDiff, Nat.reduceAdd, ↓reduceIte, reduceCtorEq]
  refine af (B7 (SD.zS c G) (.inl rfl : IL (bn (upto b.length)) (upto b.length)) (by rw [Cl]; omega) 154 [] [.ai (.ptr c.d 0), .ai (.int .i64 i), .ptr q 0, .ai (.ap 0 (dP l))] rfl rfl (Q := fun j => ¬ Sh c.O (l.getD j.toNat default) (c.tm i) (c.tm (b.getD j.toNat 0)))
   (fun x hx G' dX => ?_) ⟨hD, Up.refl c G⟩) ?_
  ·have hx := vA.1 hx
   exact (ZG hb ⟨hx.1, hx.2⟩ (by omega) (h x.toNat (by omega) (by omega)) dX.1 (by rw [dX.2.get q hq.1 hq.2, gq])).mono fun r H' hr => hr.sb dX
  ·rintro r G' ⟨z, rfl, hz, dX⟩
   simp +contextual only [sZ, Nat.reduceEqDiff, ↓reduceIte, reduceCtorEq]
   refine dY (b := !z) rfl ?_ dX.2 dX.1
   rw [e1]
   cases z with
   | true =>
     obtain ⟨x, hx, hn⟩ := hz.1 rfl
     have hx := vA.1 hx
     exact ⟨fun h => by simp at h, fun h => absurd (h.2 x.toNat (by omega)) hn⟩
   | false =>
     refine ⟨fun _ => ⟨by omega, fun j hj => ?_⟩, fun _ => rfl⟩
     by_cases hs : Sh c.O (l.getD j default) (c.tm i) (c.tm (b.getD j 0))
     ·exact hs
     ·exact absurd (hz.2 ⟨(j : Int), vA.2 ⟨by omega, by omega⟩, hs⟩) (by simp)
 ·refine dY rfl ⟨fun h => by simp at h, fun h => ?_⟩ (Up.refl c G) hD
  have := (e1.1 h).1
  exact absurd (by omega) eo
end Go.aK
end
section
set_option maxRecDepth 100000
namespace Go.aK
open Go Go.Proofs Go.fE
theorem Ej {P : Px} {t : DT} {f : AV → Env} {v : AV} {H0 H : List aa} {K1 K2 : Env → List aa → Prop} (h : gJ v H0 fun x => iM P t (f x) H K1) (hk : ∀ e G, K1 e G → K2 e G) : gJ v H0 fun x => iM P t (f x) H K2 := by
 unfold gJ at *
 split at h
 ·exact dw h hk
 ·unfold eU at *
  split at h <;> first | exact dw h hk | exact h.elim | (intro hl; exact dw (h hl) hk) | skip
  all_goals (split at h <;> first | exact dw h hk | exact h.elim)
structure CS (c : Cx) (H : List aa) (p q : Nat) (ts ps : List Int) (G : List aa) : Prop where
 du : Du c G
 gp : G[p]? = some (cM ts)
 gq : G[q]? = some (cM ps)
 len : G.length = H.length + 2
 up : ∀ j, j < H.length → j ≠ c.e → j ≠ c.g → G[j]? = H[j]?
structure PQ (H : List aa) (p q : Nat) : Prop where
 ne : p ≠ q
 p1 : H.length ≤ p
 q1 : H.length ≤ q
theorem CS.call {c : Cx} {H G G' : List aa} {p q : Nat} {ts ps : List Int} (hD : Du c H) (w : PQ H p q) (h : CS c H p q ts ps G) (hU : Up c G G') (iW : Du c G') : CS c H p q ts ps G' := by
 obtain ⟨l1, l2, l3⟩ := hD.lt
 obtain ⟨w1, w2, w3⟩ := w
 exact ⟨iW, by rw [hU.get p (by omega) (by omega), h.gp], by rw [hU.get q (by omega) (by omega), h.gq], by rw [hU.len, h.len], fun j h1 h2 h3 => by rw [hU.get j h2 h3, h.up j h1 h2 h3]⟩
theorem CS.ZH {c : Cx} {H G : List aa} {p q : Nat} {ts ps ts' : List Int} (hD : Du c H) (w : PQ H p q) (h : CS c H p q ts ps G) : CS c H p q ts' ps (G.set p (cM ts')) := by
 obtain ⟨l1, l2, l3⟩ := hD.lt
 obtain ⟨w1, w2, w3⟩ := w
 have hp := aM h.gp
 exact ⟨h.du.set (by omega) (by omega) (by omega), by rw [List.getElem?_set_self hp], by rw [List.getElem?_set_ne w1, h.gq], by rw [List.length_set, h.len], fun j h1 h2 h3 => by rw [List.getElem?_set_ne (by omega), h.up j h1 h2 h3]⟩
theorem CS.ZI {c : Cx} {H G : List aa} {p q : Nat} {ts ps ps' : List Int} (hD : Du c H) (w : PQ H p q) (h : CS c H p q ts ps G) : CS c H p q ts ps' (G.set q (cM ps')) := by
 obtain ⟨l1, l2, l3⟩ := hD.lt
 obtain ⟨w1, w2, w3⟩ := w
 have hq := aM h.gq
 exact ⟨h.du.set (by omega) (by omega) (by omega), by rw [List.getElem?_set_ne (Ne.symm w1), h.gp], by rw [List.getElem?_set_self hq], by rw [List.length_set, h.len], fun j h1 h2 h3 => by rw [List.getElem?_set_ne (by omega), h.up j h1 h2 h3]⟩
theorem CS.fin {c : Cx} {H G : List aa} {p q : Nat} {ts ps : List Int} (hD : Du c H) (h : CS c H p q ts ps G) {b : Bool} {Q : Prop} (hb : b = true ↔ Q) {s : Nat} : bT H.length [.t s] [(s, .bool b)] G (g9 c Q H) := by
 obtain ⟨l1, l2, l3⟩ := hD.lt
 refine aV H.length (Nat.le_refl _) (by rw [ax, if_pos rfl]; rfl) ?_
 rw [ax, if_pos rfl]
 refine ⟨b, rfl, hb, ⟨by rw [List.length_take, h.len]; omega, fun j h1 h2 => ?_⟩, h.du.take l1 l2 l3⟩
 rw [List.getElem?_take]
 split
 ·rename_i hj; exact h.up j hj h1 h2
 ·rename_i hj; rw [List.getElem?_eq_none (by omega)]
def Hq (c : Cx) (to : List Int) (l : List PP) (a b : List Int) : Prop :=
 to.length = b.length ∧ l.length = b.length ∧
 (∀ j, j < b.length → (0 ≤ to.getD j 0 ∧ to.getD j 0 < a.length) ∧
   (if (l.getD j default).nil then E c.O (c.tm (a.getD (to.getD j 0).toNat 0)) (c.tm (b.getD j 0)) else Sh c.O (l.getD j default) (c.tm (a.getD (to.getD j 0).toNat 0)) (c.tm (b.getD j 0)))) ∧
 (∀ x : Nat, x < a.length → 0 < dd to l x b.length → dj to x b.length ≤ 1) ∧ ∃ x : Nat, x < a.length ∧ dd to l x b.length = 0
theorem Cm {c : Cx} {to : List Int} {l : List PP} {a b : List Int} : Hq c to l a b ↔ O9 (E c.O) (Sh c.O) to l (a.map c.tm) (b.map c.tm) := by
 unfold Hq O9
 simp only [List.length_map]
 refine and_congr_right fun _ => and_congr_right fun _ => and_congr_left fun _ => ⟨fun h j hj => ?_, fun h j hj => ?_⟩
 ·obtain ⟨h1, h2⟩ := h j hj
  refine ⟨h1, ?_⟩
  rw [b9 (by omega), b9 hj]; exact h2
 ·obtain ⟨h1, h2⟩ := h j hj
  rw [b9 (by omega), b9 hj] at h2
  exact ⟨h1, h2⟩
structure CI (c : Cx) (to : List Int) (l : List PP) (a b ts ps : List Int) (j : Nat) : Prop where
 lt : ts.length = a.length
 lp : ps.length = a.length
 t : ∀ x : Nat, x < a.length → ts.getD x 0 = dj to x j
 p : ∀ x : Nat, x < a.length → ps.getD x 0 = dd to l x j
 ok : ∀ j', j' < j → (0 ≤ to.getD j' 0 ∧ to.getD j' 0 < a.length) ∧
  (if (l.getD j' default).nil then E c.O (c.tm (a.getD (to.getD j' 0).toNat 0)) (c.tm (b.getD j' 0)) else Sh c.O (l.getD j' default) (c.tm (a.getD (to.getD j' 0).toNat 0)) (c.tm (b.getD j' 0)))
theorem CI.step {c : Cx} {to : List Int} {l : List PP} {a b ts ps ps' : List Int} {j z : Nat} (h : CI c to l a b ts ps j) (hz : z < a.length) (ht : to.getD j 0 = z) (hp : ps' = if (l.getD j default).nil then ps.set z (ps.getD z 0 + 1) else ps)
 (hq : if (l.getD j default).nil then E c.O (c.tm (a.getD z 0)) (c.tm (b.getD j 0)) else Sh c.O (l.getD j default) (c.tm (a.getD z 0)) (c.tm (b.getD j 0))) : CI c to l a b (ts.set z (ts.getD z 0 + 1)) ps' (j + 1) := by
 obtain ⟨h1, h2, h3, h4, h5⟩ := h
 refine ⟨by simp [h1], by rw [hp]; split <;> simp [h2], fun x hx => ?_, fun x hx => ?_, fun j' tL => ?_⟩
 ·rw [kN (by omega), dj, ht]
  by_cases e : x = z
  ·subst e; rw [if_pos rfl, if_pos rfl, h3 x hx]; omega
  ·rw [if_neg e, if_neg (by omega), h3 x hx]; omega
 ·rw [hp, dd, ht]
  by_cases hn : (l.getD j default).nil
  ·rw [if_pos hn, kN (by omega)]
   by_cases e : x = z
   ·subst e; rw [if_pos rfl, if_pos ⟨rfl, hn⟩, h4 x hx]; omega
   ·rw [if_neg e, if_neg (fun h => by have := h.1; omega), h4 x hx]; omega
  ·rw [if_neg hn, if_neg (fun h => hn h.2), h4 x hx]; omega
 ·by_cases e : j' = j
  ·subst e; rw [ht]; exact ⟨by omega, hq⟩
  ·exact h5 j' (by omega)
theorem rT (to : List Int) (x : Int) : ∀ n, dj to x n ≤ n
 | 0 => Nat.le_refl _
 | n + 1 => by rw [dj]; have := rT to x n; split <;> omega
theorem Hr (to : List Int) (l : List PP) (x : Int) (n : Nat) : dd to l x n ≤ n := Nat.le_trans (nz n) (rT to x n)
theorem Co {m n : Nat} (hm : m < 9223372036854775808) (hn : n < 9223372036854775808) : IntKind.i64.wrap ((m : Int) + (n : Int)) = 0 ↔ m = 0 ∧ n = 0 := by
 rw [IntKind.wrap_i64]
 omega
theorem yj (n x : Nat) : (dD 0 n 0).getD x 0 = 0 := by
 simp only [dD, List.replicate_zero, List.nil_append, Nat.sub_zero, List.getD_eq_getElem?_getD, List.getElem?_replicate]
 split <;> rfl
end Go.aK
end
section
set_option maxRecDepth 100000
namespace Go.aK
open Go Go.Proofs Go.fE
theorem ZJ {c : Cx} {a b : List Int} {va vb : AV} (ha : IL va a) (hb : IL vb b) (la : a.length ≤ 1000000000) (lb : b.length ≤ 1000000000) (p : PP) (hs : ∀ x ∈ a, ∀ y ∈ b, jS c x y) (hh : ∀ x ∈ a, ∀ y ∈ b, ∀ q ∈ p.l, iR c x y q) {H : List aa} (hD : Du c H) :
 aq Tryz.prog 156 [.ptr c.d 0, va, vb, dQ p] H (g9 c (Hq c p.to p.l a b) H) := by
 refine Uq.2.calls rfl ?_
 simp only [Uq, aI]
 obtain ⟨a1, a2, a3, a4⟩ := ha.one
 obtain ⟨b1, b2, b3, b4⟩ := hb.one
 obtain ⟨p1, p2, p3, p4, p5, p6, p7, p8, p9⟩ := aW p
 have no : ¬ Hq c p.to p.l a b → bT H.length [.t 8] [(8, .bool false)] H (g9 c (Hq c p.to p.l a b) H) := fun h => dY rfl ⟨fun h => by simp at h, fun h' => absurd h' h⟩ (Up.refl c H) hD
 by_cases h1 : p.to.length = b.length
 ·by_cases h2 : p.l.length = b.length
  ·have d1 : decide ((p.to.length : Int) ≠ b.length) = false := decide_eq_false (by omega)
   have d2 : decide ((p.l.length : Int) ≠ b.length) = false := decide_eq_false (by omega)
   simp +contextual only [a2, b2, p1, NI, J3, ha.aL, hb.aL, hb.len (by omega), aw, ej, h1, h2, not_true_eq_false, decide_false, sZ, Nat.reduceEqDiff, Nat.reduceAdd, ↓reduceIte, reduceCtorEq]
   intro _
   refine Ej (K1 := fun e G => get e 0 = .ptr c.d 0 ∧ get e 1 = va ∧ get e 2 = vb ∧ get e 7 = .ai (dQ p) ∧ ∃ x y, get e 9 = .bg x 0 a.length a.length ∧ get e 10 = .bg y 0 a.length a.length ∧ PQ H x y ∧ CS c H x y (dD 0 a.length 0) (dD 0 a.length 0) G) ?_ ?_
   ·have key : ∀ G, G = H ++ [cM (dD 0 a.length 0), cM (dD 0 a.length 0)] → CS c H H.length (H.length + 1) (dD 0 a.length 0) (dD 0 a.length 0) G ∧ CS c H (H.length + 1) H.length (dD 0 a.length 0) (dD 0 a.length 0) G := by
     rintro G rfl
     exact ⟨⟨hD.rI _, by simp, by simp, by simp, fun j hj _ _ => List.getElem?_append_left hj⟩, ⟨hD.rI _, by simp, by simp, by simp, fun j hj _ _ => List.getElem?_append_left hj⟩⟩
    have A := key _ rfl
    simp +contextual only [a2, ha.vn, ha.aL, mkI _ _ _ la, sZ, Nat.reduceEqDiff, Nat.reduceAdd, ↓reduceIte, reduceCtorEq]
    refine ⟨⟨_, _, rfl, rfl, ⟨by omega, by omega, by omega⟩, ?_⟩, ⟨_, _, rfl, rfl, ⟨by omega, by omega, by omega⟩, ?_⟩⟩
    ·exact A.1
    ·exact A.2
   ·rintro e G ⟨e0, e1, e2, e7, x, y, e9, e10, hw, w9⟩
    simp +contextual only [e0, e1, e2, e7, e9, e10, NI, aw, h1, sZ, Nat.reduceEqDiff, ↓reduceIte, reduceCtorEq]
    intro _
    refine aN b.length (fun j (s : List aa × List Int × List Int) => CS c H x y s.2.1 s.2.2 s.1 ∧ CI c p.to p.l a b s.2.1 s.2.2 j)
     (fun j s => [(0, .ptr c.d 0), (1, va), (2, vb), (7, .ai (dQ p)), (9, .bg x 0 a.length a.length), (10, .bg y 0 a.length a.length), (37, .ap 0 (ints p.to)), (38, .int .i64 b.length), (39, .int .i64 j)])
     (fun j s => s.1) (G, dD 0 a.length 0, dD 0 a.length 0) ⟨⟨w9, ?_⟩, aA _ _ _⟩ fun j s hj hI => ?_
    ·exact ⟨by simp [dD], by simp [dD], fun z _ => by rw [yj]; rfl, fun z _ => by rw [yj]; rfl, fun j h => by omega⟩
    ·obtain ⟨G, ts, ps⟩ := s
     obtain ⟨w9, EG⟩ := hI
     simp only at w9 EG
     by_cases J6 : (j : Int) < b.length
     ·have px : j < b.length := by omega
      obtain ⟨to, As⟩ : ∃ to, p.to.getD j 0 = to := ⟨_, rfl⟩
      by_cases r1 : to < 0
      ·simp +contextual only [J6, decide_true, cu, Int.toNat_natCast, As, r1, sZ, Nat.reduceEqDiff, ↓reduceIte, reduceCtorEq]
       refine ⟨by omega, w9.fin hD ⟨fun h => by simp at h, fun h => ?_⟩⟩
       have := (h.2.2.1 j px).1; omega
      ·by_cases r2 : (a.length : Int) ≤ to
       ·simp +contextual only [J6, decide_true, decide_false, a2, ha.aL, ha.len (by omega), cu, Int.toNat_natCast, As, r1, r2, sZ, Nat.reduceEqDiff, ↓reduceIte, reduceCtorEq]
        refine ⟨by omega, w9.fin hD ⟨fun h => by simp at h, fun h => ?_⟩⟩
        have := (h.2.2.1 j px).1; omega
       ·obtain ⟨z, rfl⟩ := Int.eq_ofNat_of_zero_le (show 0 ≤ to by omega)
        have hz : z < a.length := by omega
        have gt := w9.gp
        have gp := w9.gq
        have lt := EG.lt
        have lp := EG.lp
        have Wd : z < ts.length := by omega
        have Tg : z < ps.length := by omega
        simp +contextual only [J6, decide_true, decide_false, a2, ha.aL, ha.len (by omega), cu, Int.toNat_natCast, As, r1, r2, kq, gt, zV Wd, JS Wd, sZ, Nat.reduceEqDiff, ↓reduceIte, reduceCtorEq]
        have Ht := w9.ZH (ts' := ts.set z (IntKind.i64.wrap (ts.getD z 0 + 1))) hD hw
        have tz := EG.t z hz
        have Ap := rT p.to z j
        rw [dV _ (by omega)] at Ht ⊢
        generalize G.set x (cM (ts.set z (ts.getD z 0 + 1))) = G1 at Ht ⊢
        have ql : p.l.getD j default ∈ p.l := dO (by omega)
        obtain ⟨q, hq⟩ : ∃ q, p.l.getD j default = q := ⟨_, rfl⟩
        rw [hq] at ql
        obtain ⟨q1, q2, q3, q4, q5, q6, q7, q8, q9⟩ := aW q
        refine ⟨by omega, hz, hz, ?_⟩
        simp +contextual only [J3, z8, qF, qG, hq, Int.toNat_natCast, q1, q2, q3, Ck, CN, NI, aw, ej, sZ, Nat.reduceEqDiff, ↓reduceIte, reduceCtorEq]
        refine ⟨by omega, fun hr => ⟨fun hi l1 l2 => ⟨fun H6 => ?_, fun H6 => ?_⟩, fun hi => ?_⟩, fun hr => ?_⟩
        ·have hwz := (Co l1 l2).1 H6
         have s5 : (p.l.getD j default).nil := by rw [hq]; exact ⟨hr, hi, List.length_eq_zero_iff.1 hwz.1, List.length_eq_zero_iff.1 hwz.2⟩
         have gp1 := Ht.gq
         have NK := Ht.ZI (ps' := ps.set z (IntKind.i64.wrap (ps.getD z 0 + 1))) hD hw
         have tp := EG.p z hz
         have ple := Hr p.to p.l z j
         simp +contextual only [kq, gp1, zV Tg, JS Tg, sZ, Nat.reduceEqDiff, ↓reduceIte, reduceCtorEq]
         rw [dV _ (by omega)] at NK ⊢
         generalize G1.set y (cM (ps.set z (ps.getD z 0 + 1))) = G2 at NK ⊢
         refine ⟨hz, hz, ?_⟩
         simp +contextual only [a2, b2, ha.lens, hb.lens, ha.idx, hb.idx, Int.toNat_natCast, sZ, Nat.reduceEqDiff, Nat.reduceAdd, ↓reduceIte, reduceCtorEq]
         refine ⟨by omega, by omega, af (hs _ (aO hz) _ (aO px) G2 NK.du) ?_⟩
         rintro r G3 ⟨w, rfl, We, hU, JR⟩
         have J7 := NK.call hD hw hU JR
         cases w with
         | false =>
           simp +contextual only [Bool.not_false, sZ, Nat.reduceEqDiff, ↓reduceIte, reduceCtorEq]
           refine J7.fin hD ⟨fun h => by simp at h, fun h => ?_⟩
           have := (h.2.2.1 j px).2
           rw [if_pos s5, As, Int.toNat_natCast] at this
           exact We.2 this
         | true =>
           simp +contextual only [Bool.not_true, sZ, Nat.reduceEqDiff, ↓reduceIte, reduceCtorEq]
           refine ⟨j + 1, (G3, _, _), ⟨px, J7, EG.step hz As (by rw [if_pos s5]) (by rw [if_pos s5]; exact We.1 rfl)⟩, by omega, aH (by rw [au j (by omega)]) rfl⟩
        all_goals
         have s5 : ¬ (p.l.getD j default).nil := by
          rw [hq]
          rintro ⟨n1, n2, n3, n4⟩
          first | exact hr n1 | exact hi n2 | exact H6 ((Co l1 l2).2 ⟨by rw [n3]; rfl, by rw [n4]; rfl⟩)
         simp +contextual only [a2, b2, q4, ha.lens, hb.lens, ha.idx, hb.idx, Int.toNat_natCast, qG, sZ, Nat.reduceEqDiff, Nat.reduceAdd, ↓reduceIte, reduceCtorEq]
         refine ⟨by omega, by omega, af (hh _ (aO hz) _ (aO px) q ql G1 Ht.du) ?_⟩
         rintro r G3 ⟨w, rfl, We, hU, JR⟩
         have J7 := Ht.call hD hw hU JR
         cases w with
         | false =>
           simp +contextual only [Bool.not_false, sZ, Nat.reduceEqDiff, ↓reduceIte, reduceCtorEq]
           refine J7.fin hD ⟨fun h => by simp at h, fun h => ?_⟩
           have := (h.2.2.1 j px).2
           rw [if_neg s5, As, hq, Int.toNat_natCast] at this
           exact We.2 this
         | true =>
           simp +contextual only [Bool.not_true, sZ, Nat.reduceEqDiff, ↓reduceIte, reduceCtorEq]
           refine ⟨j + 1, (G3, _, _), ⟨px, J7, EG.step hz As (by rw [if_neg s5]) (by rw [if_neg s5, hq]; exact We.1 rfl)⟩, by omega, aH (by rw [au j (by omega)]) rfl⟩
     ·have Wf : j = b.length := by omega
      subst Wf
      simp +contextual only [J6, decide_false, a2, ha.aL, ha.len (by omega), sZ, Nat.reduceEqDiff, ↓reduceIte, reduceCtorEq]
      refine aN a.length (fun x' (f : Bool) => (∀ z : Nat, z < x' → 0 < dd p.to p.l z b.length → dj p.to z b.length ≤ 1) ∧ (f = true ↔ ∃ z : Nat, z < x' ∧ dd p.to p.l z b.length = 0))
       (fun x' f => [(9, .bg x 0 a.length a.length), (10, .bg y 0 a.length a.length), (14, .bool f), (112, .int .i64 a.length), (113, .int .i64 x')]) (fun _ _ => G) false
       ⟨⟨fun z h => by omega, ⟨fun h => by simp at h, fun ⟨z, h, _⟩ => by omega⟩⟩, aA _ _ _⟩ fun z f hz hI => ?_
      obtain ⟨jH, CK⟩ := hI
      by_cases KO : (z : Int) < a.length
      ·have iE : z < a.length := by omega
       have gt := w9.gp
       have gp := w9.gq
       have lt := EG.lt
       have lp := EG.lp
       have Wd : z < ts.length := by omega
       have Tg : z < ps.length := by omega
       have tz := EG.t z iE
       have pz := EG.p z iE
       by_cases k1 : dd p.to p.l z b.length = 0
       ·have p0 : ps.getD z 0 = 0 := by omega
        cases f <;>
         (simp +contextual only [KO, decide_true, kq, gp, zV Tg, p0, Int.lt_irrefl, decide_false, sZ, Nat.reduceEqDiff, ↓reduceIte, reduceCtorEq]
          refine ⟨iE, ?_⟩
          first
           | refine ⟨iE, z + 1, true, ⟨iE, fun z' HL => ?_, ⟨fun _ => ⟨z, by omega, k1⟩, fun _ => rfl⟩⟩, by omega, aH (by rw [au z (by omega)]) rfl⟩
           | refine ⟨z + 1, true, ⟨iE, fun z' HL => ?_, ⟨fun _ => ⟨z, by omega, k1⟩, fun _ => rfl⟩⟩, by omega, aH (by rw [au z (by omega)]) rfl⟩
          by_cases e : z' = z
          ·subst e; intro h; omega
          ·exact jH z' (by omega))
       ·have p0 : (0 < ps.getD z 0) = True := eq_true (by omega)
        have p1' : (ps.getD z 0 = 0) = False := eq_false (by omega)
        by_cases k2 : dj p.to z b.length ≤ 1
        ·have t0 : (1 < ts.getD z 0) = False := eq_false (by omega)
         have nxt : (∀ z' : Nat, z' < z + 1 → 0 < dd p.to p.l z' b.length → dj p.to z' b.length ≤ 1) := by
          intro z' HL
          by_cases e : z' = z
          ·subst e; intro _; exact k2
          ·exact jH z' (by omega)
         have nfr : (f = true ↔ ∃ z' : Nat, z' < z + 1 ∧ dd p.to p.l z' b.length = 0) := by
          rw [CK]
          constructor
          ·rintro ⟨z', h1, h2⟩; exact ⟨z', by omega, h2⟩
          ·rintro ⟨z', h1, h2⟩
           have : z' ≠ z := fun e => k1 (e ▸ h2)
           exact ⟨z', by omega, h2⟩
         cases f <;>
          (simp +contextual only [KO, decide_true, kq, gt, gp, zV Wd, zV Tg, p0, p1', t0, decide_false, sZ, Nat.reduceEqDiff, ↓reduceIte, reduceCtorEq]
           refine ⟨iE, iE, ?_⟩
           first
            | exact ⟨iE, z + 1, _, ⟨iE, nxt, nfr⟩, by omega, aH (by rw [au z (by omega)]) rfl⟩
            | exact ⟨z + 1, _, ⟨iE, nxt, nfr⟩, by omega, aH (by rw [au z (by omega)]) rfl⟩)
        ·have t0 : (1 < ts.getD z 0) = True := eq_true (by omega)
         simp +contextual only [KO, decide_true, kq, gt, gp, zV Wd, zV Tg, p0, t0, sZ, Nat.reduceEqDiff, ↓reduceIte, reduceCtorEq]
         refine ⟨iE, iE, w9.fin hD ⟨fun h => by simp at h, fun h => ?_⟩⟩
         exact absurd (h.2.2.2.1 z iE (by omega)) k2
      ·have hze : z = a.length := by omega
       subst hze
       simp +contextual only [KO, decide_false, sZ, Nat.reduceEqDiff, ↓reduceIte, reduceCtorEq]
       refine w9.fin hD ?_
       rw [CK]
       exact ⟨fun h => ⟨h1, h2, EG.ok, jH, h⟩, fun h => h.2.2.2.2⟩
  ·have d1 : decide ((p.to.length : Int) ≠ b.length) = false := decide_eq_false (by omega)
   have d2 : ((p.l.length : Int) = b.length) = False := eq_false (by omega)
   simp +contextual only [b2, p1, NI, J3, hb.aL, hb.len (by omega), aw, ej, h1, d2, not_true_eq_false, not_false_eq_true, decide_false, decide_true, sZ, Nat.reduceEqDiff, Nat.reduceAdd, ↓reduceIte, reduceCtorEq]
   intro _ _
   exact no fun h => h2 h.2.1
 ·have d1 : ((p.to.length : Int) = b.length) = False := eq_false (by omega)
  simp +contextual only [b2, p1, NI, hb.aL, hb.len (by omega), aw, d1, not_false_eq_true, decide_true, sZ, Nat.reduceEqDiff, Nat.reduceAdd, ↓reduceIte, reduceCtorEq]
  intro _
  exact no fun h => h1 h.1
end Go.aK
end
section
set_option maxRecDepth 100000
set_option maxHeartbeats 0
namespace Go.aK
open Go Go.Proofs
noncomputable def wV := aI Tryz.call87 Tryz.func87 Tryz.ntmps87 [(0,0,1),(0,1,1),(0,2,1),(12,7,2000),(13,11,2000),(17,10,2000),(20,36,2000),(23,3,2000),(24,20,2000),(24,27,2000),(26,10,2000)] [(0,[2,4,5,7]),(1,[2,4,5,7,9,10]),(2,[2,4,5,7,9,10,11]),(3,[2,4,5,7,9,10,11,14]),(4,[2,4,5,7,9,10,11,76]),(5,[8]),(6,[2,4,5,7,9,10,11,15,16]),(7,[2,4,5,7,9,10,11,15,16,85]),(8,[2,4,5,7,9,10,11,15,16,85,86]),(9,[2,4,7,9,103]),(10,[8]),(11,[2,4,7,9,107]),(12,[8]),(13,[8]),(14,[2,4,5,7,9,10,11,15,16,85,128]),(15,[2,4,7,11,17]),(16,[7,11,17,20,22]),(17,[8]),(18,[4,7,9,10,11,15,16,85,156]),(19,[4,7,11,15,16,23,24]),(20,[4,7,11,23,24,202]),(21,[8]),(22,[4,7,11,23,24,207]),(23,[8]),(24,[8]),(25,[4,7,9,10,15,16,241]),(26,[8]),(27,[8])] [(1,(.take 0 true (.take 1 true (.take 2 true (.take 3 true (.take 4 true (.take 5 true (.take 6 true (.take 7 true (.take 8 true (.take 9 true (.take 10 true (.take 11 true (.take 12 true (.take 13 true (.take 14 true (.take 15 true (.br 16 (.take 17 true (.br 18 .done .nil)) .nil)))))))))))))))))),(12,(.take 0 true (.take 1 true (.take 2 true (.take 3 true (.take 4 true (.take 5 true (.take 6 true (.br 7 (.take 8 true .done) .nil))))))))),(13,(.take 0 true (.take 1 true (.take 2 true (.take 3 true (.take 4 true (.take 5 true (.take 6 true (.take 7 true (.take 8 true (.take 9 true (.take 10 true (.br 11 (.take 12 true .done) .nil))))))))))))),(19,(.take 0 true (.take 1 true (.take 2 true (.take 3 true (.take 4 true (.take 5 true (.take 6 true (.take 7 true .done))))))))),(20,(.take 0 true (.take 1 true (.take 2 true (.take 3 true (.take 4 true (.take 5 true (.take 6 true (.take 7 true (.take 8 true (.take 9 true (.take 10 true (.take 11 true (.take 12 true (.take 13 true (.take 14 true (.take 15 true (.take 16 true (.take 17 true (.take 18 true (.take 19 true (.take 20 true (.take 21 true (.take 22 true (.take 23 true (.take 24 true (.take 25 true (.take 26 true (.take 27 true (.take 28 true (.take 29 true (.take 30 true (.take 31 true (.take 32 true (.take 33 true (.take 34 true (.take 35 true (.br 36 (.take 37 true (.take 38 true .done)) .nil)))))))))))))))))))))))))))))))))))))),(24,(.take 0 true (.take 1 true (.take 2 true (.take 3 true (.take 4 true (.take 5 true (.take 6 true (.take 7 true (.take 8 true (.take 9 true (.take 10 true (.take 11 true (.take 12 true (.take 13 true (.take 14 true (.take 15 true (.take 16 true (.take 17 true (.take 18 true (.take 19 true (.br 20 (.take 21 true (.take 22 true (.take 23 true (.take 24 true (.take 25 true (.take 26 true (.br 27 (.take 28 true (.take 29 true .done)) .nil))))))) .nil))))))))))))))))))))))]
end Go.aK
end
section
set_option maxRecDepth 100000
namespace Go.aK
open Go Go.Proofs Go.fE
theorem Cp {O : Od} {p : PP} {a b : T} (h : Sh O p a b) : a.k = 2 := (pk.1 h).1
theorem ZK {O : Od} {p : PP} {a b : T} (hr : p.r = 1) (ha : a.k = 2) : Sh O p a b ↔ p.to = [] ∧ (0 ≤ p.i ∧ p.i < a.l.length) ∧ ((p.l = [] ∧ E O (a.l.getD p.i.toNat default) b) ∨ ∃ q, p.l = [q] ∧ Sh O q (a.l.getD p.i.toNat default) b) := by
 rw [pk, Fs]; simp [hr, ha]
theorem Sh2 {O : Od} {p : PP} {a b : T} (hr : p.r = 2) (ha : a.k = 2) : Sh O p a b ↔ p.to = [] ∧ p.i = 0 ∧ b.k = 2 ∧ O.pl b.n < O.pl a.n ∧ kT (Sh O) p.l a b.l := by
 rw [pk, Fs]; simp [hr, ha]
theorem Sh3 {O : Od} {p : PP} {a b : T} (hr : p.r = 3) (ha : a.k = 2) : Sh O p a b ↔ p.to = [] ∧ b.k = 2 ∧ O.pl a.n = O.pl b.n ∧ O.sp (O.pl a.n) ≠ 3 ∧ Ci (E O) (Sh O) p.i p.l a (side (O.sp (O.pl a.n)) a.l) (side (O.sp (O.pl a.n)) b.l) b.l := by
 rw [pk, Fs]; simp [hr, ha]
theorem Sh4 {O : Od} {p : PP} {a b : T} (hr : p.r = 4) (ha : a.k = 2) : Sh O p a b ↔ p.i = 0 ∧ b.k = 2 ∧ O.pl a.n = O.pl b.n ∧ O.sp (O.pl a.n) = 3 ∧ O9 (E O) (Sh O) p.to p.l a.l b.l := by
 rw [pk, Fs]; simp [hr, ha]
theorem Sh0 {O : Od} {p : PP} {a b : T} (h1 : p.r ≠ 1) (h2 : p.r ≠ 2) (h3 : p.r ≠ 3) (h4 : p.r ≠ 4) : ¬ Sh O p a b := by
 rw [pk, Fs]; simp [h1, h2, h3, h4]
theorem slT (l : List Int) (n : Int) (h : 0 ≤ n ∧ n ≤ l.length) (φ : AV → Prop) : bA 1 (.ap 0 (ints l)) none (some (.int .i64 n)) none φ = φ (.ap 0 (ints (l.take n.toNat))) := by
 have er : dE (AV.ap 0 (ints l)) = some (ints l) := rfl
 have e2 : ((ints l).take n.toNat).drop 0 = ints (l.take n.toNat) := by rw [List.drop_zero, kP]
 simp only [bA, fm, er, dK, e2, eq_iff_iff]
 constructor
 ·intro h; exact h.2.2.2.2
 ·intro h'
  refine ⟨fun own xs he z hz => ?_, by omega, by omega, by have := aw l; omega, h'⟩
  cases he
  obtain ⟨y, _, rfl⟩ := List.mem_map.1 hz
  rfl
theorem Wg (x : PP) (r : List PP) (φ : AV → Prop) : bA 4 (.ap 0 (dP (x :: r))) (some (.int .i64 1)) none none φ = φ (.ap 0 (dP r)) := by
 have er : dE (AV.ap 0 (dP (x :: r))) = some (dP (x :: r)) := rfl
 have e1 : (1 : Int).toNat = 1 := rfl
 have e2 : ((dP (x :: r)).take (dP (x :: r)).length).drop 1 = dP r := by rw [List.take_length]; rfl
 simp only [bA, fm, er, dK, e1, e2, eq_iff_iff]
 constructor
 ·intro h; exact h.2.2.2.2
 ·intro h
  refine ⟨fun own xs he z hz => of_eq_true (qF 0 (x :: r)) own xs he z hz, by omega, by simp [ej], Nat.le_refl _, h⟩
theorem og {s : Int} {l : List Int} {x : Int} : x ∈ bD s l ↔ x ∈ l := by unfold bD; split <;> simp
theorem Wh {c : Cx} (hc : c.Ok) {p : PP} {i k : Int} (hi : c.dF i) (hk : c.dF k) (fH : ∀ q ∈ p.l, ∀ x y, c.dF x → c.dF y → iR c x y q) (yO : p.r = 1) : iR c i k p := by
 intro H hD
 refine wV.2.calls rfl ?_
 simp only [wV, aI]
 obtain ⟨p1, p2, p3, p4, p5, p6, p7, p8, p9⟩ := aW p
 have k2 : ∀ l, (bn l).ab = bn l := fun l => (aD l).2.1
 have ki := hc.kids i hi
 have kk := hc.kids k hk
 have l1 := hc.kl i hi
 have l2 := hc.kl k hk
 obtain ⟨a1, a2, a3, a4, a5⟩ := aD (c.kd i)
 obtain ⟨b1, b2, b3, b4, b5⟩ := aD (c.kd k)
 have ii : IL (bn (c.kd i)) (c.kd i) := .inl rfl
 have ik : IL (bn (c.kd k)) (c.kd k) := .inl rfl
 have ei : (c.nd.getD i.toNat default).snd = c.kd i := rfl
 have ek : (c.nd.getD k.toNat default).snd = c.kd k := rfl
 obtain ⟨m1, m2, m3⟩ := hD.lt
 have mB : Du c (H ++ [.cells [bn (c.kd k)]]) := hD.rI _
 have fin : ∀ G (b : Bool), Up c (H ++ [.cells [bn (c.kd k)]]) G → Du c G → (b = true ↔ Sh c.O p (c.tm i) (c.tm k)) → bT H.length [.t 8] [(8, .bool b)] G (g9 c (Sh c.O p (c.tm i) (c.tm k)) H) := by
  intro G b u d hb
  refine aV H.length (Nat.le_refl _) (by rw [ax, if_pos rfl]; rfl) ?_
  rw [ax, if_pos rfl]
  exact ⟨b, rfl, hb, u.take, d.take m1 m2 m3⟩
 have fin0 : ¬ Sh c.O p (c.tm i) (c.tm k) → bT H.length [.t 8] [(8, .bool false)] (H ++ [.cells [bn (c.kd k)]]) (g9 c (Sh c.O p (c.tm i) (c.tm k)) H) :=
  fun h => fin _ _ (Up.refl c _) mB ⟨fun h => by simp at h, fun h' => absurd h' h⟩
 have spv : ∀ x : AV, ag [AV.ah] 0 [x] = [x] := fun x => rfl
 simp +contextual only [p1, hD.d, lT, CM, ct, bS, k2, ei, ek, b1, b3, b4, b5, List.map_cons, List.map_nil, spv, List.all_cons, List.all_nil, Bool.and_true, bL, cV, sZ, Nat.reduceEqDiff, Nat.reduceAdd, Nat.reduceLT, ↓reduceIte, reduceCtorEq]
 refine ⟨hi, hk, af (ph hc hi mB) ?_⟩
 rintro r H2 ⟨rfl, rfl⟩
 cases hb : qN c i with
 | false =>
   have ki2 : ¬ (c.tm i).k = 2 := of_decide_eq_false hb
   simp +contextual only [dr, fe, ff, fg, hb, Bool.not_false, sZ, Nat.reduceEqDiff, ↓reduceIte, reduceCtorEq]
   exact fin0 fun h => ki2 (Cp h)
 | true =>
 have ki2 : (c.tm i).k = 2 := of_decide_eq_true hb
 have kid : ∀ (j : Int), (0 ≤ j ∧ j < (c.kd i).length) → (c.tm i).l.getD j.toNat default = c.tm ((c.kd i).getD j.toNat 0) := fun j hj => by rw [← ki.1, b9 (by omega)]
 have klen : (c.tm i).l.length = (c.kd i).length := by rw [← ki.1]; simp
 have kn : ∀ (j : Int), (0 ≤ j ∧ j < (c.kd i).length) → c.dF ((c.kd i).getD j.toNat 0) := fun j hj => ki.2 _ (aO (by omega))
 have lvun : (AV.tuple [.int .i64 (dq c i), .bool (tc c i k)]).ab = .tuple [.int .i64 (dq c i), .bool (tc c i k)] := rfl
 have hS := ZK (O := c.O) (b := c.tm k) yO ki2
 rw [klen] at hS
 simp +contextual only [dr, fe, ff, fg, hb, Bool.not_true, Ck, NI, yO, not_true_eq_false, not_false_eq_true, decide_true, decide_false, aw, sZ, Nat.reduceEqDiff, Nat.reduceAdd, ↓reduceIte, reduceCtorEq, Int.reduceEq]
 refine fun _ => ⟨fun h0 => ?_, fun h0 => fin0 fun h => ?_⟩
 ·have As : p.to = [] := List.length_eq_zero_iff.1 (by omega)
  refine af (Ea hc hi hk mB) ?_
  rintro r H2 ⟨rfl, rfl⟩
  by_cases hI : 0 ≤ p.i ∧ p.i < (c.kd i).length
  ·have n1 : (p.i < 0) = False := eq_false (by omega)
   have n2 : (((c.kd i).length : Int) ≤ p.i) = False := eq_false (by omega)
   have hkn := kn p.i hI
   rw [kid p.i hI] at hS
   by_cases hL : p.l.length ≤ 1
   ·have n3 : (1 < (p.l.length : Int)) = False := eq_false (by omega)
    by_cases hL0 : p.l.length = 0
    ·have n4 : ((p.l.length : Int) = 0) = True := eq_true (by omega)
     simp +contextual only [k2, ii.aL, ii.len (by omega), ii.lens, ii.idx, Ck, CN, J3, ej, lvun, decide_true, decide_false, yO, n1, n2, n3, n4, sZ, Nat.reduceEqDiff, Nat.reduceAdd, Nat.reduceLT, ↓reduceIte, reduceCtorEq]
     refine fun _ => ⟨hI, af (jC hc hkn hk _ mB) ?_⟩
     rintro r G ⟨x, rfl, hx, hU, iW⟩
     simp +contextual only [sZ, ↓reduceIte, reduceCtorEq]
     refine fin G x hU iW ?_
     rw [hx, hS]
     have : p.l = [] := List.length_eq_zero_iff.1 hL0
     simp [As, hI, this]
    ·have n4 : ((p.l.length : Int) = 0) = False := eq_false (by omega)
     have hm : p.l.getD 0 default ∈ p.l := dO (by omega)
     obtain ⟨q1, q2, q3, q4, q5, q6, q7, q8, q9⟩ := aW (p.l.getD 0 default)
     have t0 : (0 : Int).toNat = 0 := rfl
     simp +contextual only [k2, ii.aL, ii.len (by omega), ii.lens, ii.idx, Ck, CN, J3, z8, qF, qG, ej, lvun, decide_true, decide_false, yO, n1, n2, n3, n4, t0, q4, sZ, Nat.reduceEqDiff, Nat.reduceAdd, Nat.reduceLT, ↓reduceIte, reduceCtorEq]
     refine fun _ => ⟨hI, ⟨by omega, by omega⟩, af (fH _ hm _ _ hkn hk _ mB) ?_⟩
     rintro r G ⟨x, rfl, hx, hU, iW⟩
     simp +contextual only [sZ, ↓reduceIte, reduceCtorEq]
     refine fin G x hU iW ?_
     rw [hx, hS]
     obtain ⟨q, hq⟩ : ∃ q, p.l = [q] := List.length_eq_one_iff.1 (by omega)
     simp [As, hI, hq]
   ·have n3 : (1 < (p.l.length : Int)) = True := eq_true (by omega)
    simp +contextual only [k2, ii.aL, ii.len (by omega), Ck, CN, J3, ej, lvun, decide_true, decide_false, yO, n1, n2, n3, sZ, Nat.reduceEqDiff, Nat.reduceAdd, Nat.reduceLT, ↓reduceIte, reduceCtorEq]
    refine fun _ => fin0 fun h => ?_
    rcases (hS.1 h).2.2 with h | ⟨q, h, _⟩
    ·rw [h.1] at hL; simp at hL
    ·rw [h] at hL; simp at hL
  ·by_cases hI0 : p.i < 0
   ·simp +contextual only [Ck, CN, lvun, decide_true, yO, hI0, sZ, Nat.reduceEqDiff, Nat.reduceAdd, Nat.reduceLT, ↓reduceIte, reduceCtorEq]
    exact fin0 fun h => hI (hS.1 h).2.1
   ·have n2 : (((c.kd i).length : Int) ≤ p.i) = True := eq_true (by omega)
    simp +contextual only [k2, ii.aL, ii.len (by omega), Ck, CN, lvun, decide_true, decide_false, yO, hI0, n2, sZ, Nat.reduceEqDiff, Nat.reduceAdd, Nat.reduceLT, ↓reduceIte, reduceCtorEq]
    exact fin0 fun h => hI (hS.1 h).2.1
 ·rw [(hS.1 h).1] at h0; simp at h0
theorem Wi {c : Cx} (hc : c.Ok) {p : PP} {i k : Int} (hi : c.dF i) (hk : c.dF k) (fH : ∀ q ∈ p.l, ∀ x y, c.dF x → c.dF y → iR c x y q) (qV : p.r = 2) : iR c i k p := by
 intro H hD
 refine wV.2.calls rfl ?_
 simp only [wV, aI]
 obtain ⟨p1, p2, p3, p4, p5, p6, p7, p8, p9⟩ := aW p
 have k2 : ∀ l, (bn l).ab = bn l := fun l => (aD l).2.1
 have ki := hc.kids i hi
 have kk := hc.kids k hk
 have l1 := hc.kl i hi
 have l2 := hc.kl k hk
 obtain ⟨a1, a2, a3, a4, a5⟩ := aD (c.kd i)
 obtain ⟨b1, b2, b3, b4, b5⟩ := aD (c.kd k)
 have ii : IL (bn (c.kd i)) (c.kd i) := .inl rfl
 have ik : IL (bn (c.kd k)) (c.kd k) := .inl rfl
 have ei : (c.nd.getD i.toNat default).snd = c.kd i := rfl
 have ek : (c.nd.getD k.toNat default).snd = c.kd k := rfl
 obtain ⟨m1, m2, m3⟩ := hD.lt
 have mB : Du c (H ++ [.cells [bn (c.kd k)]]) := hD.rI _
 have fin : ∀ G (b : Bool), Up c (H ++ [.cells [bn (c.kd k)]]) G → Du c G → (b = true ↔ Sh c.O p (c.tm i) (c.tm k)) → bT H.length [.t 8] [(8, .bool b)] G (g9 c (Sh c.O p (c.tm i) (c.tm k)) H) := by
  intro G b u d hb
  refine aV H.length (Nat.le_refl _) (by rw [ax, if_pos rfl]; rfl) ?_
  rw [ax, if_pos rfl]
  exact ⟨b, rfl, hb, u.take, d.take m1 m2 m3⟩
 have fin0 : ¬ Sh c.O p (c.tm i) (c.tm k) → bT H.length [.t 8] [(8, .bool false)] (H ++ [.cells [bn (c.kd k)]]) (g9 c (Sh c.O p (c.tm i) (c.tm k)) H) :=
  fun h => fin _ _ (Up.refl c _) mB ⟨fun h => by simp at h, fun h' => absurd h' h⟩
 have spv : ∀ x : AV, ag [AV.ah] 0 [x] = [x] := fun x => rfl
 simp +contextual only [p1, hD.d, lT, CM, ct, bS, k2, ei, ek, b1, b3, b4, b5, List.map_cons, List.map_nil, spv, List.all_cons, List.all_nil, Bool.and_true, bL, cV, sZ, Nat.reduceEqDiff, Nat.reduceAdd, Nat.reduceLT, ↓reduceIte, reduceCtorEq]
 refine ⟨hi, hk, af (ph hc hi mB) ?_⟩
 rintro r H2 ⟨rfl, rfl⟩
 cases hb : qN c i with
 | false =>
   have ki2 : ¬ (c.tm i).k = 2 := of_decide_eq_false hb
   simp +contextual only [dr, fe, ff, fg, hb, Bool.not_false, sZ, Nat.reduceEqDiff, ↓reduceIte, reduceCtorEq]
   exact fin0 fun h => ki2 (Cp h)
 | true =>
 have ki2 : (c.tm i).k = 2 := of_decide_eq_true hb
 have kid : ∀ (j : Int), (0 ≤ j ∧ j < (c.kd i).length) → (c.tm i).l.getD j.toNat default = c.tm ((c.kd i).getD j.toNat 0) := fun j hj => by rw [← ki.1, b9 (by omega)]
 have klen : (c.tm i).l.length = (c.kd i).length := by rw [← ki.1]; simp
 have kn : ∀ (j : Int), (0 ≤ j ∧ j < (c.kd i).length) → c.dF ((c.kd i).getD j.toNat 0) := fun j hj => ki.2 _ (aO (by omega))
 have lvun : (AV.tuple [.int .i64 (dq c i), .bool (tc c i k)]).ab = .tuple [.int .i64 (dq c i), .bool (tc c i k)] := rfl
 have hS := Sh2 (O := c.O) (b := c.tm k) qV ki2
 have e1 : ((2 : Int) = 1) = False := by simp
 simp +contextual only [dr, fe, ff, fg, hb, Bool.not_true, Ck, CN, NI, qV, not_true_eq_false, not_false_eq_true, decide_true, decide_false, aw, sZ, Nat.reduceEqDiff, Nat.reduceAdd, ↓reduceIte, reduceCtorEq, Int.reduceEq]
 have fAll : ∀ (G : List aa) (Q : Prop) (b0 : Bool), True := fun _ _ _ => trivial
 have hAS : kT (Sh c.O) p.l (c.tm i) ((c.kd k).map c.tm) ↔ kT (Sh c.O) p.l (c.tm i) (c.tm k).l := by rw [kk.1]
 refine fun _ => ⟨fun h0 => ⟨fun tn => fin0 fun h => tn (hS.1 h).2.1, fun tn => ?_⟩, fun h0 => fin0 fun h => ?_⟩
 ·have As : p.to = [] := List.length_eq_zero_iff.1 (by omega)
  refine af (Ea hc hi hk mB) ?_
  rintro r H2 ⟨rfl, rfl⟩
  simp +contextual only [Ck, lvun, decide_true, decide_false, qV, e1, sZ, Nat.reduceEqDiff, Nat.reduceAdd, Nat.reduceLT, ↓reduceIte]
  refine af (ph hc hi mB) ?_
  rintro r H2 ⟨rfl, rfl⟩
  simp +contextual only [dr, fe, ff, fg, sZ, Nat.reduceEqDiff, Nat.reduceAdd, ↓reduceIte]
  refine af (ph hc hk mB) ?_
  rintro r H2 ⟨rfl, rfl⟩
  have opi : pg c i = c.O.pl (c.tm i).n := by rw [pg, if_pos ki2]
  cases Ec : qN c k with
  | false =>
    have kk2 : ¬ (c.tm k).k = 2 := of_decide_eq_false Ec
    simp +contextual only [dr, fe, ff, fg, Ec, sZ, Nat.reduceEqDiff, ↓reduceIte, reduceCtorEq]
    exact fin0 fun h => kk2 (hS.1 h).2.2.1
  | true =>
    have kk2 : (c.tm k).k = 2 := of_decide_eq_true Ec
    have opk : pg c k = c.O.pl (c.tm k).n := by rw [pg, if_pos kk2]
    by_cases a8 : pg c k < pg c i
    ·simp +contextual only [J3, decide_true, dr, fe, ff, fg, Ec, a8, sZ, Nat.reduceEqDiff, Nat.reduceAdd, ↓reduceIte, reduceCtorEq]
     refine af (So ik (by omega) (q := H.length) ⟨by omega, by omega⟩ (fun j h1 h2 => fH _ (dO h2) _ _ hi (kk.2 _ (aO h1))) mB (by simp)) ?_
     rintro r G ⟨x, rfl, hx, hU, iW⟩
     simp +contextual only [sZ, Nat.reduceEqDiff, ↓reduceIte, reduceCtorEq]
     refine fin G x hU iW ?_
     rw [hx, hS, hAS]
     rw [opi, opk] at a8
     simp [As, tn, kk2, a8]
    ·simp +contextual only [decide_false, dr, fe, ff, fg, Ec, a8, sZ, Nat.reduceEqDiff, ↓reduceIte, reduceCtorEq]
     refine fin0 fun h => a8 ?_
     rw [opi, opk]
     exact (hS.1 h).2.2.2.1
 ·rw [(hS.1 h).1] at h0; simp at h0
theorem Wj {c : Cx} (hc : c.Ok) {p : PP} {i k : Int} (hi : c.dF i) (hk : c.dF k) (fH : ∀ q ∈ p.l, ∀ x y, c.dF x → c.dF y → iR c x y q) (NL : p.r = 4) : iR c i k p := by
 intro H hD
 refine wV.2.calls rfl ?_
 simp only [wV, aI]
 obtain ⟨p1, p2, p3, p4, p5, p6, p7, p8, p9⟩ := aW p
 have k2 : ∀ l, (bn l).ab = bn l := fun l => (aD l).2.1
 have ki := hc.kids i hi
 have kk := hc.kids k hk
 have l1 := hc.kl i hi
 have l2 := hc.kl k hk
 obtain ⟨a1, a2, a3, a4, a5⟩ := aD (c.kd i)
 obtain ⟨b1, b2, b3, b4, b5⟩ := aD (c.kd k)
 have ii : IL (bn (c.kd i)) (c.kd i) := .inl rfl
 have ik : IL (bn (c.kd k)) (c.kd k) := .inl rfl
 have ei : (c.nd.getD i.toNat default).snd = c.kd i := rfl
 have ek : (c.nd.getD k.toNat default).snd = c.kd k := rfl
 obtain ⟨m1, m2, m3⟩ := hD.lt
 have mB : Du c (H ++ [.cells [bn (c.kd k)]]) := hD.rI _
 have fin : ∀ G (b : Bool), Up c (H ++ [.cells [bn (c.kd k)]]) G → Du c G → (b = true ↔ Sh c.O p (c.tm i) (c.tm k)) → bT H.length [.t 8] [(8, .bool b)] G (g9 c (Sh c.O p (c.tm i) (c.tm k)) H) := by
  intro G b u d hb
  refine aV H.length (Nat.le_refl _) (by rw [ax, if_pos rfl]; rfl) ?_
  rw [ax, if_pos rfl]
  exact ⟨b, rfl, hb, u.take, d.take m1 m2 m3⟩
 have fin0 : ¬ Sh c.O p (c.tm i) (c.tm k) → bT H.length [.t 8] [(8, .bool false)] (H ++ [.cells [bn (c.kd k)]]) (g9 c (Sh c.O p (c.tm i) (c.tm k)) H) :=
  fun h => fin _ _ (Up.refl c _) mB ⟨fun h => by simp at h, fun h' => absurd h' h⟩
 have spv : ∀ x : AV, ag [AV.ah] 0 [x] = [x] := fun x => rfl
 simp +contextual only [p1, hD.d, lT, CM, ct, bS, k2, ei, ek, b1, b3, b4, b5, List.map_cons, List.map_nil, spv, List.all_cons, List.all_nil, Bool.and_true, bL, cV, sZ, Nat.reduceEqDiff, Nat.reduceAdd, Nat.reduceLT, ↓reduceIte, reduceCtorEq]
 refine ⟨hi, hk, af (ph hc hi mB) ?_⟩
 rintro r H2 ⟨rfl, rfl⟩
 cases hb : qN c i with
 | false =>
   have ki2 : ¬ (c.tm i).k = 2 := of_decide_eq_false hb
   simp +contextual only [dr, fe, ff, fg, hb, Bool.not_false, sZ, Nat.reduceEqDiff, ↓reduceIte, reduceCtorEq]
   exact fin0 fun h => ki2 (Cp h)
 | true =>
 have ki2 : (c.tm i).k = 2 := of_decide_eq_true hb
 have kid : ∀ (j : Int), (0 ≤ j ∧ j < (c.kd i).length) → (c.tm i).l.getD j.toNat default = c.tm ((c.kd i).getD j.toNat 0) := fun j hj => by rw [← ki.1, b9 (by omega)]
 have klen : (c.tm i).l.length = (c.kd i).length := by rw [← ki.1]; simp
 have kn : ∀ (j : Int), (0 ≤ j ∧ j < (c.kd i).length) → c.dF ((c.kd i).getD j.toNat 0) := fun j hj => ki.2 _ (aO (by omega))
 have lvun : (AV.tuple [.int .i64 (dq c i), .bool (tc c i k)]).ab = .tuple [.int .i64 (dq c i), .bool (tc c i k)] := rfl
 have hS := Sh4 (O := c.O) (b := c.tm k) NL ki2
 have e1 : ((4 : Int) = 1) = False := by simp
 simp +contextual only [dr, fe, ff, fg, hb, Bool.not_true, Ck, CN, NL, not_true_eq_false, not_false_eq_true, decide_true, decide_false, sZ, Nat.reduceEqDiff, Nat.reduceAdd, ↓reduceIte, reduceCtorEq, Int.reduceEq]
 refine ⟨fun tn => fin0 fun h => tn (hS.1 h).1, fun tn => ?_⟩
 refine af (Ea hc hi hk mB) ?_
 rintro r H2 ⟨rfl, rfl⟩
 have opi : pg c i = c.O.pl (c.tm i).n := by rw [pg, if_pos ki2]
 have osi : dq c i = c.O.sp (c.O.pl (c.tm i).n) := by rw [dq, if_pos ki2]
 cases hl : tc c i k with
 | false =>
   simp +contextual only [Ck, decide_true, decide_false, NL, e1, sZ, Nat.reduceEqDiff, Nat.reduceAdd, Nat.reduceLT, ↓reduceIte, reduceCtorEq, Int.reduceEq]
   exact fin0 fun h => by
    have := hS.1 h
    rw [jT.2 ⟨ki2, this.2.1, this.2.2.1⟩] at hl
    cases hl
 | true =>
   have J8 := jT.1 hl
   by_cases Ab : dq c i = 3
   ·simp +contextual only [p4, k2, Ck, qG, decide_true, decide_false, NL, e1, Ab, sZ, Nat.reduceEqDiff, Nat.reduceAdd, Nat.reduceLT, ↓reduceIte, reduceCtorEq, Int.reduceEq]
    refine af (ZJ ii ik (by omega) (by omega) p (fun x hx y hy => jC hc (ki.2 x hx) (kk.2 y hy)) (fun x hx y hy q hq => fH q hq _ _ (ki.2 x hx) (kk.2 y hy)) mB) ?_
    rintro r G ⟨x, rfl, hx, hU, iW⟩
    simp +contextual only [sZ, Nat.reduceEqDiff, ↓reduceIte, reduceCtorEq]
    refine fin G x hU iW ?_
    rw [hx, hS, Cm, ki.1, kk.1]
    rw [osi] at Ab
    exact ⟨fun h => ⟨tn, J8.2.1, J8.2.2, Ab, h⟩, fun h => h.2.2.2.2⟩
   ·have Hu : (dq c i = 3) = False := eq_false Ab
    simp +contextual only [Ck, decide_true, decide_false, NL, e1, Hu, sZ, Nat.reduceEqDiff, Nat.reduceAdd, Nat.reduceLT, ↓reduceIte, reduceCtorEq, Int.reduceEq]
    refine fin0 fun h => Ab ?_
    rw [osi]; exact (hS.1 h).2.2.2.1
theorem Wk {c : Cx} (hc : c.Ok) {p : PP} {i k : Int} (hi : c.dF i) (hk : c.dF k) (fH : ∀ q ∈ p.l, ∀ x y, c.dF x → c.dF y → iR c x y q) (yO : p.r ≠ 1) (qV : p.r ≠ 2) (KS : p.r ≠ 3) (NL : p.r ≠ 4) : iR c i k p := by
 intro H hD
 refine wV.2.calls rfl ?_
 simp only [wV, aI]
 obtain ⟨p1, p2, p3, p4, p5, p6, p7, p8, p9⟩ := aW p
 have k2 : ∀ l, (bn l).ab = bn l := fun l => (aD l).2.1
 have ki := hc.kids i hi
 have kk := hc.kids k hk
 have l1 := hc.kl i hi
 have l2 := hc.kl k hk
 obtain ⟨a1, a2, a3, a4, a5⟩ := aD (c.kd i)
 obtain ⟨b1, b2, b3, b4, b5⟩ := aD (c.kd k)
 have ii : IL (bn (c.kd i)) (c.kd i) := .inl rfl
 have ik : IL (bn (c.kd k)) (c.kd k) := .inl rfl
 have ei : (c.nd.getD i.toNat default).snd = c.kd i := rfl
 have ek : (c.nd.getD k.toNat default).snd = c.kd k := rfl
 obtain ⟨m1, m2, m3⟩ := hD.lt
 have mB : Du c (H ++ [.cells [bn (c.kd k)]]) := hD.rI _
 have fin : ∀ G (b : Bool), Up c (H ++ [.cells [bn (c.kd k)]]) G → Du c G → (b = true ↔ Sh c.O p (c.tm i) (c.tm k)) → bT H.length [.t 8] [(8, .bool b)] G (g9 c (Sh c.O p (c.tm i) (c.tm k)) H) := by
  intro G b u d hb
  refine aV H.length (Nat.le_refl _) (by rw [ax, if_pos rfl]; rfl) ?_
  rw [ax, if_pos rfl]
  exact ⟨b, rfl, hb, u.take, d.take m1 m2 m3⟩
 have fin0 : ¬ Sh c.O p (c.tm i) (c.tm k) → bT H.length [.t 8] [(8, .bool false)] (H ++ [.cells [bn (c.kd k)]]) (g9 c (Sh c.O p (c.tm i) (c.tm k)) H) :=
  fun h => fin _ _ (Up.refl c _) mB ⟨fun h => by simp at h, fun h' => absurd h' h⟩
 have spv : ∀ x : AV, ag [AV.ah] 0 [x] = [x] := fun x => rfl
 simp +contextual only [p1, hD.d, lT, CM, ct, bS, k2, ei, ek, b1, b3, b4, b5, List.map_cons, List.map_nil, spv, List.all_cons, List.all_nil, Bool.and_true, bL, cV, sZ, Nat.reduceEqDiff, Nat.reduceAdd, Nat.reduceLT, ↓reduceIte, reduceCtorEq]
 refine ⟨hi, hk, af (ph hc hi mB) ?_⟩
 rintro r H2 ⟨rfl, rfl⟩
 cases hb : qN c i with
 | false =>
   have ki2 : ¬ (c.tm i).k = 2 := of_decide_eq_false hb
   simp +contextual only [dr, fe, ff, fg, hb, Bool.not_false, sZ, Nat.reduceEqDiff, ↓reduceIte, reduceCtorEq]
   exact fin0 fun h => ki2 (Cp h)
 | true =>
 have ki2 : (c.tm i).k = 2 := of_decide_eq_true hb
 have kid : ∀ (j : Int), (0 ≤ j ∧ j < (c.kd i).length) → (c.tm i).l.getD j.toNat default = c.tm ((c.kd i).getD j.toNat 0) := fun j hj => by rw [← ki.1, b9 (by omega)]
 have klen : (c.tm i).l.length = (c.kd i).length := by rw [← ki.1]; simp
 have kn : ∀ (j : Int), (0 ≤ j ∧ j < (c.kd i).length) → c.dF ((c.kd i).getD j.toNat 0) := fun j hj => ki.2 _ (aO (by omega))
 have lvun : (AV.tuple [.int .i64 (dq c i), .bool (tc c i k)]).ab = .tuple [.int .i64 (dq c i), .bool (tc c i k)] := rfl
 have hS := Sh0 (O := c.O) (a := c.tm i) (b := c.tm k) yO qV KS NL
 simp +contextual only [dr, fe, ff, fg, hb, Bool.not_true, Ck, CN, NI, yO, KS, NL, not_true_eq_false, not_false_eq_true, decide_true, decide_false, aw, sZ, Nat.reduceEqDiff, Nat.reduceAdd, ↓reduceIte, reduceCtorEq]
 refine fun _ => ⟨fun h0 => ⟨fun tn => fin0 hS, fun tn => ?_⟩, fun h0 => fin0 hS⟩
 refine af (Ea hc hi hk mB) ?_
 rintro r H2 ⟨rfl, rfl⟩
 simp +contextual only [Ck, lvun, decide_false, yO, qV, KS, NL, sZ, Nat.reduceEqDiff, Nat.reduceAdd, Nat.reduceLT, ↓reduceIte, reduceCtorEq]
 exact fin0 hS
end Go.aK
end
section
set_option maxRecDepth 100000
namespace Go.aK
open Go Go.Proofs Go.fE
theorem Wl {O : Od} {f : Int → T} {at' : Int} {l : List PP} {a : T} {x y kd : List Int} {bl : List T} (hb : kd.map f = bl) : Ci (E O) (Sh O) at' l a (x.map f) (y.map f) bl ↔
 (0 ≤ at' ∧ at' < x.length ∧ at' ≤ y.length) ∧ (∀ j, j < at'.toNat → E O (f (x.getD j 0)) (f (y.getD j 0))) ∧
 (if at' = y.length then kT (Sh O) l a (kd.map f) else ∃ q r, l = q :: r ∧ Sh O q (f (x.getD at'.toNat 0)) (f (y.getD at'.toNat 0)) ∧ kT (Sh O) r a (kd.map f)) := by
 unfold Ci
 rw [hb]
 simp only [List.length_map]
 refine and_congr_right fun h => ?_
 have e : ∀ j, j < at'.toNat → ((x.map f).getD j default = f (x.getD j 0) ∧ (y.map f).getD j default = f (y.getD j 0)) := fun j hj => ⟨b9 (by omega), b9 (by omega)⟩
 refine and_congr ⟨fun k j hj => ?_, fun k j hj => ?_⟩ ?_
 ·have := k j hj; rwa [(e j hj).1, (e j hj).2] at this
 ·rw [(e j hj).1, (e j hj).2]; exact k j hj
 ·split
  ·exact Iff.rfl
  ·rw [b9 (by omega), b9 (by omega)]
theorem Wm {c : Cx} (hc : c.Ok) {p : PP} {i k : Int} (hi : c.dF i) (hk : c.dF k) (fH : ∀ q ∈ p.l, ∀ x y, c.dF x → c.dF y → iR c x y q) (KS : p.r = 3) : iR c i k p := by
 intro H hD
 refine wV.2.calls rfl ?_
 simp only [wV, aI]
 obtain ⟨p1, p2, p3, p4, p5, p6, p7, p8, p9⟩ := aW p
 have k2 : ∀ l, (bn l).ab = bn l := fun l => (aD l).2.1
 have ki := hc.kids i hi
 have kk := hc.kids k hk
 have l1 := hc.kl i hi
 have l2 := hc.kl k hk
 obtain ⟨a1, a2, a3, a4, a5⟩ := aD (c.kd i)
 obtain ⟨b1, b2, b3, b4, b5⟩ := aD (c.kd k)
 have ii : IL (bn (c.kd i)) (c.kd i) := .inl rfl
 have ik : IL (bn (c.kd k)) (c.kd k) := .inl rfl
 have ei : (c.nd.getD i.toNat default).snd = c.kd i := rfl
 have ek : (c.nd.getD k.toNat default).snd = c.kd k := rfl
 obtain ⟨m1, m2, m3⟩ := hD.lt
 have mB : Du c (H ++ [.cells [bn (c.kd k)]]) := hD.rI _
 have fin : ∀ G (b : Bool), Up c (H ++ [.cells [bn (c.kd k)]]) G → Du c G → (b = true ↔ Sh c.O p (c.tm i) (c.tm k)) → bT H.length [.t 8] [(8, .bool b)] G (g9 c (Sh c.O p (c.tm i) (c.tm k)) H) := by
  intro G b u d hb
  refine aV H.length (Nat.le_refl _) (by rw [ax, if_pos rfl]; rfl) ?_
  rw [ax, if_pos rfl]
  exact ⟨b, rfl, hb, u.take, d.take m1 m2 m3⟩
 have fin0 : ¬ Sh c.O p (c.tm i) (c.tm k) → bT H.length [.t 8] [(8, .bool false)] (H ++ [.cells [bn (c.kd k)]]) (g9 c (Sh c.O p (c.tm i) (c.tm k)) H) :=
  fun h => fin _ _ (Up.refl c _) mB ⟨fun h => by simp at h, fun h' => absurd h' h⟩
 have spv : ∀ x : AV, ag [AV.ah] 0 [x] = [x] := fun x => rfl
 simp +contextual only [p1, hD.d, lT, CM, ct, bS, k2, ei, ek, b1, b3, b4, b5, List.map_cons, List.map_nil, spv, List.all_cons, List.all_nil, Bool.and_true, bL, cV, sZ, Nat.reduceEqDiff, Nat.reduceAdd, Nat.reduceLT, ↓reduceIte, reduceCtorEq]
 refine ⟨hi, hk, af (ph hc hi mB) ?_⟩
 rintro r H2 ⟨rfl, rfl⟩
 cases hb : qN c i with
 | false =>
   have ki2 : ¬ (c.tm i).k = 2 := of_decide_eq_false hb
   simp +contextual only [dr, fe, ff, fg, hb, Bool.not_false, sZ, Nat.reduceEqDiff, ↓reduceIte, reduceCtorEq]
   exact fin0 fun h => ki2 (Cp h)
 | true =>
 have ki2 : (c.tm i).k = 2 := of_decide_eq_true hb
 have kid : ∀ (j : Int), (0 ≤ j ∧ j < (c.kd i).length) → (c.tm i).l.getD j.toNat default = c.tm ((c.kd i).getD j.toNat 0) := fun j hj => by rw [← ki.1, b9 (by omega)]
 have klen : (c.tm i).l.length = (c.kd i).length := by rw [← ki.1]; simp
 have kn : ∀ (j : Int), (0 ≤ j ∧ j < (c.kd i).length) → c.dF ((c.kd i).getD j.toNat 0) := fun j hj => ki.2 _ (aO (by omega))
 have lvun : (AV.tuple [.int .i64 (dq c i), .bool (tc c i k)]).ab = .tuple [.int .i64 (dq c i), .bool (tc c i k)] := rfl
 have hS := Sh3 (O := c.O) (b := c.tm k) KS ki2
 have e1 : ((3 : Int) = 1) = False := by simp
 simp +contextual only [dr, fe, ff, fg, hb, Bool.not_true, Ck, NI, KS, not_true_eq_false, not_false_eq_true, decide_true, decide_false, aw, sZ, Nat.reduceEqDiff, Nat.reduceAdd, ↓reduceIte, reduceCtorEq, Int.reduceEq]
 refine fun _ => ⟨fun h0 => ?_, fun h0 => fin0 fun h => ?_⟩
 ·have As : p.to = [] := List.length_eq_zero_iff.1 (by omega)
  refine af (Ea hc hi hk mB) ?_
  rintro r H2 ⟨rfl, rfl⟩
  simp +contextual only [k2, Ck, lvun, decide_true, decide_false, KS, e1, sZ, Nat.reduceEqDiff, Nat.reduceAdd, Nat.reduceLT, ↓reduceIte, Int.reduceEq]
  refine aF (Hc (c.kd i) (dq c i) (by omega)) ?_
  simp +contextual only [k2, sZ, Nat.reduceEqDiff, Nat.reduceAdd, Nat.reduceLT, ↓reduceIte]
  refine aF (Hc (c.kd k) (dq c i) (by omega)) ?_
  have opi : pg c i = c.O.pl (c.tm i).n := by rw [pg, if_pos ki2]
  have osi : dq c i = c.O.sp (c.O.pl (c.tm i).n) := by rw [dq, if_pos ki2]
  have hx : side (c.O.sp (c.O.pl (c.tm i).n)) (c.tm i).l = (bD (dq c i) (c.kd i)).map c.tm := by rw [← osi, ← ki.1, jd]
  have hy : side (c.O.sp (c.O.pl (c.tm i).n)) (c.tm k).l = (bD (dq c i) (c.kd k)).map c.tm := by rw [← osi, ← kk.1, jd]
  rw [hx, hy, Wl (kd := c.kd k) kk.1] at hS
  have lx : (bD (dq c i) (c.kd i)).length = (c.kd i).length := jb
  have ly : (bD (dq c i) (c.kd k)).length = (c.kd k).length := jb
  have nx : ∀ z ∈ bD (dq c i) (c.kd i), c.dF z := fun z hz => ki.2 z (og.1 hz)
  have ny : ∀ z ∈ bD (dq c i) (c.kd k), c.dF z := fun z hz => kk.2 z (og.1 hz)
  generalize bD (dq c i) (c.kd i) = x at *
  generalize bD (dq c i) (c.kd k) = y at *
  have ix : IL (.ap 0 (ints x)) x := .inr rfl
  have iy : IL (.ap 0 (ints y)) y := .inr rfl
  cases hl : tc c i k with
  | false =>
    simp +contextual only [Bool.not_false, sZ, Nat.reduceEqDiff, ↓reduceIte, reduceCtorEq]
    exact fin0 fun h => by
     have := hS.1 h
     rw [jT.2 ⟨ki2, this.2.1, this.2.2.1⟩] at hl
     cases hl
  | true =>
  have J8 := jT.1 hl
  by_cases Ab : dq c i = 3
  ·have ZL : (dq c i = 3) = True := eq_true Ab
   simp +contextual only [decide_true, Bool.not_true, ZL, sZ, Nat.reduceEqDiff, ↓reduceIte, reduceCtorEq]
   refine fin0 fun h => (hS.1 h).2.2.2.1 ?_
   rw [← osi]; exact Ab
  ·have Hu : (dq c i = 3) = False := eq_false Ab
   have lvun' : True := trivial
   by_cases hI : 0 ≤ p.i ∧ p.i < x.length ∧ p.i ≤ y.length
   ·have n1 : (p.i < 0) = False := eq_false (by omega)
    have n2 : ((x.length : Int) ≤ p.i) = False := eq_false (by omega)
    have n3 : ((y.length : Int) < p.i) = False := eq_false (by omega)
    simp +contextual only [Option.map_some, Option.map_none, CN, decide_false, Bool.not_true, Hu, n1, n2, n3, ix.aL, iy.aL, ix.vn, iy.vn, slT x p.i ⟨hI.1, by omega⟩, slT y p.i ⟨hI.1, by omega⟩, sZ, Nat.reduceEqDiff, Nat.reduceAdd, ↓reduceIte, reduceCtorEq]
    refine af (VQ (SD.zS c _) (.inr rfl : IL (.ap 0 (ints (x.take p.i.toNat))) (x.take p.i.toNat)) (.inr rfl : IL (.ap 0 (ints (y.take p.i.toNat))) (y.take p.i.toNat)) (by rw [List.length_take]; omega) (by rw [List.length_take]; omega) 79 [.ptr c.d 0] [] rfl rfl (Q := fun x y => E c.O (c.tm x) (c.tm y))
     (fun u hu v hv G hG => (jC hc (nx u (List.mem_of_mem_take hu)) (ny v (List.mem_of_mem_take hv)) G hG.1).mono fun r H' hr => hr.sb hG) ⟨mB, Up.refl c _⟩) ?_
    rintro r G ⟨z, rfl, hz, hG⟩
    have HL : z = true ↔ ∀ j, j < p.i.toNat → E c.O (c.tm (x.getD j 0)) (c.tm (y.getD j 0)) := by
     rw [hz]
     have lt1 : (x.take p.i.toNat).length = p.i.toNat := by rw [List.length_take]; omega
     have lt2 : (y.take p.i.toNat).length = p.i.toNat := by rw [List.length_take]; omega
     rw [lt1, lt2]
     have et : ∀ (l : List Int) j, j < p.i.toNat → (l.take p.i.toNat).getD j 0 = l.getD j 0 := fun l j hj => by simp [List.getD_eq_getElem?_getD, hj]
     constructor
     ·rintro ⟨_, h⟩ j hj; have := h j hj; rwa [et _ _ hj, et _ _ hj] at this
     ·intro h; exact ⟨rfl, fun j hj => by rw [et _ _ hj, et _ _ hj]; exact h j hj⟩
    have finG : ∀ G' (b : Bool), Up c G G' → Du c G' → (b = true ↔ Sh c.O p (c.tm i) (c.tm k)) → bT H.length [.t 8] [(8, .bool b)] G' (g9 c (Sh c.O p (c.tm i) (c.tm k)) H) := fun G' b u d hb => fin G' b (hG.2.trans u) d hb
    have finG0 : ¬ Sh c.O p (c.tm i) (c.tm k) → bT H.length [.t 8] [(8, .bool false)] G (g9 c (Sh c.O p (c.tm i) (c.tm k)) H) :=
     fun h => finG _ _ (Up.refl c _) hG.1 ⟨fun h => by simp at h, fun h' => absurd h' h⟩
    have gq : G[H.length]? = some (.cells [bn (c.kd k)]) := by rw [hG.2.get H.length (by omega) (by omega)]; simp
    cases z with
    | false =>
      simp +contextual only [Bool.not_false, sZ, Nat.reduceEqDiff, ↓reduceIte, reduceCtorEq]
      exact finG0 fun h => absurd (HL.2 (hS.1 h).2.2.2.2.2.1) (by simp)
    | true =>
      have hz1 := HL.1 rfl
      by_cases he : p.i = y.length
      ·have n4 : (p.i = (y.length : Int)) = True := eq_true he
       simp +contextual only [CN, J3, decide_true, Bool.not_true, iy.len (by omega), iy.aL, n4, sZ, Nat.reduceEqDiff, Nat.reduceAdd, ↓reduceIte, reduceCtorEq]
       refine af (So ik (by omega) (q := H.length) ⟨by omega, by omega⟩ (fun j h1 h2 => fH _ (dO h2) _ _ hi (kk.2 _ (aO h1))) hG.1 gq) ?_
       rintro r G' ⟨w, rfl, hw, hU, iW⟩
       simp +contextual only [sZ, ↓reduceIte, reduceCtorEq]
       refine finG G' w hU iW ?_
       rw [hw, hS]
       rw [if_pos he]
       rw [osi] at Ab
       exact ⟨fun h => ⟨As, J8.2.1, J8.2.2, Ab, hI, hz1, h⟩, fun h => h.2.2.2.2.2.2⟩
      ·have n4 : (p.i = (y.length : Int)) = False := eq_false he
       rw [if_neg he] at hS
       cases v8 : p.l with
       | nil =>
         have n5 : (0 < ((0 : Nat) : Int)) = False := eq_false (by simp)
         simp +contextual only [CN, J3, ej, decide_false, Bool.not_true, iy.len (by omega), iy.aL, n4, v8, kG, n5, sZ, Nat.reduceEqDiff, ↓reduceIte, reduceCtorEq]
         exact finG0 fun h => by
          obtain ⟨q, r, e, _⟩ := (hS.1 h).2.2.2.2.2.2
          rw [v8] at e; cases e
       | cons q r =>
         have n5 : (0 < ((r.length + 1 : Nat) : Int)) = True := eq_true (by omega)
         have n6 : (q :: r).getD (0 : Int).toNat default = q := rfl
         obtain ⟨q1, q2, q3, q4, q5, q6, q7, q8, q9⟩ := aW q
         simp only [v8] at hS fH
         simp +contextual only [CN, J3, z8, qF, qG, ej, decide_true, decide_false, Bool.not_true, iy.len (by omega), iy.aL, n4, v8, kG, n5, n6, ix.idx, iy.idx, ix.lens, iy.lens, q4, sZ, Nat.reduceEqDiff, Nat.reduceAdd, ↓reduceIte, reduceCtorEq]
         refine ⟨by omega, by omega, by omega, af (fH q List.mem_cons_self _ _ (nx _ (aO (by omega))) (ny _ (aO (by omega))) G hG.1) ?_⟩
         rintro r' G2 ⟨w, rfl, hw, hU, Aq⟩
         cases w with
         | false =>
           simp +contextual only [sZ, Nat.reduceEqDiff, ↓reduceIte, reduceCtorEq]
           refine finG G2 false hU Aq ⟨fun h => by simp at h, fun h => ?_⟩
           obtain ⟨q', r', e, h', _⟩ := (hS.1 h).2.2.2.2.2.2
           cases e
           exact hw.2 h'
         | true =>
           have gq2 : G2[H.length]? = some (.cells [bn (c.kd k)]) := by rw [hU.get H.length (by omega) (by omega), gq]
           simp +contextual only [Option.map_some, Option.map_none, J3, Wg, v8, sZ, Nat.reduceEqDiff, Nat.reduceAdd, ↓reduceIte, reduceCtorEq]
           refine af (So ik (by omega) (q := H.length) ⟨by omega, by omega⟩ (fun j h1 h2 => fH _ (List.mem_cons_of_mem _ (dO h2)) _ _ hi (kk.2 _ (aO h1))) Aq gq2) ?_
           rintro r' G3 ⟨v, rfl, hv, VV, JR⟩
           simp +contextual only [sZ, Nat.reduceEqDiff, ↓reduceIte, reduceCtorEq]
           refine finG G3 v (hU.trans VV) JR ?_
           rw [hv, hS]
           rw [osi] at Ab
           constructor
           ·exact fun h => ⟨As, J8.2.1, J8.2.2, Ab, hI, hz1, q, r, rfl, hw.1 rfl, h⟩
           ·rintro ⟨_, _, _, _, _, _, q', r', e, _, h⟩
            cases e
            exact h
   ·have bad : ¬ Sh c.O p (c.tm i) (c.tm k) := fun h => hI (hS.1 h).2.2.2.2.1
    by_cases m1' : p.i < 0
    ·have n1 : (p.i < 0) = True := eq_true m1'
     simp +contextual only [CN, decide_true, decide_false, Bool.not_true, Hu, n1, sZ, Nat.reduceEqDiff, ↓reduceIte, reduceCtorEq]
     exact fin0 bad
    ·have n1 : (p.i < 0) = False := eq_false m1'
     by_cases m2' : (x.length : Int) ≤ p.i
     ·have n2 : ((x.length : Int) ≤ p.i) = True := eq_true m2'
      simp +contextual only [CN, decide_true, decide_false, Bool.not_true, Hu, n1, n2, ix.aL, ix.vn, sZ, Nat.reduceEqDiff, ↓reduceIte, reduceCtorEq]
      exact fin0 bad
     ·have n2 : ((x.length : Int) ≤ p.i) = False := eq_false m2'
      have n3 : ((y.length : Int) < p.i) = True := eq_true (by omega)
      simp +contextual only [CN, decide_true, decide_false, Bool.not_true, Hu, n1, n2, n3, ix.aL, iy.aL, ix.vn, iy.vn, sZ, Nat.reduceEqDiff, ↓reduceIte, reduceCtorEq]
      exact fin0 bad
 ·rw [(hS.1 h).1] at h0; simp at h0
end Go.aK
end
section
set_option maxRecDepth 100000
namespace Go.aK
open Go Go.Proofs Go.fE
theorem c87 {c : Cx} (hc : c.Ok) : ∀ (N : Nat) (p : PP) (i k : Int), pz p ≤ N → c.dF i → c.dF k → iR c i k p := by
 intro N
 induction N with
 | zero => intro p i k h; have := z6 p; omega
 | succ N ih =>
 intro p i k hN hi hk
 have fH : ∀ q ∈ p.l, ∀ x y, c.dF x → c.dF y → iR c x y q := fun q hq x y hx hy => ih q x y (by have := z7 hq; omega) hx hy
 by_cases h1 : p.r = 1
 ·exact Wh hc hi hk fH h1
 by_cases h2 : p.r = 2
 ·exact Wi hc hi hk fH h2
 by_cases h3 : p.r = 3
 ·exact Wm hc hi hk fH h3
 by_cases h4 : p.r = 4
 ·exact Wj hc hi hk fH h4
 exact Wk hc hi hk fH h1 h2 h3 h4
theorem Sp {c : Cx} (hc : c.Ok) {p : PP} {i k : Int} (hi : c.dF i) (hk : c.dF k) : iR c i k p := c87 hc _ p i k (Nat.le_refl _) hi hk
open Classical in
noncomputable def Cq (s : Sg) (ps ss : List Int) (a b : T) (p : PP) : Int := if fo s ps ss [a, b] = 0 then (if Sh (kO ps ss) p a b then 0 else 61) else fo s ps ss [a, b]
theorem c28 (s : Sg) (ps ss : List Int) (a b : T) (p : PP) : Pure Tryz.prog 28 [s.av, eN ps ss, a.av, b.av, dQ p] (.int .i64 (Cq s ps ss a b p)) := by
 refine fun H => k28.2.calls rfl ?_
 simp only [k28, aI]
 obtain ⟨q1, q2, q3, q4, q5, q6⟩ := bf ps ss
 obtain ⟨p1, p2, p3, p4, p5, p6, p7, p8, p9⟩ := aW p
 simp +contextual only [aB, q1, q4, p1, cA, sZ, Nat.reduceEqDiff, Nat.reduceAdd, ↓reduceIte, reduceCtorEq]
 refine ae (V9 s ps ss [a, b]) ?_
 by_cases h0 : fo s ps ss [a, b] = 0
 ·have hr := qE h0
  have hw := lW hr.tree
  have hc := hr.cx (by simp) (by simp) H.length
  have hd := x9 ps ss (ts := [a, b]) (by simp) H
  simp +contextual only [q4, cA, h0, sZ, Nat.reduceEqDiff, Nat.reduceAdd, ↓reduceIte]
  refine af (VL ps ss [a, b] H (by simp at hw; omega)) ?_
  rintro r G ⟨rfl, rfl⟩
  have a0 := sP (ps := ps) (ss := ss) (ts := [a, b]) (n := H.length) (j := 0) (by simp)
  have a1 := sP (ps := ps) (ss := ss) (ts := [a, b]) (n := H.length) (j := 1) (by simp)
  have hl := cr [a, b] 0
  rw [NE]
  generalize aT [a, b] 0 = ks at a0 a1 hl ⊢
  have nJ : ks.length = 2 := hl
  simp +contextual only [cu, nJ, dx, qG, p4, sZ, Nat.reduceEqDiff, Nat.reduceAdd, Nat.reduceLT, ↓reduceIte, reduceCtorEq]
  refine ⟨by decide, by decide, af (Sp hc a0.1 a1.1 _ hd) ?_⟩
  rintro r G ⟨x, rfl, hx, hU, hD⟩
  rw [a0.2, a1.2] at hx
  have v9 : x = true ↔ Sh (kO ps ss) p a b := hx
  have Wn := hU.low (by simp [fW]) (by simp [fW])
  cases x with
  | true =>
    simp +contextual only [Bool.not_true, sZ, ↓reduceIte, reduceCtorEq]
    exact Nj Wn rfl rfl ⟨by rw [Cq, if_pos h0, if_pos (v9.1 rfl)], rfl⟩
  | false =>
    simp +contextual only [Bool.not_false, sZ, ↓reduceIte, reduceCtorEq]
    exact Nj Wn rfl rfl ⟨by rw [Cq, if_pos h0, if_neg (fun h => absurd (v9.2 h) (by simp))], rfl⟩
 ·simp +contextual only [h0, sZ, Nat.reduceEqDiff, ↓reduceIte, reduceCtorEq]
  exact aZ rfl (by rw [Cq, if_neg h0])
end Go.aK
end
section
set_option maxRecDepth 100000
set_option maxHeartbeats 0
namespace Go.aK
open Go Go.Proofs
noncomputable def Cr := aI Tryz.call86 Tryz.func86 Tryz.ntmps86 [(0,0,1),(0,1,1),(3,6,2000),(8,2,2000),(9,7,2000),(10,7,2000),(10,8,1),(10,10,1),(13,3,2000),(16,3,1000),(19,3,2000),(20,9,2000),(21,1,1),(21,6,1),(21,11,1),(21,13,1),(27,3,2000),(29,1,1),(29,13,2000),(29,17,1),(33,1,1),(33,5,2000),(33,9,1)] [(0,[1,3,5,6]),(1,[1,3,5,6,7,8]),(2,[1,3,5,6,7,8,9]),(3,[1,3,5,6,7,8,9,47]),(4,[1,3,5,6,7,8,9]),(5,[1,3,5,6,7,8,9,10]),(6,[1,3,5,6,7,8,10,52]),(7,[1,3,5,6,7,8,10,52,53]),(8,[3,5,6,7,10]),(9,[3,5,6,7,10,67]),(10,[6,10]),(11,[6]),(12,[1,3,6,7,8,10,52,79]),(13,[3,6,7,8,10,11,13]),(14,[3,6,7,8,10,11,89,90,91]),(15,[3,6,7,8,10,11,89,90,91,92]),(16,[3,6,7,8,10,11,14,15,89,90,91]),(17,[3,6,7,8,10,11,14,15,16,89,90,91]),(18,[3,6,7,8,10,11,14,15,16,89,90,91,97]),(19,[3,6,7,8,10,11,14,15,16,89,90,91]),(20,[3,6,7,8,10,11,15,16,89,90,91]),(21,[3,6,7,8,10,11,89,90,91]),(22,[3,6,7,8,10,11,89,90,91]),(23,[6]),(24,[1,3,6,7,8,10,128]),(25,[1,3,6,7,8,10,18]),(26,[1,3,6,8,10,20,21]),(27,[1,3,6,8,10,20,21]),(28,[1,3,6,8,10,20,21,152]),(29,[1,3,6,8,10]),(30,[1,3,6,10,170,171,172]),(31,[1,3,6,10,170,171,172,173]),(32,[1,3,6,10,23,170,171,172]),(33,[1,3,6,10,170,171,172]),(34,[1,3,6,10,170,171,172]),(35,[6])] [(1,(.take 0 true (.take 1 true (.take 2 true (.take 3 true (.take 4 true (.take 5 true (.take 6 true (.take 7 true (.take 8 false (.take 9 false (.take 10 false (.take 12 false (.br 11 (.take 13 false (.take 14 false (.take 15 false (.br 16 (.br 17 (.br 18 (.br 19 .done .nil) .nil) .nil) (.br 17 (.br 16 (.br 18 (.br 19 .done .nil) .nil) .nil) .nil))))) (.br 16 (.br 11 (.take 13 false (.take 14 false (.take 15 false (.br 17 (.br 18 (.br 19 .done .nil) .nil) .nil)))) (.br 17 (.br 11 (.take 13 false (.take 14 false (.take 15 false (.br 18 (.br 19 .done .nil) .nil)))) (.br 18 (.take 11 true (.take 13 true (.take 14 true (.take 15 true (.br 19 .done .nil))))) .nil)) .nil)) (.br 17 (.br 11 (.take 13 false (.take 14 false (.take 15 false (.br 16 (.br 18 (.br 19 .done .nil) .nil) .nil)))) (.br 16 (.br 11 (.take 13 false (.take 14 false (.take 15 false (.br 18 (.br 19 .done .nil) .nil)))) (.br 18 (.take 11 true (.take 13 true (.take 14 true (.take 15 true (.br 19 .done .nil))))) .nil)) .nil)) .nil)))))))))))))))),(3,(.take 0 true (.take 1 true (.take 2 true (.take 3 true (.take 4 true (.take 5 true (.br 6 (.take 7 true .done) .nil)))))))),(9,(.take 0 true (.take 1 true (.take 2 true (.take 3 true (.take 4 true (.take 5 true (.take 6 true (.br 7 (.take 8 true .done) .nil))))))))),(10,(.take 0 true (.take 1 true (.take 2 true (.take 3 true (.take 4 true (.take 5 true (.take 6 true (.br 7 (.take 8 true (.take 9 true (.br 10 .done .nil))) .nil))))))))),(20,(.take 0 true (.take 1 true (.take 2 true (.take 3 true (.take 4 true (.take 5 true (.take 6 true (.take 7 true (.take 8 true (.br 9 (.br 10 .done .nil) .nil))))))))))),(21,(.take 0 false (.take 2 false (.take 3 false (.take 5 false (.br 1 (.br 4 (.br 6 (.take 7 true (.take 8 true (.take 10 true (.br 9 (.br 11 (.take 12 true (.br 13 .done .nil)) .nil) .nil)))) (.br 7 (.take 8 false (.br 6 (.take 10 true (.br 9 (.br 11 (.take 12 true (.br 13 .done .nil)) .nil) .nil)) .nil)) .nil)) (.br 6 (.take 7 true (.take 8 true (.br 4 (.take 10 true (.br 9 (.br 11 (.take 12 true (.br 13 .done .nil)) .nil) .nil)) .nil))) (.br 7 (.take 8 false (.br 4 (.br 6 (.take 10 true (.br 9 (.br 11 (.take 12 true (.br 13 .done .nil)) .nil) .nil)) .nil) (.br 6 (.br 4 (.take 10 true (.br 9 (.br 11 (.take 12 true (.br 13 .done .nil)) .nil) .nil)) .nil) .nil))) .nil))) (.br 6 (.br 1 (.take 7 true (.take 8 true (.br 4 (.take 10 true (.br 9 (.br 11 (.take 12 true (.br 13 .done .nil)) .nil) .nil)) .nil))) (.br 7 (.take 8 false (.br 1 (.br 4 (.take 10 true (.br 9 (.br 11 (.take 12 true (.br 13 .done .nil)) .nil) .nil)) .nil) .nil)) .nil)) (.br 7 (.take 8 false (.br 1 (.br 4 (.br 6 (.take 10 true (.br 9 (.br 11 (.take 12 true (.br 13 .done .nil)) .nil) .nil)) .nil) (.br 6 (.br 4 (.take 10 true (.br 9 (.br 11 (.take 12 true (.br 13 .done .nil)) .nil) .nil)) .nil) .nil)) (.br 6 (.br 1 (.br 4 (.take 10 true (.br 9 (.br 11 (.take 12 true (.br 13 .done .nil)) .nil) .nil)) .nil) .nil) .nil))) .nil)))))))),(26,(.take 0 true (.take 1 true (.take 2 true (.take 3 true (.take 4 true (.take 5 true (.take 6 true (.take 7 true .done))))))))),(29,(.take 0 false (.take 2 false (.take 3 false (.take 4 false (.take 8 false (.take 9 false (.br 1 (.take 5 true (.take 6 true (.take 7 true (.take 10 true (.take 11 true (.take 12 true (.br 13 (.take 14 true (.br 15 (.take 16 true (.br 17 .done .nil)) .nil)) .nil))))))) (.br 5 (.take 6 false (.take 7 false (.br 1 (.take 10 true (.take 11 true (.take 12 true (.br 13 (.take 14 true (.br 15 (.take 16 true (.br 17 .done .nil)) .nil)) .nil)))) (.br 10 (.take 11 false (.take 12 false (.br 1 (.br 13 (.take 14 true (.br 15 (.take 16 true (.br 17 .done .nil)) .nil)) .nil) (.br 13 (.take 14 false (.br 1 (.br 15 (.take 16 true (.br 17 .done .nil)) .nil) .nil)) .nil)))) .nil)))) (.br 10 (.take 11 false (.take 12 false (.br 1 (.take 5 true (.take 6 true (.take 7 true (.br 13 (.take 14 true (.br 15 (.take 16 true (.br 17 .done .nil)) .nil)) .nil)))) (.br 5 (.take 6 false (.take 7 false (.br 1 (.br 13 (.take 14 true (.br 15 (.take 16 true (.br 17 .done .nil)) .nil)) .nil) (.br 13 (.take 14 false (.br 1 (.br 15 (.take 16 true (.br 17 .done .nil)) .nil) .nil)) .nil)))) .nil)))) .nil)))))))))),(33,(.take 0 false (.take 2 false (.take 3 false (.take 4 false (.br 1 (.br 5 (.take 6 true (.br 7 (.take 8 true (.br 9 .done .nil)) .nil)) .nil) (.br 5 (.take 6 false (.br 1 (.br 7 (.take 8 true (.br 9 .done .nil)) .nil) .nil)) .nil)))))))]
end Go.aK
end
section
set_option maxRecDepth 100000
namespace Go.aK
open Go Go.Proofs Go.fE
def ow (l : List PP) : AV := match l with | [] => .ah | _ :: _ => .ap 4 (dP l)
def sR (l : List Int) : AV := match l with | [] => .ah | _ :: _ => .ap 1 (ints l)
theorem gU (l : List PP) : (ow l).val = true ∧ (ow l).cells = [ow l] ∧ (ow l).one = true ∧ (∀ n, (ow l).aY n = true) ∧ (ow l).drop = .ap 0 (dP l) ∧ ∀ n, (ow l).ab.aY n = true := by
 cases l with
 | nil => exact ⟨rfl, rfl, rfl, fun _ => rfl, rfl, fun _ => rfl⟩
 | cons x r => exact ⟨rfl, rfl, rfl, fun n => by rw [ow, cU]; exact iq _ _, rfl, fun n => by rw [ow, uR, cU]; exact iq _ _⟩
theorem kV (l : List Int) : (sR l).val = true ∧ (sR l).cells = [sR l] ∧ (sR l).one = true ∧ (∀ n, (sR l).aY n = true) ∧ (sR l).drop = .ap 0 (ints l) ∧ ∀ n, (sR l).ab.aY n = true := by
 cases l with
 | nil => exact ⟨rfl, rfl, rfl, fun _ => rfl, rfl, fun _ => rfl⟩
 | cons x r => exact ⟨rfl, rfl, rfl, fun n => by rw [sR, cU]; exact bk _ _, rfl, fun n => by rw [sR, uR, cU]; exact bk _ _⟩
theorem J9 (a b : List PP) : dP (a ++ b) = dP a ++ dP b := by simp [kU]
theorem Cs (l : List PP) (q : PP) (h : l.length < 1000000000) (o : Nat) (ψ : List AV → Prop) : bE 4 64 (ow l) (.ap o [dQ q]) ψ = ψ (dP (l ++ [q])) := by
 have jI : sX 4 [dQ q] := of_eq_true (Sm [q])
 rw [J9]
 cases l with
 | nil => rw [ow, nX]; simp [jI, dP]
 | cons x r =>
   rw [ow, nc, ej]
   have e : dP [q] = [dQ q] := rfl
   rw [e]
   simp only [jI, List.length_cons, List.length_nil, true_and, eq_iff_iff]
   simp only [List.length_cons] at h
   exact ⟨fun h => h.2, fun k => ⟨by omega, k⟩⟩
theorem Pc (l : List Int) (q : Int) (h : l.length < 1000000000) (o : Nat) (ψ : List AV → Prop) : bE 1 8 (sR l) (.ap o [.int .i64 q]) ψ = ψ (ints (l ++ [q])) := by
 have jI : sX 1 [AV.int .i64 q] := of_eq_true (lO [q])
 have e : ints [q] = [AV.int .i64 q] := rfl
 cases l with
 | nil => rw [sR, nX]; simp [jI, ints]
 | cons x r =>
   rw [sR, nc, aw, ← kQ, e]
   simp only [jI, List.length_cons, List.length_nil, true_and, eq_iff_iff]
   simp only [List.length_cons] at h
   exact ⟨fun h => h.2, fun k => ⟨by omega, k⟩⟩
theorem je (q : PP) : aS (dQ q) = dQ q := by rw [nA]; rfl
theorem qH (l : List PP) (q : PP) : AV.ap 4 (dP (l ++ [q])) = ow (l ++ [q]) := by cases l <;> rfl
theorem Ct (l : List Int) (q : Int) : AV.ap 1 (ints (l ++ [q])) = sR (l ++ [q]) := by cases l <;> rfl
theorem d3 {α : Type} (x y z u d : α) (r : List α) : (x :: y :: z :: u :: r).getD 3 d = u := by simp
theorem s3 {α : Type} (x y z w u : α) (r : List α) : (x :: y :: z :: w :: r).set 3 u = x :: y :: z :: u :: r := by simp
theorem Sq (a b c d y : AV) : ag [a, b, c, d] 1 [y] = [a, y, c, d] := by simp [ag]
theorem Hv (a b c d x y z u : AV) : ag [a, b, c, d] 0 [x, y, z, u] = [x, y, z, u] := by simp [ag]
theorem Pd (r i : Int) (to : List Int) (l : List PP) (φ : AV → Prop) : db (some (.cells [.int .i64 r, .int .i64 i, sR to, ow l])) (some 4) 0 φ = φ (dQ (.mk r i to l)) := by
 have e : List.map AV.drop [AV.int .i64 r, .int .i64 i, sR to, ow l] = [.int .i64 r, .int .i64 i, .ap 0 (ints to), .ap 0 (dP l)] := by
  simp only [List.map_cons, List.map_nil, (gU l).2.2.2.2.1, (kV to).2.2.2.2.1]; rfl
 simp only [db, List.drop_zero, List.length_cons, List.length_nil, List.take_succ_cons, List.take_zero, e, dQ]
 simp
def Wo (c : Cx) (i k : Int) (H : List aa) (r : AV) (H' : List aa) : Prop := ∃ p, r = dQ p ∧ Sh c.O p (c.tm i) (c.tm k) ∧ Up c H H' ∧ Du c H'
def ox (c : Cx) (i k : Int) : Prop := ∀ H, Du c H → aq Tryz.prog 86 [.ptr c.d 0, .int .i64 i, .int .i64 k] H (Wo c i k H)
structure PB (c : Cx) (H : List aa) (x y : Nat) (i k : Int) (es : List AV) (G : List aa) : Prop where
 du : Du c G
 gx : G[x]? = some (.cells [bn (c.kd i)])
 gy : G[y]? = some (.cells [bn (c.kd k)])
 g6 : G[H.length]? = some (.cells [.int .i64 0, .int .i64 0, .ah, .ah])
 gp : G[H.length + 3]? = some (.cells es)
 len : G.length = H.length + 4
 up : ∀ j, j < H.length → j ≠ c.e → j ≠ c.g → G[j]? = H[j]?
structure XY (H : List aa) (x y : Nat) : Prop where
 x1 : H.length < x
 x2 : x < H.length + 3
 y1 : H.length < y
 y2 : y < H.length + 3
theorem PB.call {c : Cx} {H G G' : List aa} {x y : Nat} {i k : Int} {es : List AV} (hD : Du c H) (w : XY H x y) (h : PB c H x y i k es G) (hU : Up c G G') (iW : Du c G') : PB c H x y i k es G' := by
 obtain ⟨l1, l2, l3⟩ := hD.lt
 obtain ⟨w1, w2, w3, w4⟩ := w
 exact ⟨iW, by rw [hU.get x (by omega) (by omega), h.gx], by rw [hU.get y (by omega) (by omega), h.gy], by rw [hU.get _ (by omega) (by omega), h.g6], by rw [hU.get _ (by omega) (by omega), h.gp], by rw [hU.len, h.len], fun j h1 h2 h3 => by rw [hU.get j h2 h3, h.up j h1 h2 h3]⟩
theorem PB.set {c : Cx} {H G : List aa} {x y : Nat} {i k : Int} {es es' : List AV} (hD : Du c H) (w : XY H x y) (h : PB c H x y i k es G) : PB c H x y i k es' (G.set (H.length + 3) (.cells es')) := by
 obtain ⟨l1, l2, l3⟩ := hD.lt
 obtain ⟨w1, w2, w3, w4⟩ := w
 have hp := aM h.gp
 exact ⟨h.du.set (by omega) (by omega) (by omega), by rw [List.getElem?_set_ne (by omega), h.gx], by rw [List.getElem?_set_ne (by omega), h.gy], by rw [List.getElem?_set_ne (by omega), h.g6], by rw [List.getElem?_set_self hp], by rw [List.length_set, h.len], fun j h1 h2 h3 => by rw [List.getElem?_set_ne (by omega), h.up j h1 h2 h3]⟩
theorem ZM {c : Cx} {k x : Int} (h1 : jS c x k) (h2 : gK c x k) {H : List aa} (hD : Du c H) : aq Tryz.prog 147 [.int .i64 x, .ai (.ptr c.d 0), .ai (.int .i64 k)] H (g9 c (E c.O (c.tm x) (c.tm k) ∨ R c.O (c.tm x) (c.tm k)) H) := by
 refine Uh.2.calls rfl ?_
 simp only [Uh, aI]
 simp +contextual only [sZ, Nat.reduceEqDiff, Nat.reduceAdd, ↓reduceIte, reduceCtorEq]
 refine af (h1 H hD) ?_
 rintro r H' ⟨b, rfl, hb, hU, iW⟩
 cases b with
 | true =>
   simp +contextual only [sZ, Nat.reduceEqDiff, ↓reduceIte, reduceCtorEq]
   exact dY rfl ⟨fun _ => .inl (hb.1 rfl), fun _ => rfl⟩ hU iW
 | false =>
   simp +contextual only [sZ, Nat.reduceEqDiff, Nat.reduceAdd, ↓reduceIte, reduceCtorEq]
   refine af (h2 H' iW) ?_
   rintro r H2 ⟨z, rfl, hz, O5, Aq⟩
   simp +contextual only [sZ, Nat.reduceEqDiff, ↓reduceIte, reduceCtorEq]
   refine dY rfl ⟨fun h => .inr (hz.1 h), fun h => hz.2 (h.resolve_left fun h => absurd (hb.2 h) (by simp))⟩ (hU.trans O5) Aq
theorem ZN {c : Cx} {a b : List Int} {va vb : AV} (ha : IL va a) (hb : IL vb b) {p q : Nat} {x y : Int} (hx : 0 ≤ x ∧ x < a.length) (hy : 0 ≤ y ∧ y < b.length) (h : gK c (a.getD x.toNat 0) (b.getD y.toNat 0)) {G : List aa} (hD : Du c G) (gp : G[p]? = some (.cells [va])) (gq : G[q]? = some (.cells [vb])) :
 aq Tryz.prog 148 [.int .i64 x, .ai (.ptr c.d 0), .ptr p 0, .ptr q 0, .ai (.int .i64 y)] G (g9 c (R c.O (c.tm (a.getD x.toNat 0)) (c.tm (b.getD y.toNat 0))) G) := by
 refine Ui.2.calls rfl ?_
 simp only [Ui, aI]
 obtain ⟨a1, a2, a3, a4⟩ := ha.one
 obtain ⟨b1, b2, b3, b4⟩ := hb.one
 simp +contextual only [gp, gq, a2, b2, ha.lens, hb.lens, ha.idx, hb.idx, sZ, Nat.reduceEqDiff, Nat.reduceAdd, Nat.reduceLT, ↓reduceIte, reduceCtorEq]
 refine ⟨hx, hy, af (h G hD) ?_⟩
 rintro r G' ⟨z, rfl, hz, hU, iW⟩
 simp +contextual only [sZ, ↓reduceIte, reduceCtorEq]
 exact dY rfl hz hU iW
def Pe : IR := (.loop (.seq (.region [⟨none,some 173,(.bin .lss (.t 172) (.t 171))⟩] (.some [1,3,6,10,170,171,172,173])) (.seq (.cond (.t 173) .skip (.exit 5)) (.seq (.block 6 (.seq (.region [⟨none,some 174,(.indexAddr 1 (.t 170) (.t 172))⟩,⟨none,some 175,(.load .none (.t 174))⟩,⟨none,some 23,(.set (.t 175) false)⟩] (.some [1,3,6,10,23,170,171,172])) (.draw (.take .false ⟨none,some 176,(.fieldAddr 3 .none (.t 10))⟩ (.take .false ⟨none,some 178,(.load .none (.t 3))⟩ (.take .false ⟨none,some 179,(.set (.t 1) false)⟩ (.take .false ⟨none,some 180,(.set (.t 23) false)⟩ (.br ⟨none,some 177,(.dZ (.t 176))⟩ (.br ⟨none,some 181,(.call (.c (.fn (.func 86) [] [])) [(.t 178),(.t 179),(.t 180)] (.some 1999))⟩ (.take .true ⟨none,some 182,(.buildSlice 0 4 (.agg [(.int .i64 0),(.int .i64 0),.ah,.ah]) 1 [(0,(.t 181))])⟩ (.br ⟨none,some 183,(.append 4 64 (.t 177) (.t 182))⟩ (.take .true ⟨none,some 184,(.fieldAddr 3 .none (.t 10))⟩ (.br ⟨none,none,(.eT (.t 184) 183)⟩ .done .nil)) .nil)) .nil) (.br ⟨none,some 181,(.call (.c (.fn (.func 86) [] [])) [(.t 178),(.t 179),(.t 180)] (.some 1999))⟩ (.take .false ⟨none,some 182,(.buildSlice 0 4 (.agg [(.int .i64 0),(.int .i64 0),.ah,.ah]) 1 [(0,(.t 181))])⟩ (.br ⟨none,some 177,(.dZ (.t 176))⟩ (.br ⟨none,some 183,(.append 4 64 (.t 177) (.t 182))⟩ (.take .true ⟨none,some 184,(.fieldAddr 3 .none (.t 10))⟩ (.br ⟨none,none,(.eT (.t 184) 183)⟩ .done .nil)) .nil) .nil)) .nil)))))) (.some [1,3,6,10,170,171,172])))) (.region [⟨none,some 185,(.bin .add (.t 172) (.c (.int .i64 1)))⟩,⟨none,some 172,(.set (.t 185) false)⟩] (.some [1,3,6,10,170,171,172]))))))
theorem Ek {c : Cx} {H : List aa} (hD : Du c H) {x y : Nat} (w : XY H x y) {i k : Int} {rl at' : Int} {l0 : List PP} (EC : l0.length ≤ 1) {b : List Int} {vb : AV} (hb : IL vb b) (lb : b.length ≤ 100000000) (hp : ∀ z ∈ b, ox c i z) {G : List aa} (h : PB c H x y i k [.int .i64 rl, .int .i64 at', .ah, ow l0] G) :
 kY ⟨Tryz.prog, none⟩ H.length Pe [(1, .int .i64 i), (3, .ai (.ptr c.d 0)), (6, .ptr H.length 0), (10, .ptr (H.length + 3) 0), (170, vb), (171, .int .i64 b.length), (172, .int .i64 0)] G fun e aC G' =>
  e = .exit 5 ∧ get aC 6 = .ptr H.length 0 ∧ get aC 10 = .ptr (H.length + 3) 0 ∧ ∃ qs, kT (Sh c.O) qs (c.tm i) (b.map c.tm) ∧ PB c H x y i k [.int .i64 rl, .int .i64 at', .ah, ow (l0 ++ qs)] G' := by
 obtain ⟨b1, b2, b3, b4⟩ := hb.one
 unfold Pe
 refine aN b.length (fun j (s : List aa × List PP) => PB c H x y i k [.int .i64 rl, .int .i64 at', .ah, ow (l0 ++ s.2)] s.1 ∧ s.2.length = j ∧ ∀ j', j' < j → Sh c.O (s.2.getD j' default) (c.tm i) (c.tm (b.getD j' 0)))
  (fun j s => [(1, .int .i64 i), (3, .ai (.ptr c.d 0)), (6, .ptr H.length 0), (10, .ptr (H.length + 3) 0), (170, vb), (171, .int .i64 b.length), (172, .int .i64 j)]) (fun j s => s.1) (G, []) ⟨⟨by rw [List.append_nil]; exact h, rfl, fun j h => by omega⟩, aA _ _ _⟩ fun j s hj hI => ?_
 obtain ⟨G, qs⟩ := s
 obtain ⟨ko, hlen, Pu⟩ := hI
 simp only at ko hlen Pu
 by_cases J6 : (j : Int) < b.length
 ·have px : j < b.length := by omega
  have gp := ko.gp
  have hl : (l0 ++ qs).length < 1000000000 := by rw [List.length_append]; omega
  have mC := fun es => ko.set (es' := es) hD w
  simp +contextual only [J6, decide_true, hb.lens, hb.idx, Int.toNat_natCast, gp, d3, s3, sZ, Nat.reduceEqDiff, Nat.reduceAdd, Nat.reduceLT, ↓reduceIte, reduceCtorEq]
  have fin : ∀ (q : PP) (G' : List aa), Sh c.O q (c.tm i) (c.tm (b.getD j 0)) → PB c H x y i k [.int .i64 rl, .int .i64 at', .ah, ow (l0 ++ (qs ++ [q]))] G' → ∃ (j' : Nat) (t : List aa × List PP), (j' ≤ b.length ∧ PB c H x y i k [.int .i64 rl, .int .i64 at', .ah, ow (l0 ++ t.2)] t.1 ∧ t.2.length = j' ∧ ∀ j'', j'' < j' → Sh c.O (t.2.getD j'' default) (c.tm i) (c.tm (b.getD j'' 0))) ∧ b.length - j' < b.length - j ∧
   sle H.length [(1, .int .i64 i), (3, .ai (.ptr c.d 0)), (6, .ptr H.length 0), (10, .ptr (H.length + 3) 0), (170, vb), (171, .int .i64 b.length), (172, .int .i64 (IntKind.i64.wrap (j + 1)))] G' [(1, .int .i64 i), (3, .ai (.ptr c.d 0)), (6, .ptr H.length 0), (10, .ptr (H.length + 3) 0), (170, vb), (171, .int .i64 b.length), (172, .int .i64 j')] t.1 := by
   intro q G' hq ZO
   refine ⟨j + 1, (G', qs ++ [q]), ⟨px, ZO, by simp [hlen], fun j'' adW => ?_⟩, by omega, aH (by rw [au j (by omega)]) rfl⟩
   by_cases e : j'' = j
   ·subst e
    have : (qs ++ [q]).getD j'' default = q := by rw [← hlen]; simp
    rw [this]; exact hq
   ·have : (qs ++ [q]).getD j'' default = qs.getD j'' default := by
     rw [List.getD_eq_getElem?_getD, List.getD_eq_getElem?_getD, List.getElem?_append_left (by omega)]
    rw [this]; exact Pu j'' (by omega)
  refine ⟨by omega, ?_, ?_⟩
  ·refine af (hp _ (aO px) _ (mC _).du) ?_
   rintro r G2 ⟨q, rfl, hq, hU, Aq⟩
   have Ka := (mC _).call hD w hU Aq
   have gp2 := Ka.gp
   have Ac := fun es => Ka.set (es' := es) hD w
   obtain ⟨q1, q2, q3, q4, q5, q6, q7, q8, q9⟩ := aW q
   obtain ⟨v1, v2, v3, v4, v5, v6⟩ := gU (l0 ++ (qs ++ [q]))
   simp +contextual only [q1, q2, je, Cs _ _ hl, gp2, s3, List.append_assoc, sZ, Nat.reduceEqDiff, Nat.reduceAdd, Nat.reduceLT, ↓reduceIte]
   have el : AV.ap 4 (dP (l0 ++ (qs ++ [q]))) = ow (l0 ++ (qs ++ [q])) := by rw [← List.append_assoc]; exact qH _ _
   rw [el]
   exact ⟨iq _ _, fin q _ hq (Ac _)⟩
  ·refine af (hp _ (aO px) _ ko.du) ?_
   rintro r G2 ⟨q, rfl, hq, hU, Aq⟩
   have Ka := ko.call hD w hU Aq
   have gp2 := Ka.gp
   have Ac := fun es => Ka.set (es' := es) hD w
   have gp3 := fun es => (Ac es).gp
   have vF := fun es es' => (Ac es).set (es' := es') hD w
   obtain ⟨q1, q2, q3, q4, q5, q6, q7, q8, q9⟩ := aW q
   obtain ⟨v1, v2, v3, v4, v5, v6⟩ := gU (l0 ++ (qs ++ [q]))
   simp +contextual only [q1, q2, je, Cs _ _ hl, gp2, gp3, d3, s3, List.append_assoc, sZ, Nat.reduceEqDiff, Nat.reduceAdd, Nat.reduceLT, ↓reduceIte]
   have el : AV.ap 4 (dP (l0 ++ (qs ++ [q]))) = ow (l0 ++ (qs ++ [q])) := by rw [← List.append_assoc]; exact qH _ _
   rw [el]
   exact ⟨iq _ _, fin q _ hq (vF _ _)⟩
 ·have e : j = b.length := by omega
  simp +contextual only [J6, decide_false, sZ, Nat.reduceEqDiff, ↓reduceIte]
  refine ⟨qs, ⟨by rw [hlen, e, List.length_map], fun j' tL => ?_⟩, ko⟩
  rw [List.length_map] at tL
  rw [b9 tL]; exact Pu j' (by omega)
end Go.aK
end
section
set_option maxRecDepth 100000
namespace Go.aK
open Go Go.Proofs Go.fE
structure PA (c : Cx) (H : List aa) (x y : Nat) (i k : Int) (G : List aa) : Prop where
 du : Du c G
 gx : G[x]? = some (.cells [bn (c.kd i)])
 gy : G[y]? = some (.cells [bn (c.kd k)])
 g6 : G[H.length]? = some (.cells [.int .i64 0, .int .i64 0, .ah, .ah])
 len : G.length = H.length + 3
 up : ∀ j, j < H.length → j ≠ c.e → j ≠ c.g → G[j]? = H[j]?
theorem PA.call {c : Cx} {H G G' : List aa} {x y : Nat} {i k : Int} (hD : Du c H) (w : XY H x y) (h : PA c H x y i k G) (hU : Up c G G') (iW : Du c G') : PA c H x y i k G' := by
 obtain ⟨l1, l2, l3⟩ := hD.lt
 obtain ⟨w1, w2, w3, w4⟩ := w
 exact ⟨iW, by rw [hU.get x (by omega) (by omega), h.gx], by rw [hU.get y (by omega) (by omega), h.gy], by rw [hU.get _ (by omega) (by omega), h.g6], by rw [hU.len, h.len], fun j h1 h2 h3 => by rw [hU.get j h2 h3, h.up j h1 h2 h3]⟩
theorem PA.rI {c : Cx} {H G : List aa} {x y : Nat} {i k : Int} (w : XY H x y) (h : PA c H x y i k G) (es : List AV) : PB c H x y i k es (G ++ [.cells es]) := by
 obtain ⟨w1, w2, w3, w4⟩ := w
 have hl := h.len
 exact ⟨h.du.rI _, by rw [List.getElem?_append_left (by omega), h.gx], by rw [List.getElem?_append_left (by omega), h.gy], by rw [List.getElem?_append_left (by omega), h.g6], by rw [← hl]; simp, by simp [hl], fun j h1 h2 h3 => by rw [List.getElem?_append_left (by omega), h.up j h1 h2 h3]⟩
theorem XJ (r : Int) (φ : AV → Prop) : cB [.int .i64 0, .int .i64 0, .ah, .ah] [(0, 1, .int .i64 r)] φ = φ (.agg [.int .i64 r, .int .i64 0, .ah, .ah]) := by
 simp only [cB, gG, eq_iff_iff]
 constructor
 ·rintro ⟨_, _, _, h⟩; exact h
 ·exact fun h => ⟨rfl, rfl, by simp, h⟩
theorem PB.fin {c : Cx} {H G : List aa} {x y : Nat} {i k : Int} {r i' : Int} {to : List Int} {l : List PP} (hD : Du c H) (h : PB c H x y i k [.int .i64 r, .int .i64 i', sR to, ow l] G) (hs : Sh c.O (.mk r i' to l) (c.tm i) (c.tm k)) :
 xG H.length (dQ (.mk r i' to l)) (G.set H.length (.cells (dQ (.mk r i' to l)).cells)) (Wo c i k H) := by
 obtain ⟨l1, l2, l3⟩ := hD.lt
 refine OP (G := (G.set H.length (.cells (dQ (.mk r i' to l)).cells)).take H.length) rfl (fF _ _) rfl ⟨_, rfl, hs, ⟨?_, fun j h1 h2 => ?_⟩, ?_⟩
 ·have := h.len; simp; omega
 ·rw [List.getElem?_take]
  split
  ·rename_i hj; rw [List.getElem?_set_ne (by omega), h.up j hj h1 h2]
  ·rename_i hj; rw [List.getElem?_eq_none (by omega)]
 ·exact (h.du.set (by omega) (by omega) (by omega)).take l1 l2 l3
theorem Cu (p : PP) (φ : AV → Prop) : db (some (.cells (dQ p).cells)) (some 4) 0 φ = φ (dQ p) := by
 obtain ⟨_, h2, _, _, _, _, h7, h8, _⟩ := aW p
 simp only [db, List.drop_zero, h2, List.take_of_length_le (Nat.le_of_eq h2), h8, h7]
 simp
theorem Pf (p : PP) : ag [AV.int .i64 0, .int .i64 0, .ah, .ah] 0 (dQ p).cells = (dQ p).cells := by rw [nA]; rfl
theorem tO {c : Cx} (hc : c.Ok) {i k : Int} (hi : c.dF i) (hk : c.dF k) : Fj c i k := by
 have ki := hc.kids i hi
 have kk := hc.kids k hk
 exact ⟨fun H hD => VR hc hi (fun x hx => jC hc (ki.2 x hx) hk) (fun x hx => jD hc (ki.2 x hx) hk) hD, fun H hD => VS hc hi hk (fun y hy => jD hc hi (kk.2 y hy)) hD,
  fun H hD => VU hc hi hk (fun y hy => jD hc hi (kk.2 y hy)) (fun x hx y hy => jC hc (ki.2 x hx) (kk.2 y hy)) (fun x hx y hy => jD hc (ki.2 x hx) (kk.2 y hy)) hD,
  fun H hD => V0 hc hi hk (fun x hx y hy => jC hc (ki.2 x hx) (kk.2 y hy)) (fun x hx y hy => jD hc (ki.2 x hx) (kk.2 y hy)) hD⟩
theorem Wp {c : Cx} (hc : c.Ok) {i k : Int} (hi : c.dF i) (hk : c.dF k) (hR : R c.O (c.tm i) (c.tm k)) (hr : gA c i k 1) (jH : ∀ m, m < 1 → ¬ gA c i k m) (hp : ∀ x ∈ c.kd i, R c.O (c.tm x) (c.tm k) → ox c x k) : ox c i k := by
 intro H hD
 refine Cr.2.calls rfl ?_
 simp only [Cr, aI]
 have k2 : ∀ l, (bn l).ab = bn l := fun l => (aD l).2.1
 have ki := hc.kids i hi
 have kk := hc.kids k hk
 have l1 := hc.kl i hi
 have l2 := hc.kl k hk
 obtain ⟨a1, a2, a3, a4, a5⟩ := aD (c.kd i)
 obtain ⟨b1, b2, b3, b4, b5⟩ := aD (c.kd k)
 have ii : IL (bn (c.kd i)) (c.kd i) := .inl rfl
 have ik : IL (bn (c.kd k)) (c.kd k) := .inl rfl
 have ei : (c.nd.getD i.toNat default).snd = c.kd i := rfl
 have ek : (c.nd.getD k.toNat default).snd = c.kd k := rfl
 obtain ⟨m1, m2, m3⟩ := hD.lt
 have ed : ∀ X : List aa, (H ++ X)[c.d]? = H[c.d]? := fun X => List.getElem?_append_left m1
 have spv : ∀ x : AV, ag [AV.ah] 0 [x] = [x] := fun x => rfl
 have spq : ag [AV.int .i64 0, .int .i64 0, .ah, .ah] 0 [AV.int .i64 0, .int .i64 0, .ah, .ah] = [AV.int .i64 0, .int .i64 0, .ah, .ah] := rfl
 simp +contextual only [sZ, Nat.reduceEqDiff, Nat.reduceAdd, ↓reduceIte, reduceCtorEq]
 refine kS (K1 := fun e G => get e 1 = .int .i64 i ∧ get e 3 = .ai (.ptr c.d 0) ∧ get e 5 = .ai (.int .i64 k) ∧ get e 6 = .ptr H.length 0 ∧ ∃ x y, get e 7 = .ptr x 0 ∧ get e 8 = .ptr y 0 ∧ XY H x y ∧ PA c H x y i k G) ?_ ?_
 ·have P0 : aa := .cells [.int .i64 0, .int .i64 0, .ah, .ah]
  have A : ∃ x y, AV.ptr (H.length + 1) 0 = .ptr x 0 ∧ AV.ptr (H.length + 2) 0 = .ptr y 0 ∧ XY H x y ∧ PA c H x y i k (H ++ [.cells [.int .i64 0, .int .i64 0, .ah, .ah], .cells [bn (c.kd i)], .cells [bn (c.kd k)]]) :=
   ⟨_, _, rfl, rfl, ⟨by omega, by omega, by omega, by omega⟩, ⟨hD.rI _, by simp, by simp, by simp, by simp, fun j hj _ _ => List.getElem?_append_left hj⟩⟩
  have B : ∃ x y, AV.ptr (H.length + 2) 0 = .ptr x 0 ∧ AV.ptr (H.length + 1) 0 = .ptr y 0 ∧ XY H x y ∧ PA c H x y i k (H ++ [.cells [.int .i64 0, .int .i64 0, .ah, .ah], .cells [bn (c.kd k)], .cells [bn (c.kd i)]]) :=
   ⟨_, _, rfl, rfl, ⟨by omega, by omega, by omega, by omega⟩, ⟨hD.rI _, by simp, by simp, by simp, by simp, fun j hj _ _ => List.getElem?_append_left hj⟩⟩
  simp +contextual only [ed, hD.d, lT, CM, ct, bS, k2, ei, ek, a1, a3, a4, a5, b1, b3, b4, b5, List.map_cons, List.map_nil, spv, List.all_cons, List.all_nil, Bool.and_true, bL, cV, sZ, Nat.reduceEqDiff, Nat.reduceAdd, Nat.reduceLT, ↓reduceIte]
  refine ⟨hi, ?_⟩
  repeat' apply And.intro
  all_goals first | exact hk.1 | exact hk.2 | exact A | exact B
 ·rintro e G ⟨e1, e3, e5, e6, x, y, e7, e8, w, Ad⟩
  simp +contextual only [e1, e3, e5, e6, e7, e8, sZ, Nat.reduceEqDiff, ↓reduceIte]
  refine aN 0 (fun m (G : List aa) => PA c H x y i k G)
   (fun m G => [(1, .int .i64 i), (3, .ai (.ptr c.d 0)), (5, .ai (.int .i64 k)), (6, .ptr H.length 0), (7, .ptr x 0), (8, .ptr y 0), (9, .int .i64 ((m + 1 : Nat) : Int))]) (fun m G => G) G ⟨Ad, aA _ _ _⟩ fun m G hm Ad => ?_
  have hf : dN.cells[m + 1]? = some (.fn (.func (182 + (m + 1))) [] []) := by
   have : m = 0 ∨ m = 1 ∨ m = 2 ∨ m = 3 := by omega
   rcases this with rfl | rfl | rfl | rfl <;> rfl
  have en := Tf (m + 1) _ hf (by omega)
  simp +contextual only [sZ]
  refine aF JU ?_
  simp +contextual only [lM, en _ rfl, sZ, Nat.reduceEqDiff, Nat.reduceAdd, ↓reduceIte, reduceCtorEq]
  refine af ((tO hc hi hk).at (n := m + 1) (by omega) (by omega) Ad.du) ?_
  rintro r G1 ⟨z, rfl, hz, hU, mB⟩
  have pn := Ad.call hD w hU mB
  by_cases OV : m = 0
  rotate_left
  ·have : z = false := by
    cases z with
    | false => rfl
    | true => exact absurd (hz.1 rfl) (jH (m + 1) (by omega))
   subst this
   simp +contextual only [Bool.not_false, sZ, Nat.reduceEqDiff, ↓reduceIte]
   exact ⟨m + 1, G1, ⟨by omega, pn⟩, by omega, aH (by rw [au (m + 1) (by omega)]) rfl⟩
  subst OV
  have : z = true := hz.2 hr
  subst this
  have wW := pn.len
  have ko := fun es => pn.rI w es
  have Sr := fun es => (ko es).gp
  have Ns := fun es => (ko es).gx
  have Wq := fun es => (ko es).gy
  have bP : ∀ (o o' : aa), (G1 ++ [o]).set (H.length + 3) o' = G1 ++ [o'] := fun o o' => by rw [← wW]; simp
  have ec : ((1 : Nat) : Int) = 1 := rfl
  have zf : List.map AV.ab [AV.int .i64 (1 : Int), .int .i64 0, .ah, .ah] = [.int .i64 (1 : Int), .int .i64 0, .ah, .ah] := rfl
  have zf0 : List.map AV.ab [AV.int .i64 0, .int .i64 0, .ah, .ah] = [.int .i64 0, .int .i64 0, .ah, .ah] := rfl
  have e86 : ∀ a b : Int, decide (a = b) = decide (a = b) := fun _ _ => rfl
  simp +contextual only [k2, decide_true, Bool.not_true, Bool.not_true, XJ, wW, Sr, bP, ec, zf, zf0, Hv, Ns, sZ, Nat.reduceEqDiff, Nat.reduceAdd, Nat.reduceLT, ↓reduceIte, reduceCtorEq]
  have lY := ko [.int .i64 1, .int .i64 0, .ah, .ah]
  generalize G1 ++ [aa.cells [AV.int .i64 1, .int .i64 0, .ah, .ah]] = G2 at lY ⊢
  have fH : ∃ z ∈ c.kd i, E c.O (c.tm z) (c.tm k) ∨ R c.O (c.tm z) (c.tm k) := by
   rcases hr with h | h | h | h
   ·exact h.2
   all_goals (exact absurd h.1 (by decide))
  refine af (JQ (SD.zS c G2) ii (by omega) 147 [] [.ai (.ptr c.d 0), .ai (.int .i64 k)] rfl rfl (Q := fun z => E c.O (c.tm z) (c.tm k) ∨ R c.O (c.tm z) (c.tm k))
   (fun z hz G hG => (ZM (jC hc (ki.2 z hz) hk) (jD hc (ki.2 z hz) hk) hG.1).mono fun r H' hr => hr.sb hG) ⟨lY.du, Up.refl c _⟩) ?_
  rintro r G3 ⟨hG3, tb⟩
  rcases tb with ⟨_, tb⟩ | ⟨q, rfl, hq, hQ, _⟩
  ·obtain ⟨z, hz, h⟩ := fH
   exact absurd h (tb z hz)
  have Ac := lY.call hD w hG3.2 hG3.1
  have pB := fun es => Ac.set (es' := es) hD w
  have gp3 := Ac.gp
  have gps := fun es => (pB es).gp
  have gxs := fun es => (pB es).gx
  have g6s := fun es => (pB es).g6
  have iB : (c.kd i).getD q 0 ∈ c.kd i := aO hq
  have un1 : List.map AV.ab [AV.int .i64 (q : Int)] = [.int .i64 (q : Int)] := rfl
  simp +contextual only [k2, ii.lens, ii.idx, gp3, Sq, un1, gps, gxs, Int.toNat_natCast, sZ, Nat.reduceEqDiff, Nat.reduceAdd, Nat.reduceLT, Nat.reduceLeDiff, ↓reduceIte, reduceCtorEq]
  refine ⟨by omega, ?_⟩
  refine af (jC hc (ki.2 _ iB) hk _ (pB _).du) ?_
  rintro r G4 ⟨v, rfl, hv, Tc, Td⟩
  have vF := (pB _).call hD w Tc Td
  have gp4 := vF.gp
  have gx4 := vF.gx
  have g64 := vF.g6
  have cod : ∀ l : List PP, ((c.tm i).l.getD q default) = c.tm ((c.kd i).getD q 0) := fun _ => by rw [← ki.1, b9 hq]
  have klen : (c.tm i).l.length = (c.kd i).length := by rw [← ki.1]; simp
  have ki2 : (c.tm i).k = 2 := by
   have := (rP hc hi hk).1
   have hh := (qt.1 (show R c.O (c.tm i) (c.tm k) from hR)).1
   exact hh
  cases v with
  | true =>
    have hs : Sh c.O (.mk 1 q [] []) (c.tm i) (c.tm k) := by
     rw [ZK rfl ki2]
     refine ⟨rfl, ⟨by show (0 : Int) ≤ q; omega, by show (q : Int) < _; omega⟩, .inl ⟨rfl, ?_⟩⟩
     show E c.O ((c.tm i).l.getD (q : Int).toNat default) (c.tm k)
     rw [Int.toNat_natCast, cod []]; exact hv.1 rfl
    have e4 : (AV.int .i64 (q : Int)) = AV.int .i64 (q : Int) := rfl
    have lp := Pd 1 q [] []
    obtain ⟨q1, q2, q3, q4, q5, q6, q7, q8, q9⟩ := aW (.mk 1 q [] [])
    have lp2 := Cu (.mk 1 q [] [])
    have Kb : (G4.set H.length (.cells (dQ (.mk 1 q [] [])).cells))[H.length]? = some (.cells (dQ (.mk 1 q [] [])).cells) := by rw [List.getElem?_set_self (aM g64)]
    change ∀ φ, db (some (.cells [.int .i64 1, .int .i64 (q : Int), .ah, .ah])) (some 4) 0 φ = φ (dQ (.mk 1 q [] [])) at lp
    simp +contextual only [Bool.not_true, gp4, lp, g64, q1, q2, q3, q9, Pf, Kb, lp2, sZ, Nat.reduceEqDiff, Nat.reduceAdd, ↓reduceIte, reduceCtorEq]
    refine ⟨by first | exact cj (fF _ _) | omega, vF.fin hD hs⟩
  | false =>
    have hRx : R c.O (c.tm ((c.kd i).getD q 0)) (c.tm k) := hQ.resolve_left fun h => absurd (hv.2 h) (by simp)
    simp +contextual only [k2, ii.lens, ii.idx, Bool.not_false, gp4, gx4, Int.toNat_natCast, sZ, Nat.reduceEqDiff, Nat.reduceAdd, Nat.reduceLT, ↓reduceIte, reduceCtorEq]
    refine ⟨by omega, af (hp _ iB hRx _ vF.du) ?_⟩
    rintro r G5 ⟨u, rfl, hu, Wr, Ws⟩
    have Kc := vF.call hD w Wr Ws
    have gp5 := Kc.gp
    have El := fun es => Kc.set (es' := es) hD w
    have gp6 := fun es => (El es).gp
    have g66 := fun es => (El es).g6
    have hs : Sh c.O (.mk 1 q [] [u]) (c.tm i) (c.tm k) := by
     rw [ZK rfl ki2]
     refine ⟨rfl, ⟨by show (0 : Int) ≤ q; omega, by show (q : Int) < _; omega⟩, .inr ⟨u, rfl, ?_⟩⟩
     show Sh c.O u ((c.tm i).l.getD (q : Int).toNat default) (c.tm k)
     rw [Int.toNat_natCast, cod []]; exact hu
    have lp := Pd 1 q [] [u]
    change ∀ φ, db (some (.cells [.int .i64 1, .int .i64 (q : Int), .ah, .ap 4 [dQ u]])) (some 4) 0 φ = φ (dQ (.mk 1 q [] [u])) at lp
    obtain ⟨q1, q2, q3, q4, q5, q6, q7, q8, q9⟩ := aW (.mk 1 q [] [u])
    obtain ⟨u1, u2, u3, u4, u5, u6, u7, u8, u9⟩ := aW u
    have lp2 := Cu (.mk 1 q [] [u])
    have Kb := fun es => List.getElem?_set_self (a := aa.cells (dQ (.mk 1 q [] [u])).cells) (aM (g66 es))
    simp +contextual only [gp5, gp6, g66, lp, q1, q2, q3, q9, Pf, Kb, lp2, u1, u2, u6, je, s3, sZ, Nat.reduceEqDiff, Nat.reduceAdd, Nat.reduceLT, ↓reduceIte, reduceCtorEq]
    refine ⟨by first | exact cj (fF _ _) | omega, ?_⟩
    exact PB.fin (to := []) (l := [u]) hD (El _) hs
end Go.aK
end
section
set_option maxRecDepth 100000
namespace Go.aK
open Go Go.Proofs Go.fE
theorem Wt {c : Cx} (hc : c.Ok) {i k : Int} (hi : c.dF i) (hk : c.dF k) (hR : R c.O (c.tm i) (c.tm k)) (hr : gA c i k 2) (jH : ∀ m, m < 2 → ¬ gA c i k m) (hp : ∀ y ∈ c.kd k, R c.O (c.tm i) (c.tm y) → ox c i y) : ox c i k := by
 intro H hD
 refine Cr.2.calls rfl ?_
 simp only [Cr, aI]
 have k2 : ∀ l, (bn l).ab = bn l := fun l => (aD l).2.1
 have ki := hc.kids i hi
 have kk := hc.kids k hk
 have l1 := hc.kl i hi
 have l2 := hc.kl k hk
 obtain ⟨a1, a2, a3, a4, a5⟩ := aD (c.kd i)
 obtain ⟨b1, b2, b3, b4, b5⟩ := aD (c.kd k)
 have ii : IL (bn (c.kd i)) (c.kd i) := .inl rfl
 have ik : IL (bn (c.kd k)) (c.kd k) := .inl rfl
 have ei : (c.nd.getD i.toNat default).snd = c.kd i := rfl
 have ek : (c.nd.getD k.toNat default).snd = c.kd k := rfl
 obtain ⟨m1, m2, m3⟩ := hD.lt
 have ed : ∀ X : List aa, (H ++ X)[c.d]? = H[c.d]? := fun X => List.getElem?_append_left m1
 have spv : ∀ x : AV, ag [AV.ah] 0 [x] = [x] := fun x => rfl
 have spq : ag [AV.int .i64 0, .int .i64 0, .ah, .ah] 0 [AV.int .i64 0, .int .i64 0, .ah, .ah] = [AV.int .i64 0, .int .i64 0, .ah, .ah] := rfl
 simp +contextual only [sZ, Nat.reduceEqDiff, Nat.reduceAdd, ↓reduceIte, reduceCtorEq]
 refine kS (K1 := fun e G => get e 1 = .int .i64 i ∧ get e 3 = .ai (.ptr c.d 0) ∧ get e 5 = .ai (.int .i64 k) ∧ get e 6 = .ptr H.length 0 ∧ ∃ x y, get e 7 = .ptr x 0 ∧ get e 8 = .ptr y 0 ∧ XY H x y ∧ PA c H x y i k G) ?_ ?_
 ·have P0 : aa := .cells [.int .i64 0, .int .i64 0, .ah, .ah]
  have A : ∃ x y, AV.ptr (H.length + 1) 0 = .ptr x 0 ∧ AV.ptr (H.length + 2) 0 = .ptr y 0 ∧ XY H x y ∧ PA c H x y i k (H ++ [.cells [.int .i64 0, .int .i64 0, .ah, .ah], .cells [bn (c.kd i)], .cells [bn (c.kd k)]]) :=
   ⟨_, _, rfl, rfl, ⟨by omega, by omega, by omega, by omega⟩, ⟨hD.rI _, by simp, by simp, by simp, by simp, fun j hj _ _ => List.getElem?_append_left hj⟩⟩
  have B : ∃ x y, AV.ptr (H.length + 2) 0 = .ptr x 0 ∧ AV.ptr (H.length + 1) 0 = .ptr y 0 ∧ XY H x y ∧ PA c H x y i k (H ++ [.cells [.int .i64 0, .int .i64 0, .ah, .ah], .cells [bn (c.kd k)], .cells [bn (c.kd i)]]) :=
   ⟨_, _, rfl, rfl, ⟨by omega, by omega, by omega, by omega⟩, ⟨hD.rI _, by simp, by simp, by simp, by simp, fun j hj _ _ => List.getElem?_append_left hj⟩⟩
  simp +contextual only [ed, hD.d, lT, CM, ct, bS, k2, ei, ek, a1, a3, a4, a5, b1, b3, b4, b5, List.map_cons, List.map_nil, spv, List.all_cons, List.all_nil, Bool.and_true, bL, cV, sZ, Nat.reduceEqDiff, Nat.reduceAdd, Nat.reduceLT, ↓reduceIte]
  refine ⟨hi, ?_⟩
  repeat' apply And.intro
  all_goals first | exact hk.1 | exact hk.2 | exact A | exact B
 ·rintro e G ⟨e1, e3, e5, e6, x, y, e7, e8, w, Ad⟩
  simp +contextual only [e1, e3, e5, e6, e7, e8, sZ, Nat.reduceEqDiff, ↓reduceIte]
  refine aN 1 (fun m (G : List aa) => PA c H x y i k G)
   (fun m G => [(1, .int .i64 i), (3, .ai (.ptr c.d 0)), (5, .ai (.int .i64 k)), (6, .ptr H.length 0), (7, .ptr x 0), (8, .ptr y 0), (9, .int .i64 ((m + 1 : Nat) : Int))]) (fun m G => G) G ⟨Ad, aA _ _ _⟩ fun m G hm Ad => ?_
  have hf : dN.cells[m + 1]? = some (.fn (.func (182 + (m + 1))) [] []) := by
   have : m = 0 ∨ m = 1 ∨ m = 2 ∨ m = 3 := by omega
   rcases this with rfl | rfl | rfl | rfl <;> rfl
  have en := Tf (m + 1) _ hf (by omega)
  simp +contextual only [sZ]
  refine aF JU ?_
  simp +contextual only [lM, en _ rfl, sZ, Nat.reduceEqDiff, Nat.reduceAdd, ↓reduceIte, reduceCtorEq]
  refine af ((tO hc hi hk).at (n := m + 1) (by omega) (by omega) Ad.du) ?_
  rintro r G1 ⟨z, rfl, hz, hU, mB⟩
  have pn := Ad.call hD w hU mB
  by_cases OV : m = 1
  rotate_left
  ·have : z = false := by
    cases z with
    | false => rfl
    | true => exact absurd (hz.1 rfl) (jH (m + 1) (by omega))
   subst this
   simp +contextual only [Bool.not_false, sZ, Nat.reduceEqDiff, ↓reduceIte]
   exact ⟨m + 1, G1, ⟨by omega, pn⟩, by omega, aH (by rw [au (m + 1) (by omega)]) rfl⟩
  subst OV
  have : z = true := hz.2 hr
  subst this
  have wW := pn.len
  have ko := fun es => pn.rI w es
  have Sr := fun es => (ko es).gp
  have Ns := fun es => (ko es).gx
  have Wq := fun es => (ko es).gy
  have bP : ∀ (o o' : aa), (G1 ++ [o]).set (H.length + 3) o' = G1 ++ [o'] := fun o o' => by rw [← wW]; simp
  have ec : ((2 : Nat) : Int) = 2 := rfl
  have zf : List.map AV.ab [AV.int .i64 (2 : Int), .int .i64 0, .ah, .ah] = [.int .i64 (2 : Int), .int .i64 0, .ah, .ah] := rfl
  have zf0 : List.map AV.ab [AV.int .i64 0, .int .i64 0, .ah, .ah] = [.int .i64 0, .int .i64 0, .ah, .ah] := rfl
  have e86 : ∀ a b : Int, decide (a = b) = decide (a = b) := fun _ _ => rfl
  simp +contextual only [k2, ik.aL, ik.len (by omega), decide_false, Bool.not_true, Bool.not_true, XJ, wW, Sr, bP, ec, zf, zf0, Hv, Wq, sZ, Nat.reduceEqDiff, Nat.reduceAdd, Nat.reduceLT, ↓reduceIte, Int.reduceEq]
  have lY := ko [.int .i64 2, .int .i64 0, .ah, .ah]
  generalize G1 ++ [aa.cells [AV.int .i64 2, .int .i64 0, .ah, .ah]] = G2 at lY ⊢
  have ki2 : (c.tm i).k = 2 := (qt.1 hR).1
  have v8 : rO c i k := by
   rcases hr with h | h | h | h
   ·exact absurd h.1 (by decide)
   ·exact h.2
   all_goals (exact absurd h.1 (by decide))
  obtain ⟨Ec, a8, hall0⟩ := v8
  have kk2 : (c.tm k).k = 2 := of_decide_eq_true Ec
  have Ss : ∀ qs, kT (Sh c.O) qs (c.tm i) ((c.kd k).map c.tm) → Sh c.O (.mk 2 0 [] qs) (c.tm i) (c.tm k) := by
   intro qs hq
   rw [Sh2 rfl ki2]
   rw [kk.1] at hq
   refine ⟨rfl, rfl, kk2, ?_, hq⟩
   rw [pg, if_pos kk2, pg, if_pos ki2] at a8; exact a8
  refine kH (Ek hD w (l0 := []) (by simp) ik l2 (fun z hz => hp z hz (hall0 z hz)) lY) ?_
  rintro e1 e G6 ⟨rfl, f6, f10, qs, jj, nB⟩
  replace nB : PB c H x y i k [.int .i64 2, .int .i64 0, .ah, ow qs] G6 := nB
  have gp6 := nB.gp
  have g66 := nB.g6
  have lp := Pd 2 0 [] qs
  have tv0 : sR [] = AV.ah := rfl
  rw [tv0] at lp
  have hs : Sh c.O (.mk 2 0 [] qs) (c.tm i) (c.tm k) := Ss qs jj
  obtain ⟨q1, q2, q3, q4, q5, q6, q7, q8, q9⟩ := aW (.mk 2 0 [] qs)
  have lp2 := Cu (.mk 2 0 [] qs)
  have Kb := List.getElem?_set_self (a := aa.cells (dQ (.mk 2 0 [] qs)).cells) (aM g66)
  have NM : aj (H.length + 1) (dQ (.mk 2 0 [] qs)).cells = true := cj (fF _ _)
  have kC := PB.fin (to := []) (l := qs) hD nB hs
  simp +contextual only [f6, f10, gp6, g66, lp, q1, q2, q3, q9, Pf, Kb, lp2, NM, sZ, Nat.reduceEqDiff, Nat.reduceAdd, ↓reduceIte, reduceCtorEq]
  first | exact kC | exact ⟨by omega, kC⟩ | exact ⟨trivial, kC⟩
end Go.aK
end
