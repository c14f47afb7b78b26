/- Part 16 of 18 of the proof. -/
import Derived.Test.YtljchnfgjdjobaaGreatRao
import Derived.Test.YtljchnfgjdjobaaGreatRag
import Derived.KernelRfl
import Derived.Test.YtljchnfgjdjobaaGreatRam
import Derived.Test.YtljchnfgjdjobaaGreatRai
import Derived.Test.YtljchnfgjdjobaaGreatRah
import Derived.Test.YtljchnfgjdjobaaGreatRak
set_option linter.unusedVariables false
set_option linter.unusedSimpArgs false
set_option linter.defProp false
set_option linter.unusedSectionVars false
section
set_option maxRecDepth 100000
namespace Go.aK
open Go Go.Proofs Go.fJ
theorem ysI {t : Ty} (ht : As t) {ops : List Int} {vo : AV} (ho : IL vo ops) (hr : ∀ i ∈ ops, 0 ≤ i ∧ i < t.s.ops.length) (jR : ops.length ≤ 1000000) {pl : List Int} (wm : pl.length = ops.length) (H W : List aa) (es : List AV) (yR : es = kw 41 [(2, .ai t.av), (3, .ai vo), (4, .ptr H.length 0), (5, .ptr (H.length + 1) 0), (6, .ai (bn pl)), (21, .fn (.func 205) [] [.ai (.int .i64 ops.length), .ai (.int .i64 1), .ai (.int .i64 3)])]) :
 YS ops.length (di 1 ((3 : Int) + 1 - 1).toNat) (H.length + 2 + W.length) (fun s : Fo => eW H W s ++ [.loop (iF s) bw es]) (fun s => s = none) (dt t ops pl) := by
 refine ⟨fun l s X hl _ hs => ?_, fun l s hs bQ => ?_, fun s s' => ?_⟩
 ·subst hs
  have := KM ht ho hr jR wm H W es yR l hl X _ rfl
  have el : iF none = .ready := rfl
  refine fe.mono (by simpa [el, jz] using this) fun r H' h => ?_
  refine ⟨h.1, ?_⟩
  rw [h.2]; simp
 ·subst hs
  unfold dt at *
  split at bQ
  ·cases bQ
  ·rename_i h; rw [if_neg h]
 ·simp [eJ]
theorem KN {vals : List Int} : ∀ {n : Nat} {l : List Int}, l ∈ ic vals n → l.length = n ∧ ∀ x ∈ l, x ∈ vals
 | 0, l, h => by
   simp only [ic, List.mem_cons, List.not_mem_nil, or_false] at h
   subst h; exact ⟨rfl, fun x hx => by cases hx⟩
 | n + 1, l, h => by
   simp only [ic, List.mem_flatMap, List.mem_map] at h
   obtain ⟨x, hx, y, hy, rfl⟩ := h
   obtain ⟨h1, h2⟩ := KN hy
   exact ⟨by simp [h1], fun z hz => by
    rcases List.mem_cons.1 hz with rfl | hz
    ·exact hx
    ·exact h2 z hz⟩
theorem KO {t : Ty} (ht : As t) {ops : List Int} {vo : AV} (ho : IL vo ops) (hr : ∀ i ∈ ops, 0 ≤ i ∧ i < t.s.ops.length) (jR : ops.length ≤ 1000000) (H : List aa) (es : List AV) (yR : es = kw 41 [(2, .ai t.av), (3, .ai vo), (4, .ptr H.length 0), (5, .ptr (H.length + 1) 0), (14, .fn (.func 205) [] [.ai (.int .i64 ops.length), .ai (.int .i64 0), .ai (.int .i64 ((ops.length : Int) - 1))])])
 (pl : List Int) (wm : pl.length = ops.length) (kB : ∀ x ∈ pl, x ≤ 1000000) (Y : List aa) :
 jz Tryz.prog (H.length + 2) [bn pl] (eW H [] none ++ .loop .ready a8 es :: Y) fun r H' => r = .bool (eU t ops none pl).2 ∧ H' = eW H [] (eU t ops none pl).1 ++ .loop (iF (eU t ops none pl).1) a8 es :: Y := by
 have ees : es = [.any, .any, .ai t.av, .ai vo, .ptr H.length 0, .ptr (H.length + 1) 0, .any, .any, .any, .any, .any, .any, .any, .any, .fn (.func 205) [] [.ai (.int .i64 ops.length), .ai (.int .i64 0), .ai (.int .i64 ((ops.length : Int) - 1))], .any, .any, .any, .any, .any, .any, .any, .any, .any, .any, .any, .any, .any, .any, .any, .any, .any, .any, .any, .any, .any, .any, .any, .any, .any, .any] := by rw [yR]; rfl
 have hk : ∀ s, (eW H [] s).length = H.length + 2 := fun s => by rw [eJ]; rfl
 have e0 : ∀ s st Y, (eW H [] s ++ aa.loop st a8 es :: Y)[H.length + 2]? = some (.loop st a8 es) := fun s st Y => tX _ _ _ _ (hk s)
 have fY : ∀ s st st' Y, (eW H [] s ++ aa.loop st a8 es :: Y).set (H.length + 2) (.loop st' a8 es) = eW H [] s ++ aa.loop st' a8 es :: Y := fun s st st' Y => tY _ _ _ _ _ (hk s)
 refine nV (lc := a8) (es := es) (e0 none .ready Y) QD QE ⟨by rw [ees, Ap]; rfl, by rw [vV]; rfl, by rw [vV, Ap]; rfl, ?_, ?_⟩ (vO ?_)
 ·rw [ees]; intro x hx; simp only [List.mem_cons, List.not_mem_nil, or_false] at hx
  repeat' (first | (rcases hx with hx | hx; · subst hx; rfl) | (subst hx; rfl))
 ·intro x hx; simp only [List.mem_cons, List.not_mem_nil, or_false] at hx; subst hx; exact (aD pl).2.1
 ·have ez : (a8.ps.zip [bn pl]).reverse ++ bW 0 es = (15, bn pl) :: bW 0 es := by rw [vV]; rfl
  rw [ez]
  generalize xd : bW 0 es = ea
  have g2 : get ea 2 = .ai t.av := by rw [← xd, ees]; rfl
  have g3 : get ea 3 = .ai vo := by rw [← xd, ees]; rfl
  have g4 : get ea 4 = .ptr H.length 0 := by rw [← xd, ees]; rfl
  have g5 : get ea 5 = .ptr (H.length + 1) 0 := by rw [← xd, ees]; rfl
  simp only [I7, I8]
  have hb : ∀ K, jG (H.length + 2) (eW H [] none ++ .loop .ready a8 es :: Y) K = K (eW H [] none ++ .loop .busy a8 es :: Y) := fun K => by rw [sc (e0 none .ready Y), fY]
  obtain ⟨a1, a2, a3, a4⟩ := ho.one
  obtain ⟨b1, b2, b3, b4, b5⟩ := aD pl
  have lvo : ∀ (H : List aa) (φ : AV → Prop), aS none (.ai vo) H φ = φ vo := fun H φ => by simp [aS, a1, a2]
  have ip : IL (bn pl) pl := .inl rfl
  have hlen : (eW H [] none ++ .loop .ready a8 es :: Y).length = H.length + 2 + (Y.length + 1) := by rw [List.length_append, hk]; rfl
  have endN : ∀ n0 Z, n0 = H.length + 2 + (Y.length + 1) → eU t ops none pl = (none, true) → pZ n0 (H.length + 2) (fun r H' => r = .bool (eU t ops none pl).2 ∧ H' = eW H [] (eU t ops none pl).1 ++ .loop (iF (eU t ops none pl).1) a8 es :: Y) .normal (eW H [] none ++ .loop .busy a8 es :: (Y ++ Z)) := by
   intro n0 Z LS bQ
   rw [EF (e0 none .busy _), fY, bQ]
   refine ⟨by rw [List.length_append, hk]; simp; omega, rfl, ?_⟩
   rw [LS, ← hlen, show eW H [] none ++ aa.loop .ready a8 es :: (Y ++ Z) = (eW H [] none ++ aa.loop .ready a8 es :: Y) ++ Z by simp, List.take_left]
   rfl
  have endR : ∀ n0 Z s, n0 = H.length + 2 + (Y.length + 1) → eU t ops none pl = (s, false) → s.isSome = true → pZ n0 (H.length + 2) (fun r H' => r = .bool (eU t ops none pl).2 ∧ H' = eW H [] (eU t ops none pl).1 ++ .loop (iF (eU t ops none pl).1) a8 es :: Y) .ret (eW H [] s ++ .loop .busy a8 es :: (Y ++ Z)) := by
   intro n0 Z s LS bQ hs
   have hlen2 : (eW H [] s ++ .loop (.jump .ret) a8 es :: Y).length = H.length + 2 + (Y.length + 1) := by rw [List.length_append, hk]; rfl
   rw [KK (e0 _ .busy _), fY, bQ]
   refine ⟨by rw [List.length_append, hk]; simp; omega, rfl, ?_⟩
   rw [LS, ← hlen2, show eW H [] s ++ aa.loop (.jump .ret) a8 es :: (Y ++ Z) = (eW H [] s ++ aa.loop (.jump .ret) a8 es :: Y) ++ Z by simp, List.take_left]
   have : iF s = .jump .ret := if_pos hs
   rw [this]
  simp +contextual only [g2, g3, g4, g5, hb, bU, b1, b2, b4, b5, sZ, Nat.reduceEqDiff, Nat.reduceAdd, ↓reduceIte]
  refine ae (aax pl ip (by omega) kB) ?_
  cases hd : nI pl with
  | false =>
    have bQ : eU t ops none pl = (none, true) := by rw [eU, if_neg (by rw [hd]; simp)]
    simp +contextual only [Bool.not_false, sZ, Nat.reduceEqDiff, ↓reduceIte]
    have := endN ((eW H [] none).length + (Y.length + 1)) [] (by rw [hk]) bQ
    rwa [List.append_nil] at this
  | true =>
    have bQ : eU t ops none pl = eK (dt t ops pl) (ic (di 1 3) ops.length) none := by rw [eU, if_pos hd]
    simp +contextual only [Bool.not_true, lvo, ho.aL, ho.len (by omega), sZ, Nat.reduceEqDiff, Nat.reduceAdd, ↓reduceIte]
    refine ae (Xb ops.length 1 3) ?_
    simp +contextual only [lT, sZ, Nat.reduceEqDiff, ↓reduceIte]
    obtain ⟨W, hW⟩ : ∃ W, W = aa.loop .busy a8 es :: Y := ⟨_, rfl⟩
    have hH2 : eW H [] none ++ aa.loop .busy a8 es :: Y = eW H W none := by rw [hW]; simp [eW]
    have hA : ∀ s, eW H W s = eW H [] s ++ aa.loop .busy a8 es :: Y := fun s => by rw [hW]; simp [eW]
    obtain ⟨esI, Xc⟩ : ∃ esI, esI = kw 41 [(2, AV.ai t.av), (3, .ai vo), (4, .ptr H.length 0), (5, .ptr (H.length + 1) 0), (6, .ai (bn pl)), (21, .fn (.func 205) [] [.ai (.int .i64 ops.length), .ai (.int .i64 1), .ai (.int .i64 3)])] := ⟨_, rfl⟩
    have ys := ysI ht ho hr jR wm H W esI Xc
    have pK : (3 : Int) + 1 - 1 = 3 := rfl
    have hvt : ((3 : Int)).toNat = 3 := rfl
    rw [pK, hvt] at ys
    have KP := Xa (n := ops.length) (lo := 1) (hi := 3) (by omega) (by omega) jR (Good := fun s : Fo => s = none) (hy := by rw [pK, hvt]; exact ys) (fun s => by simp [eJ]) none rfl
    rw [pK, hvt] at KP
    rw [hH2]
    have eln : (eW H W none).length = H.length + 2 + W.length := eJ H W none
    refine rZ (P := Tryz.prog) (R := fun r H' => r = .tuple [] ∧ H' = eW H W (eK (dt t ops pl) (ic (di 1 3) ops.length) none).1 ++ [.loop (iF (eK (dt t ops pl) (ic (di 1 3) ops.length) none).1) bw esI]) 205 [] _ bw _ _ _ Tryz.call205 ?_ ?_
    ·rw [Aq, ← Xc, eln]
     exact KP
    ·have h2 := Ar t ops pl (ic (di 1 3) ops.length) none rfl
     rintro r H' ⟨rfl, rfl⟩
     generalize T6 : (eK (dt t ops pl) (ic (di 1 3) ops.length) none).1 = s' at h2
     have Xd : eU t ops none pl = (s', s'.isNone) := by rw [bQ]; exact Prod.ext T6 h2
     rw [eln]
     have eget : ∀ st, (eW H W s' ++ [aa.loop st bw esI])[H.length + 2 + W.length]? = some (.loop st bw esI) := fun st => tX _ _ _ _ (eJ H W s')
     have eset : ∀ st st', (eW H W s' ++ [aa.loop st bw esI]).set (H.length + 2 + W.length) (.loop st' bw esI) = eW H W s' ++ [.loop st' bw esI] := fun st st' => tY _ _ _ _ _ (eJ H W s')
     cases s' with
     | none =>
       have el : iF none = .ready := rfl
       rw [el, vN (eget _), eset]
       simp +contextual only [oY]
       have := endN ((eW H [] none).length + (Y.length + 1)) [.loop .eD bw esI] (by rw [hk]) Xd
       rw [hA]
       simpa using this
     | some o =>
       have el : iF (some o) = .jump .ret := rfl
       rw [el, CQ (eget _), eset]
       simp +contextual only [oY]
       have := endR ((eW H [] none).length + (Y.length + 1)) [.loop .eD bw esI] (some o) (by rw [hk]) Xd rfl
       rw [hA]
       simpa using this
end Go.aK
end
section
set_option maxRecDepth 100000
namespace Go.aK
open Go Go.Proofs Go.fJ
theorem ysO {t : Ty} (ht : As t) {ops : List Int} {vo : AV} (ho : IL vo ops) (hr : ∀ i ∈ ops, 0 ≤ i ∧ i < t.s.ops.length) (jR : ops.length ≤ 1000000) (H : List aa) (es : List AV) (yR : es = kw 41 [(2, .ai t.av), (3, .ai vo), (4, .ptr H.length 0), (5, .ptr (H.length + 1) 0), (14, .fn (.func 205) [] [.ai (.int .i64 ops.length), .ai (.int .i64 0), .ai (.int .i64 ((ops.length : Int) - 1))])]) :
 YS ops.length (di 0 ops.length) (H.length + 2) (fun s : Fo => eW H [] s ++ [.loop (iF s) a8 es]) (fun s => s = none) (eU t ops) := by
 refine ⟨fun l s X hl hm hs => ?_, fun l s hs bQ => ?_, fun s s' => ?_⟩
 ·subst hs
  have := KO ht ho hr jR H es yR l hl (fun x hx => by have := yx.1 (hm x hx); omega) X
  have el : iF none = .ready := rfl
  refine fe.mono (by simpa [el, jz] using this) fun r H' h => ?_
  refine ⟨h.1, ?_⟩
  rw [h.2]; simp
 ·subst hs
  have h2 : (eU t ops none l).2 = (eU t ops none l).1.isNone := by
   unfold eU
   split
   ·exact Ar t ops l _ none rfl
   ·rfl
  rw [bQ] at h2
  exact Option.isNone_iff_eq_none.1 h2.symm
 ·simp [eJ]
def foA (s : Fo) : AV := match s with | none => ff [] [] | some (P, S) => ff P S
theorem FX (n0 s s' : Nat) (sz sz' : Option Nat) (env : Env) (H : List aa) (R : AV → List aa → Prop) : bV n0 [.c s sz, .c s' sz'] env H R = aS sz (get env s) H fun x => aS sz' (get env s') H fun y => sS n0 [x, y] H R := _root_.id rfl
theorem c93 {t : Ty} (ht : As t) {ops : List Int} {vo : AV} (ho : IL vo ops) (hr : ∀ i ∈ ops, 0 ≤ i ∧ i < t.s.ops.length) (jR : ops.length ≤ 1000000) : Pure Tryz.prog 93 [t.av, vo] (.tuple [foA (xc t ops), .bool (xc t ops).isSome]) := by
 refine fun H => YX.calls rfl ?_
 simp only [Uq, Uo]
 obtain ⟨e1, e2, e3, e4, e5, e6⟩ := Ty.facts t
 obtain ⟨a1, a2, a3, a4⟩ := ho.one
 have lvo : ∀ (H : List aa) (φ : AV → Prop), aS none (.ai vo) H φ = φ vo := fun H φ => by simp [aS, a1, a2]
 have zf2 : List.map AV.ab [AV.ah, .ah] = [.ah, .ah] := rfl
 have zb2 : ∀ n, aj n [AV.ah, .ah] = true := fun _ => rfl
 have hw : IntKind.i64.wrap ((ops.length : Int) - 1) = (ops.length : Int) - 1 := ee _ (by omega)
 simp +contextual only [e1, a3, lvo, zf2, zb2, ho.aL, ho.len (by omega), hw, sZ, Nat.reduceEqDiff, Nat.reduceAdd, ↓reduceIte, reduceCtorEq]
 refine ae (Xb ops.length 0 ((ops.length : Int) - 1)) ?_
 simp +contextual only [lT, sZ, Nat.reduceEqDiff, ↓reduceIte, reduceCtorEq]
 have hA0 : H ++ [aa.cells [AV.ah, .ah], .cells [.bool false]] = eW H [] none := rfl
 rw [hA0]
 obtain ⟨esO, yR⟩ : ∃ esO, esO = kw 41 [(2, AV.ai t.av), (3, .ai vo), (4, .ptr H.length 0), (5, .ptr (H.length + 1) 0), (14, .fn (.func 205) [] [.ai (.int .i64 ops.length), .ai (.int .i64 0), .ai (.int .i64 ((ops.length : Int) - 1))])] := ⟨_, rfl⟩
 have ys := ysO ht ho hr jR H esO yR
 have hv : ((ops.length : Int) - 1 + 1 - 0).toNat = ops.length := by omega
 have KP := Xa (n := ops.length) (lo := 0) (hi := (ops.length : Int) - 1) (by omega) (by omega) jR (Good := fun s : Fo => s = none) (hy := by rw [hv]; exact ys) (fun s => by simp [eJ]) none rfl
 rw [hv] at KP
 have eln : ∀ s, (eW H [] s).length = H.length + 2 := fun s => eJ H [] s
 refine rZ (P := Tryz.prog) (R := fun r H' => r = .tuple [] ∧ H' = eW H [] (xc t ops) ++ [.loop (iF (xc t ops)) a8 esO]) 205 [] _ a8 _ _ _ Tryz.call205 ?_ ?_
 ·rw [Ap, ← yR, eln]
  exact KP
 ·rintro r H' ⟨rfl, rfl⟩
  generalize xc t ops = s'
  have eget : ∀ st, (eW H [] s' ++ [aa.loop st a8 esO])[H.length + 2]? = some (.loop st a8 esO) := fun st => tX _ _ _ _ (eln s')
  have eset : ∀ st st', (eW H [] s' ++ [aa.loop st a8 esO]).set (H.length + 2) (.loop st' a8 esO) = eW H [] s' ++ [.loop st' a8 esO] := fun st st' => tY _ _ _ _ _ (eln s')
  have k4 := PV H [] [.loop .eD a8 esO] s'
  have k5 := PW H [] [.loop .eD a8 esO] s'
  have htk : (eW H [] s' ++ [aa.loop .eD a8 esO]).take H.length = H := by rw [List.take_append_of_le_length (by rw [eln]; omega), eW, List.take_left]
  have sp2 : ∀ (a b x y : AV), ag [a, b] 0 [x, y] = [x, y] := fun _ _ _ _ => rfl
  rw [eln]
  cases s' with
  | none =>
    have el : iF none = .ready := rfl
    rw [el, vN (eget _), eset]
    have o4n : o4 none = .cells [.ah, .ah] := rfl
    have o5n : o5 none = .cells [.bool false] := rfl
    rw [o4n] at k4
    rw [o5n] at k5
    have k4s := fun o => List.getElem?_set_self (a := o) (aN k4)
    have k5s : ∀ o, ((eW H [] none ++ [aa.loop .eD a8 esO]).set H.length o)[H.length + 1]? = some (.cells [.bool false]) := fun o => by rw [List.getElem?_set_ne (by omega)]; exact k5
    have k5t : ∀ o o', (((eW H [] none ++ [aa.loop .eD a8 esO]).set H.length o).set (H.length + 1) o')[H.length + 1]? = some o' := fun o o' => List.getElem?_set_self (by rw [List.length_set]; exact aN k5)
    have k4t : ∀ o o', (((eW H [] none ++ [aa.loop .eD a8 esO]).set H.length o).set (H.length + 1) o')[H.length]? = some o := fun o o' => by rw [List.getElem?_set_ne (by omega)]; exact k4s o
    have aaB : ∀ o o', (((eW H [] none ++ [aa.loop .eD a8 esO]).set H.length o).set (H.length + 1) o').take H.length = H := fun o o' => by rw [List.take_set_of_le (by omega), List.take_set_of_le (by omega), htk]
    simp +contextual only [oY, k4, k5s, k4t, k5t, zf2, zb2, sp2, FX, sZ, Nat.reduceEqDiff, Nat.reduceAdd, Nat.reduceLT, ↓reduceIte, reduceCtorEq]
    exact Pn (aaB _ _) ((bi [] []).2.2.2.2.2 _) rfl rfl rfl ⟨rfl, rfl⟩
  | some o =>
    obtain ⟨P, S⟩ := o
    have el : iF (some (P, S)) = .jump .ret := rfl
    rw [el, CQ (eget _), eset]
    have o4n : o4 (some (P, S)) = .cells [.ap 0 (ints P), .ap 0 (ints S)] := rfl
    have o5n : o5 (some (P, S)) = .cells [.bool true] := rfl
    rw [o4n] at k4
    rw [o5n] at k5
    simp +contextual only [oY, k4, k5, FX, sZ, Nat.reduceEqDiff, Nat.reduceAdd, Nat.reduceLT, ↓reduceIte, reduceCtorEq]
    exact Pn htk ((bi P S).2.2.2.2.2 _) rfl rfl rfl ⟨rfl, rfl⟩
end Go.aK
end
section
set_option maxRecDepth 100000
set_option maxHeartbeats 0
namespace Go.aK
open Go Go.Proofs
noncomputable def Xe := aI Tryz.call75 Tryz.func75 Tryz.ntmps75 [(0,0,1),(5,2,1000),(6,0,1),(6,7,2),(6,8,1),(7,6,2),(7,9,2),(9,0,6004)] [(0,[1,2]),(1,[1,6]),(2,[1,6,7]),(3,[6,7,15,16,17]),(4,[6,7,15,16,17,18]),(5,[6,7,9,15,16,17]),(6,[6,7,9,15,16,17]),(7,[6,7,15,16,17]),(8,[6,7,15,16,17]),(9,[4,5])] [(7,(.take 1 true (.take 2 true (.take 3 true (.take 4 true (.take 5 true (.take 0 false (.br 6 (.take 7 true (.take 8 true (.br 9 .done .nil))) .nil))))))))]
end Go.aK
end
section
set_option maxRecDepth 100000
namespace Go.aK
open Go Go.Proofs Go.fJ
def s5 (z : AV) (kp : Nat → Prop) (v : AV) (xs : List AV) (G : List aa) : Prop :=
 (xs = [] ∧ v = .ah) ∨ ∃ id cap, ¬ kp id ∧ v = .bf id 0 xs.length cap ∧ G[id]? = some (bj z xs cap) ∧ xs.length ≤ cap ∧ xs ≠ []
section
variable {z : AV} {kp : Nat → Prop} {v : AV} {xs : List AV} {G : List aa}
theorem s5.one (h : s5 z kp v xs G) : v.one = true ∧ v.val = true ∧ v.ab = v ∧ v.cells = [v] := by
 rcases h with ⟨_, rfl⟩ | ⟨id, cap, _, rfl, _⟩ <;> exact ⟨rfl, rfl, rfl, rfl⟩
theorem s5.a7 (h : s5 z kp v xs G) {n : Nat} (hn : G.length ≤ n) : v.a7 n = true := by
 rcases h with ⟨_, rfl⟩ | ⟨id, cap, _, rfl, c, _⟩
 ·rfl
 ·have := (List.getElem?_eq_some_iff.1 c).1
  rw [jH]; simp; omega
theorem s5.len (h : s5 z kp v xs G) {H : List aa} (φ : AV → Prop) : eY v H φ = φ (.int .i64 xs.length) := by
 rcases h with ⟨rfl, rfl⟩ | ⟨id, cap, _, rfl, _⟩ <;> rfl
theorem s5.aL (h : s5 z kp v xs G) : aL 1 v = True := by
 rcases h with ⟨_, rfl⟩ | ⟨id, cap, _, rfl, _⟩ <;> rfl
theorem s5.set (h : s5 z kp v xs G) {j : Nat} (hj : ∀ l c, v ≠ .bf j 0 l c) (o : aa) : s5 z kp v xs (G.set j o) := by
 rcases h with h | ⟨id, cap, a, b, c, d⟩
 ·exact .inl h
 ·exact .inr ⟨id, cap, a, b, by rw [List.getElem?_set_ne (fun e => hj _ _ (by rw [e]; exact b))]; exact c, d⟩
end
theorem yz {esz bytes : Nat} {z : AV} (hz : iW esz (bO z)) {kp : Nat → Prop} {v : AV} {xs : List AV} {G : List aa} (h : s5 z kp v xs G) (fx : ∀ x ∈ xs, iW esz x) (o : Nat) (ys : List AV) (hy : ys ≠ []) (pE : ∀ x ∈ ys, iW esz x)
 (hb : (xs.length + ys.length) * bytes ≤ 140737488355328) (hG : ∀ j, kp j → j < G.length) {K : AV → List aa → Prop}
 (hK : ∀ v' G', s5 z kp v' (xs ++ ys) G' → (∀ j, kp j → G'[j]? = G[j]?) → G.length ≤ G'.length → K v' G') : cJ esz bytes z v (.ap o ys) G K := by
 have mB : ¬ kp G.length := fun h => Nat.lt_irrefl _ (hG _ h)
 have jS : ta esz ys := fun y hy => ⟨(pE y hy).len, (pE y hy).one⟩
 obtain ⟨f1, f2, f3, f4⟩ := iW.flat pE
 obtain ⟨g1, g2, g3, g4⟩ := iW.flat fx
 have wm := qv hz
 have kB : ∀ n m, aj n (dc z m) = true := fun n m => (iW.flat (jI hz m)).2.2.1 n
 unfold cJ
 simp only [dI]
 refine ⟨jS, ?_⟩
 rcases h with ⟨rfl, rfl⟩ | ⟨id, cap, bm, rfl, hg, hle, _⟩
 ·refine ⟨by simpa using hb, fun e => absurd e hy, fun _ cap hc _ => ⟨?_, hK _ _ (.inr ⟨G.length, cap, mB, by simp, ?_, by simpa using hc, by simpa using hy⟩) ?_ (by simp)⟩⟩
  ·rw [f2, bu]; exact ⟨f3 _, kB _ _⟩
  ·rw [f2]; simp [bj]
  ·intro j hj; have := hG j hj; rw [List.getElem?_append_left (by omega)]
 ·have xx := (List.getElem?_eq_some_iff.1 hg).1
  simp only [hg, bj, List.length_append, g1, wm, Nat.zero_add, List.drop_zero]
  refine ⟨hb, hle, by rw [← Nat.add_mul]; exact Nat.le_of_eq (by congr 1; omega), fun hroom => ⟨by rw [f2]; exact f3 _, ?_⟩, fun jR fZ hc _ => ⟨?_, ?_⟩⟩
  ·rw [f2]
   refine hK _ _ (.inr ⟨id, cap, bm, by simp, ?_, by simpa using hroom, by simp [hy]⟩) ?_ (by simp)
   ·rw [List.getElem?_set_self xx, bj]
    congr 2
    unfold ag
    rw [f1, List.take_append_of_le_length (by rw [g1]; exact Nat.le_refl _), List.take_of_length_le (by rw [g1]; exact Nat.le_refl _), List.drop_append, List.drop_of_length_le (by rw [g1]; omega), g1,
     show xs.length * esz + ys.length * esz - xs.length * esz = ys.length * esz by omega, xS hz _ _ (by omega), nt, List.nil_append, List.length_append]
    rw [show cap - xs.length - ys.length = cap - (xs.length + ys.length) by omega, List.append_assoc]
   ·intro j hj; rw [List.getElem?_set_ne (fun e => bm (by rw [e]; exact hj))]
  ·rw [List.take_append_of_le_length (by rw [g1]; exact Nat.le_refl _), List.take_of_length_le (by rw [g1]; exact Nat.le_refl _), g2, f2, bu, bu]; exact ⟨⟨g3 _, f3 _⟩, kB _ _⟩
  ·rw [List.take_append_of_le_length (by rw [g1]; exact Nat.le_refl _), List.take_of_length_le (by rw [g1]; exact Nat.le_refl _), g2, f2, ← nt]
   refine hK _ _ (.inr ⟨G.length, fZ, mB, by simp, ?_, by simpa using hc, by simp [hy]⟩) ?_ (by simp)
   ·simp [bj]
   ·intro j hj; have := hG j hj; rw [List.getElem?_append_left (by omega)]
def S8 (kp : Nat → Prop) (H : List aa) (xs : List AV) (r : AV) (H' : List aa) : Prop := s5 zN kp r xs H' ∧ (∀ j, kp j → H'[j]? = H[j]?) ∧ H.length ≤ H'.length
theorem Xf : ∀ (N : Nat) (t : T), wt t ≤ N → ∀ (kp : Nat → Prop) (v : AV) (xs : List AV) (H : List aa), s5 zN kp v xs H → (∀ x ∈ xs, iW 4 x) → (∀ j, kp j → j < H.length) → (xs.length + wt t) * 64 ≤ 140737488355328 →
 aq Tryz.prog 132 [t.av, v] H (S8 kp H (xs ++ eF (vz t xs.length))) := by
 intro N
 induction N with
 | zero => intro t ht; have := fw t; omega
 | succ N ih =>
 intro t ht kp v xs H hR fx hbase hb
 have hw := Ck t
 have X3 := iu t.l
 refine FB.2.calls rfl ?_
 simp only [FB, aI]
 obtain ⟨o1, o2, o3, o4⟩ := hR.one
 simp +contextual only [o3, hR.len, hR.aL, bdN, Wf, sZ, Nat.reduceEqDiff, Nat.reduceAdd, ↓reduceIte, reduceCtorEq]
 refine yz z3 hR fx 0 [l7 t] (by simp) (by simp [qC]) (by simp; omega) hbase fun v1 G1 Su Sv th => ?_
 obtain ⟨o1', o2', o3', o4'⟩ := Su.one
 simp +contextual only [sZ]
 intro _
 have iN : ∀ i, (xs ++ l7 t :: eF (cT (t.l.take i) (xs.length + 1))).length = xs.length + 1 + gM (t.l.take i) := by intro i; simp [qE, gH]; omega
 have jS : ∀ i, ∀ x ∈ xs ++ l7 t :: eF (cT (t.l.take i) (xs.length + 1)), iW 4 x := by
  intro i x hx
  rcases List.mem_append.1 hx with hx | hx
  ·exact fx x hx
  ·rcases List.mem_cons.1 hx with rfl | hx
   ·exact qC t
   ·exact jL _ x hx
 refine aM t.l.length (fun i (p : AV × List aa) => s5 zN kp p.1 (xs ++ l7 t :: eF (cT (t.l.take i) (xs.length + 1))) p.2 ∧ (∀ j, kp j → p.2[j]? = H[j]?) ∧ H.length ≤ p.2.length)
  (fun i p => [(1, p.1), (5, .int .i64 xs.length), (6, oA (aT (t.l.take i) (xs.length + 1))), (17, .ap 0 (cG t.l)), (18, .int .i64 t.l.length), (19, .int .i64 i)])
  (fun i p => p.2) (v1, G1) ⟨⟨Su, Sv, th⟩, aA _ _ _⟩ fun i p hi hI => ?_
 obtain ⟨v, G⟩ := p
 obtain ⟨hR, hG, hl⟩ := hI
 simp only at hR hG hl
 obtain ⟨o1, o2, o3, o4⟩ := hR.one
 have hle := dh t.l i
 have EZ := cv (t.l.take i) (xs.length + 1)
 have Sw : (t.l.take i).length ≤ t.l.length := by simp; omega
 simp +contextual only [o3, hR.len, hR.aL, iN, vr, (eT _).2.1, kU, sZ, Nat.reduceEqDiff, Nat.reduceAdd, ↓reduceIte, reduceCtorEq]
 refine ⟨fun aW => ⟨bT aW, by omega, ?_⟩, fun ji => ?_⟩
 ·have aW := bT aW
  have Zp := nz aW
  have hnext := dh t.l (i + 1)
  have e2 : t.l.take (i + 1) = t.l.take i ++ [t.l.getD i default] := by rw [List.take_succ_eq_append_getElem aW]; simp [aW]
  refine af (ih (t.l.getD i default) (by have := bJ (fG aW); omega) kp v _ G hR (jS i) (fun j hj => by have := hbase j hj; omega) (by rw [iN]; omega)) ?_
  rintro r G' ⟨wZ, ej, wM⟩
  obtain ⟨o1', o2', o3', o4'⟩ := wZ.one
  simp +contextual only [o3', sZ, Nat.reduceEqDiff, ↓reduceIte]
  refine ⟨i + 1, (r, G'), ⟨aW, ?_, fun j hj => (ej j hj).trans (hG j hj), Nat.le_trans hl wM⟩, by omega, aF ?_ rfl⟩
  ·rw [iN] at wZ
   rw [e2, kV, qD, ← List.cons_append, ← List.append_assoc]
   exact wZ
  ·rw [e2, iD, au i (by omega)]
 ·have mD : i = t.l.length := by have := df ji; omega
  subst mD
  rw [List.take_length] at hR
  have Er := iN t.l.length
  have Es := jS t.l.length
  rw [List.take_length] at Er Es
  have fY : (xs ++ l7 t :: eF (cT t.l (xs.length + 1))).set xs.length (Ep (t, aT t.l (xs.length + 1))) = xs ++ eF (vz t xs.length) := by
   rw [List.set_append_right _ _ (Nat.le_refl _), Nat.sub_self, List.set_cons_zero, oh]; rfl
  have jo : (xs ++ l7 t :: eF (cT t.l (xs.length + 1))).getD xs.length .any = l7 t := by simp
  generalize xs ++ l7 t :: eF (cT t.l (xs.length + 1)) = ys at hR Er Es fY jo
  rcases hR with ⟨rfl, _⟩ | ⟨id, cap, bm, rfl, hg, cI, _⟩
  ·simp at Er
   omega
  have xx := (List.getElem?_eq_some_iff.1 hg).1
  obtain ⟨k1, k2, k3, k4, k5⟩ := aD (aT t.l (xs.length + 1))
  simp +contextual only [hg, kC, List.take_length, sZ, Nat.reduceEqDiff, ↓reduceIte, reduceCtorEq]
  refine ⟨by omega, ?_⟩
  refine zS Es (by omega) (by decide) (y := Ep (t, aT t.l (xs.length + 1))) k1 k4 (by rw [k2]; exact k3 _) (by rw [jo, k2]; rfl) ?_
  simp +contextual only [sZ, Nat.reduceEqDiff, ↓reduceIte, reduceCtorEq]
  rw [fY]
  refine aV (G.length) (by omega) (by rw [ax, if_pos rfl, jH]; simpa using xx) ?_
  rw [ax, if_pos rfl, List.take_of_length_le (by simp)]
  refine ⟨.inr ⟨id, cap, bm, ?_, ?_, ?_, ?_⟩, ?_, by simpa using hl⟩
  ·rw [← fY]; simp
  ·rw [List.getElem?_set_self xx]
  ·rw [← fY]; simpa using cI
  ·rw [oh]; simp [eF]
  ·intro j hj; rw [List.getElem?_set_ne (fun e => bm (by rw [e]; exact hj))]; exact hG j hj
end Go.aK
end
section
set_option maxRecDepth 100000
namespace Go.aK
open Go Go.Proofs Go.fJ
def vX (n0 id : Nat) (G : List aa) : List aa := G.mapIdx fun j o => if j < n0 + 3 ∨ j = id then o else .dead
theorem sg {n0 id j : Nat} {G : List aa} : (vX n0 id G)[j]? = (G[j]?).map fun o => if j < n0 + 3 ∨ j = id then o else .dead := by simp [vX]
theorem yA {n0 id : Nat} {G : List aa} : (vX n0 id G).length = G.length := by simp [vX]
theorem EK {n0 id : Nat} {G : List aa} : (vX n0 id G).take (n0 + 3) = G.take (n0 + 3) := by
 apply List.ext_getElem?
 intro j
 rw [List.getElem?_take, List.getElem?_take]
 split
 ·rename_i hj
  rw [sg]
  cases G[j]? with
  | none => rfl
  | some o => simp [hj]
 ·rfl
theorem CR {n0 id : Nat} {G : List aa} (h3 : ∀ (j : Nat) (o : aa), n0 ≤ j → j < n0 + 3 → G[j]? = some o → o.a7 (j + 1) = true) (bm : ∀ o, G[id]? = some o → o.a7 (id + 1) = true) : mv n0 G G.length (vX n0 id G) := by
 refine ⟨by rw [yA, Nat.min_self], fun j o ho => ?_⟩
 rw [sg] at ho
 cases hg : G[j]? with
 | none => rw [hg] at ho; cases ho
 | some o' =>
   rw [hg] at ho
   simp only [Option.map_some, Option.some.injEq] at ho
   split at ho
   ·rename_i hc
    subst ho
    refine .inr ⟨rfl, fun h => ?_⟩
    rcases hc with hc | hc
    ·exact h3 j _ h hc hg
    ·subst hc; exact bm _ hg
   ·exact .inl ho.symm
def KQ (H : List aa) (ps ss : List Int) (ts : List T) (r : AV) (G : List aa) : Prop :=
 ∃ va, r = .tuple [.ptr (H.length + 2) 0, va] ∧ G.take (H.length + 3) = H ++ [.map [], .map [], jM ps ss (cT ts 0) H.length (H.length + 1)] ∧ H.length + 3 ≤ G.length ∧ RO zI (H.length + 3) va (ints (aT ts 0)) G
theorem s5.Xg {z : AV} {kp kp' : Nat → Prop} {v : AV} {xs : List AV} {G G' : List aa} (h : s5 z kp v xs G) (hk : ∀ id l c, v = .bf id 0 l c → ¬ kp' id ∧ G'[id]? = G[id]?) : s5 z kp' v xs G' := by
 rcases h with h | ⟨id, cap, a, b, c, d⟩
 ·exact .inl h
 ·obtain ⟨h1, h2⟩ := hk _ _ _ b
  exact .inr ⟨id, cap, h1, b, by rw [h2]; exact c, d⟩
theorem s5.ne {z : AV} {kp : Nat → Prop} {v : AV} {xs : List AV} {G : List aa} (h : s5 z kp v xs G) {id l c : Nat} (e : v = .bf id 0 l c) : ¬ kp id := by
 rcases h with ⟨_, rfl⟩ | ⟨id', cap, a, rfl, _⟩
 ·cases e
 ·cases e; exact a
theorem aaC (ps ss : List Int) (ts : List T) (H : List aa) (hb : gM ts * 64 ≤ 140737488355328) : aq Tryz.prog 75 [ff ps ss, .ap 0 (cG ts)] H (KQ H ps ss ts) := by
 refine Xe.2.DR rfl ?_
 simp only [Xe, aI, ff]
 have X3 := iu ts
 simp +contextual only [bdD, N0, sZ, Nat.reduceEqDiff, Nat.reduceAdd, ↓reduceIte, reduceCtorEq]
 refine ⟨by simp; omega, fun _ => ?_⟩
 have e0 : ∀ (l : List aa) (x : aa), (H ++ x :: l)[H.length]? = some x := by simp
 refine lS ts.length (fun i (p : AV × AV × List aa) => s5 zN (fun j => j < H.length + 3 ∨ ∃ l c, p.2.1 = .bf j 0 l c) p.1 (eF (cT (ts.take i) 0)) p.2.2 ∧ s5 zI (fun j => j < H.length + 3 ∨ ∃ l c, p.1 = .bf j 0 l c) p.2.1 (ints (aT (ts.take i) 0)) p.2.2 ∧ H.length + 3 ≤ p.2.2.length ∧
  p.2.2.take (H.length + 3) = H ++ [.map [], .map [], .cells [.ap 0 (ints ps), .ap 0 (ints ss), p.1, .map H.length, .map (H.length + 1)]])
  (fun i p => [(6, .ptr (H.length + 2) 0), (7, p.2.1), (15, .ap 0 (cG ts)), (16, .int .i64 ts.length), (17, .int .i64 i)])
  (fun i p => p.2.2) (.ah, .ah, _) ⟨⟨.inl ⟨rfl, rfl⟩, .inl ⟨rfl, rfl⟩, by simp, ?_⟩, oc _ _ _⟩ fun i p hi hI => ?_
 ·rw [List.take_of_length_le (by simp)]
 obtain ⟨v, va, G⟩ := p
 obtain ⟨hR, hA, hl, hG⟩ := hI
 simp only at hR hA hl hG
 obtain ⟨o1, o2, o3, o4⟩ := hR.one
 obtain ⟨p1, p2, p3, p4⟩ := hA.one
 have gget : ∀ j, j < H.length + 3 → G[j]? = (H ++ [.map [], .map [], .cells [.ap 0 (ints ps), .ap 0 (ints ss), v, .map H.length, .map (H.length + 1)]])[j]? := by
  intro j hj; rw [← hG, List.getElem?_take, if_pos hj]
 have g2 : G[H.length + 2]? = some (.cells [.ap 0 (ints ps), .ap 0 (ints ss), v, .map H.length, .map (H.length + 1)]) := by rw [gget _ (by omega)]; simp
 have hle := dh ts i
 have EZ := cv (ts.take i) 0
 have Sw : (ts.take i).length ≤ ts.length := by simp; omega
 by_cases aW : i < ts.length
 ·have mF : ((i : Int) < ts.length) = True := eq_true (by omega)
  simp +contextual only [o3, p3, g2, hR.len, hR.aL, jj, mF, decide_true, sZ, Nat.reduceEqDiff, Nat.reduceAdd, Nat.reduceLT, ↓reduceIte]
  have Zp := nz aW
  have hnext := dh ts (i + 1)
  have e2 : ts.take (i + 1) = ts.take i ++ [ts.getD i default] := by rw [List.take_succ_eq_append_getElem aW]; simp [aW]
  have arrlt : ∀ {z : AV} {kp : Nat → Prop} {u : AV} {xs : List AV} {G : List aa} {j l c : Nat}, s5 z kp u xs G → u = .bf j 0 l c → j < G.length := by
   intro z kp u xs G j l c h e
   rcases h with ⟨_, rfl⟩ | ⟨id', cap, _, rfl, h2, _⟩
   ·cases e
   ·cases e; exact aN h2
  refine ⟨aW, yz z4 hA (nB _) 0 [.int .i64 (gM (ts.take i) : Nat)] (by simp) (nB [_]) (by rw [aw]; simp; omega) (fun j hj => ?_) fun va' G1 Qm N2 th => ?_⟩
  ·rcases hj with hj | ⟨l, c, e⟩
   ·omega
   ·exact arrlt hR e
  obtain ⟨p1', p2', p3', p4'⟩ := Qm.one
  have g21 : G1[H.length + 2]? = some (.cells [.ap 0 (ints ps), .ap 0 (ints ss), v, .map H.length, .map (H.length + 1)]) := by rw [N2 _ (.inl (by omega)), g2]
  have Su : s5 zN (fun j => j < H.length + 3 ∨ ∃ l c, va' = .bf j 0 l c) v (eF (cT (ts.take i) 0)) G1 := hR.Xg fun id l c e => by
   refine ⟨fun h => ?_, N2 id (.inr ⟨l, c, e⟩)⟩
   rcases h with h | ⟨l', c', e'⟩
   ·exact hR.ne e (.inl h)
   ·exact Qm.ne e' (.inr ⟨l, c, e⟩)
  simp +contextual only [o3, p3', g21, sZ, Nat.reduceEqDiff, Nat.reduceAdd, Nat.reduceLT, ↓reduceIte, reduceCtorEq]
  have hc := Xf (wt (ts.getD i default)) (ts.getD i default) (Nat.le_refl _) (fun j => j < H.length + 3 ∨ ∃ l c, va' = .bf j 0 l c) v _ G1 Su (jL _) (fun j hj => by
   rcases hj with hj | ⟨l, c, e⟩
   ·omega
   ·exact arrlt Qm e) (by rw [jj]; omega)
  refine af hc ?_
  rintro r G' ⟨wZ, E9, wM⟩
  obtain ⟨o1', o2', o3', o4'⟩ := wZ.one
  have g2' : G'[H.length + 2]? = some (.cells [.ap 0 (ints ps), .ap 0 (ints ss), v, .map H.length, .map (H.length + 1)]) := by rw [E9 _ (.inl (by omega)), g21]
  have dW := wZ.a7 (Nat.le_refl _)
  have DH : s5 zI (fun j => j < H.length + 3 ∨ ∃ l c, r = .bf j 0 l c) va' (ints (aT (ts.take i) 0) ++ [.int .i64 (gM (ts.take i) : Nat)]) G' := Qm.Xg fun id l c e => by
   refine ⟨fun h => ?_, E9 id (.inr ⟨l, c, e⟩)⟩
   rcases h with h | ⟨l', c', e'⟩
   ·exact Qm.ne e (.inl h)
   ·exact wZ.ne e' (.inr ⟨l, c, e⟩)
  have gt' : G'.take (H.length + 3) = G.take (H.length + 3) := by
   apply List.ext_getElem?
   intro j
   rw [List.getElem?_take, List.getElem?_take]
   split
   ·rename_i hj; rw [E9 j (.inl hj), N2 j (.inl hj)]
   ·rfl
  simp +contextual only [rH, o1', o2', o3', o4', g2', dW, sZ, Nat.reduceEqDiff, Nat.reduceAdd, Nat.reduceLeDiff, ↓reduceIte]
  refine ⟨by omega, i + 1, (r, va', _), ⟨aW, ?_, ?_, by simp; omega, ?_⟩, by omega, zR ?_ rfl⟩
  ·have h1 := wZ.set (j := H.length + 2) (fun l c e => wZ.ne e (.inl (by omega))) (.cells (ag [.ap 0 (ints ps), .ap 0 (ints ss), v, .map H.length, .map (H.length + 1)] 2 [r]))
   rw [jj] at h1
   rw [e2, kV, qD, Nat.zero_add]
   exact h1
  ·have h1 := DH.set (j := H.length + 2) (fun l c e => DH.ne e (.inl (by omega))) (.cells (ag [.ap 0 (ints ps), .ap 0 (ints ss), v, .map H.length, .map (H.length + 1)] 2 [r]))
   have ek : ints (aT (ts.take i ++ [ts.getD i default]) 0) = ints (aT (ts.take i) 0) ++ [.int .i64 (gM (ts.take i) : Nat)] := by rw [iD, Nat.zero_add]; simp [ints]
   rw [e2, ek]
   exact h1
  ·rw [List.take_set, gt', hG]
   simp [ag]
  ·rw [au i (by omega)]
 ·have mD : i = ts.length := by omega
  subst mD
  have mF : ((ts.length : Int) < ts.length) = False := eq_false (by omega)
  simp +contextual only [mF, decide_false, sZ, Nat.reduceEqDiff, ↓reduceIte]
  rw [List.take_length] at hR hA
  have bz : ∀ (l : List Int) (cap n : Nat), (bj zI (ints l) cap).a7 n = true := fun l cap n => by
   rw [z5]
   simp only [aa.a7, bu]
   exact ⟨bk _ _, (iW.flat (jI z4 _)).2.2.1 n⟩
  have fin : ∀ (G' : List aa), H.length + 3 ≤ G'.length → (∀ id l c, va = .bf id 0 l c → G'[id]? = G[id]?) → G'.take (H.length + 3) = H ++ [.map [], .map [], jM ps ss (cT ts 0) H.length (H.length + 1)] → kQ (mv H.length) H.length [.t 4, .t 5] [(4, .ptr (H.length + 2) 0), (5, va)] G' (KQ H ps ss ts) := by
   intro G' wM bm ej
   have get3 : ∀ (j : Nat) (o : aa), H.length ≤ j → j < H.length + 3 → G'[j]? = some o → o.a7 (j + 1) = true := by
    intro j o h1 h2 ho
    have h3 : (G'.take (H.length + 3))[j]? = some o := by rw [List.getElem?_take, if_pos h2]; exact ho
    rw [ej, List.getElem?_append_right h1] at h3
    have : j = H.length ∨ j = H.length + 1 ∨ j = H.length + 2 := by omega
    rcases this with rfl | rfl | rfl
    ·simp at h3; subst h3; rfl
    ·simp at h3; subst h3; rfl
    ·simp at h3; subst h3; exact yg ps ss _ _
   have tq : ∀ id, RO zI (H.length + 3) va (ints (aT ts 0)) (vX H.length id G') → (∀ o, G'[id]? = some o → o.a7 (id + 1) = true) → va.a7 G'.length = true → kQ (mv H.length) H.length [.t 4, .t 5] [(4, .ptr (H.length + 2) 0), (5, va)] G' (KQ H ps ss ts) := by
    intro id wu dW hva
    refine Kc (m := G'.length) (by omega) (CR get3 dW) (x := .ptr (H.length + 2) 0) (y := va) rfl (by simp [ax, p3]) (by rw [rE]; exact decide_eq_true (by omega)) hva ⟨va, rfl, by rw [EK, ej], by rw [yA]; exact wM, wu⟩
   rcases hA with ⟨e1, rfl⟩ | ⟨id, cap, hk, rfl, hg, hc, ep⟩
   ·exact tq G'.length (.inl ⟨e1, rfl⟩) (fun o ho => by rw [List.getElem?_eq_none (Nat.le_refl _)] at ho; cases ho) rfl
   ·have Oq := bm _ _ _ rfl
    rw [hg] at Oq
    refine tq id (.inr ⟨id, cap, by have := fun h => hk (.inl h); omega, rfl, by rw [sg, Oq]; simp, hc, ep⟩) (fun o ho => ?_) ?_
    ·rw [Oq] at ho; cases ho; exact bz _ _ _
    ·rw [jH]; exact decide_eq_true (aN Oq)
  rw [Cl]
  unfold yU
  rw [g2]
  rcases hR with ⟨e1, rfl⟩ | ⟨id, cap, bm, rfl, hg, cI, ep⟩
  ·simp +contextual only [List.getElem?_cons_succ, List.getElem?_cons_zero, p3, sZ, Nat.reduceEqDiff, ↓reduceIte, reduceCtorEq]
   refine fin G hl (fun _ _ _ _ => rfl) ?_
   rw [hG, jM, nA, if_pos (Cm e1)]
  ·simp +contextual only [List.getElem?_cons_succ, List.getElem?_cons_zero, p3, sZ, Nat.reduceEqDiff, ↓reduceIte, reduceCtorEq]
   have Ui : H.length + 3 ≤ id := by have := fun h => bm (.inl h); omega
   refine vj (by decide) z3 (jL _) (fun x hx => ?_) hg cI ⟨?_, ?_, ?_⟩
   ·obtain ⟨q, _, rfl⟩ := List.mem_map.1 hx; rfl
   ·rw [List.getElem?_set_ne (by omega)]; exact g2
   ·rw [cZ]; exact vA _ _
   ·refine fin _ (by simp; omega) (fun id' l c e => ?_) ?_
    ·have h1 : id' ≠ id := fun e' => hA.ne e (.inr ⟨_, _, by rw [e']⟩)
     have h2 : id' ≠ H.length + 2 := fun e' => hA.ne e (.inl (by omega))
     rw [List.getElem?_set_ne (Ne.symm h2), List.getElem?_set_ne (Ne.symm h1)]
    ·rw [List.take_set, List.take_set, hG]
     have e1 : ∀ X : List aa, X.length ≤ id → X.set id .dead = X := fun X h => List.set_eq_of_length_le h
     rw [e1 _ (by simp; omega), jM, nA, if_neg (fun e => ep (by rw [e]; rfl))]
     simp
end Go.aK
end
section
set_option maxRecDepth 100000
set_option maxHeartbeats 0
namespace Go.aK
open Go Go.Proofs
noncomputable def PX := aI Tryz.call105 Tryz.func105 Tryz.ntmps105 [(5,6,2)] [(0,[0,1,2]),(1,[0,1,2]),(2,[0,1,2,16]),(3,[6]),(4,[0,1,2,7]),(5,[0,7]),(6,[0]),(7,[6])] [(5,(.take 0 true (.take 1 true (.take 2 true (.take 3 true (.take 4 true (.take 5 true (.br 6 (.take 7 true .done) .nil))))))))]
end Go.aK
end
section
set_option maxRecDepth 100000
namespace Go.aK
open Go Go.Proofs Go.fJ
theorem spI (A B : List Int) (k : Nat) : ag (ints A) k (ints B) = ints (A.take k ++ B ++ A.drop (k + B.length)) := by
 unfold ag
 rw [kX, rS, kY, aw, kY]
 rw [List.append_assoc]
theorem sl3 {id i n cap : Nat} (h : i < n) (hc : n ≤ cap) (φ : AV → Prop) : bA 1 (.bf id 0 n cap) (some (.int .i64 (i : Int))) (some (.int .i64 ((i : Int) + 1))) (some (.int .i64 (n : Int))) φ = φ (.bf id (if n = i then 0 else 0 + i * 1) ((i + 1) - i) (n - i)) := by
 have e1 : ((i : Int) + 1).toNat = i + 1 := by omega
 simp only [bA, nO, dO, Int.toNat_natCast, Option.isSome_some, true_and, e1, eq_iff_iff]
 constructor
 ·rintro ⟨_, _, _, h⟩; exact h.2.2.2
 ·exact fun k => ⟨by omega, by omega, by omega, by omega, by omega, by omega, k⟩
theorem aaD {id i n cap : Nat} (hc : i ≤ cap) (φ : AV → Prop) : bA 1 (.bf id 0 n cap) none (some (.int .i64 (i : Int))) none φ = φ (.bf id 0 i cap) := by
 have e : (if cap = 0 then 0 else 0 + 0 * 1) = 0 := by split <;> simp
 simp only [bA, gr, dO, Int.toNat_natCast, e, Nat.sub_zero, eq_iff_iff]
 constructor
 ·rintro ⟨_, h⟩; exact h.2.2
 ·exact fun k => ⟨by omega, by omega, hc, k⟩
theorem aaE {id i n cap : Nat} (h : i + 1 ≤ n) (hc : n ≤ cap) (φ : AV → Prop) : bA 1 (.bf id 0 n cap) (some (.int .i64 ((i : Int) + 1))) none none φ = φ (.bf id (if cap = i + 1 then 0 else 0 + (i + 1) * 1) (n - (i + 1)) (cap - (i + 1))) := by
 have e1 : ((i : Int) + 1).toNat = i + 1 := by omega
 simp only [bA, gr, dO, e1, eq_iff_iff]
 constructor
 ·rintro ⟨_, h⟩; exact h.2.2
 ·exact fun k => ⟨by omega, h, hc, k⟩
theorem aaF {id l h n cap : Nat} (hl : l < h) (hc : h ≤ cap) (φ : AV → Prop) : bA 1 (.bf id 0 n cap) (some (.int .i64 (l : Int))) (some (.int .i64 (h : Int))) none φ = φ (.bf id l (h - l) (cap - l)) := by
 have e : (if cap = l then 0 else 0 + l * 1) = l := by rw [if_neg (by omega)]; omega
 simp only [bA, gr, dO, Int.toNat_natCast, e, eq_iff_iff]
 constructor
 ·rintro ⟨_, _, h⟩; exact h.2.2
 ·exact fun k => ⟨by omega, by omega, by omega, hc, k⟩
theorem aaG (P S pad : List Int) (a : Int) (hb : (P ++ a :: S).length ≤ 1000000000) (id cap : Nat) (cI : cap = (P ++ a :: S ++ pad).length) {H : List aa} (hg : H[id]? = some (.cells (ints (P ++ a :: S ++ pad)))) :
 aq Tryz.prog 105 [.bf id 0 (P.length + 1 + S.length) cap, .int .i64 P.length, .int .i64 ((P.length : Int) + 1)] H fun r H' => r = .bf id 0 (P.length + S.length) cap ∧ H' = H.set id (.cells (ints (P ++ S ++ 0 :: pad))) := by
 refine PX.2.calls rfl ?_
 simp only [PX, aI]
 have iI : cap = P.length + 1 + S.length + pad.length := by rw [cI]; simp; omega
 rw [cI] at iI
 have ne : ((P.length : Int) = (P.length : Int) + 1) = False := eq_false (by omega)
 have pI := aN hg
 have s1 := fun φ => sl3 (id := id) (i := P.length) (n := P.length + 1 + S.length) (cap := cap) (by omega) (by omega) φ
 have s2 := fun φ => aaD (id := id) (i := P.length) (n := P.length + 1 + S.length) (cap := cap) (by omega) φ
 have s3' := fun φ => aaE (id := id) (i := P.length) (n := P.length + 1 + S.length) (cap := cap) (by omega) (by omega) φ
 have un : ∀ a b c d, (AV.bf a b c d).ab = .bf a b c d := fun _ _ _ _ => rfl
 have ox1 : ∀ (env : Env) (i : IX), gv env (some i) = some (al env i) := fun _ _ => rfl
 have ox2 : ∀ (env : Env), gv env none = none := fun _ => rfl
 have s4 := fun φ => aaF (id := id) (l := P.length + S.length) (h := P.length + 1 + S.length) (n := P.length + S.length) (cap := cap) (by omega) (by omega) φ
 simp +contextual only [Option.map_some, Option.map_none, ox1, s1, s2, s3', ne, decide_false, un, sZ, Nat.reduceEqDiff, Nat.reduceAdd, ↓reduceIte, reduceCtorEq]
 have hnone : ∀ a b c d, dI (AV.bf a b c d) = none := fun _ _ _ _ => rfl
 have e0 : P.length + 1 + S.length - (P.length + 1) = S.length := by omega
 have eA : P ++ a :: S ++ pad = (P ++ [a]) ++ (S ++ pad) := by simp
 unfold cJ
 simp only [hnone, wH, hg, aw, e0]
 have ox : (if cap = P.length + 1 then 0 else 0 + (P.length + 1) * 1) + S.length * 1 ≤ (P ++ a :: S ++ pad).length := by simp only [List.length_append, List.length_cons]; split <;> omega
 have htake : (List.take (S.length * 1) (List.drop (if cap = P.length + 1 then 0 else 0 + (P.length + 1) * 1) (ints (P ++ a :: S ++ pad)))) = ints S := by
  rw [rS, kX, Nat.mul_one]
  congr 1
  by_cases hc : cap = P.length + 1
  ·have : S = [] := List.length_eq_zero_iff.1 (by omega)
   subst this; simp
  ·rw [if_neg hc, eA, List.drop_left' (by simp), List.take_left]
 rw [if_pos ox]
 simp only [hg, htake, tR, kZ, bk]
 refine ⟨?_, trivial, by omega, by rw [aw, ← cI]; omega, trivial, ?_⟩
 ·rw [List.length_drop, aw]; simp only [List.length_append, List.length_cons] at ox ⊢; omega
 obtain ⟨x, X, hxX, hXl⟩ : ∃ x X, (a :: S).drop S.length = x :: X ∧ X.length = 0 := by
  have hl : ((a :: S).drop S.length).length = 1 := by simp
  cases hd : (a :: S).drop S.length with
  | nil => rw [hd] at hl; simp at hl
  | cons x X => rw [hd] at hl; exact ⟨x, X, rfl, by simpa using hl⟩
 have hX0 : X = [] := List.length_eq_zero_iff.1 hXl
 subst hX0
 have e1 : ag (ints (P ++ a :: S ++ pad)) (0 + P.length * 1) (ints S) = ints (P ++ S ++ x :: pad) := by
  rw [spI]
  congr 1
  have h1 : (P ++ a :: S ++ pad).take (0 + P.length * 1) = P := by rw [List.append_assoc, Nat.zero_add, Nat.mul_one, List.take_left]
  have h2 : (P ++ a :: S ++ pad).drop (0 + P.length * 1 + S.length) = x :: pad := by
   rw [List.append_assoc, Nat.zero_add, Nat.mul_one, ← List.drop_drop, List.drop_left, List.drop_append_of_le_length (by simp), hxX]; rfl
  rw [h1, h2]
 rw [e1]
 have gs : ∀ o, (H.set id o)[id]? = some o := fun o => List.getElem?_set_self pI
 have e2 : P.length + 1 + S.length - (P.length + S.length) = 1 := by omega
 have e3 : ((P.length + S.length : Nat) : Int) = ((P.length + S.length : Nat) : Int) := rfl
 simp +contextual only [ox1, ox2, s4, un, e2, Hi, sZ, Nat.reduceEqDiff, ↓reduceIte, reduceCtorEq]
 unfold ig
 have ap1 : dc (.int .i64 0) 1 = ints [0] := rfl
 simp only [gs, ap1, tR, kZ, bk, aw, spI, List.set_set]
 refine ⟨by simp; omega, trivial, trivial, ?_⟩
 have e4 : (P ++ S ++ x :: pad).take (P.length + S.length) ++ [0] ++ (P ++ S ++ x :: pad).drop (P.length + S.length + [(0 : Int)].length) = P ++ S ++ 0 :: pad := by
  have hl : (P ++ S).length = P.length + S.length := by simp
  rw [← hl, List.take_left, ← List.drop_drop, List.drop_left]; simp
 rw [e4]
 simp +contextual only [un, sZ, ↓reduceIte, reduceCtorEq]
 exact Sc (by simp) (by rw [jH]; exact decide_eq_true pI) rfl rfl
end Go.aK
end
section
set_option maxRecDepth 100000
namespace Go.aK
open Go Go.Proofs Go.fJ
theorem PY {S : List aa → Prop} (hS : yj S) {Q : Int → Prop} {a : List Int} {id cap : Nat} (hg : ∀ G, S G → G[id]? = some (bj zI (ints a) cap)) (hc : a.length ≤ cap) (la : a.length ≤ 1000000000) (g : Nat) (pre cB : List AV) (cI : cB.map AV.ab = cB) (ln : pre.map AV.ab = pre)
 (hf : ∀ x ∈ a, ∀ H, S H → aq Tryz.prog g (pre ++ [.int .i64 x] ++ cB) H (SB S (Q x))) {H : List aa} (hH : S H) :
 aq Tryz.prog 100 [.bf id 0 a.length cap, .fn (.func g) pre cB] H (SI S Q a) := by
 refine Bt.2.calls rfl ?_
 simp only [Bt, aI]
 simp +contextual only [sZ, Nat.reduceEqDiff, Nat.reduceAdd, ↓reduceIte, reduceCtorEq]
 have fin : ∀ (n : Int) (G : List aa), S G → ((n = -1 ∧ ∀ x ∈ a, ¬ Q x) ∨ ∃ m : Nat, n = m ∧ m < a.length ∧ Q (a.getD m 0) ∧ ∀ j, j < m → ¬ Q (a.getD j 0)) → bV H.length [.t 4] [(4, .int .i64 n)] G (SI S Q a) := by
  intro n G hG hn
  refine aV H.length (Nat.le_refl _) (by rw [ax, if_pos rfl]; rfl) ?_
  rw [ax, if_pos rfl, List.take_of_length_le (by rw [hS H G hH hG]; exact Nat.le_refl _)]
  refine ⟨hG, ?_⟩
  rcases hn with ⟨rfl, h⟩ | ⟨m, rfl, h⟩
  ·exact .inl ⟨rfl, h⟩
  ·exact .inr ⟨m, rfl, h⟩
 refine aM a.length (fun i (G : List aa) => S G ∧ ∀ j, j < i → ¬ Q (a.getD j 0))
  (fun i G => [(0, .bf id 0 a.length cap), (1, .fn (.func g) pre cB), (7, .int .i64 a.length), (8, .int .i64 i)]) (fun i G => G) H ⟨⟨hH, fun j hj => by omega⟩, aA _ _ _⟩ fun i G hi hI => ?_
 obtain ⟨hG, hq⟩ := hI
 by_cases aW : i < a.length
 ·have mF : ((i : Int) < a.length) = True := eq_true (by omega)
  simp +contextual only [mF, decide_true, kC, hg G hG, FK aW, cI, ln, sZ, Nat.reduceEqDiff, Nat.reduceAdd, ↓reduceIte, reduceCtorEq]
  refine ⟨by omega, af (hf _ (aO (by omega)) G hG) ?_⟩
  rintro r G' ⟨x, rfl, hx, ej⟩
  cases x with
  | false =>
    simp +contextual only [sZ, Nat.reduceEqDiff, ↓reduceIte, reduceCtorEq]
    refine ⟨i + 1, G', ⟨by omega, ej, fun j hj => ?_⟩, by omega, aF (by rw [au i (by omega)]) rfl⟩
    by_cases h : j = i
    ·subst h; exact fun h => absurd (hx.2 h) (by simp)
    ·exact hq j (by omega)
  | true =>
    simp +contextual only [sZ, Nat.reduceEqDiff, ↓reduceIte, reduceCtorEq]
    exact fin _ _ ej (.inr ⟨i, rfl, by omega, hx.1 rfl, hq⟩)
 ·have mF : ((i : Int) < a.length) = False := eq_false (by omega)
  simp +contextual only [mF, decide_false, sZ, Nat.reduceEqDiff, ↓reduceIte, reduceCtorEq]
  refine fin _ _ hG (.inl ⟨rfl, fun x hx => ?_⟩)
  obtain ⟨j, hj, rfl⟩ := List.getElem_of_mem hx
  have := hq j (by omega)
  simpa [hj] using this
theorem Xh {S : List aa → Prop} (hS : yj S) {Q : Int → Prop} {a : List Int} {id cap : Nat} (hg : ∀ G, S G → G[id]? = some (bj zI (ints a) cap)) (hc : a.length ≤ cap) (la : a.length ≤ 1000000000) (g : Nat) (pre cB : List AV) (cI : cB.map AV.ab = cB) (ln : pre.map AV.ab = pre)
 (hf : ∀ x ∈ a, ∀ H, S H → aq Tryz.prog g (pre ++ [.int .i64 x] ++ cB) H (SB S (Q x))) {H : List aa} (hH : S H) :
 aq Tryz.prog 102 [.bf id 0 a.length cap, .fn (.func g) pre cB] H (SB S (∃ x ∈ a, Q x)) := by
 refine Bu.2.calls rfl ?_
 simp only [Bu, aI]
 simp +contextual only [sZ, Nat.reduceEqDiff, Nat.reduceAdd, ↓reduceIte, reduceCtorEq]
 refine af (PY hS hg hc la g pre cB cI ln hf hH) ?_
 rintro r G ⟨hG, ⟨rfl, h⟩ | ⟨n, rfl, h1, h2, _⟩⟩
 ·simp +contextual only [sZ, ↓reduceIte, reduceCtorEq]
  exact z6 hS (b := false) (by simp) ⟨fun h => by simp at h, fun ⟨x, hx, h'⟩ => absurd h' (h x hx)⟩ hH hG
 ·simp +contextual only [sZ, ↓reduceIte, reduceCtorEq]
  exact z6 hS (b := true) (by simp) ⟨fun _ => ⟨_, aO h1, h2⟩, fun _ => rfl⟩ hH hG
def SG (c : Cx) (G H : List aa) : Prop := Du c H ∧ Up c G H
theorem SG.len (c : Cx) (G : List aa) : yj (SG c G) := fun H H' h h' => h'.2.len.trans h.2.len.symm
theorem aaH {c : Cx} (hc : c.Ok) {i x : Int} (hi : c.dJ i) (hx : c.dJ x) {t9 : Nat} {G : List aa} (h9 : G[t9]? = some (.cells [.ptr c.d 0])) (n1 : t9 ≠ c.e) (n2 : t9 ≠ c.g) (H : List aa) (hH : SG c G H) :
 aq Tryz.prog 103 ([] ++ [.int .i64 x] ++ [.ptr t9 0, .ai (.int .i64 i)]) H (SB (SG c G) (R c.O (c.tm i) (c.tm x))) := by
 refine Us.2.calls rfl ?_
 simp only [Us, aI, List.nil_append, List.cons_append]
 have h9' : H[t9]? = some (.cells [.ptr c.d 0]) := by rw [hH.2.get t9 n1 n2, h9]
 simp +contextual only [h9', sZ, Nat.reduceEqDiff, Nat.reduceAdd, Nat.reduceLT, ↓reduceIte, reduceCtorEq]
 refine af (jO hc hi hx H hH.1) ?_
 rintro r G' ⟨b, rfl, hb, hU, hD⟩
 simp +contextual only [sZ, ↓reduceIte, reduceCtorEq]
 exact z6 (SG.len c G) rfl hb hH ⟨hD, hH.2.trans hU⟩
theorem aaI {c : Cx} (hc : c.Ok) {i : Int} (hi : c.dJ i) {t9 t10 id cap : Nat} {l : List Int} {G : List aa} (hl : ∀ x ∈ l, c.dJ x) (yK : l.length ≤ cap) (Ln : l.length ≤ 1000000000)
 (h9 : G[t9]? = some (.cells [.ptr c.d 0])) (n1 : t9 ≠ c.e) (n2 : t9 ≠ c.g)
 (YD : G[t10]? = some (.cells [.bf id 0 l.length cap])) (m1 : t10 ≠ c.e) (m2 : t10 ≠ c.g)
 (hg : G[id]? = some (bj zI (ints l) cap)) (k1 : id ≠ c.e) (k2 : id ≠ c.g) (H : List aa) (hH : SG c G H) :
 aq Tryz.prog 101 ([] ++ [.int .i64 i] ++ [.ptr t10 0, .ptr t9 0]) H (SB (SG c G) (¬ ∃ x ∈ l, R c.O (c.tm i) (c.tm x))) := by
 refine Ur.2.calls rfl ?_
 simp only [Ur, aI, List.nil_append, List.cons_append]
 have aaJ : H[t10]? = some (.cells [.bf id 0 l.length cap]) := by rw [hH.2.get t10 m1 m2, YD]
 simp +contextual only [aaJ, sZ, Nat.reduceEqDiff, Nat.reduceAdd, Nat.reduceLT, ↓reduceIte, reduceCtorEq]
 refine af (Xh (SG.len c G) (fun G' ej => by rw [ej.2.get id k1 k2, hg]) yK Ln 103 [] [.ptr t9 0, .ai (.int .i64 i)] rfl rfl (fun x hx H' hH' => aaH hc hi (hl x hx) h9 n1 n2 H' hH') hH) ?_
 rintro r G' ⟨b, rfl, hb, hG⟩
 simp +contextual only [sZ, ↓reduceIte, reduceCtorEq]
 refine z6 (SG.len c G) (b := !b) (by simp) ?_ hH hG
 rw [← hb]; cases b <;> simp
end Go.aK
end
section
set_option maxRecDepth 100000
set_option maxHeartbeats 0
namespace Go.aK
open Go Go.Proofs
noncomputable def Xi := aI Tryz.call37 Tryz.func37 Tryz.ntmps37 [(0,0,1),(0,1,1),(9,2,2000),(10,0,1),(10,12,2000),(10,15,1),(11,4,2000)] [(0,[2,3,4]),(1,[2,4,8]),(2,[2,4,8,18]),(3,[6,7]),(4,[2,4,22]),(5,[6,7]),(6,[9,10]),(7,[9,10,11]),(8,[9,10,11,31]),(9,[9,10,11,12]),(10,[9,10,11,12]),(11,[9,10,11]),(12,[6,7])] [(10,(.take 1 true (.take 2 true (.take 3 true (.take 4 true (.take 5 true (.take 6 true (.take 7 true (.take 8 true (.take 9 true (.take 10 true (.take 11 true (.br 0 (.br 12 (.take 13 true (.br 14 (.br 15 .done .nil) .nil)) .nil) (.br 12 (.take 13 true (.br 0 (.br 14 (.br 15 .done .nil) .nil) .nil)) .nil))))))))))))))]
noncomputable def PZ := aI Tryz.call104 Tryz.func104 Tryz.ntmps104 [(1,4,2),(5,4,2000),(7,0,3003)] [(0,[1,2]),(1,[1,2]),(2,[1,2,10,11,12]),(3,[1,2,10,11,12,13]),(4,[1,2,3,4,10,11,12]),(5,[1,2,10,11,12]),(6,[1,2,10,11,12]),(7,[2])] [(5,(.take 3 true (.take 0 false (.take 2 false (.br 1 (.br 4 (.take 5 true (.br 6 .done .nil)) .nil) (.br 4 (.take 1 true (.take 5 true (.br 6 .done .nil))) .nil))))))]
end Go.aK
end
section
set_option maxRecDepth 100000
namespace Go.aK
open Go Go.Proofs Go.fJ
def zT : AV := .agg [.int .i64 0, .int .i64 0, .ah]
theorem KR : iW 3 (bO zT) := ⟨rfl, rfl, rfl, rfl⟩
theorem sT (t : T) : t.av = .agg [.int .i64 t.k, .int .i64 t.n, .ap 0 (cG t.l)] := by cases t; rfl
theorem vY (t : T) : iW 3 t.av := by
 rw [sT]
 exact ⟨rfl, rfl, by simp [AV.cells, eh, bM, c8, iU, cZ], rfl⟩
theorem FY {l : List T} {x : AV} (h : x ∈ cG l) : ∃ t ∈ l, x = t.av := by
 induction l with
 | nil => cases h
 | cons y r ih =>
   rcases List.mem_cons.1 h with rfl | h
   ·exact ⟨y, List.mem_cons_self, rfl⟩
   ·obtain ⟨t, ht, e⟩ := ih h; exact ⟨t, List.mem_cons_of_mem _ ht, e⟩
theorem ot (l : List T) : ∀ x ∈ cG l, iW 3 x := by
 intro x hx; obtain ⟨t, _, rfl⟩ := FY hx; exact vY t
theorem FZ {l : List T} {i : Nat} (h : i < l.length) : (cG l).getD i .any = (l.getD i default).av := by
 induction l generalizing i with
 | nil => simp at h
 | cons x r ih =>
   cases i with
   | zero => rfl
   | succ i => simpa [cG] using ih (i := i) (by simpa using h)
theorem iG (l : List T) : (cG l).length = l.length := by induction l with | nil => rfl | cons x r ih => simp [cG, ih]
def CT (base : Nat) (v : AV) (l : List T) (G : List aa) : Prop :=
 (l = [] ∧ v = .ah) ∨ ∃ id cap, base ≤ id ∧ v = .bf id 0 l.length cap ∧ G[id]? = some (bj zT (cG l) cap) ∧ l.length ≤ cap
theorem CT.one {base : Nat} {v : AV} {l : List T} {G : List aa} (h : CT base v l G) : v.one = true ∧ v.val = true ∧ v.ab = v ∧ v.cells = [v] := by
 rcases h with ⟨_, rfl⟩ | ⟨id, cap, _, rfl, _⟩ <;> exact ⟨rfl, rfl, rfl, rfl⟩
theorem CT.a7 {base : Nat} {v : AV} {l : List T} {G : List aa} (h : CT base v l G) {n : Nat} (hn : G.length ≤ n) : v.a7 n = true := by
 rcases h with ⟨_, rfl⟩ | ⟨id, cap, _, rfl, c, _⟩
 ·rfl
 ·have := (List.getElem?_eq_some_iff.1 c).1
  rw [jH]; simp; omega
theorem CT.len {base : Nat} {v : AV} {l : List T} {G : List aa} (h : CT base v l G) {H : List aa} (φ : AV → Prop) : eY v H φ = φ (.int .i64 l.length) := by
 rcases h with ⟨rfl, rfl⟩ | ⟨id, cap, _, rfl, _⟩ <;> rfl
theorem CT.aL {base : Nat} {v : AV} {l : List T} {G : List aa} (h : CT base v l G) : aL 1 v = True := by
 rcases h with ⟨rfl, rfl⟩ | ⟨id, cap, _, rfl, _⟩ <;> rfl
theorem KS (o : Nat) (φ : AV → Prop) : de 0 false (.ap o []) φ = (φ (.bool true) ∧ φ (.bool false)) := by simp [de, isNil]
theorem KT (o : Nat) (x : AV) (r : List AV) (φ : AV → Prop) : de 0 false (.ap o (x :: r)) φ = φ (.bool false) := by simp [de, isNil]
theorem KU {esz bytes : Nat} {z : AV} {id o : Nat} {G : List aa} (bm : G[id]? = some (.cells [])) {K : AV → List aa → Prop} (hK : K (.bf id 0 0 0) G) : cJ esz bytes z (.bf id 0 0 0) (.ap o []) G K := by
 unfold cJ
 simp only [dI, bm]
 refine ⟨fun y h => by simp at h, by simp, Nat.le_refl _, by simp, fun _ => ⟨by simp [flat, aj], ?_⟩, fun h => absurd h (by simp)⟩
 have e : ag ([] : List AV) ((0 + 0) * esz) (List.map AV.ab (flat [])) = [] := by simp [ag, flat]
 simp only [flat, ag, List.flatMap_nil, List.map_nil, List.length_nil, List.append_nil, List.take_nil, List.drop_nil]
 rw [Eu bm]
 exact hK
theorem aaL (l : List T) (H : List aa) (hb : l.length * 40 ≤ 140737488355328) : aq Tryz.prog 58 [.ap 0 (cG l)] H fun r H' => CT H.length r l H' ∧ H'.take H.length = H ∧ H.length ≤ H'.length := by
 refine V0.2.calls rfl ?_
 simp only [V0, aI]
 cases l with
 | nil =>
   simp +contextual only [cG, KS, tP, sx, sZ, Nat.reduceEqDiff, Nat.reduceAdd, ↓reduceIte, reduceCtorEq]
   refine ⟨aV H.length (Nat.le_refl _) (by rw [ax, if_pos rfl]; rfl) ⟨.inl ⟨rfl, by rw [ax, if_pos rfl]⟩, by simp, by simp⟩, ?_⟩
   refine ⟨rfl, KU (by simp [flat]) ?_⟩
   simp +contextual only [sZ, ↓reduceIte, reduceCtorEq]
   refine aV (H.length + 1) (by omega) (by rw [ax, if_pos rfl, jH]; exact decide_eq_true (by omega)) ?_
   rw [ax, if_pos rfl, List.take_of_length_le (by simp)]
   exact ⟨.inr ⟨H.length, 0, Nat.le_refl _, rfl, by simp [bj, cG, flat, dc], Nat.le_refl _⟩, by simp, by simp⟩
 | cons v r =>
   simp +contextual only [cG, KT, tP, sx, sZ, Nat.reduceEqDiff, Nat.reduceAdd, ↓reduceIte, reduceCtorEq]
   refine ⟨rfl, FJ KR (by simp [flat]) (cG (v :: r)) (by simp [cG]) (ot _) (by rw [iG]; exact hb) (base := H.length) (by simp) fun v' G' hR hG hl => ?_⟩
   obtain ⟨o1, o2, o3, o4⟩ := hR.one
   simp +contextual only [o3, sZ, ↓reduceIte, reduceCtorEq]
   have wM : H.length ≤ G'.length := by simp at hl; omega
   refine aV G'.length wM (by rw [ax, if_pos rfl]; exact hR.a7 (Nat.le_refl _)) ?_
   rw [ax, if_pos rfl, List.take_length]
   refine ⟨?_, by rw [hG]; simp, wM⟩
   rcases hR with ⟨h, _⟩ | ⟨id, cap, a, b, c, d, _⟩
   ·cases h
   ·rw [iG] at b d; exact .inr ⟨id, cap, a, b, c, d⟩
theorem loadT {l : List T} {cap i : Nat} (h : i < l.length) (φ : AV → Prop) : dd (some (bj zT (cG l) cap)) (some 3) (i * 3) φ = φ (l.getD i default).av := by
 obtain ⟨g1, _⟩ := iW.flat (ot l)
 rw [iG] at g1
 have h1 := ph (ot l) i (by rw [iG]; exact h)
 rw [FZ h] at h1
 have xa : (l.getD i default).av.cells.length = 3 := (vY _).len
 have e : ((flat (cG l) ++ dc zT (cap - (cG l).length)).drop (i * 3)).take 3 = (l.getD i default).av.cells := by
  rw [List.drop_append_of_le_length (by omega), h1, List.append_assoc, List.take_append_of_le_length (by omega), List.take_of_length_le (by omega)]
 simp only [bj, dd, e, eq_iff_iff, List.length_append]
 have e2 : AV.agg ((l.getD i default).av.cells.map AV.drop) = (l.getD i default).av := by rw [sT]; rfl
 rw [e2]
 constructor
 ·exact fun h => h.2
 ·exact fun h2 => ⟨by omega, h2⟩
theorem storeT {l : List T} {cap i id : Nat} (h : i < l.length) {H : List aa} (hg : H[id]? = some (bj zT (cG l) cap)) {K : List aa → Prop} (hK : K H) : g9 (some (bj zT (cG l) cap)) 3 id (i * 3) (l.getD i default).av H K := by
 obtain ⟨g1, _⟩ := iW.flat (ot l)
 rw [iG] at g1
 have h1 := ph (ot l) i (by rw [iG]; exact h)
 rw [FZ h] at h1
 have ho := vY (l.getD i default)
 have xa := ho.len
 have hs : ag (flat (cG l) ++ dc zT (cap - (cG l).length)) (i * 3) ((l.getD i default).av.cells.map AV.ab) = flat (cG l) ++ dc zT (cap - (cG l).length) := by
  rw [ho.un]
  unfold ag
  have e1 : (flat (cG l) ++ dc zT (cap - (cG l).length)).drop (i * 3) = (l.getD i default).av.cells ++ (flat ((cG l).drop (i + 1)) ++ dc zT (cap - (cG l).length)) := by
   rw [List.drop_append_of_le_length (by omega), h1, List.append_assoc]
  have e2 : (flat (cG l) ++ dc zT (cap - (cG l).length)).drop (i * 3 + (l.getD i default).av.cells.length) = flat ((cG l).drop (i + 1)) ++ dc zT (cap - (cG l).length) := by
   rw [← List.drop_drop, e1, List.drop_left]
  rw [e2, ← e1, List.take_append_drop]
 have hv : (l.getD i default).av.val = true := by rw [sT]; rfl
 simp only [bj, g9]
 refine ⟨hv, xa, by rw [List.length_append]; omega, ho.one, by rw [ho.un]; exact bF (Nat.zero_le _) _ ho.bl, ?_⟩
 rw [hs, show (aa.cells (flat (cG l) ++ dc zT (cap - (cG l).length))) = bj zT (cG l) cap from rfl, Eu hg]
 exact hK
theorem CT.set {base : Nat} {v : AV} {l : List T} {G : List aa} (h : CT base v l G) {j : Nat} (hj : j < base) (o : aa) : CT base v l (G.set j o) := by
 rcases h with h | ⟨id, cap, a, b, c, d⟩
 ·exact .inl h
 ·exact .inr ⟨id, cap, a, b, by rw [List.getElem?_set_ne (by omega)]; exact c, d⟩
theorem CT.rQ {base : Nat} {v : AV} {l : List T} {G : List aa} (h : CT base v l G) (X : List aa) : CT base v l (G ++ X) := by
 rcases h with h | ⟨id, cap, a, b, c, d⟩
 ·exact .inl h
 ·exact .inr ⟨id, cap, a, b, by rw [List.getElem?_append_left (aN c)]; exact c, d⟩
theorem CT.get {base : Nat} {v : AV} {l : List T} {G : List aa} (h : CT base v l G) {i : Nat} (hi : i < l.length) : ∃ id cap, base ≤ id ∧ v = .bf id 0 l.length cap ∧ G[id]? = some (bj zT (cG l) cap) ∧ l.length ≤ cap := by
 rcases h with ⟨rfl, _⟩ | h
 ·simp at hi
 ·exact h
theorem aaM : ∀ (n : Nat) (t : T), wt t ≤ n → wt t ≤ 1000000000 → Pure Tryz.prog 104 [t.av] t.av := by
 intro n
 induction n with
 | zero => intro t h; have := fw t; omega
 | succ n ih =>
   intro t hn hb H
   refine PZ.2.DR rfl ?_
   simp only [PZ, aI]
   have hw := Ck t
   have X3 := iu t.l
   rw [sT]
   simp +contextual only [sZ, Nat.reduceEqDiff, Nat.reduceAdd, Nat.reduceLT, ↓reduceIte]
   have xx : (H ++ [aa.cells [.int .i64 t.k, .int .i64 t.n, .ap 0 (cG t.l)], .cells [.int .i64 0, .int .i64 0, .ah]]).length = H.length + 2 := by simp
   refine af (aaL t.l _ (by omega)) ?_
   rintro v G ⟨hC, hG, hl⟩
   rw [xx] at hC hG hl
   obtain ⟨o1, o2, o3, o4⟩ := hC.one
   have g0 : G[H.length]? = some (.cells [.int .i64 t.k, .int .i64 t.n, .ap 0 (cG t.l)]) := by
    have : (G.take (H.length + 2))[H.length]? = G[H.length]? := by rw [List.getElem?_take, if_pos (by omega)]
    rw [← this, hG]; simp
   have g1 : G[H.length + 1]? = some (.cells [.int .i64 0, .int .i64 0, .ah]) := by
    have : (G.take (H.length + 2))[H.length + 1]? = G[H.length + 1]? := by rw [List.getElem?_take, if_pos (by omega)]
    rw [← this, hG]; simp
   have ej : G.take H.length = H := by
    have : G.take H.length = (G.take (H.length + 2)).take H.length := by rw [List.take_take]; congr 1; omega
    rw [this, hG]; simp
   have Xj := hC.a7 (Nat.le_refl _)
   have EW : H.length < G.length := by omega
   have fY : ∀ o, (G.set H.length o)[H.length]? = some o := fun o => List.getElem?_set_self EW
   simp +contextual only [rH, o1, o2, o3, o4, g0, Xj, fY, hC.aL, hC.len, sZ, Nat.reduceEqDiff, Nat.reduceAdd, Nat.reduceLT, ↓reduceIte]
   refine lS t.l.length (fun i (G : List aa) => CT (H.length + 2) v t.l G ∧ G[H.length]? = some (.cells [.int .i64 t.k, .int .i64 t.n, v]) ∧ G[H.length + 1]? = some (.cells [.int .i64 0, .int .i64 0, .ah]) ∧ G.take H.length = H)
    (fun i G => [(1, .ptr H.length 0), (2, .ptr (H.length + 1) 0), (10, v), (11, .int .i64 t.l.length), (12, .int .i64 i)]) (fun i G => G) (G.set H.length (.cells [.int .i64 t.k, .int .i64 t.n, v]))
    ⟨⟨hC.set (by omega) _, fY _, by rw [List.getElem?_set_ne (by omega)]; exact g1, by rw [List.take_set_of_le (by omega)]; exact ej⟩, oc _ _ _⟩ fun i G hi hI => ?_
   clear hG g0 g1 ej Xj EW fY hl hC
   obtain ⟨hC, g0, g1, hG⟩ := hI
   by_cases aW : i < t.l.length
   ·have mF : ((i : Int) < t.l.length) = True := eq_true (by omega)
    obtain ⟨id, cap, bm, rfl, hg, cI⟩ := hC.get aW
    have xx := aN hg
    have Oq : ∀ X, (G ++ X)[id]? = some (bj zT (cG t.l) cap) := fun X => by rw [List.getElem?_append_left xx]; exact hg
    have g0' : ∀ X, (G ++ X)[H.length]? = some (.cells [.int .i64 t.k, .int .i64 t.n, .bf id 0 t.l.length cap]) := fun X => by rw [List.getElem?_append_left (aN g0)]; exact g0
    have hx := sT (t.l.getD i default)
    have hL : ∀ φ, dd (some (bj zT (cG t.l) cap)) (some 3) (i * 3) φ = φ (.agg [.int .i64 (t.l.getD i default).k, .int .i64 (t.l.getD i default).n, .ap 0 (cG (t.l.getD i default).l)]) := fun φ => by rw [← hx]; exact loadT aW φ
    have hwx : wt (t.l.getD i default) ≤ gM t.l := by
     have := nz aW; have := dh t.l (i + 1); omega
    have hcall := ih (t.l.getD i default) (by omega) (by omega)
    rw [hx] at hcall
    have hS := fun {H' : List aa} (hg : H'[id]? = some (bj zT (cG t.l) cap)) {K : List aa → Prop} (hK : K H') => storeT (id := id) aW hg hK
    rw [hx] at hS
    simp +contextual only [mF, decide_true, kC, hg, hL, g0', sZ, Nat.reduceEqDiff, Nat.reduceAdd, Nat.reduceLT, ↓reduceIte, reduceCtorEq]
    refine ⟨aW, ae hcall ?_, ae hcall ?_⟩
    all_goals
     simp +contextual only [kC, g0', Oq, sZ, Nat.reduceEqDiff, Nat.reduceAdd, Nat.reduceLT, ↓reduceIte, reduceCtorEq]
     refine ⟨aW, hS (Oq _) ?_⟩
     simp +contextual only [sZ, Nat.reduceEqDiff, ↓reduceIte]
     refine ⟨i + 1, _, ⟨aW, hC.rQ _, g0' _, by rw [List.getElem?_append_left (aN g1)]; exact g1, by rw [List.take_append_of_le_length (by have := aN g1; omega)]; exact hG⟩, by omega, zR (by rw [au i (by omega)]) rfl⟩
   ·have mD : i = t.l.length := by omega
    have mF : ((i : Int) < t.l.length) = False := eq_false (by omega)
    simp +contextual only [rH, mF, decide_false, g0, sZ, Nat.reduceEqDiff, ↓reduceIte]
    have fin : ∀ (G' : List aa), G'[H.length + 1]? = some (.cells [.int .i64 t.k, .int .i64 t.n, .ap 0 (cG t.l)]) → G'.take H.length = H → dd G'[H.length + 1]? (some 3) 0 fun v => vi (mv H.length) H.length v G' fun r H' => r = AV.agg [AV.int IntKind.i64 t.k, AV.int IntKind.i64 t.n, AV.ap 0 (cG t.l)] ∧ H' = H := by
     intro G' h1 h2
     rw [h1, Fy]
     exact ⟨H.length, H, Nat.le_refl _, Hv h2 rfl, _, le_refl _, by simp [AV.drop, uZ, bM, c8, iU, cZ, eh], rfl, rfl⟩
    have ls : ∀ (l : List AV) (G' : List aa), (∀ o, (G'.set (H.length + 1) o).take H.length = G'.take H.length) := fun l G' o => List.take_set_of_le (by omega)
    have th := aN g1
    rcases hC with ⟨e, rfl⟩ | ⟨id, cap, bm, rfl, hg, cI⟩
    ·rw [e] at fin ⊢
     have e1 : ∀ (K : AV → List aa → Prop), dF 3 AV.ah.drop G K = K (.ap 0 []) G := fun K => rfl
     rw [e1]
     simp +contextual only [rH, g1, sZ, Nat.reduceEqDiff, Nat.reduceAdd, ↓reduceIte, reduceCtorEq]
     exact fin _ (List.getElem?_set_self th) (by rw [List.take_set_of_le (by omega)]; exact hG)
    ·have e1 : ∀ l c, (AV.bf id 0 l c).drop = .bf id 0 l c := fun _ _ => rfl
     rw [e1]
     have ef := fun K hK => vj (esz := 3) (by decide) KR (ot t.l) (fun x hx => by obtain ⟨y, _, rfl⟩ := FY hx; rw [sT]; rfl) hg (by rw [iG]; exact cI) (K := K) hK
     rw [iG] at ef
     refine ef _ ?_
     have g1' : (G.set id .dead)[H.length + 1]? = some (.cells [.int .i64 0, .int .i64 0, .ah]) := by rw [List.getElem?_set_ne (by omega)]; exact g1
     simp +contextual only [rH, g1', sZ, Nat.reduceEqDiff, Nat.reduceAdd, ↓reduceIte, reduceCtorEq]
     exact fin _ (List.getElem?_set_self (by simpa using th)) (by rw [List.take_set_of_le (by omega), List.take_set_of_le (by omega)]; exact hG)
end Go.aK
end
section
set_option maxRecDepth 100000
namespace Go.aK
open Go Go.Proofs Go.fJ
def KV (r : T → T → Bool) (l : List T) : Nat := l.findIdx fun a => l.all fun x => !r a x
def rN (r : T → T → Bool) : Nat → List T → List T
 | 0, _ => []
 | n + 1, l => l.getD (KV r l) default :: rN r n (l.eraseIdx (KV r l))
theorem P1 {r : T → T → Prop} (hi : ∀ a, ¬ r a a) (ht : ∀ a b c, r a b → r b c → r a c) : ∀ l : List T, l ≠ [] → ∃ a ∈ l, ∀ x ∈ l, ¬ r a x
 | [], h => absurd rfl h
 | [a], _ => ⟨a, List.mem_cons_self, fun x hx => by rcases List.mem_cons.1 hx with rfl | hx; exact hi _; cases hx⟩
 | a :: b :: l, _ => by
   obtain ⟨m, hm, hl⟩ := P1 hi ht (b :: l) (by simp)
   by_cases h : r m a
   ·refine ⟨a, List.mem_cons_self, fun x hx => ?_⟩
    rcases List.mem_cons.1 hx with rfl | hx
    ·exact hi _
    ·exact fun h' => hl x hx (ht _ _ _ h h')
   ·refine ⟨m, List.mem_cons_of_mem _ hm, fun x hx => ?_⟩
    rcases List.mem_cons.1 hx with rfl | hx
    ·exact h
    ·exact hl x hx
noncomputable def xe (s : Sg) (ps ss : List Int) (ts : List T) : List T × Int :=
 if fU s ps ss ts = 0 then if 1000 < ts.length then ([], 2) else (rN (wv ps ss) ts.length ts, 0) else ([], fU s ps ss ts)
theorem Ot (n : Nat) : dc zI n = ints (List.replicate n 0) := by
 induction n with
 | zero => rfl
 | succ n ih =>
   have e : dc zI (n + 1) = .int .i64 0 :: dc zI n := rfl
   rw [e, ih]; rfl
theorem CU (l : List Int) (cap : Nat) : bj zI (ints l) cap = .cells (ints (l ++ List.replicate (cap - l.length) 0)) := by
 rw [z5, Ot, kY]
theorem Xk {L : List Int} {n id cap : Nat} (hn : n < L.length) (hc : L.length ≤ cap) (hb : L.length ≤ 1000000000) {H : List aa} (hg : H[id]? = some (bj zI (ints L) cap)) :
 aq Tryz.prog 105 [.bf id 0 L.length cap, .int .i64 (n : Int), .int .i64 ((n : Int) + 1)] H fun r H' => r = .bf id 0 (L.eraseIdx n).length cap ∧ H' = H.set id (bj zI (ints (L.eraseIdx n)) cap) := by
 have e1 : L = L.take n ++ L.getD n 0 :: L.drop (n + 1) := by
  have : L.getD n 0 = L[n] := by simp [hn]
  rw [this, ← List.drop_eq_getElem_cons hn, List.take_append_drop]
 have e2 : L.eraseIdx n = L.take n ++ L.drop (n + 1) := List.eraseIdx_eq_take_drop_succ ..
 have l1 : (L.take n).length = n := by simp; omega
 have l2 : (L.drop (n + 1)).length = L.length - (n + 1) := by simp
 have hp : (L.take n ++ L.getD n 0 :: L.drop (n + 1) ++ List.replicate (cap - L.length) 0).length = cap := by rw [← e1]; simp; omega
 have Oq : H[id]? = some (.cells (ints (L.take n ++ L.getD n 0 :: L.drop (n + 1) ++ List.replicate (cap - L.length) 0))) := by rw [← e1, ← CU]; exact hg
 have h := aaG (L.take n) (L.drop (n + 1)) (List.replicate (cap - L.length) 0) (L.getD n 0) (by rw [← e1]; exact hb) id cap hp.symm Oq
 have el : L.take n ++ L.drop (n + 1) ++ 0 :: List.replicate (cap - L.length) 0 = L.eraseIdx n ++ List.replicate (cap - (L.eraseIdx n).length) 0 := by
  rw [e2]
  congr 1
  rw [List.length_append, l1, l2, show cap - (n + (L.length - (n + 1))) = (cap - L.length) + 1 by omega]
  rfl
 have ll : (L.eraseIdx n).length = (L.take n).length + (L.drop (n + 1)).length := by rw [e2, List.length_append]
 rw [el, l1, l2, show n + 1 + (L.length - (n + 1)) = L.length by omega] at h
 rw [CU, ll, l1, l2]
 rw [ll, l1, l2] at h
 exact h
theorem KW {r : T → T → Bool} {l : List T} {n : Nat} (hn : n < l.length) (h1 : ∀ x ∈ l, r (l.getD n default) x = false) (h2 : ∀ j, j < n → ∃ x ∈ l, r (l.getD j default) x = true) : KV r l = n := by
 unfold KV
 rw [List.findIdx_eq hn]
 refine ⟨?_, fun j hj => ?_⟩
 ·have e : l[n] = l.getD n default := by simp [hn]
  rw [e, List.all_eq_true]
  intro x hx; rw [h1 x hx]; rfl
 ·obtain ⟨x, hx, h⟩ := h2 j hj
  have pD : j < l.length := by omega
  have e : l[j] = l.getD j default := by simp [pD]
  rw [e, List.all_eq_false]
  exact ⟨x, hx, by rw [h]; simp⟩
theorem vZ {c : Cx} {L : List Int} {n : Nat} (h : n < L.length) : (L.map c.tm).getD n default = c.tm (L.getD n 0) := by simp [h]
theorem F0 {Hs G : List aa} {n0 : Nat} {l : List T} {e : Int} {u : AV} (hu : u.ab.le (.ap 0 (cG l))) (hH : Hs.take n0 = G) : bV n0 [.t 6, .t 7] [(6, u), (7, .int .i64 e)] Hs (fun r H' => r = .tuple [.ap 0 (cG l), .int .i64 e] ∧ H' = G) := by
 subst hH
 refine ⟨n0, Nat.le_refl _, [.ap 0 (cG l), .int .i64 e], ?_, by simp [aj, cZ, eh, iU], rfl, rfl⟩
 exact ⟨hu, le_refl _, trivial⟩
theorem mi (vs : List T) : (Eh vs).ab.le (.ap 0 (cG vs)) := by
 cases vs with
 | nil => exact .inr (.inr (.inr (.inl ⟨rfl, 0, rfl⟩)))
 | cons v r => exact le_refl _
theorem Du.S9 {c : Cx} {H : List aa} {n : Nat} (h : Du c (H.take n)) (hn : True) : Du c H := by
 have hg : ∀ {j : Nat} {o : aa}, (H.take n)[j]? = some o → H[j]? = some o := by
  intro j o h
  rw [List.getElem?_take] at h
  split at h
  ·exact h
  ·cases h
 exact ⟨hg h.d, by obtain ⟨m, h1, h2⟩ := h.e; exact ⟨m, hg h1, h2⟩, by obtain ⟨m, h1, h2⟩ := h.g; exact ⟨m, hg h1, h2⟩⟩
theorem c37 (s : Sg) (ps ss : List Int) (ts : List T) (hlen : ts.length < 9223372036854775808) : Pure Tryz.prog 37 [s.av, ff ps ss, .ap 0 (cG ts)] (.tuple [.ap 0 (cG (xe s ps ss ts).1), .int .i64 (xe s ps ss ts).2]) := by
 refine fun H => Xi.2.calls rfl ?_
 simp only [Xi, aI]
 obtain ⟨q1, q2, q3, q4, q5, q6⟩ := bi ps ss
 simp +contextual only [aB, q1, q4, cz, sZ, Nat.reduceEqDiff, Nat.reduceAdd, ↓reduceIte, reduceCtorEq]
 refine ae (WG s ps ss ts) ?_
 by_cases h0 : fU s ps ss ts = 0
 ·by_cases LR : 1000 < ts.length
  ·have e : xe s ps ss ts = ([], 2) := by unfold xe; rw [if_pos h0, if_pos LR]
   have dW : ((1000 : Int) < ts.length) = True := eq_true (by omega)
   rw [e]
   simp +contextual only [h0, dW, decide_true, hlen, sZ, Nat.reduceEqDiff, ↓reduceIte, reduceCtorEq]
   exact F0 (mi []) List.take_length
  ·have e : xe s ps ss ts = (rN (wv ps ss) ts.length ts, 0) := by unfold xe; rw [if_pos h0, if_neg LR]
   have dW : ((1000 : Int) < ts.length) = False := eq_false (by omega)
   rw [e]
   have hr := qJ h0
   have hw := mf hr.tree
   simp +contextual only [q4, cz, h0, dW, decide_false, hlen, sZ, Nat.reduceEqDiff, Nat.reduceAdd, ↓reduceIte]
   refine af (aaC ps ss ts H (by omega)) ?_
   rintro r G ⟨va, rfl, hG, hGl, hR⟩
   obtain ⟨o1, o2, o3, o4⟩ := hR.one
   have Xj : ∀ n, G.length ≤ n → va.a7 n = true := fun n hn => hR.a7 hn
   have oV := Xj (G.length + 2) (by omega)
   have pF : ∀ o o', va.a7 (G ++ [o, o'] : List aa).length = true := fun o o' => Xj _ (by simp)
   have hp1 : (AV.ptr (H.length + 2) 0).a7 (G.length + 1) = true := by rw [rE]; exact decide_eq_true (by omega)
   simp +contextual only [o1, o2, o3, o4, oV, hp1, sZ, Nat.reduceEqDiff, Nat.reduceAdd, Nat.reduceLT, ↓reduceIte]
   refine ⟨rfl, by decide, ?_⟩
   have hG0 : G.take H.length = H := by
    have : G.take H.length = (G.take (H.length + 3)).take H.length := by rw [List.take_take]; congr 1; omega
    rw [this, hG]; simp
   rcases hR with ⟨e1, rfl⟩ | ⟨id, cap, bm, rfl, hg, cI, ep⟩
   ·have e2 : ts = [] := by
     have := cv ts 0
     have h3 : aT ts 0 = [] := List.map_eq_nil_iff.1 e1
     rw [h3] at this
     exact List.length_eq_zero_iff.1 this.symm
    subst e2
    refine aM 0 (fun _ _ => True) (fun i (p : Unit) => [(9, .ptr G.length 0), (10, .ptr (G.length + 1) 0), (11, .ah)]) (fun i p => G ++ [.cells [.ptr (H.length + 2) 0], .cells [.ah]]) () ⟨trivial, aF rfl ?_⟩ fun i p hi hI => ?_
    ·rfl
    ·simp +contextual only [sZ, Nat.reduceEqDiff, Nat.reduceAdd, Nat.reduceLT, ↓reduceIte, reduceCtorEq, Int.reduceLT]
     exact F0 (mi []) (by rw [List.take_append_of_le_length (by omega)]; exact hG0)
   ·have Qf : ts ≠ [] := fun e => ep (by rw [e]; rfl)
    have aaN : id < G.length := aN hg
    obtain ⟨c, ec⟩ : ∃ c, c = gg ps ss ts H.length := ⟨_, rfl⟩
    have hc : c.Ok := by rw [ec]; exact hr.cx Qf (by omega) H.length
    have cO : c.O = kE ps ss := by rw [ec]; rfl
    have cd : c.d = H.length + 2 := by rw [ec]; rfl
    have ce : c.e = H.length := by rw [ec]; rfl
    have cg : c.g = H.length + 1 := by rw [ec]; rfl
    have hD0 : Du c (G ++ [.cells [.ptr (H.length + 2) 0], .cells [.bf id 0 (aT ts 0).length cap]]) := by
     have h1 := yk ps ss Qf H
     rw [← ec, ← hG] at h1
     exact Du.rQ (h1.S9 trivial) _
    obtain ⟨k1, k2⟩ := (N5 ts).kids
    have Xl : (aT ts 0).map c.tm = ts := by rw [ec]; exact k1
    have aaO : ∀ x ∈ aT ts 0, c.dJ x := by rw [ec]; exact k2
    rw [aw] at *
    have EZ := cv ts 0
    refine aM ts.length (fun j (p : List Int × List T × List aa) => j + p.1.length = ts.length ∧ (∀ x ∈ p.1, c.dJ x) ∧ rN (wv ps ss) ts.length ts = p.2.1 ++ rN (wv ps ss) p.1.length (p.1.map c.tm) ∧ p.2.1.length = j ∧ Du c p.2.2 ∧
     p.2.2[G.length]? = some (.cells [.ptr c.d 0]) ∧ p.2.2[G.length + 1]? = some (.cells [.bf id 0 p.1.length cap]) ∧ p.2.2[id]? = some (bj zI (ints p.1) cap) ∧ p.2.2.take H.length = H ∧ p.1.length ≤ cap ∧ ∀ x ∈ p.1, c.tm x ∈ ts)
     (fun i p => [(9, .ptr G.length 0), (10, .ptr (G.length + 1) 0), (11, Eh p.2.1)]) (fun i p => p.2.2) (aT ts 0, [], G ++ [.cells [.ptr (H.length + 2) 0], .cells [.bf id 0 (aT ts 0).length cap]])
     ⟨⟨by simp [EZ], aaO, by rw [Xl, EZ]; rfl, rfl, hD0, by rw [cd]; simp, by simp, by rw [List.getElem?_append_left aaN]; exact hg, by rw [List.take_append_of_le_length (by omega)]; exact hG0, cI, fun x hx => by rw [← Xl]; exact List.mem_map_of_mem hx⟩, aF rfl rfl⟩ fun j p hj hI => ?_
    obtain ⟨L, out, F⟩ := p
    obtain ⟨i1, i2, i3, i4, i5, i6, i7, i8, i9, i10, i11⟩ := hI
    simp only at i1 i2 i3 i4 i5 i6 i7 i8 i9 i10 i11
    have Ln : L.length ≤ 1000 := by omega
    by_cases hL : L = []
    ·have hz : ((0 : Int) < (L.length : Int)) = False := eq_false (by rw [hL]; simp)
     have XV : (Eh out).ab.ab = (Eh out).ab := by cases out <;> rfl
     simp +contextual only [i7, hz, decide_false, XV, sZ, Nat.reduceEqDiff, Nat.reduceAdd, Nat.reduceLT, ↓reduceIte, reduceCtorEq]
     have e2 : rN (wv ps ss) ts.length ts = out := by rw [i3, hL]; simp [rN]
     rw [e2]
     exact F0 (by rw [XV]; exact mi out) i9
    ·have mC := List.length_pos_iff.2 hL
     have hz : ((0 : Int) < (L.length : Int)) = True := eq_true (by omega)
     simp +contextual only [i7, hz, decide_true, sZ, Nat.reduceEqDiff, Nat.reduceAdd, Nat.reduceLT, ↓reduceIte, reduceCtorEq]
     refine af (PY (Q := fun i => ¬ ∃ x ∈ L, R c.O (c.tm i) (c.tm x)) (SG.len c F) (fun G' ej => by rw [ej.2.get id (by omega) (by omega), i8]) i10 (by omega) 101 [] [.ptr (G.length + 1) 0, .ptr G.length 0] rfl rfl
      (fun x hx H' hH' => aaI hc (i2 x hx) i2 i10 (by omega) i6 (by omega) (by omega) i7 (by omega) (by omega) i8 (by omega) (by omega) H' hH') ⟨i5, Up.refl c F⟩) ?_
     rintro r F1 ⟨⟨mI, Yg⟩, hq⟩
     have Qe : ∃ n : Nat, r = .int .i64 n ∧ n < L.length ∧ (¬ ∃ x ∈ L, R c.O (c.tm (L.getD n 0)) (c.tm x)) ∧ ∀ j, j < n → ∃ x ∈ L, R c.O (c.tm (L.getD j 0)) (c.tm x) := by
      rcases hq with ⟨_, hq⟩ | ⟨n, h1, h2, h3, h4⟩
      ·exfalso
       obtain ⟨m, hm, h1⟩ := P1 (r := fun a b => R c.O a b) (fun a => Ci rfl) (fun a b d h h' => NX h h') (L.map c.tm) (by simpa using hL)
       obtain ⟨x, hx, rfl⟩ := List.mem_map.1 hm
       refine hq x hx fun ⟨y, hy, h⟩ => h1 _ (List.mem_map_of_mem hy) h
      ·exact ⟨n, h1, h2, h3, fun j hj => Classical.not_not.1 (h4 j hj)⟩
     obtain ⟨n, rfl, hn, h1, h2⟩ := Qe
     have j7 : F1[G.length + 1]? = some (.cells [.bf id 0 L.length cap]) := by rw [Yg.get _ (by omega) (by omega), i7]
     have j6 : F1[G.length]? = some (.cells [.ptr c.d 0]) := by rw [Yg.get _ (by omega) (by omega), i6]
     have j8 : F1[id]? = some (bj zI (ints L) cap) := by rw [Yg.get _ (by omega) (by omega), i8]
     have j9 : F1.take H.length = H := by
      refine Eq.trans ?_ i9
      apply List.ext_getElem?
      intro k
      rw [List.getElem?_take, List.getElem?_take]
      by_cases hk : k < H.length
      ·rw [if_pos hk, if_pos hk]; exact Yg.get _ (by omega) (by omega)
      ·rw [if_neg hk, if_neg hk]
     have H5 : KV (wv ps ss) (L.map c.tm) = n := by
      refine KW (by simpa using hn) (fun x hx => ?_) fun j hj => ?_
      ·obtain ⟨y, hy, rfl⟩ := List.mem_map.1 hx
       rw [vZ hn]
       cases hb : wv ps ss (c.tm (L.getD n 0)) (c.tm y) with
       | false => rfl
       | true => exact absurd ⟨y, hy, by rw [cO]; exact iw.1 hb⟩ h1
      ·obtain ⟨y, hy, h⟩ := h2 j hj
       rw [vZ (by omega)]
       exact ⟨_, List.mem_map_of_mem hy, iw.2 (by rw [← cO]; exact h)⟩
     have hxN := i2 _ (aO hn)
     have iI : c.nd.length ≤ 2000000 := by
      have : c.nd = cT ts 0 := by rw [ec]; rfl
      rw [this, gH]; omega
     simp +contextual only [j7, j6, j8, mI.d, l9, Zq, cw, kC, FK hn, sZ, Nat.reduceEqDiff, Nat.reduceAdd, Nat.reduceLT, ↓reduceIte, reduceCtorEq]
     have htree := hr.tree _ (i11 _ (aO hn))
     have hwx : wt (c.tm (L.getD n 0)) ≤ 2000 := by
      have := ((T.gG _).1 htree).1; have := Ks (c.tm (L.getD n 0)); omega
     have Xm : Pure Tryz.prog 104 [(c.nd.getD (L.getD n 0).toNat default).fst.av] (c.tm (L.getD n 0)).av := aaM _ (c.tm (L.getD n 0)) (Nat.le_refl _) (by omega)
     have Kr := Xk hn i10 (by omega) j8
     have ji : (L.eraseIdx n).length = L.length - 1 := List.length_eraseIdx_of_lt hn
     refine ⟨hn, hxN, ae Xm ?_, ae Xm ?_⟩
     all_goals
      simp +contextual only [NR, HA, j7, sZ, Nat.reduceEqDiff, Nat.reduceAdd, Nat.reduceLT, ↓reduceIte, reduceCtorEq]
      refine ⟨by omega, ?_⟩
      rw [ee _ (by omega)]
      refine af Kr ?_
      rintro r F2 ⟨rfl, rfl⟩
      have m7 : (F1.set id (bj zI (ints (L.eraseIdx n)) cap))[G.length + 1]? = some (.cells [.bf id 0 L.length cap]) := by rw [List.getElem?_set_ne (by omega)]; exact j7
      have nM : (AV.bf id 0 (L.eraseIdx n).length cap).a7 (G.length + 1 + 1) = true := by rw [jH]; exact decide_eq_true (by omega)
      have r1 : ∀ l, (AV.bf id 0 l cap).one = true ∧ (AV.bf id 0 l cap).val = true ∧ (AV.bf id 0 l cap).ab = .bf id 0 l cap ∧ (AV.bf id 0 l cap).cells = [.bf id 0 l cap] := fun _ => ⟨rfl, rfl, rfl, rfl⟩
      obtain ⟨u1, u2, u3, u4⟩ := r1 (L.eraseIdx n).length
      simp +contextual only [m7, nM, u1, u2, u3, u4, sZ, Nat.reduceEqDiff, Nat.reduceAdd, ↓reduceIte]
      refine ⟨j + 1, (L.eraseIdx n, out ++ [c.tm (L.getD n 0)], _), ⟨by omega, by show j + 1 + (L.eraseIdx n).length = _; omega, fun x hx => i2 x (List.mem_of_mem_eraseIdx hx), ?_, by simp [i4], ?_, ?_, ?_, ?_, ?_, by show (L.eraseIdx n).length ≤ cap; omega, fun x hx => i11 x (List.mem_of_mem_eraseIdx hx)⟩, by omega, aF rfl rfl⟩
      ·have hs : L.length = (L.eraseIdx n).length + 1 := by omega
       rw [i3, hs, rN, H5, vZ hn, List.append_assoc]
       have em : (L.map c.tm).eraseIdx n = (L.eraseIdx n).map c.tm := by rw [List.eraseIdx_eq_take_drop_succ, List.eraseIdx_eq_take_drop_succ, List.map_append, List.map_take, List.map_drop]
       rw [em]; rfl
      ·exact (mI.set (by omega) (by omega) (by omega)).set (by omega) (by omega) (by omega)
      ·rw [List.getElem?_set_ne (by omega), List.getElem?_set_ne (by omega)]; exact j6
      ·rw [List.getElem?_set_self (by have := aN j7; simp; omega)]
      ·rw [List.getElem?_set_ne (by omega), List.getElem?_set_self (aN j8)]
      ·rw [List.take_set_of_le (by omega), List.take_set_of_le (by omega)]; exact j9
 ·have e : xe s ps ss ts = ([], fU s ps ss ts) := by unfold xe; rw [if_neg h0]
  rw [e]
  simp +contextual only [h0, sZ, Nat.reduceEqDiff, ↓reduceIte, reduceCtorEq]
  exact F0 (mi []) List.take_length
end Go.aK
end
section
set_option maxRecDepth 1000000
namespace Go.aK
open Go Go.Proofs Go.fJ
def vT (n : Int) : T := .mk 1 n []
def oT (n : Int) (l : List T) : T := .mk 2 n l
def fH : Sg := ⟨[⟨#[78]⟩], [⟨⟨#[122]⟩, [], 0⟩, ⟨⟨#[115]⟩, [0], 0⟩, ⟨⟨#[97, 100, 100]⟩, [0, 0], 0⟩]⟩
def Xn : mL := ⟨[0], [], oT 2 [vT 0, oT 0 []], vT 0⟩
def cp : mL := ⟨[0, 0], [], oT 2 [vT 0, oT 1 [vT 1]], oT 1 [oT 2 [vT 0, vT 1]]⟩
def cN : Ty := ⟨fH, [Xn, cp]⟩
theorem Ou : oL Tryz.prog QF (dr Tryz.prog QF 100000) false 64 [] [] = some (cN.av, []) := by kernel_rfl
theorem At : oL Tryz.prog QF (dr Tryz.prog QF 100000) false 62 [cN.av] [] = some (.int .i64 0, []) := by kernel_rfl
theorem EL : oL Tryz.prog QF (dr Tryz.prog QF 100000) false 92 [cN.av] [] = some (.ap 0 (ints [0, 1, 2]), []) := by kernel_rfl
theorem c64 : Pure Tryz.prog 64 [] cN.av := Pure.mk rfl ((tL rD (zz rD 100000)).1 _ _ _ _ _ Ou)
theorem Au : Pure Tryz.prog 62 [cN.av] (.int .i64 0) := Pure.mk rfl ((tL rD (zz rD 100000)).1 _ _ _ _ _ At)
theorem Ta : Pure Tryz.prog 92 [cN.av] (.ap 0 (ints [0, 1, 2])) := Pure.mk rfl ((tL rD (zz rD 100000)).1 _ _ _ _ _ EL)
end Go.aK
end
section
set_option maxRecDepth 100000
namespace Go.aK
open Go Go.Proofs Go.fJ
theorem c66 {a b : List Int} {va vb : AV} (ha : IL va a) (hb : IL vb b) (la : a.length ≤ 1000000000) (lb : b.length ≤ 1000000000) : Pure Tryz.prog 66 [va, vb] (.bool (decide (a = b))) := by
 refine fun H => k66.2.calls rfl ?_
 simp only [k66, aI]
 obtain ⟨a1, a2, a3, a4⟩ := ha.one
 obtain ⟨b1, b2, b3, b4⟩ := hb.one
 simp +contextual only [a2, b2, ha.aL, hb.aL, ha.len (by omega), hb.len (by omega), sZ, Nat.reduceEqDiff, Nat.reduceAdd, ↓reduceIte, reduceCtorEq]
 refine ⟨fun ep => aY rfl (by rw [decide_eq_false (fun e => ep (by rw [e]))]), fun Zr => ?_⟩
 refine aE a.length (fun i => ∀ j, j < i → a.getD j 0 = b.getD j 0)
  (fun i => [(0, va), (1, vb), (12, .int .i64 b.length), (13, .int .i64 i)]) (fun i => H) ⟨fun j hj => by omega, aA _ _ _⟩ fun i hi hI => ?_
 simp +contextual only [a2, b2, ha.lens, hb.lens, ha.idx, hb.idx, Int.toNat_natCast, sZ, Nat.reduceEqDiff, ↓reduceIte, reduceCtorEq]
 refine ⟨fun aW => ⟨by omega, by omega, fun ep => ?_, fun he => ?_⟩, fun ji => ?_⟩
 ·refine aY rfl (by rw [decide_eq_false (fun e => ep (by rw [e]))])
 ·refine ⟨i + 1, ⟨by omega, fun j hj => ?_⟩, by omega, aF (by rw [au i (by omega)]) rfl⟩
  by_cases h : j = i
  ·subst h; exact he
  ·exact hI j (by omega)
 ·refine aY rfl (by rw [decide_eq_true (yh (by omega) fun j hj => hI j (by omega))])
noncomputable def pA (e : Int) (t : Ty) (ps ss : List Int) : Int × Bool × Int :=
 if e ≠ 0 then (0, false, e) else if iX t.s ps ss ≠ 0 then (0, false, iX t.s ps ss) else (max (qO t ps ss) 0, decide (0 ≤ qO t ps ss), 0)
def EM (p : Int × Bool × Int) : AV := .tuple [.int .i64 p.1, .bool p.2.1, .int .i64 p.2.2]
theorem c31 {t : Ty} {e : Int} (Xo : Pure Tryz.prog 62 [t.av] (.int .i64 e)) (ht : e = 0 → As t) (ps ss : List Int) : Pure Tryz.prog 31 [t.av, ff ps ss] (EM (pA e t ps ss)) := by
 refine fun H => k31.2.calls rfl ?_
 simp only [k31, aI]
 obtain ⟨q1, q2, q3, q4, q5, q6⟩ := bi ps ss
 obtain ⟨e1, e2, e3, e4, e5, e6⟩ := Ty.facts t
 simp +contextual only [q1, e1, e4, mA, sZ, Nat.reduceEqDiff, Nat.reduceAdd, ↓reduceIte, reduceCtorEq]
 refine ae Xo ?_
 by_cases h0 : e = 0
 ·subst h0
  simp +contextual only [aB, q4, cz, KJ, sZ, Nat.reduceEqDiff, Nat.reduceAdd, ↓reduceIte]
  refine ae (ZW t.s ps ss) ?_
  by_cases h1 : iX t.s ps ss = 0
  ·have hv := (vJ.1 h1).2
   simp +contextual only [h1, q4, e4, cz, mA, sZ, Nat.reduceEqDiff, Nat.reduceAdd, ↓reduceIte]
   refine ae (c89 t ps ss hv.va fun q hq => (ht rfl).eq q hq ps hv.1) ?_
   simp +contextual only [sZ, Nat.reduceEqDiff, ↓reduceIte, reduceCtorEq]
   have e0 : pA 0 t ps ss = (max (qO t ps ss) 0, decide (0 ≤ qO t ps ss), 0) := by unfold pA; rw [if_neg (by simp), if_neg (by simp [h1])]
   rw [e0]
   exact yi (by decide) List.take_length ⟨rfl, rfl, rfl⟩ rfl rfl rfl ⟨rfl, rfl⟩
  ·have e0 : pA 0 t ps ss = (0, false, iX t.s ps ss) := by unfold pA; rw [if_neg (by simp), if_pos h1]
   rw [e0]
   simp +contextual only [h1, sZ, Nat.reduceEqDiff, ↓reduceIte, reduceCtorEq]
   exact yi (by decide) List.take_length ⟨rfl, rfl, rfl⟩ rfl rfl rfl ⟨rfl, rfl⟩
 ·have e0 : pA e t ps ss = (0, false, e) := by unfold pA; rw [if_pos h0]
  rw [e0]
  simp +contextual only [h0, sZ, Nat.reduceEqDiff, ↓reduceIte, reduceCtorEq]
  exact yi (by decide) List.take_length ⟨rfl, rfl, rfl⟩ rfl rfl rfl ⟨rfl, rfl⟩
noncomputable def Ov (e : Int) (t : Ty) (ps ss : List Int) : Int := if (pA e t ps ss).2.2 = 0 ∧ (pA e t ps ss).2.1 = true then 60 else (pA e t ps ss).2.2
theorem EN (p : Int × Bool × Int) (φ : AV → Prop) : bC (EM p) 0 φ = φ (.int .i64 p.1) ∧ bC (EM p) 1 φ = φ (.bool p.2.1) ∧ bC (EM p) 2 φ = φ (.int .i64 p.2.2) := by simp [EM, bC, nr, n7]
theorem F3 (p : Int × Bool × Int) : (EM p).ab = EM p := rfl
theorem c33 {t : Ty} {e : Int} (Xo : Pure Tryz.prog 62 [t.av] (.int .i64 e)) (ht : e = 0 → As t) (ps ss : List Int) : Pure Tryz.prog 33 [t.av, ff ps ss] (.int .i64 (Ov e t ps ss)) := by
 refine fun H => k33.2.calls rfl ?_
 simp only [k33, aI]
 obtain ⟨q1, q2, q3, q4, q5, q6⟩ := bi ps ss
 obtain ⟨e1, e2, e3, e4, e5, e6⟩ := Ty.facts t
 simp +contextual only [q1, q4, e1, e4, cz, mA, sZ, Nat.reduceEqDiff, Nat.reduceAdd, ↓reduceIte, reduceCtorEq]
 refine ae (c31 Xo ht ps ss) ?_
 unfold Ov
 generalize pA e t ps ss = p
 have x1 := fun φ => (EN p φ).1
 have x2 := fun φ => (EN p φ).2.1
 have x3 := fun φ => (EN p φ).2.2
 obtain ⟨n, b, m⟩ := p
 simp only at x1 x2 x3
 by_cases h0 : m = 0
 ·subst h0
  cases b <;>
  simp +contextual only [x1, x2, x3, F3, sZ, Nat.reduceEqDiff, ↓reduceIte, reduceCtorEq] <;>
  exact aY rfl rfl
 ·have hm : (m = 0) = False := eq_false h0
  simp +contextual only [x1, x2, x3, F3, hm, decide_false, sZ, Nat.reduceEqDiff, ↓reduceIte, reduceCtorEq]
  exact aY rfl (by simp [h0])
theorem KX {H e : List aa} {u v w x y z : AV} (hb : x.a7 H.length = true ∧ y.a7 H.length = true ∧ z.a7 H.length = true) (hx : u.ab = x) (hy : v.ab = y) (hz : w.ab = z) : sS H.length [u, v, w] (H ++ e) fun r H' => r = .tuple [x, y, z] ∧ H' = H := by
 subst hx; subst hy; subst hz
 exact ⟨H.length, Nat.le_refl _, _, b9 _, by show aj _ [u.ab, v.ab, w.ab] = true; rw [bM, bM, bM, c8, hb.1, hb.2.1, hb.2.2]; rfl, rfl, by simp⟩
theorem HV (f : Fo) : ∃ P S, foA f = ff P S := by
 cases f with
 | none => exact ⟨_, _, rfl⟩
 | some p => exact ⟨_, _, rfl⟩
noncomputable def KY (e : Int) (t : Ty) (ops : List Int) : Fo × Int := if e ≠ 0 then (none, e) else if 4 < ops.length then (none, 2) else (xc t ops, 0)
theorem c35 {t : Ty} {e : Int} {ops : List Int} (Xo : Pure Tryz.prog 62 [t.av] (.int .i64 e)) (h92 : e = 0 → Pure Tryz.prog 92 [t.av] (.ap 0 (ints ops))) (ht : e = 0 → As t) (hr : e = 0 → ∀ i ∈ ops, 0 ≤ i ∧ i < t.s.ops.length) (hl : ops.length ≤ 1000000) :
 Pure Tryz.prog 35 [t.av] (.tuple [foA (KY e t ops).1, .bool (KY e t ops).1.isSome, .int .i64 (KY e t ops).2]) := by
 refine fun H => k35.2.calls rfl ?_
 simp only [k35, aI]
 obtain ⟨e1, e2, e3, e4, e5, e6⟩ := Ty.facts t
 have zf2 : List.map AV.ab [AV.ah, .ah] = [.ah, .ah] := rfl
 have zb2 : ∀ n, aj n [AV.ah, .ah] = true := fun _ => rfl
 simp +contextual only [e1, e4, mA, zf2, zb2, sZ, Nat.reduceEqDiff, Nat.reduceAdd, ↓reduceIte]
 refine ae Xo ?_
 have gz : (H ++ [aa.cells [AV.ah, .ah]])[H.length]? = some (.cells [.ah, .ah]) := by simp
 by_cases h0 : e = 0
 ·subst h0
  simp +contextual only [e4, mA, sZ, Nat.reduceEqDiff, Nat.reduceAdd, ↓reduceIte]
  refine ae (h92 rfl) ?_
  by_cases h4 : 4 < ops.length
  ·have h4' : ((4 : Int) < ops.length) = True := eq_true (by omega)
   have e0 : KY 0 t ops = (none, 2) := by unfold KY; rw [if_neg (by simp), if_pos h4]
   rw [e0]
   have sp2 : ∀ (a b x y : AV), ag [a, b] 0 [x, y] = [x, y] := fun _ _ _ _ => rfl
   simp +contextual only [zf2, zb2, aw, h4', decide_true, gz, lg, sp2, sZ, Nat.reduceEqDiff, Nat.reduceAdd, ↓reduceIte, reduceCtorEq]
   exact fun _ => KX ⟨rfl, rfl, rfl⟩ rfl rfl rfl
  ·have h4' : ((4 : Int) < ops.length) = False := eq_false (by omega)
   have e0 : KY 0 t ops = (xc t ops, 0) := by unfold KY; rw [if_neg (by simp), if_neg h4]
   rw [e0]
   simp +contextual only [e4, mA, aw, h4', decide_false, sZ, Nat.reduceEqDiff, Nat.reduceAdd, ↓reduceIte]
   intro hl9
   refine ae (c93 (ht rfl) (.inr rfl) (hr rfl) hl) ?_
   generalize xc t ops = f
   obtain ⟨P, S, ef⟩ := HV f
   obtain ⟨q1, q2, q3, q4, q5, q6⟩ := bi P S
   rw [ef]
   have zo : (ff P S).cells = [.ap 0 (ints P), .ap 0 (ints S)] := rfl
   have sp2 : ∀ (a b x y : AV), ag [a, b] 0 [x, y] = [x, y] := fun _ _ _ _ => rfl
   simp +contextual only [gz, q1, q4, lg, zo, sp2, cz, bk, sZ, Nat.reduceEqDiff, Nat.reduceAdd, Nat.reduceLT, ↓reduceIte, reduceCtorEq]
   exact KX ⟨q6 _, rfl, rfl⟩ rfl rfl rfl
 ·have hm : (e = 0) = False := eq_false h0
  have e0 : KY e t ops = (none, e) := by unfold KY; rw [if_pos h0]
  rw [e0]
  have sp2 : ∀ (a b x y : AV), ag [a, b] 0 [x, y] = [x, y] := fun _ _ _ _ => rfl
  simp +contextual only [zf2, zb2, hm, gz, lg, sp2, sZ, Nat.reduceEqDiff, Nat.reduceAdd, ↓reduceIte, reduceCtorEq]
  exact KX ⟨rfl, rfl, rfl⟩ rfl rfl rfl
end Go.aK
end
section
namespace Go.aK
open Go Go.Proofs Go.fJ
end Go.aK
end
section
namespace Go.fJ
open Go.aK
def P2 {G : T → T → Prop} [h : ∀ x y, Decidable (G x y)] : ∀ l m, Decidable (Lx G l m)
 | [], _ => isFalse (fun h => h)
 | _ :: _, [] => isTrue trivial
 | x :: l, y :: m => @instDecidableOr _ _ (@instDecidableAnd _ _ inferInstance (P2 l m)) (h x y)
def Xp {G : T → T → Prop} [h : ∀ x y, Decidable (G x y)] (l m : List T) : Decidable (Mu G l m) := by unfold Mu; exact inferInstance
def Xq {sp : Int → Int} {G : T → T → Prop} [h : ∀ x y, Decidable (G x y)] (a b : T) : Decidable (Fm sp G a b) := by
 unfold Fm
 have := @P2 G h
 have := @Xp G h
 exact inferInstance
def KZ (sp : Int → Int) : ∀ (f : Nat) (a b : T), Decidable (LC sp f a b)
 | 0, _, _ => isFalse (fun h => h)
 | f + 1, a, b => @Xq sp (LC sp f) (KZ sp f) a b
instance Xr (sp : Int → Int) (a b : T) : Decidable (Gt sp a b) := KZ sp (wt a + wt b) a b
instance Xs (O : Od) (a b : T) : Decidable (R O a b) := Xr O.sp (norm O a) (norm O b)
instance Xt (O : Od) (a b : T) : Decidable (E O a b) := inferInstanceAs (Decidable (norm O a = norm O b))
end Go.fJ
end
section
namespace Go.aK
open Go Go.Proofs Go.fJ
mutual
def CV (n : Nat) : T → Bool
 | .mk k m l => (!decide (k = 2) || (decide (0 ≤ m) && decide (m < n))) && Av n l
def Av (n : Nat) : List T → Bool
 | [] => true
 | x :: r => CV n x && Av n r
end
mutual
theorem F4 {n : Nat} : ∀ {t : T}, CV n t = true → yf (fun m => 0 ≤ m ∧ m < n) t
 | .mk k m l, h => by
   simp only [CV, Bool.and_eq_true, Bool.or_eq_true, Bool.not_eq_true', decide_eq_false_iff_not, decide_eq_true_eq] at h
   exact .mk k m l (fun hk => h.1.resolve_left fun hn => hn hk) (CW h.2)
theorem CW {n : Nat} : ∀ {l : List T}, Av n l = true → ∀ x ∈ l, yf (fun m => 0 ≤ m ∧ m < n) x
 | [], _ => fun x hx => by cases hx
 | y :: r, h => by
   simp only [Av, Bool.and_eq_true] at h
   have h1 := F4 h.1
   have h2 := CW h.2
   intro x hx
   rcases List.mem_cons.1 hx with rfl | hx
   ·exact h1
   ·exact h2 x hx
end
def CX (ps ss : List Int) (a b : T) : Bool := match Xs (kE ps ss) a b with | .isTrue _ => true | .isFalse _ => false
theorem Aw {ps ss : List Int} {a b : T} : CX ps ss a b = true ↔ R (kE ps ss) a b := by
 unfold CX
 cases Xs (kE ps ss) a b with
 | isTrue h => simp [h]
 | isFalse h => simp [h]
end Go.aK
end
section
set_option maxRecDepth 1000000
namespace Go.aK
open Go Go.Proofs Go.fJ
theorem Ax (ps ss : List Int) (a b : T) : wv ps ss a b = CX ps ss a b := by rw [Bool.eq_iff_iff, iw, Aw]
def F5 (ps ss : List Int) (a b : T) : Bool := match Xt (kE ps ss) a b with | .isTrue _ => true | .isFalse _ => false
theorem F6 (ps ss : List Int) (a b : T) : N8 ps ss a b = F5 ps ss a b := by
 rw [Bool.eq_iff_iff, qK]
 unfold F5
 cases Xt (kE ps ss) a b with
 | isTrue h => simp [h]
 | isFalse h => simp [h]
def Tb (s : Sg) (ps ss : List Int) : Bool := decide (ps.length = s.ops.length) && (decide (ss.length = s.ops.length) && ((List.range ps.length).all (fun j => decide (0 ≤ ps.getD j 0 ∧ ps.getD j 0 ≤ 255 ∧ 1 ≤ ss.getD j 0 ∧ ss.getD j 0 ≤ 3)) && (List.range ps.length).all fun j => (List.range ps.length).all fun k => !decide (ps.getD j 0 = ps.getD k 0) || decide (ss.getD j 0 = ss.getD k 0)))
theorem K0 {s : Sg} {ps ss : List Int} : Tb s ps ss = true ↔ eI s ps ss := by
 simp only [Tb, Bool.and_eq_true, decide_eq_true_eq, List.all_eq_true, List.mem_range, Bool.or_eq_true, Bool.not_eq_true', decide_eq_false_iff_not]
 constructor
 ·rintro ⟨h1, h2, h3, h4⟩
  exact ⟨h1, h2, h3, fun j k hj hk he => (h4 j hj k hk).resolve_left fun hn => hn he⟩
 ·rintro ⟨h1, h2, h3, h4⟩
  refine ⟨h1, h2, h3, fun j hj k hk => ?_⟩
  by_cases h : ps.getD j 0 = ps.getD k 0
  ·exact .inr (h4 j k hj hk h)
  ·exact .inl h
def v7 (s : Sg) (ps ss : List Int) : Int := if nD s = true then (if Tb s ps ss = true then 0 else 60) else 40
theorem qP (s : Sg) (ps ss : List Int) : iX s ps ss = v7 s ps ss := by
 unfold iX v7
 by_cases h : eI s ps ss
 ·rw [if_pos h, if_pos (K0.2 h)]
 ·rw [if_neg h, if_neg (fun k => h (K0.1 k))]
def v8 (s : Sg) (ps ss : List Int) (l : List T) : Int := if v7 s ps ss = 0 then (if (l.all fun t => t.tree && nE s t) = true then 0 else 4) else v7 s ps ss
theorem iH (s : Sg) (ps ss : List Int) (l : List T) : fU s ps ss l = v8 s ps ss l := by unfold fU v8; rw [qP]
def K3 (ps ss : List Int) (e : mL) : Bool := e.rest.all fun y => CX ps ss e.a y
theorem K4 (ps ss : List Int) (e : mL) : xb ps ss e = K3 ps ss e := by
 rw [Bool.eq_iff_iff]
 simp only [xb, Oe, K3, List.all_eq_true, Aw]
 exact @decide_eq_true_iff _ (Classical.propDecidable _)
def v9 (t : Ty) (ps ss : List Int) : Int := px (fun e => !K3 ps ss e) t.es 0
theorem si (t : Ty) (ps ss : List Int) : qO t ps ss = v9 t ps ss := by
 unfold qO v9
 congr 1
 funext e
 rw [K4]
def EO (t : Ty) (ops pl st : List Int) : Bool := decide (v7 t.s (py t.s.ops.length ops pl) (sf t.s.ops.length ops st) = 0) && decide (v9 t (py t.s.ops.length ops pl) (sf t.s.ops.length ops st) < 0)
theorem HW (t : Ty) (ops pl st : List Int) : vU t ops pl st = EO t ops pl st := by
 unfold vU EO
 rw [qP, si, Bool.eq_iff_iff]
 simp
def EP (t : Ty) (ops pl : List Int) (s : Fo) (st : List Int) : Fo × Bool := if EO t ops pl st = true then (some (py t.s.ops.length ops pl, sf t.s.ops.length ops st), false) else (s, true)
def EQ (t : Ty) (ops : List Int) (s : Fo) (pl : List Int) : Fo × Bool := if nI pl = true then eK (EP t ops pl) (ic (di 1 3) ops.length) s else (s, true)
def K5 (t : Ty) (ops : List Int) : Fo := (eK (EQ t ops) (ic (di 0 ops.length) ops.length) none).1
theorem K6 (t : Ty) (ops : List Int) : xc t ops = K5 t ops := by
 have h1 : dt t ops = EP t ops := by funext pl s st; unfold dt EP; rw [HW]
 have h2 : eU t ops = EQ t ops := by funext s pl; unfold eU EQ; rw [h1]
 unfold xc K5; rw [h2]
def fI : List Int := [0, 0, 1]
def mJ : List Int := [1, 1, 1]
def stM : List Int := [1, 1, 3]
def CY : List Int := [0, 0, 0]
theorem Tc : v8 fH fI mJ [cp.a, cp.b] = 0 := by kernel_rfl
theorem Xu : v8 fH fI mJ [cp.b, cp.a] = 0 := by kernel_rfl
theorem gr1 : CX fI mJ cp.a cp.b = true := by kernel_rfl
theorem gr2 : CX fI mJ cp.b cp.a = false := by kernel_rfl
theorem aaQ : v8 fH fI stM [oT 2 [vT 0, vT 1], oT 2 [vT 1, vT 0]] = 0 := by kernel_rfl
theorem aaR : v8 fH fI mJ [oT 2 [vT 0, vT 1], oT 2 [vT 1, vT 0]] = 0 := by kernel_rfl
theorem eq1 : F5 fI stM (oT 2 [vT 0, vT 1]) (oT 2 [vT 1, vT 0]) = true := by kernel_rfl
theorem eq2 : F5 fI mJ (oT 2 [vT 0, vT 1]) (oT 2 [vT 1, vT 0]) = false := by kernel_rfl
theorem aaS : v7 fH fI mJ = 0 := by kernel_rfl
theorem aaT : v7 fH CY mJ = 0 := by kernel_rfl
theorem Xv : v9 cN fI mJ = -1 := by kernel_rfl
theorem Xw : v9 cN CY mJ = 1 := by kernel_rfl
theorem aaU : K5 cN [0, 1, 2] = some (fI, mJ) := by kernel_rfl
def yB : List T := [oT 1 [oT 0 []], vT 0, oT 0 [], oT 2 [oT 0 [], oT 0 []]]
theorem aaV : v8 fH fI mJ yB = 0 := by kernel_rfl
theorem aaW : rN (CX fI mJ) 4 yB = [vT 0, oT 0 [], oT 1 [oT 0 []], oT 2 [oT 0 [], oT 0 []]] := by kernel_rfl
theorem qQ : As cN := by
 refine ⟨by decide, fun e he ps hp => ?_⟩
 have hp3 : ps.length = 3 := hp
 have key : ∀ e ∈ cN.es, e.cs.length ≤ 1000 ∧ (∀ t ∈ e.a :: e.rest, t.tree = true) ∧ ∀ t ∈ e.a :: e.rest, CV 3 t = true := by
  intro e he
  have h : (cN.es.all fun e => decide (e.cs.length ≤ 1000) && ((e.a :: e.rest).all (fun t => t.tree) && (e.a :: e.rest).all fun t => CV 3 t)) = true := by kernel_rfl
  have := List.all_eq_true.1 h e he
  simp only [Bool.and_eq_true, decide_eq_true_eq, List.all_eq_true] at this
  exact this
 obtain ⟨k1, k2, k3⟩ := key e he
 exact ⟨k1, k2, fun t ht => by rw [hp3]; exact F4 (k3 t ht)⟩
end Go.aK
end
