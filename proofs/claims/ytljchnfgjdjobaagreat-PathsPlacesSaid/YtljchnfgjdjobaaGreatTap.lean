/- Part 16 of 18 of the proof. -/
import Derived.Test.YtljchnfgjdjobaaGreatTao
import Derived.Test.YtljchnfgjdjobaaGreatTag
import Derived.KernelRfl
import Derived.Test.YtljchnfgjdjobaaGreatTam
import Derived.Test.YtljchnfgjdjobaaGreatTai
import Derived.Test.YtljchnfgjdjobaaGreatTah
import Derived.Test.YtljchnfgjdjobaaGreatTak
set_option linter.unusedVariables false
set_option linter.unusedSimpArgs false
set_option linter.defProp false
set_option linter.unusedSectionVars false
section
set_option maxRecDepth 100000
namespace Go.aL
open Go Go.Proofs Go.fw
theorem ysI {t : Ty} (ht : Ao t) {ops : List Int} {vo : AV} (ho : IL vo ops) (hr : ∀ i ∈ ops, 0 ≤ i ∧ i < t.s.ops.length) (jM : ops.length ≤ 1000000) {pl : List Int} (uk : pl.length = ops.length) (H W : List aa) (es : List AV) (yO : es = km 41 [(2, .aj t.av), (3, .aj vo), (4, .ptr H.length 0), (5, .ptr (H.length + 1) 0), (6, .aj (bo pl)), (21, .fn (.func 205) [] [.aj (.int .i64 ops.length), .aj (.int .i64 1), .aj (.int .i64 3)])]) :
 YS ops.length (df 1 ((3 : Int) + 1 - 1).toNat) (H.length + 2 + W.length) (fun s : Fo => eT H W s ++ [.loop (iz s) bA es]) (fun s => s = none) (dn t ops pl) := by
 refine ⟨fun l s X hl _ hs => ?_, fun l s hs bQ => ?_, fun s s' => ?_⟩
 ·subst hs
  have := KE ht ho hr jM uk H W es yO l hl X _ rfl
  have el : iz none = .ready := rfl
  refine fa.mono (by simpa [el, jv] using this) fun r H' h => ?_
  refine ⟨h.1, ?_⟩
  rw [h.2]; simp
 ·subst hs
  unfold dn at *
  split at bQ
  ·cases bQ
  ·rename_i h; rw [if_neg h]
 ·simp [eG]
theorem KF {vals : List Int} : ∀ {n : Nat} {l : List Int}, l ∈ gY vals n → l.length = n ∧ ∀ x ∈ l, x ∈ vals
 | 0, l, h => by
   simp only [gY, List.mem_cons, List.not_mem_nil, or_false] at h
   subst h; exact ⟨rfl, fun x hx => by cases hx⟩
 | n + 1, l, h => by
   simp only [gY, List.mem_flatMap, List.mem_map] at h
   obtain ⟨x, hx, y, hy, rfl⟩ := h
   obtain ⟨h1, h2⟩ := KF hy
   exact ⟨by simp [h1], fun z hz => by
    rcases List.mem_cons.1 hz with rfl | hz
    ·exact hx
    ·exact h2 z hz⟩
theorem KG {t : Ty} (ht : Ao t) {ops : List Int} {vo : AV} (ho : IL vo ops) (hr : ∀ i ∈ ops, 0 ≤ i ∧ i < t.s.ops.length) (jM : ops.length ≤ 1000000) (H : List aa) (es : List AV) (yO : es = km 41 [(2, .aj t.av), (3, .aj vo), (4, .ptr H.length 0), (5, .ptr (H.length + 1) 0), (14, .fn (.func 205) [] [.aj (.int .i64 ops.length), .aj (.int .i64 0), .aj (.int .i64 ((ops.length : Int) - 1))])])
 (pl : List Int) (uk : pl.length = ops.length) (kv : ∀ x ∈ pl, x ≤ 1000000) (Y : List aa) :
 jv Tryz.prog (H.length + 2) [bo pl] (eT H [] none ++ .loop .ready a7 es :: Y) fun r H' => r = .bool (eR t ops none pl).2 ∧ H' = eT H [] (eR t ops none pl).1 ++ .loop (iz (eR t ops none pl).1) a7 es :: Y := by
 have ees : es = [.any, .any, .aj t.av, .aj vo, .ptr H.length 0, .ptr (H.length + 1) 0, .any, .any, .any, .any, .any, .any, .any, .any, .fn (.func 205) [] [.aj (.int .i64 ops.length), .aj (.int .i64 0), .aj (.int .i64 ((ops.length : Int) - 1))], .any, .any, .any, .any, .any, .any, .any, .any, .any, .any, .any, .any, .any, .any, .any, .any, .any, .any, .any, .any, .any, .any, .any, .any, .any, .any] := by rw [yO]; rfl
 have hk : ∀ s, (eT H [] s).length = H.length + 2 := fun s => by rw [eG]; rfl
 have e0 : ∀ s st Y, (eT H [] s ++ aa.loop st a7 es :: Y)[H.length + 2]? = some (.loop st a7 es) := fun s st Y => ub _ _ _ _ (hk s)
 have fW : ∀ s st st' Y, (eT H [] s ++ aa.loop st a7 es :: Y).set (H.length + 2) (.loop st' a7 es) = eT H [] s ++ aa.loop st' a7 es :: Y := fun s st st' Y => uc _ _ _ _ _ (hk s)
 refine nP (lc := a7) (es := es) (e0 none .ready Y) Qu Qv ⟨by rw [ees, Al]; rfl, by rw [vW]; rfl, by rw [vW, Al]; rfl, ?_, ?_⟩ (vP ?_)
 ·rw [ees]; intro x hx; simp only [List.mem_cons, List.not_mem_nil, or_false] at hx
  repeat' (first | (rcases hx with hx | hx; · subst hx; rfl) | (subst hx; rfl))
 ·intro x hx; simp only [List.mem_cons, List.not_mem_nil, or_false] at hx; subst hx; exact (aF pl).2.1
 ·have ez : (a7.ps.zip [bo pl]).reverse ++ bW 0 es = (15, bo pl) :: bW 0 es := by rw [vW]; rfl
  rw [ez]
  generalize xa : bW 0 es = ea
  have g2 : get ea 2 = .aj t.av := by rw [← xa, ees]; rfl
  have g3 : get ea 3 = .aj vo := by rw [← xa, ees]; rfl
  have g4 : get ea 4 = .ptr H.length 0 := by rw [← xa, ees]; rfl
  have g5 : get ea 5 = .ptr (H.length + 1) 0 := by rw [← xa, ees]; rfl
  simp only [IZ, I0]
  have hb : ∀ K, jD (H.length + 2) (eT H [] none ++ .loop .ready a7 es :: Y) K = K (eT H [] none ++ .loop .busy a7 es :: Y) := fun K => by rw [rV (e0 none .ready Y), fW]
  obtain ⟨a1, a2, a3, a4⟩ := ho.one
  obtain ⟨b1, b2, b3, b4, b5⟩ := aF pl
  have lvo : ∀ (H : List aa) (φ : AV → Prop), aS none (.aj vo) H φ = φ vo := fun H φ => by simp [aS, a1, a2]
  have ip : IL (bo pl) pl := .inl rfl
  have hlen : (eT H [] none ++ .loop .ready a7 es :: Y).length = H.length + 2 + (Y.length + 1) := by rw [List.length_append, hk]; rfl
  have endN : ∀ n0 Z, n0 = H.length + 2 + (Y.length + 1) → eR t ops none pl = (none, true) → pV n0 (H.length + 2) (fun r H' => r = .bool (eR t ops none pl).2 ∧ H' = eT H [] (eR t ops none pl).1 ++ .loop (iz (eR t ops none pl).1) a7 es :: Y) .normal (eT H [] none ++ .loop .busy a7 es :: (Y ++ Z)) := by
   intro n0 Z LJ bQ
   rw [Ew (e0 none .busy _), fW, bQ]
   refine ⟨by rw [List.length_append, hk]; simp; omega, rfl, ?_⟩
   rw [LJ, ← hlen, show eT H [] none ++ aa.loop .ready a7 es :: (Y ++ Z) = (eT H [] none ++ aa.loop .ready a7 es :: Y) ++ Z by simp, List.take_left]
   rfl
  have endR : ∀ n0 Z s, n0 = H.length + 2 + (Y.length + 1) → eR t ops none pl = (s, false) → s.isSome = true → pV n0 (H.length + 2) (fun r H' => r = .bool (eR t ops none pl).2 ∧ H' = eT H [] (eR t ops none pl).1 ++ .loop (iz (eR t ops none pl).1) a7 es :: Y) .ret (eT H [] s ++ .loop .busy a7 es :: (Y ++ Z)) := by
   intro n0 Z s LJ bQ hs
   have hlen2 : (eT H [] s ++ .loop (.jump .ret) a7 es :: Y).length = H.length + 2 + (Y.length + 1) := by rw [List.length_append, hk]; rfl
   rw [KC (e0 _ .busy _), fW, bQ]
   refine ⟨by rw [List.length_append, hk]; simp; omega, rfl, ?_⟩
   rw [LJ, ← hlen2, show eT H [] s ++ aa.loop (.jump .ret) a7 es :: (Y ++ Z) = (eT H [] s ++ aa.loop (.jump .ret) a7 es :: Y) ++ Z by simp, List.take_left]
   have : iz s = .jump .ret := if_pos hs
   rw [this]
  simp +contextual only [g2, g3, g4, g5, hb, bT, b1, b2, b4, b5, sZ, Nat.reduceEqDiff, Nat.reduceAdd, ↓reduceIte]
  refine af (aak pl ip (by omega) kv) ?_
  cases hd : nC pl with
  | false =>
    have bQ : eR t ops none pl = (none, true) := by rw [eR, if_neg (by rw [hd]; simp)]
    simp +contextual only [Bool.not_false, sZ, Nat.reduceEqDiff, ↓reduceIte]
    have := endN ((eT H [] none).length + (Y.length + 1)) [] (by rw [hk]) bQ
    rwa [List.append_nil] at this
  | true =>
    have bQ : eR t ops none pl = eH (dn t ops pl) (gY (df 1 3) ops.length) none := by rw [eR, if_pos hd]
    simp +contextual only [Bool.not_true, lvo, ho.aM, ho.len (by omega), sZ, Nat.reduceEqDiff, Nat.reduceAdd, ↓reduceIte]
    refine af (W0 ops.length 1 3) ?_
    simp +contextual only [lO, sZ, Nat.reduceEqDiff, ↓reduceIte]
    obtain ⟨W, hW⟩ : ∃ W, W = aa.loop .busy a7 es :: Y := ⟨_, rfl⟩
    have hH2 : eT H [] none ++ aa.loop .busy a7 es :: Y = eT H W none := by rw [hW]; simp [eT]
    have hA : ∀ s, eT H W s = eT H [] s ++ aa.loop .busy a7 es :: Y := fun s => by rw [hW]; simp [eT]
    obtain ⟨esI, W1⟩ : ∃ esI, esI = km 41 [(2, AV.aj t.av), (3, .aj vo), (4, .ptr H.length 0), (5, .ptr (H.length + 1) 0), (6, .aj (bo pl)), (21, .fn (.func 205) [] [.aj (.int .i64 ops.length), .aj (.int .i64 1), .aj (.int .i64 3)])] := ⟨_, rfl⟩
    have ys := ysI ht ho hr jM uk H W esI W1
    have pH : (3 : Int) + 1 - 1 = 3 := rfl
    have hvt : ((3 : Int)).toNat = 3 := rfl
    rw [pH, hvt] at ys
    have KH := WZ (n := ops.length) (lo := 1) (hi := 3) (by omega) (by omega) jM (Good := fun s : Fo => s = none) (hy := by rw [pH, hvt]; exact ys) (fun s => by simp [eG]) none rfl
    rw [pH, hvt] at KH
    rw [hH2]
    have eln : (eT H W none).length = H.length + 2 + W.length := eG H W none
    refine rU (P := Tryz.prog) (R := fun r H' => r = .tuple [] ∧ H' = eT H W (eH (dn t ops pl) (gY (df 1 3) ops.length) none).1 ++ [.loop (iz (eH (dn t ops pl) (gY (df 1 3) ops.length) none).1) bA esI]) 205 [] _ bA _ _ _ Tryz.call205 ?_ ?_
    ·rw [Am, ← W1, eln]
     exact KH
    ·have h2 := An t ops pl (gY (df 1 3) ops.length) none rfl
     rintro r H' ⟨rfl, rfl⟩
     generalize TW : (eH (dn t ops pl) (gY (df 1 3) ops.length) none).1 = s' at h2
     have W2 : eR t ops none pl = (s', s'.isNone) := by rw [bQ]; exact Prod.ext TW h2
     rw [eln]
     have eget : ∀ st, (eT H W s' ++ [aa.loop st bA esI])[H.length + 2 + W.length]? = some (.loop st bA esI) := fun st => ub _ _ _ _ (eG H W s')
     have eset : ∀ st st', (eT H W s' ++ [aa.loop st bA esI]).set (H.length + 2 + W.length) (.loop st' bA esI) = eT H W s' ++ [.loop st' bA esI] := fun st st' => uc _ _ _ _ _ (eG H W s')
     cases s' with
     | none =>
       have el : iz none = .ready := rfl
       rw [el, vO (eget _), eset]
       simp +contextual only [oU]
       have := endN ((eT H [] none).length + (Y.length + 1)) [.loop .ew bA esI] (by rw [hk]) W2
       rw [hA]
       simpa using this
     | some o =>
       have el : iz (some o) = .jump .ret := rfl
       rw [el, CJ (eget _), eset]
       simp +contextual only [oU]
       have := endR ((eT H [] none).length + (Y.length + 1)) [.loop .ew bA esI] (some o) (by rw [hk]) W2 rfl
       rw [hA]
       simpa using this
end Go.aL
end
section
set_option maxRecDepth 100000
namespace Go.aL
open Go Go.Proofs Go.fw
theorem ysO {t : Ty} (ht : Ao t) {ops : List Int} {vo : AV} (ho : IL vo ops) (hr : ∀ i ∈ ops, 0 ≤ i ∧ i < t.s.ops.length) (jM : ops.length ≤ 1000000) (H : List aa) (es : List AV) (yO : es = km 41 [(2, .aj t.av), (3, .aj vo), (4, .ptr H.length 0), (5, .ptr (H.length + 1) 0), (14, .fn (.func 205) [] [.aj (.int .i64 ops.length), .aj (.int .i64 0), .aj (.int .i64 ((ops.length : Int) - 1))])]) :
 YS ops.length (df 0 ops.length) (H.length + 2) (fun s : Fo => eT H [] s ++ [.loop (iz s) a7 es]) (fun s => s = none) (eR t ops) := by
 refine ⟨fun l s X hl hm hs => ?_, fun l s hs bQ => ?_, fun s s' => ?_⟩
 ·subst hs
  have := KG ht ho hr jM H es yO l hl (fun x hx => by have := yu.1 (hm x hx); omega) X
  have el : iz none = .ready := rfl
  refine fa.mono (by simpa [el, jv] using this) fun r H' h => ?_
  refine ⟨h.1, ?_⟩
  rw [h.2]; simp
 ·subst hs
  have h2 : (eR t ops none l).2 = (eR t ops none l).1.isNone := by
   unfold eR
   split
   ·exact An t ops l _ none rfl
   ·rfl
  rw [bQ] at h2
  exact Option.isNone_iff_eq_none.1 h2.symm
 ·simp [eG]
def foA (s : Fo) : AV := match s with | none => eE [] [] | some (P, S) => eE P S
theorem FP (n0 s s' : Nat) (sz sz' : Option Nat) (env : Env) (H : List aa) (R : AV → List aa → Prop) : bV n0 [.c s sz, .c s' sz'] env H R = aS sz (get env s) H fun x => aS sz' (get env s') H fun y => sP n0 [x, y] H R := _root_.id rfl
theorem c93 {t : Ty} (ht : Ao t) {ops : List Int} {vo : AV} (ho : IL vo ops) (hr : ∀ i ∈ ops, 0 ≤ i ∧ i < t.s.ops.length) (jM : ops.length ≤ 1000000) : Pure Tryz.prog 93 [t.av, vo] (.tuple [foA (w9 t ops), .bool (w9 t ops).isSome]) := by
 refine fun H => YL.calls rfl ?_
 simp only [Ug, Uf]
 obtain ⟨e1, e2, e3, e4, e5, e6⟩ := Ty.facts t
 obtain ⟨a1, a2, a3, a4⟩ := ho.one
 have lvo : ∀ (H : List aa) (φ : AV → Prop), aS none (.aj vo) H φ = φ vo := fun H φ => by simp [aS, a1, a2]
 have zf2 : List.map AV.ae [AV.ah, .ah] = [.ah, .ah] := rfl
 have zb2 : ∀ n, ak n [AV.ah, .ah] = true := fun _ => rfl
 have hw : IntKind.i64.wrap ((ops.length : Int) - 1) = (ops.length : Int) - 1 := dG _ (by omega)
 simp +contextual only [e1, a3, lvo, zf2, zb2, ho.aM, ho.len (by omega), hw, sZ, Nat.reduceEqDiff, Nat.reduceAdd, ↓reduceIte, reduceCtorEq]
 refine af (W0 ops.length 0 ((ops.length : Int) - 1)) ?_
 simp +contextual only [lO, sZ, Nat.reduceEqDiff, ↓reduceIte, reduceCtorEq]
 have hA0 : H ++ [aa.cells [AV.ah, .ah], .cells [.bool false]] = eT H [] none := rfl
 rw [hA0]
 obtain ⟨esO, yO⟩ : ∃ esO, esO = km 41 [(2, AV.aj t.av), (3, .aj vo), (4, .ptr H.length 0), (5, .ptr (H.length + 1) 0), (14, .fn (.func 205) [] [.aj (.int .i64 ops.length), .aj (.int .i64 0), .aj (.int .i64 ((ops.length : Int) - 1))])] := ⟨_, rfl⟩
 have ys := ysO ht ho hr jM H esO yO
 have hv : ((ops.length : Int) - 1 + 1 - 0).toNat = ops.length := by omega
 have KH := WZ (n := ops.length) (lo := 0) (hi := (ops.length : Int) - 1) (by omega) (by omega) jM (Good := fun s : Fo => s = none) (hy := by rw [hv]; exact ys) (fun s => by simp [eG]) none rfl
 rw [hv] at KH
 have eln : ∀ s, (eT H [] s).length = H.length + 2 := fun s => eG H [] s
 refine rU (P := Tryz.prog) (R := fun r H' => r = .tuple [] ∧ H' = eT H [] (w9 t ops) ++ [.loop (iz (w9 t ops)) a7 esO]) 205 [] _ a7 _ _ _ Tryz.call205 ?_ ?_
 ·rw [Al, ← yO, eln]
  exact KH
 ·rintro r H' ⟨rfl, rfl⟩
  generalize w9 t ops = s'
  have eget : ∀ st, (eT H [] s' ++ [aa.loop st a7 esO])[H.length + 2]? = some (.loop st a7 esO) := fun st => ub _ _ _ _ (eln s')
  have eset : ∀ st st', (eT H [] s' ++ [aa.loop st a7 esO]).set (H.length + 2) (.loop st' a7 esO) = eT H [] s' ++ [.loop st' a7 esO] := fun st st' => uc _ _ _ _ _ (eln s')
  have k4 := PI H [] [.loop .ew a7 esO] s'
  have k5 := PJ H [] [.loop .ew a7 esO] s'
  have htk : (eT H [] s' ++ [aa.loop .ew a7 esO]).take H.length = H := by rw [List.take_append_of_le_length (by rw [eln]; omega), eT, List.take_left]
  have sp2 : ∀ (a b x y : AV), ai [a, b] 0 [x, y] = [x, y] := fun _ _ _ _ => rfl
  rw [eln]
  cases s' with
  | none =>
    have el : iz none = .ready := rfl
    rw [el, vO (eget _), eset]
    have o4n : o4 none = .cells [.ah, .ah] := rfl
    have o5n : o5 none = .cells [.bool false] := rfl
    rw [o4n] at k4
    rw [o5n] at k5
    have k4s := fun o => List.getElem?_set_self (a := o) (aN k4)
    have k5s : ∀ o, ((eT H [] none ++ [aa.loop .ew a7 esO]).set H.length o)[H.length + 1]? = some (.cells [.bool false]) := fun o => by rw [List.getElem?_set_ne (by omega)]; exact k5
    have k5t : ∀ o o', (((eT H [] none ++ [aa.loop .ew a7 esO]).set H.length o).set (H.length + 1) o')[H.length + 1]? = some o' := fun o o' => List.getElem?_set_self (by rw [List.length_set]; exact aN k5)
    have k4t : ∀ o o', (((eT H [] none ++ [aa.loop .ew a7 esO]).set H.length o).set (H.length + 1) o')[H.length]? = some o := fun o o' => by rw [List.getElem?_set_ne (by omega)]; exact k4s o
    have aao : ∀ o o', (((eT H [] none ++ [aa.loop .ew a7 esO]).set H.length o).set (H.length + 1) o').take H.length = H := fun o o' => by rw [List.take_set_of_le (by omega), List.take_set_of_le (by omega), htk]
    simp +contextual only [oU, k4, k5s, k4t, k5t, zf2, zb2, sp2, FP, sZ, Nat.reduceEqDiff, Nat.reduceAdd, Nat.reduceLT, ↓reduceIte, reduceCtorEq]
    exact Pc (aao _ _) ((bh [] []).2.2.2.2.2 _) rfl rfl rfl ⟨rfl, rfl⟩
  | some o =>
    obtain ⟨P, S⟩ := o
    have el : iz (some (P, S)) = .jump .ret := rfl
    rw [el, CJ (eget _), eset]
    have o4n : o4 (some (P, S)) = .cells [.aq 0 (ints P), .aq 0 (ints S)] := rfl
    have o5n : o5 (some (P, S)) = .cells [.bool true] := rfl
    rw [o4n] at k4
    rw [o5n] at k5
    simp +contextual only [oU, k4, k5, FP, sZ, Nat.reduceEqDiff, Nat.reduceAdd, Nat.reduceLT, ↓reduceIte, reduceCtorEq]
    exact Pc htk ((bh P S).2.2.2.2.2 _) rfl rfl rfl ⟨rfl, rfl⟩
end Go.aL
end
section
set_option maxRecDepth 100000
set_option maxHeartbeats 0
namespace Go.aL
open Go Go.Proofs
noncomputable def W3 := aJ Tryz.call75 Tryz.func75 Tryz.ntmps75 [(0,0,1),(5,2,1000),(6,0,1),(6,7,2),(6,8,1),(7,6,2),(7,9,2),(9,0,6004)] [(0,[1,2]),(1,[1,6]),(2,[1,6,7]),(3,[6,7,15,16,17]),(4,[6,7,15,16,17,18]),(5,[6,7,9,15,16,17]),(6,[6,7,9,15,16,17]),(7,[6,7,15,16,17]),(8,[6,7,15,16,17]),(9,[4,5])] [(7,(.take 1 true (.take 2 true (.take 3 true (.take 4 true (.take 5 true (.take 0 false (.br 6 (.take 7 true (.take 8 true (.br 9 .done .nil))) .nil))))))))]
end Go.aL
end
section
set_option maxRecDepth 100000
namespace Go.aL
open Go Go.Proofs Go.fw
def s5 (z : AV) (kp : Nat → Prop) (v : AV) (xs : List AV) (G : List aa) : Prop :=
 (xs = [] ∧ v = .ah) ∨ ∃ id cap, ¬ kp id ∧ v = .bg id 0 xs.length cap ∧ G[id]? = some (bm z xs cap) ∧ xs.length ≤ cap ∧ xs ≠ []
section
variable {z : AV} {kp : Nat → Prop} {v : AV} {xs : List AV} {G : List aa}
theorem s5.one (h : s5 z kp v xs G) : v.one = true ∧ v.val = true ∧ v.ae = v ∧ v.cells = [v] := by
 rcases h with ⟨_, rfl⟩ | ⟨id, cap, _, rfl, _⟩ <;> exact ⟨rfl, rfl, rfl, rfl⟩
theorem s5.aZ (h : s5 z kp v xs G) {n : Nat} (hn : G.length ≤ n) : v.aZ n = true := by
 rcases h with ⟨_, rfl⟩ | ⟨id, cap, _, rfl, c, _⟩
 ·rfl
 ·have := (List.getElem?_eq_some_iff.1 c).1
  rw [jE]; simp; omega
theorem s5.len (h : s5 z kp v xs G) {H : List aa} (φ : AV → Prop) : eW v H φ = φ (.int .i64 xs.length) := by
 rcases h with ⟨rfl, rfl⟩ | ⟨id, cap, _, rfl, _⟩ <;> rfl
theorem s5.aM (h : s5 z kp v xs G) : aM 1 v = True := by
 rcases h with ⟨_, rfl⟩ | ⟨id, cap, _, rfl, _⟩ <;> rfl
theorem s5.set (h : s5 z kp v xs G) {j : Nat} (hj : ∀ l c, v ≠ .bg j 0 l c) (o : aa) : s5 z kp v xs (G.set j o) := by
 rcases h with h | ⟨id, cap, a, b, c, d⟩
 ·exact .inl h
 ·exact .inr ⟨id, cap, a, b, by rw [List.getElem?_set_ne (fun e => hj _ _ (by rw [e]; exact b))]; exact c, d⟩
end
theorem yw {esz bytes : Nat} {z : AV} (hz : iR esz (bO z)) {kp : Nat → Prop} {v : AV} {xs : List AV} {G : List aa} (h : s5 z kp v xs G) (ft : ∀ x ∈ xs, iR esz x) (o : Nat) (ys : List AV) (hy : ys ≠ []) (pA : ∀ x ∈ ys, iR esz x)
 (hb : (xs.length + ys.length) * bytes ≤ 140737488355328) (hG : ∀ j, kp j → j < G.length) {K : AV → List aa → Prop}
 (hK : ∀ v' G', s5 z kp v' (xs ++ ys) G' → (∀ j, kp j → G'[j]? = G[j]?) → G.length ≤ G'.length → K v' G') : cG esz bytes z v (.aq o ys) G K := by
 have mj : ¬ kp G.length := fun h => Nat.lt_irrefl _ (hG _ h)
 have jN : tb esz ys := fun y hy => ⟨(pA y hy).len, (pA y hy).one⟩
 obtain ⟨f1, f2, f3, f4⟩ := iR.flat pA
 obtain ⟨g1, g2, g3, g4⟩ := iR.flat ft
 have uk := qo hz
 have kv : ∀ n m, ak n (da z m) = true := fun n m => (iR.flat (jF hz m)).2.2.1 n
 unfold cG
 simp only [dE]
 refine ⟨jN, ?_⟩
 rcases h with ⟨rfl, rfl⟩ | ⟨id, cap, bn, rfl, hg, hle, _⟩
 ·refine ⟨by simpa using hb, fun e => absurd e hy, fun _ cap hc _ => ⟨?_, hK _ _ (.inr ⟨G.length, cap, mj, by simp, ?_, by simpa using hc, by simpa using hy⟩) ?_ (by simp)⟩⟩
  ·rw [f2, bw]; exact ⟨f3 _, kv _ _⟩
  ·rw [f2]; simp [bm]
  ·intro j hj; have := hG j hj; rw [List.getElem?_append_left (by omega)]
 ·have xw := (List.getElem?_eq_some_iff.1 hg).1
  simp only [hg, bm, List.length_append, g1, uk, Nat.zero_add, List.drop_zero]
  refine ⟨hb, hle, by rw [← Nat.add_mul]; exact Nat.le_of_eq (by congr 1; omega), fun hroom => ⟨by rw [f2]; exact f3 _, ?_⟩, fun jM fX hc _ => ⟨?_, ?_⟩⟩
  ·rw [f2]
   refine hK _ _ (.inr ⟨id, cap, bn, by simp, ?_, by simpa using hroom, by simp [hy]⟩) ?_ (by simp)
   ·rw [List.getElem?_set_self xw, bm]
    congr 2
    unfold ai
    rw [f1, List.take_append_of_le_length (by rw [g1]; exact Nat.le_refl _), List.take_of_length_le (by rw [g1]; exact Nat.le_refl _), List.drop_append, List.drop_of_length_le (by rw [g1]; omega), g1,
     show xs.length * esz + ys.length * esz - xs.length * esz = ys.length * esz by omega, xR hz _ _ (by omega), nc, List.nil_append, List.length_append]
    rw [show cap - xs.length - ys.length = cap - (xs.length + ys.length) by omega, List.append_assoc]
   ·intro j hj; rw [List.getElem?_set_ne (fun e => bn (by rw [e]; exact hj))]
  ·rw [List.take_append_of_le_length (by rw [g1]; exact Nat.le_refl _), List.take_of_length_le (by rw [g1]; exact Nat.le_refl _), g2, f2, bw, bw]; exact ⟨⟨g3 _, f3 _⟩, kv _ _⟩
  ·rw [List.take_append_of_le_length (by rw [g1]; exact Nat.le_refl _), List.take_of_length_le (by rw [g1]; exact Nat.le_refl _), g2, f2, ← nc]
   refine hK _ _ (.inr ⟨G.length, fX, mj, by simp, ?_, by simpa using hc, by simp [hy]⟩) ?_ (by simp)
   ·simp [bm]
   ·intro j hj; have := hG j hj; rw [List.getElem?_append_left (by omega)]
def SZ (kp : Nat → Prop) (H : List aa) (xs : List AV) (r : AV) (H' : List aa) : Prop := s5 zN kp r xs H' ∧ (∀ j, kp j → H'[j]? = H[j]?) ∧ H.length ≤ H'.length
theorem W4 : ∀ (N : Nat) (t : T), wt t ≤ N → ∀ (kp : Nat → Prop) (v : AV) (xs : List AV) (H : List aa), s5 zN kp v xs H → (∀ x ∈ xs, iR 4 x) → (∀ j, kp j → j < H.length) → (xs.length + wt t) * 64 ≤ 140737488355328 →
 au Tryz.prog 132 [t.av, v] H (SZ kp H (xs ++ eB (vA t xs.length))) := by
 intro N
 induction N with
 | zero => intro t ht; have := fQ t; omega
 | succ N ih =>
 intro t ht kp v xs H hR ft hbase hb
 have hw := Cd t
 have XS := hZ t.l
 refine Fu.2.calls rfl ?_
 simp only [Fu, aJ]
 obtain ⟨o1, o2, o3, o4⟩ := hR.one
 simp +contextual only [o3, hR.len, hR.aM, bdN, V3, sZ, Nat.reduceEqDiff, Nat.reduceAdd, ↓reduceIte, reduceCtorEq]
 refine yw zW hR ft 0 [lT t] (by simp) (by simp [qy]) (by simp; omega) hbase fun v1 G1 Sk Sl tn => ?_
 obtain ⟨o1', o2', o3', o4'⟩ := Sk.one
 simp +contextual only [sZ]
 intro _
 have iI : ∀ i, (xs ++ lT t :: eB (cS (t.l.take i) (xs.length + 1))).length = xs.length + 1 + gI (t.l.take i) := by intro i; simp [qB, gD]; omega
 have jN : ∀ i, ∀ x ∈ xs ++ lT t :: eB (cS (t.l.take i) (xs.length + 1)), iR 4 x := by
  intro i x hx
  rcases List.mem_append.1 hx with hx | hx
  ·exact ft x hx
  ·rcases List.mem_cons.1 hx with rfl | hx
   ·exact qy t
   ·exact jG _ x hx
 refine aO t.l.length (fun i (p : AV × List aa) => s5 zN kp p.1 (xs ++ lT t :: eB (cS (t.l.take i) (xs.length + 1))) p.2 ∧ (∀ j, kp j → p.2[j]? = H[j]?) ∧ H.length ≤ p.2.length)
  (fun i p => [(1, p.1), (5, .int .i64 xs.length), (6, ja (aU (t.l.take i) (xs.length + 1))), (17, .aq 0 (cK t.l)), (18, .int .i64 t.l.length), (19, .int .i64 i)])
  (fun i p => p.2) (v1, G1) ⟨⟨Sk, Sl, tn⟩, aB _ _ _⟩ fun i p hi hI => ?_
 obtain ⟨v, G⟩ := p
 obtain ⟨hR, hG, hl⟩ := hI
 simp only at hR hG hl
 obtain ⟨o1, o2, o3, o4⟩ := hR.one
 have hle := de t.l i
 have EU := cu (t.l.take i) (xs.length + 1)
 have Sm : (t.l.take i).length ≤ t.l.length := by simp; omega
 simp +contextual only [o3, hR.len, hR.aM, iI, rJ, (eO _).2.1, je, sZ, Nat.reduceEqDiff, Nat.reduceAdd, ↓reduceIte, reduceCtorEq]
 refine ⟨fun a8 => ⟨b7 a8, by omega, ?_⟩, fun jL => ?_⟩
 ·have a8 := b7 a8
  have Zd := nr a8
  have hnext := de t.l (i + 1)
  have e2 : t.l.take (i + 1) = t.l.take i ++ [t.l.getD i default] := by rw [List.take_succ_eq_append_getElem a8]; simp [a8]
  refine ag (ih (t.l.getD i default) (by have := bU (iu a8); omega) kp v _ G hR (jN i) (fun j hj => by have := hbase j hj; omega) (by rw [iI]; omega)) ?_
  rintro r G' ⟨wX, dY, wJ⟩
  obtain ⟨o1', o2', o3', o4'⟩ := wX.one
  simp +contextual only [o3', sZ, Nat.reduceEqDiff, ↓reduceIte]
  refine ⟨i + 1, (r, G'), ⟨a8, ?_, fun j hj => (dY j hj).trans (hG j hj), Nat.le_trans hl wJ⟩, by omega, aH ?_ rfl⟩
  ·rw [iI] at wX
   rw [e2, kO, qz, ← List.cons_append, ← List.append_assoc]
   exact wX
  ·rw [e2, iv, ax i (by omega)]
 ·have mq : i = t.l.length := by have := dl jL; omega
  subst mq
  rw [List.take_length] at hR
  have Ei := iI t.l.length
  have Ej := jN t.l.length
  rw [List.take_length] at Ei Ej
  have fW : (xs ++ lT t :: eB (cS t.l (xs.length + 1))).set xs.length (Eh (t, aU t.l (xs.length + 1))) = xs ++ eB (vA t xs.length) := by
   rw [List.set_append_right _ _ (Nat.le_refl _), Nat.sub_self, List.set_cons_zero, n9]; rfl
  have jk : (xs ++ lT t :: eB (cS t.l (xs.length + 1))).getD xs.length .any = lT t := by simp
  generalize xs ++ lT t :: eB (cS t.l (xs.length + 1)) = ys at hR Ei Ej fW jk
  rcases hR with ⟨rfl, _⟩ | ⟨id, cap, bn, rfl, hg, cF, _⟩
  ·simp at Ei
   omega
  have xw := (List.getElem?_eq_some_iff.1 hg).1
  obtain ⟨k1, k2, k3, k4, k5⟩ := aF (aU t.l (xs.length + 1))
  simp +contextual only [hg, kw, List.take_length, sZ, Nat.reduceEqDiff, ↓reduceIte, reduceCtorEq]
  refine ⟨by omega, ?_⟩
  refine zP Ej (by omega) (by decide) (y := Eh (t, aU t.l (xs.length + 1))) k1 k4 (by rw [k2]; exact k3 _) (by rw [jk, k2]; rfl) ?_
  simp +contextual only [sZ, Nat.reduceEqDiff, ↓reduceIte, reduceCtorEq]
  rw [fW]
  refine aW (G.length) (by omega) (by rw [ay, if_pos rfl, jE]; simpa using xw) ?_
  rw [ay, if_pos rfl, List.take_of_length_le (by simp)]
  refine ⟨.inr ⟨id, cap, bn, ?_, ?_, ?_, ?_⟩, ?_, by simpa using hl⟩
  ·rw [← fW]; simp
  ·rw [List.getElem?_set_self xw]
  ·rw [← fW]; simpa using cF
  ·rw [n9]; simp [eB]
  ·intro j hj; rw [List.getElem?_set_ne (fun e => bn (by rw [e]; exact hj))]; exact hG j hj
end Go.aL
end
section
set_option maxRecDepth 100000
namespace Go.aL
open Go Go.Proofs Go.fw
def vY (n0 id : Nat) (G : List aa) : List aa := G.mapIdx fun j o => if j < n0 + 3 ∨ j = id then o else .dead
theorem rY {n0 id j : Nat} {G : List aa} : (vY n0 id G)[j]? = (G[j]?).map fun o => if j < n0 + 3 ∨ j = id then o else .dead := by simp [vY]
theorem yx {n0 id : Nat} {G : List aa} : (vY n0 id G).length = G.length := by simp [vY]
theorem EC {n0 id : Nat} {G : List aa} : (vY n0 id G).take (n0 + 3) = G.take (n0 + 3) := by
 apply List.ext_getElem?
 intro j
 rw [List.getElem?_take, List.getElem?_take]
 split
 ·rename_i hj
  rw [rY]
  cases G[j]? with
  | none => rfl
  | some o => simp [hj]
 ·rfl
theorem CK {n0 id : Nat} {G : List aa} (h3 : ∀ (j : Nat) (o : aa), n0 ≤ j → j < n0 + 3 → G[j]? = some o → o.aZ (j + 1) = true) (bn : ∀ o, G[id]? = some o → o.aZ (id + 1) = true) : mf n0 G G.length (vY n0 id G) := by
 refine ⟨by rw [yx, Nat.min_self], fun j o ho => ?_⟩
 rw [rY] at ho
 cases hg : G[j]? with
 | none => rw [hg] at ho; cases ho
 | some o' =>
   rw [hg] at ho
   simp only [Option.map_some, Option.some.injEq] at ho
   split at ho
   ·rename_i hc
    subst ho
    refine .inr ⟨rfl, fun h => ?_⟩
    rcases hc with hc | hc
    ·exact h3 j _ h hc hg
    ·subst hc; exact bn _ hg
   ·exact .inl ho.symm
def KI (H : List aa) (ps ss : List Int) (ts : List T) (r : AV) (G : List aa) : Prop :=
 ∃ va, r = .tuple [.ptr (H.length + 2) 0, va] ∧ G.take (H.length + 3) = H ++ [.map [], .map [], jH ps ss (cS ts 0) H.length (H.length + 1)] ∧ H.length + 3 ≤ G.length ∧ RO zI (H.length + 3) va (ints (aU ts 0)) G
theorem s5.W5 {z : AV} {kp kp' : Nat → Prop} {v : AV} {xs : List AV} {G G' : List aa} (h : s5 z kp v xs G) (hk : ∀ id l c, v = .bg id 0 l c → ¬ kp' id ∧ G'[id]? = G[id]?) : s5 z kp' v xs G' := by
 rcases h with h | ⟨id, cap, a, b, c, d⟩
 ·exact .inl h
 ·obtain ⟨h1, h2⟩ := hk _ _ _ b
  exact .inr ⟨id, cap, h1, b, by rw [h2]; exact c, d⟩
theorem s5.ne {z : AV} {kp : Nat → Prop} {v : AV} {xs : List AV} {G : List aa} (h : s5 z kp v xs G) {id l c : Nat} (e : v = .bg id 0 l c) : ¬ kp id := by
 rcases h with ⟨_, rfl⟩ | ⟨id', cap, a, rfl, _⟩
 ·cases e
 ·cases e; exact a
theorem aap (ps ss : List Int) (ts : List T) (H : List aa) (hb : gI ts * 64 ≤ 140737488355328) : au Tryz.prog 75 [eE ps ss, .aq 0 (cK ts)] H (KI H ps ss ts) := by
 refine W3.2.DO rfl ?_
 simp only [W3, aJ, eE]
 have XS := hZ ts
 simp +contextual only [bdD, NQ, sZ, Nat.reduceEqDiff, Nat.reduceAdd, ↓reduceIte, reduceCtorEq]
 refine ⟨by simp; omega, fun _ => ?_⟩
 have e0 : ∀ (l : List aa) (x : aa), (H ++ x :: l)[H.length]? = some x := by simp
 refine lN ts.length (fun i (p : AV × AV × List aa) => s5 zN (fun j => j < H.length + 3 ∨ ∃ l c, p.2.1 = .bg j 0 l c) p.1 (eB (cS (ts.take i) 0)) p.2.2 ∧ s5 zI (fun j => j < H.length + 3 ∨ ∃ l c, p.1 = .bg j 0 l c) p.2.1 (ints (aU (ts.take i) 0)) p.2.2 ∧ H.length + 3 ≤ p.2.2.length ∧
  p.2.2.take (H.length + 3) = H ++ [.map [], .map [], .cells [.aq 0 (ints ps), .aq 0 (ints ss), p.1, .map H.length, .map (H.length + 1)]])
  (fun i p => [(6, .ptr (H.length + 2) 0), (7, p.2.1), (15, .aq 0 (cK ts)), (16, .int .i64 ts.length), (17, .int .i64 i)])
  (fun i p => p.2.2) (.ah, .ah, _) ⟨⟨.inl ⟨rfl, rfl⟩, .inl ⟨rfl, rfl⟩, by simp, ?_⟩, nY _ _ _⟩ fun i p hi hI => ?_
 ·rw [List.take_of_length_le (by simp)]
 obtain ⟨v, va, G⟩ := p
 obtain ⟨hR, hA, hl, hG⟩ := hI
 simp only at hR hA hl hG
 obtain ⟨o1, o2, o3, o4⟩ := hR.one
 obtain ⟨p1, p2, p3, p4⟩ := hA.one
 have gget : ∀ j, j < H.length + 3 → G[j]? = (H ++ [.map [], .map [], .cells [.aq 0 (ints ps), .aq 0 (ints ss), v, .map H.length, .map (H.length + 1)]])[j]? := by
  intro j hj; rw [← hG, List.getElem?_take, if_pos hj]
 have g2 : G[H.length + 2]? = some (.cells [.aq 0 (ints ps), .aq 0 (ints ss), v, .map H.length, .map (H.length + 1)]) := by rw [gget _ (by omega)]; simp
 have hle := de ts i
 have EU := cu (ts.take i) 0
 have Sm : (ts.take i).length ≤ ts.length := by simp; omega
 by_cases a8 : i < ts.length
 ·have ms : ((i : Int) < ts.length) = True := eq_true (by omega)
  simp +contextual only [o3, p3, g2, hR.len, hR.aM, jf, ms, decide_true, sZ, Nat.reduceEqDiff, Nat.reduceAdd, Nat.reduceLT, ↓reduceIte]
  have Zd := nr a8
  have hnext := de ts (i + 1)
  have e2 : ts.take (i + 1) = ts.take i ++ [ts.getD i default] := by rw [List.take_succ_eq_append_getElem a8]; simp [a8]
  have arrlt : ∀ {z : AV} {kp : Nat → Prop} {u : AV} {xs : List AV} {G : List aa} {j l c : Nat}, s5 z kp u xs G → u = .bg j 0 l c → j < G.length := by
   intro z kp u xs G j l c h e
   rcases h with ⟨_, rfl⟩ | ⟨id', cap, _, rfl, h2, _⟩
   ·cases e
   ·cases e; exact aN h2
  refine ⟨a8, yw zX hA (nt _) 0 [.int .i64 (gI (ts.take i) : Nat)] (by simp) (nt [_]) (by rw [aw]; simp; omega) (fun j hj => ?_) fun va' G1 Qd Pp tn => ?_⟩
  ·rcases hj with hj | ⟨l, c, e⟩
   ·omega
   ·exact arrlt hR e
  obtain ⟨p1', p2', p3', p4'⟩ := Qd.one
  have g21 : G1[H.length + 2]? = some (.cells [.aq 0 (ints ps), .aq 0 (ints ss), v, .map H.length, .map (H.length + 1)]) := by rw [Pp _ (.inl (by omega)), g2]
  have Sk : s5 zN (fun j => j < H.length + 3 ∨ ∃ l c, va' = .bg j 0 l c) v (eB (cS (ts.take i) 0)) G1 := hR.W5 fun id l c e => by
   refine ⟨fun h => ?_, Pp id (.inr ⟨l, c, e⟩)⟩
   rcases h with h | ⟨l', c', e'⟩
   ·exact hR.ne e (.inl h)
   ·exact Qd.ne e' (.inr ⟨l, c, e⟩)
  simp +contextual only [o3, p3', g21, sZ, Nat.reduceEqDiff, Nat.reduceAdd, Nat.reduceLT, ↓reduceIte, reduceCtorEq]
  have hc := W4 (wt (ts.getD i default)) (ts.getD i default) (Nat.le_refl _) (fun j => j < H.length + 3 ∨ ∃ l c, va' = .bg j 0 l c) v _ G1 Sk (jG _) (fun j hj => by
   rcases hj with hj | ⟨l, c, e⟩
   ·omega
   ·exact arrlt Qd e) (by rw [jf]; omega)
  refine ag hc ?_
  rintro r G' ⟨wX, HR, wJ⟩
  obtain ⟨o1', o2', o3', o4'⟩ := wX.one
  have g2' : G'[H.length + 2]? = some (.cells [.aq 0 (ints ps), .aq 0 (ints ss), v, .map H.length, .map (H.length + 1)]) := by rw [HR _ (.inl (by omega)), g21]
  have dT := wX.aZ (Nat.le_refl _)
  have DE : s5 zI (fun j => j < H.length + 3 ∨ ∃ l c, r = .bg j 0 l c) va' (ints (aU (ts.take i) 0) ++ [.int .i64 (gI (ts.take i) : Nat)]) G' := Qd.W5 fun id l c e => by
   refine ⟨fun h => ?_, HR id (.inr ⟨l, c, e⟩)⟩
   rcases h with h | ⟨l', c', e'⟩
   ·exact Qd.ne e (.inl h)
   ·exact wX.ne e' (.inr ⟨l, c, e⟩)
  have gt' : G'.take (H.length + 3) = G.take (H.length + 3) := by
   apply List.ext_getElem?
   intro j
   rw [List.getElem?_take, List.getElem?_take]
   split
   ·rename_i hj; rw [HR j (.inl hj), Pp j (.inl hj)]
   ·rfl
  simp +contextual only [rD, o1', o2', o3', o4', g2', dT, sZ, Nat.reduceEqDiff, Nat.reduceAdd, Nat.reduceLeDiff, ↓reduceIte]
  refine ⟨by omega, i + 1, (r, va', _), ⟨a8, ?_, ?_, by simp; omega, ?_⟩, by omega, zO ?_ rfl⟩
  ·have h1 := wX.set (j := H.length + 2) (fun l c e => wX.ne e (.inl (by omega))) (.cells (ai [.aq 0 (ints ps), .aq 0 (ints ss), v, .map H.length, .map (H.length + 1)] 2 [r]))
   rw [jf] at h1
   rw [e2, kO, qz, Nat.zero_add]
   exact h1
  ·have h1 := DE.set (j := H.length + 2) (fun l c e => DE.ne e (.inl (by omega))) (.cells (ai [.aq 0 (ints ps), .aq 0 (ints ss), v, .map H.length, .map (H.length + 1)] 2 [r]))
   have ek : ints (aU (ts.take i ++ [ts.getD i default]) 0) = ints (aU (ts.take i) 0) ++ [.int .i64 (gI (ts.take i) : Nat)] := by rw [iv, Nat.zero_add]; simp [ints]
   rw [e2, ek]
   exact h1
  ·rw [List.take_set, gt', hG]
   simp [ai]
  ·rw [ax i (by omega)]
 ·have mq : i = ts.length := by omega
  subst mq
  have ms : ((ts.length : Int) < ts.length) = False := eq_false (by omega)
  simp +contextual only [ms, decide_false, sZ, Nat.reduceEqDiff, ↓reduceIte]
  rw [List.take_length] at hR hA
  have bz : ∀ (l : List Int) (cap n : Nat), (bm zI (ints l) cap).aZ n = true := fun l cap n => by
   rw [zY]
   simp only [aa.aZ, bw]
   exact ⟨bj _ _, (iR.flat (jF zX _)).2.2.1 n⟩
  have fin : ∀ (G' : List aa), H.length + 3 ≤ G'.length → (∀ id l c, va = .bg id 0 l c → G'[id]? = G[id]?) → G'.take (H.length + 3) = H ++ [.map [], .map [], jH ps ss (cS ts 0) H.length (H.length + 1)] → kI (mf H.length) H.length [.t 4, .t 5] [(4, .ptr (H.length + 2) 0), (5, va)] G' (KI H ps ss ts) := by
   intro G' wJ bn dY
   have get3 : ∀ (j : Nat) (o : aa), H.length ≤ j → j < H.length + 3 → G'[j]? = some o → o.aZ (j + 1) = true := by
    intro j o h1 h2 ho
    have h3 : (G'.take (H.length + 3))[j]? = some o := by rw [List.getElem?_take, if_pos h2]; exact ho
    rw [dY, List.getElem?_append_right h1] at h3
    have : j = H.length ∨ j = H.length + 1 ∨ j = H.length + 2 := by omega
    rcases this with rfl | rfl | rfl
    ·simp at h3; subst h3; rfl
    ·simp at h3; subst h3; rfl
    ·simp at h3; subst h3; exact yd ps ss _ _
   have tu : ∀ id, RO zI (H.length + 3) va (ints (aU ts 0)) (vY H.length id G') → (∀ o, G'[id]? = some o → o.aZ (id + 1) = true) → va.aZ G'.length = true → kI (mf H.length) H.length [.t 4, .t 5] [(4, .ptr (H.length + 2) 0), (5, va)] G' (KI H ps ss ts) := by
    intro id wm dT hva
    refine J3 (m := G'.length) (by omega) (CK get3 dT) (x := .ptr (H.length + 2) 0) (y := va) rfl (by simp [ay, p3]) (by rw [rA]; exact decide_eq_true (by omega)) hva ⟨va, rfl, by rw [EC, dY], by rw [yx]; exact wJ, wm⟩
   rcases hA with ⟨e1, rfl⟩ | ⟨id, cap, hk, rfl, hg, hc, ep⟩
   ·exact tu G'.length (.inl ⟨e1, rfl⟩) (fun o ho => by rw [List.getElem?_eq_none (Nat.le_refl _)] at ho; cases ho) rfl
   ·have Ob := bn _ _ _ rfl
    rw [hg] at Ob
    refine tu id (.inr ⟨id, cap, by have := fun h => hk (.inl h); omega, rfl, by rw [rY, Ob]; simp, hc, ep⟩) (fun o ho => ?_) ?_
    ·rw [Ob] at ho; cases ho; exact bz _ _ _
    ·rw [jE]; exact decide_eq_true (aN Ob)
  rw [Ce]
  unfold yR
  rw [g2]
  rcases hR with ⟨e1, rfl⟩ | ⟨id, cap, bn, rfl, hg, cF, ep⟩
  ·simp +contextual only [List.getElem?_cons_succ, List.getElem?_cons_zero, p3, sZ, Nat.reduceEqDiff, ↓reduceIte, reduceCtorEq]
   refine fin G hl (fun _ _ _ _ => rfl) ?_
   rw [hG, jH, ns, if_pos (Cf e1)]
  ·simp +contextual only [List.getElem?_cons_succ, List.getElem?_cons_zero, p3, sZ, Nat.reduceEqDiff, ↓reduceIte, reduceCtorEq]
   have T9 : H.length + 3 ≤ id := by have := fun h => bn (.inl h); omega
   refine vt (by decide) zW (jG _) (fun x hx => ?_) hg cF ⟨?_, ?_, ?_⟩
   ·obtain ⟨q, _, rfl⟩ := List.mem_map.1 hx; rfl
   ·rw [List.getElem?_set_ne (by omega)]; exact g2
   ·rw [cR]; exact vB _ _
   ·refine fin _ (by simp; omega) (fun id' l c e => ?_) ?_
    ·have h1 : id' ≠ id := fun e' => hA.ne e (.inr ⟨_, _, by rw [e']⟩)
     have h2 : id' ≠ H.length + 2 := fun e' => hA.ne e (.inl (by omega))
     rw [List.getElem?_set_ne (Ne.symm h2), List.getElem?_set_ne (Ne.symm h1)]
    ·rw [List.take_set, List.take_set, hG]
     have e1 : ∀ X : List aa, X.length ≤ id → X.set id .dead = X := fun X h => List.set_eq_of_length_le h
     rw [e1 _ (by simp; omega), jH, ns, if_neg (fun e => ep (by rw [e]; rfl))]
     simp
end Go.aL
end
section
set_option maxRecDepth 100000
set_option maxHeartbeats 0
namespace Go.aL
open Go Go.Proofs
noncomputable def PK := aJ Tryz.call105 Tryz.func105 Tryz.ntmps105 [(5,6,2)] [(0,[0,1,2]),(1,[0,1,2]),(2,[0,1,2,16]),(3,[6]),(4,[0,1,2,7]),(5,[0,7]),(6,[0]),(7,[6])] [(5,(.take 0 true (.take 1 true (.take 2 true (.take 3 true (.take 4 true (.take 5 true (.br 6 (.take 7 true .done) .nil))))))))]
end Go.aL
end
section
set_option maxRecDepth 100000
namespace Go.aL
open Go Go.Proofs Go.fw
theorem spI (A B : List Int) (k : Nat) : ai (ints A) k (ints B) = ints (A.take k ++ B ++ A.drop (k + B.length)) := by
 unfold ai
 rw [kQ, rN, kR, aw, kR]
 rw [List.append_assoc]
theorem sl3 {id i n cap : Nat} (h : i < n) (hc : n ≤ cap) (φ : AV → Prop) : bB 1 (.bg id 0 n cap) (some (.int .i64 (i : Int))) (some (.int .i64 ((i : Int) + 1))) (some (.int .i64 (n : Int))) φ = φ (.bg id (if n = i then 0 else 0 + i * 1) ((i + 1) - i) (n - i)) := by
 have e1 : ((i : Int) + 1).toNat = i + 1 := by omega
 simp only [bB, nI, dL, Int.toNat_natCast, Option.isSome_some, true_and, e1, eq_iff_iff]
 constructor
 ·rintro ⟨_, _, _, h⟩; exact h.2.2.2
 ·exact fun k => ⟨by omega, by omega, by omega, by omega, by omega, by omega, k⟩
theorem aaq {id i n cap : Nat} (hc : i ≤ cap) (φ : AV → Prop) : bB 1 (.bg id 0 n cap) none (some (.int .i64 (i : Int))) none φ = φ (.bg id 0 i cap) := by
 have e : (if cap = 0 then 0 else 0 + 0 * 1) = 0 := by split <;> simp
 simp only [bB, gn, dL, Int.toNat_natCast, e, Nat.sub_zero, eq_iff_iff]
 constructor
 ·rintro ⟨_, h⟩; exact h.2.2
 ·exact fun k => ⟨by omega, by omega, hc, k⟩
theorem aar {id i n cap : Nat} (h : i + 1 ≤ n) (hc : n ≤ cap) (φ : AV → Prop) : bB 1 (.bg id 0 n cap) (some (.int .i64 ((i : Int) + 1))) none none φ = φ (.bg id (if cap = i + 1 then 0 else 0 + (i + 1) * 1) (n - (i + 1)) (cap - (i + 1))) := by
 have e1 : ((i : Int) + 1).toNat = i + 1 := by omega
 simp only [bB, gn, dL, e1, eq_iff_iff]
 constructor
 ·rintro ⟨_, h⟩; exact h.2.2
 ·exact fun k => ⟨by omega, h, hc, k⟩
theorem aas {id l h n cap : Nat} (hl : l < h) (hc : h ≤ cap) (φ : AV → Prop) : bB 1 (.bg id 0 n cap) (some (.int .i64 (l : Int))) (some (.int .i64 (h : Int))) none φ = φ (.bg id l (h - l) (cap - l)) := by
 have e : (if cap = l then 0 else 0 + l * 1) = l := by rw [if_neg (by omega)]; omega
 simp only [bB, gn, dL, Int.toNat_natCast, e, eq_iff_iff]
 constructor
 ·rintro ⟨_, _, h⟩; exact h.2.2
 ·exact fun k => ⟨by omega, by omega, by omega, hc, k⟩
theorem aat (P S pad : List Int) (a : Int) (hb : (P ++ a :: S).length ≤ 1000000000) (id cap : Nat) (cF : cap = (P ++ a :: S ++ pad).length) {H : List aa} (hg : H[id]? = some (.cells (ints (P ++ a :: S ++ pad)))) :
 au Tryz.prog 105 [.bg id 0 (P.length + 1 + S.length) cap, .int .i64 P.length, .int .i64 ((P.length : Int) + 1)] H fun r H' => r = .bg id 0 (P.length + S.length) cap ∧ H' = H.set id (.cells (ints (P ++ S ++ 0 :: pad))) := by
 refine PK.2.calls rfl ?_
 simp only [PK, aJ]
 have iD : cap = P.length + 1 + S.length + pad.length := by rw [cF]; simp; omega
 rw [cF] at iD
 have ne : ((P.length : Int) = (P.length : Int) + 1) = False := eq_false (by omega)
 have pF := aN hg
 have s1 := fun φ => sl3 (id := id) (i := P.length) (n := P.length + 1 + S.length) (cap := cap) (by omega) (by omega) φ
 have s2 := fun φ => aaq (id := id) (i := P.length) (n := P.length + 1 + S.length) (cap := cap) (by omega) φ
 have s3' := fun φ => aar (id := id) (i := P.length) (n := P.length + 1 + S.length) (cap := cap) (by omega) (by omega) φ
 have un : ∀ a b c d, (AV.bg a b c d).ae = .bg a b c d := fun _ _ _ _ => rfl
 have ox1 : ∀ (env : Env) (i : IX), gr env (some i) = some (ap env i) := fun _ _ => rfl
 have ox2 : ∀ (env : Env), gr env none = none := fun _ => rfl
 have s4 := fun φ => aas (id := id) (l := P.length + S.length) (h := P.length + 1 + S.length) (n := P.length + S.length) (cap := cap) (by omega) (by omega) φ
 simp +contextual only [Option.map_some, Option.map_none, ox1, s1, s2, s3', ne, decide_false, un, sZ, Nat.reduceEqDiff, Nat.reduceAdd, ↓reduceIte, reduceCtorEq]
 have hnone : ∀ a b c d, dE (AV.bg a b c d) = none := fun _ _ _ _ => rfl
 have e0 : P.length + 1 + S.length - (P.length + 1) = S.length := by omega
 have eA : P ++ a :: S ++ pad = (P ++ [a]) ++ (S ++ pad) := by simp
 unfold cG
 simp only [hnone, wE, hg, aw, e0]
 have ot : (if cap = P.length + 1 then 0 else 0 + (P.length + 1) * 1) + S.length * 1 ≤ (P ++ a :: S ++ pad).length := by simp only [List.length_append, List.length_cons]; split <;> omega
 have htake : (List.take (S.length * 1) (List.drop (if cap = P.length + 1 then 0 else 0 + (P.length + 1) * 1) (ints (P ++ a :: S ++ pad)))) = ints S := by
  rw [rN, kQ, Nat.mul_one]
  congr 1
  by_cases hc : cap = P.length + 1
  ·have : S = [] := List.length_eq_zero_iff.1 (by omega)
   subst this; simp
  ·rw [if_neg hc, eA, List.drop_left' (by simp), List.take_left]
 rw [if_pos ot]
 simp only [hg, htake, tU, kS, bj]
 refine ⟨?_, trivial, by omega, by rw [aw, ← cF]; omega, trivial, ?_⟩
 ·rw [List.length_drop, aw]; simp only [List.length_append, List.length_cons] at ot ⊢; omega
 obtain ⟨x, X, hxX, hXl⟩ : ∃ x X, (a :: S).drop S.length = x :: X ∧ X.length = 0 := by
  have hl : ((a :: S).drop S.length).length = 1 := by simp
  cases hd : (a :: S).drop S.length with
  | nil => rw [hd] at hl; simp at hl
  | cons x X => rw [hd] at hl; exact ⟨x, X, rfl, by simpa using hl⟩
 have hX0 : X = [] := List.length_eq_zero_iff.1 hXl
 subst hX0
 have e1 : ai (ints (P ++ a :: S ++ pad)) (0 + P.length * 1) (ints S) = ints (P ++ S ++ x :: pad) := by
  rw [spI]
  congr 1
  have h1 : (P ++ a :: S ++ pad).take (0 + P.length * 1) = P := by rw [List.append_assoc, Nat.zero_add, Nat.mul_one, List.take_left]
  have h2 : (P ++ a :: S ++ pad).drop (0 + P.length * 1 + S.length) = x :: pad := by
   rw [List.append_assoc, Nat.zero_add, Nat.mul_one, ← List.drop_drop, List.drop_left, List.drop_append_of_le_length (by simp), hxX]; rfl
  rw [h1, h2]
 rw [e1]
 have gs : ∀ o, (H.set id o)[id]? = some o := fun o => List.getElem?_set_self pF
 have e2 : P.length + 1 + S.length - (P.length + S.length) = 1 := by omega
 have e3 : ((P.length + S.length : Nat) : Int) = ((P.length + S.length : Nat) : Int) := rfl
 simp +contextual only [ox1, ox2, s4, un, e2, G9, sZ, Nat.reduceEqDiff, ↓reduceIte, reduceCtorEq]
 unfold gZ
 have ap1 : da (.int .i64 0) 1 = ints [0] := rfl
 simp only [gs, ap1, tU, kS, bj, aw, spI, List.set_set]
 refine ⟨by simp; omega, trivial, trivial, ?_⟩
 have e4 : (P ++ S ++ x :: pad).take (P.length + S.length) ++ [0] ++ (P ++ S ++ x :: pad).drop (P.length + S.length + [(0 : Int)].length) = P ++ S ++ 0 :: pad := by
  have hl : (P ++ S).length = P.length + S.length := by simp
  rw [← hl, List.take_left, ← List.drop_drop, List.drop_left]; simp
 rw [e4]
 simp +contextual only [un, sZ, ↓reduceIte, reduceCtorEq]
 exact R3 (by simp) (by rw [jE]; exact decide_eq_true pF) rfl rfl
end Go.aL
end
section
set_option maxRecDepth 100000
namespace Go.aL
open Go Go.Proofs Go.fw
theorem PL {S : List aa → Prop} (hS : yg S) {Q : Int → Prop} {a : List Int} {id cap : Nat} (hg : ∀ G, S G → G[id]? = some (bm zI (ints a) cap)) (hc : a.length ≤ cap) (la : a.length ≤ 1000000000) (g : Nat) (pre cz : List AV) (cF : cz.map AV.ae = cz) (lf : pre.map AV.ae = pre)
 (hf : ∀ x ∈ a, ∀ H, S H → au Tryz.prog g (pre ++ [.int .i64 x] ++ cz) H (SB S (Q x))) {H : List aa} (hH : S H) :
 au Tryz.prog 100 [.bg id 0 a.length cap, .fn (.func g) pre cz] H (SI S Q a) := by
 refine Bq.2.calls rfl ?_
 simp only [Bq, aJ]
 simp +contextual only [sZ, Nat.reduceEqDiff, Nat.reduceAdd, ↓reduceIte, reduceCtorEq]
 have fin : ∀ (n : Int) (G : List aa), S G → ((n = -1 ∧ ∀ x ∈ a, ¬ Q x) ∨ ∃ m : Nat, n = m ∧ m < a.length ∧ Q (a.getD m 0) ∧ ∀ j, j < m → ¬ Q (a.getD j 0)) → bV H.length [.t 4] [(4, .int .i64 n)] G (SI S Q a) := by
  intro n G hG hn
  refine aW H.length (Nat.le_refl _) (by rw [ay, if_pos rfl]; rfl) ?_
  rw [ay, if_pos rfl, List.take_of_length_le (by rw [hS H G hH hG]; exact Nat.le_refl _)]
  refine ⟨hG, ?_⟩
  rcases hn with ⟨rfl, h⟩ | ⟨m, rfl, h⟩
  ·exact .inl ⟨rfl, h⟩
  ·exact .inr ⟨m, rfl, h⟩
 refine aO a.length (fun i (G : List aa) => S G ∧ ∀ j, j < i → ¬ Q (a.getD j 0))
  (fun i G => [(0, .bg id 0 a.length cap), (1, .fn (.func g) pre cz), (7, .int .i64 a.length), (8, .int .i64 i)]) (fun i G => G) H ⟨⟨hH, fun j hj => by omega⟩, aB _ _ _⟩ fun i G hi hI => ?_
 obtain ⟨hG, hq⟩ := hI
 by_cases a8 : i < a.length
 ·have ms : ((i : Int) < a.length) = True := eq_true (by omega)
  simp +contextual only [ms, decide_true, kw, hg G hG, FD a8, cF, lf, sZ, Nat.reduceEqDiff, Nat.reduceAdd, ↓reduceIte, reduceCtorEq]
  refine ⟨by omega, ag (hf _ (aP (by omega)) G hG) ?_⟩
  rintro r G' ⟨x, rfl, hx, dY⟩
  cases x with
  | false =>
    simp +contextual only [sZ, Nat.reduceEqDiff, ↓reduceIte, reduceCtorEq]
    refine ⟨i + 1, G', ⟨by omega, dY, fun j hj => ?_⟩, by omega, aH (by rw [ax i (by omega)]) rfl⟩
    by_cases h : j = i
    ·subst h; exact fun h => absurd (hx.2 h) (by simp)
    ·exact hq j (by omega)
  | true =>
    simp +contextual only [sZ, Nat.reduceEqDiff, ↓reduceIte, reduceCtorEq]
    exact fin _ _ dY (.inr ⟨i, rfl, by omega, hx.1 rfl, hq⟩)
 ·have ms : ((i : Int) < a.length) = False := eq_false (by omega)
  simp +contextual only [ms, decide_false, sZ, Nat.reduceEqDiff, ↓reduceIte, reduceCtorEq]
  refine fin _ _ hG (.inl ⟨rfl, fun x hx => ?_⟩)
  obtain ⟨j, hj, rfl⟩ := List.getElem_of_mem hx
  have := hq j (by omega)
  simpa [hj] using this
theorem W6 {S : List aa → Prop} (hS : yg S) {Q : Int → Prop} {a : List Int} {id cap : Nat} (hg : ∀ G, S G → G[id]? = some (bm zI (ints a) cap)) (hc : a.length ≤ cap) (la : a.length ≤ 1000000000) (g : Nat) (pre cz : List AV) (cF : cz.map AV.ae = cz) (lf : pre.map AV.ae = pre)
 (hf : ∀ x ∈ a, ∀ H, S H → au Tryz.prog g (pre ++ [.int .i64 x] ++ cz) H (SB S (Q x))) {H : List aa} (hH : S H) :
 au Tryz.prog 102 [.bg id 0 a.length cap, .fn (.func g) pre cz] H (SB S (∃ x ∈ a, Q x)) := by
 refine Br.2.calls rfl ?_
 simp only [Br, aJ]
 simp +contextual only [sZ, Nat.reduceEqDiff, Nat.reduceAdd, ↓reduceIte, reduceCtorEq]
 refine ag (PL hS hg hc la g pre cz cF lf hf hH) ?_
 rintro r G ⟨hG, ⟨rfl, h⟩ | ⟨n, rfl, h1, h2, _⟩⟩
 ·simp +contextual only [sZ, ↓reduceIte, reduceCtorEq]
  exact zZ hS (b := false) (by simp) ⟨fun h => by simp at h, fun ⟨x, hx, h'⟩ => absurd h' (h x hx)⟩ hH hG
 ·simp +contextual only [sZ, ↓reduceIte, reduceCtorEq]
  exact zZ hS (b := true) (by simp) ⟨fun _ => ⟨_, aP h1, h2⟩, fun _ => rfl⟩ hH hG
def SG (c : Cx) (G H : List aa) : Prop := Du c H ∧ Up c G H
theorem SG.len (c : Cx) (G : List aa) : yg (SG c G) := fun H H' h h' => h'.2.len.trans h.2.len.symm
theorem aau {c : Cx} (hc : c.Ok) {i x : Int} (hi : c.dF i) (hx : c.dF x) {t9 : Nat} {G : List aa} (h9 : G[t9]? = some (.cells [.ptr c.d 0])) (n1 : t9 ≠ c.e) (n2 : t9 ≠ c.g) (H : List aa) (hH : SG c G H) :
 au Tryz.prog 103 ([] ++ [.int .i64 x] ++ [.ptr t9 0, .aj (.int .i64 i)]) H (SB (SG c G) (R c.O (c.tm i) (c.tm x))) := by
 refine Ui.2.calls rfl ?_
 simp only [Ui, aJ, List.nil_append, List.cons_append]
 have h9' : H[t9]? = some (.cells [.ptr c.d 0]) := by rw [hH.2.get t9 n1 n2, h9]
 simp +contextual only [h9', sZ, Nat.reduceEqDiff, Nat.reduceAdd, Nat.reduceLT, ↓reduceIte, reduceCtorEq]
 refine ag (jJ hc hi hx H hH.1) ?_
 rintro r G' ⟨b, rfl, hb, hU, hD⟩
 simp +contextual only [sZ, ↓reduceIte, reduceCtorEq]
 exact zZ (SG.len c G) rfl hb hH ⟨hD, hH.2.trans hU⟩
theorem aav {c : Cx} (hc : c.Ok) {i : Int} (hi : c.dF i) {t9 t10 id cap : Nat} {l : List Int} {G : List aa} (hl : ∀ x ∈ l, c.dF x) (yH : l.length ≤ cap) (Lf : l.length ≤ 1000000000)
 (h9 : G[t9]? = some (.cells [.ptr c.d 0])) (n1 : t9 ≠ c.e) (n2 : t9 ≠ c.g)
 (Ys : G[t10]? = some (.cells [.bg id 0 l.length cap])) (m1 : t10 ≠ c.e) (m2 : t10 ≠ c.g)
 (hg : G[id]? = some (bm zI (ints l) cap)) (k1 : id ≠ c.e) (k2 : id ≠ c.g) (H : List aa) (hH : SG c G H) :
 au Tryz.prog 101 ([] ++ [.int .i64 i] ++ [.ptr t10 0, .ptr t9 0]) H (SB (SG c G) (¬ ∃ x ∈ l, R c.O (c.tm i) (c.tm x))) := by
 refine Uh.2.calls rfl ?_
 simp only [Uh, aJ, List.nil_append, List.cons_append]
 have aaw : H[t10]? = some (.cells [.bg id 0 l.length cap]) := by rw [hH.2.get t10 m1 m2, Ys]
 simp +contextual only [aaw, sZ, Nat.reduceEqDiff, Nat.reduceAdd, Nat.reduceLT, ↓reduceIte, reduceCtorEq]
 refine ag (W6 (SG.len c G) (fun G' dY => by rw [dY.2.get id k1 k2, hg]) yH Lf 103 [] [.ptr t9 0, .aj (.int .i64 i)] rfl rfl (fun x hx H' hH' => aau hc hi (hl x hx) h9 n1 n2 H' hH') hH) ?_
 rintro r G' ⟨b, rfl, hb, hG⟩
 simp +contextual only [sZ, ↓reduceIte, reduceCtorEq]
 refine zZ (SG.len c G) (b := !b) (by simp) ?_ hH hG
 rw [← hb]; cases b <;> simp
end Go.aL
end
section
set_option maxRecDepth 100000
set_option maxHeartbeats 0
namespace Go.aL
open Go Go.Proofs
noncomputable def W7 := aJ Tryz.call37 Tryz.func37 Tryz.ntmps37 [(0,0,1),(0,1,1),(9,2,2000),(10,0,1),(10,12,2000),(10,15,1),(11,4,2000)] [(0,[2,3,4]),(1,[2,4,8]),(2,[2,4,8,18]),(3,[6,7]),(4,[2,4,22]),(5,[6,7]),(6,[9,10]),(7,[9,10,11]),(8,[9,10,11,31]),(9,[9,10,11,12]),(10,[9,10,11,12]),(11,[9,10,11]),(12,[6,7])] [(10,(.take 1 true (.take 2 true (.take 3 true (.take 4 true (.take 5 true (.take 6 true (.take 7 true (.take 8 true (.take 9 true (.take 10 true (.take 11 true (.br 0 (.br 12 (.take 13 true (.br 14 (.br 15 .done .nil) .nil)) .nil) (.br 12 (.take 13 true (.br 0 (.br 14 (.br 15 .done .nil) .nil) .nil)) .nil))))))))))))))]
noncomputable def PM := aJ Tryz.call104 Tryz.func104 Tryz.ntmps104 [(1,4,2),(5,4,2000),(7,0,3003)] [(0,[1,2]),(1,[1,2]),(2,[1,2,10,11,12]),(3,[1,2,10,11,12,13]),(4,[1,2,3,4,10,11,12]),(5,[1,2,10,11,12]),(6,[1,2,10,11,12]),(7,[2])] [(5,(.take 3 true (.take 0 false (.take 2 false (.br 1 (.br 4 (.take 5 true (.br 6 .done .nil)) .nil) (.br 4 (.take 1 true (.take 5 true (.br 6 .done .nil))) .nil))))))]
end Go.aL
end
section
set_option maxRecDepth 100000
namespace Go.aL
open Go Go.Proofs Go.fw
def zT : AV := .agg [.int .i64 0, .int .i64 0, .ah]
theorem KJ : iR 3 (bO zT) := ⟨rfl, rfl, rfl, rfl⟩
theorem sQ (t : T) : t.av = .agg [.int .i64 t.k, .int .i64 t.n, .aq 0 (cK t.l)] := by cases t; rfl
theorem vZ (t : T) : iR 3 t.av := by
 rw [sQ]
 exact ⟨rfl, rfl, by simp [AV.cells, dX, bM, cW, iP, cR], rfl⟩
theorem FQ {l : List T} {x : AV} (h : x ∈ cK l) : ∃ t ∈ l, x = t.av := by
 induction l with
 | nil => cases h
 | cons y r ih =>
   rcases List.mem_cons.1 h with rfl | h
   ·exact ⟨y, List.mem_cons_self, rfl⟩
   ·obtain ⟨t, ht, e⟩ := ih h; exact ⟨t, List.mem_cons_of_mem _ ht, e⟩
theorem om (l : List T) : ∀ x ∈ cK l, iR 3 x := by
 intro x hx; obtain ⟨t, _, rfl⟩ := FQ hx; exact vZ t
theorem FR {l : List T} {i : Nat} (h : i < l.length) : (cK l).getD i .any = (l.getD i default).av := by
 induction l generalizing i with
 | nil => simp at h
 | cons x r ih =>
   cases i with
   | zero => rfl
   | succ i => simpa [cK] using ih (i := i) (by simpa using h)
theorem iA (l : List T) : (cK l).length = l.length := by induction l with | nil => rfl | cons x r ih => simp [cK, ih]
def CT (base : Nat) (v : AV) (l : List T) (G : List aa) : Prop :=
 (l = [] ∧ v = .ah) ∨ ∃ id cap, base ≤ id ∧ v = .bg id 0 l.length cap ∧ G[id]? = some (bm zT (cK l) cap) ∧ l.length ≤ cap
theorem CT.one {base : Nat} {v : AV} {l : List T} {G : List aa} (h : CT base v l G) : v.one = true ∧ v.val = true ∧ v.ae = v ∧ v.cells = [v] := by
 rcases h with ⟨_, rfl⟩ | ⟨id, cap, _, rfl, _⟩ <;> exact ⟨rfl, rfl, rfl, rfl⟩
theorem CT.aZ {base : Nat} {v : AV} {l : List T} {G : List aa} (h : CT base v l G) {n : Nat} (hn : G.length ≤ n) : v.aZ n = true := by
 rcases h with ⟨_, rfl⟩ | ⟨id, cap, _, rfl, c, _⟩
 ·rfl
 ·have := (List.getElem?_eq_some_iff.1 c).1
  rw [jE]; simp; omega
theorem CT.len {base : Nat} {v : AV} {l : List T} {G : List aa} (h : CT base v l G) {H : List aa} (φ : AV → Prop) : eW v H φ = φ (.int .i64 l.length) := by
 rcases h with ⟨rfl, rfl⟩ | ⟨id, cap, _, rfl, _⟩ <;> rfl
theorem CT.aM {base : Nat} {v : AV} {l : List T} {G : List aa} (h : CT base v l G) : aM 1 v = True := by
 rcases h with ⟨rfl, rfl⟩ | ⟨id, cap, _, rfl, _⟩ <;> rfl
theorem KK (o : Nat) (φ : AV → Prop) : dc 0 false (.aq o []) φ = (φ (.bool true) ∧ φ (.bool false)) := by simp [dc, isNil]
theorem KL (o : Nat) (x : AV) (r : List AV) (φ : AV → Prop) : dc 0 false (.aq o (x :: r)) φ = φ (.bool false) := by simp [dc, isNil]
theorem KM {esz bytes : Nat} {z : AV} {id o : Nat} {G : List aa} (bn : G[id]? = some (.cells [])) {K : AV → List aa → Prop} (hK : K (.bg id 0 0 0) G) : cG esz bytes z (.bg id 0 0 0) (.aq o []) G K := by
 unfold cG
 simp only [dE, bn]
 refine ⟨fun y h => by simp at h, by simp, Nat.le_refl _, by simp, fun _ => ⟨by simp [flat, ak], ?_⟩, fun h => absurd h (by simp)⟩
 have e : ai ([] : List AV) ((0 + 0) * esz) (List.map AV.ae (flat [])) = [] := by simp [ai, flat]
 simp only [flat, ai, List.flatMap_nil, List.map_nil, List.length_nil, List.append_nil, List.take_nil, List.drop_nil]
 rw [El bn]
 exact hK
theorem aay (l : List T) (H : List aa) (hb : l.length * 40 ≤ 140737488355328) : au Tryz.prog 58 [.aq 0 (cK l)] H fun r H' => CT H.length r l H' ∧ H'.take H.length = H ∧ H.length ≤ H'.length := by
 refine VQ.2.calls rfl ?_
 simp only [VQ, aJ]
 cases l with
 | nil =>
   simp +contextual only [cK, KK, tR, sq, sZ, Nat.reduceEqDiff, Nat.reduceAdd, ↓reduceIte, reduceCtorEq]
   refine ⟨aW H.length (Nat.le_refl _) (by rw [ay, if_pos rfl]; rfl) ⟨.inl ⟨rfl, by rw [ay, if_pos rfl]⟩, by simp, by simp⟩, ?_⟩
   refine ⟨rfl, KM (by simp [flat]) ?_⟩
   simp +contextual only [sZ, ↓reduceIte, reduceCtorEq]
   refine aW (H.length + 1) (by omega) (by rw [ay, if_pos rfl, jE]; exact decide_eq_true (by omega)) ?_
   rw [ay, if_pos rfl, List.take_of_length_le (by simp)]
   exact ⟨.inr ⟨H.length, 0, Nat.le_refl _, rfl, by simp [bm, cK, flat, da], Nat.le_refl _⟩, by simp, by simp⟩
 | cons v r =>
   simp +contextual only [cK, KL, tR, sq, sZ, Nat.reduceEqDiff, Nat.reduceAdd, ↓reduceIte, reduceCtorEq]
   refine ⟨rfl, FC KJ (by simp [flat]) (cK (v :: r)) (by simp [cK]) (om _) (by rw [iA]; exact hb) (base := H.length) (by simp) fun v' G' hR hG hl => ?_⟩
   obtain ⟨o1, o2, o3, o4⟩ := hR.one
   simp +contextual only [o3, sZ, ↓reduceIte, reduceCtorEq]
   have wJ : H.length ≤ G'.length := by simp at hl; omega
   refine aW G'.length wJ (by rw [ay, if_pos rfl]; exact hR.aZ (Nat.le_refl _)) ?_
   rw [ay, if_pos rfl, List.take_length]
   refine ⟨?_, by rw [hG]; simp, wJ⟩
   rcases hR with ⟨h, _⟩ | ⟨id, cap, a, b, c, d, _⟩
   ·cases h
   ·rw [iA] at b d; exact .inr ⟨id, cap, a, b, c, d⟩
theorem loadT {l : List T} {cap i : Nat} (h : i < l.length) (φ : AV → Prop) : db (some (bm zT (cK l) cap)) (some 3) (i * 3) φ = φ (l.getD i default).av := by
 obtain ⟨g1, _⟩ := iR.flat (om l)
 rw [iA] at g1
 have h1 := pd (om l) i (by rw [iA]; exact h)
 rw [FR h] at h1
 have w7 : (l.getD i default).av.cells.length = 3 := (vZ _).len
 have e : ((flat (cK l) ++ da zT (cap - (cK l).length)).drop (i * 3)).take 3 = (l.getD i default).av.cells := by
  rw [List.drop_append_of_le_length (by omega), h1, List.append_assoc, List.take_append_of_le_length (by omega), List.take_of_length_le (by omega)]
 simp only [bm, db, e, eq_iff_iff, List.length_append]
 have e2 : AV.agg ((l.getD i default).av.cells.map AV.drop) = (l.getD i default).av := by rw [sQ]; rfl
 rw [e2]
 constructor
 ·exact fun h => h.2
 ·exact fun h2 => ⟨by omega, h2⟩
theorem storeT {l : List T} {cap i id : Nat} (h : i < l.length) {H : List aa} (hg : H[id]? = some (bm zT (cK l) cap)) {K : List aa → Prop} (hK : K H) : gV (some (bm zT (cK l) cap)) 3 id (i * 3) (l.getD i default).av H K := by
 obtain ⟨g1, _⟩ := iR.flat (om l)
 rw [iA] at g1
 have h1 := pd (om l) i (by rw [iA]; exact h)
 rw [FR h] at h1
 have ho := vZ (l.getD i default)
 have w7 := ho.len
 have hs : ai (flat (cK l) ++ da zT (cap - (cK l).length)) (i * 3) ((l.getD i default).av.cells.map AV.ae) = flat (cK l) ++ da zT (cap - (cK l).length) := by
  rw [ho.un]
  unfold ai
  have e1 : (flat (cK l) ++ da zT (cap - (cK l).length)).drop (i * 3) = (l.getD i default).av.cells ++ (flat ((cK l).drop (i + 1)) ++ da zT (cap - (cK l).length)) := by
   rw [List.drop_append_of_le_length (by omega), h1, List.append_assoc]
  have e2 : (flat (cK l) ++ da zT (cap - (cK l).length)).drop (i * 3 + (l.getD i default).av.cells.length) = flat ((cK l).drop (i + 1)) ++ da zT (cap - (cK l).length) := by
   rw [← List.drop_drop, e1, List.drop_left]
  rw [e2, ← e1, List.take_append_drop]
 have hv : (l.getD i default).av.val = true := by rw [sQ]; rfl
 simp only [bm, gV]
 refine ⟨hv, w7, by rw [List.length_append]; omega, ho.one, by rw [ho.un]; exact bG (Nat.zero_le _) _ ho.bl, ?_⟩
 rw [hs, show (aa.cells (flat (cK l) ++ da zT (cap - (cK l).length))) = bm zT (cK l) cap from rfl, El hg]
 exact hK
theorem CT.set {base : Nat} {v : AV} {l : List T} {G : List aa} (h : CT base v l G) {j : Nat} (hj : j < base) (o : aa) : CT base v l (G.set j o) := by
 rcases h with h | ⟨id, cap, a, b, c, d⟩
 ·exact .inl h
 ·exact .inr ⟨id, cap, a, b, by rw [List.getElem?_set_ne (by omega)]; exact c, d⟩
theorem CT.rL {base : Nat} {v : AV} {l : List T} {G : List aa} (h : CT base v l G) (X : List aa) : CT base v l (G ++ X) := by
 rcases h with h | ⟨id, cap, a, b, c, d⟩
 ·exact .inl h
 ·exact .inr ⟨id, cap, a, b, by rw [List.getElem?_append_left (aN c)]; exact c, d⟩
theorem CT.get {base : Nat} {v : AV} {l : List T} {G : List aa} (h : CT base v l G) {i : Nat} (hi : i < l.length) : ∃ id cap, base ≤ id ∧ v = .bg id 0 l.length cap ∧ G[id]? = some (bm zT (cK l) cap) ∧ l.length ≤ cap := by
 rcases h with ⟨rfl, _⟩ | h
 ·simp at hi
 ·exact h
theorem aaz : ∀ (n : Nat) (t : T), wt t ≤ n → wt t ≤ 1000000000 → Pure Tryz.prog 104 [t.av] t.av := by
 intro n
 induction n with
 | zero => intro t h; have := fQ t; omega
 | succ n ih =>
   intro t hn hb H
   refine PM.2.DO rfl ?_
   simp only [PM, aJ]
   have hw := Cd t
   have XS := hZ t.l
   rw [sQ]
   simp +contextual only [sZ, Nat.reduceEqDiff, Nat.reduceAdd, Nat.reduceLT, ↓reduceIte]
   have xw : (H ++ [aa.cells [.int .i64 t.k, .int .i64 t.n, .aq 0 (cK t.l)], .cells [.int .i64 0, .int .i64 0, .ah]]).length = H.length + 2 := by simp
   refine ag (aay t.l _ (by omega)) ?_
   rintro v G ⟨hC, hG, hl⟩
   rw [xw] at hC hG hl
   obtain ⟨o1, o2, o3, o4⟩ := hC.one
   have g0 : G[H.length]? = some (.cells [.int .i64 t.k, .int .i64 t.n, .aq 0 (cK t.l)]) := by
    have : (G.take (H.length + 2))[H.length]? = G[H.length]? := by rw [List.getElem?_take, if_pos (by omega)]
    rw [← this, hG]; simp
   have g1 : G[H.length + 1]? = some (.cells [.int .i64 0, .int .i64 0, .ah]) := by
    have : (G.take (H.length + 2))[H.length + 1]? = G[H.length + 1]? := by rw [List.getElem?_take, if_pos (by omega)]
    rw [← this, hG]; simp
   have dY : G.take H.length = H := by
    have : G.take H.length = (G.take (H.length + 2)).take H.length := by rw [List.take_take]; congr 1; omega
    rw [this, hG]; simp
   have W8 := hC.aZ (Nat.le_refl _)
   have ER : H.length < G.length := by omega
   have fW : ∀ o, (G.set H.length o)[H.length]? = some o := fun o => List.getElem?_set_self ER
   simp +contextual only [rD, o1, o2, o3, o4, g0, W8, fW, hC.aM, hC.len, sZ, Nat.reduceEqDiff, Nat.reduceAdd, Nat.reduceLT, ↓reduceIte]
   refine lN t.l.length (fun i (G : List aa) => CT (H.length + 2) v t.l G ∧ G[H.length]? = some (.cells [.int .i64 t.k, .int .i64 t.n, v]) ∧ G[H.length + 1]? = some (.cells [.int .i64 0, .int .i64 0, .ah]) ∧ G.take H.length = H)
    (fun i G => [(1, .ptr H.length 0), (2, .ptr (H.length + 1) 0), (10, v), (11, .int .i64 t.l.length), (12, .int .i64 i)]) (fun i G => G) (G.set H.length (.cells [.int .i64 t.k, .int .i64 t.n, v]))
    ⟨⟨hC.set (by omega) _, fW _, by rw [List.getElem?_set_ne (by omega)]; exact g1, by rw [List.take_set_of_le (by omega)]; exact dY⟩, nY _ _ _⟩ fun i G hi hI => ?_
   clear hG g0 g1 dY W8 ER fW hl hC
   obtain ⟨hC, g0, g1, hG⟩ := hI
   by_cases a8 : i < t.l.length
   ·have ms : ((i : Int) < t.l.length) = True := eq_true (by omega)
    obtain ⟨id, cap, bn, rfl, hg, cF⟩ := hC.get a8
    have xw := aN hg
    have Ob : ∀ X, (G ++ X)[id]? = some (bm zT (cK t.l) cap) := fun X => by rw [List.getElem?_append_left xw]; exact hg
    have g0' : ∀ X, (G ++ X)[H.length]? = some (.cells [.int .i64 t.k, .int .i64 t.n, .bg id 0 t.l.length cap]) := fun X => by rw [List.getElem?_append_left (aN g0)]; exact g0
    have hx := sQ (t.l.getD i default)
    have hL : ∀ φ, db (some (bm zT (cK t.l) cap)) (some 3) (i * 3) φ = φ (.agg [.int .i64 (t.l.getD i default).k, .int .i64 (t.l.getD i default).n, .aq 0 (cK (t.l.getD i default).l)]) := fun φ => by rw [← hx]; exact loadT a8 φ
    have hwx : wt (t.l.getD i default) ≤ gI t.l := by
     have := nr a8; have := de t.l (i + 1); omega
    have hcall := ih (t.l.getD i default) (by omega) (by omega)
    rw [hx] at hcall
    have hS := fun {H' : List aa} (hg : H'[id]? = some (bm zT (cK t.l) cap)) {K : List aa → Prop} (hK : K H') => storeT (id := id) a8 hg hK
    rw [hx] at hS
    simp +contextual only [ms, decide_true, kw, hg, hL, g0', sZ, Nat.reduceEqDiff, Nat.reduceAdd, Nat.reduceLT, ↓reduceIte, reduceCtorEq]
    refine ⟨a8, af hcall ?_, af hcall ?_⟩
    all_goals
     simp +contextual only [kw, g0', Ob, sZ, Nat.reduceEqDiff, Nat.reduceAdd, Nat.reduceLT, ↓reduceIte, reduceCtorEq]
     refine ⟨a8, hS (Ob _) ?_⟩
     simp +contextual only [sZ, Nat.reduceEqDiff, ↓reduceIte]
     refine ⟨i + 1, _, ⟨a8, hC.rL _, g0' _, by rw [List.getElem?_append_left (aN g1)]; exact g1, by rw [List.take_append_of_le_length (by have := aN g1; omega)]; exact hG⟩, by omega, zO (by rw [ax i (by omega)]) rfl⟩
   ·have mq : i = t.l.length := by omega
    have ms : ((i : Int) < t.l.length) = False := eq_false (by omega)
    simp +contextual only [rD, ms, decide_false, g0, sZ, Nat.reduceEqDiff, ↓reduceIte]
    have fin : ∀ (G' : List aa), G'[H.length + 1]? = some (.cells [.int .i64 t.k, .int .i64 t.n, .aq 0 (cK t.l)]) → G'.take H.length = H → db G'[H.length + 1]? (some 3) 0 fun v => vr (mf H.length) H.length v G' fun r H' => r = AV.agg [AV.int IntKind.i64 t.k, AV.int IntKind.i64 t.n, AV.aq 0 (cK t.l)] ∧ H' = H := by
     intro G' h1 h2
     rw [h1, Fp]
     exact ⟨H.length, H, Nat.le_refl _, Hl h2 rfl, _, le_refl _, by simp [AV.drop, vh, bM, cW, iP, cR, dX], rfl, rfl⟩
    have ls : ∀ (l : List AV) (G' : List aa), (∀ o, (G'.set (H.length + 1) o).take H.length = G'.take H.length) := fun l G' o => List.take_set_of_le (by omega)
    have tn := aN g1
    rcases hC with ⟨e, rfl⟩ | ⟨id, cap, bn, rfl, hg, cF⟩
    ·rw [e] at fin ⊢
     have e1 : ∀ (K : AV → List aa → Prop), dB 3 AV.ah.drop G K = K (.aq 0 []) G := fun K => rfl
     rw [e1]
     simp +contextual only [rD, g1, sZ, Nat.reduceEqDiff, Nat.reduceAdd, ↓reduceIte, reduceCtorEq]
     exact fin _ (List.getElem?_set_self tn) (by rw [List.take_set_of_le (by omega)]; exact hG)
    ·have e1 : ∀ l c, (AV.bg id 0 l c).drop = .bg id 0 l c := fun _ _ => rfl
     rw [e1]
     have ef := fun K hK => vt (esz := 3) (by decide) KJ (om t.l) (fun x hx => by obtain ⟨y, _, rfl⟩ := FQ hx; rw [sQ]; rfl) hg (by rw [iA]; exact cF) (K := K) hK
     rw [iA] at ef
     refine ef _ ?_
     have g1' : (G.set id .dead)[H.length + 1]? = some (.cells [.int .i64 0, .int .i64 0, .ah]) := by rw [List.getElem?_set_ne (by omega)]; exact g1
     simp +contextual only [rD, g1', sZ, Nat.reduceEqDiff, Nat.reduceAdd, ↓reduceIte, reduceCtorEq]
     exact fin _ (List.getElem?_set_self (by simpa using tn)) (by rw [List.take_set_of_le (by omega), List.take_set_of_le (by omega)]; exact hG)
end Go.aL
end
section
set_option maxRecDepth 100000
namespace Go.aL
open Go Go.Proofs Go.fw
def KN (r : T → T → Bool) (l : List T) : Nat := l.findIdx fun a => l.all fun x => !r a x
def wV (r : T → T → Bool) : Nat → List T → List T
 | 0, _ => []
 | n + 1, l => l.getD (KN r l) default :: wV r n (l.eraseIdx (KN r l))
theorem PN {r : T → T → Prop} (hi : ∀ a, ¬ r a a) (ht : ∀ a b c, r a b → r b c → r a c) : ∀ l : List T, l ≠ [] → ∃ a ∈ l, ∀ x ∈ l, ¬ r a x
 | [], h => absurd rfl h
 | [a], _ => ⟨a, List.mem_cons_self, fun x hx => by rcases List.mem_cons.1 hx with rfl | hx; exact hi _; cases hx⟩
 | a :: b :: l, _ => by
   obtain ⟨m, hm, hl⟩ := PN hi ht (b :: l) (by simp)
   by_cases h : r m a
   ·refine ⟨a, List.mem_cons_self, fun x hx => ?_⟩
    rcases List.mem_cons.1 hx with rfl | hx
    ·exact hi _
    ·exact fun h' => hl x hx (ht _ _ _ h h')
   ·refine ⟨m, List.mem_cons_of_mem _ hm, fun x hx => ?_⟩
    rcases List.mem_cons.1 hx with rfl | hx
    ·exact h
    ·exact hl x hx
noncomputable def xb (s : Sg) (ps ss : List Int) (ts : List T) : List T × Int :=
 if gb s ps ss ts = 0 then if 1000 < ts.length then ([], 2) else (wV (C2 ps ss) ts.length ts, 0) else ([], gb s ps ss ts)
theorem Oe (n : Nat) : da zI n = ints (List.replicate n 0) := by
 induction n with
 | zero => rfl
 | succ n ih =>
   have e : da zI (n + 1) = .int .i64 0 :: da zI n := rfl
   rw [e, ih]; rfl
theorem CL (l : List Int) (cap : Nat) : bm zI (ints l) cap = .cells (ints (l ++ List.replicate (cap - l.length) 0)) := by
 rw [zY, Oe, kR]
theorem W9 {L : List Int} {n id cap : Nat} (hn : n < L.length) (hc : L.length ≤ cap) (hb : L.length ≤ 1000000000) {H : List aa} (hg : H[id]? = some (bm zI (ints L) cap)) :
 au Tryz.prog 105 [.bg id 0 L.length cap, .int .i64 (n : Int), .int .i64 ((n : Int) + 1)] H fun r H' => r = .bg id 0 (L.eraseIdx n).length cap ∧ H' = H.set id (bm zI (ints (L.eraseIdx n)) cap) := by
 have e1 : L = L.take n ++ L.getD n 0 :: L.drop (n + 1) := by
  have : L.getD n 0 = L[n] := by simp [hn]
  rw [this, ← List.drop_eq_getElem_cons hn, List.take_append_drop]
 have e2 : L.eraseIdx n = L.take n ++ L.drop (n + 1) := List.eraseIdx_eq_take_drop_succ ..
 have l1 : (L.take n).length = n := by simp; omega
 have l2 : (L.drop (n + 1)).length = L.length - (n + 1) := by simp
 have hp : (L.take n ++ L.getD n 0 :: L.drop (n + 1) ++ List.replicate (cap - L.length) 0).length = cap := by rw [← e1]; simp; omega
 have Ob : H[id]? = some (.cells (ints (L.take n ++ L.getD n 0 :: L.drop (n + 1) ++ List.replicate (cap - L.length) 0))) := by rw [← e1, ← CL]; exact hg
 have h := aat (L.take n) (L.drop (n + 1)) (List.replicate (cap - L.length) 0) (L.getD n 0) (by rw [← e1]; exact hb) id cap hp.symm Ob
 have el : L.take n ++ L.drop (n + 1) ++ 0 :: List.replicate (cap - L.length) 0 = L.eraseIdx n ++ List.replicate (cap - (L.eraseIdx n).length) 0 := by
  rw [e2]
  congr 1
  rw [List.length_append, l1, l2, show cap - (n + (L.length - (n + 1))) = (cap - L.length) + 1 by omega]
  rfl
 have ll : (L.eraseIdx n).length = (L.take n).length + (L.drop (n + 1)).length := by rw [e2, List.length_append]
 rw [el, l1, l2, show n + 1 + (L.length - (n + 1)) = L.length by omega] at h
 rw [CL, ll, l1, l2]
 rw [ll, l1, l2] at h
 exact h
theorem KO {r : T → T → Bool} {l : List T} {n : Nat} (hn : n < l.length) (h1 : ∀ x ∈ l, r (l.getD n default) x = false) (h2 : ∀ j, j < n → ∃ x ∈ l, r (l.getD j default) x = true) : KN r l = n := by
 unfold KN
 rw [List.findIdx_eq hn]
 refine ⟨?_, fun j hj => ?_⟩
 ·have e : l[n] = l.getD n default := by simp [hn]
  rw [e, List.all_eq_true]
  intro x hx; rw [h1 x hx]; rfl
 ·obtain ⟨x, hx, h⟩ := h2 j hj
  have py : j < l.length := by omega
  have e : l[j] = l.getD j default := by simp [py]
  rw [e, List.all_eq_false]
  exact ⟨x, hx, by rw [h]; simp⟩
theorem v7 {c : Cx} {L : List Int} {n : Nat} (h : n < L.length) : (L.map c.tm).getD n default = c.tm (L.getD n 0) := by simp [h]
theorem FT {Hs G : List aa} {n0 : Nat} {l : List T} {e : Int} {u : AV} (hu : u.ae.le (.aq 0 (cK l))) (hH : Hs.take n0 = G) : bV n0 [.t 6, .t 7] [(6, u), (7, .int .i64 e)] Hs (fun r H' => r = .tuple [.aq 0 (cK l), .int .i64 e] ∧ H' = G) := by
 subst hH
 refine ⟨n0, Nat.le_refl _, [.aq 0 (cK l), .int .i64 e], ?_, by simp [ak, cR, dX, iP], rfl, rfl⟩
 exact ⟨hu, le_refl _, trivial⟩
theorem l8 (vs : List T) : (Ee vs).ae.le (.aq 0 (cK vs)) := by
 cases vs with
 | nil => exact .inr (.inr (.inr (.inl ⟨rfl, 0, rfl⟩)))
 | cons v r => exact le_refl _
theorem Du.S0 {c : Cx} {H : List aa} {n : Nat} (h : Du c (H.take n)) (hn : True) : Du c H := by
 have hg : ∀ {j : Nat} {o : aa}, (H.take n)[j]? = some o → H[j]? = some o := by
  intro j o h
  rw [List.getElem?_take] at h
  split at h
  ·exact h
  ·cases h
 exact ⟨hg h.d, by obtain ⟨m, h1, h2⟩ := h.e; exact ⟨m, hg h1, h2⟩, by obtain ⟨m, h1, h2⟩ := h.g; exact ⟨m, hg h1, h2⟩⟩
theorem c37 (s : Sg) (ps ss : List Int) (ts : List T) (hlen : ts.length < 9223372036854775808) : Pure Tryz.prog 37 [s.av, eE ps ss, .aq 0 (cK ts)] (.tuple [.aq 0 (cK (xb s ps ss ts).1), .int .i64 (xb s ps ss ts).2]) := by
 refine fun H => W7.2.calls rfl ?_
 simp only [W7, aJ]
 obtain ⟨q1, q2, q3, q4, q5, q6⟩ := bh ps ss
 simp +contextual only [aC, q1, q4, cC, sZ, Nat.reduceEqDiff, Nat.reduceAdd, ↓reduceIte, reduceCtorEq]
 refine af (Wu s ps ss ts) ?_
 by_cases h0 : gb s ps ss ts = 0
 ·by_cases LI : 1000 < ts.length
  ·have e : xb s ps ss ts = ([], 2) := by unfold xb; rw [if_pos h0, if_pos LI]
   have dT : ((1000 : Int) < ts.length) = True := eq_true (by omega)
   rw [e]
   simp +contextual only [h0, dT, decide_true, hlen, sZ, Nat.reduceEqDiff, ↓reduceIte, reduceCtorEq]
   exact FT (l8 []) List.take_length
  ·have e : xb s ps ss ts = (wV (C2 ps ss) ts.length ts, 0) := by unfold xb; rw [if_pos h0, if_neg LI]
   have dT : ((1000 : Int) < ts.length) = False := eq_false (by omega)
   rw [e]
   have hr := oe h0
   have hw := lY hr.tree
   simp +contextual only [q4, cC, h0, dT, decide_false, hlen, sZ, Nat.reduceEqDiff, Nat.reduceAdd, ↓reduceIte]
   refine ag (aap ps ss ts H (by omega)) ?_
   rintro r G ⟨va, rfl, hG, hGl, hR⟩
   obtain ⟨o1, o2, o3, o4⟩ := hR.one
   have W8 : ∀ n, G.length ≤ n → va.aZ n = true := fun n hn => hR.aZ hn
   have oQ := W8 (G.length + 2) (by omega)
   have pB : ∀ o o', va.aZ (G ++ [o, o'] : List aa).length = true := fun o o' => W8 _ (by simp)
   have hp1 : (AV.ptr (H.length + 2) 0).aZ (G.length + 1) = true := by rw [rA]; exact decide_eq_true (by omega)
   simp +contextual only [o1, o2, o3, o4, oQ, hp1, sZ, Nat.reduceEqDiff, Nat.reduceAdd, Nat.reduceLT, ↓reduceIte]
   refine ⟨rfl, by decide, ?_⟩
   have hG0 : G.take H.length = H := by
    have : G.take H.length = (G.take (H.length + 3)).take H.length := by rw [List.take_take]; congr 1; omega
    rw [this, hG]; simp
   rcases hR with ⟨e1, rfl⟩ | ⟨id, cap, bn, rfl, hg, cF, ep⟩
   ·have e2 : ts = [] := by
     have := cu ts 0
     have h3 : aU ts 0 = [] := List.map_eq_nil_iff.1 e1
     rw [h3] at this
     exact List.length_eq_zero_iff.1 this.symm
    subst e2
    refine aO 0 (fun _ _ => True) (fun i (p : Unit) => [(9, .ptr G.length 0), (10, .ptr (G.length + 1) 0), (11, .ah)]) (fun i p => G ++ [.cells [.ptr (H.length + 2) 0], .cells [.ah]]) () ⟨trivial, aH rfl ?_⟩ fun i p hi hI => ?_
    ·rfl
    ·simp +contextual only [sZ, Nat.reduceEqDiff, Nat.reduceAdd, Nat.reduceLT, ↓reduceIte, reduceCtorEq, Int.reduceLT]
     exact FT (l8 []) (by rw [List.take_append_of_le_length (by omega)]; exact hG0)
   ·have P6 : ts ≠ [] := fun e => ep (by rw [e]; rfl)
    have aaA : id < G.length := aN hg
    obtain ⟨c, ec⟩ : ∃ c, c = fZ ps ss ts H.length := ⟨_, rfl⟩
    have hc : c.Ok := by rw [ec]; exact hr.cx P6 (by omega) H.length
    have cO : c.O = jO ps ss := by rw [ec]; rfl
    have cd : c.d = H.length + 2 := by rw [ec]; rfl
    have ce : c.e = H.length := by rw [ec]; rfl
    have cg : c.g = H.length + 1 := by rw [ec]; rfl
    have hD0 : Du c (G ++ [.cells [.ptr (H.length + 2) 0], .cells [.bg id 0 (aU ts 0).length cap]]) := by
     have h1 := yh ps ss P6 H
     rw [← ec, ← hG] at h1
     exact Du.rL (h1.S0 trivial) _
    obtain ⟨k1, k2⟩ := (NU ts).kids
    have Xa : (aU ts 0).map c.tm = ts := by rw [ec]; exact k1
    have aaB : ∀ x ∈ aU ts 0, c.dF x := by rw [ec]; exact k2
    rw [aw] at *
    have EU := cu ts 0
    refine aO ts.length (fun j (p : List Int × List T × List aa) => j + p.1.length = ts.length ∧ (∀ x ∈ p.1, c.dF x) ∧ wV (C2 ps ss) ts.length ts = p.2.1 ++ wV (C2 ps ss) p.1.length (p.1.map c.tm) ∧ p.2.1.length = j ∧ Du c p.2.2 ∧
     p.2.2[G.length]? = some (.cells [.ptr c.d 0]) ∧ p.2.2[G.length + 1]? = some (.cells [.bg id 0 p.1.length cap]) ∧ p.2.2[id]? = some (bm zI (ints p.1) cap) ∧ p.2.2.take H.length = H ∧ p.1.length ≤ cap ∧ ∀ x ∈ p.1, c.tm x ∈ ts)
     (fun i p => [(9, .ptr G.length 0), (10, .ptr (G.length + 1) 0), (11, Ee p.2.1)]) (fun i p => p.2.2) (aU ts 0, [], G ++ [.cells [.ptr (H.length + 2) 0], .cells [.bg id 0 (aU ts 0).length cap]])
     ⟨⟨by simp [EU], aaB, by rw [Xa, EU]; rfl, rfl, hD0, by rw [cd]; simp, by simp, by rw [List.getElem?_append_left aaA]; exact hg, by rw [List.take_append_of_le_length (by omega)]; exact hG0, cF, fun x hx => by rw [← Xa]; exact List.mem_map_of_mem hx⟩, aH rfl rfl⟩ fun j p hj hI => ?_
    obtain ⟨L, out, F⟩ := p
    obtain ⟨i1, i2, i3, i4, i5, i6, i7, i8, i9, i10, i11⟩ := hI
    simp only at i1 i2 i3 i4 i5 i6 i7 i8 i9 i10 i11
    have Lf : L.length ≤ 1000 := by omega
    by_cases hL : L = []
    ·have hz : ((0 : Int) < (L.length : Int)) = False := eq_false (by rw [hL]; simp)
     have XL : (Ee out).ae.ae = (Ee out).ae := by cases out <;> rfl
     simp +contextual only [i7, hz, decide_false, XL, sZ, Nat.reduceEqDiff, Nat.reduceAdd, Nat.reduceLT, ↓reduceIte, reduceCtorEq]
     have e2 : wV (C2 ps ss) ts.length ts = out := by rw [i3, hL]; simp [wV]
     rw [e2]
     exact FT (by rw [XL]; exact l8 out) i9
    ·have mn := List.length_pos_iff.2 hL
     have hz : ((0 : Int) < (L.length : Int)) = True := eq_true (by omega)
     simp +contextual only [i7, hz, decide_true, sZ, Nat.reduceEqDiff, Nat.reduceAdd, Nat.reduceLT, ↓reduceIte, reduceCtorEq]
     refine ag (PL (Q := fun i => ¬ ∃ x ∈ L, R c.O (c.tm i) (c.tm x)) (SG.len c F) (fun G' dY => by rw [dY.2.get id (by omega) (by omega), i8]) i10 (by omega) 101 [] [.ptr (G.length + 1) 0, .ptr G.length 0] rfl rfl
      (fun x hx H' hH' => aav hc (i2 x hx) i2 i10 (by omega) i6 (by omega) (by omega) i7 (by omega) (by omega) i8 (by omega) (by omega) H' hH') ⟨i5, Up.refl c F⟩) ?_
     rintro r F1 ⟨⟨mA, X6⟩, hq⟩
     have P5 : ∃ n : Nat, r = .int .i64 n ∧ n < L.length ∧ (¬ ∃ x ∈ L, R c.O (c.tm (L.getD n 0)) (c.tm x)) ∧ ∀ j, j < n → ∃ x ∈ L, R c.O (c.tm (L.getD j 0)) (c.tm x) := by
      rcases hq with ⟨_, hq⟩ | ⟨n, h1, h2, h3, h4⟩
      ·exfalso
       obtain ⟨m, hm, h1⟩ := PN (r := fun a b => R c.O a b) (fun a => V1 rfl) (fun a b d h h' => NN h h') (L.map c.tm) (by simpa using hL)
       obtain ⟨x, hx, rfl⟩ := List.mem_map.1 hm
       refine hq x hx fun ⟨y, hy, h⟩ => h1 _ (List.mem_map_of_mem hy) h
      ·exact ⟨n, h1, h2, h3, fun j hj => Classical.not_not.1 (h4 j hj)⟩
     obtain ⟨n, rfl, hn, h1, h2⟩ := P5
     have j7 : F1[G.length + 1]? = some (.cells [.bg id 0 L.length cap]) := by rw [X6.get _ (by omega) (by omega), i7]
     have j6 : F1[G.length]? = some (.cells [.ptr c.d 0]) := by rw [X6.get _ (by omega) (by omega), i6]
     have j8 : F1[id]? = some (bm zI (ints L) cap) := by rw [X6.get _ (by omega) (by omega), i8]
     have j9 : F1.take H.length = H := by
      refine Eq.trans ?_ i9
      apply List.ext_getElem?
      intro k
      rw [List.getElem?_take, List.getElem?_take]
      by_cases hk : k < H.length
      ·rw [if_pos hk, if_pos hk]; exact X6.get _ (by omega) (by omega)
      ·rw [if_neg hk, if_neg hk]
     have HQ : KN (C2 ps ss) (L.map c.tm) = n := by
      refine KO (by simpa using hn) (fun x hx => ?_) fun j hj => ?_
      ·obtain ⟨y, hy, rfl⟩ := List.mem_map.1 hx
       rw [v7 hn]
       cases hb : C2 ps ss (c.tm (L.getD n 0)) (c.tm y) with
       | false => rfl
       | true => exact absurd ⟨y, hy, by rw [cO]; exact og.1 hb⟩ h1
      ·obtain ⟨y, hy, h⟩ := h2 j hj
       rw [v7 (by omega)]
       exact ⟨_, List.mem_map_of_mem hy, og.2 (by rw [← cO]; exact h)⟩
     have hxN := i2 _ (aP hn)
     have iD : c.nd.length ≤ 2000000 := by
      have : c.nd = cS ts 0 := by rw [ec]; rfl
      rw [this, gD]; omega
     simp +contextual only [j7, j6, j8, mA.d, lV, Ze, cv, kw, FD hn, sZ, Nat.reduceEqDiff, Nat.reduceAdd, Nat.reduceLT, ↓reduceIte, reduceCtorEq]
     have htree := hr.tree _ (i11 _ (aP hn))
     have hwx : wt (c.tm (L.getD n 0)) ≤ 2000 := by
      have := ((T.kM _).1 htree).1; have := Kk (c.tm (L.getD n 0)); omega
     have Xb : Pure Tryz.prog 104 [(c.nd.getD (L.getD n 0).toNat default).fst.av] (c.tm (L.getD n 0)).av := aaz _ (c.tm (L.getD n 0)) (Nat.le_refl _) (by omega)
     have Kj := W9 hn i10 (by omega) j8
     have jL : (L.eraseIdx n).length = L.length - 1 := List.length_eraseIdx_of_lt hn
     refine ⟨hn, hxN, af Xb ?_, af Xb ?_⟩
     all_goals
      simp +contextual only [NI, Hp, j7, sZ, Nat.reduceEqDiff, Nat.reduceAdd, Nat.reduceLT, ↓reduceIte, reduceCtorEq]
      refine ⟨by omega, ?_⟩
      rw [dG _ (by omega)]
      refine ag Kj ?_
      rintro r F2 ⟨rfl, rfl⟩
      have m7 : (F1.set id (bm zI (ints (L.eraseIdx n)) cap))[G.length + 1]? = some (.cells [.bg id 0 L.length cap]) := by rw [List.getElem?_set_ne (by omega)]; exact j7
      have nG : (AV.bg id 0 (L.eraseIdx n).length cap).aZ (G.length + 1 + 1) = true := by rw [jE]; exact decide_eq_true (by omega)
      have r1 : ∀ l, (AV.bg id 0 l cap).one = true ∧ (AV.bg id 0 l cap).val = true ∧ (AV.bg id 0 l cap).ae = .bg id 0 l cap ∧ (AV.bg id 0 l cap).cells = [.bg id 0 l cap] := fun _ => ⟨rfl, rfl, rfl, rfl⟩
      obtain ⟨u1, u2, u3, u4⟩ := r1 (L.eraseIdx n).length
      simp +contextual only [m7, nG, u1, u2, u3, u4, sZ, Nat.reduceEqDiff, Nat.reduceAdd, ↓reduceIte]
      refine ⟨j + 1, (L.eraseIdx n, out ++ [c.tm (L.getD n 0)], _), ⟨by omega, by show j + 1 + (L.eraseIdx n).length = _; omega, fun x hx => i2 x (List.mem_of_mem_eraseIdx hx), ?_, by simp [i4], ?_, ?_, ?_, ?_, ?_, by show (L.eraseIdx n).length ≤ cap; omega, fun x hx => i11 x (List.mem_of_mem_eraseIdx hx)⟩, by omega, aH rfl rfl⟩
      ·have hs : L.length = (L.eraseIdx n).length + 1 := by omega
       rw [i3, hs, wV, HQ, v7 hn, List.append_assoc]
       have em : (L.map c.tm).eraseIdx n = (L.eraseIdx n).map c.tm := by rw [List.eraseIdx_eq_take_drop_succ, List.eraseIdx_eq_take_drop_succ, List.map_append, List.map_take, List.map_drop]
       rw [em]; rfl
      ·exact (mA.set (by omega) (by omega) (by omega)).set (by omega) (by omega) (by omega)
      ·rw [List.getElem?_set_ne (by omega), List.getElem?_set_ne (by omega)]; exact j6
      ·rw [List.getElem?_set_self (by have := aN j7; simp; omega)]
      ·rw [List.getElem?_set_ne (by omega), List.getElem?_set_self (aN j8)]
      ·rw [List.take_set_of_le (by omega), List.take_set_of_le (by omega)]; exact j9
 ·have e : xb s ps ss ts = ([], gb s ps ss ts) := by unfold xb; rw [if_neg h0]
  rw [e]
  simp +contextual only [h0, sZ, Nat.reduceEqDiff, ↓reduceIte, reduceCtorEq]
  exact FT (l8 []) List.take_length
end Go.aL
end
section
set_option maxRecDepth 1000000
namespace Go.aL
open Go Go.Proofs Go.fw
def vT (n : Int) : T := .mk 1 n []
def oT (n : Int) (l : List T) : T := .mk 2 n l
def fF : Sg := ⟨[⟨#[78]⟩], [⟨⟨#[122]⟩, [], 0⟩, ⟨⟨#[115]⟩, [0], 0⟩, ⟨⟨#[97, 100, 100]⟩, [0, 0], 0⟩]⟩
def Xc : mD := ⟨[0], [], oT 2 [vT 0, oT 0 []], vT 0⟩
def cp : mD := ⟨[0, 0], [], oT 2 [vT 0, oT 1 [vT 1]], oT 1 [oT 2 [vT 0, vT 1]]⟩
def cL : Ty := ⟨fF, [Xc, cp]⟩
theorem Of : oH Tryz.prog Qw (dm Tryz.prog Qw 100000) false 64 [] [] = some (cL.av, []) := by kernel_rfl
theorem Ap : oH Tryz.prog Qw (dm Tryz.prog Qw 100000) false 62 [cL.av] [] = some (.int .i64 0, []) := by kernel_rfl
theorem ED : oH Tryz.prog Qw (dm Tryz.prog Qw 100000) false 92 [cL.av] [] = some (.aq 0 (ints [0, 1, 2]), []) := by kernel_rfl
theorem c64 : Pure Tryz.prog 64 [] cL.av := Pure.mk rfl ((tN ry (zw ry 100000)).1 _ _ _ _ _ Of)
theorem Aq : Pure Tryz.prog 62 [cL.av] (.int .i64 0) := Pure.mk rfl ((tN ry (zw ry 100000)).1 _ _ _ _ _ Ap)
theorem S1 : Pure Tryz.prog 92 [cL.av] (.aq 0 (ints [0, 1, 2])) := Pure.mk rfl ((tN ry (zw ry 100000)).1 _ _ _ _ _ ED)
end Go.aL
end
section
set_option maxRecDepth 100000
namespace Go.aL
open Go Go.Proofs Go.fw
theorem c66 {a b : List Int} {va vb : AV} (ha : IL va a) (hb : IL vb b) (la : a.length ≤ 1000000000) (lb : b.length ≤ 1000000000) : Pure Tryz.prog 66 [va, vb] (.bool (decide (a = b))) := by
 refine fun H => k66.2.calls rfl ?_
 simp only [k66, aJ]
 obtain ⟨a1, a2, a3, a4⟩ := ha.one
 obtain ⟨b1, b2, b3, b4⟩ := hb.one
 simp +contextual only [a2, b2, ha.aM, hb.aM, ha.len (by omega), hb.len (by omega), sZ, Nat.reduceEqDiff, Nat.reduceAdd, ↓reduceIte, reduceCtorEq]
 refine ⟨fun ep => a9 rfl (by rw [decide_eq_false (fun e => ep (by rw [e]))]), fun Zf => ?_⟩
 refine aD a.length (fun i => ∀ j, j < i → a.getD j 0 = b.getD j 0)
  (fun i => [(0, va), (1, vb), (12, .int .i64 b.length), (13, .int .i64 i)]) (fun i => H) ⟨fun j hj => by omega, aB _ _ _⟩ fun i hi hI => ?_
 simp +contextual only [a2, b2, ha.lens, hb.lens, ha.idx, hb.idx, Int.toNat_natCast, sZ, Nat.reduceEqDiff, ↓reduceIte, reduceCtorEq]
 refine ⟨fun a8 => ⟨by omega, by omega, fun ep => ?_, fun he => ?_⟩, fun jL => ?_⟩
 ·refine a9 rfl (by rw [decide_eq_false (fun e => ep (by rw [e]))])
 ·refine ⟨i + 1, ⟨by omega, fun j hj => ?_⟩, by omega, aH (by rw [ax i (by omega)]) rfl⟩
  by_cases h : j = i
  ·subst h; exact he
  ·exact hI j (by omega)
 ·refine a9 rfl (by rw [decide_eq_true (ye (by omega) fun j hj => hI j (by omega))])
noncomputable def pv (e : Int) (t : Ty) (ps ss : List Int) : Int × Bool × Int :=
 if e ≠ 0 then (0, false, e) else if iS t.s ps ss ≠ 0 then (0, false, iS t.s ps ss) else (max (qI t ps ss) 0, decide (0 ≤ qI t ps ss), 0)
def EE (p : Int × Bool × Int) : AV := .tuple [.int .i64 p.1, .bool p.2.1, .int .i64 p.2.2]
theorem c31 {t : Ty} {e : Int} (Xd : Pure Tryz.prog 62 [t.av] (.int .i64 e)) (ht : e = 0 → Ao t) (ps ss : List Int) : Pure Tryz.prog 31 [t.av, eE ps ss] (EE (pv e t ps ss)) := by
 refine fun H => k31.2.calls rfl ?_
 simp only [k31, aJ]
 obtain ⟨q1, q2, q3, q4, q5, q6⟩ := bh ps ss
 obtain ⟨e1, e2, e3, e4, e5, e6⟩ := Ty.facts t
 simp +contextual only [q1, e1, e4, mi, sZ, Nat.reduceEqDiff, Nat.reduceAdd, ↓reduceIte, reduceCtorEq]
 refine af Xd ?_
 by_cases h0 : e = 0
 ·subst h0
  simp +contextual only [aC, q4, cC, KB, sZ, Nat.reduceEqDiff, Nat.reduceAdd, ↓reduceIte]
  refine af (ZK t.s ps ss) ?_
  by_cases h1 : iS t.s ps ss = 0
  ·have hv := (vK.1 h1).2
   simp +contextual only [h1, q4, e4, cC, mi, sZ, Nat.reduceEqDiff, Nat.reduceAdd, ↓reduceIte]
   refine af (c89 t ps ss hv.va fun q hq => (ht rfl).eq q hq ps hv.1) ?_
   simp +contextual only [sZ, Nat.reduceEqDiff, ↓reduceIte, reduceCtorEq]
   have e0 : pv 0 t ps ss = (max (qI t ps ss) 0, decide (0 ≤ qI t ps ss), 0) := by unfold pv; rw [if_neg (by simp), if_neg (by simp [h1])]
   rw [e0]
   exact yf (by decide) List.take_length ⟨rfl, rfl, rfl⟩ rfl rfl rfl ⟨rfl, rfl⟩
  ·have e0 : pv 0 t ps ss = (0, false, iS t.s ps ss) := by unfold pv; rw [if_neg (by simp), if_pos h1]
   rw [e0]
   simp +contextual only [h1, sZ, Nat.reduceEqDiff, ↓reduceIte, reduceCtorEq]
   exact yf (by decide) List.take_length ⟨rfl, rfl, rfl⟩ rfl rfl rfl ⟨rfl, rfl⟩
 ·have e0 : pv e t ps ss = (0, false, e) := by unfold pv; rw [if_pos h0]
  rw [e0]
  simp +contextual only [h0, sZ, Nat.reduceEqDiff, ↓reduceIte, reduceCtorEq]
  exact yf (by decide) List.take_length ⟨rfl, rfl, rfl⟩ rfl rfl rfl ⟨rfl, rfl⟩
noncomputable def Og (e : Int) (t : Ty) (ps ss : List Int) : Int := if (pv e t ps ss).2.2 = 0 ∧ (pv e t ps ss).2.1 = true then 60 else (pv e t ps ss).2.2
theorem EF (p : Int × Bool × Int) (φ : AV → Prop) : bD (EE p) 0 φ = φ (.int .i64 p.1) ∧ bD (EE p) 1 φ = φ (.bool p.2.1) ∧ bD (EE p) 2 φ = φ (.int .i64 p.2.2) := by simp [EE, bD, m8, nU]
theorem FU (p : Int × Bool × Int) : (EE p).ae = EE p := rfl
theorem c33 {t : Ty} {e : Int} (Xd : Pure Tryz.prog 62 [t.av] (.int .i64 e)) (ht : e = 0 → Ao t) (ps ss : List Int) : Pure Tryz.prog 33 [t.av, eE ps ss] (.int .i64 (Og e t ps ss)) := by
 refine fun H => k33.2.calls rfl ?_
 simp only [k33, aJ]
 obtain ⟨q1, q2, q3, q4, q5, q6⟩ := bh ps ss
 obtain ⟨e1, e2, e3, e4, e5, e6⟩ := Ty.facts t
 simp +contextual only [q1, q4, e1, e4, cC, mi, sZ, Nat.reduceEqDiff, Nat.reduceAdd, ↓reduceIte, reduceCtorEq]
 refine af (c31 Xd ht ps ss) ?_
 unfold Og
 generalize pv e t ps ss = p
 have x1 := fun φ => (EF p φ).1
 have x2 := fun φ => (EF p φ).2.1
 have x3 := fun φ => (EF p φ).2.2
 obtain ⟨n, b, m⟩ := p
 simp only at x1 x2 x3
 by_cases h0 : m = 0
 ·subst h0
  cases b <;>
  simp +contextual only [x1, x2, x3, FU, sZ, Nat.reduceEqDiff, ↓reduceIte, reduceCtorEq] <;>
  exact a9 rfl rfl
 ·have hm : (m = 0) = False := eq_false h0
  simp +contextual only [x1, x2, x3, FU, hm, decide_false, sZ, Nat.reduceEqDiff, ↓reduceIte, reduceCtorEq]
  exact a9 rfl (by simp [h0])
theorem KP {H e : List aa} {u v w x y z : AV} (hb : x.aZ H.length = true ∧ y.aZ H.length = true ∧ z.aZ H.length = true) (hx : u.ae = x) (hy : v.ae = y) (hz : w.ae = z) : sP H.length [u, v, w] (H ++ e) fun r H' => r = .tuple [x, y, z] ∧ H' = H := by
 subst hx; subst hy; subst hz
 exact ⟨H.length, Nat.le_refl _, _, ca _, by show ak _ [u.ae, v.ae, w.ae] = true; rw [bM, bM, bM, cW, hb.1, hb.2.1, hb.2.2]; rfl, rfl, by simp⟩
theorem HL (f : Fo) : ∃ P S, foA f = eE P S := by
 cases f with
 | none => exact ⟨_, _, rfl⟩
 | some p => exact ⟨_, _, rfl⟩
noncomputable def KQ (e : Int) (t : Ty) (ops : List Int) : Fo × Int := if e ≠ 0 then (none, e) else if 4 < ops.length then (none, 2) else (w9 t ops, 0)
theorem c35 {t : Ty} {e : Int} {ops : List Int} (Xd : Pure Tryz.prog 62 [t.av] (.int .i64 e)) (h92 : e = 0 → Pure Tryz.prog 92 [t.av] (.aq 0 (ints ops))) (ht : e = 0 → Ao t) (hr : e = 0 → ∀ i ∈ ops, 0 ≤ i ∧ i < t.s.ops.length) (hl : ops.length ≤ 1000000) :
 Pure Tryz.prog 35 [t.av] (.tuple [foA (KQ e t ops).1, .bool (KQ e t ops).1.isSome, .int .i64 (KQ e t ops).2]) := by
 refine fun H => k35.2.calls rfl ?_
 simp only [k35, aJ]
 obtain ⟨e1, e2, e3, e4, e5, e6⟩ := Ty.facts t
 have zf2 : List.map AV.ae [AV.ah, .ah] = [.ah, .ah] := rfl
 have zb2 : ∀ n, ak n [AV.ah, .ah] = true := fun _ => rfl
 simp +contextual only [e1, e4, mi, zf2, zb2, sZ, Nat.reduceEqDiff, Nat.reduceAdd, ↓reduceIte]
 refine af Xd ?_
 have gz : (H ++ [aa.cells [AV.ah, .ah]])[H.length]? = some (.cells [.ah, .ah]) := by simp
 by_cases h0 : e = 0
 ·subst h0
  simp +contextual only [e4, mi, sZ, Nat.reduceEqDiff, Nat.reduceAdd, ↓reduceIte]
  refine af (h92 rfl) ?_
  by_cases h4 : 4 < ops.length
  ·have h4' : ((4 : Int) < ops.length) = True := eq_true (by omega)
   have e0 : KQ 0 t ops = (none, 2) := by unfold KQ; rw [if_neg (by simp), if_pos h4]
   rw [e0]
   have sp2 : ∀ (a b x y : AV), ai [a, b] 0 [x, y] = [x, y] := fun _ _ _ _ => rfl
   simp +contextual only [zf2, zb2, aw, h4', decide_true, gz, kY, sp2, sZ, Nat.reduceEqDiff, Nat.reduceAdd, ↓reduceIte, reduceCtorEq]
   exact fun _ => KP ⟨rfl, rfl, rfl⟩ rfl rfl rfl
  ·have h4' : ((4 : Int) < ops.length) = False := eq_false (by omega)
   have e0 : KQ 0 t ops = (w9 t ops, 0) := by unfold KQ; rw [if_neg (by simp), if_neg h4]
   rw [e0]
   simp +contextual only [e4, mi, aw, h4', decide_false, sZ, Nat.reduceEqDiff, Nat.reduceAdd, ↓reduceIte]
   intro hl9
   refine af (c93 (ht rfl) (.inr rfl) (hr rfl) hl) ?_
   generalize w9 t ops = f
   obtain ⟨P, S, ef⟩ := HL f
   obtain ⟨q1, q2, q3, q4, q5, q6⟩ := bh P S
   rw [ef]
   have zo : (eE P S).cells = [.aq 0 (ints P), .aq 0 (ints S)] := rfl
   have sp2 : ∀ (a b x y : AV), ai [a, b] 0 [x, y] = [x, y] := fun _ _ _ _ => rfl
   simp +contextual only [gz, q1, q4, kY, zo, sp2, cC, bj, sZ, Nat.reduceEqDiff, Nat.reduceAdd, Nat.reduceLT, ↓reduceIte, reduceCtorEq]
   exact KP ⟨q6 _, rfl, rfl⟩ rfl rfl rfl
 ·have hm : (e = 0) = False := eq_false h0
  have e0 : KQ e t ops = (none, e) := by unfold KQ; rw [if_pos h0]
  rw [e0]
  have sp2 : ∀ (a b x y : AV), ai [a, b] 0 [x, y] = [x, y] := fun _ _ _ _ => rfl
  simp +contextual only [zf2, zb2, hm, gz, kY, sp2, sZ, Nat.reduceEqDiff, Nat.reduceAdd, ↓reduceIte, reduceCtorEq]
  exact KP ⟨rfl, rfl, rfl⟩ rfl rfl rfl
end Go.aL
end
section
namespace Go.aL
open Go Go.Proofs Go.fw
end Go.aL
end
section
namespace Go.fw
open Go.aL
def PO {G : T → T → Prop} [h : ∀ x y, Decidable (G x y)] : ∀ l m, Decidable (Lx G l m)
 | [], _ => isFalse (fun h => h)
 | _ :: _, [] => isTrue trivial
 | x :: l, y :: m => @instDecidableOr _ _ (@instDecidableAnd _ _ inferInstance (PO l m)) (h x y)
def Xe {G : T → T → Prop} [h : ∀ x y, Decidable (G x y)] (l m : List T) : Decidable (Mu G l m) := by unfold Mu; exact inferInstance
def Xf {sp : Int → Int} {G : T → T → Prop} [h : ∀ x y, Decidable (G x y)] (a b : T) : Decidable (Fm sp G a b) := by
 unfold Fm
 have := @PO G h
 have := @Xe G h
 exact inferInstance
def KR (sp : Int → Int) : ∀ (f : Nat) (a b : T), Decidable (Lt sp f a b)
 | 0, _, _ => isFalse (fun h => h)
 | f + 1, a, b => @Xf sp (Lt sp f) (KR sp f) a b
instance Xg (sp : Int → Int) (a b : T) : Decidable (Gt sp a b) := KR sp (wt a + wt b) a b
instance Xh (O : Od) (a b : T) : Decidable (R O a b) := Xg O.sp (norm O a) (norm O b)
instance Xi (O : Od) (a b : T) : Decidable (E O a b) := inferInstanceAs (Decidable (norm O a = norm O b))
end Go.fw
end
section
namespace Go.aL
open Go Go.Proofs Go.fw
mutual
def CM (n : Nat) : T → Bool
 | .mk k m l => (!decide (k = 2) || (decide (0 ≤ m) && decide (m < n))) && Ar n l
def Ar (n : Nat) : List T → Bool
 | [] => true
 | x :: r => CM n x && Ar n r
end
mutual
theorem FV {n : Nat} : ∀ {t : T}, CM n t = true → pD (fun m => 0 ≤ m ∧ m < n) t
 | .mk k m l, h => by
   simp only [CM, Bool.and_eq_true, Bool.or_eq_true, Bool.not_eq_true', decide_eq_false_iff_not, decide_eq_true_eq] at h
   exact .mk k m l (fun hk => h.1.resolve_left fun hn => hn hk) (CN h.2)
theorem CN {n : Nat} : ∀ {l : List T}, Ar n l = true → ∀ x ∈ l, pD (fun m => 0 ≤ m ∧ m < n) x
 | [], _ => fun x hx => by cases hx
 | y :: r, h => by
   simp only [Ar, Bool.and_eq_true] at h
   have h1 := FV h.1
   have h2 := CN h.2
   intro x hx
   rcases List.mem_cons.1 hx with rfl | hx
   ·exact h1
   ·exact h2 x hx
end
def CO (ps ss : List Int) (a b : T) : Bool := match Xh (jO ps ss) a b with | .isTrue _ => true | .isFalse _ => false
theorem As {ps ss : List Int} {a b : T} : CO ps ss a b = true ↔ R (jO ps ss) a b := by
 unfold CO
 cases Xh (jO ps ss) a b with
 | isTrue h => simp [h]
 | isFalse h => simp [h]
end Go.aL
end
section
set_option maxRecDepth 1000000
namespace Go.aL
open Go Go.Proofs Go.fw
theorem At (ps ss : List Int) (a b : T) : C2 ps ss a b = CO ps ss a b := by rw [Bool.eq_iff_iff, og, As]
def FW (ps ss : List Int) (a b : T) : Bool := match Xi (jO ps ss) a b with | .isTrue _ => true | .isFalse _ => false
theorem FX (ps ss : List Int) (a b : T) : SH ps ss a b = FW ps ss a b := by
 rw [Bool.eq_iff_iff, tY]
 unfold FW
 cases Xi (jO ps ss) a b with
 | isTrue h => simp [h]
 | isFalse h => simp [h]
def S2 (s : Sg) (ps ss : List Int) : Bool := decide (ps.length = s.ops.length) && (decide (ss.length = s.ops.length) && ((List.range ps.length).all (fun j => decide (0 ≤ ps.getD j 0 ∧ ps.getD j 0 ≤ 255 ∧ 1 ≤ ss.getD j 0 ∧ ss.getD j 0 ≤ 3)) && (List.range ps.length).all fun j => (List.range ps.length).all fun k => !decide (ps.getD j 0 = ps.getD k 0) || decide (ss.getD j 0 = ss.getD k 0)))
theorem KS {s : Sg} {ps ss : List Int} : S2 s ps ss = true ↔ dP s ps ss := by
 simp only [S2, Bool.and_eq_true, decide_eq_true_eq, List.all_eq_true, List.mem_range, Bool.or_eq_true, Bool.not_eq_true', decide_eq_false_iff_not]
 constructor
 ·rintro ⟨h1, h2, h3, h4⟩
  exact ⟨h1, h2, h3, fun j k hj hk he => (h4 j hj k hk).resolve_left fun hn => hn he⟩
 ·rintro ⟨h1, h2, h3, h4⟩
  refine ⟨h1, h2, h3, fun j hj k hk => ?_⟩
  by_cases h : ps.getD j 0 = ps.getD k 0
  ·exact .inr (h4 j k hj hk h)
  ·exact .inl h
def v8 (s : Sg) (ps ss : List Int) : Int := if nv s = true then (if S2 s ps ss = true then 0 else 60) else 40
theorem qJ (s : Sg) (ps ss : List Int) : iS s ps ss = v8 s ps ss := by
 unfold iS v8
 by_cases h : dP s ps ss
 ·rw [if_pos h, if_pos (KS.2 h)]
 ·rw [if_neg h, if_neg (fun k => h (KS.1 k))]
def v9 (s : Sg) (ps ss : List Int) (l : List T) : Int := if v8 s ps ss = 0 then (if (l.all fun t => t.tree && nw s t) = true then 0 else 4) else v8 s ps ss
theorem iB (s : Sg) (ps ss : List Int) (l : List T) : gb s ps ss l = v9 s ps ss l := by unfold gb v9; rw [qJ]
def KT (ps ss : List Int) (e : mD) : Bool := e.rest.all fun y => CO ps ss e.a y
theorem KU (ps ss : List Int) (e : mD) : w8 ps ss e = KT ps ss e := by
 rw [Bool.eq_iff_iff]
 simp only [w8, N0, KT, List.all_eq_true, As]
 exact @decide_eq_true_iff _ (Classical.propDecidable _)
def wa (t : Ty) (ps ss : List Int) : Int := pq (fun e => !KT ps ss e) t.es 0
theorem rZ (t : Ty) (ps ss : List Int) : qI t ps ss = wa t ps ss := by
 unfold qI wa
 congr 1
 funext e
 rw [KU]
def EG (t : Ty) (ops pl st : List Int) : Bool := decide (v8 t.s (pr t.s.ops.length ops pl) (rX t.s.ops.length ops st) = 0) && decide (wa t (pr t.s.ops.length ops pl) (rX t.s.ops.length ops st) < 0)
theorem HM (t : Ty) (ops pl st : List Int) : vV t ops pl st = EG t ops pl st := by
 unfold vV EG
 rw [qJ, rZ, Bool.eq_iff_iff]
 simp
def EH (t : Ty) (ops pl : List Int) (s : Fo) (st : List Int) : Fo × Bool := if EG t ops pl st = true then (some (pr t.s.ops.length ops pl, rX t.s.ops.length ops st), false) else (s, true)
def EI (t : Ty) (ops : List Int) (s : Fo) (pl : List Int) : Fo × Bool := if nC pl = true then eH (EH t ops pl) (gY (df 1 3) ops.length) s else (s, true)
def KV (t : Ty) (ops : List Int) : Fo := (eH (EI t ops) (gY (df 0 ops.length) ops.length) none).1
theorem KW (t : Ty) (ops : List Int) : w9 t ops = KV t ops := by
 have h1 : dn t ops = EH t ops := by funext pl s st; unfold dn EH; rw [HM]
 have h2 : eR t ops = EI t ops := by funext s pl; unfold eR EI; rw [h1]
 unfold w9 KV; rw [h2]
def fG : List Int := [0, 0, 1]
def mB : List Int := [1, 1, 1]
def stM : List Int := [1, 1, 3]
def CP : List Int := [0, 0, 0]
theorem S3 : v9 fF fG mB [cp.a, cp.b] = 0 := by kernel_rfl
theorem Xj : v9 fF fG mB [cp.b, cp.a] = 0 := by kernel_rfl
theorem gr1 : CO fG mB cp.a cp.b = true := by kernel_rfl
theorem gr2 : CO fG mB cp.b cp.a = false := by kernel_rfl
theorem aaD : v9 fF fG stM [oT 2 [vT 0, vT 1], oT 2 [vT 1, vT 0]] = 0 := by kernel_rfl
theorem aaE : v9 fF fG mB [oT 2 [vT 0, vT 1], oT 2 [vT 1, vT 0]] = 0 := by kernel_rfl
theorem eq1 : FW fG stM (oT 2 [vT 0, vT 1]) (oT 2 [vT 1, vT 0]) = true := by kernel_rfl
theorem eq2 : FW fG mB (oT 2 [vT 0, vT 1]) (oT 2 [vT 1, vT 0]) = false := by kernel_rfl
theorem aaF : v8 fF fG mB = 0 := by kernel_rfl
theorem aaG : v8 fF CP mB = 0 := by kernel_rfl
theorem Xk : wa cL fG mB = -1 := by kernel_rfl
theorem Xl : wa cL CP mB = 1 := by kernel_rfl
theorem aaH : KV cL [0, 1, 2] = some (fG, mB) := by kernel_rfl
def yy : List T := [oT 1 [oT 0 []], vT 0, oT 0 [], oT 2 [oT 0 [], oT 0 []]]
theorem aaI : v9 fF fG mB yy = 0 := by kernel_rfl
theorem aaJ : wV (CO fG mB) 4 yy = [vT 0, oT 0 [], oT 1 [oT 0 []], oT 2 [oT 0 [], oT 0 []]] := by kernel_rfl
theorem qK : Ao cL := by
 refine ⟨by decide, fun e he ps hp => ?_⟩
 have hp3 : ps.length = 3 := hp
 have key : ∀ e ∈ cL.es, e.cs.length ≤ 1000 ∧ (∀ t ∈ e.a :: e.rest, t.tree = true) ∧ ∀ t ∈ e.a :: e.rest, CM 3 t = true := by
  intro e he
  have h : (cL.es.all fun e => decide (e.cs.length ≤ 1000) && ((e.a :: e.rest).all (fun t => t.tree) && (e.a :: e.rest).all fun t => CM 3 t)) = true := by kernel_rfl
  have := List.all_eq_true.1 h e he
  simp only [Bool.and_eq_true, decide_eq_true_eq, List.all_eq_true] at this
  exact this
 obtain ⟨k1, k2, k3⟩ := key e he
 exact ⟨k1, k2, fun t ht => by rw [hp3]; exact FV (k3 t ht)⟩
end Go.aL
end
