/- Part 16 of 18 of the proof. -/
import Derived.Test.YtljchnfgjdjobaaGreatPao
import Derived.Test.YtljchnfgjdjobaaGreatPag
import Derived.KernelRfl
import Derived.Test.YtljchnfgjdjobaaGreatPam
import Derived.Test.YtljchnfgjdjobaaGreatPai
import Derived.Test.YtljchnfgjdjobaaGreatPah
import Derived.Test.YtljchnfgjdjobaaGreatPak
import Derived.Test.YtljchnfgjdjobaaGreatProg
import Derived.Test.YtljchnfgjdjobaaGreatPaf
set_option linter.unusedVariables false
set_option linter.unusedSimpArgs false
set_option linter.defProp false
set_option linter.unusedSectionVars false
section
set_option maxRecDepth 100000
namespace Go.Abs
open Go Go.Proofs Go.Rpo
def only3 (n0 id : Nat) (G : List AObj) : List AObj := G.mapIdx fun j o => if j < n0 + 3 ∨ j = id then o else .dead
theorem only3_get {n0 id j : Nat} {G : List AObj} : (only3 n0 id G)[j]? = (G[j]?).map fun o => if j < n0 + 3 ∨ j = id then o else .dead := by simp [only3]
theorem only3_len {n0 id : Nat} {G : List AObj} : (only3 n0 id G).length = G.length := by simp [only3]
theorem only3_take {n0 id : Nat} {G : List AObj} : (only3 n0 id G).take (n0 + 3) = G.take (n0 + 3) := by
 apply List.ext_getElem?
 intro j
 rw [List.getElem?_take, List.getElem?_take]
 split
 ·rename_i hj
  rw [only3_get]
  cases G[j]? with
  | none => rfl
  | some o => simp [hj]
 ·rfl
theorem sealS_only3 {n0 id : Nat} {G : List AObj} (h3 : ∀ (j : Nat) (o : AObj), n0 ≤ j → j < n0 + 3 → G[j]? = some o → o.blw (j + 1) = true) (hid : ∀ o, G[id]? = some o → o.blw (id + 1) = true) : sealS n0 G G.length (only3 n0 id G) := by
 refine ⟨by rw [only3_len, Nat.min_self], fun j o ho => ?_⟩
 rw [only3_get] at ho
 cases hg : G[j]? with
 | none => rw [hg] at ho; cases ho
 | some o' =>
   rw [hg] at ho
   simp only [Option.map_some, Option.some.injEq] at ho
   split at ho
   ·rename_i hc
    subst ho
    refine .inr ⟨rfl, fun h => ?_⟩
    rcases hc with hc | hc
    ·exact h3 j _ h hc hg
    ·subst hc; exact hid _ hg
   ·exact .inl ho.symm
def duelS (H : List AObj) (ps ss : List Int) (ts : List T) (r : AV) (G : List AObj) : Prop :=
 ∃ va, r = .tuple [.ptr (H.length + 2) 0, va] ∧ G.take (H.length + 3) = H ++ [.map [], .map [], duelO ps ss (layL ts 0) H.length (H.length + 1)] ∧ H.length + 3 ≤ G.length ∧ RO zI (H.length + 3) va (ints (kidsOf ts 0)) G
theorem ROk.weak {z : AV} {kp kp' : Nat → Prop} {v : AV} {xs : List AV} {G G' : List AObj} (h : ROk z kp v xs G) (hk : ∀ id l c, v = .arr id 0 l c → ¬ kp' id ∧ G'[id]? = G[id]?) : ROk z kp' v xs G' := by
 rcases h with h | ⟨id, cap, a, b, c, d⟩
 ·exact .inl h
 ·obtain ⟨h1, h2⟩ := hk _ _ _ b
  exact .inr ⟨id, cap, h1, b, by rw [h2]; exact c, d⟩
theorem ROk.ne {z : AV} {kp : Nat → Prop} {v : AV} {xs : List AV} {G : List AObj} (h : ROk z kp v xs G) {id l c : Nat} (e : v = .arr id 0 l c) : ¬ kp id := by
 rcases h with ⟨_, rfl⟩ | ⟨id', cap, a, rfl, _⟩
 ·cases e
 ·cases e; exact a
theorem c75s (ps ss : List Int) (ts : List T) (H : List AObj) (hb : wts ts * 64 ≤ 140737488355328) : ACalls Tryz.prog 75 [odA ps ss, .lst 0 (avs ts)] H (duelS H ps ss ts) := by
 refine k75s.2.callsS rfl ?_
 simp only [k75s, mkF, odA]
 have hlw := len_wts ts
 simp +contextual only [bdD, ldi2, sZ, Nat.reduceEqDiff, Nat.reduceAdd, ↓reduceIte, reduceCtorEq]
 refine ⟨by simp; omega, fun _ => ?_⟩
 have e0 : ∀ (l : List AObj) (x : AObj), (H ++ x :: l)[H.length]? = some x := by simp
 refine swp_loop_stL ts.length (fun i (p : AV × AV × List AObj) => ROk zN (fun j => j < H.length + 3 ∨ ∃ l c, p.2.1 = .arr j 0 l c) p.1 (navs (layL (ts.take i) 0)) p.2.2 ∧ ROk zI (fun j => j < H.length + 3 ∨ ∃ l c, p.1 = .arr j 0 l c) p.2.1 (ints (kidsOf (ts.take i) 0)) p.2.2 ∧ H.length + 3 ≤ p.2.2.length ∧
  p.2.2.take (H.length + 3) = H ++ [.map [], .map [], .cells [.lst 0 (ints ps), .lst 0 (ints ss), p.1, .map H.length, .map (H.length + 1)]])
  (fun i p => [(6, .ptr (H.length + 2) 0), (7, p.2.1), (15, .lst 0 (avs ts)), (16, .int .i64 ts.length), (17, .int .i64 i)])
  (fun i p => p.2.2) (.nils, .nils, _) ⟨⟨.inl ⟨rfl, rfl⟩, .inl ⟨rfl, rfl⟩, by simp, ?_⟩, sleL_refl _ _ _⟩ fun i p hi hI => ?_
 ·rw [List.take_of_length_le (by simp)]
 obtain ⟨v, va, G⟩ := p
 obtain ⟨hR, hA, hl, hG⟩ := hI
 simp only at hR hA hl hG
 obtain ⟨o1, o2, o3, o4⟩ := hR.one
 obtain ⟨p1, p2, p3, p4⟩ := hA.one
 have gget : ∀ j, j < H.length + 3 → G[j]? = (H ++ [.map [], .map [], .cells [.lst 0 (ints ps), .lst 0 (ints ss), v, .map H.length, .map (H.length + 1)]])[j]? := by
  intro j hj; rw [← hG, List.getElem?_take, if_pos hj]
 have g2 : G[H.length + 2]? = some (.cells [.lst 0 (ints ps), .lst 0 (ints ss), v, .map H.length, .map (H.length + 1)]) := by rw [gget _ (by omega)]; simp
 have hle := wts_take_le ts i
 have hkl := kidsOf_len (ts.take i) 0
 have hkl2 : (ts.take i).length ≤ ts.length := by simp; omega
 by_cases hlt : i < ts.length
 ·have hlt' : ((i : Int) < ts.length) = True := eq_true (by omega)
  simp +contextual only [o3, p3, g2, hR.len, hR.lenOk, layL_len0, hlt', decide_true, sZ, Nat.reduceEqDiff, Nat.reduceAdd, Nat.reduceLT, ↓reduceIte]
  have hwt := wts_take hlt
  have hnext := wts_take_le ts (i + 1)
  have e2 : ts.take (i + 1) = ts.take i ++ [ts.getD i default] := by rw [List.take_succ_eq_append_getElem hlt]; simp [hlt]
  have arrlt : ∀ {z : AV} {kp : Nat → Prop} {u : AV} {xs : List AV} {G : List AObj} {j l c : Nat}, ROk z kp u xs G → u = .arr j 0 l c → j < G.length := by
   intro z kp u xs G j l c h e
   rcases h with ⟨_, rfl⟩ | ⟨id', cap, _, rfl, h2, _⟩
   ·cases e
   ·cases e; exact get_lt h2
  refine ⟨hlt, appendROk okO_zI hA (okO_ints _) 0 [.int .i64 (wts (ts.take i) : Nat)] (by simp) (okO_ints [_]) (by rw [ints_len]; simp; omega) (fun j hj => ?_) fun va' G1 hA1 hk1 hl1 => ?_⟩
  ·rcases hj with hj | ⟨l, c, e⟩
   ·omega
   ·exact arrlt hR e
  obtain ⟨p1', p2', p3', p4'⟩ := hA1.one
  have g21 : G1[H.length + 2]? = some (.cells [.lst 0 (ints ps), .lst 0 (ints ss), v, .map H.length, .map (H.length + 1)]) := by rw [hk1 _ (.inl (by omega)), g2]
  have hR1 : ROk zN (fun j => j < H.length + 3 ∨ ∃ l c, va' = .arr j 0 l c) v (navs (layL (ts.take i) 0)) G1 := hR.weak fun id l c e => by
   refine ⟨fun h => ?_, hk1 id (.inr ⟨l, c, e⟩)⟩
   rcases h with h | ⟨l', c', e'⟩
   ·exact hR.ne e (.inl h)
   ·exact hA1.ne e' (.inr ⟨l, c, e⟩)
  simp +contextual only [o3, p3', g21, sZ, Nat.reduceEqDiff, Nat.reduceAdd, Nat.reduceLT, ↓reduceIte, reduceCtorEq]
  have hc := c132k (wt (ts.getD i default)) (ts.getD i default) (Nat.le_refl _) (fun j => j < H.length + 3 ∨ ∃ l c, va' = .arr j 0 l c) v _ G1 hR1 (okO_navs _) (fun j hj => by
   rcases hj with hj | ⟨l, c, e⟩
   ·omega
   ·exact arrlt hA1 e) (by rw [layL_len0]; omega)
  refine scall_to hc ?_
  rintro r G' ⟨hR', hk2, hl'⟩
  obtain ⟨o1', o2', o3', o4'⟩ := hR'.one
  have g2' : G'[H.length + 2]? = some (.cells [.lst 0 (ints ps), .lst 0 (ints ss), v, .map H.length, .map (H.length + 1)]) := by rw [hk2 _ (.inl (by omega)), g21]
  have hb' := hR'.blw (Nat.le_refl _)
  have hA2 : ROk zI (fun j => j < H.length + 3 ∨ ∃ l c, r = .arr j 0 l c) va' (ints (kidsOf (ts.take i) 0) ++ [.int .i64 (wts (ts.take i) : Nat)]) G' := hA1.weak fun id l c e => by
   refine ⟨fun h => ?_, hk2 id (.inr ⟨l, c, e⟩)⟩
   rcases h with h | ⟨l', c', e'⟩
   ·exact hA1.ne e (.inl h)
   ·exact hR'.ne e' (.inr ⟨l, c, e⟩)
  have gt' : G'.take (H.length + 3) = G.take (H.length + 3) := by
   apply List.ext_getElem?
   intro j
   rw [List.getElem?_take, List.getElem?_take]
   split
   ·rename_i hj; rw [hk2 j (.inl hj), hk1 j (.inl hj)]
   ·rfl
  simp +contextual only [stepsX, o1', o2', o3', o4', g2', hb', sZ, Nat.reduceEqDiff, Nat.reduceAdd, Nat.reduceLeDiff, ↓reduceIte]
  refine ⟨by omega, i + 1, (r, va', _), ⟨hlt, ?_, ?_, by simp; omega, ?_⟩, by omega, sleL_eq ?_ rfl⟩
  ·have h1 := hR'.set (j := H.length + 2) (fun l c e => hR'.ne e (.inl (by omega))) (.cells (asplice [.lst 0 (ints ps), .lst 0 (ints ss), v, .map H.length, .map (H.length + 1)] 2 [r]))
   rw [layL_len0] at h1
   rw [e2, layL_snoc, navs_app, Nat.zero_add]
   exact h1
  ·have h1 := hA2.set (j := H.length + 2) (fun l c e => hA2.ne e (.inl (by omega))) (.cells (asplice [.lst 0 (ints ps), .lst 0 (ints ss), v, .map H.length, .map (H.length + 1)] 2 [r]))
   have ek : ints (kidsOf (ts.take i ++ [ts.getD i default]) 0) = ints (kidsOf (ts.take i) 0) ++ [.int .i64 (wts (ts.take i) : Nat)] := by rw [kidsOf_snoc, Nat.zero_add]; simp [ints]
   rw [e2, ek]
   exact h1
  ·rw [List.take_set, gt', hG]
   simp [asplice]
  ·rw [wrap_nat i (by omega)]
 ·have hi' : i = ts.length := by omega
  subst hi'
  have hlt' : ((ts.length : Int) < ts.length) = False := eq_false (by omega)
  simp +contextual only [hlt', decide_false, sZ, Nat.reduceEqDiff, ↓reduceIte]
  rw [List.take_length] at hR hA
  have bz : ∀ (l : List Int) (cap n : Nat), (cellsO zI (ints l) cap).blw n = true := fun l cap n => by
   rw [cellsI]
   simp only [AObj.blw, belowL_append]
   exact ⟨ints_blw _ _, (okO.flat (apad_okO okO_zI _)).2.2.1 n⟩
  have fin : ∀ (G' : List AObj), H.length + 3 ≤ G'.length → (∀ id l c, va = .arr id 0 l c → G'[id]? = G[id]?) → G'.take (H.length + 3) = H ++ [.map [], .map [], duelO ps ss (layL ts 0) H.length (H.length + 1)] → aretC (sealS H.length) H.length [.t 4, .t 5] [(4, .ptr (H.length + 2) 0), (5, va)] G' (duelS H ps ss ts) := by
   intro G' hl' hid hG'
   have get3 : ∀ (j : Nat) (o : AObj), H.length ≤ j → j < H.length + 3 → G'[j]? = some o → o.blw (j + 1) = true := by
    intro j o h1 h2 ho
    have h3 : (G'.take (H.length + 3))[j]? = some o := by rw [List.getElem?_take, if_pos h2]; exact ho
    rw [hG', List.getElem?_append_right h1] at h3
    have : j = H.length ∨ j = H.length + 1 ∨ j = H.length + 2 := by omega
    rcases this with rfl | rfl | rfl
    ·simp at h3; subst h3; rfl
    ·simp at h3; subst h3; rfl
    ·simp at h3; subst h3; exact duelO_blw ps ss _ _
   have hres : ∀ id, RO zI (H.length + 3) va (ints (kidsOf ts 0)) (only3 H.length id G') → (∀ o, G'[id]? = some o → o.blw (id + 1) = true) → va.blw G'.length = true → aretC (sealS H.length) H.length [.t 4, .t 5] [(4, .ptr (H.length + 2) 0), (5, va)] G' (duelS H ps ss ts) := by
    intro id hro hb' hva
    refine aretC2 (m := G'.length) (by omega) (sealS_only3 get3 hb') (x := .ptr (H.length + 2) 0) (y := va) rfl (by simp [gt_cons, p3]) (by rw [bw_ptr]; exact decide_eq_true (by omega)) hva ⟨va, rfl, by rw [only3_take, hG'], by rw [only3_len]; exact hl', hro⟩
   rcases hA with ⟨e1, rfl⟩ | ⟨id, cap, hk, rfl, hg, hc, hne⟩
   ·exact hres G'.length (.inl ⟨e1, rfl⟩) (fun o ho => by rw [List.getElem?_eq_none (Nat.le_refl _)] at ho; cases ho) rfl
   ·have hg' := hid _ _ _ rfl
    rw [hg] at hg'
    refine hres id (.inr ⟨id, cap, by have := fun h => hk (.inl h); omega, rfl, by rw [only3_get, hg']; simp, hc, hne⟩) (fun o ho => ?_) ?_
    ·rw [hg'] at ho; cases ho; exact bz _ _ _
    ·rw [bw_arr]; exact decide_eq_true (get_lt hg')
  rw [afrz_ptr]
  unfold afrz
  rw [g2]
  rcases hR with ⟨e1, rfl⟩ | ⟨id, cap, hid, rfl, hg, hcap, hne⟩
  ·simp +contextual only [List.getElem?_cons_succ, List.getElem?_cons_zero, p3, sZ, Nat.reduceEqDiff, ↓reduceIte, reduceCtorEq]
   refine fin G hl (fun _ _ _ _ => rfl) ?_
   rw [hG, duelO, nodesA, if_pos (navs_nil e1)]
  ·simp +contextual only [List.getElem?_cons_succ, List.getElem?_cons_zero, p3, sZ, Nat.reduceEqDiff, ↓reduceIte, reduceCtorEq]
   have hid' : H.length + 3 ≤ id := by have := fun h => hid (.inl h); omega
   refine freezeRO (by decide) okO_zN (okO_navs _) (fun x hx => ?_) hg hcap ⟨?_, ?_, ?_⟩
   ·obtain ⟨q, _, rfl⟩ := List.mem_map.1 hx; rfl
   ·rw [List.getElem?_set_ne (by omega)]; exact g2
   ·rw [bw_lst]; exact navs_blw _ _
   ·refine fin _ (by simp; omega) (fun id' l c e => ?_) ?_
    ·have h1 : id' ≠ id := fun e' => hA.ne e (.inr ⟨_, _, by rw [e']⟩)
     have h2 : id' ≠ H.length + 2 := fun e' => hA.ne e (.inl (by omega))
     rw [List.getElem?_set_ne (Ne.symm h2), List.getElem?_set_ne (Ne.symm h1)]
    ·rw [List.take_set, List.take_set, hG]
     have e1 : ∀ X : List AObj, X.length ≤ id → X.set id .dead = X := fun X h => List.set_eq_of_length_le h
     rw [e1 _ (by simp; omega), duelO, nodesA, if_neg (fun e => hne (by rw [e]; rfl))]
     simp
end Go.Abs
end
section
set_option maxRecDepth 100000
set_option maxHeartbeats 0
namespace Go.Abs
open Go Go.Proofs
noncomputable def k105v := mkF Tryz.call105 Tryz.func105 Tryz.ntmps105 [(5,6,2)] [(0,[0,1,2]),(1,[0,1,2]),(2,[0,1,2,16]),(3,[6]),(4,[0,1,2,7]),(5,[0,7]),(6,[0]),(7,[6])] [(5,(.take 0 true (.take 1 true (.take 2 true (.take 3 true (.take 4 true (.take 5 true (.br 6 (.take 7 true .done) .nil))))))))]
end Go.Abs
end
section
set_option maxRecDepth 100000
namespace Go.Abs
open Go Go.Proofs Go.Rpo
theorem spI (A B : List Int) (k : Nat) : asplice (ints A) k (ints B) = ints (A.take k ++ B ++ A.drop (k + B.length)) := by
 unfold asplice
 rw [ints_take, ints_drop, ints_app, ints_len, ints_app]
 rw [List.append_assoc]
theorem sl3 {id i n cap : Nat} (h : i < n) (hc : n ≤ cap) (φ : AV → Prop) : asliceX 1 (.arr id 0 n cap) (some (.int .i64 (i : Int))) (some (.int .i64 ((i : Int) + 1))) (some (.int .i64 (n : Int))) φ = φ (.arr id (if n = i then 0 else 0 + i * 1) ((i + 1) - i) (n - i)) := by
 have e1 : ((i : Int) + 1).toNat = i + 1 := by omega
 simp only [asliceX, aslicem, aidx, Int.toNat_natCast, Option.isSome_some, true_and, e1, eq_iff_iff]
 constructor
 ·rintro ⟨_, _, _, h⟩; exact h.2.2.2
 ·exact fun k => ⟨by omega, by omega, by omega, by omega, by omega, by omega, k⟩
theorem slTo {id i n cap : Nat} (hc : i ≤ cap) (φ : AV → Prop) : asliceX 1 (.arr id 0 n cap) none (some (.int .i64 (i : Int))) none φ = φ (.arr id 0 i cap) := by
 have e : (if cap = 0 then 0 else 0 + 0 * 1) = 0 := by split <;> simp
 simp only [asliceX, aslicea, aidx, Int.toNat_natCast, e, Nat.sub_zero, eq_iff_iff]
 constructor
 ·rintro ⟨_, h⟩; exact h.2.2
 ·exact fun k => ⟨by omega, by omega, hc, k⟩
theorem slFr {id i n cap : Nat} (h : i + 1 ≤ n) (hc : n ≤ cap) (φ : AV → Prop) : asliceX 1 (.arr id 0 n cap) (some (.int .i64 ((i : Int) + 1))) none none φ = φ (.arr id (if cap = i + 1 then 0 else 0 + (i + 1) * 1) (n - (i + 1)) (cap - (i + 1))) := by
 have e1 : ((i : Int) + 1).toNat = i + 1 := by omega
 simp only [asliceX, aslicea, aidx, e1, eq_iff_iff]
 constructor
 ·rintro ⟨_, h⟩; exact h.2.2
 ·exact fun k => ⟨by omega, h, hc, k⟩
theorem slBe {id l h n cap : Nat} (hl : l < h) (hc : h ≤ cap) (φ : AV → Prop) : asliceX 1 (.arr id 0 n cap) (some (.int .i64 (l : Int))) (some (.int .i64 (h : Int))) none φ = φ (.arr id l (h - l) (cap - l)) := by
 have e : (if cap = l then 0 else 0 + l * 1) = l := by rw [if_neg (by omega)]; omega
 simp only [asliceX, aslicea, aidx, Int.toNat_natCast, e, eq_iff_iff]
 constructor
 ·rintro ⟨_, _, h⟩; exact h.2.2
 ·exact fun k => ⟨by omega, by omega, by omega, hc, k⟩
theorem c105 (P S pad : List Int) (a : Int) (hb : (P ++ a :: S).length ≤ 1000000000) (id cap : Nat) (hcap : cap = (P ++ a :: S ++ pad).length) {H : List AObj} (hg : H[id]? = some (.cells (ints (P ++ a :: S ++ pad)))) :
 ACalls Tryz.prog 105 [.arr id 0 (P.length + 1 + S.length) cap, .int .i64 P.length, .int .i64 ((P.length : Int) + 1)] H fun r H' => r = .arr id 0 (P.length + S.length) cap ∧ H' = H.set id (.cells (ints (P ++ S ++ 0 :: pad))) := by
 refine k105v.2.calls rfl ?_
 simp only [k105v, mkF]
 have hcl : cap = P.length + 1 + S.length + pad.length := by rw [hcap]; simp; omega
 rw [hcap] at hcl
 have ne : ((P.length : Int) = (P.length : Int) + 1) = False := eq_false (by omega)
 have hidl := get_lt hg
 have s1 := fun φ => sl3 (id := id) (i := P.length) (n := P.length + 1 + S.length) (cap := cap) (by omega) (by omega) φ
 have s2 := fun φ => slTo (id := id) (i := P.length) (n := P.length + 1 + S.length) (cap := cap) (by omega) φ
 have s3' := fun φ => slFr (id := id) (i := P.length) (n := P.length + 1 + S.length) (cap := cap) (by omega) (by omega) φ
 have un : ∀ a b c d, (AV.arr a b c d).unown = .arr a b c d := fun _ _ _ _ => rfl
 have ox1 : ∀ (env : Env) (i : IX), optX env (some i) = some (aval env i) := fun _ _ => rfl
 have ox2 : ∀ (env : Env), optX env none = none := fun _ => rfl
 have s4 := fun φ => slBe (id := id) (l := P.length + S.length) (h := P.length + 1 + S.length) (n := P.length + S.length) (cap := cap) (by omega) (by omega) φ
 simp +contextual only [Option.map_some, Option.map_none, ox1, s1, s2, s3', ne, decide_false, un, sZ, Nat.reduceEqDiff, Nat.reduceAdd, ↓reduceIte, reduceCtorEq]
 have hnone : ∀ a b c d, rlist (AV.arr a b c d) = none := fun _ _ _ _ => rfl
 have e0 : P.length + 1 + S.length - (P.length + 1) = S.length := by omega
 have eA : P ++ a :: S ++ pad = (P ++ [a]) ++ (S ++ pad) := by simp
 unfold aappendA
 simp only [hnone, csrc, hg, ints_len, e0]
 have hoff : (if cap = P.length + 1 then 0 else 0 + (P.length + 1) * 1) + S.length * 1 ≤ (P ++ a :: S ++ pad).length := by simp only [List.length_append, List.length_cons]; split <;> omega
 have htake : (List.take (S.length * 1) (List.drop (if cap = P.length + 1 then 0 else 0 + (P.length + 1) * 1) (ints (P ++ a :: S ++ pad)))) = ints S := by
  rw [ints_drop, ints_take, Nat.mul_one]
  congr 1
  by_cases hc : cap = P.length + 1
  ·have : S = [] := List.length_eq_zero_iff.1 (by omega)
   subst this; simp
  ·rw [if_neg hc, eA, List.drop_left' (by simp), List.take_left]
 rw [if_pos hoff]
 simp only [hg, htake, ints_un, ints_all1, ints_blw]
 refine ⟨?_, trivial, by omega, by rw [ints_len, ← hcap]; omega, trivial, ?_⟩
 ·rw [List.length_drop, ints_len]; simp only [List.length_append, List.length_cons] at hoff ⊢; omega
 obtain ⟨x, X, hxX, hXl⟩ : ∃ x X, (a :: S).drop S.length = x :: X ∧ X.length = 0 := by
  have hl : ((a :: S).drop S.length).length = 1 := by simp
  cases hd : (a :: S).drop S.length with
  | nil => rw [hd] at hl; simp at hl
  | cons x X => rw [hd] at hl; exact ⟨x, X, rfl, by simpa using hl⟩
 have hX0 : X = [] := List.length_eq_zero_iff.1 hXl
 subst hX0
 have e1 : asplice (ints (P ++ a :: S ++ pad)) (0 + P.length * 1) (ints S) = ints (P ++ S ++ x :: pad) := by
  rw [spI]
  congr 1
  have h1 : (P ++ a :: S ++ pad).take (0 + P.length * 1) = P := by rw [List.append_assoc, Nat.zero_add, Nat.mul_one, List.take_left]
  have h2 : (P ++ a :: S ++ pad).drop (0 + P.length * 1 + S.length) = x :: pad := by
   rw [List.append_assoc, Nat.zero_add, Nat.mul_one, ← List.drop_drop, List.drop_left, List.drop_append_of_le_length (by simp), hxX]; rfl
  rw [h1, h2]
 rw [e1]
 have gs : ∀ o, (H.set id o)[id]? = some o := fun o => List.getElem?_set_self hidl
 have e2 : P.length + 1 + S.length - (P.length + S.length) = 1 := by omega
 have e3 : ((P.length + S.length : Nat) : Int) = ((P.length + S.length : Nat) : Int) := rfl
 simp +contextual only [ox1, ox2, s4, un, e2, op_clearA, sZ, Nat.reduceEqDiff, ↓reduceIte, reduceCtorEq]
 unfold aclearA
 have ap1 : apad (.int .i64 0) 1 = ints [0] := rfl
 simp only [gs, ap1, ints_un, ints_all1, ints_blw, ints_len, spI, List.set_set]
 refine ⟨by simp; omega, trivial, trivial, ?_⟩
 have e4 : (P ++ S ++ x :: pad).take (P.length + S.length) ++ [0] ++ (P ++ S ++ x :: pad).drop (P.length + S.length + [(0 : Int)].length) = P ++ S ++ 0 :: pad := by
  have hl : (P ++ S).length = P.length + S.length := by simp
  rw [← hl, List.take_left, ← List.drop_drop, List.drop_left]; simp
 rw [e4]
 simp +contextual only [un, sZ, ↓reduceIte, reduceCtorEq]
 exact ret2 (by simp) (by rw [bw_arr]; exact decide_eq_true hidl) rfl rfl
end Go.Abs
end
section
set_option maxRecDepth 100000
namespace Go.Abs
open Go Go.Proofs Go.Rpo
theorem c100a {S : List AObj → Prop} (hS : Len S) {Q : Int → Prop} {a : List Int} {id cap : Nat} (hg : ∀ G, S G → G[id]? = some (cellsO zI (ints a) cap)) (hc : a.length ≤ cap) (la : a.length ≤ 1000000000) (g : Nat) (pre caps : List AV) (hcap : caps.map AV.unown = caps) (hpre : pre.map AV.unown = pre)
 (hf : ∀ x ∈ a, ∀ H, S H → ACalls Tryz.prog g (pre ++ [.int .i64 x] ++ caps) H (SB S (Q x))) {H : List AObj} (hH : S H) :
 ACalls Tryz.prog 100 [.arr id 0 a.length cap, .fn (.func g) pre caps] H (SI S Q a) := by
 refine k100.2.calls rfl ?_
 simp only [k100, mkF]
 simp +contextual only [sZ, Nat.reduceEqDiff, Nat.reduceAdd, ↓reduceIte, reduceCtorEq]
 have fin : ∀ (n : Int) (G : List AObj), S G → ((n = -1 ∧ ∀ x ∈ a, ¬ Q x) ∨ ∃ m : Nat, n = m ∧ m < a.length ∧ Q (a.getD m 0) ∧ ∀ j, j < m → ¬ Q (a.getD j 0)) → aret H.length [.t 4] [(4, .int .i64 n)] G (SI S Q a) := by
  intro n G hG hn
  refine aret_one H.length (Nat.le_refl _) (by rw [gt_cons, if_pos rfl]; rfl) ?_
  rw [gt_cons, if_pos rfl, List.take_of_length_le (by rw [hS H G hH hG]; exact Nat.le_refl _)]
  refine ⟨hG, ?_⟩
  rcases hn with ⟨rfl, h⟩ | ⟨m, rfl, h⟩
  ·exact .inl ⟨rfl, h⟩
  ·exact .inr ⟨m, rfl, h⟩
 refine swp_loop_st a.length (fun i (G : List AObj) => S G ∧ ∀ j, j < i → ¬ Q (a.getD j 0))
  (fun i G => [(0, .arr id 0 a.length cap), (1, .fn (.func g) pre caps), (7, .int .i64 a.length), (8, .int .i64 i)]) (fun i G => G) H ⟨⟨hH, fun j hj => by omega⟩, sle_refl _ _ _⟩ fun i G hi hI => ?_
 obtain ⟨hG, hq⟩ := hI
 by_cases hlt : i < a.length
 ·have hlt' : ((i : Int) < a.length) = True := eq_true (by omega)
  simp +contextual only [hlt', decide_true, idxO, hg G hG, loadI hlt, hcap, hpre, sZ, Nat.reduceEqDiff, Nat.reduceAdd, ↓reduceIte, reduceCtorEq]
  refine ⟨by omega, scall_to (hf _ (getD_mem (by omega)) G hG) ?_⟩
  rintro r G' ⟨x, rfl, hx, hG'⟩
  cases x with
  | false =>
    simp +contextual only [sZ, Nat.reduceEqDiff, ↓reduceIte, reduceCtorEq]
    refine ⟨i + 1, G', ⟨by omega, hG', fun j hj => ?_⟩, by omega, sle_eq (by rw [wrap_nat i (by omega)]) rfl⟩
    by_cases h : j = i
    ·subst h; exact fun h => absurd (hx.2 h) (by simp)
    ·exact hq j (by omega)
  | true =>
    simp +contextual only [sZ, Nat.reduceEqDiff, ↓reduceIte, reduceCtorEq]
    exact fin _ _ hG' (.inr ⟨i, rfl, by omega, hx.1 rfl, hq⟩)
 ·have hlt' : ((i : Int) < a.length) = False := eq_false (by omega)
  simp +contextual only [hlt', decide_false, sZ, Nat.reduceEqDiff, ↓reduceIte, reduceCtorEq]
  refine fin _ _ hG (.inl ⟨rfl, fun x hx => ?_⟩)
  obtain ⟨j, hj, rfl⟩ := List.getElem_of_mem hx
  have := hq j (by omega)
  simpa [hj] using this
theorem c102a {S : List AObj → Prop} (hS : Len S) {Q : Int → Prop} {a : List Int} {id cap : Nat} (hg : ∀ G, S G → G[id]? = some (cellsO zI (ints a) cap)) (hc : a.length ≤ cap) (la : a.length ≤ 1000000000) (g : Nat) (pre caps : List AV) (hcap : caps.map AV.unown = caps) (hpre : pre.map AV.unown = pre)
 (hf : ∀ x ∈ a, ∀ H, S H → ACalls Tryz.prog g (pre ++ [.int .i64 x] ++ caps) H (SB S (Q x))) {H : List AObj} (hH : S H) :
 ACalls Tryz.prog 102 [.arr id 0 a.length cap, .fn (.func g) pre caps] H (SB S (∃ x ∈ a, Q x)) := by
 refine k102.2.calls rfl ?_
 simp only [k102, mkF]
 simp +contextual only [sZ, Nat.reduceEqDiff, Nat.reduceAdd, ↓reduceIte, reduceCtorEq]
 refine scall_to (c100a hS hg hc la g pre caps hcap hpre hf hH) ?_
 rintro r G ⟨hG, ⟨rfl, h⟩ | ⟨n, rfl, h1, h2, _⟩⟩
 ·simp +contextual only [sZ, ↓reduceIte, reduceCtorEq]
  exact retS hS (b := false) (by simp) ⟨fun h => by simp at h, fun ⟨x, hx, h'⟩ => absurd h' (h x hx)⟩ hH hG
 ·simp +contextual only [sZ, ↓reduceIte, reduceCtorEq]
  exact retS hS (b := true) (by simp) ⟨fun _ => ⟨_, getD_mem h1, h2⟩, fun _ => rfl⟩ hH hG
def SG (c : Cx) (G H : List AObj) : Prop := Du c H ∧ Up c G H
theorem SG.len (c : Cx) (G : List AObj) : Len (SG c G) := fun H H' h h' => h'.2.len.trans h.2.len.symm
theorem c103 {c : Cx} (hc : c.Ok) {i x : Int} (hi : c.isN i) (hx : c.isN x) {t9 : Nat} {G : List AObj} (h9 : G[t9]? = some (.cells [.ptr c.d 0])) (n1 : t9 ≠ c.e) (n2 : t9 ≠ c.g) (H : List AObj) (hH : SG c G H) :
 ACalls Tryz.prog 103 ([] ++ [.int .i64 x] ++ [.ptr t9 0, .iptr (.int .i64 i)]) H (SB (SG c G) (R c.O (c.tm i) (c.tm x))) := by
 refine k103.2.calls rfl ?_
 simp only [k103, mkF, List.nil_append, List.cons_append]
 have h9' : H[t9]? = some (.cells [.ptr c.d 0]) := by rw [hH.2.get t9 n1 n2, h9]
 simp +contextual only [h9', sZ, Nat.reduceEqDiff, Nat.reduceAdd, Nat.reduceLT, ↓reduceIte, reduceCtorEq]
 refine scall_to (more_c hc hi hx H hH.1) ?_
 rintro r G' ⟨b, rfl, hb, hU, hD⟩
 simp +contextual only [sZ, ↓reduceIte, reduceCtorEq]
 exact retS (SG.len c G) rfl hb hH ⟨hD, hH.2.trans hU⟩
theorem c101 {c : Cx} (hc : c.Ok) {i : Int} (hi : c.isN i) {t9 t10 id cap : Nat} {l : List Int} {G : List AObj} (hl : ∀ x ∈ l, c.isN x) (hlc : l.length ≤ cap) (hll : l.length ≤ 1000000000)
 (h9 : G[t9]? = some (.cells [.ptr c.d 0])) (n1 : t9 ≠ c.e) (n2 : t9 ≠ c.g)
 (h10 : G[t10]? = some (.cells [.arr id 0 l.length cap])) (m1 : t10 ≠ c.e) (m2 : t10 ≠ c.g)
 (hg : G[id]? = some (cellsO zI (ints l) cap)) (k1 : id ≠ c.e) (k2 : id ≠ c.g) (H : List AObj) (hH : SG c G H) :
 ACalls Tryz.prog 101 ([] ++ [.int .i64 i] ++ [.ptr t10 0, .ptr t9 0]) H (SB (SG c G) (¬ ∃ x ∈ l, R c.O (c.tm i) (c.tm x))) := by
 refine k101.2.calls rfl ?_
 simp only [k101, mkF, List.nil_append, List.cons_append]
 have h10' : H[t10]? = some (.cells [.arr id 0 l.length cap]) := by rw [hH.2.get t10 m1 m2, h10]
 simp +contextual only [h10', sZ, Nat.reduceEqDiff, Nat.reduceAdd, Nat.reduceLT, ↓reduceIte, reduceCtorEq]
 refine scall_to (c102a (SG.len c G) (fun G' hG' => by rw [hG'.2.get id k1 k2, hg]) hlc hll 103 [] [.ptr t9 0, .iptr (.int .i64 i)] rfl rfl (fun x hx H' hH' => c103 hc hi (hl x hx) h9 n1 n2 H' hH') hH) ?_
 rintro r G' ⟨b, rfl, hb, hG⟩
 simp +contextual only [sZ, ↓reduceIte, reduceCtorEq]
 refine retS (SG.len c G) (b := !b) (by simp) ?_ hH hG
 rw [← hb]; cases b <;> simp
end Go.Abs
end
section
set_option maxRecDepth 100000
set_option maxHeartbeats 0
namespace Go.Abs
open Go Go.Proofs
noncomputable def k37v := mkF Tryz.call37 Tryz.func37 Tryz.ntmps37 [(0,0,1),(0,1,1),(9,2,2000),(10,0,1),(10,12,2000),(10,15,1),(11,4,2000)] [(0,[2,3,4]),(1,[2,4,8]),(2,[2,4,8,18]),(3,[6,7]),(4,[2,4,22]),(5,[6,7]),(6,[9,10]),(7,[9,10,11]),(8,[9,10,11,31]),(9,[9,10,11,12]),(10,[9,10,11,12]),(11,[9,10,11]),(12,[6,7])] [(10,(.take 1 true (.take 2 true (.take 3 true (.take 4 true (.take 5 true (.take 6 true (.take 7 true (.take 8 true (.take 9 true (.take 10 true (.take 11 true (.br 0 (.br 12 (.take 13 true (.br 14 (.br 15 .done .nil) .nil)) .nil) (.br 12 (.take 13 true (.br 0 (.br 14 (.br 15 .done .nil) .nil) .nil)) .nil))))))))))))))]
noncomputable def k104v := mkF Tryz.call104 Tryz.func104 Tryz.ntmps104 [(1,4,2),(5,4,2000),(7,0,3003)] [(0,[1,2]),(1,[1,2]),(2,[1,2,10,11,12]),(3,[1,2,10,11,12,13]),(4,[1,2,3,4,10,11,12]),(5,[1,2,10,11,12]),(6,[1,2,10,11,12]),(7,[2])] [(5,(.take 3 true (.take 0 false (.take 2 false (.br 1 (.br 4 (.take 5 true (.br 6 .done .nil)) .nil) (.br 4 (.take 1 true (.take 5 true (.br 6 .done .nil))) .nil))))))]
end Go.Abs
end
section
set_option maxRecDepth 100000
namespace Go.Abs
open Go Go.Proofs Go.Rpo
def zT : AV := .agg [.int .i64 0, .int .i64 0, .nils]
theorem okO_zT : okO 3 (zcanon zT) := ⟨rfl, rfl, rfl, rfl⟩
theorem av_eq (t : T) : t.av = .agg [.int .i64 t.k, .int .i64 t.n, .lst 0 (avs t.l)] := by cases t; rfl
theorem okO_av (t : T) : okO 3 t.av := by
 rw [av_eq]
 exact ⟨rfl, rfl, by simp [AV.cells, avs_blw, bl_cons, bl_nil, bw_int, bw_lst], rfl⟩
theorem mem_avs {l : List T} {x : AV} (h : x ∈ avs l) : ∃ t ∈ l, x = t.av := by
 induction l with
 | nil => cases h
 | cons y r ih =>
   rcases List.mem_cons.1 h with rfl | h
   ·exact ⟨y, List.mem_cons_self, rfl⟩
   ·obtain ⟨t, ht, e⟩ := ih h; exact ⟨t, List.mem_cons_of_mem _ ht, e⟩
theorem okO_avs (l : List T) : ∀ x ∈ avs l, okO 3 x := by
 intro x hx; obtain ⟨t, _, rfl⟩ := mem_avs hx; exact okO_av t
theorem avs_get {l : List T} {i : Nat} (h : i < l.length) : (avs l).getD i .any = (l.getD i default).av := by
 induction l generalizing i with
 | nil => simp at h
 | cons x r ih =>
   cases i with
   | zero => rfl
   | succ i => simpa [avs] using ih (i := i) (by simpa using h)
theorem avs_lenT (l : List T) : (avs l).length = l.length := by induction l with | nil => rfl | cons x r ih => simp [avs, ih]
def CT (base : Nat) (v : AV) (l : List T) (G : List AObj) : Prop :=
 (l = [] ∧ v = .nils) ∨ ∃ id cap, base ≤ id ∧ v = .arr id 0 l.length cap ∧ G[id]? = some (cellsO zT (avs l) cap) ∧ l.length ≤ cap
theorem CT.one {base : Nat} {v : AV} {l : List T} {G : List AObj} (h : CT base v l G) : v.one = true ∧ v.val = true ∧ v.unown = v ∧ v.cells = [v] := by
 rcases h with ⟨_, rfl⟩ | ⟨id, cap, _, rfl, _⟩ <;> exact ⟨rfl, rfl, rfl, rfl⟩
theorem CT.blw {base : Nat} {v : AV} {l : List T} {G : List AObj} (h : CT base v l G) {n : Nat} (hn : G.length ≤ n) : v.blw n = true := by
 rcases h with ⟨_, rfl⟩ | ⟨id, cap, _, rfl, c, _⟩
 ·rfl
 ·have := (List.getElem?_eq_some_iff.1 c).1
  rw [bw_arr]; simp; omega
theorem CT.len {base : Nat} {v : AV} {l : List T} {G : List AObj} (h : CT base v l G) {H : List AObj} (φ : AV → Prop) : alen v H φ = φ (.int .i64 l.length) := by
 rcases h with ⟨rfl, rfl⟩ | ⟨id, cap, _, rfl, _⟩ <;> rfl
theorem CT.lenOk {base : Nat} {v : AV} {l : List T} {G : List AObj} (h : CT base v l G) : lenOk 1 v = True := by
 rcases h with ⟨rfl, rfl⟩ | ⟨id, cap, _, rfl, _⟩ <;> rfl
theorem nil_lst0 (o : Nat) (φ : AV → Prop) : aeqNil 0 false (.lst o []) φ = (φ (.bool true) ∧ φ (.bool false)) := by simp [aeqNil, isNil]
theorem nil_lst1 (o : Nat) (x : AV) (r : List AV) (φ : AV → Prop) : aeqNil 0 false (.lst o (x :: r)) φ = φ (.bool false) := by simp [aeqNil, isNil]
theorem appendE0 {esz bytes : Nat} {z : AV} {id o : Nat} {G : List AObj} (hid : G[id]? = some (.cells [])) {K : AV → List AObj → Prop} (hK : K (.arr id 0 0 0) G) : aappendA esz bytes z (.arr id 0 0 0) (.lst o []) G K := by
 unfold aappendA
 simp only [rlist, hid]
 refine ⟨fun y h => by simp at h, by simp, Nat.le_refl _, by simp, fun _ => ⟨by simp [flat, belowL], ?_⟩, fun h => absurd h (by simp)⟩
 have e : asplice ([] : List AV) ((0 + 0) * esz) (List.map AV.unown (flat [])) = [] := by simp [asplice, flat]
 simp only [flat, asplice, List.flatMap_nil, List.map_nil, List.length_nil, List.append_nil, List.take_nil, List.drop_nil]
 rw [set_id hid]
 exact hK
theorem c58w (l : List T) (H : List AObj) (hb : l.length * 40 ≤ 140737488355328) : ACalls Tryz.prog 58 [.lst 0 (avs l)] H fun r H' => CT H.length r l H' ∧ H'.take H.length = H ∧ H.length ≤ H'.length := by
 refine k58v.2.calls rfl ?_
 simp only [k58v, mkF]
 cases l with
 | nil =>
   simp +contextual only [avs, nil_lst0, op_litA, alitA, sZ, Nat.reduceEqDiff, Nat.reduceAdd, ↓reduceIte, reduceCtorEq]
   refine ⟨aret_one H.length (Nat.le_refl _) (by rw [gt_cons, if_pos rfl]; rfl) ⟨.inl ⟨rfl, by rw [gt_cons, if_pos rfl]⟩, by simp, by simp⟩, ?_⟩
   refine ⟨rfl, appendE0 (by simp [flat]) ?_⟩
   simp +contextual only [sZ, ↓reduceIte, reduceCtorEq]
   refine aret_one (H.length + 1) (by omega) (by rw [gt_cons, if_pos rfl, bw_arr]; exact decide_eq_true (by omega)) ?_
   rw [gt_cons, if_pos rfl, List.take_of_length_le (by simp)]
   exact ⟨.inr ⟨H.length, 0, Nat.le_refl _, rfl, by simp [cellsO, avs, flat, apad], Nat.le_refl _⟩, by simp, by simp⟩
 | cons v r =>
   simp +contextual only [avs, nil_lst1, op_litA, alitA, sZ, Nat.reduceEqDiff, Nat.reduceAdd, ↓reduceIte, reduceCtorEq]
   refine ⟨rfl, appendE okO_zT (by simp [flat]) (avs (v :: r)) (by simp [avs]) (okO_avs _) (by rw [avs_lenT]; exact hb) (base := H.length) (by simp) fun v' G' hR hG hl => ?_⟩
   obtain ⟨o1, o2, o3, o4⟩ := hR.one
   simp +contextual only [o3, sZ, ↓reduceIte, reduceCtorEq]
   have hl' : H.length ≤ G'.length := by simp at hl; omega
   refine aret_one G'.length hl' (by rw [gt_cons, if_pos rfl]; exact hR.blw (Nat.le_refl _)) ?_
   rw [gt_cons, if_pos rfl, List.take_length]
   refine ⟨?_, by rw [hG]; simp, hl'⟩
   rcases hR with ⟨h, _⟩ | ⟨id, cap, a, b, c, d, _⟩
   ·cases h
   ·rw [avs_lenT] at b d; exact .inr ⟨id, cap, a, b, c, d⟩
theorem loadT {l : List T} {cap i : Nat} (h : i < l.length) (φ : AV → Prop) : loadC (some (cellsO zT (avs l) cap)) (some 3) (i * 3) φ = φ (l.getD i default).av := by
 obtain ⟨g1, _⟩ := okO.flat (okO_avs l)
 rw [avs_lenT] at g1
 have h1 := flatO_drop (okO_avs l) i (by rw [avs_lenT]; exact h)
 rw [avs_get h] at h1
 have hl3 : (l.getD i default).av.cells.length = 3 := (okO_av _).len
 have e : ((flat (avs l) ++ apad zT (cap - (avs l).length)).drop (i * 3)).take 3 = (l.getD i default).av.cells := by
  rw [List.drop_append_of_le_length (by omega), h1, List.append_assoc, List.take_append_of_le_length (by omega), List.take_of_length_le (by omega)]
 simp only [cellsO, loadC, e, eq_iff_iff, List.length_append]
 have e2 : AV.agg ((l.getD i default).av.cells.map AV.drop) = (l.getD i default).av := by rw [av_eq]; rfl
 rw [e2]
 constructor
 ·exact fun h => h.2
 ·exact fun h2 => ⟨by omega, h2⟩
theorem storeT {l : List T} {cap i id : Nat} (h : i < l.length) {H : List AObj} (hg : H[id]? = some (cellsO zT (avs l) cap)) {K : List AObj → Prop} (hK : K H) : storeC (some (cellsO zT (avs l) cap)) 3 id (i * 3) (l.getD i default).av H K := by
 obtain ⟨g1, _⟩ := okO.flat (okO_avs l)
 rw [avs_lenT] at g1
 have h1 := flatO_drop (okO_avs l) i (by rw [avs_lenT]; exact h)
 rw [avs_get h] at h1
 have ho := okO_av (l.getD i default)
 have hl3 := ho.len
 have hs : asplice (flat (avs l) ++ apad zT (cap - (avs l).length)) (i * 3) ((l.getD i default).av.cells.map AV.unown) = flat (avs l) ++ apad zT (cap - (avs l).length) := by
  rw [ho.un]
  unfold asplice
  have e1 : (flat (avs l) ++ apad zT (cap - (avs l).length)).drop (i * 3) = (l.getD i default).av.cells ++ (flat ((avs l).drop (i + 1)) ++ apad zT (cap - (avs l).length)) := by
   rw [List.drop_append_of_le_length (by omega), h1, List.append_assoc]
  have e2 : (flat (avs l) ++ apad zT (cap - (avs l).length)).drop (i * 3 + (l.getD i default).av.cells.length) = flat ((avs l).drop (i + 1)) ++ apad zT (cap - (avs l).length) := by
   rw [← List.drop_drop, e1, List.drop_left]
  rw [e2, ← e1, List.take_append_drop]
 have hv : (l.getD i default).av.val = true := by rw [av_eq]; rfl
 simp only [cellsO, storeC]
 refine ⟨hv, hl3, by rw [List.length_append]; omega, ho.one, by rw [ho.un]; exact belowL_mono (Nat.zero_le _) _ ho.bl, ?_⟩
 rw [hs, show (AObj.cells (flat (avs l) ++ apad zT (cap - (avs l).length))) = cellsO zT (avs l) cap from rfl, set_id hg]
 exact hK
theorem CT.set {base : Nat} {v : AV} {l : List T} {G : List AObj} (h : CT base v l G) {j : Nat} (hj : j < base) (o : AObj) : CT base v l (G.set j o) := by
 rcases h with h | ⟨id, cap, a, b, c, d⟩
 ·exact .inl h
 ·exact .inr ⟨id, cap, a, b, by rw [List.getElem?_set_ne (by omega)]; exact c, d⟩
theorem CT.app {base : Nat} {v : AV} {l : List T} {G : List AObj} (h : CT base v l G) (X : List AObj) : CT base v l (G ++ X) := by
 rcases h with h | ⟨id, cap, a, b, c, d⟩
 ·exact .inl h
 ·exact .inr ⟨id, cap, a, b, by rw [List.getElem?_append_left (get_lt c)]; exact c, d⟩
theorem CT.get {base : Nat} {v : AV} {l : List T} {G : List AObj} (h : CT base v l G) {i : Nat} (hi : i < l.length) : ∃ id cap, base ≤ id ∧ v = .arr id 0 l.length cap ∧ G[id]? = some (cellsO zT (avs l) cap) ∧ l.length ≤ cap := by
 rcases h with ⟨rfl, _⟩ | h
 ·simp at hi
 ·exact h
theorem c104 : ∀ (n : Nat) (t : T), wt t ≤ n → wt t ≤ 1000000000 → Pure Tryz.prog 104 [t.av] t.av := by
 intro n
 induction n with
 | zero => intro t h; have := wt_pos t; omega
 | succ n ih =>
   intro t hn hb H
   refine k104v.2.callsS rfl ?_
   simp only [k104v, mkF]
   have hw := wt_eq t
   have hlw := len_wts t.l
   rw [av_eq]
   simp +contextual only [sZ, Nat.reduceEqDiff, Nat.reduceAdd, Nat.reduceLT, ↓reduceIte]
   have hgl : (H ++ [AObj.cells [.int .i64 t.k, .int .i64 t.n, .lst 0 (avs t.l)], .cells [.int .i64 0, .int .i64 0, .nils]]).length = H.length + 2 := by simp
   refine scall_to (c58w t.l _ (by omega)) ?_
   rintro v G ⟨hC, hG, hl⟩
   rw [hgl] at hC hG hl
   obtain ⟨o1, o2, o3, o4⟩ := hC.one
   have g0 : G[H.length]? = some (.cells [.int .i64 t.k, .int .i64 t.n, .lst 0 (avs t.l)]) := by
    have : (G.take (H.length + 2))[H.length]? = G[H.length]? := by rw [List.getElem?_take, if_pos (by omega)]
    rw [← this, hG]; simp
   have g1 : G[H.length + 1]? = some (.cells [.int .i64 0, .int .i64 0, .nils]) := by
    have : (G.take (H.length + 2))[H.length + 1]? = G[H.length + 1]? := by rw [List.getElem?_take, if_pos (by omega)]
    rw [← this, hG]; simp
   have hG' : G.take H.length = H := by
    have : G.take H.length = (G.take (H.length + 2)).take H.length := by rw [List.take_take]; congr 1; omega
    rw [this, hG]; simp
   have hbv := hC.blw (Nat.le_refl _)
   have hl0 : H.length < G.length := by omega
   have hset : ∀ o, (G.set H.length o)[H.length]? = some o := fun o => List.getElem?_set_self hl0
   simp +contextual only [stepsX, o1, o2, o3, o4, g0, hbv, hset, hC.lenOk, hC.len, sZ, Nat.reduceEqDiff, Nat.reduceAdd, Nat.reduceLT, ↓reduceIte]
   refine swp_loop_stL t.l.length (fun i (G : List AObj) => CT (H.length + 2) v t.l G ∧ G[H.length]? = some (.cells [.int .i64 t.k, .int .i64 t.n, v]) ∧ G[H.length + 1]? = some (.cells [.int .i64 0, .int .i64 0, .nils]) ∧ G.take H.length = H)
    (fun i G => [(1, .ptr H.length 0), (2, .ptr (H.length + 1) 0), (10, v), (11, .int .i64 t.l.length), (12, .int .i64 i)]) (fun i G => G) (G.set H.length (.cells [.int .i64 t.k, .int .i64 t.n, v]))
    ⟨⟨hC.set (by omega) _, hset _, by rw [List.getElem?_set_ne (by omega)]; exact g1, by rw [List.take_set_of_le (by omega)]; exact hG'⟩, sleL_refl _ _ _⟩ fun i G hi hI => ?_
   clear hG g0 g1 hG' hbv hl0 hset hl hC
   obtain ⟨hC, g0, g1, hG⟩ := hI
   by_cases hlt : i < t.l.length
   ·have hlt' : ((i : Int) < t.l.length) = True := eq_true (by omega)
    obtain ⟨id, cap, hid, rfl, hg, hcap⟩ := hC.get hlt
    have hgl := get_lt hg
    have hg' : ∀ X, (G ++ X)[id]? = some (cellsO zT (avs t.l) cap) := fun X => by rw [List.getElem?_append_left hgl]; exact hg
    have g0' : ∀ X, (G ++ X)[H.length]? = some (.cells [.int .i64 t.k, .int .i64 t.n, .arr id 0 t.l.length cap]) := fun X => by rw [List.getElem?_append_left (get_lt g0)]; exact g0
    have hx := av_eq (t.l.getD i default)
    have hL : ∀ φ, loadC (some (cellsO zT (avs t.l) cap)) (some 3) (i * 3) φ = φ (.agg [.int .i64 (t.l.getD i default).k, .int .i64 (t.l.getD i default).n, .lst 0 (avs (t.l.getD i default).l)]) := fun φ => by rw [← hx]; exact loadT hlt φ
    have hwx : wt (t.l.getD i default) ≤ wts t.l := by
     have := wts_take hlt; have := wts_take_le t.l (i + 1); omega
    have hcall := ih (t.l.getD i default) (by omega) (by omega)
    rw [hx] at hcall
    have hS := fun {H' : List AObj} (hg : H'[id]? = some (cellsO zT (avs t.l) cap)) {K : List AObj → Prop} (hK : K H') => storeT (id := id) hlt hg hK
    rw [hx] at hS
    simp +contextual only [hlt', decide_true, idxO, hg, hL, g0', sZ, Nat.reduceEqDiff, Nat.reduceAdd, Nat.reduceLT, ↓reduceIte, reduceCtorEq]
    refine ⟨hlt, scall_pure hcall ?_, scall_pure hcall ?_⟩
    all_goals
     simp +contextual only [idxO, g0', hg', sZ, Nat.reduceEqDiff, Nat.reduceAdd, Nat.reduceLT, ↓reduceIte, reduceCtorEq]
     refine ⟨hlt, hS (hg' _) ?_⟩
     simp +contextual only [sZ, Nat.reduceEqDiff, ↓reduceIte]
     refine ⟨i + 1, _, ⟨hlt, hC.app _, g0' _, by rw [List.getElem?_append_left (get_lt g1)]; exact g1, by rw [List.take_append_of_le_length (by have := get_lt g1; omega)]; exact hG⟩, by omega, sleL_eq (by rw [wrap_nat i (by omega)]) rfl⟩
   ·have hi' : i = t.l.length := by omega
    have hlt' : ((i : Int) < t.l.length) = False := eq_false (by omega)
    simp +contextual only [stepsX, hlt', decide_false, g0, sZ, Nat.reduceEqDiff, ↓reduceIte]
    have fin : ∀ (G' : List AObj), G'[H.length + 1]? = some (.cells [.int .i64 t.k, .int .i64 t.n, .lst 0 (avs t.l)]) → G'.take H.length = H → loadC G'[H.length + 1]? (some 3) 0 fun v => aretC1 (sealS H.length) H.length v G' fun r H' => r = AV.agg [AV.int IntKind.i64 t.k, AV.int IntKind.i64 t.n, AV.lst 0 (avs t.l)] ∧ H' = H := by
     intro G' h1 h2
     rw [h1, loadC_3]
     exact ⟨H.length, H, Nat.le_refl _, sealS_low h2 rfl, _, le_refl _, by simp [AV.drop, bw_agg, bl_cons, bl_nil, bw_int, bw_lst, avs_blw], rfl, rfl⟩
    have ls : ∀ (l : List AV) (G' : List AObj), (∀ o, (G'.set (H.length + 1) o).take H.length = G'.take H.length) := fun l G' o => List.take_set_of_le (by omega)
    have hl1 := get_lt g1
    rcases hC with ⟨e, rfl⟩ | ⟨id, cap, hid, rfl, hg, hcap⟩
    ·rw [e] at fin ⊢
     have e1 : ∀ (K : AV → List AObj → Prop), asetf1 3 AV.nils.drop G K = K (.lst 0 []) G := fun K => rfl
     rw [e1]
     simp +contextual only [stepsX, g1, sZ, Nat.reduceEqDiff, Nat.reduceAdd, ↓reduceIte, reduceCtorEq]
     exact fin _ (List.getElem?_set_self hl1) (by rw [List.take_set_of_le (by omega)]; exact hG)
    ·have e1 : ∀ l c, (AV.arr id 0 l c).drop = .arr id 0 l c := fun _ _ => rfl
     rw [e1]
     have ef := fun K hK => freezeRO (esz := 3) (by decide) okO_zT (okO_avs t.l) (fun x hx => by obtain ⟨y, _, rfl⟩ := mem_avs hx; rw [av_eq]; rfl) hg (by rw [avs_lenT]; exact hcap) (K := K) hK
     rw [avs_lenT] at ef
     refine ef _ ?_
     have g1' : (G.set id .dead)[H.length + 1]? = some (.cells [.int .i64 0, .int .i64 0, .nils]) := by rw [List.getElem?_set_ne (by omega)]; exact g1
     simp +contextual only [stepsX, g1', sZ, Nat.reduceEqDiff, Nat.reduceAdd, ↓reduceIte, reduceCtorEq]
     exact fin _ (List.getElem?_set_self (by simpa using hl1)) (by rw [List.take_set_of_le (by omega), List.take_set_of_le (by omega)]; exact hG)
end Go.Abs
end
section
set_option maxRecDepth 100000
namespace Go.Abs
open Go Go.Proofs Go.Rpo
def minI (r : T → T → Bool) (l : List T) : Nat := l.findIdx fun a => l.all fun x => !r a x
def srt (r : T → T → Bool) : Nat → List T → List T
 | 0, _ => []
 | n + 1, l => l.getD (minI r l) default :: srt r n (l.eraseIdx (minI r l))
theorem exMin {r : T → T → Prop} (hi : ∀ a, ¬ r a a) (ht : ∀ a b c, r a b → r b c → r a c) : ∀ l : List T, l ≠ [] → ∃ a ∈ l, ∀ x ∈ l, ¬ r a x
 | [], h => absurd rfl h
 | [a], _ => ⟨a, List.mem_cons_self, fun x hx => by rcases List.mem_cons.1 hx with rfl | hx; exact hi _; cases hx⟩
 | a :: b :: l, _ => by
   obtain ⟨m, hm, hl⟩ := exMin hi ht (b :: l) (by simp)
   by_cases h : r m a
   ·refine ⟨a, List.mem_cons_self, fun x hx => ?_⟩
    rcases List.mem_cons.1 hx with rfl | hx
    ·exact hi _
    ·exact fun h' => hl x hx (ht _ _ _ h h')
   ·refine ⟨m, List.mem_cons_of_mem _ hm, fun x hx => ?_⟩
    rcases List.mem_cons.1 hx with rfl | hx
    ·exact h
    ·exact hl x hx
noncomputable def srtS (s : Sg) (ps ss : List Int) (ts : List T) : List T × Int :=
 if askS s ps ss ts = 0 then if 1000 < ts.length then ([], 2) else (srt (grB ps ss) ts.length ts, 0) else ([], askS s ps ss ts)
theorem apad_zI (n : Nat) : apad zI n = ints (List.replicate n 0) := by
 induction n with
 | zero => rfl
 | succ n ih =>
   have e : apad zI (n + 1) = .int .i64 0 :: apad zI n := rfl
   rw [e, ih]; rfl
theorem cellsO_I (l : List Int) (cap : Nat) : cellsO zI (ints l) cap = .cells (ints (l ++ List.replicate (cap - l.length) 0)) := by
 rw [cellsI, apad_zI, ints_app]
theorem c105o {L : List Int} {n id cap : Nat} (hn : n < L.length) (hc : L.length ≤ cap) (hb : L.length ≤ 1000000000) {H : List AObj} (hg : H[id]? = some (cellsO zI (ints L) cap)) :
 ACalls Tryz.prog 105 [.arr id 0 L.length cap, .int .i64 (n : Int), .int .i64 ((n : Int) + 1)] H fun r H' => r = .arr id 0 (L.eraseIdx n).length cap ∧ H' = H.set id (cellsO zI (ints (L.eraseIdx n)) cap) := by
 have e1 : L = L.take n ++ L.getD n 0 :: L.drop (n + 1) := by
  have : L.getD n 0 = L[n] := by simp [hn]
  rw [this, ← List.drop_eq_getElem_cons hn, List.take_append_drop]
 have e2 : L.eraseIdx n = L.take n ++ L.drop (n + 1) := List.eraseIdx_eq_take_drop_succ ..
 have l1 : (L.take n).length = n := by simp; omega
 have l2 : (L.drop (n + 1)).length = L.length - (n + 1) := by simp
 have hp : (L.take n ++ L.getD n 0 :: L.drop (n + 1) ++ List.replicate (cap - L.length) 0).length = cap := by rw [← e1]; simp; omega
 have hg' : H[id]? = some (.cells (ints (L.take n ++ L.getD n 0 :: L.drop (n + 1) ++ List.replicate (cap - L.length) 0))) := by rw [← e1, ← cellsO_I]; exact hg
 have h := c105 (L.take n) (L.drop (n + 1)) (List.replicate (cap - L.length) 0) (L.getD n 0) (by rw [← e1]; exact hb) id cap hp.symm hg'
 have el : L.take n ++ L.drop (n + 1) ++ 0 :: List.replicate (cap - L.length) 0 = L.eraseIdx n ++ List.replicate (cap - (L.eraseIdx n).length) 0 := by
  rw [e2]
  congr 1
  rw [List.length_append, l1, l2, show cap - (n + (L.length - (n + 1))) = (cap - L.length) + 1 by omega]
  rfl
 have ll : (L.eraseIdx n).length = (L.take n).length + (L.drop (n + 1)).length := by rw [e2, List.length_append]
 rw [el, l1, l2, show n + 1 + (L.length - (n + 1)) = L.length by omega] at h
 rw [cellsO_I, ll, l1, l2]
 rw [ll, l1, l2] at h
 exact h
theorem srt_step {r : T → T → Bool} {l : List T} {n : Nat} (hn : n < l.length) (h1 : ∀ x ∈ l, r (l.getD n default) x = false) (h2 : ∀ j, j < n → ∃ x ∈ l, r (l.getD j default) x = true) : minI r l = n := by
 unfold minI
 rw [List.findIdx_eq hn]
 refine ⟨?_, fun j hj => ?_⟩
 ·have e : l[n] = l.getD n default := by simp [hn]
  rw [e, List.all_eq_true]
  intro x hx; rw [h1 x hx]; rfl
 ·obtain ⟨x, hx, h⟩ := h2 j hj
  have hjl : j < l.length := by omega
  have e : l[j] = l.getD j default := by simp [hjl]
  rw [e, List.all_eq_false]
  exact ⟨x, hx, by rw [h]; simp⟩
theorem map_getD {c : Cx} {L : List Int} {n : Nat} (h : n < L.length) : (L.map c.tm).getD n default = c.tm (L.getD n 0) := by simp [h]
theorem ret2s {Hs G : List AObj} {n0 : Nat} {l : List T} {e : Int} {u : AV} (hu : u.unown.le (.lst 0 (avs l))) (hH : Hs.take n0 = G) : aret n0 [.t 6, .t 7] [(6, u), (7, .int .i64 e)] Hs (fun r H' => r = .tuple [.lst 0 (avs l), .int .i64 e] ∧ H' = G) := by
 subst hH
 refine ⟨n0, Nat.le_refl _, [.lst 0 (avs l), .int .i64 e], ?_, by simp [belowL, bw_lst, avs_blw, bw_int], rfl, rfl⟩
 exact ⟨hu, le_refl _, trivial⟩
theorem outT_un_le (vs : List T) : (outT vs).unown.le (.lst 0 (avs vs)) := by
 cases vs with
 | nil => exact .inr (.inr (.inr (.inl ⟨rfl, 0, rfl⟩)))
 | cons v r => exact le_refl _
theorem Du.untake {c : Cx} {H : List AObj} {n : Nat} (h : Du c (H.take n)) (hn : True) : Du c H := by
 have hg : ∀ {j : Nat} {o : AObj}, (H.take n)[j]? = some o → H[j]? = some o := by
  intro j o h
  rw [List.getElem?_take] at h
  split at h
  ·exact h
  ·cases h
 exact ⟨hg h.d, by obtain ⟨m, h1, h2⟩ := h.e; exact ⟨m, hg h1, h2⟩, by obtain ⟨m, h1, h2⟩ := h.g; exact ⟨m, hg h1, h2⟩⟩
theorem c37 (s : Sg) (ps ss : List Int) (ts : List T) (hlen : ts.length < 9223372036854775808) : Pure Tryz.prog 37 [s.av, odA ps ss, .lst 0 (avs ts)] (.tuple [.lst 0 (avs (srtS s ps ss ts).1), .int .i64 (srtS s ps ss ts).2]) := by
 refine fun H => k37v.2.calls rfl ?_
 simp only [k37v, mkF]
 obtain ⟨q1, q2, q3, q4, q5, q6⟩ := odA_facts ps ss
 simp +contextual only [stepsO, q1, q4, li_od, sZ, Nat.reduceEqDiff, Nat.reduceAdd, ↓reduceIte, reduceCtorEq]
 refine scall_pure (c74 s ps ss ts) ?_
 by_cases h0 : askS s ps ss ts = 0
 ·by_cases hbig : 1000 < ts.length
  ·have e : srtS s ps ss ts = ([], 2) := by unfold srtS; rw [if_pos h0, if_pos hbig]
   have hb' : ((1000 : Int) < ts.length) = True := eq_true (by omega)
   rw [e]
   simp +contextual only [h0, hb', decide_true, hlen, sZ, Nat.reduceEqDiff, ↓reduceIte, reduceCtorEq]
   exact ret2s (outT_un_le []) List.take_length
  ·have e : srtS s ps ss ts = (srt (grB ps ss) ts.length ts, 0) := by unfold srtS; rw [if_pos h0, if_neg hbig]
   have hb' : ((1000 : Int) < ts.length) = False := eq_false (by omega)
   rw [e]
   have hr := askS_ok h0
   have hw := wts_all hr.tree
   simp +contextual only [q4, li_od, h0, hb', decide_false, hlen, sZ, Nat.reduceEqDiff, Nat.reduceAdd, ↓reduceIte]
   refine scall_to (c75s ps ss ts H (by omega)) ?_
   rintro r G ⟨va, rfl, hG, hGl, hR⟩
   obtain ⟨o1, o2, o3, o4⟩ := hR.one
   have hbv : ∀ n, G.length ≤ n → va.blw n = true := fun n hn => hR.blw hn
   have hb1 := hbv (G.length + 2) (by omega)
   have hb2 : ∀ o o', va.blw (G ++ [o, o'] : List AObj).length = true := fun o o' => hbv _ (by simp)
   have hp1 : (AV.ptr (H.length + 2) 0).blw (G.length + 1) = true := by rw [bw_ptr]; exact decide_eq_true (by omega)
   simp +contextual only [o1, o2, o3, o4, hb1, hp1, sZ, Nat.reduceEqDiff, Nat.reduceAdd, Nat.reduceLT, ↓reduceIte]
   refine ⟨rfl, by decide, ?_⟩
   have hG0 : G.take H.length = H := by
    have : G.take H.length = (G.take (H.length + 3)).take H.length := by rw [List.take_take]; congr 1; omega
    rw [this, hG]; simp
   rcases hR with ⟨e1, rfl⟩ | ⟨id, cap, hid, rfl, hg, hcap, hne⟩
   ·have e2 : ts = [] := by
     have := kidsOf_len ts 0
     have h3 : kidsOf ts 0 = [] := List.map_eq_nil_iff.1 e1
     rw [h3] at this
     exact List.length_eq_zero_iff.1 this.symm
    subst e2
    refine swp_loop_st 0 (fun _ _ => True) (fun i (p : Unit) => [(9, .ptr G.length 0), (10, .ptr (G.length + 1) 0), (11, .nils)]) (fun i p => G ++ [.cells [.ptr (H.length + 2) 0], .cells [.nils]]) () ⟨trivial, sle_eq rfl ?_⟩ fun i p hi hI => ?_
    ·rfl
    ·simp +contextual only [sZ, Nat.reduceEqDiff, Nat.reduceAdd, Nat.reduceLT, ↓reduceIte, reduceCtorEq, Int.reduceLT]
     exact ret2s (outT_un_le []) (by rw [List.take_append_of_le_length (by omega)]; exact hG0)
   ·have hne2 : ts ≠ [] := fun e => hne (by rw [e]; rfl)
    have hid9 : id < G.length := get_lt hg
    obtain ⟨c, ec⟩ : ∃ c, c = cxOf ps ss ts H.length := ⟨_, rfl⟩
    have hc : c.Ok := by rw [ec]; exact hr.cx hne2 (by omega) H.length
    have cO : c.O = odOf ps ss := by rw [ec]; rfl
    have cd : c.d = H.length + 2 := by rw [ec]; rfl
    have ce : c.e = H.length := by rw [ec]; rfl
    have cg : c.g = H.length + 1 := by rw [ec]; rfl
    have hD0 : Du c (G ++ [.cells [.ptr (H.length + 2) 0], .cells [.arr id 0 (kidsOf ts 0).length cap]]) := by
     have h1 := cx_du ps ss hne2 H
     rw [← ec, ← hG] at h1
     exact Du.app (h1.untake trivial) _
    obtain ⟨k1, k2⟩ := (emL0 ts).kids
    have hmap : (kidsOf ts 0).map c.tm = ts := by rw [ec]; exact k1
    have hisN : ∀ x ∈ kidsOf ts 0, c.isN x := by rw [ec]; exact k2
    rw [ints_len] at *
    have hkl := kidsOf_len ts 0
    refine swp_loop_st ts.length (fun j (p : List Int × List T × List AObj) => j + p.1.length = ts.length ∧ (∀ x ∈ p.1, c.isN x) ∧ srt (grB ps ss) ts.length ts = p.2.1 ++ srt (grB ps ss) p.1.length (p.1.map c.tm) ∧ p.2.1.length = j ∧ Du c p.2.2 ∧
     p.2.2[G.length]? = some (.cells [.ptr c.d 0]) ∧ p.2.2[G.length + 1]? = some (.cells [.arr id 0 p.1.length cap]) ∧ p.2.2[id]? = some (cellsO zI (ints p.1) cap) ∧ p.2.2.take H.length = H ∧ p.1.length ≤ cap ∧ ∀ x ∈ p.1, c.tm x ∈ ts)
     (fun i p => [(9, .ptr G.length 0), (10, .ptr (G.length + 1) 0), (11, outT p.2.1)]) (fun i p => p.2.2) (kidsOf ts 0, [], G ++ [.cells [.ptr (H.length + 2) 0], .cells [.arr id 0 (kidsOf ts 0).length cap]])
     ⟨⟨by simp [hkl], hisN, by rw [hmap, hkl]; rfl, rfl, hD0, by rw [cd]; simp, by simp, by rw [List.getElem?_append_left hid9]; exact hg, by rw [List.take_append_of_le_length (by omega)]; exact hG0, hcap, fun x hx => by rw [← hmap]; exact List.mem_map_of_mem hx⟩, sle_eq rfl rfl⟩ fun j p hj hI => ?_
    obtain ⟨L, out, F⟩ := p
    obtain ⟨i1, i2, i3, i4, i5, i6, i7, i8, i9, i10, i11⟩ := hI
    simp only at i1 i2 i3 i4 i5 i6 i7 i8 i9 i10 i11
    have hll : L.length ≤ 1000 := by omega
    by_cases hL : L = []
    ·have hz : ((0 : Int) < (L.length : Int)) = False := eq_false (by rw [hL]; simp)
     have hun : (outT out).unown.unown = (outT out).unown := by cases out <;> rfl
     simp +contextual only [i7, hz, decide_false, hun, sZ, Nat.reduceEqDiff, Nat.reduceAdd, Nat.reduceLT, ↓reduceIte, reduceCtorEq]
     have e2 : srt (grB ps ss) ts.length ts = out := by rw [i3, hL]; simp [srt]
     rw [e2]
     exact ret2s (by rw [hun]; exact outT_un_le out) i9
    ·have hpos := List.length_pos_iff.2 hL
     have hz : ((0 : Int) < (L.length : Int)) = True := eq_true (by omega)
     simp +contextual only [i7, hz, decide_true, sZ, Nat.reduceEqDiff, Nat.reduceAdd, Nat.reduceLT, ↓reduceIte, reduceCtorEq]
     refine scall_to (c100a (Q := fun i => ¬ ∃ x ∈ L, R c.O (c.tm i) (c.tm x)) (SG.len c F) (fun G' hG' => by rw [hG'.2.get id (by omega) (by omega), i8]) i10 (by omega) 101 [] [.ptr (G.length + 1) 0, .ptr G.length 0] rfl rfl
      (fun x hx H' hH' => c101 hc (i2 x hx) i2 i10 (by omega) i6 (by omega) (by omega) i7 (by omega) (by omega) i8 (by omega) (by omega) H' hH') ⟨i5, Up.refl c F⟩) ?_
     rintro r F1 ⟨⟨hD1, hU1⟩, hq⟩
     have hmin : ∃ n : Nat, r = .int .i64 n ∧ n < L.length ∧ (¬ ∃ x ∈ L, R c.O (c.tm (L.getD n 0)) (c.tm x)) ∧ ∀ j, j < n → ∃ x ∈ L, R c.O (c.tm (L.getD j 0)) (c.tm x) := by
      rcases hq with ⟨_, hq⟩ | ⟨n, h1, h2, h3, h4⟩
      ·exfalso
       obtain ⟨m, hm, h1⟩ := exMin (r := fun a b => R c.O a b) (fun a => R_irr rfl) (fun a b d h h' => R_trans h h') (L.map c.tm) (by simpa using hL)
       obtain ⟨x, hx, rfl⟩ := List.mem_map.1 hm
       refine hq x hx fun ⟨y, hy, h⟩ => h1 _ (List.mem_map_of_mem hy) h
      ·exact ⟨n, h1, h2, h3, fun j hj => Classical.not_not.1 (h4 j hj)⟩
     obtain ⟨n, rfl, hn, h1, h2⟩ := hmin
     have j7 : F1[G.length + 1]? = some (.cells [.arr id 0 L.length cap]) := by rw [hU1.get _ (by omega) (by omega), i7]
     have j6 : F1[G.length]? = some (.cells [.ptr c.d 0]) := by rw [hU1.get _ (by omega) (by omega), i6]
     have j8 : F1[id]? = some (cellsO zI (ints L) cap) := by rw [hU1.get _ (by omega) (by omega), i8]
     have j9 : F1.take H.length = H := by
      refine Eq.trans ?_ i9
      apply List.ext_getElem?
      intro k
      rw [List.getElem?_take, List.getElem?_take]
      by_cases hk : k < H.length
      ·rw [if_pos hk, if_pos hk]; exact hU1.get _ (by omega) (by omega)
      ·rw [if_neg hk, if_neg hk]
     have hmi : minI (grB ps ss) (L.map c.tm) = n := by
      refine srt_step (by simpa using hn) (fun x hx => ?_) fun j hj => ?_
      ·obtain ⟨y, hy, rfl⟩ := List.mem_map.1 hx
       rw [map_getD hn]
       cases hb : grB ps ss (c.tm (L.getD n 0)) (c.tm y) with
       | false => rfl
       | true => exact absurd ⟨y, hy, by rw [cO]; exact grB_iff.1 hb⟩ h1
      ·obtain ⟨y, hy, h⟩ := h2 j hj
       rw [map_getD (by omega)]
       exact ⟨_, List.mem_map_of_mem hy, grB_iff.2 (by rw [← cO]; exact h)⟩
     have hxN := i2 _ (getD_mem hn)
     have hcl : c.nd.length ≤ 2000000 := by
      have : c.nd = layL ts 0 := by rw [ec]; rfl
      rw [this, layL_len]; omega
     simp +contextual only [j7, j6, j8, hD1.d, idxN, fN0, len_navs, idxO, loadI hn, sZ, Nat.reduceEqDiff, Nat.reduceAdd, Nat.reduceLT, ↓reduceIte, reduceCtorEq]
     have htree := hr.tree _ (i11 _ (getD_mem hn))
     have hwx : wt (c.tm (L.getD n 0)) ≤ 2000 := by
      have := ((T.tree_iff _).1 htree).1; have := wt_sz (c.tm (L.getD n 0)); omega
     have h104 : Pure Tryz.prog 104 [(c.nd.getD (L.getD n 0).toNat default).fst.av] (c.tm (L.getD n 0)).av := c104 _ (c.tm (L.getD n 0)) (Nat.le_refl _) (by omega)
     have h105 := c105o hn i10 (by omega) j8
     have hge : (L.eraseIdx n).length = L.length - 1 := List.length_eraseIdx_of_lt hn
     refine ⟨hn, hxN, scall_pure h104 ?_, scall_pure h104 ?_⟩
     all_goals
      simp +contextual only [ap_outT, outT_snoc, j7, sZ, Nat.reduceEqDiff, Nat.reduceAdd, Nat.reduceLT, ↓reduceIte, reduceCtorEq]
      refine ⟨by omega, ?_⟩
      rw [wrap_in _ (by omega)]
      refine scall_to h105 ?_
      rintro r F2 ⟨rfl, rfl⟩
      have m7 : (F1.set id (cellsO zI (ints (L.eraseIdx n)) cap))[G.length + 1]? = some (.cells [.arr id 0 L.length cap]) := by rw [List.getElem?_set_ne (by omega)]; exact j7
      have hbl : (AV.arr id 0 (L.eraseIdx n).length cap).blw (G.length + 1 + 1) = true := by rw [bw_arr]; exact decide_eq_true (by omega)
      have r1 : ∀ l, (AV.arr id 0 l cap).one = true ∧ (AV.arr id 0 l cap).val = true ∧ (AV.arr id 0 l cap).unown = .arr id 0 l cap ∧ (AV.arr id 0 l cap).cells = [.arr id 0 l cap] := fun _ => ⟨rfl, rfl, rfl, rfl⟩
      obtain ⟨u1, u2, u3, u4⟩ := r1 (L.eraseIdx n).length
      simp +contextual only [m7, hbl, u1, u2, u3, u4, sZ, Nat.reduceEqDiff, Nat.reduceAdd, ↓reduceIte]
      refine ⟨j + 1, (L.eraseIdx n, out ++ [c.tm (L.getD n 0)], _), ⟨by omega, by show j + 1 + (L.eraseIdx n).length = _; omega, fun x hx => i2 x (List.mem_of_mem_eraseIdx hx), ?_, by simp [i4], ?_, ?_, ?_, ?_, ?_, by show (L.eraseIdx n).length ≤ cap; omega, fun x hx => i11 x (List.mem_of_mem_eraseIdx hx)⟩, by omega, sle_eq rfl rfl⟩
      ·have hs : L.length = (L.eraseIdx n).length + 1 := by omega
       rw [i3, hs, srt, hmi, map_getD hn, List.append_assoc]
       have em : (L.map c.tm).eraseIdx n = (L.eraseIdx n).map c.tm := by rw [List.eraseIdx_eq_take_drop_succ, List.eraseIdx_eq_take_drop_succ, List.map_append, List.map_take, List.map_drop]
       rw [em]; rfl
      ·exact (hD1.set (by omega) (by omega) (by omega)).set (by omega) (by omega) (by omega)
      ·rw [List.getElem?_set_ne (by omega), List.getElem?_set_ne (by omega)]; exact j6
      ·rw [List.getElem?_set_self (by have := get_lt j7; simp; omega)]
      ·rw [List.getElem?_set_ne (by omega), List.getElem?_set_self (get_lt j8)]
      ·rw [List.take_set_of_le (by omega), List.take_set_of_le (by omega)]; exact j9
 ·have e : srtS s ps ss ts = ([], askS s ps ss ts) := by unfold srtS; rw [if_neg h0]
  rw [e]
  simp +contextual only [h0, sZ, Nat.reduceEqDiff, ↓reduceIte, reduceCtorEq]
  exact ret2s (outT_un_le []) List.take_length
end Go.Abs
end
section
set_option maxRecDepth 1000000
namespace Go.Abs
open Go Go.Proofs Go.Rpo
def vT (n : Int) : T := .mk 1 n []
def oT (n : Int) (l : List T) : T := .mk 2 n l
def natSg : Sg := ⟨[⟨#[78]⟩], [⟨⟨#[122]⟩, [], 0⟩, ⟨⟨#[115]⟩, [0], 0⟩, ⟨⟨#[97, 100, 100]⟩, [0, 0], 0⟩]⟩
def natE0 : Eqt := ⟨[0], [], oT 2 [vT 0, oT 0 []], vT 0⟩
def natE1 : Eqt := ⟨[0, 0], [], oT 2 [vT 0, oT 1 [vT 1]], oT 1 [oT 2 [vT 0, vT 1]]⟩
def natTy : Ty := ⟨natSg, [natE0, natE1]⟩
theorem nat_run : callE Tryz.prog tab (execE Tryz.prog tab 100000) false 64 [] [] = some (natTy.av, []) := by kernel_rfl
theorem natCheck_run : callE Tryz.prog tab (execE Tryz.prog tab 100000) false 62 [natTy.av] [] = some (.int .i64 0, []) := by kernel_rfl
theorem natOcc_run : callE Tryz.prog tab (execE Tryz.prog tab 100000) false 92 [natTy.av] [] = some (.lst 0 (ints [0, 1, 2]), []) := by kernel_rfl
theorem c64 : Pure Tryz.prog 64 [] natTy.av := Pure.mk rfl ((callE_s tab_ok (execE_s tab_ok 100000)).1 _ _ _ _ _ nat_run)
theorem c62nat : Pure Tryz.prog 62 [natTy.av] (.int .i64 0) := Pure.mk rfl ((callE_s tab_ok (execE_s tab_ok 100000)).1 _ _ _ _ _ natCheck_run)
theorem c92nat : Pure Tryz.prog 92 [natTy.av] (.lst 0 (ints [0, 1, 2])) := Pure.mk rfl ((callE_s tab_ok (execE_s tab_ok 100000)).1 _ _ _ _ _ natOcc_run)
end Go.Abs
end
section
set_option maxRecDepth 100000
namespace Go.Abs
open Go Go.Proofs Go.Rpo
theorem c66 {a b : List Int} {va vb : AV} (ha : IL va a) (hb : IL vb b) (la : a.length ≤ 1000000000) (lb : b.length ≤ 1000000000) : Pure Tryz.prog 66 [va, vb] (.bool (decide (a = b))) := by
 refine fun H => k66.2.calls rfl ?_
 simp only [k66, mkF]
 obtain ⟨a1, a2, a3, a4⟩ := ha.one
 obtain ⟨b1, b2, b3, b4⟩ := hb.one
 simp +contextual only [a2, b2, ha.lenOk, hb.lenOk, ha.len (by omega), hb.len (by omega), sZ, Nat.reduceEqDiff, Nat.reduceAdd, ↓reduceIte, reduceCtorEq]
 refine ⟨fun hne => ret0 rfl (by rw [decide_eq_false (fun e => hne (by rw [e]))]), fun heq => ?_⟩
 refine swp_loop_nat a.length (fun i => ∀ j, j < i → a.getD j 0 = b.getD j 0)
  (fun i => [(0, va), (1, vb), (12, .int .i64 b.length), (13, .int .i64 i)]) (fun i => H) ⟨fun j hj => by omega, sle_refl _ _ _⟩ fun i hi hI => ?_
 simp +contextual only [a2, b2, ha.lens, hb.lens, ha.idx, hb.idx, Int.toNat_natCast, sZ, Nat.reduceEqDiff, ↓reduceIte, reduceCtorEq]
 refine ⟨fun hlt => ⟨by omega, by omega, fun hne => ?_, fun he => ?_⟩, fun hge => ?_⟩
 ·refine ret0 rfl (by rw [decide_eq_false (fun e => hne (by rw [e]))])
 ·refine ⟨i + 1, ⟨by omega, fun j hj => ?_⟩, by omega, sle_eq (by rw [wrap_nat i (by omega)]) rfl⟩
  by_cases h : j = i
  ·subst h; exact he
  ·exact hI j (by omega)
 ·refine ret0 rfl (by rw [decide_eq_true (list_ext0 (by omega) fun j hj => hI j (by omega))])
noncomputable def blmS (e : Int) (t : Ty) (ps ss : List Int) : Int × Bool × Int :=
 if e ≠ 0 then (0, false, e) else if chkO t.s ps ss ≠ 0 then (0, false, chkO t.s ps ss) else (max (blamS t ps ss) 0, decide (0 ≤ blamS t ps ss), 0)
def tri3 (p : Int × Bool × Int) : AV := .tuple [.int .i64 p.1, .bool p.2.1, .int .i64 p.2.2]
theorem c31 {t : Ty} {e : Int} (h62 : Pure Tryz.prog 62 [t.av] (.int .i64 e)) (ht : e = 0 → TyOk t) (ps ss : List Int) : Pure Tryz.prog 31 [t.av, odA ps ss] (tri3 (blmS e t ps ss)) := by
 refine fun H => k31.2.calls rfl ?_
 simp only [k31, mkF]
 obtain ⟨q1, q2, q3, q4, q5, q6⟩ := odA_facts ps ss
 obtain ⟨e1, e2, e3, e4, e5, e6⟩ := Ty.facts t
 simp +contextual only [q1, e1, e4, li_ty, sZ, Nat.reduceEqDiff, Nat.reduceAdd, ↓reduceIte, reduceCtorEq]
 refine scall_pure h62 ?_
 by_cases h0 : e = 0
 ·subst h0
  simp +contextual only [stepsO, q4, li_od, fY0, sZ, Nat.reduceEqDiff, Nat.reduceAdd, ↓reduceIte]
  refine scall_pure (c24 t.s ps ss) ?_
  by_cases h1 : chkO t.s ps ss = 0
  ·have hv := (chkO_iff.1 h1).2
   simp +contextual only [h1, q4, e4, li_od, li_ty, sZ, Nat.reduceEqDiff, Nat.reduceAdd, ↓reduceIte]
   refine scall_pure (c89 t ps ss hv.va fun q hq => (ht rfl).eq q hq ps hv.1) ?_
   simp +contextual only [sZ, Nat.reduceEqDiff, ↓reduceIte, reduceCtorEq]
   have e0 : blmS 0 t ps ss = (max (blamS t ps ss) 0, decide (0 ≤ blamS t ps ss), 0) := by unfold blmS; rw [if_neg (by simp), if_neg (by simp [h1])]
   rw [e0]
   exact ret3d (by decide) List.take_length ⟨rfl, rfl, rfl⟩ rfl rfl rfl ⟨rfl, rfl⟩
  ·have e0 : blmS 0 t ps ss = (0, false, chkO t.s ps ss) := by unfold blmS; rw [if_neg (by simp), if_pos h1]
   rw [e0]
   simp +contextual only [h1, sZ, Nat.reduceEqDiff, ↓reduceIte, reduceCtorEq]
   exact ret3d (by decide) List.take_length ⟨rfl, rfl, rfl⟩ rfl rfl rfl ⟨rfl, rfl⟩
 ·have e0 : blmS e t ps ss = (0, false, e) := by unfold blmS; rw [if_pos h0]
  rw [e0]
  simp +contextual only [h0, sZ, Nat.reduceEqDiff, ↓reduceIte, reduceCtorEq]
  exact ret3d (by decide) List.take_length ⟨rfl, rfl, rfl⟩ rfl rfl rfl ⟨rfl, rfl⟩
noncomputable def chkS (e : Int) (t : Ty) (ps ss : List Int) : Int := if (blmS e t ps ss).2.2 = 0 ∧ (blmS e t ps ss).2.1 = true then 60 else (blmS e t ps ss).2.2
theorem tri3_e (p : Int × Bool × Int) (φ : AV → Prop) : aextract (tri3 p) 0 φ = φ (.int .i64 p.1) ∧ aextract (tri3 p) 1 φ = φ (.bool p.2.1) ∧ aextract (tri3 p) 2 φ = φ (.int .i64 p.2.2) := by simp [tri3, aextract, un_int, un_bool]
theorem tri3_un (p : Int × Bool × Int) : (tri3 p).unown = tri3 p := rfl
theorem c33 {t : Ty} {e : Int} (h62 : Pure Tryz.prog 62 [t.av] (.int .i64 e)) (ht : e = 0 → TyOk t) (ps ss : List Int) : Pure Tryz.prog 33 [t.av, odA ps ss] (.int .i64 (chkS e t ps ss)) := by
 refine fun H => k33.2.calls rfl ?_
 simp only [k33, mkF]
 obtain ⟨q1, q2, q3, q4, q5, q6⟩ := odA_facts ps ss
 obtain ⟨e1, e2, e3, e4, e5, e6⟩ := Ty.facts t
 simp +contextual only [q1, q4, e1, e4, li_od, li_ty, sZ, Nat.reduceEqDiff, Nat.reduceAdd, ↓reduceIte, reduceCtorEq]
 refine scall_pure (c31 h62 ht ps ss) ?_
 unfold chkS
 generalize blmS e t ps ss = p
 have x1 := fun φ => (tri3_e p φ).1
 have x2 := fun φ => (tri3_e p φ).2.1
 have x3 := fun φ => (tri3_e p φ).2.2
 obtain ⟨n, b, m⟩ := p
 simp only at x1 x2 x3
 by_cases h0 : m = 0
 ·subst h0
  cases b <;>
  simp +contextual only [x1, x2, x3, tri3_un, sZ, Nat.reduceEqDiff, ↓reduceIte, reduceCtorEq] <;>
  exact ret0 rfl rfl
 ·have hm : (m = 0) = False := eq_false h0
  simp +contextual only [x1, x2, x3, tri3_un, hm, decide_false, sZ, Nat.reduceEqDiff, ↓reduceIte, reduceCtorEq]
  exact ret0 rfl (by simp [h0])
theorem ret3v {H e : List AObj} {u v w x y z : AV} (hb : x.blw H.length = true ∧ y.blw H.length = true ∧ z.blw H.length = true) (hx : u.unown = x) (hy : v.unown = y) (hz : w.unown = z) : aret2 H.length [u, v, w] (H ++ e) fun r H' => r = .tuple [x, y, z] ∧ H' = H := by
 subst hx; subst hy; subst hz
 exact ⟨H.length, Nat.le_refl _, _, LeL_refl _, by show belowL _ [u.unown, v.unown, w.unown] = true; rw [bl_cons, bl_cons, bl_cons, bl_nil, hb.1, hb.2.1, hb.2.2]; rfl, rfl, by simp⟩
theorem foA_facts (f : Fo) : ∃ P S, foA f = odA P S := by
 cases f with
 | none => exact ⟨_, _, rfl⟩
 | some p => exact ⟨_, _, rfl⟩
noncomputable def fiS (e : Int) (t : Ty) (ops : List Int) : Fo × Int := if e ≠ 0 then (none, e) else if 4 < ops.length then (none, 2) else (fndS t ops, 0)
theorem c35 {t : Ty} {e : Int} {ops : List Int} (h62 : Pure Tryz.prog 62 [t.av] (.int .i64 e)) (h92 : e = 0 → Pure Tryz.prog 92 [t.av] (.lst 0 (ints ops))) (ht : e = 0 → TyOk t) (hr : e = 0 → ∀ i ∈ ops, 0 ≤ i ∧ i < t.s.ops.length) (hl : ops.length ≤ 1000000) :
 Pure Tryz.prog 35 [t.av] (.tuple [foA (fiS e t ops).1, .bool (fiS e t ops).1.isSome, .int .i64 (fiS e t ops).2]) := by
 refine fun H => k35.2.calls rfl ?_
 simp only [k35, mkF]
 obtain ⟨e1, e2, e3, e4, e5, e6⟩ := Ty.facts t
 have zf2 : List.map AV.unown [AV.nils, .nils] = [.nils, .nils] := rfl
 have zb2 : ∀ n, belowL n [AV.nils, .nils] = true := fun _ => rfl
 simp +contextual only [e1, e4, li_ty, zf2, zb2, sZ, Nat.reduceEqDiff, Nat.reduceAdd, ↓reduceIte]
 refine scall_pure h62 ?_
 have gz : (H ++ [AObj.cells [AV.nils, .nils]])[H.length]? = some (.cells [.nils, .nils]) := by simp
 by_cases h0 : e = 0
 ·subst h0
  simp +contextual only [e4, li_ty, sZ, Nat.reduceEqDiff, Nat.reduceAdd, ↓reduceIte]
  refine scall_pure (h92 rfl) ?_
  by_cases h4 : 4 < ops.length
  ·have h4' : ((4 : Int) < ops.length) = True := eq_true (by omega)
   have e0 : fiS 0 t ops = (none, 2) := by unfold fiS; rw [if_neg (by simp), if_pos h4]
   rw [e0]
   have sp2 : ∀ (a b x y : AV), asplice [a, b] 0 [x, y] = [x, y] := fun _ _ _ _ => rfl
   simp +contextual only [zf2, zb2, ints_len, h4', decide_true, gz, aret_ctt, sp2, sZ, Nat.reduceEqDiff, Nat.reduceAdd, ↓reduceIte, reduceCtorEq]
   exact fun _ => ret3v ⟨rfl, rfl, rfl⟩ rfl rfl rfl
  ·have h4' : ((4 : Int) < ops.length) = False := eq_false (by omega)
   have e0 : fiS 0 t ops = (fndS t ops, 0) := by unfold fiS; rw [if_neg (by simp), if_neg h4]
   rw [e0]
   simp +contextual only [e4, li_ty, ints_len, h4', decide_false, sZ, Nat.reduceEqDiff, Nat.reduceAdd, ↓reduceIte]
   intro hl9
   refine scall_pure (c93 (ht rfl) (.inr rfl) (hr rfl) hl) ?_
   generalize fndS t ops = f
   obtain ⟨P, S, ef⟩ := foA_facts f
   obtain ⟨q1, q2, q3, q4, q5, q6⟩ := odA_facts P S
   rw [ef]
   have zo : (odA P S).cells = [.lst 0 (ints P), .lst 0 (ints S)] := rfl
   have sp2 : ∀ (a b x y : AV), asplice [a, b] 0 [x, y] = [x, y] := fun _ _ _ _ => rfl
   simp +contextual only [gz, q1, q4, aret_ctt, zo, sp2, li_od, ints_blw, sZ, Nat.reduceEqDiff, Nat.reduceAdd, Nat.reduceLT, ↓reduceIte, reduceCtorEq]
   exact ret3v ⟨q6 _, rfl, rfl⟩ rfl rfl rfl
 ·have hm : (e = 0) = False := eq_false h0
  have e0 : fiS e t ops = (none, e) := by unfold fiS; rw [if_pos h0]
  rw [e0]
  have sp2 : ∀ (a b x y : AV), asplice [a, b] 0 [x, y] = [x, y] := fun _ _ _ _ => rfl
  simp +contextual only [zf2, zb2, hm, gz, aret_ctt, sp2, sZ, Nat.reduceEqDiff, Nat.reduceAdd, ↓reduceIte, reduceCtorEq]
  exact ret3v ⟨rfl, rfl, rfl⟩ rfl rfl rfl
end Go.Abs
end
section
namespace Go.Abs
open Go Go.Proofs Go.Rpo
end Go.Abs
end
section
namespace Go.Rpo
open Go.Abs
def decLx {G : T → T → Prop} [h : ∀ x y, Decidable (G x y)] : ∀ l m, Decidable (Lx G l m)
 | [], _ => isFalse (fun h => h)
 | _ :: _, [] => isTrue trivial
 | x :: l, y :: m => @instDecidableOr _ _ (@instDecidableAnd _ _ inferInstance (decLx l m)) (h x y)
def decMu {G : T → T → Prop} [h : ∀ x y, Decidable (G x y)] (l m : List T) : Decidable (Mu G l m) := by unfold Mu; exact inferInstance
def decFm {sp : Int → Int} {G : T → T → Prop} [h : ∀ x y, Decidable (G x y)] (a b : T) : Decidable (Fm sp G a b) := by
 unfold Fm
 have := @decLx G h
 have := @decMu G h
 exact inferInstance
def decGtF (sp : Int → Int) : ∀ (f : Nat) (a b : T), Decidable (GtF sp f a b)
 | 0, _, _ => isFalse (fun h => h)
 | f + 1, a, b => @decFm sp (GtF sp f) (decGtF sp f) a b
instance decGt (sp : Int → Int) (a b : T) : Decidable (Gt sp a b) := decGtF sp (wt a + wt b) a b
instance decR (O : Od) (a b : T) : Decidable (R O a b) := decGt O.sp (norm O a) (norm O b)
instance decE (O : Od) (a b : T) : Decidable (E O a b) := inferInstanceAs (Decidable (norm O a = norm O b))
end Go.Rpo
end
section
namespace Go.Abs
open Go Go.Proofs Go.Rpo
mutual
def opsIn (n : Nat) : T → Bool
 | .mk k m l => (!decide (k = 2) || (decide (0 ≤ m) && decide (m < n))) && opsInL n l
def opsInL (n : Nat) : List T → Bool
 | [] => true
 | x :: r => opsIn n x && opsInL n r
end
mutual
theorem opsIn_s {n : Nat} : ∀ {t : T}, opsIn n t = true → All (fun m => 0 ≤ m ∧ m < n) t
 | .mk k m l, h => by
   simp only [opsIn, Bool.and_eq_true, Bool.or_eq_true, Bool.not_eq_true', decide_eq_false_iff_not, decide_eq_true_eq] at h
   exact .mk k m l (fun hk => h.1.resolve_left fun hn => hn hk) (opsInL_s h.2)
theorem opsInL_s {n : Nat} : ∀ {l : List T}, opsInL n l = true → ∀ x ∈ l, All (fun m => 0 ≤ m ∧ m < n) x
 | [], _ => fun x hx => by cases hx
 | y :: r, h => by
   simp only [opsInL, Bool.and_eq_true] at h
   have h1 := opsIn_s h.1
   have h2 := opsInL_s h.2
   intro x hx
   rcases List.mem_cons.1 hx with rfl | hx
   ·exact h1
   ·exact h2 x hx
end
def decB (ps ss : List Int) (a b : T) : Bool := match decR (odOf ps ss) a b with | .isTrue _ => true | .isFalse _ => false
theorem decB_s {ps ss : List Int} {a b : T} : decB ps ss a b = true ↔ R (odOf ps ss) a b := by
 unfold decB
 cases decR (odOf ps ss) a b with
 | isTrue h => simp [h]
 | isFalse h => simp [h]
end Go.Abs
end
section
set_option maxRecDepth 1000000
namespace Go.Abs
open Go Go.Proofs Go.Rpo
theorem grB_dec (ps ss : List Int) (a b : T) : grB ps ss a b = decB ps ss a b := by rw [Bool.eq_iff_iff, grB_iff, decB_s]
def decEB (ps ss : List Int) (a b : T) : Bool := match decE (odOf ps ss) a b with | .isTrue _ => true | .isFalse _ => false
theorem eqB_dec (ps ss : List Int) (a b : T) : eqB ps ss a b = decEB ps ss a b := by
 rw [Bool.eq_iff_iff, eqB_iff]
 unfold decEB
 cases decE (odOf ps ss) a b with
 | isTrue h => simp [h]
 | isFalse h => simp [h]
def ordB (s : Sg) (ps ss : List Int) : Bool := decide (ps.length = s.ops.length) && (decide (ss.length = s.ops.length) && ((List.range ps.length).all (fun j => decide (0 ≤ ps.getD j 0 ∧ ps.getD j 0 ≤ 255 ∧ 1 ≤ ss.getD j 0 ∧ ss.getD j 0 ≤ 3)) && (List.range ps.length).all fun j => (List.range ps.length).all fun k => !decide (ps.getD j 0 = ps.getD k 0) || decide (ss.getD j 0 = ss.getD k 0)))
theorem ordB_s {s : Sg} {ps ss : List Int} : ordB s ps ss = true ↔ OrdOk s ps ss := by
 simp only [ordB, Bool.and_eq_true, decide_eq_true_eq, List.all_eq_true, List.mem_range, Bool.or_eq_true, Bool.not_eq_true', decide_eq_false_iff_not]
 constructor
 ·rintro ⟨h1, h2, h3, h4⟩
  exact ⟨h1, h2, h3, fun j k hj hk he => (h4 j hj k hk).resolve_left fun hn => hn he⟩
 ·rintro ⟨h1, h2, h3, h4⟩
  refine ⟨h1, h2, h3, fun j hj k hk => ?_⟩
  by_cases h : ps.getD j 0 = ps.getD k 0
  ·exact .inr (h4 j k hj hk h)
  ·exact .inl h
def chkOc (s : Sg) (ps ss : List Int) : Int := if chkB s = true then (if ordB s ps ss = true then 0 else 60) else 40
theorem chkO_dec (s : Sg) (ps ss : List Int) : chkO s ps ss = chkOc s ps ss := by
 unfold chkO chkOc
 by_cases h : OrdOk s ps ss
 ·rw [if_pos h, if_pos (ordB_s.2 h)]
 ·rw [if_neg h, if_neg (fun k => h (ordB_s.1 k))]
def askSc (s : Sg) (ps ss : List Int) (l : List T) : Int := if chkOc s ps ss = 0 then (if (l.all fun t => t.tree && ovT s t) = true then 0 else 4) else chkOc s ps ss
theorem askS_dec (s : Sg) (ps ss : List Int) (l : List T) : askS s ps ss l = askSc s ps ss l := by unfold askS askSc; rw [chkO_dec]
def decQc (ps ss : List Int) (e : Eqt) : Bool := e.rest.all fun y => decB ps ss e.a y
theorem decQ_dec (ps ss : List Int) (e : Eqt) : decQ ps ss e = decQc ps ss e := by
 rw [Bool.eq_iff_iff]
 simp only [decQ, DecQ, decQc, List.all_eq_true, decB_s]
 exact @decide_eq_true_iff _ (Classical.propDecidable _)
def blamSc (t : Ty) (ps ss : List Int) : Int := idxB (fun e => !decQc ps ss e) t.es 0
theorem blamS_dec (t : Ty) (ps ss : List Int) : blamS t ps ss = blamSc t ps ss := by
 unfold blamS blamSc
 congr 1
 funext e
 rw [decQ_dec]
def testFc (t : Ty) (ops pl st : List Int) : Bool := decide (chkOc t.s (ordP t.s.ops.length ops pl) (ordS t.s.ops.length ops st) = 0) && decide (blamSc t (ordP t.s.ops.length ops pl) (ordS t.s.ops.length ops st) < 0)
theorem testF_dec (t : Ty) (ops pl st : List Int) : testF t ops pl st = testFc t ops pl st := by
 unfold testF testFc
 rw [chkO_dec, blamS_dec, Bool.eq_iff_iff]
 simp
def stepIc (t : Ty) (ops pl : List Int) (s : Fo) (st : List Int) : Fo × Bool := if testFc t ops pl st = true then (some (ordP t.s.ops.length ops pl, ordS t.s.ops.length ops st), false) else (s, true)
def stepOc (t : Ty) (ops : List Int) (s : Fo) (pl : List Int) : Fo × Bool := if denseB pl = true then runL (stepIc t ops pl) (allL (valsF 1 3) ops.length) s else (s, true)
def fndSc (t : Ty) (ops : List Int) : Fo := (runL (stepOc t ops) (allL (valsF 0 ops.length) ops.length) none).1
theorem fndS_dec (t : Ty) (ops : List Int) : fndS t ops = fndSc t ops := by
 have h1 : stepI t ops = stepIc t ops := by funext pl s st; unfold stepI stepIc; rw [testF_dec]
 have h2 : stepO t ops = stepOc t ops := by funext s pl; unfold stepO stepOc; rw [h1]
 unfold fndS fndSc; rw [h2]
def oLex : List Int := [0, 0, 1]
def st1 : List Int := [1, 1, 1]
def stM : List Int := [1, 1, 3]
def oFlat : List Int := [0, 0, 0]
theorem ask1 : askSc natSg oLex st1 [natE1.a, natE1.b] = 0 := by kernel_rfl
theorem ask2 : askSc natSg oLex st1 [natE1.b, natE1.a] = 0 := by kernel_rfl
theorem gr1 : decB oLex st1 natE1.a natE1.b = true := by kernel_rfl
theorem gr2 : decB oLex st1 natE1.b natE1.a = false := by kernel_rfl
theorem ask3 : askSc natSg oLex stM [oT 2 [vT 0, vT 1], oT 2 [vT 1, vT 0]] = 0 := by kernel_rfl
theorem ask4 : askSc natSg oLex st1 [oT 2 [vT 0, vT 1], oT 2 [vT 1, vT 0]] = 0 := by kernel_rfl
theorem eq1 : decEB oLex stM (oT 2 [vT 0, vT 1]) (oT 2 [vT 1, vT 0]) = true := by kernel_rfl
theorem eq2 : decEB oLex st1 (oT 2 [vT 0, vT 1]) (oT 2 [vT 1, vT 0]) = false := by kernel_rfl
theorem chk1 : chkOc natSg oLex st1 = 0 := by kernel_rfl
theorem chk2 : chkOc natSg oFlat st1 = 0 := by kernel_rfl
theorem blam1 : blamSc natTy oLex st1 = -1 := by kernel_rfl
theorem blam2 : blamSc natTy oFlat st1 = 1 := by kernel_rfl
theorem fnd1 : fndSc natTy [0, 1, 2] = some (oLex, st1) := by kernel_rfl
def natTs : List T := [oT 1 [oT 0 []], vT 0, oT 0 [], oT 2 [oT 0 [], oT 0 []]]
theorem ask5 : askSc natSg oLex st1 natTs = 0 := by kernel_rfl
theorem srt1 : srt (decB oLex st1) 4 natTs = [vT 0, oT 0 [], oT 1 [oT 0 []], oT 2 [oT 0 [], oT 0 []]] := by kernel_rfl
theorem natTy_ok : TyOk natTy := by
 refine ⟨by decide, fun e he ps hp => ?_⟩
 have hp3 : ps.length = 3 := hp
 have key : ∀ e ∈ natTy.es, e.cs.length ≤ 1000 ∧ (∀ t ∈ e.a :: e.rest, t.tree = true) ∧ ∀ t ∈ e.a :: e.rest, opsIn 3 t = true := by
  intro e he
  have h : (natTy.es.all fun e => decide (e.cs.length ≤ 1000) && ((e.a :: e.rest).all (fun t => t.tree) && (e.a :: e.rest).all fun t => opsIn 3 t)) = true := by kernel_rfl
  have := List.all_eq_true.1 h e he
  simp only [Bool.and_eq_true, decide_eq_true_eq, List.all_eq_true] at this
  exact this
 obtain ⟨k1, k2, k3⟩ := key e he
 exact ⟨k1, k2, fun t ht => by rw [hp3]; exact opsIn_s (k3 t ht)⟩
end Go.Abs
end
section
set_option maxRecDepth 100000
namespace Go.Abs
open Go Go.Proofs Go.Rpo
theorem bdT2 (n : Int) (o : Nat) (xs : List AV) (φ : AV → Prop) : abuild [.int .i64 0, .int .i64 0, .nils] [(0, 1, .int .i64 2), (1, 1, .int .i64 n), (2, 1, .lst o xs)] φ = φ (.agg [.int .i64 2, .int .i64 n, .lst 0 xs]) := by
 simp only [abuild, afill, eq_iff_iff]
 exact ⟨fun h => h.2.2.2.2.2.2.2.2.2, fun h => ⟨rfl, rfl, by simp, rfl, rfl, by simp [asplice, AV.cells], rfl, rfl, by simp [asplice, AV.cells], h⟩⟩
theorem bdT2n (n : Int) (φ : AV → Prop) : abuild [.int .i64 0, .int .i64 0, .nils] [(0, 1, .int .i64 2), (1, 1, .int .i64 n), (2, 1, .nils)] φ = φ (.agg [.int .i64 2, .int .i64 n, .nils]) := by
 simp only [abuild, afill, eq_iff_iff]
 exact ⟨fun h => h.2.2.2.2.2.2.2.2.2, fun h => ⟨rfl, rfl, by simp, rfl, rfl, by simp [asplice, AV.cells], rfl, rfl, by simp [asplice, AV.cells], h⟩⟩
theorem bdO3 (a b c d e f : Int) (o o' : Nat) (φ : AV → Prop) : abuild [.nils, .nils] [(0, 1, .lst o [.int .i64 a, .int .i64 b, .int .i64 c]), (1, 1, .lst o' [.int .i64 d, .int .i64 e, .int .i64 f])] φ = φ (odA [a, b, c] [d, e, f]) := by
 simp only [abuild, afill, eq_iff_iff]
 exact ⟨fun h => h.2.2.2.2.2.2, fun h => ⟨rfl, rfl, by simp, rfl, rfl, by simp [asplice, AV.cells], h⟩⟩
theorem canon_av (t : T) : canon t.av = t.av := by cases t; rfl
theorem bs4 (a b c d : T) (φ : List AV → Prop) : abslice (List.replicate 4 (canon (.agg [.int .i64 0, .int .i64 0, .nils]))) 3 [(0, a.av), (1, b.av), (2, c.av), (3, d.av)] φ = φ [a.av, b.av, c.av, d.av] := by
 have hv : ∀ t : T, t.av.val = true := fun t => by cases t; rfl
 have hl : ∀ t : T, t.av.cells.length = 3 := fun t => (okO_av t).len
 simp only [abslice, canon_av, hv, hl, List.replicate, List.set, List.length_cons, List.length_nil, eq_iff_iff]
 constructor
 ·intro h; simpa using h
 ·intro h; simpa using h
theorem c59 (n : Int) : Pure Tryz.prog 59 [.int .i64 n] (vT n).av := by
 refine fun H => k59.2.calls rfl ?_
 simp only [k59, mkF]
 simp +contextual only [sZ, Nat.reduceEqDiff, Nat.reduceAdd, ↓reduceIte, reduceCtorEq]
 exact ret1v rfl rfl
theorem c65 (n : Int) (l : List T) : Pure Tryz.prog 65 [.int .i64 n, .lst 0 (avs l)] (oT n l).av := by
 refine fun H => k65.2.calls rfl ?_
 simp only [k65, mkF]
 simp +contextual only [bdT2, sZ, Nat.reduceEqDiff, Nat.reduceAdd, ↓reduceIte, reduceCtorEq]
 exact ret1v (by simp [bw_agg, bl_cons, bl_nil, bw_int, bw_lst, avs_blw]) rfl
theorem c65n (n : Int) : Pure Tryz.prog 65 [.int .i64 n, .nils] (oT n []).av := by
 refine fun H => k65.2.calls rfl ?_
 simp only [k65, mkF]
 simp +contextual only [bdT2n, sZ, Nat.reduceEqDiff, Nat.reduceAdd, ↓reduceIte, reduceCtorEq]
 exact ret1v rfl rfl
theorem fieldT1x (t : T) (φ : AV → Prop) : afieldAddr 1 none (.iptr t.av) φ = φ (.iptr (.int .i64 t.n)) := by cases t; simp [afieldAddr, T.av, apart, AV.cells, AV.one, T.n]
theorem lens4 (o : Nat) (a b c d : T) : (∀ (own : Nat) (xs : List AV), AV.lst o [a.av, b.av, c.av, d.av] = AV.lst own xs → ∀ z ∈ xs, z.cells.length = 3) = True := by
 simp only [eq_iff_iff, iff_true]
 intro own xs e z hz
 cases e
 have : z = a.av ∨ z = b.av ∨ z = c.av ∨ z = d.av := by simpa using hz
 rcases this with rfl | rfl | rfl | rfl <;> exact (okO_av _).len
theorem ix4 (o : Nat) (a b c d : AV) (φ : AV → Prop) : aindexAddr 3 (.lst o [a, b, c, d]) (.int .i64 0) φ = φ (.iptr a) ∧ aindexAddr 3 (.lst o [a, b, c, d]) (.int .i64 1) φ = φ (.iptr b) ∧ aindexAddr 3 (.lst o [a, b, c, d]) (.int .i64 2) φ = φ (.iptr c) ∧ aindexAddr 3 (.lst o [a, b, c, d]) (.int .i64 3) φ = φ (.iptr d) := by
 simp [aindexAddr]
theorem sg1 : Pure Tryz.prog 20 [natTy.s.av, odA [0, 0, 1] [1, 1, 1], natE1.a.av, natE1.b.av] (.tuple [.bool true, .int .i64 0]) := by
 have := c20 natSg oLex st1 natE1.a natE1.b
 rw [askS_dec, ask1, if_pos rfl, grB_dec, gr1] at this
 exact this
theorem sg2 : Pure Tryz.prog 20 [natTy.s.av, odA [0, 0, 1] [1, 1, 1], natE1.b.av, natE1.a.av] (.tuple [.bool false, .int .i64 0]) := by
 have := c20 natSg oLex st1 natE1.b natE1.a
 rw [askS_dec, ask2, if_pos rfl, grB_dec, gr2] at this
 exact this
theorem p1 (H : List AObj) : ACalls Tryz.prog 27 [natTy.s.av, odA [0, 0, 1] [1, 1, 1], natE1.a.av, natE1.b.av] H fun r H' => (∃ p, Sh (odOf oLex st1) p natE1.a natE1.b ∧ r = .tuple [ppA p, .bool true, .int .i64 0]) ∧ H' = H := by
 refine (c27 natSg oLex st1 natE1.a natE1.b H).mono ?_
 rintro r H' ⟨h, rfl⟩
 refine ⟨?_, rfl⟩
 rcases h with ⟨h, _⟩ | ⟨_, h, _⟩ | ⟨_, h⟩
 ·rw [askS_dec, ask1] at h; exact absurd rfl h
 ·exact absurd (decB_s.1 gr1) h
 ·exact h
theorem v1 {p : PP} (hp : Sh (odOf oLex st1) p natE1.a natE1.b) : Pure Tryz.prog 28 [natTy.s.av, odA [0, 0, 1] [1, 1, 1], natE1.a.av, natE1.b.av, ppA p] (.int .i64 0) := by
 have := c28 natSg oLex st1 natE1.a natE1.b p
 have e : verS natSg oLex st1 natE1.a natE1.b p = 0 := by unfold verS; rw [if_pos (by rw [askS_dec, ask1]), if_pos hp]
 rw [e] at this
 exact this
theorem v2 (p : PP) : Pure Tryz.prog 28 [natTy.s.av, odA [0, 0, 1] [1, 1, 1], natE1.b.av, natE1.a.av, ppA p] (.int .i64 61) := by
 have := c28 natSg oLex st1 natE1.b natE1.a p
 have hn : ¬ Sh (odOf oLex st1) p natE1.b natE1.a := fun h => by
  have := decB_s.2 h.gt
  rw [gr2] at this; cases this
 have e : verS natSg oLex st1 natE1.b natE1.a p = 61 := by unfold verS; rw [if_pos (by rw [askS_dec, ask2]), if_neg hn]
 rw [e] at this
 exact this
theorem q1 : Pure Tryz.prog 22 [natTy.s.av, odA [0, 0, 1] [1, 1, 3], (oT 2 [vT 0, vT 1]).av, (oT 2 [vT 1, vT 0]).av] (.tuple [.bool true, .int .i64 0]) := by
 have := c22 natSg oLex stM (oT 2 [vT 0, vT 1]) (oT 2 [vT 1, vT 0])
 rw [askS_dec, ask3, if_pos rfl, eqB_dec, eq1] at this
 exact this
theorem q2 : Pure Tryz.prog 22 [natTy.s.av, odA [0, 0, 1] [1, 1, 1], (oT 2 [vT 0, vT 1]).av, (oT 2 [vT 1, vT 0]).av] (.tuple [.bool false, .int .i64 0]) := by
 have := c22 natSg oLex st1 (oT 2 [vT 0, vT 1]) (oT 2 [vT 1, vT 0])
 rw [askS_dec, ask4, if_pos rfl, eqB_dec, eq2] at this
 exact this
theorem blm1 : blmS 0 natTy oLex st1 = (0, false, 0) := by
 unfold blmS
 rw [if_neg (by simp), chkO_dec, if_neg (by rw [show natTy.s = natSg from rfl, chk1]; simp), blamS_dec, blam1]; rfl
theorem blm2 : blmS 0 natTy oFlat st1 = (1, true, 0) := by
 unfold blmS
 rw [if_neg (by simp), chkO_dec, if_neg (by rw [show natTy.s = natSg from rfl, chk2]; simp), blamS_dec, blam2]; rfl
theorem k1 : Pure Tryz.prog 33 [natTy.av, odA [0, 0, 1] [1, 1, 1]] (.int .i64 0) := by
 have := c33 c62nat (fun _ => natTy_ok) oLex st1
 rw [chkS, blm1] at this
 exact this
theorem k2 : Pure Tryz.prog 33 [natTy.av, odA [0, 0, 0] [1, 1, 1]] (.int .i64 60) := by
 have := c33 c62nat (fun _ => natTy_ok) oFlat st1
 rw [chkS, blm2] at this
 exact this
theorem bl1 : Pure Tryz.prog 31 [natTy.av, odA [0, 0, 0] [1, 1, 1]] (.tuple [.int .i64 1, .bool true, .int .i64 0]) := by
 have := c31 c62nat (fun _ => natTy_ok) oFlat st1
 rw [blm2] at this
 exact this
theorem fi1 : Pure Tryz.prog 35 [natTy.av] (.tuple [odA [0, 0, 1] [1, 1, 1], .bool true, .int .i64 0]) := by
 have := c35 (ops := [0, 1, 2]) c62nat (fun _ => c92nat) (fun _ => natTy_ok) (fun _ i hi => by
  have h : i = 0 ∨ i = 1 ∨ i = 2 := by simpa using hi
  have e : natTy.s.ops.length = 3 := rfl
  rw [e]; omega) (by decide)
 have e : fiS 0 natTy [0, 1, 2] = (some (oLex, st1), 0) := by
  unfold fiS
  rw [if_neg (by simp), if_neg (by decide), fndS_dec, fnd1]
 rw [e] at this
 exact this
def srtT : List T := [vT 0, oT 0 [], oT 1 [oT 0 []], oT 2 [oT 0 [], oT 0 []]]
theorem so1 : Pure Tryz.prog 37 [natTy.s.av, odA [0, 0, 1] [1, 1, 1], .lst 0 (avs natTs)] (.tuple [.lst 0 (avs srtT), .int .i64 0]) := by
 have := c37 natSg oLex st1 natTs (by decide)
 have hg : grB oLex st1 = decB oLex st1 := by funext a b; exact grB_dec _ _ _ _
 have e : srtS natSg oLex st1 natTs = (srtT, 0) := by
  unfold srtS
  rw [if_pos (by rw [askS_dec, ask5]), if_neg (by decide), hg, show natTs.length = 4 from rfl, srt1]
  rfl
 rw [e] at this
 exact this
theorem c17 : Pure Tryz.prog 17 [] (.bool true) := by
 refine fun H => k17.2.calls rfl ?_
 simp only [k17, mkF]
 simp +contextual only [sZ]
 refine scall_pure c64 ?_
 have o01 : Pure Tryz.prog 65 [.int .i64 2, .lst 0 [(vT 0).av, (vT 1).av]] (oT 2 [vT 0, vT 1]).av := c65 2 [vT 0, vT 1]
 have o10 : Pure Tryz.prog 65 [.int .i64 2, .lst 0 [(vT 1).av, (vT 0).av]] (oT 2 [vT 1, vT 0]).av := c65 2 [vT 1, vT 0]
 have o00 : Pure Tryz.prog 65 [.int .i64 2, .lst 0 [(oT 0 []).av, (oT 0 []).av]] (oT 2 [oT 0 [], oT 0 []]).av := c65 2 [oT 0 [], oT 0 []]
 have o1 : Pure Tryz.prog 65 [.int .i64 1, .lst 0 [(oT 0 []).av]] (oT 1 [oT 0 []]).av := c65 1 [oT 0 []]
 have so2 : Pure Tryz.prog 37 [natTy.s.av, odA [0, 0, 1] [1, 1, 1], .lst 0 [(oT 1 [oT 0 []]).av, (vT 0).av, (oT 0 []).av, (oT 2 [oT 0 [], oT 0 []]).av]] (.tuple [.lst 0 [(vT 0).av, (oT 0 []).av, (oT 1 [oT 0 []]).av, (oT 2 [oT 0 [], oT 0 []]).av], .int .i64 0]) := so1
 have h66a : Pure Tryz.prog 66 [.lst 0 (ints [0, 0, 1]), .lst 0 (ints [0, 0, 1])] (.bool true) := c66 (a := [0, 0, 1]) (b := [0, 0, 1]) (.inr rfl) (.inr rfl) (by decide) (by decide)
 have h66b : Pure Tryz.prog 66 [.lst 0 (ints [1, 1, 1]), .lst 0 (ints [1, 1, 1])] (.bool true) := c66 (a := [1, 1, 1]) (b := [1, 1, 1]) (.inr rfl) (.inr rfl) (by decide) (by decide)
 have i40 := fun o a b c d φ => (ix4 o a b c d φ).1
 have i41 := fun o a b c d φ => (ix4 o a b c d φ).2.1
 have i42 := fun o a b c d φ => (ix4 o a b c d φ).2.2.1
 have i43 := fun o a b c d φ => (ix4 o a b c d φ).2.2.2
 have n1 : ((vT 0).k = 1) = True := eq_true rfl
 have n2 : ((oT 0 []).n = 0) = True := eq_true rfl
 have n3 : ((oT 1 [oT 0 []]).n = 1) = True := eq_true rfl
 have n4 : ((oT 2 [oT 0 [], oT 0 []]).n = 2) = True := eq_true rfl
 have f44 : (((4 : Nat) : Int) = 4) = True := eq_true rfl
 obtain ⟨e1, e2, e3, e4, e5, e6⟩ := Ty.facts natTy
 obtain ⟨a1, a2, a3, a4, a5, a6⟩ := odA_facts [0, 0, 1] [1, 1, 1]
 obtain ⟨b1, b2, b3, b4, b5, b6⟩ := odA_facts [0, 0, 1] [1, 1, 3]
 obtain ⟨c1, c2, c3, c4, c5, c6⟩ := odA_facts [0, 0, 0] [1, 1, 1]
 have ix : ∀ φ, aindexAddr 8 (.lst 0 (eqas natTy.es)) (.int .i64 1) φ = φ (.iptr natE1.av) := by
  intro φ
  have := idx_eq 8 0 natTy.es .i64 1 φ
  rw [show ((1 : Nat) : Int) = 1 from rfl] at this
  rw [this]
  exact propext ⟨fun h => h.2, fun h => ⟨by decide, h⟩⟩
 have su : natTy.s.av.unown = natTy.s.av := rfl
 simp +contextual only [e1, e2, e3, bdO3, a1, a2, a3, a4, b1, b2, b3, c1, c2, c3, li_od, fY0, fY2, ix, feA, feB, li_sg, lens_eq, su, sZ, Nat.reduceEqDiff, Nat.reduceAdd, ↓reduceIte]
 refine ⟨scall_pure sg1 ?_, scall_pure sg1 ?_⟩
 all_goals
  simp +contextual only [a4, li_od, fY0, li_sg, su, sZ, Nat.reduceEqDiff, Nat.reduceAdd, Nat.reduceLT, ↓reduceIte]
  refine scall_pure sg2 ?_
  simp +contextual only [a4, li_od, fY0, li_sg, su, sZ, Nat.reduceEqDiff, Nat.reduceAdd, Nat.reduceLT, ↓reduceIte]
  refine scall_to (p1 _) ?_
  rintro r H' ⟨⟨p, hp, rfl⟩, rfl⟩
  obtain ⟨r1, r2, r3, r4, r5, r6, r7, r8, r9⟩ := ppA_facts p
  simp +contextual only [a4, li_od, fY0, li_sg, su, r1, r2, r3, r4, li_pp, sZ, Nat.reduceEqDiff, Nat.reduceAdd, Nat.reduceLT, ↓reduceIte]
  refine scall_pure (v1 hp) ?_
  simp +contextual only [a4, li_od, fY0, li_sg, su, r4, li_pp, sZ, Nat.reduceEqDiff, Nat.reduceAdd, ↓reduceIte]
  refine scall_pure (v2 p) ?_
  simp +contextual only [sZ, Nat.reduceEqDiff, ↓reduceIte]
  refine dcall_pure (c59 0) ?_
  simp +contextual only [sZ]
  refine dcall_pure (c59 1) ?_
  simp +contextual only [sZ, Nat.reduceEqDiff, ↓reduceIte]
  refine dcall_pure (o01) ?_
  simp +contextual only [sZ]
  refine dcall_pure (c59 1) ?_
  simp +contextual only [sZ]
  refine dcall_pure (c59 0) ?_
  simp +contextual only [sZ, Nat.reduceEqDiff, ↓reduceIte]
  refine dcall_pure (o10) ?_
  simp +contextual only [b4, li_od, fY0, li_sg, su, sZ, Nat.reduceEqDiff, ↓reduceIte]
  refine dcall_pure (q1) ?_
  simp +contextual only [sZ, Nat.reduceEqDiff, Nat.reduceAdd, Nat.reduceLT, ↓reduceIte]
  refine dcall_pure (c59 0) ?_
  simp +contextual only [sZ]
  refine dcall_pure (c59 1) ?_
  simp +contextual only [sZ, Nat.reduceEqDiff, ↓reduceIte]
  refine dcall_pure (o01) ?_
  simp +contextual only [sZ]
  refine dcall_pure (c59 1) ?_
  simp +contextual only [sZ]
  refine dcall_pure (c59 0) ?_
  simp +contextual only [sZ, Nat.reduceEqDiff, ↓reduceIte]
  refine dcall_pure (o10) ?_
  simp +contextual only [a4, li_od, fY0, li_sg, su, sZ, Nat.reduceEqDiff, ↓reduceIte]
  refine dcall_pure (q2) ?_
  simp +contextual only [e4, li_ty, a4, li_od, sZ, Nat.reduceEqDiff, Nat.reduceAdd, Nat.reduceLT, ↓reduceIte]
  refine scall_pure (k1) ?_
  simp +contextual only [e4, li_ty, c4, li_od, sZ, Nat.reduceEqDiff, Nat.reduceAdd, ↓reduceIte]
  refine scall_pure (k2) ?_
  simp +contextual only [e4, li_ty, c4, li_od, sZ, Nat.reduceEqDiff, Nat.reduceAdd, ↓reduceIte]
  refine scall_pure (bl1) ?_
  simp +contextual only [e4, li_ty, sZ, Nat.reduceEqDiff, Nat.reduceAdd, Nat.reduceLT, ↓reduceIte]
  refine scall_pure (fi1) ?_
  simp +contextual only [a1, a2, a3, a4, fo20, sZ, Nat.reduceEqDiff, Nat.reduceAdd, Nat.reduceLT, ↓reduceIte]
  refine scall_pure (h66a) ?_
  simp +contextual only [fo21, sZ, Nat.reduceEqDiff, Nat.reduceAdd, ↓reduceIte]
  refine scall_pure (h66b) ?_
  simp +contextual only [sZ, Nat.reduceEqDiff, ↓reduceIte]
  refine dcall_pure (c65n 0) ?_
  simp +contextual only [sZ, ↓reduceIte]
  refine dcall_pure (o1) ?_
  simp +contextual only [sZ]
  refine dcall_pure (c59 0) ?_
  simp +contextual only [sZ]
  refine dcall_pure (c65n 0) ?_
  simp +contextual only [sZ]
  refine dcall_pure (c65n 0) ?_
  simp +contextual only [sZ]
  refine dcall_pure (c65n 0) ?_
  simp +contextual only [sZ, Nat.reduceEqDiff, ↓reduceIte]
  refine dcall_pure (o00) ?_
  simp +contextual only [a4, li_od, fY0, li_sg, su, bs4, sZ, Nat.reduceEqDiff, ↓reduceIte]
  refine dcall_pure (so2) ?_
  simp +contextual only [fieldT0, fieldT1x, lens4, i40, i41, i42, i43, f44, n1, n2, n3, n4, decide_true, sZ, Nat.reduceEqDiff, Nat.reduceAdd, Nat.reduceLT, ↓reduceIte, reduceCtorEq]
  exact aret_one H.length (Nat.le_refl _) rfl ⟨rfl, by simp⟩
end Go.Abs
end
section
set_option maxRecDepth 100000
namespace Go.Abs
open Go Go.Proofs Go.Rpo
def SBx (S : List AObj → Prop) (r : AV) (H' : List AObj) : Prop := (∃ b, r = .bool b) ∧ S H'
theorem retX {S : List AObj → Prop} (hl : Len S) {s : Nat} {b : Bool} {H H' : List AObj} (hS : S H) (hS' : S H') : aret H.length [.t s] [(s, .bool b)] H' (SBx S) := by
 refine aret_one H.length (Nat.le_refl _) (by rw [gt_cons, if_pos rfl]; rfl) ?_
 rw [gt_cons, if_pos rfl, List.take_of_length_le (by rw [hl H H' hS hS']; exact Nat.le_refl _)]
 exact ⟨⟨b, rfl⟩, hS'⟩
theorem c114x {S : List AObj → Prop} (hS : Len S) (g : Nat) (caps : List AV) (hcap : caps.map AV.unown = caps) (l : List T) (hf : ∀ x ∈ l, ∀ H, S H → ACalls Tryz.prog g ([x.av] ++ caps) H (SBx S)) {H : List AObj} (hH : S H) :
 ACalls Tryz.prog 114 [.lst 0 (avs l), .fn (.func g) [] caps] H fun r H' => (∃ n, r = .int .i64 n) ∧ S H' := by
 refine k114.2.calls rfl ?_
 simp only [k114, mkF]
 simp +contextual only [sZ, Nat.reduceEqDiff, Nat.reduceAdd, ↓reduceIte, reduceCtorEq]
 intro hl
 have fin : ∀ (n : Int) (G : List AObj), S G → aret H.length [.t 4] [(4, .int .i64 n)] G fun r H' => (∃ n, r = .int .i64 n) ∧ S H' := by
  intro n G hG
  refine aret_one H.length (Nat.le_refl _) (by rw [gt_cons, if_pos rfl]; rfl) ?_
  rw [gt_cons, if_pos rfl, List.take_of_length_le (by rw [hS H G hH hG]; exact Nat.le_refl _)]
  exact ⟨⟨n, rfl⟩, hG⟩
 refine swp_loop_st l.length (fun i (G : List AObj) => S G) (fun i G => [(0, .lst 0 (avs l)), (1, .fn (.func g) [] caps), (7, .int .i64 l.length), (8, .int .i64 i)]) (fun i G => G) H ⟨hH, sle_refl _ _ _⟩ fun i G hi hG => ?_
 simp +contextual only [hcap, sZ, Nat.reduceEqDiff, Nat.reduceAdd, ↓reduceIte, reduceCtorEq]
 refine ⟨fun hlt => ?_, fun hge => ?_⟩
 ·have hlt := len_lt hlt
  refine ⟨hlt, scall_to (hf _ (mem_getD hlt) G hG) ?_⟩
  rintro r G' ⟨⟨b, rfl⟩, hG'⟩
  cases b with
  | true => simp +contextual only [sZ, Nat.reduceEqDiff, ↓reduceIte, reduceCtorEq]; exact fin _ _ hG'
  | false => simp +contextual only [sZ, Nat.reduceEqDiff, ↓reduceIte, reduceCtorEq]; exact ⟨i + 1, G', ⟨hlt, hG'⟩, by omega, sle_eq (by rw [wrap_nat i (by omega)]) rfl⟩
 ·exact fin _ _ hG
theorem c53x {S : List AObj → Prop} (hS : Len S) (g : Nat) (caps : List AV) (hcap : caps.map AV.unown = caps) (l : List T) (hf : ∀ x ∈ l, ∀ H, S H → ACalls Tryz.prog g ([x.av] ++ caps) H (SBx S)) {H : List AObj} (hH : S H) :
 ACalls Tryz.prog 53 [.lst 0 (avs l), .fn (.func g) [] caps] H (SBx S) := by
 refine k53.2.calls rfl ?_
 simp only [k53, mkF]
 simp +contextual only [sZ, Nat.reduceEqDiff, Nat.reduceAdd, ↓reduceIte, reduceCtorEq]
 refine scall_to (c114x hS g caps hcap l hf hH) ?_
 rintro r G ⟨⟨n, rfl⟩, hG⟩
 simp +contextual only [sZ, ↓reduceIte, reduceCtorEq]
 exact retX hS hH hG
structure Fw (q q2 : Nat) (H0 H : List AObj) : Prop where
 len : H.length = H0.length
 cnt : ∃ n, H[q]? = some (.cells [.int .i64 n])
 fn : H[q2]? = some (.cells [.fn (.func 71) [] [.ptr q 0, .ptr q2 0]])
 get : ∀ j, j ≠ q → H[j]? = H0[j]?
theorem Fw.Len (q q2 : Nat) (H0 : List AObj) : Go.Abs.Len (Fw q q2 H0) := fun H H' h h' => h'.len.trans h.len.symm
theorem Fw.set {q q2 : Nat} {H0 H : List AObj} (h : Fw q q2 H0 H) (hn : q ≠ q2) (n : Int) : Fw q q2 H0 (H.set q (.cells [.int .i64 n])) := by
 obtain ⟨m, hm⟩ := h.cnt
 exact ⟨by simp [h.len], ⟨n, List.getElem?_set_self (get_lt hm)⟩, by rw [List.getElem?_set_ne hn]; exact h.fn, fun j hj => by rw [List.getElem?_set_ne (Ne.symm hj)]; exact h.get j hj⟩
theorem c71 {q q2 : Nat} (hn : q ≠ q2) {H0 : List AObj} : ∀ (N : Nat) (t : T), wt t ≤ N → ∀ (d : Int) (H : List AObj), Fw q q2 H0 H → ACalls Tryz.prog 71 [t.av, .int .i64 d, .ptr q 0, .ptr q2 0] H (SBx (Fw q q2 H0)) := by
 intro N
 induction N with
 | zero => intro t h; have := wt_pos t; omega
 | succ N ih =>
   intro t hw d H hH
   refine k71.2.calls rfl ?_
   simp only [k71, mkF]
   have hwe := wt_eq t
   obtain ⟨m, hm⟩ := hH.cnt
   have hset : ∀ o, (H.set q o)[q]? = some o := fun o => List.getElem?_set_self (get_lt hm)
   simp +contextual only [hm, hset, sZ, Nat.reduceEqDiff, Nat.reduceAdd, Nat.reduceLT, ↓reduceIte, reduceCtorEq]
   have c72 : ∀ x ∈ t.l, ∀ H, Fw q q2 H0 H → ACalls Tryz.prog 72 ([x.av] ++ [.ptr q2 0, .iptr (.int .i64 d)]) H (SBx (Fw q q2 H0)) := by
    intro x hx H hH
    refine k72.2.calls rfl ?_
    simp only [k72, mkF, List.cons_append, List.nil_append]
    have hfn := hH.fn
    simp +contextual only [hfn, sZ, Nat.reduceEqDiff, Nat.reduceAdd, Nat.reduceLT, ↓reduceIte, reduceCtorEq]
    refine scall_to (ih x (by have := wt_mem hx; omega) _ H hH) ?_
    rintro r G ⟨⟨b, rfl⟩, hG⟩
    simp +contextual only [sZ, ↓reduceIte, reduceCtorEq]
    exact retX (Fw.Len q q2 H0) hH hG
   refine ⟨fun _ => ⟨fun _ => scall_to (c53x (Fw.Len q q2 H0) 72 [.ptr q2 0, .iptr (.int .i64 d)] rfl t.l c72 (hH.set hn _)) ?_, fun _ => retX (Fw.Len q q2 H0) hH (hH.set hn _)⟩, fun _ => retX (Fw.Len q q2 H0) hH (hH.set hn _)⟩
   rintro r G ⟨⟨b, rfl⟩, hG⟩
   simp +contextual only [sZ, Nat.reduceEqDiff, ↓reduceIte, reduceCtorEq]
   exact retX (Fw.Len q q2 H0) hH hG
theorem c19 (n : Int) (l : List T) (H : List AObj) : ACalls Tryz.prog 19 [.int .i64 n, .lst 0 (avs l)] H fun r H' => (∃ b, r = .bool b) ∧ H' = H := by
 refine k19.2.calls rfl ?_
 simp only [k19, mkF]
 have sp1 : ∀ (x y : AV), asplice [x] 0 [y] = [y] := fun _ _ => rfl
 simp +contextual only [sZ, Nat.reduceEqDiff, Nat.reduceAdd, ↓reduceIte, reduceCtorEq]
 obtain ⟨H0, eH0⟩ : ∃ H0, H0 = H ++ [AObj.cells [AV.int .i64 n], .cells [.fn (.func 71) [] [.ptr H.length 0, .ptr (H.length + 1) 0]]] := ⟨_, rfl⟩
 have hF : Fw H.length (H.length + 1) H0 H0 := ⟨rfl, ⟨n, by rw [eH0]; simp⟩, by rw [eH0]; simp, fun _ _ => rfl⟩
 rw [← eH0]
 have hl0 : H0.length = H.length + 2 := by rw [eH0]; simp
 have ht0 : H0.take H.length = H := by rw [eH0]; simp
 have c73 : ∀ x ∈ l, ∀ G, Fw H.length (H.length + 1) H0 G → ACalls Tryz.prog 73 ([x.av] ++ [.ptr (H.length + 1) 0]) G (SBx (Fw H.length (H.length + 1) H0)) := by
  intro x hx G hG
  refine k73.2.calls rfl ?_
  simp only [k73, mkF, List.cons_append, List.nil_append]
  have hfn := hG.fn
  simp +contextual only [hfn, sZ, Nat.reduceEqDiff, Nat.reduceAdd, Nat.reduceLT, ↓reduceIte, reduceCtorEq]
  refine scall_to (c71 (by omega) _ x (Nat.le_refl _) _ G hG) ?_
  rintro r G' ⟨⟨b, rfl⟩, hG'⟩
  simp +contextual only [sZ, ↓reduceIte, reduceCtorEq]
  exact retX (Fw.Len _ _ H0) hG hG'
 refine ⟨by simp; omega, scall_to (c53x (Fw.Len _ _ H0) 73 [.ptr (H.length + 1) 0] rfl l c73 hF) ?_⟩
 rintro r G ⟨⟨b, rfl⟩, hG⟩
 simp +contextual only [sZ, ↓reduceIte, reduceCtorEq]
 refine aret_one H.length (Nat.le_refl _) (by rw [gt_cons, if_pos rfl]; rfl) ?_
 rw [gt_cons, if_pos rfl]
 refine ⟨⟨!b, rfl⟩, ?_⟩
 refine Eq.trans ?_ ht0
 apply List.ext_getElem?
 intro j
 rw [List.getElem?_take, List.getElem?_take]
 by_cases hj : j < H.length
 ·rw [if_pos hj, if_pos hj]; exact hG.get j (by omega)
 ·rw [if_neg hj, if_neg hj]
end Go.Abs
end
section
set_option maxRecDepth 100000
namespace Go.Abs
open Go Go.Proofs Go.Rpo
def SmO (o : Opn) : Prop := o.args.length ≤ 20 ∧ o.name.size ≤ 200
theorem all_getD {α : Type} [Inhabited α] {p : α → Prop} {l : List α} (h : ∀ j, j < l.length → p (l.getD j default)) : ∀ x ∈ l, p x := fun x hx => by
 obtain ⟨n, hn, rfl⟩ := List.getElem_of_mem hx
 have := h n hn
 rwa [List.getD_eq_getElem?_getD, List.getElem?_eq_getElem hn] at this
theorem c68 (o : Opn) : ∃ b, Pure Tryz.prog 68 [o.av] (.bool b) ∧ (b = false → SmO o) := by
 refine ⟨decide (20 < (o.args.length : Int)) || decide (200 < (o.name.size : Int)), fun H => k68.2.calls rfl ?_, fun h => by simp at h; exact ⟨by omega, by omega⟩⟩
 simp only [k68, mkF]
 simp +contextual only [stepsO, sZ, Nat.reduceEqDiff, Nat.reduceAdd, ↓reduceIte, reduceCtorEq]
 refine fun _ => ⟨fun h => ret0 rfl ?_, fun h => ret0 rfl ?_⟩
 ·have h' : ¬ (20 : Int) < o.args.length := by omega
  rw [decide_eq_false h', Bool.false_or]
 ·rw [decide_eq_true h, Bool.true_or]
theorem c70 (s : ByteArray) : ∃ b, Pure Tryz.prog 70 [.str s] (.bool b) ∧ (b = false → s.size ≤ 200) := by
 refine ⟨decide (200 < (s.size : Int)), fun H => k70.2.calls rfl ?_, fun h => by simp at h; omega⟩
 simp only [k70, mkF]
 simp +contextual only [sZ, Nat.reduceAdd, ↓reduceIte, reduceCtorEq]
 exact ret0 rfl rfl
theorem c128x (l : List Opn) : ∀ H, ACalls Tryz.prog 128 [.lst 0 (opas l), .fn (.func 68) [] []] H fun r H' => (∃ n, r = .int .i64 n ∧ (n < 0 → ∀ o ∈ l, SmO o)) ∧ H' = H := by
 refine fun H => k128.2.calls rfl ?_
 simp only [k128, mkF]
 simp +contextual only [stepsO, sZ, Nat.reduceEqDiff, Nat.reduceAdd, ↓reduceIte, reduceCtorEq]
 intro hl
 have fin : ∀ (n : Int), (n < 0 → ∀ o ∈ l, SmO o) → aret H.length [.t 4] [(4, .int .i64 n)] H fun r H' => (∃ n, r = .int .i64 n ∧ (n < 0 → ∀ o ∈ l, SmO o)) ∧ H' = H := fun n hn =>
  aret_one H.length (Nat.le_refl _) (by rw [gt_cons, if_pos rfl]; rfl) ⟨⟨n, by rw [gt_cons, if_pos rfl], hn⟩, List.take_length⟩
 refine swp_loop_nat l.length (fun i => ∀ j, j < i → SmO (l.getD j default)) (fun i => [(0, .lst 0 (opas l)), (1, .fn (.func 68) [] []), (7, .int .i64 l.length), (8, .int .i64 i)]) (fun _ => H) ⟨fun j h => by omega, sle_refl _ _ _⟩ fun i hi hI => ?_
 simp +contextual only [stepsO, sZ, Nat.reduceEqDiff, Nat.reduceAdd, ↓reduceIte, reduceCtorEq]
 obtain ⟨b, hb, hq⟩ := c68 (l.getD i default)
 refine ⟨fun hlt => ?_, fun hge => fin _ fun _ => all_getD fun j hj => hI j (by have := len_nlt hge; omega)⟩
 have hlt := len_lt hlt
 refine ⟨hlt, scall_pure hb ?_⟩
 cases b with
 | true => simp +contextual only [sZ, Nat.reduceEqDiff, ↓reduceIte, reduceCtorEq]; exact fin _ fun h => by omega
 | false =>
   simp +contextual only [sZ, Nat.reduceEqDiff, ↓reduceIte, reduceCtorEq]
   refine ⟨i + 1, ⟨hlt, fun j hj => ?_⟩, by omega, sle_eq (by rw [wrap_nat i (by omega)]) rfl⟩
   by_cases e : j < i
   ·exact hI j e
   ·have : j = i := by omega
    subst this; exact hq rfl
theorem c67x (l : List Opn) : ∀ H, ACalls Tryz.prog 67 [.lst 0 (opas l), .fn (.func 68) [] []] H fun r H' => (∃ b, r = .bool b ∧ (b = false → ∀ o ∈ l, SmO o)) ∧ H' = H := by
 refine fun H => k67.2.calls rfl ?_
 simp only [k67, mkF]
 simp +contextual only [sZ, Nat.reduceEqDiff, Nat.reduceAdd, ↓reduceIte, reduceCtorEq]
 refine scall_to (c128x l H) ?_
 rintro r G ⟨⟨n, rfl, hn⟩, rfl⟩
 simp +contextual only [sZ, ↓reduceIte, reduceCtorEq]
 exact aret_one _ (Nat.le_refl _) (by rw [gt_cons, if_pos rfl]; rfl) ⟨⟨decide (0 ≤ n), by rw [gt_cons, if_pos rfl], fun h => hn (by simpa using h)⟩, List.take_length⟩
theorem c129x (l : List ByteArray) : ∀ H, ACalls Tryz.prog 129 [.lst 0 (strs l), .fn (.func 70) [] []] H fun r H' => (∃ n, r = .int .i64 n ∧ (n < 0 → ∀ o ∈ l, o.size ≤ 200)) ∧ H' = H := by
 refine fun H => k129.2.calls rfl ?_
 simp only [k129, mkF]
 simp +contextual only [stepsO, sZ, Nat.reduceEqDiff, Nat.reduceAdd, ↓reduceIte, reduceCtorEq]
 intro hl
 have fin : ∀ (n : Int), (n < 0 → ∀ o ∈ l, o.size ≤ 200) → aret H.length [.t 4] [(4, .int .i64 n)] H fun r H' => (∃ n, r = .int .i64 n ∧ (n < 0 → ∀ o ∈ l, o.size ≤ 200)) ∧ H' = H := fun n hn =>
  aret_one H.length (Nat.le_refl _) (by rw [gt_cons, if_pos rfl]; rfl) ⟨⟨n, by rw [gt_cons, if_pos rfl], hn⟩, List.take_length⟩
 refine swp_loop_nat l.length (fun i => ∀ j, j < i → (l.getD j default).size ≤ 200) (fun i => [(0, .lst 0 (strs l)), (1, .fn (.func 70) [] []), (7, .int .i64 l.length), (8, .int .i64 i)]) (fun _ => H) ⟨fun j h => by omega, sle_refl _ _ _⟩ fun i hi hI => ?_
 simp +contextual only [stepsO, sZ, Nat.reduceEqDiff, Nat.reduceAdd, ↓reduceIte, reduceCtorEq]
 obtain ⟨b, hb, hq⟩ := c70 (l.getD i default)
 refine ⟨fun hlt => ?_, fun hge => fin _ fun _ => all_getD fun j hj => hI j (by have := len_nlt hge; omega)⟩
 have hlt := len_lt hlt
 refine ⟨hlt, scall_pure hb ?_⟩
 cases b with
 | true => simp +contextual only [sZ, Nat.reduceEqDiff, ↓reduceIte, reduceCtorEq]; exact fin _ fun h => by omega
 | false =>
   simp +contextual only [sZ, Nat.reduceEqDiff, ↓reduceIte, reduceCtorEq]
   refine ⟨i + 1, ⟨hlt, fun j hj => ?_⟩, by omega, sle_eq (by rw [wrap_nat i (by omega)]) rfl⟩
   by_cases e : j < i
   ·exact hI j e
   ·have : j = i := by omega
    subst this; exact hq rfl
theorem c69x (l : List ByteArray) : ∀ H, ACalls Tryz.prog 69 [.lst 0 (strs l), .fn (.func 70) [] []] H fun r H' => (∃ b, r = .bool b ∧ (b = false → ∀ o ∈ l, o.size ≤ 200)) ∧ H' = H := by
 refine fun H => k69.2.calls rfl ?_
 simp only [k69, mkF]
 simp +contextual only [sZ, Nat.reduceEqDiff, Nat.reduceAdd, ↓reduceIte, reduceCtorEq]
 refine scall_to (c129x l H) ?_
 rintro r G ⟨⟨n, rfl, hn⟩, rfl⟩
 simp +contextual only [sZ, ↓reduceIte, reduceCtorEq]
 exact aret_one _ (Nat.le_refl _) (by rw [gt_cons, if_pos rfl]; rfl) ⟨⟨decide (0 ≤ n), by rw [gt_cons, if_pos rfl], fun h => hn (by simpa using h)⟩, List.take_length⟩
structure SmS (s : Sg) (ps ss : List Int) : Prop where
 h1 : s.ops.length ≤ 40
 h2 : s.sorts.length ≤ 40
 h3 : ps.length ≤ 80
 h4 : ss.length ≤ 80
 h5 : ∀ o ∈ s.ops, SmO o
 h6 : ∀ x ∈ s.sorts, x.size ≤ 200
theorem c18 (s : Sg) (ps ss : List Int) (H : List AObj) : ACalls Tryz.prog 18 [s.av, odA ps ss] H fun r H' => (∃ b, r = .bool b ∧ (b = true → SmS s ps ss)) ∧ H' = H := by
 refine k18.2.calls rfl ?_
 simp only [k18, mkF]
 have fin : ∀ (b : Bool), (b = true → SmS s ps ss) → aret H.length [.t 4] [(4, .bool b)] H fun r H' => (∃ b, r = .bool b ∧ (b = true → SmS s ps ss)) ∧ H' = H := fun b hb =>
  aret_one H.length (Nat.le_refl _) (by rw [gt_cons, if_pos rfl]; rfl) ⟨⟨b, by rw [gt_cons, if_pos rfl], hb⟩, List.take_length⟩
 have finf := fin false (fun h => by cases h)
 obtain ⟨q1, q2, q3, q4, q5, q6⟩ := odA_facts ps ss
 simp +contextual only [stepsO, q1, fo20, fo21, ints_len, sZ, Nat.reduceEqDiff, Nat.reduceAdd, ↓reduceIte, reduceCtorEq]
 refine fun _ => ⟨fun h1 _ => ⟨fun h2 _ => ⟨fun h3 _ => ⟨fun h4 => scall_to (c67x s.ops H) ?_, fun _ => finf⟩, fun _ => finf⟩, fun _ => finf⟩, fun _ => finf⟩
 rintro r G ⟨⟨b, rfl, hb⟩, rfl⟩
 cases b with
 | true => simp +contextual only [sZ, Nat.reduceEqDiff, ↓reduceIte, reduceCtorEq]; exact finf
 | false =>
   simp +contextual only [stepsO, sZ, Nat.reduceEqDiff, Nat.reduceAdd, ↓reduceIte]
   refine scall_to (c69x s.sorts _) ?_
   rintro r G ⟨⟨d, rfl, hd⟩, rfl⟩
   simp +contextual only [sZ, Nat.reduceEqDiff, ↓reduceIte, reduceCtorEq]
   exact fin _ fun h => ⟨by omega, by omega, by omega, by omega, hb rfl, hd (by simpa using h)⟩
end Go.Abs
end
section
set_option maxRecDepth 100000
namespace Go.Abs
open Go Go.Proofs Go.Rpo
theorem c146x {S : List AObj → Prop} (hS : Len S) (g : Nat) (caps : List AV) (hcap : caps.map AV.unown = caps) (l : List PP) (hf : ∀ x ∈ l, ∀ H, S H → ACalls Tryz.prog g ([ppA x] ++ caps) H (SBx S)) {H : List AObj} (hH : S H) :
 ACalls Tryz.prog 146 [.lst 0 (ppAs l), .fn (.func g) [] caps] H fun r H' => (∃ n, r = .int .i64 n) ∧ S H' := by
 refine k146.2.calls rfl ?_
 simp only [k146, mkF]
 simp +contextual only [ppAs_len, sZ, Nat.reduceEqDiff, Nat.reduceAdd, ↓reduceIte, reduceCtorEq]
 intro hl
 have fin : ∀ (n : Int) (G : List AObj), S G → aret H.length [.t 4] [(4, .int .i64 n)] G fun r H' => (∃ n, r = .int .i64 n) ∧ S H' := by
  intro n G hG
  refine aret_one H.length (Nat.le_refl _) (by rw [gt_cons, if_pos rfl]; rfl) ?_
  rw [gt_cons, if_pos rfl, List.take_of_length_le (by rw [hS H G hH hG]; exact Nat.le_refl _)]
  exact ⟨⟨n, rfl⟩, hG⟩
 refine swp_loop_st l.length (fun i (G : List AObj) => S G) (fun i G => [(0, .lst 0 (ppAs l)), (1, .fn (.func g) [] caps), (7, .int .i64 l.length), (8, .int .i64 i)]) (fun i G => G) H ⟨hH, sle_refl _ _ _⟩ fun i G hi hG => ?_
 obtain ⟨p1, p2, p3, p4, p5, p6, p7, p8, p9⟩ := ppA_facts (l.getD i default)
 simp +contextual only [hcap, idx_pp, lens_pp, li_pp, Int.toNat_natCast, p4, sZ, Nat.reduceEqDiff, Nat.reduceAdd, ↓reduceIte, reduceCtorEq]
 refine ⟨fun hlt => ?_, fun hge => ?_⟩
 ·have hlt := len_lt hlt
  refine ⟨by omega, scall_to (hf _ (by rw [List.getD_eq_getElem?_getD, List.getElem?_eq_getElem hlt]; exact List.getElem_mem hlt) G hG) ?_⟩
  rintro r G' ⟨⟨b, rfl⟩, hG'⟩
  cases b with
  | true => simp +contextual only [sZ, Nat.reduceEqDiff, ↓reduceIte, reduceCtorEq]; exact fin _ _ hG'
  | false => simp +contextual only [sZ, Nat.reduceEqDiff, ↓reduceIte, reduceCtorEq]; exact ⟨i + 1, G', ⟨hlt, hG'⟩, by omega, sle_eq (by rw [wrap_nat i (by omega)]) rfl⟩
 ·exact fin _ _ hG
theorem c84x {S : List AObj → Prop} (hS : Len S) (g : Nat) (caps : List AV) (hcap : caps.map AV.unown = caps) (l : List PP) (hf : ∀ x ∈ l, ∀ H, S H → ACalls Tryz.prog g ([ppA x] ++ caps) H (SBx S)) {H : List AObj} (hH : S H) :
 ACalls Tryz.prog 84 [.lst 0 (ppAs l), .fn (.func g) [] caps] H (SBx S) := by
 refine k84.2.calls rfl ?_
 simp only [k84, mkF]
 simp +contextual only [sZ, Nat.reduceEqDiff, Nat.reduceAdd, ↓reduceIte, reduceCtorEq]
 refine scall_to (c146x hS g caps hcap l hf hH) ?_
 rintro r G ⟨⟨n, rfl⟩, hG⟩
 simp +contextual only [sZ, ↓reduceIte, reduceCtorEq]
 exact retX hS hH hG
structure Bq (q : Nat) (H0 H : List AObj) : Prop where
 len : H.length = H0.length
 cnt : ∃ n, H[q]? = some (.cells [.int .i64 n])
 get : ∀ j, j ≠ q → H[j]? = H0[j]?
theorem Bq.Len (q : Nat) (H0 : List AObj) : Go.Abs.Len (Bq q H0) := fun H H' h h' => h'.len.trans h.len.symm
theorem Bq.set {q : Nat} {H0 H : List AObj} (h : Bq q H0 H) (n : Int) : Bq q H0 (H.set q (.cells [.int .i64 n])) := by
 obtain ⟨m, hm⟩ := h.cnt
 exact ⟨by simp [h.len], ⟨n, List.getElem?_set_self (get_lt hm)⟩, fun j hj => by rw [List.getElem?_set_ne (Ne.symm hj)]; exact h.get j hj⟩
theorem c26 {q : Nat} {H0 : List AObj} : ∀ (N : Nat) (p : PP), pz p ≤ N → ∀ (H : List AObj), Bq q H0 H → ACalls Tryz.prog 26 [ppA p, .ptr q 0] H (SBx (Bq q H0)) := by
 intro N
 induction N with
 | zero => intro p h; cases p; simp [pz] at h
 | succ N ih =>
   intro p hw H hH
   refine k26.2.calls rfl ?_
   simp only [k26, mkF]
   have hwe : pz p = pzs p.l + 1 := by cases p; simp only [pz, PP.l]
   obtain ⟨m, hm⟩ := hH.cnt
   obtain ⟨p1, p2, p3, p4, p5, p6, p7, p8, p9⟩ := ppA_facts p
   have hset : ∀ o, (H.set q o)[q]? = some o := fun o => List.getElem?_set_self (get_lt hm)
   have li1 : ∀ (H : List AObj) (φ : AV → Prop), aload none (.iptr (.ptr q 0)) H φ = φ (.ptr q 0) := fun _ _ => by simp [aload, AV.one, AV.unown]
   have c85 : ∀ x ∈ p.l, ∀ H, Bq q H0 H → ACalls Tryz.prog 85 ([ppA x] ++ [.iptr (.ptr q 0)]) H (SBx (Bq q H0)) := by
    intro x hx H hH
    refine k85.2.calls rfl ?_
    simp only [k85, mkF, List.cons_append, List.nil_append]
    obtain ⟨p1, p2, p3, p4, p5, p6, p7, p8, p9⟩ := ppA_facts x
    simp +contextual only [p1, p4, li_pp, li1, sZ, Nat.reduceEqDiff, Nat.reduceAdd, ↓reduceIte, reduceCtorEq]
    refine scall_to (ih x (by have := pzs_mem hx; omega) H hH) ?_
    rintro r G ⟨⟨b, rfl⟩, hG⟩
    simp +contextual only [sZ, ↓reduceIte, reduceCtorEq]
    exact retX (Bq.Len q H0) hH hG
   simp +contextual only [hm, hset, p1, li1, fP2, fP3, ints_len, sZ, Nat.reduceEqDiff, Nat.reduceAdd, Nat.reduceLT, ↓reduceIte, reduceCtorEq]
   have rX : ∀ (G : List AObj), Bq q H0 G → aret H.length [.t 4] [(4, .bool false)] G (SBx (Bq q H0)) := fun G hG => retX (Bq.Len q H0) hH hG
   refine ⟨fun _ _ => ⟨fun _ => scall_to (c84x (Bq.Len q H0) 85 [.iptr (.ptr q 0)] rfl p.l c85 (hH.set _)) ?_, fun _ => rX _ (hH.set _)⟩, fun _ => rX _ (hH.set _)⟩
   rintro r G ⟨⟨b, rfl⟩, hG⟩
   simp +contextual only [sZ, Nat.reduceEqDiff, ↓reduceIte, reduceCtorEq]
   exact retX (Bq.Len q H0) hH hG
end Go.Abs
end
section
set_option maxRecDepth 100000
set_option maxHeartbeats 0
namespace Go.Abs
open Go Go.Proofs
noncomputable def k7 := mkF Tryz.call7 Tryz.func7 Tryz.ntmps7 [(0,0,1),(0,1,1),(0,2,1),(0,3,1),(0,4,1),(4,13,2000),(7,9,1000)] [(0,[5,6,7,8,9]),(1,[5,6,7,8,9,18]),(2,[10]),(3,[5,6,7,8,9,11]),(4,[5,6,7,8,9,34]),(5,[10]),(6,[5,6,7,8,9,12,13]),(7,[5,6,7,8,9,12,13,14,15,16]),(8,[5,6,7,8,9,12,71]),(9,[10]),(10,[10])] []
end Go.Abs
end
