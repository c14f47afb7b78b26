/- Part 16 of 18 of the proof. -/
import Derived.Test.YtljchnfgjdjobaaGreatUam
import Derived.Test.YtljchnfgjdjobaaGreatUao
import Derived.Test.YtljchnfgjdjobaaGreatUag
import Derived.KernelRfl
import Derived.Test.YtljchnfgjdjobaaGreatUai
import Derived.Test.YtljchnfgjdjobaaGreatUah
import Derived.Test.YtljchnfgjdjobaaGreatUak
set_option linter.unusedVariables false
set_option linter.unusedSimpArgs false
set_option linter.defProp false
set_option linter.unusedSectionVars false
section
set_option maxRecDepth 100000
namespace Go.aK
open Go Go.Proofs Go.fq
def s5 (z : AV) (kp : Nat → Prop) (v : AV) (xs : List AV) (G : List aa) : Prop :=
 (xs = [] ∧ v = .ah) ∨ ∃ id cap, ¬ kp id ∧ v = .bf id 0 xs.length cap ∧ G[id]? = some (bj z xs cap) ∧ xs.length ≤ cap ∧ xs ≠ []
section
variable {z : AV} {kp : Nat → Prop} {v : AV} {xs : List AV} {G : List aa}
theorem s5.one (h : s5 z kp v xs G) : v.one = true ∧ v.val = true ∧ v.ab = v ∧ v.cells = [v] := by
 rcases h with ⟨_, rfl⟩ | ⟨id, cap, _, rfl, _⟩ <;> exact ⟨rfl, rfl, rfl, rfl⟩
theorem s5.a7 (h : s5 z kp v xs G) {n : Nat} (hn : G.length ≤ n) : v.a7 n = true := by
 rcases h with ⟨_, rfl⟩ | ⟨id, cap, _, rfl, c, _⟩
 ·rfl
 ·have := (List.getElem?_eq_some_iff.1 c).1
  rw [jB]; simp; omega
theorem s5.len (h : s5 z kp v xs G) {H : List aa} (φ : AV → Prop) : eW v H φ = φ (.int .i64 xs.length) := by
 rcases h with ⟨rfl, rfl⟩ | ⟨id, cap, _, rfl, _⟩ <;> rfl
theorem s5.aL (h : s5 z kp v xs G) : aL 1 v = True := by
 rcases h with ⟨_, rfl⟩ | ⟨id, cap, _, rfl, _⟩ <;> rfl
theorem s5.set (h : s5 z kp v xs G) {j : Nat} (hj : ∀ l c, v ≠ .bf j 0 l c) (o : aa) : s5 z kp v xs (G.set j o) := by
 rcases h with h | ⟨id, cap, a, b, c, d⟩
 ·exact .inl h
 ·exact .inr ⟨id, cap, a, b, by rw [List.getElem?_set_ne (fun e => hj _ _ (by rw [e]; exact b))]; exact c, d⟩
end
theorem yz {esz bytes : Nat} {z : AV} (hz : iQ esz (bN z)) {kp : Nat → Prop} {v : AV} {xs : List AV} {G : List aa} (h : s5 z kp v xs G) (fp : ∀ x ∈ xs, iQ esz x) (o : Nat) (ys : List AV) (hy : ys ≠ []) (pv : ∀ x ∈ ys, iQ esz x)
 (hb : (xs.length + ys.length) * bytes ≤ 140737488355328) (hG : ∀ j, kp j → j < G.length) {K : AV → List aa → Prop}
 (hK : ∀ v' G', s5 z kp v' (xs ++ ys) G' → (∀ j, kp j → G'[j]? = G[j]?) → G.length ≤ G'.length → K v' G') : cG esz bytes z v (.ap o ys) G K := by
 have mh : ¬ kp G.length := fun h => Nat.lt_irrefl _ (hG _ h)
 have jK : ta esz ys := fun y hy => ⟨(pv y hy).len, (pv y hy).one⟩
 obtain ⟨f1, f2, f3, f4⟩ := iQ.flat pv
 obtain ⟨g1, g2, g3, g4⟩ := iQ.flat fp
 have wm := qm hz
 have kq : ∀ n m, aj n (da z m) = true := fun n m => (iQ.flat (jC hz m)).2.2.1 n
 unfold cG
 simp only [dz]
 refine ⟨jK, ?_⟩
 rcases h with ⟨rfl, rfl⟩ | ⟨id, cap, bm, rfl, hg, hle, _⟩
 ·refine ⟨by simpa using hb, fun e => absurd e hy, fun _ cap hc _ => ⟨?_, hK _ _ (.inr ⟨G.length, cap, mh, by simp, ?_, by simpa using hc, by simpa using hy⟩) ?_ (by simp)⟩⟩
  ·rw [f2, bw]; exact ⟨f3 _, kq _ _⟩
  ·rw [f2]; simp [bj]
  ·intro j hj; have := hG j hj; rw [List.getElem?_append_left (by omega)]
 ·have xw := (List.getElem?_eq_some_iff.1 hg).1
  simp only [hg, bj, List.length_append, g1, wm, Nat.zero_add, List.drop_zero]
  refine ⟨hb, hle, by rw [← Nat.add_mul]; exact Nat.le_of_eq (by congr 1; omega), fun hroom => ⟨by rw [f2]; exact f3 _, ?_⟩, fun jJ fW hc _ => ⟨?_, ?_⟩⟩
  ·rw [f2]
   refine hK _ _ (.inr ⟨id, cap, bm, by simp, ?_, by simpa using hroom, by simp [hy]⟩) ?_ (by simp)
   ·rw [List.getElem?_set_self xw, bj]
    congr 2
    unfold ag
    rw [f1, List.take_append_of_le_length (by rw [g1]; exact Nat.le_refl _), List.take_of_length_le (by rw [g1]; exact Nat.le_refl _), List.drop_append, List.drop_of_length_le (by rw [g1]; omega), g1,
     show xs.length * esz + ys.length * esz - xs.length * esz = ys.length * esz by omega, xR hz _ _ (by omega), m9, List.nil_append, List.length_append]
    rw [show cap - xs.length - ys.length = cap - (xs.length + ys.length) by omega, List.append_assoc]
   ·intro j hj; rw [List.getElem?_set_ne (fun e => bm (by rw [e]; exact hj))]
  ·rw [List.take_append_of_le_length (by rw [g1]; exact Nat.le_refl _), List.take_of_length_le (by rw [g1]; exact Nat.le_refl _), g2, f2, bw, bw]; exact ⟨⟨g3 _, f3 _⟩, kq _ _⟩
  ·rw [List.take_append_of_le_length (by rw [g1]; exact Nat.le_refl _), List.take_of_length_le (by rw [g1]; exact Nat.le_refl _), g2, f2, ← m9]
   refine hK _ _ (.inr ⟨G.length, fW, mh, by simp, ?_, by simpa using hc, by simp [hy]⟩) ?_ (by simp)
   ·simp [bj]
   ·intro j hj; have := hG j hj; rw [List.getElem?_append_left (by omega)]
def SU (kp : Nat → Prop) (H : List aa) (xs : List AV) (r : AV) (H' : List aa) : Prop := s5 zN kp r xs H' ∧ (∀ j, kp j → H'[j]? = H[j]?) ∧ H.length ≤ H'.length
theorem W0 : ∀ (N : Nat) (t : T), wt t ≤ N → ∀ (kp : Nat → Prop) (v : AV) (xs : List AV) (H : List aa), s5 zN kp v xs H → (∀ x ∈ xs, iQ 4 x) → (∀ j, kp j → j < H.length) → (xs.length + wt t) * 64 ≤ 140737488355328 →
 aq Tryz.prog 132 [t.av, v] H (SU kp H (xs ++ eB (vx t xs.length))) := by
 intro N
 induction N with
 | zero => intro t ht; have := gA t; omega
 | succ N ih =>
 intro t ht kp v xs H hR fp hbase hb
 have hw := Ce t
 have XO := hZ t.l
 refine Fl.2.calls rfl ?_
 simp only [Fl, aI]
 obtain ⟨o1, o2, o3, o4⟩ := hR.one
 simp +contextual only [o3, hR.len, hR.aL, bdN, VY, sZ, Nat.reduceEqDiff, Nat.reduceAdd, ↓reduceIte, reduceCtorEq]
 refine yz z3 hR fp 0 [lR t] (by simp) (by simp [qy]) (by simp; omega) hbase fun v1 G1 Sd Se th => ?_
 obtain ⟨o1', o2', o3', o4'⟩ := Sd.one
 simp +contextual only [sZ]
 intro _
 have iH : ∀ i, (xs ++ lR t :: eB (cR (t.l.take i) (xs.length + 1))).length = xs.length + 1 + gG (t.l.take i) := by intro i; simp [qB, gB]; omega
 have jK : ∀ i, ∀ x ∈ xs ++ lR t :: eB (cR (t.l.take i) (xs.length + 1)), iQ 4 x := by
  intro i x hx
  rcases List.mem_append.1 hx with hx | hx
  ·exact fp x hx
  ·rcases List.mem_cons.1 hx with rfl | hx
   ·exact qy t
   ·exact jD _ x hx
 refine aN t.l.length (fun i (p : AV × List aa) => s5 zN kp p.1 (xs ++ lR t :: eB (cR (t.l.take i) (xs.length + 1))) p.2 ∧ (∀ j, kp j → p.2[j]? = H[j]?) ∧ H.length ≤ p.2.length)
  (fun i p => [(1, p.1), (5, .int .i64 xs.length), (6, oq (aU (t.l.take i) (xs.length + 1))), (17, .ap 0 (bU t.l)), (18, .int .i64 t.l.length), (19, .int .i64 i)])
  (fun i p => p.2) (v1, G1) ⟨⟨Sd, Se, th⟩, aA _ _ _⟩ fun i p hi hI => ?_
 obtain ⟨v, G⟩ := p
 obtain ⟨hR, hG, hl⟩ := hI
 simp only at hR hG hl
 obtain ⟨o1, o2, o3, o4⟩ := hR.one
 have hle := de t.l i
 have EQ := cr (t.l.take i) (xs.length + 1)
 have Sf : (t.l.take i).length ≤ t.l.length := by simp; omega
 simp +contextual only [o3, hR.len, hR.aL, iH, vu, (eO _).2.1, kK, sZ, Nat.reduceEqDiff, Nat.reduceAdd, ↓reduceIte, reduceCtorEq]
 refine ⟨fun aY => ⟨bZ aY, by omega, ?_⟩, fun iW => ?_⟩
 ·have aY := bZ aY
  have Za := nl aY
  have hnext := de t.l (i + 1)
  have e2 : t.l.take (i + 1) = t.l.take i ++ [t.l.getD i default] := by rw [List.take_succ_eq_append_getElem aY]; simp [aY]
  refine af (ih (t.l.getD i default) (by have := cK (iu aY); omega) kp v _ G hR (jK i) (fun j hj => by have := hbase j hj; omega) (by rw [iH]; omega)) ?_
  rintro r G' ⟨wY, dZ, wL⟩
  obtain ⟨o1', o2', o3', o4'⟩ := wY.one
  simp +contextual only [o3', sZ, Nat.reduceEqDiff, ↓reduceIte]
  refine ⟨i + 1, (r, G'), ⟨aY, ?_, fun j hj => (dZ j hj).trans (hG j hj), Nat.le_trans hl wL⟩, by omega, aG ?_ rfl⟩
  ·rw [iH] at wY
   rw [e2, kN, qz, ← List.cons_append, ← List.append_assoc]
   exact wY
  ·rw [e2, iv, au i (by omega)]
 ·have mj : i = t.l.length := by have := dl iW; omega
  subst mj
  rw [List.take_length] at hR
  have Ef := iH t.l.length
  have Eg := jK t.l.length
  rw [List.take_length] at Ef Eg
  have fV : (xs ++ lR t :: eB (cR t.l (xs.length + 1))).set xs.length (Ee (t, aU t.l (xs.length + 1))) = xs ++ eB (vx t xs.length) := by
   rw [List.set_append_right _ _ (Nat.le_refl _), Nat.sub_self, List.set_cons_zero, n8]; rfl
  have ji : (xs ++ lR t :: eB (cR t.l (xs.length + 1))).getD xs.length .any = lR t := by simp
  generalize xs ++ lR t :: eB (cR t.l (xs.length + 1)) = ys at hR Ef Eg fV ji
  rcases hR with ⟨rfl, _⟩ | ⟨id, cap, bm, rfl, hg, cF, _⟩
  ·simp at Ef
   omega
  have xw := (List.getElem?_eq_some_iff.1 hg).1
  obtain ⟨k1, k2, k3, k4, k5⟩ := aE (aU t.l (xs.length + 1))
  simp +contextual only [hg, kr, List.take_length, sZ, Nat.reduceEqDiff, ↓reduceIte, reduceCtorEq]
  refine ⟨by omega, ?_⟩
  refine zS Eg (by omega) (by decide) (y := Ee (t, aU t.l (xs.length + 1))) k1 k4 (by rw [k2]; exact k3 _) (by rw [ji, k2]; rfl) ?_
  simp +contextual only [sZ, Nat.reduceEqDiff, ↓reduceIte, reduceCtorEq]
  rw [fV]
  refine aQ (G.length) (by omega) (by rw [ax, if_pos rfl, jB]; simpa using xw) ?_
  rw [ax, if_pos rfl, List.take_of_length_le (by simp)]
  refine ⟨.inr ⟨id, cap, bm, ?_, ?_, ?_, ?_⟩, ?_, by simpa using hl⟩
  ·rw [← fV]; simp
  ·rw [List.getElem?_set_self xw]
  ·rw [← fV]; simpa using cF
  ·rw [n8]; simp [eB]
  ·intro j hj; rw [List.getElem?_set_ne (fun e => bm (by rw [e]; exact hj))]; exact hG j hj
end Go.aK
end
section
set_option maxRecDepth 100000
namespace Go.aK
open Go Go.Proofs Go.fq
def vW (n0 id : Nat) (G : List aa) : List aa := G.mapIdx fun j o => if j < n0 + 3 ∨ j = id then o else .dead
theorem sd {n0 id j : Nat} {G : List aa} : (vW n0 id G)[j]? = (G[j]?).map fun o => if j < n0 + 3 ∨ j = id then o else .dead := by simp [vW]
theorem yA {n0 id : Nat} {G : List aa} : (vW n0 id G).length = G.length := by simp [vW]
theorem Ez {n0 id : Nat} {G : List aa} : (vW n0 id G).take (n0 + 3) = G.take (n0 + 3) := by
 apply List.ext_getElem?
 intro j
 rw [List.getElem?_take, List.getElem?_take]
 split
 ·rename_i hj
  rw [sd]
  cases G[j]? with
  | none => rfl
  | some o => simp [hj]
 ·rfl
theorem CL {n0 id : Nat} {G : List aa} (h3 : ∀ (j : Nat) (o : aa), n0 ≤ j → j < n0 + 3 → G[j]? = some o → o.a7 (j + 1) = true) (bm : ∀ o, G[id]? = some o → o.a7 (id + 1) = true) : mc n0 G G.length (vW n0 id G) := by
 refine ⟨by rw [yA, Nat.min_self], fun j o ho => ?_⟩
 rw [sd] at ho
 cases hg : G[j]? with
 | none => rw [hg] at ho; cases ho
 | some o' =>
   rw [hg] at ho
   simp only [Option.map_some, Option.some.injEq] at ho
   split at ho
   ·rename_i hc
    subst ho
    refine .inr ⟨rfl, fun h => ?_⟩
    rcases hc with hc | hc
    ·exact h3 j _ h hc hg
    ·subst hc; exact bm _ hg
   ·exact .inl ho.symm
def KG (H : List aa) (ps ss : List Int) (ts : List T) (r : AV) (G : List aa) : Prop :=
 ∃ va, r = .tuple [.ptr (H.length + 2) 0, va] ∧ G.take (H.length + 3) = H ++ [.map [], .map [], jE ps ss (cR ts 0) H.length (H.length + 1)] ∧ H.length + 3 ≤ G.length ∧ RO zI (H.length + 3) va (ints (aU ts 0)) G
theorem s5.W1 {z : AV} {kp kp' : Nat → Prop} {v : AV} {xs : List AV} {G G' : List aa} (h : s5 z kp v xs G) (hk : ∀ id l c, v = .bf id 0 l c → ¬ kp' id ∧ G'[id]? = G[id]?) : s5 z kp' v xs G' := by
 rcases h with h | ⟨id, cap, a, b, c, d⟩
 ·exact .inl h
 ·obtain ⟨h1, h2⟩ := hk _ _ _ b
  exact .inr ⟨id, cap, h1, b, by rw [h2]; exact c, d⟩
theorem s5.ne {z : AV} {kp : Nat → Prop} {v : AV} {xs : List AV} {G : List aa} (h : s5 z kp v xs G) {id l c : Nat} (e : v = .bf id 0 l c) : ¬ kp id := by
 rcases h with ⟨_, rfl⟩ | ⟨id', cap, a, rfl, _⟩
 ·cases e
 ·cases e; exact a
theorem aam (ps ss : List Int) (ts : List T) (H : List aa) (hb : gG ts * 64 ≤ 140737488355328) : aq Tryz.prog 75 [eR ps ss, .ap 0 (bU ts)] H (KG H ps ss ts) := by
 refine WZ.2.DL rfl ?_
 simp only [WZ, aI, eR]
 have XO := hZ ts
 simp +contextual only [bdD, NQ, sZ, Nat.reduceEqDiff, Nat.reduceAdd, ↓reduceIte, reduceCtorEq]
 refine ⟨by simp; omega, fun _ => ?_⟩
 have e0 : ∀ (l : List aa) (x : aa), (H ++ x :: l)[H.length]? = some x := by simp
 refine lM ts.length (fun i (p : AV × AV × List aa) => s5 zN (fun j => j < H.length + 3 ∨ ∃ l c, p.2.1 = .bf j 0 l c) p.1 (eB (cR (ts.take i) 0)) p.2.2 ∧ s5 zI (fun j => j < H.length + 3 ∨ ∃ l c, p.1 = .bf j 0 l c) p.2.1 (ints (aU (ts.take i) 0)) p.2.2 ∧ H.length + 3 ≤ p.2.2.length ∧
  p.2.2.take (H.length + 3) = H ++ [.map [], .map [], .cells [.ap 0 (ints ps), .ap 0 (ints ss), p.1, .map H.length, .map (H.length + 1)]])
  (fun i p => [(6, .ptr (H.length + 2) 0), (7, p.2.1), (15, .ap 0 (bU ts)), (16, .int .i64 ts.length), (17, .int .i64 i)])
  (fun i p => p.2.2) (.ah, .ah, _) ⟨⟨.inl ⟨rfl, rfl⟩, .inl ⟨rfl, rfl⟩, by simp, ?_⟩, nY _ _ _⟩ fun i p hi hI => ?_
 ·rw [List.take_of_length_le (by simp)]
 obtain ⟨v, va, G⟩ := p
 obtain ⟨hR, hA, hl, hG⟩ := hI
 simp only at hR hA hl hG
 obtain ⟨o1, o2, o3, o4⟩ := hR.one
 obtain ⟨p1, p2, p3, p4⟩ := hA.one
 have gget : ∀ j, j < H.length + 3 → G[j]? = (H ++ [.map [], .map [], .cells [.ap 0 (ints ps), .ap 0 (ints ss), v, .map H.length, .map (H.length + 1)]])[j]? := by
  intro j hj; rw [← hG, List.getElem?_take, if_pos hj]
 have g2 : G[H.length + 2]? = some (.cells [.ap 0 (ints ps), .ap 0 (ints ss), v, .map H.length, .map (H.length + 1)]) := by rw [gget _ (by omega)]; simp
 have hle := de ts i
 have EQ := cr (ts.take i) 0
 have Sf : (ts.take i).length ≤ ts.length := by simp; omega
 by_cases aY : i < ts.length
 ·have mq : ((i : Int) < ts.length) = True := eq_true (by omega)
  simp +contextual only [o3, p3, g2, hR.len, hR.aL, jd, mq, decide_true, sZ, Nat.reduceEqDiff, Nat.reduceAdd, Nat.reduceLT, ↓reduceIte]
  have Za := nl aY
  have hnext := de ts (i + 1)
  have e2 : ts.take (i + 1) = ts.take i ++ [ts.getD i default] := by rw [List.take_succ_eq_append_getElem aY]; simp [aY]
  have arrlt : ∀ {z : AV} {kp : Nat → Prop} {u : AV} {xs : List AV} {G : List aa} {j l c : Nat}, s5 z kp u xs G → u = .bf j 0 l c → j < G.length := by
   intro z kp u xs G j l c h e
   rcases h with ⟨_, rfl⟩ | ⟨id', cap, _, rfl, h2, _⟩
   ·cases e
   ·cases e; exact aM h2
  refine ⟨aY, yz z4 hA (ns _) 0 [.int .i64 (gG (ts.take i) : Nat)] (by simp) (ns [_]) (by rw [aw]; simp; omega) (fun j hj => ?_) fun va' G1 P8 Pm th => ?_⟩
  ·rcases hj with hj | ⟨l, c, e⟩
   ·omega
   ·exact arrlt hR e
  obtain ⟨p1', p2', p3', p4'⟩ := P8.one
  have g21 : G1[H.length + 2]? = some (.cells [.ap 0 (ints ps), .ap 0 (ints ss), v, .map H.length, .map (H.length + 1)]) := by rw [Pm _ (.inl (by omega)), g2]
  have Sd : s5 zN (fun j => j < H.length + 3 ∨ ∃ l c, va' = .bf j 0 l c) v (eB (cR (ts.take i) 0)) G1 := hR.W1 fun id l c e => by
   refine ⟨fun h => ?_, Pm id (.inr ⟨l, c, e⟩)⟩
   rcases h with h | ⟨l', c', e'⟩
   ·exact hR.ne e (.inl h)
   ·exact P8.ne e' (.inr ⟨l, c, e⟩)
  simp +contextual only [o3, p3', g21, sZ, Nat.reduceEqDiff, Nat.reduceAdd, Nat.reduceLT, ↓reduceIte, reduceCtorEq]
  have hc := W0 (wt (ts.getD i default)) (ts.getD i default) (Nat.le_refl _) (fun j => j < H.length + 3 ∨ ∃ l c, va' = .bf j 0 l c) v _ G1 Sd (jD _) (fun j hj => by
   rcases hj with hj | ⟨l, c, e⟩
   ·omega
   ·exact arrlt P8 e) (by rw [jd]; omega)
  refine af hc ?_
  rintro r G' ⟨wY, HS, wL⟩
  obtain ⟨o1', o2', o3', o4'⟩ := wY.one
  have g2' : G'[H.length + 2]? = some (.cells [.ap 0 (ints ps), .ap 0 (ints ss), v, .map H.length, .map (H.length + 1)]) := by rw [HS _ (.inl (by omega)), g21]
  have dU := wY.a7 (Nat.le_refl _)
  have DB : s5 zI (fun j => j < H.length + 3 ∨ ∃ l c, r = .bf j 0 l c) va' (ints (aU (ts.take i) 0) ++ [.int .i64 (gG (ts.take i) : Nat)]) G' := P8.W1 fun id l c e => by
   refine ⟨fun h => ?_, HS id (.inr ⟨l, c, e⟩)⟩
   rcases h with h | ⟨l', c', e'⟩
   ·exact P8.ne e (.inl h)
   ·exact wY.ne e' (.inr ⟨l, c, e⟩)
  have gt' : G'.take (H.length + 3) = G.take (H.length + 3) := by
   apply List.ext_getElem?
   intro j
   rw [List.getElem?_take, List.getElem?_take]
   split
   ·rename_i hj; rw [HS j (.inl hj), Pm j (.inl hj)]
   ·rfl
  simp +contextual only [rE, o1', o2', o3', o4', g2', dU, sZ, Nat.reduceEqDiff, Nat.reduceAdd, Nat.reduceLeDiff, ↓reduceIte]
  refine ⟨by omega, i + 1, (r, va', _), ⟨aY, ?_, ?_, by simp; omega, ?_⟩, by omega, zR ?_ rfl⟩
  ·have h1 := wY.set (j := H.length + 2) (fun l c e => wY.ne e (.inl (by omega))) (.cells (ag [.ap 0 (ints ps), .ap 0 (ints ss), v, .map H.length, .map (H.length + 1)] 2 [r]))
   rw [jd] at h1
   rw [e2, kN, qz, Nat.zero_add]
   exact h1
  ·have h1 := DB.set (j := H.length + 2) (fun l c e => DB.ne e (.inl (by omega))) (.cells (ag [.ap 0 (ints ps), .ap 0 (ints ss), v, .map H.length, .map (H.length + 1)] 2 [r]))
   have ek : ints (aU (ts.take i ++ [ts.getD i default]) 0) = ints (aU (ts.take i) 0) ++ [.int .i64 (gG (ts.take i) : Nat)] := by rw [iv, Nat.zero_add]; simp [ints]
   rw [e2, ek]
   exact h1
  ·rw [List.take_set, gt', hG]
   simp [ag]
  ·rw [au i (by omega)]
 ·have mj : i = ts.length := by omega
  subst mj
  have mq : ((ts.length : Int) < ts.length) = False := eq_false (by omega)
  simp +contextual only [mq, decide_false, sZ, Nat.reduceEqDiff, ↓reduceIte]
  rw [List.take_length] at hR hA
  have bz : ∀ (l : List Int) (cap n : Nat), (bj zI (ints l) cap).a7 n = true := fun l cap n => by
   rw [z5]
   simp only [aa.a7, bw]
   exact ⟨bk _ _, (iQ.flat (jC z4 _)).2.2.1 n⟩
  have fin : ∀ (G' : List aa), H.length + 3 ≤ G'.length → (∀ id l c, va = .bf id 0 l c → G'[id]? = G[id]?) → G'.take (H.length + 3) = H ++ [.map [], .map [], jE ps ss (cR ts 0) H.length (H.length + 1)] → kF (mc H.length) H.length [.t 4, .t 5] [(4, .ptr (H.length + 2) 0), (5, va)] G' (KG H ps ss ts) := by
   intro G' wL bm dZ
   have get3 : ∀ (j : Nat) (o : aa), H.length ≤ j → j < H.length + 3 → G'[j]? = some o → o.a7 (j + 1) = true := by
    intro j o h1 h2 ho
    have h3 : (G'.take (H.length + 3))[j]? = some o := by rw [List.getElem?_take, if_pos h2]; exact ho
    rw [dZ, List.getElem?_append_right h1] at h3
    have : j = H.length ∨ j = H.length + 1 ∨ j = H.length + 2 := by omega
    rcases this with rfl | rfl | rfl
    ·simp at h3; subst h3; rfl
    ·simp at h3; subst h3; rfl
    ·simp at h3; subst h3; exact yg ps ss _ _
   have tq : ∀ id, RO zI (H.length + 3) va (ints (aU ts 0)) (vW H.length id G') → (∀ o, G'[id]? = some o → o.a7 (id + 1) = true) → va.a7 G'.length = true → kF (mc H.length) H.length [.t 4, .t 5] [(4, .ptr (H.length + 2) 0), (5, va)] G' (KG H ps ss ts) := by
    intro id wu dU hva
    refine J2 (m := G'.length) (by omega) (CL get3 dU) (x := .ptr (H.length + 2) 0) (y := va) rfl (by simp [ax, p3]) (by rw [rB]; exact decide_eq_true (by omega)) hva ⟨va, rfl, by rw [Ez, dZ], by rw [yA]; exact wL, wu⟩
   rcases hA with ⟨e1, rfl⟩ | ⟨id, cap, hk, rfl, hg, hc, dS⟩
   ·exact tq G'.length (.inl ⟨e1, rfl⟩) (fun o ho => by rw [List.getElem?_eq_none (Nat.le_refl _)] at ho; cases ho) rfl
   ·have N9 := bm _ _ _ rfl
    rw [hg] at N9
    refine tq id (.inr ⟨id, cap, by have := fun h => hk (.inl h); omega, rfl, by rw [sd, N9]; simp, hc, dS⟩) (fun o ho => ?_) ?_
    ·rw [N9] at ho; cases ho; exact bz _ _ _
    ·rw [jB]; exact decide_eq_true (aM N9)
  rw [Cf]
  unfold yU
  rw [g2]
  rcases hR with ⟨e1, rfl⟩ | ⟨id, cap, bm, rfl, hg, cF, dS⟩
  ·simp +contextual only [List.getElem?_cons_succ, List.getElem?_cons_zero, p3, sZ, Nat.reduceEqDiff, ↓reduceIte, reduceCtorEq]
   refine fin G hl (fun _ _ _ _ => rfl) ?_
   rw [hG, jE, nr, if_pos (Cg e1)]
  ·simp +contextual only [List.getElem?_cons_succ, List.getElem?_cons_zero, p3, sZ, Nat.reduceEqDiff, ↓reduceIte, reduceCtorEq]
   have T4 : H.length + 3 ≤ id := by have := fun h => bm (.inl h); omega
   refine vk (by decide) z3 (jD _) (fun x hx => ?_) hg cF ⟨?_, ?_, ?_⟩
   ·obtain ⟨q, _, rfl⟩ := List.mem_map.1 hx; rfl
   ·rw [List.getElem?_set_ne (by omega)]; exact g2
   ·rw [cW]; exact vz _ _
   ·refine fin _ (by simp; omega) (fun id' l c e => ?_) ?_
    ·have h1 : id' ≠ id := fun e' => hA.ne e (.inr ⟨_, _, by rw [e']⟩)
     have h2 : id' ≠ H.length + 2 := fun e' => hA.ne e (.inl (by omega))
     rw [List.getElem?_set_ne (Ne.symm h2), List.getElem?_set_ne (Ne.symm h1)]
    ·rw [List.take_set, List.take_set, hG]
     have e1 : ∀ X : List aa, X.length ≤ id → X.set id .dead = X := fun X h => List.set_eq_of_length_le h
     rw [e1 _ (by simp; omega), jE, nr, if_neg (fun e => dS (by rw [e]; rfl))]
     simp
end Go.aK
end
section
set_option maxRecDepth 100000
set_option maxHeartbeats 0
namespace Go.aK
open Go Go.Proofs
noncomputable def PH := aI Tryz.call105 Tryz.func105 Tryz.ntmps105 [(5,6,2)] [(0,[0,1,2]),(1,[0,1,2]),(2,[0,1,2,16]),(3,[6]),(4,[0,1,2,7]),(5,[0,7]),(6,[0]),(7,[6])] [(5,(.take 0 true (.take 1 true (.take 2 true (.take 3 true (.take 4 true (.take 5 true (.br 6 (.take 7 true .done) .nil))))))))]
end Go.aK
end
section
set_option maxRecDepth 100000
namespace Go.aK
open Go Go.Proofs Go.fq
theorem spI (A B : List Int) (k : Nat) : ag (ints A) k (ints B) = ints (A.take k ++ B ++ A.drop (k + B.length)) := by
 unfold ag
 rw [kQ, rQ, kR, aw, kR]
 rw [List.append_assoc]
theorem sl3 {id i n cap : Nat} (h : i < n) (hc : n ≤ cap) (φ : AV → Prop) : bn 1 (.bf id 0 n cap) (some (.int .i64 (i : Int))) (some (.int .i64 ((i : Int) + 1))) (some (.int .i64 (n : Int))) φ = φ (.bf id (if n = i then 0 else 0 + i * 1) ((i + 1) - i) (n - i)) := by
 have e1 : ((i : Int) + 1).toNat = i + 1 := by omega
 simp only [bn, nI, dG, Int.toNat_natCast, Option.isSome_some, true_and, e1, eq_iff_iff]
 constructor
 ·rintro ⟨_, _, _, h⟩; exact h.2.2.2
 ·exact fun k => ⟨by omega, by omega, by omega, by omega, by omega, by omega, k⟩
theorem aan {id i n cap : Nat} (hc : i ≤ cap) (φ : AV → Prop) : bn 1 (.bf id 0 n cap) none (some (.int .i64 (i : Int))) none φ = φ (.bf id 0 i cap) := by
 have e : (if cap = 0 then 0 else 0 + 0 * 1) = 0 := by split <;> simp
 simp only [bn, gk, dG, Int.toNat_natCast, e, Nat.sub_zero, eq_iff_iff]
 constructor
 ·rintro ⟨_, h⟩; exact h.2.2
 ·exact fun k => ⟨by omega, by omega, hc, k⟩
theorem aao {id i n cap : Nat} (h : i + 1 ≤ n) (hc : n ≤ cap) (φ : AV → Prop) : bn 1 (.bf id 0 n cap) (some (.int .i64 ((i : Int) + 1))) none none φ = φ (.bf id (if cap = i + 1 then 0 else 0 + (i + 1) * 1) (n - (i + 1)) (cap - (i + 1))) := by
 have e1 : ((i : Int) + 1).toNat = i + 1 := by omega
 simp only [bn, gk, dG, e1, eq_iff_iff]
 constructor
 ·rintro ⟨_, h⟩; exact h.2.2
 ·exact fun k => ⟨by omega, h, hc, k⟩
theorem aap {id l h n cap : Nat} (hl : l < h) (hc : h ≤ cap) (φ : AV → Prop) : bn 1 (.bf id 0 n cap) (some (.int .i64 (l : Int))) (some (.int .i64 (h : Int))) none φ = φ (.bf id l (h - l) (cap - l)) := by
 have e : (if cap = l then 0 else 0 + l * 1) = l := by rw [if_neg (by omega)]; omega
 simp only [bn, gk, dG, Int.toNat_natCast, e, eq_iff_iff]
 constructor
 ·rintro ⟨_, _, h⟩; exact h.2.2
 ·exact fun k => ⟨by omega, by omega, by omega, hc, k⟩
theorem aaq (P S pad : List Int) (a : Int) (hb : (P ++ a :: S).length ≤ 1000000000) (id cap : Nat) (cF : cap = (P ++ a :: S ++ pad).length) {H : List aa} (hg : H[id]? = some (.cells (ints (P ++ a :: S ++ pad)))) :
 aq Tryz.prog 105 [.bf id 0 (P.length + 1 + S.length) cap, .int .i64 P.length, .int .i64 ((P.length : Int) + 1)] H fun r H' => r = .bf id 0 (P.length + S.length) cap ∧ H' = H.set id (.cells (ints (P ++ S ++ 0 :: pad))) := by
 refine PH.2.calls rfl ?_
 simp only [PH, aI]
 have iC : cap = P.length + 1 + S.length + pad.length := by rw [cF]; simp; omega
 rw [cF] at iC
 have ne : ((P.length : Int) = (P.length : Int) + 1) = False := eq_false (by omega)
 have pB := aM hg
 have s1 := fun φ => sl3 (id := id) (i := P.length) (n := P.length + 1 + S.length) (cap := cap) (by omega) (by omega) φ
 have s2 := fun φ => aan (id := id) (i := P.length) (n := P.length + 1 + S.length) (cap := cap) (by omega) φ
 have s3' := fun φ => aao (id := id) (i := P.length) (n := P.length + 1 + S.length) (cap := cap) (by omega) (by omega) φ
 have un : ∀ a b c d, (AV.bf a b c d).ab = .bf a b c d := fun _ _ _ _ => rfl
 have ox1 : ∀ (env : Env) (i : IX), fX env (some i) = some (al env i) := fun _ _ => rfl
 have ox2 : ∀ (env : Env), fX env none = none := fun _ => rfl
 have s4 := fun φ => aap (id := id) (l := P.length + S.length) (h := P.length + 1 + S.length) (n := P.length + S.length) (cap := cap) (by omega) (by omega) φ
 simp +contextual only [Option.map_some, Option.map_none, ox1, s1, s2, s3', ne, decide_false, un, sZ, Nat.reduceEqDiff, Nat.reduceAdd, ↓reduceIte, reduceCtorEq]
 have hnone : ∀ a b c d, dz (AV.bf a b c d) = none := fun _ _ _ _ => rfl
 have e0 : P.length + 1 + S.length - (P.length + 1) = S.length := by omega
 have eA : P ++ a :: S ++ pad = (P ++ [a]) ++ (S ++ pad) := by simp
 unfold cG
 simp only [hnone, wG, hg, aw, e0]
 have om : (if cap = P.length + 1 then 0 else 0 + (P.length + 1) * 1) + S.length * 1 ≤ (P ++ a :: S ++ pad).length := by simp only [List.length_append, List.length_cons]; split <;> omega
 have htake : (List.take (S.length * 1) (List.drop (if cap = P.length + 1 then 0 else 0 + (P.length + 1) * 1) (ints (P ++ a :: S ++ pad)))) = ints S := by
  rw [rQ, kQ, Nat.mul_one]
  congr 1
  by_cases hc : cap = P.length + 1
  ·have : S = [] := List.length_eq_zero_iff.1 (by omega)
   subst this; simp
  ·rw [if_neg hc, eA, List.drop_left' (by simp), List.take_left]
 rw [if_pos om]
 simp only [hg, htake, tS, kS, bk]
 refine ⟨?_, trivial, by omega, by rw [aw, ← cF]; omega, trivial, ?_⟩
 ·rw [List.length_drop, aw]; simp only [List.length_append, List.length_cons] at om ⊢; omega
 obtain ⟨x, X, hxX, hXl⟩ : ∃ x X, (a :: S).drop S.length = x :: X ∧ X.length = 0 := by
  have hl : ((a :: S).drop S.length).length = 1 := by simp
  cases hd : (a :: S).drop S.length with
  | nil => rw [hd] at hl; simp at hl
  | cons x X => rw [hd] at hl; exact ⟨x, X, rfl, by simpa using hl⟩
 have hX0 : X = [] := List.length_eq_zero_iff.1 hXl
 subst hX0
 have e1 : ag (ints (P ++ a :: S ++ pad)) (0 + P.length * 1) (ints S) = ints (P ++ S ++ x :: pad) := by
  rw [spI]
  congr 1
  have h1 : (P ++ a :: S ++ pad).take (0 + P.length * 1) = P := by rw [List.append_assoc, Nat.zero_add, Nat.mul_one, List.take_left]
  have h2 : (P ++ a :: S ++ pad).drop (0 + P.length * 1 + S.length) = x :: pad := by
   rw [List.append_assoc, Nat.zero_add, Nat.mul_one, ← List.drop_drop, List.drop_left, List.drop_append_of_le_length (by simp), hxX]; rfl
  rw [h1, h2]
 rw [e1]
 have gs : ∀ o, (H.set id o)[id]? = some o := fun o => List.getElem?_set_self pB
 have e2 : P.length + 1 + S.length - (P.length + S.length) = 1 := by omega
 have e3 : ((P.length + S.length : Nat) : Int) = ((P.length + S.length : Nat) : Int) := rfl
 simp +contextual only [ox1, ox2, s4, un, e2, G8, sZ, Nat.reduceEqDiff, ↓reduceIte, reduceCtorEq]
 unfold gY
 have ap1 : da (.int .i64 0) 1 = ints [0] := rfl
 simp only [gs, ap1, tS, kS, bk, aw, spI, List.set_set]
 refine ⟨by simp; omega, trivial, trivial, ?_⟩
 have e4 : (P ++ S ++ x :: pad).take (P.length + S.length) ++ [0] ++ (P ++ S ++ x :: pad).drop (P.length + S.length + [(0 : Int)].length) = P ++ S ++ 0 :: pad := by
  have hl : (P ++ S).length = P.length + S.length := by simp
  rw [← hl, List.take_left, ← List.drop_drop, List.drop_left]; simp
 rw [e4]
 simp +contextual only [un, sZ, ↓reduceIte, reduceCtorEq]
 exact RY (by simp) (by rw [jB]; exact decide_eq_true pB) rfl rfl
end Go.aK
end
section
set_option maxRecDepth 100000
namespace Go.aK
open Go Go.Proofs Go.fq
theorem PI {S : List aa → Prop} (hS : yj S) {Q : Int → Prop} {a : List Int} {id cap : Nat} (hg : ∀ G, S G → G[id]? = some (bj zI (ints a) cap)) (hc : a.length ≤ cap) (la : a.length ≤ 1000000000) (g : Nat) (pre cz : List AV) (cF : cz.map AV.ab = cz) (k8 : pre.map AV.ab = pre)
 (hf : ∀ x ∈ a, ∀ H, S H → aq Tryz.prog g (pre ++ [.int .i64 x] ++ cz) H (SB S (Q x))) {H : List aa} (hH : S H) :
 aq Tryz.prog 100 [.bf id 0 a.length cap, .fn (.func g) pre cz] H (SI S Q a) := by
 refine Bs.2.calls rfl ?_
 simp only [Bs, aI]
 simp +contextual only [sZ, Nat.reduceEqDiff, Nat.reduceAdd, ↓reduceIte, reduceCtorEq]
 have fin : ∀ (n : Int) (G : List aa), S G → ((n = -1 ∧ ∀ x ∈ a, ¬ Q x) ∨ ∃ m : Nat, n = m ∧ m < a.length ∧ Q (a.getD m 0) ∧ ∀ j, j < m → ¬ Q (a.getD j 0)) → bT H.length [.t 4] [(4, .int .i64 n)] G (SI S Q a) := by
  intro n G hG hn
  refine aQ H.length (Nat.le_refl _) (by rw [ax, if_pos rfl]; rfl) ?_
  rw [ax, if_pos rfl, List.take_of_length_le (by rw [hS H G hH hG]; exact Nat.le_refl _)]
  refine ⟨hG, ?_⟩
  rcases hn with ⟨rfl, h⟩ | ⟨m, rfl, h⟩
  ·exact .inl ⟨rfl, h⟩
  ·exact .inr ⟨m, rfl, h⟩
 refine aN a.length (fun i (G : List aa) => S G ∧ ∀ j, j < i → ¬ Q (a.getD j 0))
  (fun i G => [(0, .bf id 0 a.length cap), (1, .fn (.func g) pre cz), (7, .int .i64 a.length), (8, .int .i64 i)]) (fun i G => G) H ⟨⟨hH, fun j hj => by omega⟩, aA _ _ _⟩ fun i G hi hI => ?_
 obtain ⟨hG, hq⟩ := hI
 by_cases aY : i < a.length
 ·have mq : ((i : Int) < a.length) = True := eq_true (by omega)
  simp +contextual only [mq, decide_true, kr, hg G hG, Fz aY, cF, k8, sZ, Nat.reduceEqDiff, Nat.reduceAdd, ↓reduceIte, reduceCtorEq]
  refine ⟨by omega, af (hf _ (aO (by omega)) G hG) ?_⟩
  rintro r G' ⟨x, rfl, hx, dZ⟩
  cases x with
  | false =>
    simp +contextual only [sZ, Nat.reduceEqDiff, ↓reduceIte, reduceCtorEq]
    refine ⟨i + 1, G', ⟨by omega, dZ, fun j hj => ?_⟩, by omega, aG (by rw [au i (by omega)]) rfl⟩
    by_cases h : j = i
    ·subst h; exact fun h => absurd (hx.2 h) (by simp)
    ·exact hq j (by omega)
  | true =>
    simp +contextual only [sZ, Nat.reduceEqDiff, ↓reduceIte, reduceCtorEq]
    exact fin _ _ dZ (.inr ⟨i, rfl, by omega, hx.1 rfl, hq⟩)
 ·have mq : ((i : Int) < a.length) = False := eq_false (by omega)
  simp +contextual only [mq, decide_false, sZ, Nat.reduceEqDiff, ↓reduceIte, reduceCtorEq]
  refine fin _ _ hG (.inl ⟨rfl, fun x hx => ?_⟩)
  obtain ⟨j, hj, rfl⟩ := List.getElem_of_mem hx
  have := hq j (by omega)
  simpa [hj] using this
theorem W2 {S : List aa → Prop} (hS : yj S) {Q : Int → Prop} {a : List Int} {id cap : Nat} (hg : ∀ G, S G → G[id]? = some (bj zI (ints a) cap)) (hc : a.length ≤ cap) (la : a.length ≤ 1000000000) (g : Nat) (pre cz : List AV) (cF : cz.map AV.ab = cz) (k8 : pre.map AV.ab = pre)
 (hf : ∀ x ∈ a, ∀ H, S H → aq Tryz.prog g (pre ++ [.int .i64 x] ++ cz) H (SB S (Q x))) {H : List aa} (hH : S H) :
 aq Tryz.prog 102 [.bf id 0 a.length cap, .fn (.func g) pre cz] H (SB S (∃ x ∈ a, Q x)) := by
 refine Bt.2.calls rfl ?_
 simp only [Bt, aI]
 simp +contextual only [sZ, Nat.reduceEqDiff, Nat.reduceAdd, ↓reduceIte, reduceCtorEq]
 refine af (PI hS hg hc la g pre cz cF k8 hf hH) ?_
 rintro r G ⟨hG, ⟨rfl, h⟩ | ⟨n, rfl, h1, h2, _⟩⟩
 ·simp +contextual only [sZ, ↓reduceIte, reduceCtorEq]
  exact z6 hS (b := false) (by simp) ⟨fun h => by simp at h, fun ⟨x, hx, h'⟩ => absurd h' (h x hx)⟩ hH hG
 ·simp +contextual only [sZ, ↓reduceIte, reduceCtorEq]
  exact z6 hS (b := true) (by simp) ⟨fun _ => ⟨_, aO h1, h2⟩, fun _ => rfl⟩ hH hG
def SG (c : Cx) (G H : List aa) : Prop := Du c H ∧ Up c G H
theorem SG.len (c : Cx) (G : List aa) : yj (SG c G) := fun H H' h h' => h'.2.len.trans h.2.len.symm
theorem aar {c : Cx} (hc : c.Ok) {i x : Int} (hi : c.dH i) (hx : c.dH x) {t9 : Nat} {G : List aa} (h9 : G[t9]? = some (.cells [.ptr c.d 0])) (n1 : t9 ≠ c.e) (n2 : t9 ≠ c.g) (H : List aa) (hH : SG c G H) :
 aq Tryz.prog 103 ([] ++ [.int .i64 x] ++ [.ptr t9 0, .ai (.int .i64 i)]) H (SB (SG c G) (R c.O (c.tm i) (c.tm x))) := by
 refine Ud.2.calls rfl ?_
 simp only [Ud, aI, List.nil_append, List.cons_append]
 have h9' : H[t9]? = some (.cells [.ptr c.d 0]) := by rw [hH.2.get t9 n1 n2, h9]
 simp +contextual only [h9', sZ, Nat.reduceEqDiff, Nat.reduceAdd, Nat.reduceLT, ↓reduceIte, reduceCtorEq]
 refine af (jG hc hi hx H hH.1) ?_
 rintro r G' ⟨b, rfl, hb, hU, hD⟩
 simp +contextual only [sZ, ↓reduceIte, reduceCtorEq]
 exact z6 (SG.len c G) rfl hb hH ⟨hD, hH.2.trans hU⟩
theorem aas {c : Cx} (hc : c.Ok) {i : Int} (hi : c.dH i) {t9 t10 id cap : Nat} {l : List Int} {G : List aa} (hl : ∀ x ∈ l, c.dH x) (yK : l.length ≤ cap) (Lc : l.length ≤ 1000000000)
 (h9 : G[t9]? = some (.cells [.ptr c.d 0])) (n1 : t9 ≠ c.e) (n2 : t9 ≠ c.g)
 (Yo : G[t10]? = some (.cells [.bf id 0 l.length cap])) (m1 : t10 ≠ c.e) (m2 : t10 ≠ c.g)
 (hg : G[id]? = some (bj zI (ints l) cap)) (k1 : id ≠ c.e) (k2 : id ≠ c.g) (H : List aa) (hH : SG c G H) :
 aq Tryz.prog 101 ([] ++ [.int .i64 i] ++ [.ptr t10 0, .ptr t9 0]) H (SB (SG c G) (¬ ∃ x ∈ l, R c.O (c.tm i) (c.tm x))) := by
 refine Uc.2.calls rfl ?_
 simp only [Uc, aI, List.nil_append, List.cons_append]
 have aat : H[t10]? = some (.cells [.bf id 0 l.length cap]) := by rw [hH.2.get t10 m1 m2, Yo]
 simp +contextual only [aat, sZ, Nat.reduceEqDiff, Nat.reduceAdd, Nat.reduceLT, ↓reduceIte, reduceCtorEq]
 refine af (W2 (SG.len c G) (fun G' dZ => by rw [dZ.2.get id k1 k2, hg]) yK Lc 103 [] [.ptr t9 0, .ai (.int .i64 i)] rfl rfl (fun x hx H' hH' => aar hc hi (hl x hx) h9 n1 n2 H' hH') hH) ?_
 rintro r G' ⟨b, rfl, hb, hG⟩
 simp +contextual only [sZ, ↓reduceIte, reduceCtorEq]
 refine z6 (SG.len c G) (b := !b) (by simp) ?_ hH hG
 rw [← hb]; cases b <;> simp
end Go.aK
end
section
set_option maxRecDepth 100000
set_option maxHeartbeats 0
namespace Go.aK
open Go Go.Proofs
noncomputable def W3 := aI Tryz.call37 Tryz.func37 Tryz.ntmps37 [(0,0,1),(0,1,1),(9,2,2000),(10,0,1),(10,12,2000),(10,15,1),(11,4,2000)] [(0,[2,3,4]),(1,[2,4,8]),(2,[2,4,8,18]),(3,[6,7]),(4,[2,4,22]),(5,[6,7]),(6,[9,10]),(7,[9,10,11]),(8,[9,10,11,31]),(9,[9,10,11,12]),(10,[9,10,11,12]),(11,[9,10,11]),(12,[6,7])] [(10,(.take 1 true (.take 2 true (.take 3 true (.take 4 true (.take 5 true (.take 6 true (.take 7 true (.take 8 true (.take 9 true (.take 10 true (.take 11 true (.br 0 (.br 12 (.take 13 true (.br 14 (.br 15 .done .nil) .nil)) .nil) (.br 12 (.take 13 true (.br 0 (.br 14 (.br 15 .done .nil) .nil) .nil)) .nil))))))))))))))]
noncomputable def PJ := aI Tryz.call104 Tryz.func104 Tryz.ntmps104 [(1,4,2),(5,4,2000),(7,0,3003)] [(0,[1,2]),(1,[1,2]),(2,[1,2,10,11,12]),(3,[1,2,10,11,12,13]),(4,[1,2,3,4,10,11,12]),(5,[1,2,10,11,12]),(6,[1,2,10,11,12]),(7,[2])] [(5,(.take 3 true (.take 0 false (.take 2 false (.br 1 (.br 4 (.take 5 true (.br 6 .done .nil)) .nil) (.br 4 (.take 1 true (.take 5 true (.br 6 .done .nil))) .nil))))))]
end Go.aK
end
section
set_option maxRecDepth 100000
namespace Go.aK
open Go Go.Proofs Go.fq
def zT : AV := .agg [.int .i64 0, .int .i64 0, .ah]
theorem KH : iQ 3 (bN zT) := ⟨rfl, rfl, rfl, rfl⟩
theorem qn (t : T) : t.av = .agg [.int .i64 t.k, .int .i64 t.n, .ap 0 (bU t.l)] := by cases t; rfl
theorem vX (t : T) : iQ 3 t.av := by
 rw [qn]
 exact ⟨rfl, rfl, by simp [AV.cells, dI, bL, cZ, iO, cW], rfl⟩
theorem FN {l : List T} {x : AV} (h : x ∈ bU l) : ∃ t ∈ l, x = t.av := by
 induction l with
 | nil => cases h
 | cons y r ih =>
   rcases List.mem_cons.1 h with rfl | h
   ·exact ⟨y, List.mem_cons_self, rfl⟩
   ·obtain ⟨t, ht, e⟩ := ih h; exact ⟨t, List.mem_cons_of_mem _ ht, e⟩
theorem og (l : List T) : ∀ x ∈ bU l, iQ 3 x := by
 intro x hx; obtain ⟨t, _, rfl⟩ := FN hx; exact vX t
theorem FO {l : List T} {i : Nat} (h : i < l.length) : (bU l).getD i .any = (l.getD i default).av := by
 induction l generalizing i with
 | nil => simp at h
 | cons x r ih =>
   cases i with
   | zero => rfl
   | succ i => simpa [bU] using ih (i := i) (by simpa using h)
theorem iA (l : List T) : (bU l).length = l.length := by induction l with | nil => rfl | cons x r ih => simp [bU, ih]
def CT (base : Nat) (v : AV) (l : List T) (G : List aa) : Prop :=
 (l = [] ∧ v = .ah) ∨ ∃ id cap, base ≤ id ∧ v = .bf id 0 l.length cap ∧ G[id]? = some (bj zT (bU l) cap) ∧ l.length ≤ cap
theorem CT.one {base : Nat} {v : AV} {l : List T} {G : List aa} (h : CT base v l G) : v.one = true ∧ v.val = true ∧ v.ab = v ∧ v.cells = [v] := by
 rcases h with ⟨_, rfl⟩ | ⟨id, cap, _, rfl, _⟩ <;> exact ⟨rfl, rfl, rfl, rfl⟩
theorem CT.a7 {base : Nat} {v : AV} {l : List T} {G : List aa} (h : CT base v l G) {n : Nat} (hn : G.length ≤ n) : v.a7 n = true := by
 rcases h with ⟨_, rfl⟩ | ⟨id, cap, _, rfl, c, _⟩
 ·rfl
 ·have := (List.getElem?_eq_some_iff.1 c).1
  rw [jB]; simp; omega
theorem CT.len {base : Nat} {v : AV} {l : List T} {G : List aa} (h : CT base v l G) {H : List aa} (φ : AV → Prop) : eW v H φ = φ (.int .i64 l.length) := by
 rcases h with ⟨rfl, rfl⟩ | ⟨id, cap, _, rfl, _⟩ <;> rfl
theorem CT.aL {base : Nat} {v : AV} {l : List T} {G : List aa} (h : CT base v l G) : aL 1 v = True := by
 rcases h with ⟨rfl, rfl⟩ | ⟨id, cap, _, rfl, _⟩ <;> rfl
theorem KI (o : Nat) (φ : AV → Prop) : dc 0 false (.ap o []) φ = (φ (.bool true) ∧ φ (.bool false)) := by simp [dc, isNil]
theorem KJ (o : Nat) (x : AV) (r : List AV) (φ : AV → Prop) : dc 0 false (.ap o (x :: r)) φ = φ (.bool false) := by simp [dc, isNil]
theorem KK {esz bytes : Nat} {z : AV} {id o : Nat} {G : List aa} (bm : G[id]? = some (.cells [])) {K : AV → List aa → Prop} (hK : K (.bf id 0 0 0) G) : cG esz bytes z (.bf id 0 0 0) (.ap o []) G K := by
 unfold cG
 simp only [dz, bm]
 refine ⟨fun y h => by simp at h, by simp, Nat.le_refl _, by simp, fun _ => ⟨by simp [flat, aj], ?_⟩, fun h => absurd h (by simp)⟩
 have e : ag ([] : List AV) ((0 + 0) * esz) (List.map AV.ab (flat [])) = [] := by simp [ag, flat]
 simp only [flat, ag, List.flatMap_nil, List.map_nil, List.length_nil, List.append_nil, List.take_nil, List.drop_nil]
 rw [Ei bm]
 exact hK
theorem aav (l : List T) (H : List aa) (hb : l.length * 40 ≤ 140737488355328) : aq Tryz.prog 58 [.ap 0 (bU l)] H fun r H' => CT H.length r l H' ∧ H'.take H.length = H ∧ H.length ≤ H'.length := by
 refine VL.2.calls rfl ?_
 simp only [VL, aI]
 cases l with
 | nil =>
   simp +contextual only [bU, KI, tQ, sx, sZ, Nat.reduceEqDiff, Nat.reduceAdd, ↓reduceIte, reduceCtorEq]
   refine ⟨aQ H.length (Nat.le_refl _) (by rw [ax, if_pos rfl]; rfl) ⟨.inl ⟨rfl, by rw [ax, if_pos rfl]⟩, by simp, by simp⟩, ?_⟩
   refine ⟨rfl, KK (by simp [flat]) ?_⟩
   simp +contextual only [sZ, ↓reduceIte, reduceCtorEq]
   refine aQ (H.length + 1) (by omega) (by rw [ax, if_pos rfl, jB]; exact decide_eq_true (by omega)) ?_
   rw [ax, if_pos rfl, List.take_of_length_le (by simp)]
   exact ⟨.inr ⟨H.length, 0, Nat.le_refl _, rfl, by simp [bj, bU, flat, da], Nat.le_refl _⟩, by simp, by simp⟩
 | cons v r =>
   simp +contextual only [bU, KJ, tQ, sx, sZ, Nat.reduceEqDiff, Nat.reduceAdd, ↓reduceIte, reduceCtorEq]
   refine ⟨rfl, Fy KH (by simp [flat]) (bU (v :: r)) (by simp [bU]) (og _) (by rw [iA]; exact hb) (base := H.length) (by simp) fun v' G' hR hG hl => ?_⟩
   obtain ⟨o1, o2, o3, o4⟩ := hR.one
   simp +contextual only [o3, sZ, ↓reduceIte, reduceCtorEq]
   have wL : H.length ≤ G'.length := by simp at hl; omega
   refine aQ G'.length wL (by rw [ax, if_pos rfl]; exact hR.a7 (Nat.le_refl _)) ?_
   rw [ax, if_pos rfl, List.take_length]
   refine ⟨?_, by rw [hG]; simp, wL⟩
   rcases hR with ⟨h, _⟩ | ⟨id, cap, a, b, c, d, _⟩
   ·cases h
   ·rw [iA] at b d; exact .inr ⟨id, cap, a, b, c, d⟩
theorem loadT {l : List T} {cap i : Nat} (h : i < l.length) (φ : AV → Prop) : db (some (bj zT (bU l) cap)) (some 3) (i * 3) φ = φ (l.getD i default).av := by
 obtain ⟨g1, _⟩ := iQ.flat (og l)
 rw [iA] at g1
 have h1 := o9 (og l) i (by rw [iA]; exact h)
 rw [FO h] at h1
 have xa : (l.getD i default).av.cells.length = 3 := (vX _).len
 have e : ((flat (bU l) ++ da zT (cap - (bU l).length)).drop (i * 3)).take 3 = (l.getD i default).av.cells := by
  rw [List.drop_append_of_le_length (by omega), h1, List.append_assoc, List.take_append_of_le_length (by omega), List.take_of_length_le (by omega)]
 simp only [bj, db, e, eq_iff_iff, List.length_append]
 have e2 : AV.agg ((l.getD i default).av.cells.map AV.drop) = (l.getD i default).av := by rw [qn]; rfl
 rw [e2]
 constructor
 ·exact fun h => h.2
 ·exact fun h2 => ⟨by omega, h2⟩
theorem storeT {l : List T} {cap i id : Nat} (h : i < l.length) {H : List aa} (hg : H[id]? = some (bj zT (bU l) cap)) {K : List aa → Prop} (hK : K H) : gU (some (bj zT (bU l) cap)) 3 id (i * 3) (l.getD i default).av H K := by
 obtain ⟨g1, _⟩ := iQ.flat (og l)
 rw [iA] at g1
 have h1 := o9 (og l) i (by rw [iA]; exact h)
 rw [FO h] at h1
 have ho := vX (l.getD i default)
 have xa := ho.len
 have hs : ag (flat (bU l) ++ da zT (cap - (bU l).length)) (i * 3) ((l.getD i default).av.cells.map AV.ab) = flat (bU l) ++ da zT (cap - (bU l).length) := by
  rw [ho.un]
  unfold ag
  have e1 : (flat (bU l) ++ da zT (cap - (bU l).length)).drop (i * 3) = (l.getD i default).av.cells ++ (flat ((bU l).drop (i + 1)) ++ da zT (cap - (bU l).length)) := by
   rw [List.drop_append_of_le_length (by omega), h1, List.append_assoc]
  have e2 : (flat (bU l) ++ da zT (cap - (bU l).length)).drop (i * 3 + (l.getD i default).av.cells.length) = flat ((bU l).drop (i + 1)) ++ da zT (cap - (bU l).length) := by
   rw [← List.drop_drop, e1, List.drop_left]
  rw [e2, ← e1, List.take_append_drop]
 have hv : (l.getD i default).av.val = true := by rw [qn]; rfl
 simp only [bj, gU]
 refine ⟨hv, xa, by rw [List.length_append]; omega, ho.one, by rw [ho.un]; exact bF (Nat.zero_le _) _ ho.bl, ?_⟩
 rw [hs, show (aa.cells (flat (bU l) ++ da zT (cap - (bU l).length))) = bj zT (bU l) cap from rfl, Ei hg]
 exact hK
theorem CT.set {base : Nat} {v : AV} {l : List T} {G : List aa} (h : CT base v l G) {j : Nat} (hj : j < base) (o : aa) : CT base v l (G.set j o) := by
 rcases h with h | ⟨id, cap, a, b, c, d⟩
 ·exact .inl h
 ·exact .inr ⟨id, cap, a, b, by rw [List.getElem?_set_ne (by omega)]; exact c, d⟩
theorem CT.rO {base : Nat} {v : AV} {l : List T} {G : List aa} (h : CT base v l G) (X : List aa) : CT base v l (G ++ X) := by
 rcases h with h | ⟨id, cap, a, b, c, d⟩
 ·exact .inl h
 ·exact .inr ⟨id, cap, a, b, by rw [List.getElem?_append_left (aM c)]; exact c, d⟩
theorem CT.get {base : Nat} {v : AV} {l : List T} {G : List aa} (h : CT base v l G) {i : Nat} (hi : i < l.length) : ∃ id cap, base ≤ id ∧ v = .bf id 0 l.length cap ∧ G[id]? = some (bj zT (bU l) cap) ∧ l.length ≤ cap := by
 rcases h with ⟨rfl, _⟩ | h
 ·simp at hi
 ·exact h
theorem aaw : ∀ (n : Nat) (t : T), wt t ≤ n → wt t ≤ 1000000000 → Pure Tryz.prog 104 [t.av] t.av := by
 intro n
 induction n with
 | zero => intro t h; have := gA t; omega
 | succ n ih =>
   intro t hn hb H
   refine PJ.2.DL rfl ?_
   simp only [PJ, aI]
   have hw := Ce t
   have XO := hZ t.l
   rw [qn]
   simp +contextual only [sZ, Nat.reduceEqDiff, Nat.reduceAdd, Nat.reduceLT, ↓reduceIte]
   have xw : (H ++ [aa.cells [.int .i64 t.k, .int .i64 t.n, .ap 0 (bU t.l)], .cells [.int .i64 0, .int .i64 0, .ah]]).length = H.length + 2 := by simp
   refine af (aav t.l _ (by omega)) ?_
   rintro v G ⟨hC, hG, hl⟩
   rw [xw] at hC hG hl
   obtain ⟨o1, o2, o3, o4⟩ := hC.one
   have g0 : G[H.length]? = some (.cells [.int .i64 t.k, .int .i64 t.n, .ap 0 (bU t.l)]) := by
    have : (G.take (H.length + 2))[H.length]? = G[H.length]? := by rw [List.getElem?_take, if_pos (by omega)]
    rw [← this, hG]; simp
   have g1 : G[H.length + 1]? = some (.cells [.int .i64 0, .int .i64 0, .ah]) := by
    have : (G.take (H.length + 2))[H.length + 1]? = G[H.length + 1]? := by rw [List.getElem?_take, if_pos (by omega)]
    rw [← this, hG]; simp
   have dZ : G.take H.length = H := by
    have : G.take H.length = (G.take (H.length + 2)).take H.length := by rw [List.take_take]; congr 1; omega
    rw [this, hG]; simp
   have W4 := hC.a7 (Nat.le_refl _)
   have EN : H.length < G.length := by omega
   have fV : ∀ o, (G.set H.length o)[H.length]? = some o := fun o => List.getElem?_set_self EN
   simp +contextual only [rE, o1, o2, o3, o4, g0, W4, fV, hC.aL, hC.len, sZ, Nat.reduceEqDiff, Nat.reduceAdd, Nat.reduceLT, ↓reduceIte]
   refine lM t.l.length (fun i (G : List aa) => CT (H.length + 2) v t.l G ∧ G[H.length]? = some (.cells [.int .i64 t.k, .int .i64 t.n, v]) ∧ G[H.length + 1]? = some (.cells [.int .i64 0, .int .i64 0, .ah]) ∧ G.take H.length = H)
    (fun i G => [(1, .ptr H.length 0), (2, .ptr (H.length + 1) 0), (10, v), (11, .int .i64 t.l.length), (12, .int .i64 i)]) (fun i G => G) (G.set H.length (.cells [.int .i64 t.k, .int .i64 t.n, v]))
    ⟨⟨hC.set (by omega) _, fV _, by rw [List.getElem?_set_ne (by omega)]; exact g1, by rw [List.take_set_of_le (by omega)]; exact dZ⟩, nY _ _ _⟩ fun i G hi hI => ?_
   clear hG g0 g1 dZ W4 EN fV hl hC
   obtain ⟨hC, g0, g1, hG⟩ := hI
   by_cases aY : i < t.l.length
   ·have mq : ((i : Int) < t.l.length) = True := eq_true (by omega)
    obtain ⟨id, cap, bm, rfl, hg, cF⟩ := hC.get aY
    have xw := aM hg
    have N9 : ∀ X, (G ++ X)[id]? = some (bj zT (bU t.l) cap) := fun X => by rw [List.getElem?_append_left xw]; exact hg
    have g0' : ∀ X, (G ++ X)[H.length]? = some (.cells [.int .i64 t.k, .int .i64 t.n, .bf id 0 t.l.length cap]) := fun X => by rw [List.getElem?_append_left (aM g0)]; exact g0
    have hx := qn (t.l.getD i default)
    have hL : ∀ φ, db (some (bj zT (bU t.l) cap)) (some 3) (i * 3) φ = φ (.agg [.int .i64 (t.l.getD i default).k, .int .i64 (t.l.getD i default).n, .ap 0 (bU (t.l.getD i default).l)]) := fun φ => by rw [← hx]; exact loadT aY φ
    have hwx : wt (t.l.getD i default) ≤ gG t.l := by
     have := nl aY; have := de t.l (i + 1); omega
    have hcall := ih (t.l.getD i default) (by omega) (by omega)
    rw [hx] at hcall
    have hS := fun {H' : List aa} (hg : H'[id]? = some (bj zT (bU t.l) cap)) {K : List aa → Prop} (hK : K H') => storeT (id := id) aY hg hK
    rw [hx] at hS
    simp +contextual only [mq, decide_true, kr, hg, hL, g0', sZ, Nat.reduceEqDiff, Nat.reduceAdd, Nat.reduceLT, ↓reduceIte, reduceCtorEq]
    refine ⟨aY, ae hcall ?_, ae hcall ?_⟩
    all_goals
     simp +contextual only [kr, g0', N9, sZ, Nat.reduceEqDiff, Nat.reduceAdd, Nat.reduceLT, ↓reduceIte, reduceCtorEq]
     refine ⟨aY, hS (N9 _) ?_⟩
     simp +contextual only [sZ, Nat.reduceEqDiff, ↓reduceIte]
     refine ⟨i + 1, _, ⟨aY, hC.rO _, g0' _, by rw [List.getElem?_append_left (aM g1)]; exact g1, by rw [List.take_append_of_le_length (by have := aM g1; omega)]; exact hG⟩, by omega, zR (by rw [au i (by omega)]) rfl⟩
   ·have mj : i = t.l.length := by omega
    have mq : ((i : Int) < t.l.length) = False := eq_false (by omega)
    simp +contextual only [rE, mq, decide_false, g0, sZ, Nat.reduceEqDiff, ↓reduceIte]
    have fin : ∀ (G' : List aa), G'[H.length + 1]? = some (.cells [.int .i64 t.k, .int .i64 t.n, .ap 0 (bU t.l)]) → G'.take H.length = H → db G'[H.length + 1]? (some 3) 0 fun v => vj (mc H.length) H.length v G' fun r H' => r = AV.agg [AV.int IntKind.i64 t.k, AV.int IntKind.i64 t.n, AV.ap 0 (bU t.l)] ∧ H' = H := by
     intro G' h1 h2
     rw [h1, Fi]
     exact ⟨H.length, H, Nat.le_refl _, Hk h2 rfl, _, le_refl _, by simp [AV.drop, u0, bL, cZ, iO, cW, dI], rfl, rfl⟩
    have ls : ∀ (l : List AV) (G' : List aa), (∀ o, (G'.set (H.length + 1) o).take H.length = G'.take H.length) := fun l G' o => List.take_set_of_le (by omega)
    have th := aM g1
    rcases hC with ⟨e, rfl⟩ | ⟨id, cap, bm, rfl, hg, cF⟩
    ·rw [e] at fin ⊢
     have e1 : ∀ (K : AV → List aa → Prop), dD 3 AV.ah.drop G K = K (.ap 0 []) G := fun K => rfl
     rw [e1]
     simp +contextual only [rE, g1, sZ, Nat.reduceEqDiff, Nat.reduceAdd, ↓reduceIte, reduceCtorEq]
     exact fin _ (List.getElem?_set_self th) (by rw [List.take_set_of_le (by omega)]; exact hG)
    ·have e1 : ∀ l c, (AV.bf id 0 l c).drop = .bf id 0 l c := fun _ _ => rfl
     rw [e1]
     have ef := fun K hK => vk (esz := 3) (by decide) KH (og t.l) (fun x hx => by obtain ⟨y, _, rfl⟩ := FN hx; rw [qn]; rfl) hg (by rw [iA]; exact cF) (K := K) hK
     rw [iA] at ef
     refine ef _ ?_
     have g1' : (G.set id .dead)[H.length + 1]? = some (.cells [.int .i64 0, .int .i64 0, .ah]) := by rw [List.getElem?_set_ne (by omega)]; exact g1
     simp +contextual only [rE, g1', sZ, Nat.reduceEqDiff, Nat.reduceAdd, ↓reduceIte, reduceCtorEq]
     exact fin _ (List.getElem?_set_self (by simpa using th)) (by rw [List.take_set_of_le (by omega), List.take_set_of_le (by omega)]; exact hG)
end Go.aK
end
section
set_option maxRecDepth 100000
namespace Go.aK
open Go Go.Proofs Go.fq
def ox (r : T → T → Bool) (l : List T) : Nat := l.findIdx fun a => l.all fun x => !r a x
def py (r : T → T → Bool) : Nat → List T → List T
 | 0, _ => []
 | n + 1, l => l.getD (ox r l) default :: py r n (l.eraseIdx (ox r l))
theorem KL {r : T → T → Prop} (hi : ∀ a, ¬ r a a) (ht : ∀ a b c, r a b → r b c → r a c) : ∀ l : List T, l ≠ [] → ∃ a ∈ l, ∀ x ∈ l, ¬ r a x
 | [], h => absurd rfl h
 | [a], _ => ⟨a, List.mem_cons_self, fun x hx => by rcases List.mem_cons.1 hx with rfl | hx; exact hi _; cases hx⟩
 | a :: b :: l, _ => by
   obtain ⟨m, hm, hl⟩ := KL hi ht (b :: l) (by simp)
   by_cases h : r m a
   ·refine ⟨a, List.mem_cons_self, fun x hx => ?_⟩
    rcases List.mem_cons.1 hx with rfl | hx
    ·exact hi _
    ·exact fun h' => hl x hx (ht _ _ _ h h')
   ·refine ⟨m, List.mem_cons_of_mem _ hm, fun x hx => ?_⟩
    rcases List.mem_cons.1 hx with rfl | hx
    ·exact h
    ·exact hl x hx
noncomputable def qL (s : Sg) (ps ss : List Int) (ts : List T) : List T × Int :=
 if fO s ps ss ts = 0 then if 1000 < ts.length then ([], 2) else (py (w7 ps ss) ts.length ts, 0) else ([], fO s ps ss ts)
theorem Ob (n : Nat) : da zI n = ints (List.replicate n 0) := by
 induction n with
 | zero => rfl
 | succ n ih =>
   have e : da zI (n + 1) = .int .i64 0 :: da zI n := rfl
   rw [e, ih]; rfl
theorem CM (l : List Int) (cap : Nat) : bj zI (ints l) cap = .cells (ints (l ++ List.replicate (cap - l.length) 0)) := by
 rw [z5, Ob, kR]
theorem W5 {L : List Int} {n id cap : Nat} (hn : n < L.length) (hc : L.length ≤ cap) (hb : L.length ≤ 1000000000) {H : List aa} (hg : H[id]? = some (bj zI (ints L) cap)) :
 aq Tryz.prog 105 [.bf id 0 L.length cap, .int .i64 (n : Int), .int .i64 ((n : Int) + 1)] H fun r H' => r = .bf id 0 (L.eraseIdx n).length cap ∧ H' = H.set id (bj zI (ints (L.eraseIdx n)) cap) := by
 have e1 : L = L.take n ++ L.getD n 0 :: L.drop (n + 1) := by
  have : L.getD n 0 = L[n] := by simp [hn]
  rw [this, ← List.drop_eq_getElem_cons hn, List.take_append_drop]
 have e2 : L.eraseIdx n = L.take n ++ L.drop (n + 1) := List.eraseIdx_eq_take_drop_succ ..
 have l1 : (L.take n).length = n := by simp; omega
 have l2 : (L.drop (n + 1)).length = L.length - (n + 1) := by simp
 have hp : (L.take n ++ L.getD n 0 :: L.drop (n + 1) ++ List.replicate (cap - L.length) 0).length = cap := by rw [← e1]; simp; omega
 have N9 : H[id]? = some (.cells (ints (L.take n ++ L.getD n 0 :: L.drop (n + 1) ++ List.replicate (cap - L.length) 0))) := by rw [← e1, ← CM]; exact hg
 have h := aaq (L.take n) (L.drop (n + 1)) (List.replicate (cap - L.length) 0) (L.getD n 0) (by rw [← e1]; exact hb) id cap hp.symm N9
 have el : L.take n ++ L.drop (n + 1) ++ 0 :: List.replicate (cap - L.length) 0 = L.eraseIdx n ++ List.replicate (cap - (L.eraseIdx n).length) 0 := by
  rw [e2]
  congr 1
  rw [List.length_append, l1, l2, show cap - (n + (L.length - (n + 1))) = (cap - L.length) + 1 by omega]
  rfl
 have ll : (L.eraseIdx n).length = (L.take n).length + (L.drop (n + 1)).length := by rw [e2, List.length_append]
 rw [el, l1, l2, show n + 1 + (L.length - (n + 1)) = L.length by omega] at h
 rw [CM, ll, l1, l2]
 rw [ll, l1, l2] at h
 exact h
theorem KM {r : T → T → Bool} {l : List T} {n : Nat} (hn : n < l.length) (h1 : ∀ x ∈ l, r (l.getD n default) x = false) (h2 : ∀ j, j < n → ∃ x ∈ l, r (l.getD j default) x = true) : ox r l = n := by
 unfold ox
 rw [List.findIdx_eq hn]
 refine ⟨?_, fun j hj => ?_⟩
 ·have e : l[n] = l.getD n default := by simp [hn]
  rw [e, List.all_eq_true]
  intro x hx; rw [h1 x hx]; rfl
 ·obtain ⟨x, hx, h⟩ := h2 j hj
  have nG : j < l.length := by omega
  have e : l[j] = l.getD j default := by simp [nG]
  rw [e, List.all_eq_false]
  exact ⟨x, hx, by rw [h]; simp⟩
theorem vY {c : Cx} {L : List Int} {n : Nat} (h : n < L.length) : (L.map c.tm).getD n default = c.tm (L.getD n 0) := by simp [h]
theorem FP {Hs G : List aa} {n0 : Nat} {l : List T} {e : Int} {u : AV} (hu : u.ab.le (.ap 0 (bU l))) (hH : Hs.take n0 = G) : bT n0 [.t 6, .t 7] [(6, u), (7, .int .i64 e)] Hs (fun r H' => r = .tuple [.ap 0 (bU l), .int .i64 e] ∧ H' = G) := by
 subst hH
 refine ⟨n0, Nat.le_refl _, [.ap 0 (bU l), .int .i64 e], ?_, by simp [aj, cW, dI, iO], rfl, rfl⟩
 exact ⟨hu, le_refl _, trivial⟩
theorem lZ (vs : List T) : (Ec vs).ab.le (.ap 0 (bU vs)) := by
 cases vs with
 | nil => exact .inr (.inr (.inr (.inl ⟨rfl, 0, rfl⟩)))
 | cons v r => exact le_refl _
theorem Du.SV {c : Cx} {H : List aa} {n : Nat} (h : Du c (H.take n)) (hn : True) : Du c H := by
 have hg : ∀ {j : Nat} {o : aa}, (H.take n)[j]? = some o → H[j]? = some o := by
  intro j o h
  rw [List.getElem?_take] at h
  split at h
  ·exact h
  ·cases h
 exact ⟨hg h.d, by obtain ⟨m, h1, h2⟩ := h.e; exact ⟨m, hg h1, h2⟩, by obtain ⟨m, h1, h2⟩ := h.g; exact ⟨m, hg h1, h2⟩⟩
theorem c37 (s : Sg) (ps ss : List Int) (ts : List T) (hlen : ts.length < 9223372036854775808) : Pure Tryz.prog 37 [s.av, eR ps ss, .ap 0 (bU ts)] (.tuple [.ap 0 (bU (qL s ps ss ts).1), .int .i64 (qL s ps ss ts).2]) := by
 refine fun H => W3.2.calls rfl ?_
 simp only [W3, aI]
 obtain ⟨q1, q2, q3, q4, q5, q6⟩ := bi ps ss
 simp +contextual only [aC, q1, q4, cv, sZ, Nat.reduceEqDiff, Nat.reduceAdd, ↓reduceIte, reduceCtorEq]
 refine ae (Wp s ps ss ts) ?_
 by_cases h0 : fO s ps ss ts = 0
 ·by_cases LH : 1000 < ts.length
  ·have e : qL s ps ss ts = ([], 2) := by unfold qL; rw [if_pos h0, if_pos LH]
   have dU : ((1000 : Int) < ts.length) = True := eq_true (by omega)
   rw [e]
   simp +contextual only [h0, dU, decide_true, hlen, sZ, Nat.reduceEqDiff, ↓reduceIte, reduceCtorEq]
   exact FP (lZ []) List.take_length
  ·have e : qL s ps ss ts = (py (w7 ps ss) ts.length ts, 0) := by unfold qL; rw [if_pos h0, if_neg LH]
   have dU : ((1000 : Int) < ts.length) = False := eq_false (by omega)
   rw [e]
   have hr := qG h0
   have hw := lW hr.tree
   simp +contextual only [q4, cv, h0, dU, decide_false, hlen, sZ, Nat.reduceEqDiff, Nat.reduceAdd, ↓reduceIte]
   refine af (aam ps ss ts H (by omega)) ?_
   rintro r G ⟨va, rfl, hG, hGl, hR⟩
   obtain ⟨o1, o2, o3, o4⟩ := hR.one
   have W4 : ∀ n, G.length ≤ n → va.a7 n = true := fun n hn => hR.a7 hn
   have oP := W4 (G.length + 2) (by omega)
   have pw : ∀ o o', va.a7 (G ++ [o, o'] : List aa).length = true := fun o o' => W4 _ (by simp)
   have hp1 : (AV.ptr (H.length + 2) 0).a7 (G.length + 1) = true := by rw [rB]; exact decide_eq_true (by omega)
   simp +contextual only [o1, o2, o3, o4, oP, hp1, sZ, Nat.reduceEqDiff, Nat.reduceAdd, Nat.reduceLT, ↓reduceIte]
   refine ⟨rfl, by decide, ?_⟩
   have hG0 : G.take H.length = H := by
    have : G.take H.length = (G.take (H.length + 3)).take H.length := by rw [List.take_take]; congr 1; omega
    rw [this, hG]; simp
   rcases hR with ⟨e1, rfl⟩ | ⟨id, cap, bm, rfl, hg, cF, dS⟩
   ·have e2 : ts = [] := by
     have := cr ts 0
     have h3 : aU ts 0 = [] := List.map_eq_nil_iff.1 e1
     rw [h3] at this
     exact List.length_eq_zero_iff.1 this.symm
    subst e2
    refine aN 0 (fun _ _ => True) (fun i (p : Unit) => [(9, .ptr G.length 0), (10, .ptr (G.length + 1) 0), (11, .ah)]) (fun i p => G ++ [.cells [.ptr (H.length + 2) 0], .cells [.ah]]) () ⟨trivial, aG rfl ?_⟩ fun i p hi hI => ?_
    ·rfl
    ·simp +contextual only [sZ, Nat.reduceEqDiff, Nat.reduceAdd, Nat.reduceLT, ↓reduceIte, reduceCtorEq, Int.reduceLT]
     exact FP (lZ []) (by rw [List.take_append_of_le_length (by omega)]; exact hG0)
   ·have P1 : ts ≠ [] := fun e => dS (by rw [e]; rfl)
    have aay : id < G.length := aM hg
    obtain ⟨c, ec⟩ : ∃ c, c = fZ ps ss ts H.length := ⟨_, rfl⟩
    have hc : c.Ok := by rw [ec]; exact hr.cx P1 (by omega) H.length
    have cO : c.O = kP ps ss := by rw [ec]; rfl
    have cd : c.d = H.length + 2 := by rw [ec]; rfl
    have ce : c.e = H.length := by rw [ec]; rfl
    have cg : c.g = H.length + 1 := by rw [ec]; rfl
    have hD0 : Du c (G ++ [.cells [.ptr (H.length + 2) 0], .cells [.bf id 0 (aU ts 0).length cap]]) := by
     have h1 := yk ps ss P1 H
     rw [← ec, ← hG] at h1
     exact Du.rO (h1.SV trivial) _
    obtain ⟨k1, k2⟩ := (NU ts).kids
    have W6 : (aU ts 0).map c.tm = ts := by rw [ec]; exact k1
    have aaz : ∀ x ∈ aU ts 0, c.dH x := by rw [ec]; exact k2
    rw [aw] at *
    have EQ := cr ts 0
    refine aN ts.length (fun j (p : List Int × List T × List aa) => j + p.1.length = ts.length ∧ (∀ x ∈ p.1, c.dH x) ∧ py (w7 ps ss) ts.length ts = p.2.1 ++ py (w7 ps ss) p.1.length (p.1.map c.tm) ∧ p.2.1.length = j ∧ Du c p.2.2 ∧
     p.2.2[G.length]? = some (.cells [.ptr c.d 0]) ∧ p.2.2[G.length + 1]? = some (.cells [.bf id 0 p.1.length cap]) ∧ p.2.2[id]? = some (bj zI (ints p.1) cap) ∧ p.2.2.take H.length = H ∧ p.1.length ≤ cap ∧ ∀ x ∈ p.1, c.tm x ∈ ts)
     (fun i p => [(9, .ptr G.length 0), (10, .ptr (G.length + 1) 0), (11, Ec p.2.1)]) (fun i p => p.2.2) (aU ts 0, [], G ++ [.cells [.ptr (H.length + 2) 0], .cells [.bf id 0 (aU ts 0).length cap]])
     ⟨⟨by simp [EQ], aaz, by rw [W6, EQ]; rfl, rfl, hD0, by rw [cd]; simp, by simp, by rw [List.getElem?_append_left aay]; exact hg, by rw [List.take_append_of_le_length (by omega)]; exact hG0, cF, fun x hx => by rw [← W6]; exact List.mem_map_of_mem hx⟩, aG rfl rfl⟩ fun j p hj hI => ?_
    obtain ⟨L, out, F⟩ := p
    obtain ⟨i1, i2, i3, i4, i5, i6, i7, i8, i9, i10, i11⟩ := hI
    simp only at i1 i2 i3 i4 i5 i6 i7 i8 i9 i10 i11
    have Lc : L.length ≤ 1000 := by omega
    by_cases hL : L = []
    ·have hz : ((0 : Int) < (L.length : Int)) = False := eq_false (by rw [hL]; simp)
     have XG : (Ec out).ab.ab = (Ec out).ab := by cases out <;> rfl
     simp +contextual only [i7, hz, decide_false, XG, sZ, Nat.reduceEqDiff, Nat.reduceAdd, Nat.reduceLT, ↓reduceIte, reduceCtorEq]
     have e2 : py (w7 ps ss) ts.length ts = out := by rw [i3, hL]; simp [py]
     rw [e2]
     exact FP (by rw [XG]; exact lZ out) i9
    ·have mi := List.length_pos_iff.2 hL
     have hz : ((0 : Int) < (L.length : Int)) = True := eq_true (by omega)
     simp +contextual only [i7, hz, decide_true, sZ, Nat.reduceEqDiff, Nat.reduceAdd, Nat.reduceLT, ↓reduceIte, reduceCtorEq]
     refine af (PI (Q := fun i => ¬ ∃ x ∈ L, R c.O (c.tm i) (c.tm x)) (SG.len c F) (fun G' dZ => by rw [dZ.2.get id (by omega) (by omega), i8]) i10 (by omega) 101 [] [.ptr (G.length + 1) 0, .ptr G.length 0] rfl rfl
      (fun x hx H' hH' => aas hc (i2 x hx) i2 i10 (by omega) i6 (by omega) (by omega) i7 (by omega) (by omega) i8 (by omega) (by omega) H' hH') ⟨i5, Up.refl c F⟩) ?_
     rintro r F1 ⟨⟨mv, X1⟩, hq⟩
     have PZ : ∃ n : Nat, r = .int .i64 n ∧ n < L.length ∧ (¬ ∃ x ∈ L, R c.O (c.tm (L.getD n 0)) (c.tm x)) ∧ ∀ j, j < n → ∃ x ∈ L, R c.O (c.tm (L.getD j 0)) (c.tm x) := by
      rcases hq with ⟨_, hq⟩ | ⟨n, h1, h2, h3, h4⟩
      ·exfalso
       obtain ⟨m, hm, h1⟩ := KL (r := fun a b => R c.O a b) (fun a => Pk rfl) (fun a b d h h' => Fx h h') (L.map c.tm) (by simpa using hL)
       obtain ⟨x, hx, rfl⟩ := List.mem_map.1 hm
       refine hq x hx fun ⟨y, hy, h⟩ => h1 _ (List.mem_map_of_mem hy) h
      ·exact ⟨n, h1, h2, h3, fun j hj => Classical.not_not.1 (h4 j hj)⟩
     obtain ⟨n, rfl, hn, h1, h2⟩ := PZ
     have j7 : F1[G.length + 1]? = some (.cells [.bf id 0 L.length cap]) := by rw [X1.get _ (by omega) (by omega), i7]
     have j6 : F1[G.length]? = some (.cells [.ptr c.d 0]) := by rw [X1.get _ (by omega) (by omega), i6]
     have j8 : F1[id]? = some (bj zI (ints L) cap) := by rw [X1.get _ (by omega) (by omega), i8]
     have j9 : F1.take H.length = H := by
      refine Eq.trans ?_ i9
      apply List.ext_getElem?
      intro k
      rw [List.getElem?_take, List.getElem?_take]
      by_cases hk : k < H.length
      ·rw [if_pos hk, if_pos hk]; exact X1.get _ (by omega) (by omega)
      ·rw [if_neg hk, if_neg hk]
     have HR : ox (w7 ps ss) (L.map c.tm) = n := by
      refine KM (by simpa using hn) (fun x hx => ?_) fun j hj => ?_
      ·obtain ⟨y, hy, rfl⟩ := List.mem_map.1 hx
       rw [vY hn]
       cases hb : w7 ps ss (c.tm (L.getD n 0)) (c.tm y) with
       | false => rfl
       | true => exact absurd ⟨y, hy, by rw [cO]; exact jW.1 hb⟩ h1
      ·obtain ⟨y, hy, h⟩ := h2 j hj
       rw [vY (by omega)]
       exact ⟨_, List.mem_map_of_mem hy, jW.2 (by rw [← cO]; exact h)⟩
     have hxN := i2 _ (aO hn)
     have iC : c.nd.length ≤ 2000000 := by
      have : c.nd = cR ts 0 := by rw [ec]; rfl
      rw [this, gB]; omega
     simp +contextual only [j7, j6, j8, mv.d, lT, Zb, cu, kr, Fz hn, sZ, Nat.reduceEqDiff, Nat.reduceAdd, Nat.reduceLT, ↓reduceIte, reduceCtorEq]
     have htree := hr.tree _ (i11 _ (aO hn))
     have hwx : wt (c.tm (L.getD n 0)) ≤ 2000 := by
      have := ((T.kJ _).1 htree).1; have := Ki (c.tm (L.getD n 0)); omega
     have W7 : Pure Tryz.prog 104 [(c.nd.getD (L.getD n 0).toNat default).fst.av] (c.tm (L.getD n 0)).av := aaw _ (c.tm (L.getD n 0)) (Nat.le_refl _) (by omega)
     have Kh := W5 hn i10 (by omega) j8
     have iW : (L.eraseIdx n).length = L.length - 1 := List.length_eraseIdx_of_lt hn
     refine ⟨hn, hxN, ae W7 ?_, ae W7 ?_⟩
     all_goals
      simp +contextual only [NH, Hp, j7, sZ, Nat.reduceEqDiff, Nat.reduceAdd, Nat.reduceLT, ↓reduceIte, reduceCtorEq]
      refine ⟨by omega, ?_⟩
      rw [dY _ (by omega)]
      refine af Kh ?_
      rintro r F2 ⟨rfl, rfl⟩
      have m7 : (F1.set id (bj zI (ints (L.eraseIdx n)) cap))[G.length + 1]? = some (.cells [.bf id 0 L.length cap]) := by rw [List.getElem?_set_ne (by omega)]; exact j7
      have nF : (AV.bf id 0 (L.eraseIdx n).length cap).a7 (G.length + 1 + 1) = true := by rw [jB]; exact decide_eq_true (by omega)
      have r1 : ∀ l, (AV.bf id 0 l cap).one = true ∧ (AV.bf id 0 l cap).val = true ∧ (AV.bf id 0 l cap).ab = .bf id 0 l cap ∧ (AV.bf id 0 l cap).cells = [.bf id 0 l cap] := fun _ => ⟨rfl, rfl, rfl, rfl⟩
      obtain ⟨u1, u2, u3, u4⟩ := r1 (L.eraseIdx n).length
      simp +contextual only [m7, nF, u1, u2, u3, u4, sZ, Nat.reduceEqDiff, Nat.reduceAdd, ↓reduceIte]
      refine ⟨j + 1, (L.eraseIdx n, out ++ [c.tm (L.getD n 0)], _), ⟨by omega, by show j + 1 + (L.eraseIdx n).length = _; omega, fun x hx => i2 x (List.mem_of_mem_eraseIdx hx), ?_, by simp [i4], ?_, ?_, ?_, ?_, ?_, by show (L.eraseIdx n).length ≤ cap; omega, fun x hx => i11 x (List.mem_of_mem_eraseIdx hx)⟩, by omega, aG rfl rfl⟩
      ·have hs : L.length = (L.eraseIdx n).length + 1 := by omega
       rw [i3, hs, py, HR, vY hn, List.append_assoc]
       have em : (L.map c.tm).eraseIdx n = (L.eraseIdx n).map c.tm := by rw [List.eraseIdx_eq_take_drop_succ, List.eraseIdx_eq_take_drop_succ, List.map_append, List.map_take, List.map_drop]
       rw [em]; rfl
      ·exact (mv.set (by omega) (by omega) (by omega)).set (by omega) (by omega) (by omega)
      ·rw [List.getElem?_set_ne (by omega), List.getElem?_set_ne (by omega)]; exact j6
      ·rw [List.getElem?_set_self (by have := aM j7; simp; omega)]
      ·rw [List.getElem?_set_ne (by omega), List.getElem?_set_self (aM j8)]
      ·rw [List.take_set_of_le (by omega), List.take_set_of_le (by omega)]; exact j9
 ·have e : qL s ps ss ts = ([], fO s ps ss ts) := by unfold qL; rw [if_neg h0]
  rw [e]
  simp +contextual only [h0, sZ, Nat.reduceEqDiff, ↓reduceIte, reduceCtorEq]
  exact FP (lZ []) List.take_length
end Go.aK
end
section
set_option maxRecDepth 1000000
namespace Go.aK
open Go Go.Proofs Go.fq
def vT (n : Int) : T := .mk 1 n []
def oT (n : Int) (l : List T) : T := .mk 2 n l
def fC : Sg := ⟨[⟨#[78]⟩], [⟨⟨#[122]⟩, [], 0⟩, ⟨⟨#[115]⟩, [0], 0⟩, ⟨⟨#[97, 100, 100]⟩, [0, 0], 0⟩]⟩
def W8 : mB := ⟨[0], [], oT 2 [vT 0, oT 0 []], vT 0⟩
def cj : mB := ⟨[0, 0], [], oT 2 [vT 0, oT 1 [vT 1]], oT 1 [oT 2 [vT 0, vT 1]]⟩
def cL : Ty := ⟨fC, [W8, cj]⟩
theorem Oe : oG Tryz.prog Qr (dm Tryz.prog Qr 100000) false 64 [] [] = some (cL.av, []) := by kernel_rfl
theorem At : oG Tryz.prog Qr (dm Tryz.prog Qr 100000) false 62 [cL.av] [] = some (.int .i64 0, []) := by kernel_rfl
theorem EA : oG Tryz.prog Qr (dm Tryz.prog Qr 100000) false 92 [cL.av] [] = some (.ap 0 (ints [0, 1, 2]), []) := by kernel_rfl
theorem c64 : Pure Tryz.prog 64 [] cL.av := Pure.mk rfl ((tN rA (zz rA 100000)).1 _ _ _ _ _ Oe)
theorem Au : Pure Tryz.prog 62 [cL.av] (.int .i64 0) := Pure.mk rfl ((tN rA (zz rA 100000)).1 _ _ _ _ _ At)
theorem SW : Pure Tryz.prog 92 [cL.av] (.ap 0 (ints [0, 1, 2])) := Pure.mk rfl ((tN rA (zz rA 100000)).1 _ _ _ _ _ EA)
end Go.aK
end
section
set_option maxRecDepth 100000
namespace Go.aK
open Go Go.Proofs Go.fq
theorem c66 {a b : List Int} {va vb : AV} (ha : IL va a) (hb : IL vb b) (la : a.length ≤ 1000000000) (lb : b.length ≤ 1000000000) : Pure Tryz.prog 66 [va, vb] (.bool (decide (a = b))) := by
 refine fun H => k66.2.calls rfl ?_
 simp only [k66, aI]
 obtain ⟨a1, a2, a3, a4⟩ := ha.one
 obtain ⟨b1, b2, b3, b4⟩ := hb.one
 simp +contextual only [a2, b2, ha.aL, hb.aL, ha.len (by omega), hb.len (by omega), sZ, Nat.reduceEqDiff, Nat.reduceAdd, ↓reduceIte, reduceCtorEq]
 refine ⟨fun dS => aW rfl (by rw [decide_eq_false (fun e => dS (by rw [e]))]), fun Zc => ?_⟩
 refine aB a.length (fun i => ∀ j, j < i → a.getD j 0 = b.getD j 0)
  (fun i => [(0, va), (1, vb), (12, .int .i64 b.length), (13, .int .i64 i)]) (fun i => H) ⟨fun j hj => by omega, aA _ _ _⟩ fun i hi hI => ?_
 simp +contextual only [a2, b2, ha.lens, hb.lens, ha.idx, hb.idx, Int.toNat_natCast, sZ, Nat.reduceEqDiff, ↓reduceIte, reduceCtorEq]
 refine ⟨fun aY => ⟨by omega, by omega, fun dS => ?_, fun he => ?_⟩, fun iW => ?_⟩
 ·refine aW rfl (by rw [decide_eq_false (fun e => dS (by rw [e]))])
 ·refine ⟨i + 1, ⟨by omega, fun j hj => ?_⟩, by omega, aG (by rw [au i (by omega)]) rfl⟩
  by_cases h : j = i
  ·subst h; exact he
  ·exact hI j (by omega)
 ·refine aW rfl (by rw [decide_eq_true (yh (by omega) fun j hj => hI j (by omega))])
noncomputable def po (e : Int) (t : Ty) (ps ss : List Int) : Int × Bool × Int :=
 if e ≠ 0 then (0, false, e) else if iR t.s ps ss ≠ 0 then (0, false, iR t.s ps ss) else (max (qK t ps ss) 0, decide (0 ≤ qK t ps ss), 0)
def EB (p : Int × Bool × Int) : AV := .tuple [.int .i64 p.1, .bool p.2.1, .int .i64 p.2.2]
theorem c31 {t : Ty} {e : Int} (W9 : Pure Tryz.prog 62 [t.av] (.int .i64 e)) (ht : e = 0 → As t) (ps ss : List Int) : Pure Tryz.prog 31 [t.av, eR ps ss] (EB (po e t ps ss)) := by
 refine fun H => k31.2.calls rfl ?_
 simp only [k31, aI]
 obtain ⟨q1, q2, q3, q4, q5, q6⟩ := bi ps ss
 obtain ⟨e1, e2, e3, e4, e5, e6⟩ := Ty.facts t
 simp +contextual only [q1, e1, e4, mg, sZ, Nat.reduceEqDiff, Nat.reduceAdd, ↓reduceIte, reduceCtorEq]
 refine ae W9 ?_
 by_cases h0 : e = 0
 ·subst h0
  simp +contextual only [aC, q4, cv, Kz, sZ, Nat.reduceEqDiff, Nat.reduceAdd, ↓reduceIte]
  refine ae (ZH t.s ps ss) ?_
  by_cases h1 : iR t.s ps ss = 0
  ·have hv := (vI.1 h1).2
   simp +contextual only [h1, q4, e4, cv, mg, sZ, Nat.reduceEqDiff, Nat.reduceAdd, ↓reduceIte]
   refine ae (c89 t ps ss hv.va fun q hq => (ht rfl).eq q hq ps hv.1) ?_
   simp +contextual only [sZ, Nat.reduceEqDiff, ↓reduceIte, reduceCtorEq]
   have e0 : po 0 t ps ss = (max (qK t ps ss) 0, decide (0 ≤ qK t ps ss), 0) := by unfold po; rw [if_neg (by simp), if_neg (by simp [h1])]
   rw [e0]
   exact yi (by decide) List.take_length ⟨rfl, rfl, rfl⟩ rfl rfl rfl ⟨rfl, rfl⟩
  ·have e0 : po 0 t ps ss = (0, false, iR t.s ps ss) := by unfold po; rw [if_neg (by simp), if_pos h1]
   rw [e0]
   simp +contextual only [h1, sZ, Nat.reduceEqDiff, ↓reduceIte, reduceCtorEq]
   exact yi (by decide) List.take_length ⟨rfl, rfl, rfl⟩ rfl rfl rfl ⟨rfl, rfl⟩
 ·have e0 : po e t ps ss = (0, false, e) := by unfold po; rw [if_pos h0]
  rw [e0]
  simp +contextual only [h0, sZ, Nat.reduceEqDiff, ↓reduceIte, reduceCtorEq]
  exact yi (by decide) List.take_length ⟨rfl, rfl, rfl⟩ rfl rfl rfl ⟨rfl, rfl⟩
noncomputable def Of (e : Int) (t : Ty) (ps ss : List Int) : Int := if (po e t ps ss).2.2 = 0 ∧ (po e t ps ss).2.1 = true then 60 else (po e t ps ss).2.2
theorem EC (p : Int × Bool × Int) (φ : AV → Prop) : bC (EB p) 0 φ = φ (.int .i64 p.1) ∧ bC (EB p) 1 φ = φ (.bool p.2.1) ∧ bC (EB p) 2 φ = φ (.int .i64 p.2.2) := by simp [EB, bC, mY, nU]
theorem FQ (p : Int × Bool × Int) : (EB p).ab = EB p := rfl
theorem c33 {t : Ty} {e : Int} (W9 : Pure Tryz.prog 62 [t.av] (.int .i64 e)) (ht : e = 0 → As t) (ps ss : List Int) : Pure Tryz.prog 33 [t.av, eR ps ss] (.int .i64 (Of e t ps ss)) := by
 refine fun H => k33.2.calls rfl ?_
 simp only [k33, aI]
 obtain ⟨q1, q2, q3, q4, q5, q6⟩ := bi ps ss
 obtain ⟨e1, e2, e3, e4, e5, e6⟩ := Ty.facts t
 simp +contextual only [q1, q4, e1, e4, cv, mg, sZ, Nat.reduceEqDiff, Nat.reduceAdd, ↓reduceIte, reduceCtorEq]
 refine ae (c31 W9 ht ps ss) ?_
 unfold Of
 generalize po e t ps ss = p
 have x1 := fun φ => (EC p φ).1
 have x2 := fun φ => (EC p φ).2.1
 have x3 := fun φ => (EC p φ).2.2
 obtain ⟨n, b, m⟩ := p
 simp only at x1 x2 x3
 by_cases h0 : m = 0
 ·subst h0
  cases b <;>
  simp +contextual only [x1, x2, x3, FQ, sZ, Nat.reduceEqDiff, ↓reduceIte, reduceCtorEq] <;>
  exact aW rfl rfl
 ·have hm : (m = 0) = False := eq_false h0
  simp +contextual only [x1, x2, x3, FQ, hm, decide_false, sZ, Nat.reduceEqDiff, ↓reduceIte, reduceCtorEq]
  exact aW rfl (by simp [h0])
theorem KN {H e : List aa} {u v w x y z : AV} (hb : x.a7 H.length = true ∧ y.a7 H.length = true ∧ z.a7 H.length = true) (hx : u.ab = x) (hy : v.ab = y) (hz : w.ab = z) : sT H.length [u, v, w] (H ++ e) fun r H' => r = .tuple [x, y, z] ∧ H' = H := by
 subst hx; subst hy; subst hz
 exact ⟨H.length, Nat.le_refl _, _, b9 _, by show aj _ [u.ab, v.ab, w.ab] = true; rw [bL, bL, bL, cZ, hb.1, hb.2.1, hb.2.2]; rfl, rfl, by simp⟩
theorem HL (f : Fo) : ∃ P S, foA f = eR P S := by
 cases f with
 | none => exact ⟨_, _, rfl⟩
 | some p => exact ⟨_, _, rfl⟩
noncomputable def KO (e : Int) (t : Ty) (ops : List Int) : Fo × Int := if e ≠ 0 then (none, e) else if 4 < ops.length then (none, 2) else (xc t ops, 0)
theorem c35 {t : Ty} {e : Int} {ops : List Int} (W9 : Pure Tryz.prog 62 [t.av] (.int .i64 e)) (h92 : e = 0 → Pure Tryz.prog 92 [t.av] (.ap 0 (ints ops))) (ht : e = 0 → As t) (hr : e = 0 → ∀ i ∈ ops, 0 ≤ i ∧ i < t.s.ops.length) (hl : ops.length ≤ 1000000) :
 Pure Tryz.prog 35 [t.av] (.tuple [foA (KO e t ops).1, .bool (KO e t ops).1.isSome, .int .i64 (KO e t ops).2]) := by
 refine fun H => k35.2.calls rfl ?_
 simp only [k35, aI]
 obtain ⟨e1, e2, e3, e4, e5, e6⟩ := Ty.facts t
 have zf2 : List.map AV.ab [AV.ah, .ah] = [.ah, .ah] := rfl
 have zb2 : ∀ n, aj n [AV.ah, .ah] = true := fun _ => rfl
 simp +contextual only [e1, e4, mg, zf2, zb2, sZ, Nat.reduceEqDiff, Nat.reduceAdd, ↓reduceIte]
 refine ae W9 ?_
 have gz : (H ++ [aa.cells [AV.ah, .ah]])[H.length]? = some (.cells [.ah, .ah]) := by simp
 by_cases h0 : e = 0
 ·subst h0
  simp +contextual only [e4, mg, sZ, Nat.reduceEqDiff, Nat.reduceAdd, ↓reduceIte]
  refine ae (h92 rfl) ?_
  by_cases h4 : 4 < ops.length
  ·have h4' : ((4 : Int) < ops.length) = True := eq_true (by omega)
   have e0 : KO 0 t ops = (none, 2) := by unfold KO; rw [if_neg (by simp), if_pos h4]
   rw [e0]
   have sp2 : ∀ (a b x y : AV), ag [a, b] 0 [x, y] = [x, y] := fun _ _ _ _ => rfl
   simp +contextual only [zf2, zb2, aw, h4', decide_true, gz, kX, sp2, sZ, Nat.reduceEqDiff, Nat.reduceAdd, ↓reduceIte, reduceCtorEq]
   exact fun _ => KN ⟨rfl, rfl, rfl⟩ rfl rfl rfl
  ·have h4' : ((4 : Int) < ops.length) = False := eq_false (by omega)
   have e0 : KO 0 t ops = (xc t ops, 0) := by unfold KO; rw [if_neg (by simp), if_neg h4]
   rw [e0]
   simp +contextual only [e4, mg, aw, h4', decide_false, sZ, Nat.reduceEqDiff, Nat.reduceAdd, ↓reduceIte]
   intro hl9
   refine ae (c93 (ht rfl) (.inr rfl) (hr rfl) hl) ?_
   generalize xc t ops = f
   obtain ⟨P, S, ef⟩ := HL f
   obtain ⟨q1, q2, q3, q4, q5, q6⟩ := bi P S
   rw [ef]
   have zo : (eR P S).cells = [.ap 0 (ints P), .ap 0 (ints S)] := rfl
   have sp2 : ∀ (a b x y : AV), ag [a, b] 0 [x, y] = [x, y] := fun _ _ _ _ => rfl
   simp +contextual only [gz, q1, q4, kX, zo, sp2, cv, bk, sZ, Nat.reduceEqDiff, Nat.reduceAdd, Nat.reduceLT, ↓reduceIte, reduceCtorEq]
   exact KN ⟨q6 _, rfl, rfl⟩ rfl rfl rfl
 ·have hm : (e = 0) = False := eq_false h0
  have e0 : KO e t ops = (none, e) := by unfold KO; rw [if_pos h0]
  rw [e0]
  have sp2 : ∀ (a b x y : AV), ag [a, b] 0 [x, y] = [x, y] := fun _ _ _ _ => rfl
  simp +contextual only [zf2, zb2, hm, gz, kX, sp2, sZ, Nat.reduceEqDiff, Nat.reduceAdd, ↓reduceIte, reduceCtorEq]
  exact KN ⟨rfl, rfl, rfl⟩ rfl rfl rfl
end Go.aK
end
section
namespace Go.aK
open Go Go.Proofs Go.fq
end Go.aK
end
section
namespace Go.fq
open Go.aK
def PK {G : T → T → Prop} [h : ∀ x y, Decidable (G x y)] : ∀ l m, Decidable (Lx G l m)
 | [], _ => isFalse (fun h => h)
 | _ :: _, [] => isTrue trivial
 | x :: l, y :: m => @instDecidableOr _ _ (@instDecidableAnd _ _ inferInstance (PK l m)) (h x y)
def Xa {G : T → T → Prop} [h : ∀ x y, Decidable (G x y)] (l m : List T) : Decidable (Mu G l m) := by unfold Mu; exact inferInstance
def Xb {sp : Int → Int} {G : T → T → Prop} [h : ∀ x y, Decidable (G x y)] (a b : T) : Decidable (Fm sp G a b) := by
 unfold Fm
 have := @PK G h
 have := @Xa G h
 exact inferInstance
def KP (sp : Int → Int) : ∀ (f : Nat) (a b : T), Decidable (Lr sp f a b)
 | 0, _, _ => isFalse (fun h => h)
 | f + 1, a, b => @Xb sp (Lr sp f) (KP sp f) a b
instance Xc (sp : Int → Int) (a b : T) : Decidable (Gt sp a b) := KP sp (wt a + wt b) a b
instance Xd (O : Od) (a b : T) : Decidable (R O a b) := Xc O.sp (norm O a) (norm O b)
instance Xe (O : Od) (a b : T) : Decidable (E O a b) := inferInstanceAs (Decidable (norm O a = norm O b))
end Go.fq
end
section
namespace Go.aK
open Go Go.Proofs Go.fq
mutual
def CN (n : Nat) : T → Bool
 | .mk k m l => (!decide (k = 2) || (decide (0 ≤ m) && decide (m < n))) && Av n l
def Av (n : Nat) : List T → Bool
 | [] => true
 | x :: r => CN n x && Av n r
end
mutual
theorem FR {n : Nat} : ∀ {t : T}, CN n t = true → yf (fun m => 0 ≤ m ∧ m < n) t
 | .mk k m l, h => by
   simp only [CN, Bool.and_eq_true, Bool.or_eq_true, Bool.not_eq_true', decide_eq_false_iff_not, decide_eq_true_eq] at h
   exact .mk k m l (fun hk => h.1.resolve_left fun hn => hn hk) (CO h.2)
theorem CO {n : Nat} : ∀ {l : List T}, Av n l = true → ∀ x ∈ l, yf (fun m => 0 ≤ m ∧ m < n) x
 | [], _ => fun x hx => by cases hx
 | y :: r, h => by
   simp only [Av, Bool.and_eq_true] at h
   have h1 := FR h.1
   have h2 := CO h.2
   intro x hx
   rcases List.mem_cons.1 hx with rfl | hx
   ·exact h1
   ·exact h2 x hx
end
def CP (ps ss : List Int) (a b : T) : Bool := match Xd (kP ps ss) a b with | .isTrue _ => true | .isFalse _ => false
theorem Aw {ps ss : List Int} {a b : T} : CP ps ss a b = true ↔ R (kP ps ss) a b := by
 unfold CP
 cases Xd (kP ps ss) a b with
 | isTrue h => simp [h]
 | isFalse h => simp [h]
end Go.aK
end
section
set_option maxRecDepth 1000000
namespace Go.aK
open Go Go.Proofs Go.fq
theorem Ax (ps ss : List Int) (a b : T) : w7 ps ss a b = CP ps ss a b := by rw [Bool.eq_iff_iff, jW, Aw]
def FT (ps ss : List Int) (a b : T) : Bool := match Xe (kP ps ss) a b with | .isTrue _ => true | .isFalse _ => false
theorem FU (ps ss : List Int) (a b : T) : Wq ps ss a b = FT ps ss a b := by
 rw [Bool.eq_iff_iff, FE]
 unfold FT
 cases Xe (kP ps ss) a b with
 | isTrue h => simp [h]
 | isFalse h => simp [h]
def SX (s : Sg) (ps ss : List Int) : Bool := decide (ps.length = s.ops.length) && (decide (ss.length = s.ops.length) && ((List.range ps.length).all (fun j => decide (0 ≤ ps.getD j 0 ∧ ps.getD j 0 ≤ 255 ∧ 1 ≤ ss.getD j 0 ∧ ss.getD j 0 ≤ 3)) && (List.range ps.length).all fun j => (List.range ps.length).all fun k => !decide (ps.getD j 0 = ps.getD k 0) || decide (ss.getD j 0 = ss.getD k 0)))
theorem KQ {s : Sg} {ps ss : List Int} : SX s ps ss = true ↔ eE s ps ss := by
 simp only [SX, Bool.and_eq_true, decide_eq_true_eq, List.all_eq_true, List.mem_range, Bool.or_eq_true, Bool.not_eq_true', decide_eq_false_iff_not]
 constructor
 ·rintro ⟨h1, h2, h3, h4⟩
  exact ⟨h1, h2, h3, fun j k hj hk he => (h4 j hj k hk).resolve_left fun hn => hn he⟩
 ·rintro ⟨h1, h2, h3, h4⟩
  refine ⟨h1, h2, h3, fun j hj k hk => ?_⟩
  by_cases h : ps.getD j 0 = ps.getD k 0
  ·exact .inr (h4 j k hj hk h)
  ·exact .inl h
def vZ (s : Sg) (ps ss : List Int) : Int := if nu s = true then (if SX s ps ss = true then 0 else 60) else 40
theorem qM (s : Sg) (ps ss : List Int) : iR s ps ss = vZ s ps ss := by
 unfold iR vZ
 by_cases h : eE s ps ss
 ·rw [if_pos h, if_pos (KQ.2 h)]
 ·rw [if_neg h, if_neg (fun k => h (KQ.1 k))]
def v7 (s : Sg) (ps ss : List Int) (l : List T) : Int := if vZ s ps ss = 0 then (if (l.all fun t => t.tree && nv s t) = true then 0 else 4) else vZ s ps ss
theorem iB (s : Sg) (ps ss : List Int) (l : List T) : fO s ps ss l = v7 s ps ss l := by unfold fO v7; rw [qM]
def KR (ps ss : List Int) (e : mB) : Bool := e.rest.all fun y => CP ps ss e.a y
theorem KS (ps ss : List Int) (e : mB) : xb ps ss e = KR ps ss e := by
 rw [Bool.eq_iff_iff]
 simp only [xb, NZ, KR, List.all_eq_true, Aw]
 exact @decide_eq_true_iff _ (Classical.propDecidable _)
def v8 (t : Ty) (ps ss : List Int) : Int := pk (fun e => !KR ps ss e) t.es 0
theorem sf (t : Ty) (ps ss : List Int) : qK t ps ss = v8 t ps ss := by
 unfold qK v8
 congr 1
 funext e
 rw [KS]
def ED (t : Ty) (ops pl st : List Int) : Bool := decide (vZ t.s (pn t.s.ops.length ops pl) (sc t.s.ops.length ops st) = 0) && decide (v8 t (pn t.s.ops.length ops pl) (sc t.s.ops.length ops st) < 0)
theorem HM (t : Ty) (ops pl st : List Int) : vS t ops pl st = ED t ops pl st := by
 unfold vS ED
 rw [qM, sf, Bool.eq_iff_iff]
 simp
def EE (t : Ty) (ops pl : List Int) (s : Fo) (st : List Int) : Fo × Bool := if ED t ops pl st = true then (some (pn t.s.ops.length ops pl, sc t.s.ops.length ops st), false) else (s, true)
def EF (t : Ty) (ops : List Int) (s : Fo) (pl : List Int) : Fo × Bool := if nB pl = true then eG (EE t ops pl) (gX (df 1 3) ops.length) s else (s, true)
def KT (t : Ty) (ops : List Int) : Fo := (eG (EF t ops) (gX (df 0 ops.length) ops.length) none).1
theorem KU (t : Ty) (ops : List Int) : xc t ops = KT t ops := by
 have h1 : dn t ops = EE t ops := by funext pl s st; unfold dn EE; rw [HM]
 have h2 : eS t ops = EF t ops := by funext s pl; unfold eS EF; rw [h1]
 unfold xc KT; rw [h2]
def fD : List Int := [0, 0, 1]
def mw : List Int := [1, 1, 1]
def stM : List Int := [1, 1, 3]
def CQ : List Int := [0, 0, 0]
theorem SY : v7 fC fD mw [cj.a, cj.b] = 0 := by kernel_rfl
theorem Xf : v7 fC fD mw [cj.b, cj.a] = 0 := by kernel_rfl
theorem gr1 : CP fD mw cj.a cj.b = true := by kernel_rfl
theorem gr2 : CP fD mw cj.b cj.a = false := by kernel_rfl
theorem aaB : v7 fC fD stM [oT 2 [vT 0, vT 1], oT 2 [vT 1, vT 0]] = 0 := by kernel_rfl
theorem aaC : v7 fC fD mw [oT 2 [vT 0, vT 1], oT 2 [vT 1, vT 0]] = 0 := by kernel_rfl
theorem eq1 : FT fD stM (oT 2 [vT 0, vT 1]) (oT 2 [vT 1, vT 0]) = true := by kernel_rfl
theorem eq2 : FT fD mw (oT 2 [vT 0, vT 1]) (oT 2 [vT 1, vT 0]) = false := by kernel_rfl
theorem aaD : vZ fC fD mw = 0 := by kernel_rfl
theorem aaE : vZ fC CQ mw = 0 := by kernel_rfl
theorem Xg : v8 cL fD mw = -1 := by kernel_rfl
theorem Xh : v8 cL CQ mw = 1 := by kernel_rfl
theorem aaF : KT cL [0, 1, 2] = some (fD, mw) := by kernel_rfl
def yB : List T := [oT 1 [oT 0 []], vT 0, oT 0 [], oT 2 [oT 0 [], oT 0 []]]
theorem aaG : v7 fC fD mw yB = 0 := by kernel_rfl
theorem aaH : py (CP fD mw) 4 yB = [vT 0, oT 0 [], oT 1 [oT 0 []], oT 2 [oT 0 [], oT 0 []]] := by kernel_rfl
theorem qN : As cL := by
 refine ⟨by decide, fun e he ps hp => ?_⟩
 have hp3 : ps.length = 3 := hp
 have key : ∀ e ∈ cL.es, e.cs.length ≤ 1000 ∧ (∀ t ∈ e.a :: e.rest, t.tree = true) ∧ ∀ t ∈ e.a :: e.rest, CN 3 t = true := by
  intro e he
  have h : (cL.es.all fun e => decide (e.cs.length ≤ 1000) && ((e.a :: e.rest).all (fun t => t.tree) && (e.a :: e.rest).all fun t => CN 3 t)) = true := by kernel_rfl
  have := List.all_eq_true.1 h e he
  simp only [Bool.and_eq_true, decide_eq_true_eq, List.all_eq_true] at this
  exact this
 obtain ⟨k1, k2, k3⟩ := key e he
 exact ⟨k1, k2, fun t ht => by rw [hp3]; exact FR (k3 t ht)⟩
end Go.aK
end
section
set_option maxRecDepth 100000
namespace Go.aK
open Go Go.Proofs Go.fq
theorem aaI (n : Int) (o : Nat) (xs : List AV) (φ : AV → Prop) : cC [.int .i64 0, .int .i64 0, .ah] [(0, 1, .int .i64 2), (1, 1, .int .i64 n), (2, 1, .ap o xs)] φ = φ (.agg [.int .i64 2, .int .i64 n, .ap 0 xs]) := by
 simp only [cC, gI, eq_iff_iff]
 exact ⟨fun h => h.2.2.2.2.2.2.2.2.2, fun h => ⟨rfl, rfl, by simp, rfl, rfl, by simp [ag, AV.cells], rfl, rfl, by simp [ag, AV.cells], h⟩⟩
theorem Xi (n : Int) (φ : AV → Prop) : cC [.int .i64 0, .int .i64 0, .ah] [(0, 1, .int .i64 2), (1, 1, .int .i64 n), (2, 1, .ah)] φ = φ (.agg [.int .i64 2, .int .i64 n, .ah]) := by
 simp only [cC, gI, eq_iff_iff]
 exact ⟨fun h => h.2.2.2.2.2.2.2.2.2, fun h => ⟨rfl, rfl, by simp, rfl, rfl, by simp [ag, AV.cells], rfl, rfl, by simp [ag, AV.cells], h⟩⟩
theorem aaJ (a b c d e f : Int) (o o' : Nat) (φ : AV → Prop) : cC [.ah, .ah] [(0, 1, .ap o [.int .i64 a, .int .i64 b, .int .i64 c]), (1, 1, .ap o' [.int .i64 d, .int .i64 e, .int .i64 f])] φ = φ (eR [a, b, c] [d, e, f]) := by
 simp only [cC, gI, eq_iff_iff]
 exact ⟨fun h => h.2.2.2.2.2.2, fun h => ⟨rfl, rfl, by simp, rfl, rfl, by simp [ag, AV.cells], h⟩⟩
theorem KV (t : T) : aT t.av = t.av := by cases t; rfl
theorem bs4 (a b c d : T) (φ : List AV → Prop) : bh (List.replicate 4 (aT (.agg [.int .i64 0, .int .i64 0, .ah]))) 3 [(0, a.av), (1, b.av), (2, c.av), (3, d.av)] φ = φ [a.av, b.av, c.av, d.av] := by
 have hv : ∀ t : T, t.av.val = true := fun t => by cases t; rfl
 have hl : ∀ t : T, t.av.cells.length = 3 := fun t => (vX t).len
 simp only [bh, KV, hv, hl, List.replicate, List.set, List.length_cons, List.length_nil, eq_iff_iff]
 constructor
 ·intro h; simpa using h
 ·intro h; simpa using h
theorem Og (n : Int) : Pure Tryz.prog 59 [.int .i64 n] (vT n).av := by
 refine fun H => XK.2.calls rfl ?_
 simp only [XK, aI]
 simp +contextual only [sZ, Nat.reduceEqDiff, Nat.reduceAdd, ↓reduceIte, reduceCtorEq]
 exact Fj rfl rfl
theorem X2 (n : Int) (l : List T) : Pure Tryz.prog 65 [.int .i64 n, .ap 0 (bU l)] (oT n l).av := by
 refine fun H => Ti.2.calls rfl ?_
 simp only [Ti, aI]
 simp +contextual only [aaI, sZ, Nat.reduceEqDiff, Nat.reduceAdd, ↓reduceIte, reduceCtorEq]
 exact Fj (by simp [u0, bL, cZ, iO, cW, dI]) rfl
theorem Oh (n : Int) : Pure Tryz.prog 65 [.int .i64 n, .ah] (oT n []).av := by
 refine fun H => Ti.2.calls rfl ?_
 simp only [Ti, aI]
 simp +contextual only [Xi, sZ, Nat.reduceEqDiff, Nat.reduceAdd, ↓reduceIte, reduceCtorEq]
 exact Fj rfl rfl
theorem KW (t : T) (φ : AV → Prop) : ak 1 none (.ai t.av) φ = φ (.ai (.int .i64 t.n)) := by cases t; simp [ak, T.av, apart, AV.cells, AV.one, T.n]
theorem Xj (o : Nat) (a b c d : T) : (∀ (own : Nat) (xs : List AV), AV.ap o [a.av, b.av, c.av, d.av] = AV.ap own xs → ∀ z ∈ xs, z.cells.length = 3) = True := by
 simp only [eq_iff_iff, iff_true]
 intro own xs e z hz
 cases e
 have : z = a.av ∨ z = b.av ∨ z = c.av ∨ z = d.av := by simpa using hz
 rcases this with rfl | rfl | rfl | rfl <;> exact (vX _).len
theorem X3 (o : Nat) (a b c d : AV) (φ : AV → Prop) : ay 3 (.ap o [a, b, c, d]) (.int .i64 0) φ = φ (.ai a) ∧ ay 3 (.ap o [a, b, c, d]) (.int .i64 1) φ = φ (.ai b) ∧ ay 3 (.ap o [a, b, c, d]) (.int .i64 2) φ = φ (.ai c) ∧ ay 3 (.ap o [a, b, c, d]) (.int .i64 3) φ = φ (.ai d) := by
 simp [ay]
theorem sg1 : Pure Tryz.prog 20 [cL.s.av, eR [0, 0, 1] [1, 1, 1], cj.a.av, cj.b.av] (.tuple [.bool true, .int .i64 0]) := by
 have := ZO fC fD mw cj.a cj.b
 rw [iB, SY, if_pos rfl, Ax, gr1] at this
 exact this
theorem sg2 : Pure Tryz.prog 20 [cL.s.av, eR [0, 0, 1] [1, 1, 1], cj.b.av, cj.a.av] (.tuple [.bool false, .int .i64 0]) := by
 have := ZO fC fD mw cj.b cj.a
 rw [iB, Xf, if_pos rfl, Ax, gr2] at this
 exact this
theorem p1 (H : List aa) : aq Tryz.prog 27 [cL.s.av, eR [0, 0, 1] [1, 1, 1], cj.a.av, cj.b.av] H fun r H' => (∃ p, Sh (kP fD mw) p cj.a cj.b ∧ r = .tuple [dT p, .bool true, .int .i64 0]) ∧ H' = H := by
 refine (c27 fC fD mw cj.a cj.b H).mono ?_
 rintro r H' ⟨h, rfl⟩
 refine ⟨?_, rfl⟩
 rcases h with ⟨h, _⟩ | ⟨_, h, _⟩ | ⟨_, h⟩
 ·rw [iB, SY] at h; exact absurd rfl h
 ·exact absurd (Aw.1 gr1) h
 ·exact h
theorem v1 {p : PP} (hp : Sh (kP fD mw) p cj.a cj.b) : Pure Tryz.prog 28 [cL.s.av, eR [0, 0, 1] [1, 1, 1], cj.a.av, cj.b.av, dT p] (.int .i64 0) := by
 have := c28 fC fD mw cj.a cj.b p
 have e : CC fC fD mw cj.a cj.b p = 0 := by unfold CC; rw [if_pos (by rw [iB, SY]), if_pos hp]
 rw [e] at this
 exact this
theorem v2 (p : PP) : Pure Tryz.prog 28 [cL.s.av, eR [0, 0, 1] [1, 1, 1], cj.b.av, cj.a.av, dT p] (.int .i64 61) := by
 have := c28 fC fD mw cj.b cj.a p
 have hn : ¬ Sh (kP fD mw) p cj.b cj.a := fun h => by
  have := Aw.2 h.gt
  rw [gr2] at this; cases this
 have e : CC fC fD mw cj.b cj.a p = 61 := by unfold CC; rw [if_pos (by rw [iB, Xf]), if_neg hn]
 rw [e] at this
 exact this
theorem q1 : Pure Tryz.prog 22 [cL.s.av, eR [0, 0, 1] [1, 1, 3], (oT 2 [vT 0, vT 1]).av, (oT 2 [vT 1, vT 0]).av] (.tuple [.bool true, .int .i64 0]) := by
 have := c22 fC fD stM (oT 2 [vT 0, vT 1]) (oT 2 [vT 1, vT 0])
 rw [iB, aaB, if_pos rfl, FU, eq1] at this
 exact this
theorem q2 : Pure Tryz.prog 22 [cL.s.av, eR [0, 0, 1] [1, 1, 1], (oT 2 [vT 0, vT 1]).av, (oT 2 [vT 1, vT 0]).av] (.tuple [.bool false, .int .i64 0]) := by
 have := c22 fC fD mw (oT 2 [vT 0, vT 1]) (oT 2 [vT 1, vT 0])
 rw [iB, aaC, if_pos rfl, FU, eq2] at this
 exact this
theorem aaK : po 0 cL fD mw = (0, false, 0) := by
 unfold po
 rw [if_neg (by simp), qM, if_neg (by rw [show cL.s = fC from rfl, aaD]; simp), sf, Xg]; rfl
theorem Xk : po 0 cL CQ mw = (1, true, 0) := by
 unfold po
 rw [if_neg (by simp), qM, if_neg (by rw [show cL.s = fC from rfl, aaE]; simp), sf, Xh]; rfl
theorem k1 : Pure Tryz.prog 33 [cL.av, eR [0, 0, 1] [1, 1, 1]] (.int .i64 0) := by
 have := c33 Au (fun _ => qN) fD mw
 rw [Of, aaK] at this
 exact this
theorem k2 : Pure Tryz.prog 33 [cL.av, eR [0, 0, 0] [1, 1, 1]] (.int .i64 60) := by
 have := c33 Au (fun _ => qN) CQ mw
 rw [Of, Xk] at this
 exact this
theorem bl1 : Pure Tryz.prog 31 [cL.av, eR [0, 0, 0] [1, 1, 1]] (.tuple [.int .i64 1, .bool true, .int .i64 0]) := by
 have := c31 Au (fun _ => qN) CQ mw
 rw [Xk] at this
 exact this
theorem fi1 : Pure Tryz.prog 35 [cL.av] (.tuple [eR [0, 0, 1] [1, 1, 1], .bool true, .int .i64 0]) := by
 have := c35 (ops := [0, 1, 2]) Au (fun _ => SW) (fun _ => qN) (fun _ i hi => by
  have h : i = 0 ∨ i = 1 ∨ i = 2 := by simpa using hi
  have e : cL.s.ops.length = 3 := rfl
  rw [e]; omega) (by decide)
 have e : KO 0 cL [0, 1, 2] = (some (fD, mw), 0) := by
  unfold KO
  rw [if_neg (by simp), if_neg (by decide), KU, aaF]
 rw [e] at this
 exact this
def Xl : List T := [vT 0, oT 0 [], oT 1 [oT 0 []], oT 2 [oT 0 [], oT 0 []]]
theorem so1 : Pure Tryz.prog 37 [cL.s.av, eR [0, 0, 1] [1, 1, 1], .ap 0 (bU yB)] (.tuple [.ap 0 (bU Xl), .int .i64 0]) := by
 have := c37 fC fD mw yB (by decide)
 have hg : w7 fD mw = CP fD mw := by funext a b; exact Ax _ _ _ _
 have e : qL fC fD mw yB = (Xl, 0) := by
  unfold qL
  rw [if_pos (by rw [iB, aaG]), if_neg (by decide), hg, show yB.length = 4 from rfl, aaH]
  rfl
 rw [e] at this
 exact this
theorem c17 : Pure Tryz.prog 17 [] (.bool true) := by
 refine fun H => k17.2.calls rfl ?_
 simp only [k17, aI]
 simp +contextual only [sZ]
 refine ae c64 ?_
 have o01 : Pure Tryz.prog 65 [.int .i64 2, .ap 0 [(vT 0).av, (vT 1).av]] (oT 2 [vT 0, vT 1]).av := X2 2 [vT 0, vT 1]
 have o10 : Pure Tryz.prog 65 [.int .i64 2, .ap 0 [(vT 1).av, (vT 0).av]] (oT 2 [vT 1, vT 0]).av := X2 2 [vT 1, vT 0]
 have o00 : Pure Tryz.prog 65 [.int .i64 2, .ap 0 [(oT 0 []).av, (oT 0 []).av]] (oT 2 [oT 0 [], oT 0 []]).av := X2 2 [oT 0 [], oT 0 []]
 have o1 : Pure Tryz.prog 65 [.int .i64 1, .ap 0 [(oT 0 []).av]] (oT 1 [oT 0 []]).av := X2 1 [oT 0 []]
 have so2 : Pure Tryz.prog 37 [cL.s.av, eR [0, 0, 1] [1, 1, 1], .ap 0 [(oT 1 [oT 0 []]).av, (vT 0).av, (oT 0 []).av, (oT 2 [oT 0 [], oT 0 []]).av]] (.tuple [.ap 0 [(vT 0).av, (oT 0 []).av, (oT 1 [oT 0 []]).av, (oT 2 [oT 0 [], oT 0 []]).av], .int .i64 0]) := so1
 have aaL : Pure Tryz.prog 66 [.ap 0 (ints [0, 0, 1]), .ap 0 (ints [0, 0, 1])] (.bool true) := c66 (a := [0, 0, 1]) (b := [0, 0, 1]) (.inr rfl) (.inr rfl) (by decide) (by decide)
 have aaM : Pure Tryz.prog 66 [.ap 0 (ints [1, 1, 1]), .ap 0 (ints [1, 1, 1])] (.bool true) := c66 (a := [1, 1, 1]) (b := [1, 1, 1]) (.inr rfl) (.inr rfl) (by decide) (by decide)
 have i40 := fun o a b c d φ => (X3 o a b c d φ).1
 have i41 := fun o a b c d φ => (X3 o a b c d φ).2.1
 have i42 := fun o a b c d φ => (X3 o a b c d φ).2.2.1
 have i43 := fun o a b c d φ => (X3 o a b c d φ).2.2.2
 have n1 : ((vT 0).k = 1) = True := eq_true rfl
 have n2 : ((oT 0 []).n = 0) = True := eq_true rfl
 have n3 : ((oT 1 [oT 0 []]).n = 1) = True := eq_true rfl
 have n4 : ((oT 2 [oT 0 [], oT 0 []]).n = 2) = True := eq_true rfl
 have f44 : (((4 : Nat) : Int) = 4) = True := eq_true rfl
 obtain ⟨e1, e2, e3, e4, e5, e6⟩ := Ty.facts cL
 obtain ⟨a1, a2, a3, a4, a5, a6⟩ := bi [0, 0, 1] [1, 1, 1]
 obtain ⟨b1, b2, b3, b4, b5, b6⟩ := bi [0, 0, 1] [1, 1, 3]
 obtain ⟨c1, c2, c3, c4, c5, c6⟩ := bi [0, 0, 0] [1, 1, 1]
 have ix : ∀ φ, ay 8 (.ap 0 (tx cL.es)) (.int .i64 1) φ = φ (.ai cj.av) := by
  intro φ
  have := idx_eq 8 0 cL.es .i64 1 φ
  rw [show ((1 : Nat) : Int) = 1 from rfl] at this
  rw [this]
  exact propext ⟨fun h => h.2, fun h => ⟨by decide, h⟩⟩
 have su : cL.s.av.ab = cL.s.av := rfl
 simp +contextual only [e1, e2, e3, aaJ, a1, a2, a3, a4, b1, b2, b3, c1, c2, c3, cv, Kz, fY2, ix, feA, feB, qD, FJ, su, sZ, Nat.reduceEqDiff, Nat.reduceAdd, ↓reduceIte]
 refine ⟨ae sg1 ?_, ae sg1 ?_⟩
 all_goals
  simp +contextual only [a4, cv, Kz, qD, su, sZ, Nat.reduceEqDiff, Nat.reduceAdd, Nat.reduceLT, ↓reduceIte]
  refine ae sg2 ?_
  simp +contextual only [a4, cv, Kz, qD, su, sZ, Nat.reduceEqDiff, Nat.reduceAdd, Nat.reduceLT, ↓reduceIte]
  refine af (p1 _) ?_
  rintro r H' ⟨⟨p, hp, rfl⟩, rfl⟩
  obtain ⟨r1, r2, r3, r4, r5, r6, r7, r8, r9⟩ := aX p
  simp +contextual only [a4, cv, Kz, qD, su, r1, r2, r3, r4, qI, sZ, Nat.reduceEqDiff, Nat.reduceAdd, Nat.reduceLT, ↓reduceIte]
  refine ae (v1 hp) ?_
  simp +contextual only [a4, cv, Kz, qD, su, r4, qI, sZ, Nat.reduceEqDiff, Nat.reduceAdd, ↓reduceIte]
  refine ae (v2 p) ?_
  simp +contextual only [sZ, Nat.reduceEqDiff, ↓reduceIte]
  refine aH (Og 0) ?_
  simp +contextual only [sZ]
  refine aH (Og 1) ?_
  simp +contextual only [sZ, Nat.reduceEqDiff, ↓reduceIte]
  refine aH (o01) ?_
  simp +contextual only [sZ]
  refine aH (Og 1) ?_
  simp +contextual only [sZ]
  refine aH (Og 0) ?_
  simp +contextual only [sZ, Nat.reduceEqDiff, ↓reduceIte]
  refine aH (o10) ?_
  simp +contextual only [b4, cv, Kz, qD, su, sZ, Nat.reduceEqDiff, ↓reduceIte]
  refine aH (q1) ?_
  simp +contextual only [sZ, Nat.reduceEqDiff, Nat.reduceAdd, Nat.reduceLT, ↓reduceIte]
  refine aH (Og 0) ?_
  simp +contextual only [sZ]
  refine aH (Og 1) ?_
  simp +contextual only [sZ, Nat.reduceEqDiff, ↓reduceIte]
  refine aH (o01) ?_
  simp +contextual only [sZ]
  refine aH (Og 1) ?_
  simp +contextual only [sZ]
  refine aH (Og 0) ?_
  simp +contextual only [sZ, Nat.reduceEqDiff, ↓reduceIte]
  refine aH (o10) ?_
  simp +contextual only [a4, cv, Kz, qD, su, sZ, Nat.reduceEqDiff, ↓reduceIte]
  refine aH (q2) ?_
  simp +contextual only [e4, mg, a4, cv, sZ, Nat.reduceEqDiff, Nat.reduceAdd, Nat.reduceLT, ↓reduceIte]
  refine ae (k1) ?_
  simp +contextual only [e4, mg, c4, cv, sZ, Nat.reduceEqDiff, Nat.reduceAdd, ↓reduceIte]
  refine ae (k2) ?_
  simp +contextual only [e4, mg, c4, cv, sZ, Nat.reduceEqDiff, Nat.reduceAdd, ↓reduceIte]
  refine ae (bl1) ?_
  simp +contextual only [e4, mg, sZ, Nat.reduceEqDiff, Nat.reduceAdd, Nat.reduceLT, ↓reduceIte]
  refine ae (fi1) ?_
  simp +contextual only [a1, a2, a3, a4, vH, sZ, Nat.reduceEqDiff, Nat.reduceAdd, Nat.reduceLT, ↓reduceIte]
  refine ae (aaL) ?_
  simp +contextual only [w6, sZ, Nat.reduceEqDiff, Nat.reduceAdd, ↓reduceIte]
  refine ae (aaM) ?_
  simp +contextual only [sZ, Nat.reduceEqDiff, ↓reduceIte]
  refine aH (Oh 0) ?_
  simp +contextual only [sZ, ↓reduceIte]
  refine aH (o1) ?_
  simp +contextual only [sZ]
  refine aH (Og 0) ?_
  simp +contextual only [sZ]
  refine aH (Oh 0) ?_
  simp +contextual only [sZ]
  refine aH (Oh 0) ?_
  simp +contextual only [sZ]
  refine aH (Oh 0) ?_
  simp +contextual only [sZ, Nat.reduceEqDiff, ↓reduceIte]
  refine aH (o00) ?_
  simp +contextual only [a4, cv, Kz, qD, su, bs4, sZ, Nat.reduceEqDiff, ↓reduceIte]
  refine aH (so2) ?_
  simp +contextual only [FA, KW, Xj, i40, i41, i42, i43, f44, n1, n2, n3, n4, decide_true, sZ, Nat.reduceEqDiff, Nat.reduceAdd, Nat.reduceLT, ↓reduceIte, reduceCtorEq]
  exact aQ H.length (Nat.le_refl _) rfl ⟨rfl, by simp⟩
end Go.aK
end
section
set_option maxRecDepth 100000
namespace Go.aK
open Go Go.Proofs Go.fq
def SZ (S : List aa → Prop) (r : AV) (H' : List aa) : Prop := (∃ b, r = .bool b) ∧ S H'
theorem HN {S : List aa → Prop} (hl : yj S) {s : Nat} {b : Bool} {H H' : List aa} (hS : S H) (V4 : S H') : bT H.length [.t s] [(s, .bool b)] H' (SZ S) := by
 refine aQ H.length (Nat.le_refl _) (by rw [ax, if_pos rfl]; rfl) ?_
 rw [ax, if_pos rfl, List.take_of_length_le (by rw [hl H H' hS V4]; exact Nat.le_refl _)]
 exact ⟨⟨b, rfl⟩, V4⟩
theorem Xm {S : List aa → Prop} (hS : yj S) (g : Nat) (cz : List AV) (cF : cz.map AV.ab = cz) (l : List T) (hf : ∀ x ∈ l, ∀ H, S H → aq Tryz.prog g ([x.av] ++ cz) H (SZ S)) {H : List aa} (hH : S H) :
 aq Tryz.prog 114 [.ap 0 (bU l), .fn (.func g) [] cz] H fun r H' => (∃ n, r = .int .i64 n) ∧ S H' := by
 refine Bu.2.calls rfl ?_
 simp only [Bu, aI]
 simp +contextual only [sZ, Nat.reduceEqDiff, Nat.reduceAdd, ↓reduceIte, reduceCtorEq]
 intro hl
 have fin : ∀ (n : Int) (G : List aa), S G → bT H.length [.t 4] [(4, .int .i64 n)] G fun r H' => (∃ n, r = .int .i64 n) ∧ S H' := by
  intro n G hG
  refine aQ H.length (Nat.le_refl _) (by rw [ax, if_pos rfl]; rfl) ?_
  rw [ax, if_pos rfl, List.take_of_length_le (by rw [hS H G hH hG]; exact Nat.le_refl _)]
  exact ⟨⟨n, rfl⟩, hG⟩
 refine aN l.length (fun i (G : List aa) => S G) (fun i G => [(0, .ap 0 (bU l)), (1, .fn (.func g) [] cz), (7, .int .i64 l.length), (8, .int .i64 i)]) (fun i G => G) H ⟨hH, aA _ _ _⟩ fun i G hi hG => ?_
 simp +contextual only [cF, sZ, Nat.reduceEqDiff, Nat.reduceAdd, ↓reduceIte, reduceCtorEq]
 refine ⟨fun aY => ?_, fun iW => ?_⟩
 ·have aY := bZ aY
  refine ⟨aY, af (hf _ (iu aY) G hG) ?_⟩
  rintro r G' ⟨⟨b, rfl⟩, dZ⟩
  cases b with
  | true => simp +contextual only [sZ, Nat.reduceEqDiff, ↓reduceIte, reduceCtorEq]; exact fin _ _ dZ
  | false => simp +contextual only [sZ, Nat.reduceEqDiff, ↓reduceIte, reduceCtorEq]; exact ⟨i + 1, G', ⟨aY, dZ⟩, by omega, aG (by rw [au i (by omega)]) rfl⟩
 ·exact fin _ _ hG
theorem Xn {S : List aa → Prop} (hS : yj S) (g : Nat) (cz : List AV) (cF : cz.map AV.ab = cz) (l : List T) (hf : ∀ x ∈ l, ∀ H, S H → aq Tryz.prog g ([x.av] ++ cz) H (SZ S)) {H : List aa} (hH : S H) :
 aq Tryz.prog 53 [.ap 0 (bU l), .fn (.func g) [] cz] H (SZ S) := by
 refine OH.2.calls rfl ?_
 simp only [OH, aI]
 simp +contextual only [sZ, Nat.reduceEqDiff, Nat.reduceAdd, ↓reduceIte, reduceCtorEq]
 refine af (Xm hS g cz cF l hf hH) ?_
 rintro r G ⟨⟨n, rfl⟩, hG⟩
 simp +contextual only [sZ, ↓reduceIte, reduceCtorEq]
 exact HN hS hH hG
structure Fw (q q2 : Nat) (H0 H : List aa) : Prop where
 len : H.length = H0.length
 cnt : ∃ n, H[q]? = some (.cells [.int .i64 n])
 fn : H[q2]? = some (.cells [.fn (.func 71) [] [.ptr q 0, .ptr q2 0]])
 get : ∀ j, j ≠ q → H[j]? = H0[j]?
theorem Fw.yj (q q2 : Nat) (H0 : List aa) : Go.aK.yj (Fw q q2 H0) := fun H H' h h' => h'.len.trans h.len.symm
theorem Fw.set {q q2 : Nat} {H0 H : List aa} (h : Fw q q2 H0 H) (hn : q ≠ q2) (n : Int) : Fw q q2 H0 (H.set q (.cells [.int .i64 n])) := by
 obtain ⟨m, hm⟩ := h.cnt
 exact ⟨by simp [h.len], ⟨n, List.getElem?_set_self (aM hm)⟩, by rw [List.getElem?_set_ne hn]; exact h.fn, fun j hj => by rw [List.getElem?_set_ne (Ne.symm hj)]; exact h.get j hj⟩
theorem c71 {q q2 : Nat} (hn : q ≠ q2) {H0 : List aa} : ∀ (N : Nat) (t : T), wt t ≤ N → ∀ (d : Int) (H : List aa), Fw q q2 H0 H → aq Tryz.prog 71 [t.av, .int .i64 d, .ptr q 0, .ptr q2 0] H (SZ (Fw q q2 H0)) := by
 intro N
 induction N with
 | zero => intro t h; have := gA t; omega
 | succ N ih =>
   intro t hw d H hH
   refine k71.2.calls rfl ?_
   simp only [k71, aI]
   have hwe := Ce t
   obtain ⟨m, hm⟩ := hH.cnt
   have fV : ∀ o, (H.set q o)[q]? = some o := fun o => List.getElem?_set_self (aM hm)
   simp +contextual only [hm, fV, sZ, Nat.reduceEqDiff, Nat.reduceAdd, Nat.reduceLT, ↓reduceIte, reduceCtorEq]
   have c72 : ∀ x ∈ t.l, ∀ H, Fw q q2 H0 H → aq Tryz.prog 72 ([x.av] ++ [.ptr q2 0, .ai (.int .i64 d)]) H (SZ (Fw q q2 H0)) := by
    intro x hx H hH
    refine k72.2.calls rfl ?_
    simp only [k72, aI, List.cons_append, List.nil_append]
    have hfn := hH.fn
    simp +contextual only [hfn, sZ, Nat.reduceEqDiff, Nat.reduceAdd, Nat.reduceLT, ↓reduceIte, reduceCtorEq]
    refine af (ih x (by have := cK hx; omega) _ H hH) ?_
    rintro r G ⟨⟨b, rfl⟩, hG⟩
    simp +contextual only [sZ, ↓reduceIte, reduceCtorEq]
    exact HN (Fw.yj q q2 H0) hH hG
   refine ⟨fun _ => ⟨fun _ => af (Xn (Fw.yj q q2 H0) 72 [.ptr q2 0, .ai (.int .i64 d)] rfl t.l c72 (hH.set hn _)) ?_, fun _ => HN (Fw.yj q q2 H0) hH (hH.set hn _)⟩, fun _ => HN (Fw.yj q q2 H0) hH (hH.set hn _)⟩
   rintro r G ⟨⟨b, rfl⟩, hG⟩
   simp +contextual only [sZ, Nat.reduceEqDiff, ↓reduceIte, reduceCtorEq]
   exact HN (Fw.yj q q2 H0) hH hG
theorem c19 (n : Int) (l : List T) (H : List aa) : aq Tryz.prog 19 [.int .i64 n, .ap 0 (bU l)] H fun r H' => (∃ b, r = .bool b) ∧ H' = H := by
 refine k19.2.calls rfl ?_
 simp only [k19, aI]
 have YL : ∀ (x y : AV), ag [x] 0 [y] = [y] := fun _ _ => rfl
 simp +contextual only [sZ, Nat.reduceEqDiff, Nat.reduceAdd, ↓reduceIte, reduceCtorEq]
 obtain ⟨H0, eH0⟩ : ∃ H0, H0 = H ++ [aa.cells [AV.int .i64 n], .cells [.fn (.func 71) [] [.ptr H.length 0, .ptr (H.length + 1) 0]]] := ⟨_, rfl⟩
 have hF : Fw H.length (H.length + 1) H0 H0 := ⟨rfl, ⟨n, by rw [eH0]; simp⟩, by rw [eH0]; simp, fun _ _ => rfl⟩
 rw [← eH0]
 have EN : H0.length = H.length + 2 := by rw [eH0]; simp
 have T3 : H0.take H.length = H := by rw [eH0]; simp
 have c73 : ∀ x ∈ l, ∀ G, Fw H.length (H.length + 1) H0 G → aq Tryz.prog 73 ([x.av] ++ [.ptr (H.length + 1) 0]) G (SZ (Fw H.length (H.length + 1) H0)) := by
  intro x hx G hG
  refine k73.2.calls rfl ?_
  simp only [k73, aI, List.cons_append, List.nil_append]
  have hfn := hG.fn
  simp +contextual only [hfn, sZ, Nat.reduceEqDiff, Nat.reduceAdd, Nat.reduceLT, ↓reduceIte, reduceCtorEq]
  refine af (c71 (by omega) _ x (Nat.le_refl _) _ G hG) ?_
  rintro r G' ⟨⟨b, rfl⟩, dZ⟩
  simp +contextual only [sZ, ↓reduceIte, reduceCtorEq]
  exact HN (Fw.yj _ _ H0) hG dZ
 refine ⟨by simp; omega, af (Xn (Fw.yj _ _ H0) 73 [.ptr (H.length + 1) 0] rfl l c73 hF) ?_⟩
 rintro r G ⟨⟨b, rfl⟩, hG⟩
 simp +contextual only [sZ, ↓reduceIte, reduceCtorEq]
 refine aQ H.length (Nat.le_refl _) (by rw [ax, if_pos rfl]; rfl) ?_
 rw [ax, if_pos rfl]
 refine ⟨⟨!b, rfl⟩, ?_⟩
 refine Eq.trans ?_ T3
 apply List.ext_getElem?
 intro j
 rw [List.getElem?_take, List.getElem?_take]
 by_cases hj : j < H.length
 ·rw [if_pos hj, if_pos hj]; exact hG.get j (by omega)
 ·rw [if_neg hj, if_neg hj]
end Go.aK
end
