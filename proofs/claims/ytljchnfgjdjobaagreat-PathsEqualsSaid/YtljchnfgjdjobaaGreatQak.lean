/- Part 11 of 18 of the proof. -/
import Derived.Test.YtljchnfgjdjobaaGreatQaj
import Derived.Test.YtljchnfgjdjobaaGreatQag
import Derived.KernelRfl
import Derived.Test.YtljchnfgjdjobaaGreatQai
import Derived.SizedLaws
set_option linter.unusedVariables false
set_option linter.unusedSimpArgs false
set_option linter.defProp false
set_option linter.unusedSectionVars false
section
namespace Go.aK
open Go
structure iN (esz : Nat) (x : AV) : Prop where
 len : x.cells.length = esz
 un : x.cells.map AV.ab = x.cells
 bl : aj 0 x.cells = true
 one : x.cells.all AV.one = true
theorem iN.flat {esz : Nat} : ∀ {xs : List AV}, (∀ x ∈ xs, iN esz x) → (flat xs).length = xs.length * esz ∧ (flat xs).map AV.ab = flat xs ∧ (∀ n, aj n (flat xs) = true) ∧ (Go.aK.flat xs).all AV.one = true
 | [], _ => ⟨by simp [Go.aK.flat], rfl, fun _ => rfl, rfl⟩
 | x :: r, h => by
   obtain ⟨h1, h2, h3, h4⟩ := iN.flat (xs := r) fun y hy => h y (List.mem_cons_of_mem _ hy)
   have hx := h x List.mem_cons_self
   have e : Go.aK.flat (x :: r) = x.cells ++ Go.aK.flat r := rfl
   rw [e]
   refine ⟨by rw [List.length_append, hx.len, h1, List.length_cons, Nat.add_mul]; omega, by rw [List.map_append, hx.un, h2], fun n => ?_, by rw [List.all_append, hx.one, h4]; rfl⟩
   rw [bu]; exact ⟨bF (Nat.zero_le n) _ hx.bl, h3 n⟩
theorem nh (xs ys : List AV) : flat (xs ++ ys) = flat xs ++ flat ys := by simp [flat]
theorem jz {esz : Nat} {z : AV} (hz : iN esz (bN z)) (n : Nat) : ∀ x ∈ List.replicate n (bN z), iN esz x := fun x hx => by rw [List.eq_of_mem_replicate hx]; exact hz
theorem qm {esz : Nat} {z : AV} (hz : iN esz (bN z)) (n : Nat) : (da z n).length = n * esz := by
 have := (iN.flat (jz hz n)).1
 rwa [List.length_replicate] at this
theorem xJ {esz : Nat} {z : AV} (hz : iN esz (bN z)) (n k : Nat) (h : k ≤ n) : (da z n).drop (k * esz) = da z (n - k) := by
 have e : da z n = da z k ++ da z (n - k) := by
  unfold da
  rw [← nh, List.replicate_append_replicate]
  congr 2; omega
 rw [e, List.drop_append_of_le_length (by rw [qm hz]; omega), List.drop_of_length_le (by rw [qm hz]; omega)]
 rfl
def bj (z : AV) (xs : List AV) (cap : Nat) : aa := .cells (flat xs ++ da z (cap - xs.length))
def RO (z : AV) (base : Nat) (v : AV) (xs : List AV) (G : List aa) : Prop :=
 (xs = [] ∧ v = .ah) ∨ ∃ id cap, base ≤ id ∧ v = .bg id 0 xs.length cap ∧ G[id]? = some (bj z xs cap) ∧ xs.length ≤ cap ∧ xs ≠ []
theorem RO.one {z : AV} {base : Nat} {v : AV} {xs : List AV} {G : List aa} (h : RO z base v xs G) : v.one = true ∧ v.val = true ∧ v.ab = v ∧ v.cells = [v] := by
 rcases h with ⟨_, rfl⟩ | ⟨id, cap, _, rfl, _⟩ <;> exact ⟨rfl, rfl, rfl, rfl⟩
theorem RO.aY {z : AV} {base : Nat} {v : AV} {xs : List AV} {G : List aa} (h : RO z base v xs G) {n : Nat} (hn : G.length ≤ n) : v.aY n = true := by
 rcases h with ⟨_, rfl⟩ | ⟨id, cap, _, rfl, c, _⟩
 ·rfl
 ·have := (List.getElem?_eq_some_iff.1 c).1
  rw [jy]; simp; omega
theorem RO.set {z : AV} {base : Nat} {v : AV} {xs : List AV} {G : List aa} (h : RO z base v xs G) {j : Nat} (hj : j < base) (o : aa) : RO z base v xs (G.set j o) := by
 rcases h with h | ⟨id, cap, a, b, c, d⟩
 ·exact .inl h
 ·exact .inr ⟨id, cap, a, b, by rw [List.getElem?_set_ne (by omega)]; exact c, d⟩
theorem RO.len {z : AV} {base : Nat} {v : AV} {xs : List AV} {G : List aa} (h : RO z base v xs G) {H : List aa} (φ : AV → Prop) : eU v H φ = φ (.int .i64 xs.length) := by
 rcases h with ⟨rfl, rfl⟩ | ⟨id, cap, _, rfl, _⟩ <;> rfl
theorem JC {esz bytes : Nat} {z : AV} (hz : iN esz (bN z)) {base : Nat} {v : AV} {xs : List AV} {G : List aa} (h : RO z base v xs G) (fp : ∀ x ∈ xs, iN esz x) (o : Nat) (ys : List AV) (hy : ys ≠ []) (py : ∀ x ∈ ys, iN esz x)
 (hb : (xs.length + ys.length) * bytes ≤ 140737488355328) (hG : base ≤ G.length) {K : AV → List aa → Prop}
 (hK : ∀ v' G', RO z base v' (xs ++ ys) G' → G'.take base = G.take base → (∀ j, j < base → G'[j]? = G[j]?) → G.length ≤ G'.length → K v' G') : cF esz bytes z v (.ap o ys) G K := by
 have jI : sX esz ys := fun y hy => ⟨(py y hy).len, (py y hy).one⟩
 obtain ⟨f1, f2, f3, f4⟩ := iN.flat py
 obtain ⟨g1, g2, g3, g4⟩ := iN.flat fp
 have v8 := qm hz
 have ko : ∀ n m, aj n (da z m) = true := fun n m => (iN.flat (jz hz m)).2.2.1 n
 unfold cF
 simp only [dE]
 refine ⟨jI, ?_⟩
 rcases h with ⟨rfl, rfl⟩ | ⟨id, cap, bm, rfl, hg, hle, _⟩
 ·refine ⟨by simpa using hb, fun e => absurd e hy, fun _ cap hc _ => ⟨?_, hK _ _ (.inr ⟨G.length, cap, hG, by simp, ?_, by simpa using hc, by simpa using hy⟩) ?_ ?_ (by simp)⟩⟩
  ·rw [f2, bu]; exact ⟨f3 _, ko _ _⟩
  ·rw [f2]; simp [bj]
  ·rw [List.take_append_of_le_length hG]
  ·intro j hj; rw [List.getElem?_append_left (by omega)]
 ·have xn := (List.getElem?_eq_some_iff.1 hg).1
  simp only [hg, bj, List.length_append, g1, v8, Nat.zero_add, List.drop_zero]
  refine ⟨hb, hle, by rw [← Nat.add_mul]; exact Nat.le_of_eq (by congr 1; omega), fun hroom => ⟨by rw [f2]; exact f3 _, ?_⟩, fun jH fU hc _ => ⟨?_, ?_⟩⟩
  ·rw [f2]
   refine hK _ _ (.inr ⟨id, cap, bm, by simp, ?_, by simpa using hroom, by simp [hy]⟩) ?_ ?_ (by simp)
   ·rw [List.getElem?_set_self xn, bj]
    congr 2
    unfold ag
    rw [f1, List.take_append_of_le_length (by rw [g1]; exact Nat.le_refl _), List.take_of_length_le (by rw [g1]; exact Nat.le_refl _), List.drop_append, List.drop_of_length_le (by rw [g1]; omega), g1,
     show xs.length * esz + ys.length * esz - xs.length * esz = ys.length * esz by omega, xJ hz _ _ (by omega), nh, List.nil_append, List.length_append]
    rw [show cap - xs.length - ys.length = cap - (xs.length + ys.length) by omega, List.append_assoc]
   ·rw [List.take_set_of_le (by omega)]
   ·intro j hj; rw [List.getElem?_set_ne (by omega)]
  ·rw [List.take_append_of_le_length (by rw [g1]; exact Nat.le_refl _), List.take_of_length_le (by rw [g1]; exact Nat.le_refl _), g2, f2, bu, bu]; exact ⟨⟨g3 _, f3 _⟩, ko _ _⟩
  ·rw [List.take_append_of_le_length (by rw [g1]; exact Nat.le_refl _), List.take_of_length_le (by rw [g1]; exact Nat.le_refl _), g2, f2, ← nh]
   refine hK _ _ (.inr ⟨G.length, fU, hG, by simp, ?_, by simpa using hc, by simp [hy]⟩) ?_ ?_ (by simp)
   ·simp [bj]
   ·rw [List.take_append_of_le_length hG]
   ·intro j hj; rw [List.getElem?_append_left (by omega)]
theorem pc {esz : Nat} : ∀ {xs : List AV} (_ : ∀ x ∈ xs, iN esz x) (i : Nat), i < xs.length → (flat xs).drop (i * esz) = (xs.getD i .any).cells ++ flat (xs.drop (i + 1))
 | [], _, i, h => by simp at h
 | x :: r, hx, 0, _ => by simp [flat]
 | x :: r, hx, i + 1, h => by
   have hl := (hx x List.mem_cons_self).len
   have e : flat (x :: r) = x.cells ++ flat r := rfl
   rw [e, show (i + 1) * esz = x.cells.length + i * esz by rw [hl, Nat.add_mul]; omega, List.drop_append, List.getD_cons_succ, List.drop_succ_cons]
   have := pc (xs := r) (fun y hy => hx y (List.mem_cons_of_mem _ hy)) i (by simpa using h)
   simp [this]
theorem xK {esz : Nat} {z : AV} {c : Nat} (hc : c < esz) (v : AV) : ∀ {xs : List AV} (_ : ∀ x ∈ xs, iN esz x) (i : Nat) {y : AV} (rest : List AV), i < xs.length → y.cells = (xs.getD i .any).cells.set c v →
 (flat xs ++ rest).set (i * esz + c) v = flat (xs.set i y) ++ rest
 | [], _, i, _, _, h, _ => by simp at h
 | x :: r, hx, 0, y, rest, _, hy => by
   have hl := (hx x List.mem_cons_self).len
   have e : flat (x :: r) = x.cells ++ flat r := rfl
   rw [List.set_cons_zero, e, show flat (y :: r) = y.cells ++ flat r from rfl, hy, Nat.zero_mul, Nat.zero_add, List.append_assoc, List.set_append_left _ _ (by omega), List.append_assoc]
   rfl
 | x :: r, hx, i + 1, y, rest, h, hy => by
   have hl := (hx x List.mem_cons_self).len
   have e : flat (x :: r) = x.cells ++ flat r := rfl
   have ih := xK (z := z) hc v (xs := r) (fun y hy => hx y (List.mem_cons_of_mem _ hy)) i rest (y := y) (by simpa using h) (by simpa using hy)
   rw [List.set_cons_succ, e, show flat (x :: r.set i y) = x.cells ++ flat (r.set i y) from rfl, List.append_assoc, List.append_assoc, ← ih, show (i + 1) * esz + c = x.cells.length + (i * esz + c) by rw [hl, Nat.add_mul]; omega]
   rw [List.set_append_right _ _ (by omega)]
   congr 2; omega
theorem kq (e id N c i : Nat) (k : IntKind) (φ : AV → Prop) : ay e (.bg id 0 N c) (.int k (i : Int)) φ = (i < N ∧ φ (.ptr id (i * e))) := by
 simp only [ay, Int.toNat_natCast, Nat.zero_add, eq_iff_iff]
 constructor
 ·rintro ⟨_, h⟩; exact h
 ·exact fun h => ⟨by omega, h⟩
theorem ni {α : Type} (l : List α) (i : Nat) (x : α) (h : i < l.length) : ag l i [x] = l.set i x := by
 unfold ag
 rw [List.set_eq_take_append_cons_drop, if_pos h]
 rfl
theorem zG {esz cap id : Nat} {z : AV} {ys : List AV} (py : ∀ x ∈ ys, iN esz x) {i c : Nat} (hi : i < ys.length) (hc : c < esz) {v y : AV} (h1 : v.one = true) (h2 : v.val = true) (h3 : v.ab.aY 0 = true) (hy : y.cells = (ys.getD i .any).cells.set c v.ab)
 {H : List aa} {K : List aa → Prop} (hK : K (H.set id (bj z (ys.set i y) cap))) : gS (some (bj z ys cap)) 1 id (i * esz + c) v H K := by
 obtain ⟨g1, g2, g3, g4⟩ := iN.flat py
 have hle : i * esz + esz ≤ ys.length * esz := by rw [← Nat.succ_mul]; exact Nat.mul_le_mul_right _ hi
 simp only [bj, BJ, xg h1, h2, List.length_cons, List.length_nil, List.all_cons, List.all_nil, h1, List.map_cons, List.map_nil]
 refine ⟨trivial, trivial, by rw [List.length_append, g1]; omega, rfl, bF (Nat.zero_le _) [v.ab] (by rw [bL, cV, h3]; rfl), ?_⟩
 rw [ni _ _ _ (by rw [List.length_append, g1]; omega), xK (z := z) hc v.ab py i _ hi hy]
 have e : (ys.set i y).length = ys.length := by simp
 simp only [bj, e] at hK
 exact hK
theorem E8 {esz : Nat} (h0 : 1 < esz) : ∀ {xs : List AV} (_ : ∀ x ∈ xs, iN esz x) (_ : ∀ x ∈ xs, AV.agg x.cells = x) (rest : List AV), chunks esz xs.length (flat xs ++ rest) = xs
 | [], _, _, _ => rfl
 | x :: r, hx, ha, rest => by
   have hl := (hx x List.mem_cons_self)
   have e : flat (x :: r) = x.cells ++ flat r := rfl
   rw [List.length_cons, chunks, if_neg (by omega), e, List.append_assoc, List.take_append_of_le_length (by rw [hl.len]; omega), List.take_of_length_le (by rw [hl.len]; omega), hl.un, ha x List.mem_cons_self]
   rw [show List.drop esz (x.cells ++ (flat r ++ rest)) = flat r ++ rest by rw [← hl.len, List.drop_left], E8 h0 (fun y hy => hx y (List.mem_cons_of_mem _ hy)) (fun y hy => ha y (List.mem_cons_of_mem _ hy))]
theorem uZ {esz id cap : Nat} (h0 : 1 < esz) {z : AV} (hz : iN esz (bN z)) {xs : List AV} {H : List aa} (hx : ∀ x ∈ xs, iN esz x) (ha : ∀ x ∈ xs, AV.agg x.cells = x) (h : H[id]? = some (bj z xs cap)) (hl : xs.length ≤ cap) {K : AV → List aa → Prop} (hK : K (.ap 0 xs) (H.set id .dead)) : dB esz (.bg id 0 xs.length cap) H K := by
 obtain ⟨g1, g2, g3, g4⟩ := iN.flat hx
 simp only [dB, h, bj, List.drop_zero, E8 h0 hx ha]
 refine ⟨by omega, hl, by simp [g1], ?_, hK⟩
 rw [List.all_append, g4, show (da z (cap - xs.length)).all AV.one = true from (iN.flat (jz hz _)).2.2.2]; rfl
end Go.aK
end
section
set_option maxRecDepth 100000
set_option maxHeartbeats 0
namespace Go.aK
open Go Go.Proofs
noncomputable def Vw := aI Tryz.call58 Tryz.func58 Tryz.ntmps58 [(3,0,2),(3,2,2),(3,3,1)] [(0,[0]),(1,[0,4]),(2,[2]),(3,[2])] []
noncomputable def Vx := aI Tryz.call75 Tryz.func75 Tryz.ntmps75 [(0,0,1),(5,2,1000),(6,0,1),(6,8,1),(7,6,2),(7,9,2),(9,0,6004)] [(0,[1,2]),(1,[1,6]),(2,[1,6,7]),(3,[6,7,15,16,17]),(4,[6,7,15,16,17,18]),(5,[6,7,9,15,16,17]),(6,[6,7,9,15,16,17]),(7,[6,7,15,16,17]),(8,[6,7,15,16,17]),(9,[4,5])] [(7,(.take 1 true (.take 2 true (.take 3 true (.take 4 true (.take 5 true (.take 0 false (.br 6 (.take 7 true (.take 8 true (.br 9 .done .nil))) .nil))))))))]
noncomputable def OQ := aI Tryz.call118 Tryz.func118 Tryz.ntmps118 [(3,0,2),(3,2,2),(3,3,1)] [(0,[0]),(1,[0,4]),(2,[2]),(3,[2])] []
noncomputable def E9 := aI Tryz.call132 Tryz.func132 Tryz.ntmps132 [(0,0,1),(2,0,1),(2,4,2),(2,5,1),(6,2,1000),(7,0,1),(7,5,1),(8,1,1),(8,2,2),(8,3,1),(11,0,1),(11,1,1)] [(0,[1,2]),(1,[1,2,5]),(2,[1,2,5]),(3,[1,2,5,6]),(4,[1,5,6,17,18,19]),(5,[1,5,6,17,18,19,20]),(6,[1,5,6,8,17,18,19]),(7,[1,5,6,8,17,18,19]),(8,[1,5,6,17,18,19]),(9,[1,5,6,17,18,19]),(10,[1]),(11,[4])] []
noncomputable def OR := aI Tryz.call139 Tryz.func139 Tryz.ntmps139 [(10,9,2000),(15,0,1),(15,4,1),(21,0,1),(21,4,1),(23,2,3000)] [(0,[0,1,2]),(1,[0,1,2,9]),(2,[0,1,2,9,10]),(3,[0,1,2,9,10,11,12]),(4,[0,1,9,10,11,12,26,27,28]),(5,[0,1,9,10,11,12,26,27,28,29]),(6,[0,1,9,10,11,12,13,14,26,27,28]),(7,[0,1,9,10,11,12,13,14,26,27,28,33,34,35]),(8,[0,1,9,10,11,12,13,14,26,27,28,33,34,35,36]),(9,[0,1,9,10,11,12,13,14,15,16,26,27,28,33,34,35]),(10,[0,1,9,10,11,12,13,14,15,26,27,28,33,34,35,50]),(11,[0,1,9,10,11,12,13,15,26,27,28]),(12,[0,1,9,10,11,12,13,26,27,28]),(13,[0,1,9,10,11,12,13,14,26,27,28,33,34,35]),(14,[0,1,9,10,11,12,13,26,27,28,63]),(15,[0,1,9,10,11,12,26,27,28]),(16,[0,1,9,10,11,12,26,27,28]),(17,[10,11,12,69,70,71]),(18,[10,11,12,69,70,71,72]),(19,[10,11,12,17,18,69,70,71]),(20,[10,11,12,17,69,70,71,77]),(21,[10,11,12,69,70,71]),(22,[10,11,12,69,70,71]),(23,[6,7,8])] []
noncomputable def OS := aI Tryz.call149 Tryz.func149 Tryz.ntmps149 [(1,2,1),(3,1,2000),(4,0,3000)] [(0,[0,1]),(1,[0,1]),(2,[0,8]),(3,[0]),(4,[4])] []
noncomputable def OT := aI Tryz.call185 Tryz.func185 Tryz.ntmps185 [(5,3,2000),(6,19,2000)] [(0,[0,1,2]),(1,[0,1,2,7,8]),(2,[0,1,2,7,38]),(3,[6]),(4,[0,9,10]),(5,[0,9,10,11]),(6,[6])] [(4,(.take 0 true (.take 1 true (.take 2 true (.take 3 true (.take 4 true (.take 5 true (.take 6 true (.take 7 true (.take 8 true (.take 9 true (.take 10 true (.take 11 true (.take 12 true (.take 13 true (.take 14 true (.take 15 true (.take 16 true (.take 17 true (.take 18 true (.take 19 true (.take 20 true (.take 21 true .done))))))))))))))))))))))),(6,(.take 0 true (.take 1 true (.take 2 true (.take 3 true (.take 4 true (.take 5 true (.take 6 true (.take 7 true (.take 8 true (.take 9 true (.take 10 true (.take 11 true (.take 12 true (.take 13 true (.take 14 true (.take 15 true (.take 16 true (.take 17 true (.take 18 true (.br 19 (.take 20 true (.take 21 true (.take 22 true .done))) .nil)))))))))))))))))))))]
noncomputable def OU := aI Tryz.call199 Tryz.func199 Tryz.ntmps199 [] [(0,[0,2,3]),(1,[0,2,3,9]),(2,[0,2,3]),(3,[0,2,3])] [(3,(.take 0 true (.take 1 true (.take 4 true (.take 5 true (.take 6 true (.take 7 true (.take 8 true (.take 9 true (.take 10 true (.take 11 true (.take 12 true (.take 2 false (.take 3 false (.br 13 (.take 14 true (.br 15 .done .nil)) .nil)))))))))))))))]
end Go.aK
end
section
set_option maxRecDepth 100000
namespace Go.aK
open Go
inductive T where
 | mk (k n : Int) (l : List T)
 deriving Inhabited
mutual
def T.av : T → AV
 | .mk k n l => .agg [.int .i64 k, .int .i64 n, .ap 0 (cJ l)]
def cJ : List T → List AV
 | [] => []
 | x :: r => x.av :: cJ r
end
def T.k : T → Int | .mk k _ _ => k
def T.n : T → Int | .mk _ n _ => n
def T.l : T → List T | .mk _ _ l => l
theorem T.sM (x : T) : x.av = .agg [.int .i64 x.k, .int .i64 x.n, .ap 0 (cJ x.l)] := by cases x; rfl
theorem lN : ∀ l, cJ l = l.map T.av
 | [] => rfl
 | x :: r => by simp [cJ, lN r]
theorem tJ (l : List T) : (cJ l).length = l.length := by simp [lN]
theorem BP (l : List T) (i : Nat) (h : i < l.length) : (cJ l).getD i .any = (l.getD i default).av := by
 simp [lN, h]
mutual
theorem T.pd (n : Nat) : ∀ x : T, x.av.aY n = true
 | .mk k m l => by simp [T.av, AV.aY, aj, dW n l]
theorem dW (n : Nat) : ∀ l : List T, aj n (cJ l) = true
 | [] => rfl
 | x :: r => by simp [cJ, aj, T.pd n x, dW n r]
end
theorem T.nZ (x : T) : AV.agg x.av.cells = x.av := by cases x; rfl
theorem T.u0 (x : T) : x.av.val = true := by cases x; rfl
theorem T.pe (x : T) : x.av.cells.all AV.one = true := by cases x; rfl
theorem T.nj (x : T) : x.av.ab = x.av := by cases x; rfl
theorem T.qn (x : T) : x.av.drop = x.av := by cases x; rfl
theorem T.BQ (x : T) : x.av.cells.map AV.ab = x.av.cells := by cases x; rfl
theorem T.DX (x : T) : x.av.cells.map AV.drop = x.av.cells := by cases x; rfl
theorem T.gl (x : T) : x.av.cells.length = 3 := by cases x; rfl
theorem JD (o : Nat) (l : List T) : (∀ (own : Nat) (xs : List AV), AV.ap o (cJ l) = AV.ap own xs → ∀ z ∈ xs, z.cells.length = 3) = True := by
 simp only [eq_iff_iff, iff_true]
 intro own xs e z hz
 cases e
 rw [lN] at hz
 obtain ⟨y, _, rfl⟩ := List.mem_map.1 hz
 exact y.gl
theorem Nn (e o : Nat) (l : List T) (k : IntKind) (i : Nat) (φ : AV → Prop) : ay e (.ap o (cJ l)) (.int k (i : Int)) φ = (i < l.length ∧ φ (.ai (l.getD i default).av)) := by
 simp only [ay, tJ, Int.toNat_natCast, eq_iff_iff]
 constructor
 ·rintro ⟨_, h, h2⟩; rw [BP _ _ h] at h2; exact ⟨h, h2⟩
 ·rintro ⟨h, h2⟩; rw [BP _ _ h]; exact ⟨by omega, h, h2⟩
theorem BR (x : T) (H : List aa) (φ : AV → Prop) : aR (some 3) (.ai x.av) H φ = φ x.av := by
 simp [aR, T.gl, T.nZ]
theorem YI (a b c : AV) (x : T) : ag [a, b, c] 0 x.av.cells = x.av.cells := by simp [ag, T.gl]
theorem YJ (n : Nat) (x : T) : aj n x.av.cells = true := cj (x.pd _)
theorem No (x : T) (φ : AV → Prop) : db (some (.cells x.av.cells)) (some 3) 0 φ = φ x.av := by
 have e : List.map AV.drop (List.take 3 (List.drop 0 x.av.cells)) = x.av.cells := by cases x; rfl
 simp only [db, e, T.nZ]
 simp [T.gl]
theorem fk (x : T) (φ : AV → Prop) : ak 0 none (.ai x.av) φ = φ (.ai (.int .i64 x.k)) := by
 cases x; simp [ak, apart, T.av, AV.cells, T.k, AV.one]
theorem fn_ (x : T) (φ : AV → Prop) : ak 1 none (.ai x.av) φ = φ (.ai (.int .i64 x.n)) := by
 cases x; simp [ak, apart, T.av, AV.cells, T.n, AV.one]
theorem fl (x : T) (φ : AV → Prop) : ak 2 none (.ai x.av) φ = φ (.ai (.ap 0 (cJ x.l))) := by
 cases x; simp [ak, apart, T.av, AV.cells, T.l, AV.one]
def ints (l : List Int) : List AV := l.map (AV.int .i64)
theorem aw (l : List Int) : (ints l).length = l.length := by simp [ints]
theorem bk (n : Nat) (l : List Int) : aj n (ints l) = true := by
 rw [a9]; intro x hx; obtain ⟨y, _, rfl⟩ := List.mem_map.1 hx; rfl
theorem dx (o : Nat) (l : List Int) : (∀ (own : Nat) (xs : List AV), AV.ap o (ints l) = AV.ap own xs → ∀ z ∈ xs, z.cells.length = 1) = True := by
 simp only [eq_iff_iff, iff_true]
 intro own xs e z hz
 cases e
 obtain ⟨y, _, rfl⟩ := List.mem_map.1 hz
 rfl
theorem JE (e o : Nat) (l : List Int) (k : IntKind) (i : Nat) (φ : AV → Prop) : ay e (.ap o (ints l)) (.int k (i : Int)) φ = (i < l.length ∧ φ (.ai (.int .i64 (l.getD i 0)))) := by
 simp only [ay, aw, Int.toNat_natCast, eq_iff_iff]
 constructor
 ·rintro ⟨_, h, h2⟩; refine ⟨h, ?_⟩; simpa [ints, h] using h2
 ·rintro ⟨h, h2⟩; refine ⟨by omega, h, ?_⟩; simpa [ints, h] using h2
theorem rC (l : List Int) (n : Int) : ints l ++ [.int .i64 n] = ints (l ++ [n]) := by simp [ints]
theorem ok_int (k : IntKind) (n : Int) : sX 1 [.int k n] = True := by simp [sX, AV.cells, AV.one]
theorem lO (l : List Int) : sX 1 (ints l) = True := by
 simp only [sX, eq_iff_iff, iff_true]
 intro y hy
 obtain ⟨z, _, rfl⟩ := List.mem_map.1 hy
 exact ⟨rfl, rfl⟩
theorem RJ (x : T) : sX 3 [x.av] = True := by
 simp only [sX, eq_iff_iff, iff_true]
 intro y hy
 rw [List.mem_singleton] at hy
 subst hy
 exact ⟨x.gl, x.pe⟩
theorem RK (k : IntKind) (n : Int) : aS (.int k n) = .int k n := _root_.id rfl
theorem YK (x : T) : aS x.av = x.av := by cases x; rfl
theorem bs0 (z : AV) (esz : Nat) (φ : List AV → Prop) : bi (List.replicate 0 z) esz [] φ = φ [] := _root_.id rfl
theorem bs1 (z x : AV) (esz : Nat) (φ : List AV → Prop) : bi (List.replicate 1 (aS z)) esz [(0, x)] φ = (x.val = true ∧ x.cells.length = esz ∧ φ [aS x]) := by
 simp [bi]
theorem bs2 (z x y : AV) (esz : Nat) (φ : List AV → Prop) : bi (List.replicate 2 (aS z)) esz [(0, x), (1, y)] φ = (x.val = true ∧ x.cells.length = esz ∧ y.val = true ∧ y.cells.length = esz ∧ φ [aS x, aS y]) := by
 simp [bi, List.replicate]
theorem bs3 (z x y u : AV) (esz : Nat) (φ : List AV → Prop) : bi (List.replicate 3 (aS z)) esz [(0, x), (1, y), (2, u)] φ = (x.val = true ∧ x.cells.length = esz ∧ y.val = true ∧ y.cells.length = esz ∧ u.val = true ∧ u.cells.length = esz ∧ φ [aS x, aS y, aS u]) := by
 simp [bi, List.replicate]
@[congr] theorem K6 {xs : List AV} {esz : Nat} {ps ps' : List (Nat × AV)} {φ : List AV → Prop} (h : fV ps = ps') : bi xs esz ps φ = bi xs esz ps' φ := by subst h; rfl
def RL := (And.intro (And.intro (And.intro (And.intro @or_true @true_or) (And.intro @true_and @and_true)) (And.intro (And.intro @true_implies @Bool.true_and) (And.intro @Bool.and_true (And.intro @Bool.not_true @Bool.not_false)))) (And.intro (And.intro (And.intro @decide_true @decide_false) (And.intro @Classical.not_not @not_true_eq_false)) (And.intro (And.intro @not_false_eq_true @false_implies) (And.intro @Int.not_le (And.intro @Int.not_lt @Nat.le_refl)))))
def RM := (And.intro (And.intro (And.intro (And.intro (And.intro @tJ @T.pd) (And.intro @dW @T.u0)) (And.intro (And.intro @T.pe @T.nj) (And.intro @T.qn @T.BQ))) (And.intro (And.intro (And.intro @T.DX @T.gl) (And.intro @T.nZ @JD)) (And.intro (And.intro @Nn @BR) (And.intro @YI (And.intro @YJ @No))))) (And.intro (And.intro (And.intro (And.intro @fk @fn_) (And.intro @fl @aw)) (And.intro (And.intro @bk @dx) (And.intro @JE @rC))) (And.intro (And.intro (And.intro @ok_int @RJ) (And.intro @lO @RK)) (And.intro (And.intro @YK @bs0) (And.intro @bs1 (And.intro @bs2 @bs3))))))
theorem sZa {α : Type} (a b : α) (h : Decidable True) : (if True then a else b) = a := if_pos trivial
def sZ := And.intro RI (And.intro RM (And.intro RL (And.intro @sZa (And.intro @ne_eq.{1} (And.intro @forall_const.{1} (And.intro @implies_true.{0} (And.intro @implies_true.{1} (And.intro @List.nil_append.{0} (And.intro @List.append_nil.{0} (And.intro @List.cons_append.{0} (And.intro @List.length_cons.{0} @List.length_nil.{0})))))))))))
end Go.aK
end
section
end
section
set_option maxRecDepth 100000
namespace Go.aK
open Go Go.Proofs
theorem ig {l : List T} {i : Nat} (h : i < l.length) : l.getD i default ∈ l := by simp [h]
theorem T.lt {x y : T} (h : x ∈ y.l) : SizeOf.sizeOf x < SizeOf.sizeOf y := by
 cases y with
 | mk k n l =>
   have := List.sizeOf_lt_of_mem h
   simp only [T.l] at this
   simp only [T.mk.sizeOf_spec]
   omega
end Go.aK
end
section
set_option maxRecDepth 100000
namespace Go.aK
open Go Go.Proofs
end Go.aK
end
section
set_option maxRecDepth 100000
namespace Go.aK
open Go Go.Proofs
mutual
def fN : T → Int → Int × Int → Int × Int
 | .mk _ _ l, d, s => kr l (d + 1) (s.1 + 1, max s.2 d)
def kr : List T → Int → Int × Int → Int × Int
 | [], _, s => s
 | x :: r, d, s => if 2000 < s.1 ∨ 200 < s.2 then s else kr r d (fN x d s)
end
def oI (d : Int) (s : Int × Int) : Prop := 0 ≤ s.1 ∧ s.1 ≤ 2000 ∧ 0 ≤ s.2 ∧ s.2 ≤ 200 ∧ 0 ≤ d ∧ d ≤ 201
def lP (s : Int × Int) : Prop := 0 ≤ s.1 ∧ s.1 ≤ 2001 ∧ 0 ≤ s.2 ∧ s.2 ≤ 201
mutual
theorem ve : ∀ (x : T) (d : Int) (s : Int × Int), oI d s → lP (fN x d s) ∧ (fN x d s).2 ≥ d
 | .mk k n l, d, s, h => by
   simp only [fN]
   obtain ⟨h1, h2, h3, h4, h5, h6⟩ := h
   have := BS l (d + 1) (s.1 + 1, max s.2 d) (by unfold lP; simp only; omega) (by omega) (by simp only; omega)
   refine ⟨this.1, ?_⟩
   have h := this.2
   simp only at h
   omega
theorem BS : ∀ (l : List T) (d : Int) (s : Int × Int), lP s → 0 ≤ d → d ≤ s.2 + 1 → lP (kr l d s) ∧ s.2 ≤ (kr l d s).2
 | [], d, s, h, _, _ => by simp [kr, h]
 | x :: r, d, s, h, hd, FO => by
   simp only [kr]
   split
   ·exact ⟨h, Int.le_refl _⟩
   ·rename_i hn
    obtain ⟨h1, h2, h3, h4⟩ := h
    have hx := ve x d s ⟨h1, by omega, h3, by omega, hd, by omega⟩
    have hr := BS r d (fN x d s) hx.1 hd (by omega)
    have := rD x d s
    exact ⟨hr.1, by omega⟩
theorem rD : ∀ (x : T) (d : Int) (s : Int × Int), s.2 ≤ (fN x d s).2
 | .mk k n l, d, s => by
   simp only [fN]
   have := xL l (d + 1) (s.1 + 1, max s.2 d)
   simp only at this
   omega
theorem xL : ∀ (l : List T) (d : Int) (s : Int × Int), s.2 ≤ (kr l d s).2
 | [], d, s => by simp [kr]
 | x :: r, d, s => by
   simp only [kr]
   split
   ·omega
   ·have h1 := rD x d s
    have h2 := xL r d (fN x d s)
    omega
end
theorem G7 {l : List T} {i : Nat} {d : Int} {s : Int × Int} (h : i < l.length) : kr (l.drop i) d s = if 2000 < s.1 ∨ 200 < s.2 then s else kr (l.drop (i + 1)) d (fN (l.getD i default) d s) := by
 rw [List.drop_eq_getElem_cons h]
 simp [kr, h]
def ew (s : Int × Int) : List aa := [.cells [.int .i64 s.1, .int .i64 s.2]]
theorem RN (H : List aa) (x : T) (d : Int) (s : Int × Int) (hs : oI d s) :
 aq Tryz.prog 171 [.ptr H.length 0, x.av, .int .i64 d] (H ++ ew s) fun r H' => r = .tuple [] ∧ H' = H ++ ew (fN x d s) := by
 have ih : ∀ y ∈ x.l, ∀ (d : Int) (s : Int × Int), oI d s → aq Tryz.prog 171 [.ptr H.length 0, y.av, .int .i64 d] (H ++ ew s) fun r H' => r = .tuple [] ∧ H' = H ++ ew (fN y d s) :=
  fun y hy d s hs => RN H y d s hs
 have e : fN x d s = kr x.l (d + 1) (s.1 + 1, max s.2 d) := by cases x; simp only [fN, T.l]
 obtain ⟨h1, h2, h3, h4, h5, h6⟩ := hs
 have w1 : IntKind.i64.wrap (s.1 + 1) = s.1 + 1 := dV _ (by omega)
 have w2 : IntKind.i64.wrap (d + 1) = d + 1 := dV _ (by omega)
 refine LQ.2.calls rfl ?_
 simp only [LQ, aI]
 simp only [w1, ew, sZ, Nat.reduceEqDiff, Nat.reduceAdd, Nat.reduceLT, Nat.reduceLeDiff, ↓reduceIte, reduceCtorEq]
 intro hl
 have HO : lP (s.1 + 1, max s.2 d) := by unfold lP; simp only; omega
 have Yk : d ≤ max s.2 d := by omega
 generalize max s.2 d = m at *
 refine aN x.l.length (fun i (t : Int × Int) => lP t ∧ d ≤ t.2 ∧ kr (x.l.drop i) (d + 1) t = fN x d s)
  (fun i t => [(0, .ptr H.length 0), (2, .int .i64 d), (25, .ap 0 (cJ x.l)), (26, .int .i64 x.l.length), (27, .int .i64 i)]) (fun i t => H ++ ew t) (s.1 + 1, m) ⟨⟨HO, Yk, by rw [e]; rfl⟩, aA _ _ _⟩ fun i t hi hI => ?_
 obtain ⟨⟨k1, k2, k3, k4⟩, k5, hI⟩ := hI
 simp only [w2, ew, sZ, Nat.reduceEqDiff, Nat.reduceAdd, Nat.reduceLT, ↓reduceIte, reduceCtorEq]
 refine ⟨fun a8 => ⟨bY a8, ?_⟩, fun jG => ?_⟩
 ·have a8 := bY a8
  rw [G7 a8] at hI
  refine ⟨fun YL => ⟨fun Xw => ?_, fun Xw => ?_⟩, fun YL => ?_⟩
  ·rw [if_pos (.inr Xw)] at hI; rw [← hI]; exact qk (by simp [ew]) rfl
  ·rw [if_neg (by omega)] at hI
   have ho : oI (d + 1) t := ⟨k1, by omega, k3, by omega, by omega, by omega⟩
   have hx := ve (x.l.getD i default) (d + 1) t ho
   refine af (ih _ (ig a8) (d + 1) t ho) ?_
   rintro r H' ⟨rfl, rfl⟩
   simp only [ew, sZ, Nat.reduceEqDiff, ↓reduceIte, reduceCtorEq]
   exact ⟨i + 1, fN (x.l.getD i default) (d + 1) t, ⟨a8, hx.1, by omega, hI⟩, by omega, aH (by rw [au i (by omega)]) rfl⟩
  ·rw [if_pos (.inl YL)] at hI; rw [← hI]; exact qk (by simp [ew]) rfl
 ·rw [List.drop_of_length_le (dl jG)] at hI
  rw [← hI]
  exact qk (by simp [ew]) rfl
termination_by SizeOf.sizeOf x
decreasing_by exact T.lt hy
def sN (s : Int × Int) : Bool := decide (2000 < s.1) || decide (200 < s.2)
theorem Vy (H : List aa) (s : Int × Int) : aq Tryz.prog 172 [.ptr H.length 0] (H ++ ew s) fun r H' => r = .bool (sN s) ∧ H' = H ++ ew s := by
 refine LR.2.calls rfl ?_
 simp only [LR, aI]
 simp only [ew, sZ, Nat.reduceEqDiff, Nat.reduceAdd, Nat.reduceLT, ↓reduceIte, reduceCtorEq]
 refine ⟨fun h => ?_, fun h => ?_⟩
 ·exact RG (by simp [ew]) rfl (by simp [sN, Int.not_lt.2 h]) rfl
 ·exact RG (by simp [ew]) rfl (by simp [sN, h]) rfl
def rE (p : T → Bool) : List T → Int → Int
 | [], _ => -1
 | x :: r, k => if p x = true then k else rE p r (k + 1)
theorem vf (p : T → Bool) : ∀ (l : List T) (k : Int), 0 ≤ k → (decide (0 ≤ rE p l k) = l.any p)
 | [], k, _ => by simp [rE]
 | x :: r, k, h => by
   simp only [rE, List.any_cons]
   split
   ·rename_i hp; simp [hp, h]
   ·rename_i hp; simp [hp, vf p r (k + 1) (by omega)]
theorem xM {p : T → Bool} {l : List T} {i : Nat} {k : Int} (h : i < l.length) : rE p (l.drop i) k = if p (l.getD i default) = true then k else rE p (l.drop (i + 1)) (k + 1) := by
 rw [List.drop_eq_getElem_cons h]
 simp [rE, h]
theorem YM (g : Nat) (p : T → Bool) (l : List T) (hf : ∀ x ∈ l, Pure Tryz.prog g [x.av] (.bool (p x))) :
 Pure Tryz.prog 114 [.ap 0 (cJ l), .fn (.func g) [] []] (.int .i64 (rE p l 0)) := by
 refine fun H => Bk.2.calls rfl ?_
 simp only [Bk, aI]
 simp only [sZ, Nat.reduceEqDiff, Nat.reduceAdd, ↓reduceIte, reduceCtorEq]
 intro hl
 refine aG l.length (fun i => rE p (l.drop i) i = rE p l 0) (fun i => [(0, .ap 0 (cJ l)), (1, .fn (.func g) [] []), (7, .int .i64 l.length), (8, .int .i64 i)]) (fun _ => H) ⟨rfl, aA _ _ _⟩ fun i hi hI => ?_
 simp only [sZ, Nat.reduceEqDiff, Nat.reduceAdd, ↓reduceIte, reduceCtorEq]
 refine ⟨fun a8 => ?_, fun jG => ?_⟩
 ·have a8 := bY a8
  rw [xM a8] at hI
  refine ⟨a8, ae (hf _ (ig a8)) ?_⟩
  simp only [sZ, Nat.reduceEqDiff, ↓reduceIte, reduceCtorEq]
  refine tG (fun hb => ?_) (fun hb => ?_) <;> simp only [sZ, Nat.reduceEqDiff, ↓reduceIte, reduceCtorEq]
  ·rw [if_pos hb] at hI
   exact aZ rfl (by rw [← hI])
  ·rw [if_neg (by rw [hb]; simp)] at hI
   exact ⟨i + 1, ⟨a8, hI⟩, by omega, aH (by rw [au i (by omega)]) rfl⟩
 ·rw [List.drop_of_length_le (dl jG)] at hI
  exact aZ rfl (by rw [← hI]; rfl)
theorem c53 (g : Nat) (p : T → Bool) (l : List T) (hf : ∀ x ∈ l, Pure Tryz.prog g [x.av] (.bool (p x))) :
 Pure Tryz.prog 53 [.ap 0 (cJ l), .fn (.func g) [] []] (.bool (l.any p)) := by
 refine fun H => Om.2.calls rfl ?_
 simp only [Om, aI]
 simp only [sZ, Nat.reduceEqDiff, Nat.reduceAdd, ↓reduceIte, reduceCtorEq]
 refine ae (YM g p l hf) ?_
 simp only [sZ, ↓reduceIte, reduceCtorEq]
 exact aZ rfl (by rw [vf p l 0 (by omega)])
mutual
def T.shaped : T → Bool
 | .mk k n l => !(decide (n < 0) || (decide (k = 1) && decide (0 < l.length)) || (decide (k ≠ 1) && decide (k ≠ 2)) || decide (8 < l.length)) && eZ l
def eZ : List T → Bool
 | [] => true
 | x :: r => x.shaped && eZ r
end
theorem nk : ∀ l, eZ l = l.all T.shaped
 | [] => rfl
 | x :: r => by simp only [eZ, List.all_cons, nk r]
theorem BT (l : List T) : (!(l.any fun x => !x.shaped)) = eZ l := by
 rw [nk]
 induction l with
 | nil => rfl
 | cons x r ih => simp only [List.any_cons, List.all_cons, Bool.not_or, Bool.not_not, ih]
theorem T.fR (x : T) : x.shaped = (!(decide (x.n < 0) || (decide (x.k = 1) && decide (0 < x.l.length)) || (decide (x.k ≠ 1) && decide (x.k ≠ 2)) || decide (8 < x.l.length)) && eZ x.l) := by
 cases x; simp only [T.shaped, T.k, T.n, T.l]; rfl
theorem zH {l : List T} {i : Nat} (h : i < l.length) : eZ (l.drop i) = ((l.getD i default).shaped && eZ (l.drop (i + 1))) := by
 rw [List.drop_eq_getElem_cons h]
 simp [eZ, h]
theorem T.G8 {x : T} (hh : ¬ (x.n < 0 ∨ (x.k = 1 ∧ 0 < x.l.length) ∨ (x.k ≠ 1 ∧ x.k ≠ 2) ∨ 8 < x.l.length)) : x.shaped = eZ x.l := by
 rw [x.fR]
 have h1 : decide (x.n < 0) = false := Bool.eq_false_iff.2 (by simp only [ne_eq, decide_eq_true_eq]; omega)
 have h2 : (decide (x.k = 1) && decide (0 < x.l.length)) = false := Bool.eq_false_iff.2 (by simp only [ne_eq, Bool.and_eq_true, decide_eq_true_eq]; omega)
 have h3 : (decide (x.k ≠ 1) && decide (x.k ≠ 2)) = false := Bool.eq_false_iff.2 (by simp only [ne_eq, Bool.and_eq_true, decide_eq_true_eq]; omega)
 have h4 : decide (8 < x.l.length) = false := Bool.eq_false_iff.2 (by simp only [ne_eq, decide_eq_true_eq]; omega)
 rw [h1, h2, h3, h4]; rfl
theorem YN (x : T) (h : Pure Tryz.prog 173 [x.av] (.bool x.shaped)) : Pure Tryz.prog 211 [x.av] (.bool (!x.shaped)) := by
 refine fun H => L5.2.calls rfl ?_
 simp only [L5, aI]
 simp only [sZ, Nat.reduceEqDiff, Nat.reduceAdd, ↓reduceIte]
 refine ae h ?_
 simp only [sZ, ↓reduceIte, reduceCtorEq]
 exact aZ rfl rfl
theorem Vz (x : T) : Pure Tryz.prog 173 [x.av] (.bool x.shaped) := by
 have ih : ∀ y ∈ x.l, Pure Tryz.prog 211 [y.av] (.bool (!y.shaped)) := fun y hy => YN y (Vz y)
 refine fun H => LS.2.calls rfl ?_
 simp only [LS, aI]
 simp +contextual only [sZ, Nat.reduceEqDiff, Nat.reduceAdd, ↓reduceIte, reduceCtorEq]
 have fin : ∀ (H' : List aa), H' = H → (x.n < 0 ∨ (x.k = 1 ∧ 0 < x.l.length) ∨ (x.k ≠ 1 ∧ x.k ≠ 2) ∨ 8 < x.l.length) → bT H.length [RX.t 2] [(2, AV.bool false)] H' fun r H' => r = AV.bool x.shaped ∧ H' = H := by
  rintro H' rfl hh
  refine aZ rfl ?_
  rw [x.fR]
  rcases hh with h | h | h | h <;> simp [h]
 have go : ¬ (x.n < 0 ∨ (x.k = 1 ∧ 0 < x.l.length) ∨ (x.k ≠ 1 ∧ x.k ≠ 2) ∨ 8 < x.l.length) → x.shaped = eZ x.l := by
  intro hh
  rw [x.fR]
  have h1 : decide (x.n < 0) = false := Bool.eq_false_iff.2 (by simp only [ne_eq, decide_eq_true_eq]; omega)
  have h2 : (decide (x.k = 1) && decide (0 < x.l.length)) = false := Bool.eq_false_iff.2 (by simp only [ne_eq, Bool.and_eq_true, decide_eq_true_eq]; omega)
  have h3 : (decide (x.k ≠ 1) && decide (x.k ≠ 2)) = false := Bool.eq_false_iff.2 (by simp only [ne_eq, Bool.and_eq_true, decide_eq_true_eq]; omega)
  have h4 : decide (8 < x.l.length) = false := Bool.eq_false_iff.2 (by simp only [ne_eq, decide_eq_true_eq]; omega)
  rw [h1, h2, h3, h4]; rfl
 refine ⟨fun h => fin _ rfl (.inl h), fun h => ⟨fun h1 hl => ⟨fun h2 => fin _ rfl (by omega), fun h2 => ⟨fun h3 => fin _ rfl (by omega), fun h3 => ae (c53 211 _ _ ih) ?_⟩⟩,
  fun h1 => ⟨fun h2 => fin _ rfl (by omega), fun h2 hl => ⟨fun h3 => fin _ rfl (by omega), fun h3 => ae (c53 211 _ _ ih) ?_⟩⟩⟩⟩ <;>
 ·simp only [sZ, ↓reduceIte, reduceCtorEq]
  exact aZ rfl (by rw [go (by omega), BT])
termination_by SizeOf.sizeOf x
decreasing_by exact T.lt hy
def T.tree (x : T) : Bool := !sN (fN x 1 (0, 0)) && x.shaped
theorem YO (x : T) : Pure Tryz.prog 108 [x.av] (.bool x.tree) := by
 refine fun H => LL.2.calls rfl ?_
 simp only [LL, aI]
 simp only [sZ, Nat.reduceEqDiff, Nat.reduceAdd, ↓reduceIte, reduceCtorEq]
 refine af (RN H x 1 (0, 0) (by unfold oI; simp)) ?_
 rintro r H' ⟨rfl, rfl⟩
 simp only [sZ, Nat.reduceEqDiff, Nat.reduceAdd, ↓reduceIte]
 refine af (Vy H (fN x 1 (0, 0))) ?_
 rintro r H' ⟨rfl, rfl⟩
 cases hb : sN (fN x 1 (0, 0)) <;> simp +contextual only [sZ, Nat.reduceEqDiff, Nat.reduceAdd, ↓reduceIte, reduceCtorEq]
 ·refine ae (Vz x) ?_
  simp only [sZ, Nat.reduceEqDiff, ↓reduceIte, reduceCtorEq]
  exact JA rfl (by simp [T.tree, hb])
 ·exact JA rfl (by simp [T.tree, hb])
mutual
def gn : T → Int → Int → Int × Bool
 | .mk _ _ l, left, deep => if left - 1 < 0 ∨ 200 < deep then (left - 1, false) else lQ l (left - 1) (deep + 1)
def lQ : List T → Int → Int → Int × Bool
 | [], left, _ => (left, true)
 | x :: r, left, deep => if (gn x left deep).2 = true then lQ r (gn x left deep).1 deep else ((gn x left deep).1, false)
end
mutual
theorem zJ : ∀ (x : T) (left deep : Int), (gn x left deep).1 ≤ left ∧ (0 ≤ left → -1 ≤ (gn x left deep).1 ∧ ((gn x left deep).2 = true → 0 ≤ (gn x left deep).1))
 | .mk k n l, left, deep => by
   simp only [gn]
   split
   ·simp; omega
   ·rename_i hn
    have := Fa l (left - 1) (deep + 1)
    exact ⟨by omega, fun _ => this.2 (by omega)⟩
theorem Fa : ∀ (l : List T) (left deep : Int), (lQ l left deep).1 ≤ left ∧ (0 ≤ left → -1 ≤ (lQ l left deep).1 ∧ ((lQ l left deep).2 = true → 0 ≤ (lQ l left deep).1))
 | [], left, deep => by simp [lQ]; omega
 | x :: r, left, deep => by
   have h1 := zJ x left deep
   simp only [lQ]
   split
   ·rename_i hb
    have h2 := Fa r (gn x left deep).1 deep
    exact ⟨by omega, fun h0 => h2.2 ((h1.2 h0).2 hb)⟩
   ·exact ⟨h1.1, fun h0 => ⟨(h1.2 h0).1, fun e => by cases e⟩⟩
end
theorem G9 {l : List T} {i : Nat} {left d : Int} (h : i < l.length) : lQ (l.drop i) left d = if (gn (l.getD i default) left d).2 = true then lQ (l.drop (i + 1)) (gn (l.getD i default) left d).1 d else ((gn (l.getD i default) left d).1, false) := by
 rw [List.drop_eq_getElem_cons h]
 simp [lQ, h]
theorem VA (x : T) (left deep : Int) (h0 : 0 ≤ left) (h1 : left ≤ 100000) (h2 : 0 ≤ deep) (h3 : deep ≤ 201) :
 Pure Tryz.prog 214 [x.av, .int .i64 left, .int .i64 deep] (.tuple [.int .i64 (gn x left deep).1, .bool (gn x left deep).2]) := by
 have ih : ∀ y ∈ x.l, ∀ (left deep : Int), 0 ≤ left → left ≤ 100000 → 0 ≤ deep → deep ≤ 201 →
  Pure Tryz.prog 214 [y.av, .int .i64 left, .int .i64 deep] (.tuple [.int .i64 (gn y left deep).1, .bool (gn y left deep).2]) := fun y hy left deep h0 h1 h2 h3 => VA y left deep h0 h1 h2 h3
 have e : gn x left deep = if left - 1 < 0 ∨ 200 < deep then (left - 1, false) else lQ x.l (left - 1) (deep + 1) := by cases x; simp only [gn, T.l]
 have w1 : IntKind.i64.wrap (left - 1) = left - 1 := dV _ (by omega)
 have w2 : IntKind.i64.wrap (deep + 1) = deep + 1 := dV _ (by omega)
 refine fun H => UP.2.calls rfl ?_
 simp only [UP, aI]
 simp +contextual only [w1, sZ, Nat.reduceEqDiff, Nat.reduceAdd, ↓reduceIte, reduceCtorEq]
 refine ⟨fun h4 => ⟨fun h5 => BM (by decide) rfl rfl (by rw [e, if_pos (.inr h5)]; rfl) (by rw [e, if_pos (.inr h5)]; rfl), fun h5 => ?_⟩, fun h4 => BM (by decide) rfl rfl (by rw [e, if_pos (.inl h4)]; rfl) (by rw [e, if_pos (.inl h4)]; rfl)⟩
 have e2 : gn x left deep = lQ x.l (left - 1) (deep + 1) := by rw [e, if_neg (by omega)]
 refine aN x.l.length (fun i (s : Int) => 0 ≤ s ∧ s ≤ 100000 ∧ lQ (x.l.drop i) s (deep + 1) = gn x left deep)
  (fun i s => [(1, .int .i64 s), (2, .int .i64 deep), (3, x.av.ai), (8, .int .i64 i)]) (fun i s => H) (left - 1) ⟨⟨by omega, by omega, by rw [e2]; rfl⟩, aA _ _ _⟩ fun i s hi hI => ?_
 obtain ⟨k0, k1, hI⟩ := hI
 simp +contextual only [w2, sZ, Nat.reduceEqDiff, Nat.reduceAdd, ↓reduceIte, reduceCtorEq]
 intro hl
 refine ⟨fun a8 => ⟨bY a8, ?_⟩, fun jG => ?_⟩
 ·have a8 := bY a8
  rw [G9 a8] at hI
  have hle := zJ (x.l.getD i default) s (deep + 1)
  refine ae (ih _ (ig a8) s (deep + 1) k0 k1 (by omega) (by omega)) ?_
  simp +contextual only [sZ, Nat.reduceEqDiff, Nat.reduceAdd, Nat.reduceLT, ↓reduceIte]
  refine tG (fun hb => ?_) (fun hb => ?_) <;> simp +contextual only [sZ, Nat.reduceEqDiff, ↓reduceIte, reduceCtorEq]
  ·rw [if_pos hb] at hI
   exact ⟨i + 1, _, ⟨a8, (hle.2 k0).2 hb, by omega, hI⟩, by omega, aH (by rw [au i (by omega)]) rfl⟩
  ·rw [if_neg (by rw [hb]; simp)] at hI
   exact BM (by decide) rfl rfl (by rw [← hI]; rfl) (by rw [← hI]; rfl)
 ·rw [List.drop_of_length_le (dl jG)] at hI
  exact BM (by decide) rfl rfl (by rw [← hI]; rfl) (by rw [← hI]; rfl)
termination_by SizeOf.sizeOf x
decreasing_by exact T.lt hy
theorem VB (x : T) : Pure Tryz.prog 215 [x.av] (.bool x.shaped) := by
 have ih : ∀ y ∈ x.l, Pure Tryz.prog 215 [y.av] (.bool y.shaped) := fun y hy => VB y
 refine fun H => UQ.2.calls rfl ?_
 simp only [UQ, aI]
 simp +contextual only [sZ, Nat.reduceEqDiff, Nat.reduceAdd, ↓reduceIte, reduceCtorEq, Int.reduceEq]
 have fin : ∀ (H' : List aa), H' = H → (x.n < 0 ∨ (x.k = 1 ∧ 0 < x.l.length) ∨ (x.k ≠ 1 ∧ x.k ≠ 2) ∨ 8 < x.l.length) → bT H.length [RX.t 2] [(2, AV.bool false)] H' fun r H' => r = AV.bool x.shaped ∧ H' = H := by
  rintro H' rfl hh
  refine aZ rfl ?_
  rw [x.fR]
  rcases hh with h | h | h | h <;> simp [h]
 refine ⟨fun h => ⟨fun h1 => ⟨fun h2 hl => ⟨fun h3 => fin _ rfl (by omega), fun h3 => ?_⟩, fun h2 => fin _ rfl (by omega)⟩, fun h1 hl => ⟨fun h2 => ⟨fun h3 => fin _ rfl (by omega), fun h3 => ?_⟩, fun h2 => fin _ rfl (by omega)⟩⟩, fun h => fin _ rfl (by omega)⟩
 all_goals
  have go : x.shaped = eZ x.l := T.G8 (by omega)
  refine aG x.l.length (fun i => eZ (x.l.drop i) = x.shaped) (fun i => [(1, x.av.ai), (3, .int .i64 i)]) (fun i => H) ⟨by rw [go]; rfl, aA _ _ _⟩ fun i hi hI => ?_
  simp +contextual only [sZ, Nat.reduceEqDiff, Nat.reduceAdd, ↓reduceIte, reduceCtorEq]
  intro _
  refine ⟨fun a8 => ⟨bY a8, ?_⟩, fun jG => ?_⟩
  ·have a8 := bY a8
   rw [zH a8] at hI
   refine ae (ih _ (ig a8)) ?_
   simp +contextual only [sZ, Nat.reduceEqDiff, ↓reduceIte]
   refine tG (fun hb => ?_) (fun hb => ?_) <;> simp +contextual only [sZ, Nat.reduceEqDiff, ↓reduceIte, reduceCtorEq]
   ·exact ⟨i + 1, ⟨a8, by rw [hb] at hI; simpa using hI⟩, by omega, aH (by rw [au i (by omega)]) rfl⟩
   ·exact aZ rfl (by rw [← hI, hb]; rfl)
  ·rw [List.drop_of_length_le (dl jG)] at hI
   exact aZ rfl (by rw [← hI]; rfl)
termination_by SizeOf.sizeOf x
decreasing_by exact T.lt hy
theorem YP (x : T) : Pure Tryz.prog 175 [x.av] (.bool ((gn x 2000 1).2 && x.shaped)) := by
 refine fun H => Uw.2.calls rfl ?_
 simp only [Uw, aI]
 simp +contextual only [sZ, Nat.reduceEqDiff, Nat.reduceAdd, ↓reduceIte]
 refine ae (VA x 2000 1 (by omega) (by omega) (by omega) (by omega)) ?_
 cases hb : (gn x 2000 1).2 <;> simp +contextual only [sZ, Nat.reduceEqDiff, Nat.reduceAdd, Nat.reduceLT, ↓reduceIte, reduceCtorEq]
 ·exact aZ rfl rfl
 ·refine ae (VB x) ?_
  simp +contextual only [sZ, Nat.reduceEqDiff, ↓reduceIte, reduceCtorEq]
  exact aZ rfl rfl
end Go.aK
end
section
set_option maxRecDepth 100000
namespace Go.aK
open Go Go.Proofs
mutual
def T.sz : T → Int
 | .mk _ _ l => 1 + DY l
def DY : List T → Int
 | [] => 0
 | x :: r => x.sz + DY r
end
mutual
def T.dp : T → Int
 | .mk _ _ l => 1 + HJ l
def HJ : List T → Int
 | [] => 0
 | x :: r => max x.dp (HJ r)
end
mutual
theorem T.DZ : ∀ x : T, 1 ≤ x.sz
 | .mk k n l => by simp only [T.sz]; have := qo l; omega
theorem qo : ∀ l : List T, 0 ≤ DY l
 | [] => by simp [DY]
 | x :: r => by simp only [DY]; have := T.DZ x; have := qo r; omega
end
mutual
theorem T.zK : ∀ x : T, 1 ≤ x.dp
 | .mk k n l => by simp only [T.dp]; have := n7 l; omega
theorem n7 : ∀ l : List T, 0 ≤ HJ l
 | [] => by simp [HJ]
 | x :: r => by simp only [HJ]; have := T.zK x; have := n7 r; omega
end
def eu (s : Int × Int) : Prop := 2000 < s.1 ∨ 200 < s.2
mutual
theorem rF : ∀ (x : T) (d : Int) (s : Int × Int), oI d s → (¬ eu (fN x d s) ↔ s.1 + x.sz ≤ 2000 ∧ d + x.dp - 1 ≤ 200) ∧ (¬ eu (fN x d s) → (fN x d s).1 = s.1 + x.sz ∧ (fN x d s).2 = max s.2 (d + x.dp - 1))
 | .mk k n l, d, s, h => by
   obtain ⟨h1, h2, h3, h4, h5, h6⟩ := h
   simp only [fN, T.sz, T.dp]
   have hp := n7 l
   have ih := xN l (d + 1) (s.1 + 1, max s.2 d) (by unfold lP; simp only; omega) (by omega) (by simp only; omega)
   simp only at ih
   refine ⟨ih.1.trans ⟨fun k => ⟨by omega, by omega⟩, fun k => ⟨by omega, by omega, by omega⟩⟩, fun k => ?_⟩
   have k1 := ih.2 k
   have k2 := ih.1.1 k
   exact ⟨by omega, by omega⟩
theorem xN : ∀ (l : List T) (d : Int) (s : Int × Int), lP s → 0 ≤ d → d ≤ s.2 + 1 → (¬ eu (kr l d s) ↔ s.1 + DY l ≤ 2000 ∧ s.2 ≤ 200 ∧ d + HJ l - 1 ≤ 200) ∧ (¬ eu (kr l d s) → (kr l d s).1 = s.1 + DY l ∧ (kr l d s).2 = max s.2 (d + HJ l - 1))
 | [], d, s, h, h5, h6 => by
   simp only [kr, DY, HJ, eu]
   exact ⟨⟨fun k => ⟨by omega, by omega, by omega⟩, fun k => by omega⟩, fun k => ⟨by omega, by omega⟩⟩
 | x :: r, d, s, h, h5, h6 => by
   obtain ⟨h1, h2, h3, h4⟩ := h
   simp only [kr]
   have H7 := x.DZ
   have hd0 := x.zK
   have Yg := qo r
   have X8 := n7 r
   simp only [DY, HJ]
   by_cases ho : 2000 < s.1 ∨ 200 < s.2
   ·rw [if_pos ho]
    refine ⟨⟨fun k => absurd ho k, fun k => ?_⟩, fun k => absurd ho k⟩
    omega
   ·rw [if_neg ho]
    have jI : oI d s := ⟨h1, by omega, h3, by omega, h5, by omega⟩
    have hx := rF x d s jI
    have VC := ve x d s jI
    have OV := rD x d s
    have ih := xN r d (fN x d s) VC.1 h5 (by omega)
    generalize fN x d s = t at *
    by_cases Xx : eu t
    ·have hn : eu (kr r d t) := by
      refine Classical.byContradiction fun hc => ?_
      have := ih.1.1 hc
      unfold eu at Xx
      omega
     refine ⟨⟨fun k => absurd hn k, fun k => ?_⟩, fun k => absurd hn k⟩
     have := hx.1.2 (by omega)
     exact absurd Xx this
    ·have k1 := hx.2 Xx
     have k2 := hx.1.1 Xx
     refine ⟨ih.1.trans ⟨fun k => ⟨by omega, by omega, by omega⟩, fun k => ⟨by omega, by omega, by omega⟩⟩, fun k => ?_⟩
     have k3 := ih.2 k
     exact ⟨by omega, by omega⟩
end
theorem rG (s : Int × Int) : sN s = true ↔ eu s := by simp [sN, eu]
mutual
theorem xO : ∀ (x : T) (left d : Int), 0 ≤ left → d ≤ 201 → ((gn x left d).2 = true ↔ x.sz ≤ left ∧ d + x.dp - 1 ≤ 200) ∧ ((gn x left d).2 = true → (gn x left d).1 = left - x.sz)
 | .mk k n l, left, d, h0, hd => by
   simp only [gn, T.sz, T.dp]
   have hp := n7 l
   have hs := qo l
   by_cases ho : left - 1 < 0 ∨ 200 < d
   ·rw [if_pos ho]
    refine ⟨⟨fun k => (by cases k), fun k => ?_⟩, fun k => (by cases k)⟩
    omega
   ·rw [if_neg ho]
    have ih := xP l (left - 1) (d + 1) (by omega) (by omega)
    exact ⟨ih.1.trans ⟨fun k => ⟨by omega, by omega⟩, fun k => ⟨by omega, by omega⟩⟩, fun k => by have := ih.2 k; omega⟩
theorem xP : ∀ (l : List T) (left d : Int), 0 ≤ left → d ≤ 201 → ((lQ l left d).2 = true ↔ DY l ≤ left ∧ d + HJ l - 1 ≤ 200) ∧ ((lQ l left d).2 = true → (lQ l left d).1 = left - DY l)
 | [], left, d, h0, hd => by simp only [lQ, DY, HJ]; exact ⟨⟨fun _ => ⟨by omega, by omega⟩, fun _ => trivial⟩, fun _ => by omega⟩
 | x :: r, left, d, h0, hd => by
   simp only [lQ, DY, HJ]
   have H7 := x.DZ
   have hd0 := x.zK
   have Yg := qo r
   have X8 := n7 r
   have hx := xO x left d h0 hd
   have hle := zJ x left d
   cases hb : (gn x left d).2 with
   | false =>
     rw [if_neg (by simp)]
     refine ⟨⟨fun k => (by cases k), fun k => ?_⟩, fun k => (by cases k)⟩
     have := hx.1.2 (by omega)
     rw [hb] at this; cases this
   | true =>
     rw [if_pos rfl]
     have k1 := hx.2 hb
     have k2 := hx.1.1 hb
     have ih := xP r (gn x left d).1 d ((hle.2 h0).2 hb) hd
     exact ⟨ih.1.trans ⟨fun k => ⟨by omega, by omega⟩, fun k => ⟨by omega, by omega⟩⟩, fun k => by have := ih.2 k; omega⟩
end
theorem T.kI (x : T) : x.tree = true ↔ x.sz ≤ 2000 ∧ x.dp ≤ 200 ∧ x.shaped = true := by
 have h := (rF x 1 (0, 0) (by unfold oI; simp)).1
 unfold T.tree
 rw [Bool.and_eq_true, Bool.not_eq_true', ← Bool.not_eq_true, rG]
 constructor
 ·rintro ⟨h1, h2⟩
  have := h.1 h1
  simp only at this
  exact ⟨by omega, by omega, h2⟩
 ·rintro ⟨h1, h2, h3⟩
  exact ⟨h.2 (by simp only; omega), h3⟩
theorem RP (x : T) : ((gn x 2000 1).2 && x.shaped) = x.tree := by
 have h := (xO x 2000 1 (by omega) (by omega)).1
 rw [Bool.eq_iff_iff, Bool.and_eq_true, h, T.kI]
 constructor
 ·rintro ⟨⟨h1, h2⟩, h3⟩; exact ⟨h1, by omega, h3⟩
 ·rintro ⟨h1, h2, h3⟩; exact ⟨⟨h1, by omega⟩, h3⟩
theorem VD (x : T) : Pure Tryz.prog 175 [x.av] (.bool x.tree) := by rw [← RP]; exact YP x
def ents (vs : List Int) : List (AV × AV) := vs.map fun v => (.int .i64 v, .bool true)
def ot : List Int → AV
 | [] => .ah
 | v :: r => .ap 1 (ints (v :: r))
theorem kJ (vs : List Int) (n : Int) : AV.ap 1 (ints (vs ++ [n])) = ot (vs ++ [n]) := by
 cases vs <;> rfl
theorem vg (vs : List Int) (n : Int) (o : Nat) (ψ : List AV → Prop) : bE 1 8 (ot vs) (.ap o [.int .i64 n]) ψ = ((vs.length + 1) * 8 ≤ 140737488355328 ∧ ψ (ints (vs ++ [n]))) := by
 cases vs with
 | nil => simp [ot, nX, ok_int, ints]
 | cons v r =>
   show bE 1 8 (.ap 1 (ints (v :: r))) _ ψ = _
   rw [nc, ok_int, aw, rC]
   simp
end Go.aK
end
section
set_option maxRecDepth 100000
namespace Go.aK
open Go Go.Proofs
mutual
def VE (f : Int → T) : T → T
 | .mk k n l => if k = 1 then f n else .mk k n (OW f l)
def OW (f : Int → T) : List T → List T
 | [] => []
 | x :: r => VE f x :: OW f r
end
def D0 : List T → AV
 | [] => .ah
 | v :: r => .ap 3 (cJ (v :: r))
theorem JF (l : List T) (x : T) : cJ l ++ [x.av] = cJ (l ++ [x]) := by simp [lN]
theorem Ha (vs : List T) (n : T) : AV.ap 3 (cJ (vs ++ [n])) = D0 (vs ++ [n]) := by
 cases vs <;> rfl
theorem Np (b : Nat) (vs : List T) (n : T) (o : Nat) (ψ : List AV → Prop) : bE 3 b (D0 vs) (.ap o [n.av]) ψ = ((vs.length + 1) * b ≤ 140737488355328 ∧ ψ (cJ (vs ++ [n]))) := by
 cases vs with
 | nil => simp [D0, nX, RJ, cJ]
 | cons v r =>
   show bE 3 b (.ap 3 (cJ (v :: r))) _ ψ = _
   rw [nc, RJ, tJ, JF]
   simp
theorem nl {x : T} (h : x.shaped = true) : x.l.length ≤ 8 ∧ ∀ y ∈ x.l, y.shaped = true := by
 rw [x.fR, Bool.and_eq_true, Bool.not_eq_true', Bool.or_eq_false_iff] at h
 have h1 := h.1.2
 have h2 := h.2
 rw [nk] at h2
 exact ⟨by simpa using h1, fun y hy => List.all_eq_true.1 h2 y hy⟩
end Go.aK
end
section
set_option maxRecDepth 100000
namespace Go.aK
open Go Go.Proofs
end Go.aK
end
section
set_option maxRecDepth 100000
namespace Go.aK
open Go Go.RowKit
mutual
def T.wf : T → Prop
 | .mk k n l => (-9223372036854775808 ≤ k ∧ k ≤ 9223372036854775807) ∧ (-9223372036854775808 ≤ n ∧ n ≤ 9223372036854775807) ∧ l.length ≤ 9223372036854775807 ∧ Tb l
def Tb : List T → Prop
 | [] => True
 | x :: r => x.wf ∧ Tb r
end
theorem Fb : ∀ l : List T, Tb l ↔ ∀ x ∈ l, x.wf
 | [] => by simp [Tb]
 | x :: r => by simp [Tb, Fb r]
section
variable {H : Type} {enc : TypeId × Value → H} {P : Program} {w : World} {base : Nat} {sp : Nat → Bool} {held : Bool}
structure D1 (P : Program) (ti tt tl : TypeId) : Prop where
 int : P.underlying ti = some (.int .i64)
 tree : ∃ f0 f1 f2 : Field, P.underlying tt = some (.struct #[f0, f1, f2]) ∧ f0.type = ti ∧ f0.offset = 0 ∧ f1.type = ti ∧ f1.offset = 1 ∧ f2.type = tl ∧ f2.offset = 2
 list : P.underlying tl = some (.slice tt)
 c1 : P.cellsOf ti = 1
 c3 : P.cellsOf tt = 3
 cl : P.cellsOf tl = 1
theorem JG {n : Int} (h : (Lit.int .i64 n).wf = true) : -9223372036854775808 ≤ n ∧ n ≤ 9223372036854775807 := by
 simp only [Lit.wf, Bool.and_eq_true, decide_eq_true_eq] at h
 revert h
 simp [IntKind.min, IntKind.max, IntKind.signed, IntKind.bits]
theorem D2 {n : Nat} {p : Nat → T → Prop} (h : ∀ i, i < n → ∃ t, p i t) : ∃ f : Nat → T, ∀ i, i < n → p i (f i) := by
 refine ⟨fun i => if hi : i < n then Classical.choose (h i hi) else default, fun i hi => ?_⟩
 simp only [dif_pos hi]
 exact Classical.choose_spec (h i hi)
def isT (w : World) (cs : List Value) (t : T) : Prop := aJ (fB w) [] cs t.av.cells ∧ t.wf
def RQ (w : World) (cs : List Value) (l : List T) : Prop := (∃ v, cs = [v] ∧ (∃ y, aQ (fB w) [] v y ∧ (y = .ap 0 (cJ l) ∨ (y = .ah ∧ l = [])))) ∧ l.length ≤ 9223372036854775807 ∧ Tb l
theorem RQ.Xk {cs : List Value} {l : List T} (h : RQ w cs l) : ∃ v, cs = [v] ∧ aQ (fB w) [] v (.ap 0 (cJ l)) := by
 obtain ⟨⟨v, rfl, y, hr, hy⟩, _⟩ := h
 refine ⟨v, rfl, ?_⟩
 rcases hy with rfl | ⟨rfl, rfl⟩
 ·exact hr
 ·exact hr.drop
def OX (d : DataW H) (l : List T) : Prop := match d with | .slice es _ => l.length = es.length | _ => l = []
theorem Hb {ti tt tl : TypeId} (hT : D1 P ti tt tl) : ∀ (fuel : Nat),
 (∀ (cs : List Value) (x : DataW H × List MemPlace), DataW.trod enc P w base sp held fuel tt cs = some x → ∃ t : T, isT w cs t) ∧
 (∀ (cs : List Value) (x : DataW H × List MemPlace), DataW.trod enc P w base sp held fuel tl cs = some x → ∃ l : List T, RQ w cs l ∧ OX x.1 l) := by
 intro fuel
 induction fuel with
 | zero => exact ⟨fun cs x h => by simp [DataW.trod] at h, fun cs x h => by simp [DataW.trod] at h⟩
 | succ n ih =>
   refine ⟨fun cs x h => ?_, fun cs x h => ?_⟩
   ·obtain ⟨f0, f1, f2, hu, h0, o0, h1, o1, h2, o2⟩ := hT.tree
    obtain ⟨xs, m, hm, rfl, hlen, fp, hf⟩ := DataW.trod_struct hu h
    cases hm
    have g0 := hf 0 f0 rfl
    have g1 := hf 1 f1 rfl
    have g2 := hf 2 f2 rfl
    rw [h0, o0, hT.c1] at g0
    rw [h1, o1, hT.c1] at g1
    rw [h2, o2, hT.cl] at g2
    simp at fp
    rw [hT.c3] at hlen
    match cs, hlen with
    | [a, b, c], _ =>
      have e0 : xs[0]? = some xs[0] := by simp [fp]
      have e1 : xs[1]? = some xs[1] := by simp [fp]
      have e2 : xs[2]? = some xs[2] := by simp [fp]
      rw [e0] at g0; rw [e1] at g1; rw [e2] at g2
      obtain ⟨k, ek, _, wk⟩ := DataW.trod_int hT.int g0
      obtain ⟨q, eq, _, wq⟩ := DataW.trod_int hT.int g1
      obtain ⟨l, hl, _⟩ := ih.2 _ _ g2
      obtain ⟨v, ev, hv⟩ := hl.Xk
      simp at ek eq ev
      subst ek eq ev
      exact ⟨.mk k q l, .cons _ _ _ _ (.int _ _) (.cons _ _ _ _ (.int _ _) (.cons _ _ _ _ hv .nil)), JG wk, JG wq, hl.2.1, hl.2.2⟩
   ·rcases DataW.trod_slice hT.list h with ⟨rfl, rfl⟩ | ⟨a, len, cap, elems, rest, m, hm, rfl, rfl, hb, hle, cE, SX, jf, _, _⟩
    ·exact ⟨[], ⟨⟨_, rfl, .ah, .ah, .inr ⟨rfl, rfl⟩⟩, by simp, trivial⟩, rfl⟩
    cases hm
    rw [hT.c3] at jf
    have hex : ∀ i, i < len → ∃ t : T, ∃ cs', w.cells? base (a.add (i * 3)) 3 = some cs' ∧ isT w cs' t := by
     intro i hi
     have := jf i hi
     rw [List.getElem?_eq_getElem (by omega)] at this
     obtain ⟨cs', k1, k2⟩ := Option.bind_eq_some_iff.1 this
     obtain ⟨t, ht⟩ := ih.1 _ _ k2
     exact ⟨t, cs', k1, ht⟩
    obtain ⟨f, hf⟩ := D2 hex
    have SW : maxLen = 9223372036854775807 := rfl
    refine ⟨(List.range len).map f, ⟨⟨_, rfl, _, ?_, .inl rfl⟩, by simp; omega, ?_⟩, by simp [OX, SX]⟩
    ·rw [lN, List.map_map]
     refine xI (e := 3) (base := base) (by decide) hle cE (fun i => if hi : i < len then Classical.choose (hf i hi) else []) _ fun i hi => ?_
     simp only [dif_pos hi]
     obtain ⟨k1, k2⟩ := Classical.choose_spec (hf i hi)
     exact ⟨k1, k2.1⟩
    ·rw [Fb]
     intro x hx
     obtain ⟨i, hi, rfl⟩ := List.mem_map.1 hx
     obtain ⟨cs', _, k2⟩ := hf i (List.mem_range.1 hi)
     exact k2.2
theorem D3 {ti tt tl : TypeId} (hT : D1 P ti tt tl) {r : Reach} {b0 : Nat} {v : Value} {d : DataW H} {ps : List MemPlace} (jX : Value.okWide P w r b0 tt v) (hd : DataW.Trod enc P w base sp held tt v d ps) :
 ∃ t : T, aQ (fB w) [] v t.av ∧ t.wf := by
 obtain ⟨f0, f1, f2, hu, _⟩ := hT.tree
 obtain ⟨cs, rfl, _⟩ := WideShapes.okWide_struct hu jX
 obtain ⟨fuel, hf⟩ := hd
 obtain ⟨t, h1, h2⟩ := (Hb hT fuel).1 _ _ hf
 refine ⟨t, ?_, h2⟩
 have : aQ (fB w) [] (.agg cs.toList.toArray) (.agg t.av.cells) := .agg _ _ h1
 rw [t.nZ] at this
 simpa using this
end
end Go.aK
end
section
end
section
set_option maxRecDepth 100000
namespace Go.aK
open Go Go.Proofs
end Go.aK
end
section
set_option maxRecDepth 100000
namespace Go.aK
open Go Go.Proofs
def xQ (t : T) : Int × Int := if t.sz ≤ 2000 ∧ t.dp ≤ 200 then (t.sz, t.dp) else (2001, 201)
theorem YQ (t : T) : (¬ eu (fN t 1 (0, 0)) ↔ t.sz ≤ 2000 ∧ t.dp ≤ 200) ∧ (¬ eu (fN t 1 (0, 0)) → fN t 1 (0, 0) = (t.sz, t.dp)) := by
 have h := rF t 1 (0, 0) (by unfold oI; simp)
 have hd := t.zK
 refine ⟨h.1.trans ⟨fun k => ⟨by omega, by omega⟩, fun k => ⟨by simp only; omega, by omega⟩⟩, fun k => ?_⟩
 have := h.2 k
 exact Prod.ext (by simpa using this.1) (by have := this.2; simp only at this ⊢; omega)
theorem ado (t : T) : Pure Tryz.prog 122 [t.av] (.tuple [.int .i64 (xQ t).1, .int .i64 (xQ t).2]) := by
 refine fun H => T5.2.calls rfl ?_
 simp only [T5, aI]
 simp +contextual only [sZ, Nat.reduceEqDiff, Nat.reduceAdd, ↓reduceIte, reduceCtorEq]
 refine af (RN H t 1 (0, 0) (by unfold oI; simp)) ?_
 rintro r H' ⟨rfl, rfl⟩
 simp +contextual only [sZ, Nat.reduceEqDiff, Nat.reduceAdd, ↓reduceIte]
 refine af (Vy H (fN t 1 (0, 0))) ?_
 rintro r H' ⟨rfl, rfl⟩
 have h0 := YQ t
 cases hb : sN (fN t 1 (0, 0)) with
 | true =>
   have hn : ¬ (t.sz ≤ 2000 ∧ t.dp ≤ 200) := fun h => h0.1.2 h ((rG _).1 hb)
   simp +contextual only [ew, sZ, Nat.reduceEqDiff, ↓reduceIte, reduceCtorEq]
   exact xF (by decide) rfl rfl (by rw [xQ, if_neg hn]; rfl) (by rw [xQ, if_neg hn]; rfl)
 | false =>
   have hn : ¬ eu (fN t 1 (0, 0)) := fun h => by rw [(rG _).2 h] at hb; cases hb
   have h1 := h0.1.1 hn
   rw [h0.2 hn]
   simp +contextual only [ew, sZ, Nat.reduceEqDiff, Nat.reduceAdd, Nat.reduceLT, ↓reduceIte, reduceCtorEq]
   exact xF (by decide) rfl rfl (by rw [xQ, if_pos h1]; rfl) (by rw [xQ, if_pos h1]; rfl)
theorem YR (a b : List Int) (o o' : Nat) : Pure Tryz.prog 198 [.ap o (ints a), .ap o' (ints b)] (.bool (decide (a = b))) := by
 refine fun H => UH.2.calls rfl ?_
 simp only [UH, aI]
 simp +contextual only [sZ, Nat.reduceEqDiff, Nat.reduceAdd, ↓reduceIte, reduceCtorEq]
 refine fun _ _ => ⟨fun eo => aZ rfl ?_, fun hl => ?_⟩
 ·rw [decide_eq_false]
  intro h; subst h; exact eo rfl
 have hl : a.length = b.length := by omega
 refine aG a.length (fun i => decide (a.drop i = b.drop i) = decide (a = b)) (fun i => [(0, .ap o (ints a)), (1, .ap o' (ints b)), (5, .int .i64 i)]) (fun i => H) ⟨rfl, aA _ _ _⟩ fun i hi hI => ?_
 simp +contextual only [sZ, Nat.reduceEqDiff, ↓reduceIte, reduceCtorEq]
 intro _
 refine ⟨fun a8 => ⟨bY a8, ?_⟩, fun jG => ?_⟩
 ·have a8 := bY a8
  have RR : i < b.length := by omega
  rw [List.drop_eq_getElem_cons a8, List.drop_eq_getElem_cons RR] at hI
  have e1 : a.getD i 0 = a[i] := by simp [a8]
  have e2 : b.getD i 0 = b[i] := by simp [RR]
  rw [e1, e2]
  refine ⟨RR, fun eo => aZ rfl ?_, fun he => ⟨i + 1, ⟨a8, ?_⟩, by omega, aH (by rw [au i (by omega)]) rfl⟩⟩
  ·rw [← hI, decide_eq_false]
   intro h; exact eo (List.cons.inj h).1
  ·rw [← hI, he]
   exact decide_eq_decide.2 (by rw [List.cons.injEq]; simp only [true_and])
 ·have jG := dl jG
  rw [List.drop_of_length_le jG, List.drop_of_length_le (by omega)] at hI
  exact aZ rfl (by rw [← hI]; rfl)
theorem RS (l : List T) : sX 3 (cJ l) = True := by
 simp only [sX, eq_iff_iff, iff_true]
 intro y hy
 rw [lN] at hy
 obtain ⟨z, _, rfl⟩ := List.mem_map.1 hy
 exact ⟨z.gl, z.pe⟩
end Go.aK
end
section
set_option maxRecDepth 100000
namespace Go.aK
open Go Go.Proofs
def sub (l : List T) (t : T) : T := VE (fun n => l.getD n.toNat default) t
end Go.aK
end
section
namespace Go.fE
open Go.aK
mutual
def code : T → List Int
 | .mk k n l => k :: n :: (l.length : Int) :: xR l
def xR : List T → List Int
 | [] => []
 | x :: r => code x ++ xR r
end
mutual
theorem BU : ∀ (a b : T) (r s : List Int), code a ++ r = code b ++ s → a = b ∧ r = s
 | .mk k n l, .mk k' n' l', r, s, h => by
   simp only [code, List.cons_append, List.cons.injEq] at h
   obtain ⟨h1, h2, h3, h4⟩ := h
   obtain ⟨h5, h6⟩ := xS l l' r s (by omega) h4
   exact ⟨by rw [h1, h2, h5], h6⟩
theorem xS : ∀ (l m : List T) (r s : List Int), l.length = m.length → xR l ++ r = xR m ++ s → l = m ∧ r = s
 | [], [], r, s, _, h => ⟨rfl, by simpa [xR] using h⟩
 | x :: l, y :: m, r, s, hl, h => by
   simp only [xR, List.append_assoc] at h
   obtain ⟨h1, h2⟩ := BU x y _ _ h
   obtain ⟨h3, h4⟩ := xS l m r s (by simpa using hl) h2
   exact ⟨by rw [h1, h3], h4⟩
 | [], _ :: _, _, _, h, _ => by simp at h
 | _ :: _, [], _, _, h, _ => by simp at h
end
theorem Fc {a b : T} (h : code a = code b) : a = b := (BU a b [] [] (by rw [h])).1
instance : DecidableEq T := fun a b => decidable_of_iff (code a = code b) ⟨Fc, fun h => by rw [h]⟩
def Ap (a b : T) : Prop := code a ≤ code b
instance (a b : T) : Decidable (Ap a b) := inferInstanceAs (Decidable (code a ≤ code b))
theorem BV {a b : T} (h1 : Ap a b) (h2 : Ap b a) : a = b := Fc (List.le_antisymm h1 h2)
theorem xT (a b : T) : Ap a b ∨ Ap b a := List.le_total _ _
theorem xU {a b c : T} (h1 : Ap a b) (h2 : Ap b c) : Ap a c := List.le_trans h1 h2
def ins (x : T) : List T → List T
 | [] => [x]
 | y :: r => if Ap x y then x :: y :: r else y :: ins x r
def wN : List T → List T
 | [] => []
 | x :: r => ins x (wN r)
theorem BW (x : T) : ∀ l, (ins x l).Perm (x :: l)
 | [] => List.Perm.refl _
 | y :: r => by
   simp only [ins]
   split
   ·exact List.Perm.refl _
   ·exact ((BW x r).cons y).trans (List.Perm.swap _ _ _)
theorem kK : ∀ l, (wN l).Perm l
 | [] => List.Perm.refl _
 | x :: r => (BW x _).trans ((kK r).cons x)
theorem BX (x y : T) : ∀ l, ins x (ins y l) = ins y (ins x l)
 | [] => by
   simp only [ins]
   by_cases h1 : Ap x y <;> by_cases h2 : Ap y x <;> simp only [h1, h2, if_true, if_false]
   ·rw [BV h1 h2]
   ·rcases xT x y with h | h
    ·exact absurd h h1
    ·exact absurd h h2
 | z :: r => by
   simp only [ins]
   by_cases hx : Ap x z <;> by_cases hy : Ap y z <;> simp only [hx, hy, if_true, if_false, ins]
   ·by_cases h1 : Ap x y <;> by_cases h2 : Ap y x <;> simp only [h1, h2, if_true, if_false]
    ·rw [BV h1 h2]
    ·rcases xT x y with h | h
     ·exact absurd h h1
     ·exact absurd h h2
   ·have h2 : ¬ Ap y x := fun h => hy (xU h hx)
    simp only [h2, if_false]
   ·have h2 : ¬ Ap x y := fun h => hx (xU h hy)
    simp only [h2, if_false]
   ·rw [BX x y r]
theorem RT {l m : List T} (h : l.Perm m) : wN l = wN m := by
 induction h with
 | nil => rfl
 | cons x _ ih => simp only [wN, ih]
 | swap x y l => simp only [wN]; exact BX _ _ _
 | trans _ _ h1 h2 => rw [h1, h2]
theorem Fe {l m : List T} : wN l = wN m ↔ l.Perm m := ⟨fun h => (kK l).symm.trans (h ▸ kK m), RT⟩
theorem Nq {x : T} {l : List T} : x ∈ wN l ↔ x ∈ l := (kK l).mem_iff
mutual
def wt : T → Nat
 | .mk _ _ l => 1 + gE l
def gE : List T → Nat
 | [] => 0
 | x :: r => wt x + gE r
end
theorem Ff {x : T} : ∀ {l : List T}, x ∈ l → wt x ≤ gE l
 | y :: r, h => by
   simp only [gE]
   rcases List.mem_cons.1 h with rfl | h
   ·omega
   ·have := Ff h; omega
theorem gr (a : T) : 0 < wt a := by cases a; simp only [wt]; omega
theorem cK {a x : T} (h : x ∈ a.l) : wt x < wt a := by
 cases a with
 | mk k n l => have := Ff (l := l) h; simp only [wt]; omega
structure Od where
 pl : Int → Int
 sp : Int → Int
mutual
def norm (O : Od) : T → T
 | .mk k n l => if k = 2 then .mk 2 (O.pl n) (if O.sp (O.pl n) = 3 then wN (BY O l) else BY O l) else .mk 1 n []
def BY (O : Od) : List T → List T
 | [] => []
 | x :: r => norm O x :: BY O r
end
theorem xV (O : Od) : ∀ l, BY O l = l.map (norm O)
 | [] => rfl
 | x :: r => by simp [BY, xV O r]
def Lx (G : T → T → Prop) : List T → List T → Prop
 | [], _ => False
 | _ :: _, [] => True
 | x :: l, y :: m => x = y ∧ Lx G l m ∨ G x y
def side (s : Int) (l : List T) : List T := if s = 2 then l.reverse else l
def Mu (G : T → T → Prop) (l m : List T) : Prop :=
 (∃ x ∈ l, m.count x < l.count x) ∧ ∀ y ∈ m, l.count y < m.count y → ∃ x ∈ l, m.count x < l.count x ∧ G x y
def Fm (sp : Int → Int) (G : T → T → Prop) (a b : T) : Prop :=
 a.k = 2 ∧ ((∃ x ∈ a.l, x = b ∨ G x b) ∨ b.k = 2 ∧ (
  (b.n < a.n ∧ ∀ y ∈ b.l, G a y) ∨
  (b.n = a.n ∧ sp a.n ≠ 3 ∧ (∀ y ∈ b.l, G a y) ∧ Lx G (side (sp a.n) a.l) (side (sp a.n) b.l)) ∨
  (b.n = a.n ∧ sp a.n = 3 ∧ Mu G a.l b.l)))
theorem kL {s : Int} {l : List T} {x : T} : x ∈ side s l ↔ x ∈ l := by unfold side; split <;> simp
theorem BZ {G G' : T → T → Prop} : ∀ {l m : List T}, (∀ x ∈ l, ∀ y ∈ m, (G x y ↔ G' x y)) → (Lx G l m ↔ Lx G' l m)
 | [], _, _ => Iff.rfl
 | _ :: _, [], _ => Iff.rfl
 | x :: l, y :: m, h => by
   simp only [Lx]
   rw [BZ (fun x hx y hy => h x (List.mem_cons_of_mem _ hx) y (List.mem_cons_of_mem _ hy)), h x List.mem_cons_self y List.mem_cons_self]
theorem B0 {sp : Int → Int} {G G' : T → T → Prop} {a b : T} (h1 : ∀ x ∈ a.l, (G x b ↔ G' x b)) (h2 : ∀ y ∈ b.l, (G a y ↔ G' a y)) (h3 : ∀ x ∈ a.l, ∀ y ∈ b.l, (G x y ↔ G' x y)) :
 Fm sp G a b ↔ Fm sp G' a b := by
 have e1 : (∃ x ∈ a.l, x = b ∨ G x b) ↔ (∃ x ∈ a.l, x = b ∨ G' x b) := ⟨fun ⟨x, hx, h⟩ => ⟨x, hx, by rwa [← h1 x hx]⟩, fun ⟨x, hx, h⟩ => ⟨x, hx, by rwa [h1 x hx]⟩⟩
 have e2 : (∀ y ∈ b.l, G a y) ↔ (∀ y ∈ b.l, G' a y) := ⟨fun h y hy => (h2 y hy).1 (h y hy), fun h y hy => (h2 y hy).2 (h y hy)⟩
 have e3 : Lx G (side (sp a.n) a.l) (side (sp a.n) b.l) ↔ Lx G' (side (sp a.n) a.l) (side (sp a.n) b.l) := BZ fun x hx y hy => h3 x (kL.1 hx) y (kL.1 hy)
 have e4 : Mu G a.l b.l ↔ Mu G' a.l b.l := by
  unfold Mu
  refine and_congr Iff.rfl ⟨fun h y hy hc => ?_, fun h y hy hc => ?_⟩ <;> obtain ⟨x, hx, F6, hg⟩ := h y hy hc
  ·exact ⟨x, hx, F6, (h3 x hx y hy).1 hg⟩
  ·exact ⟨x, hx, F6, (h3 x hx y hy).2 hg⟩
 unfold Fm
 rw [e1, e2, e3, e4]
def K7 (sp : Int → Int) : Nat → T → T → Prop
 | 0 => fun _ _ => False
 | f + 1 => Fm sp (K7 sp f)
def Gt (sp : Int → Int) (a b : T) : Prop := K7 sp (wt a + wt b) a b
theorem fO (sp : Int → Int) : ∀ (f g : Nat) (a b : T), wt a + wt b ≤ f → wt a + wt b ≤ g → (K7 sp f a b ↔ K7 sp g a b)
 | 0, _, a, b, h, _ => by have := gr a; omega
 | _ + 1, 0, a, b, _, h => by have := gr a; omega
 | f + 1, g + 1, a, b, h1, h2 => by
   simp only [K7]
   refine B0 (fun x hx => ?_) (fun y hy => ?_) (fun x hx y hy => ?_)
   ·have := cK hx; exact fO sp f g x b (by omega) (by omega)
   ·have := cK hy; exact fO sp f g a y (by omega) (by omega)
   ·have := cK hx; have := cK hy; exact fO sp f g x y (by omega) (by omega)
theorem vh {sp : Int → Int} {a b : T} : Gt sp a b ↔ Fm sp (Gt sp) a b := by
 have e : K7 sp (wt a + wt b) a b ↔ K7 sp (wt a + wt b + 1) a b := fO sp _ _ a b (by omega) (by omega)
 unfold Gt
 rw [e]
 show Fm sp (K7 sp (wt a + wt b)) a b ↔ _
 refine B0 (fun x hx => ?_) (fun y hy => ?_) (fun x hx y hy => ?_)
 ·have := cK hx; exact fO sp _ _ x b (by omega) (by omega)
 ·have := cK hy; exact fO sp _ _ a y (by omega) (by omega)
 ·have := cK hx; have := cK hy; exact fO sp _ _ x y (by omega) (by omega)
section
variable {sp : Int → Int}
theorem xW {a b : T} (h : Gt sp a b) : a.k = 2 := (vh.1 h).1
theorem pf {a b x : T} (ha : a.k = 2) (hx : x ∈ a.l) (h : x = b ∨ Gt sp x b) : Gt sp a b := vh.2 ⟨ha, .inl ⟨x, hx, h⟩⟩
theorem mi {l m : List T} {x : T} (h : m.count x < l.count x) : x ∈ l := List.count_pos_iff.1 (by omega)
theorem qp {a b : T} (h : Gt sp a b) : (∃ x ∈ a.l, x = b ∨ Gt sp x b) ∨ b.k = 2 ∧ (∀ y ∈ b.l, Gt sp a y) ∧ (
 b.n < a.n ∨ (b.n = a.n ∧ sp a.n ≠ 3 ∧ Lx (Gt sp) (side (sp a.n) a.l) (side (sp a.n) b.l)) ∨ (b.n = a.n ∧ sp a.n = 3 ∧ Mu (Gt sp) a.l b.l)) := by
 obtain ⟨ha, h | ⟨hb, h | h | h⟩⟩ := vh.1 h
 ·exact .inl h
 ·exact .inr ⟨hb, h.2, .inl h.1⟩
 ·exact .inr ⟨hb, h.2.2.1, .inr (.inl ⟨h.1, h.2.1, h.2.2.2⟩)⟩
 ·refine .inr ⟨hb, fun y hy => ?_, .inr (.inr h)⟩
  obtain ⟨_, _, _, h2⟩ := h
  by_cases hc : a.l.count y < b.l.count y
  ·obtain ⟨x, hx, _, hg⟩ := h2 y hy hc
   exact pf ha hx (.inr hg)
  ·have : 0 < b.l.count y := List.count_pos_iff.2 hy
   exact pf ha (List.count_pos_iff.1 (by omega)) (.inl rfl)
theorem VF {a b : T} (ha : a.k = 2) (hb : b.k = 2) (h1 : ∀ y ∈ b.l, Gt sp a y) (h2 : b.n < a.n ∨ (b.n = a.n ∧ sp a.n ≠ 3 ∧ Lx (Gt sp) (side (sp a.n) a.l) (side (sp a.n) b.l)) ∨ (b.n = a.n ∧ sp a.n = 3 ∧ Mu (Gt sp) a.l b.l)) : Gt sp a b := by
 refine vh.2 ⟨ha, .inr ⟨hb, ?_⟩⟩
 rcases h2 with h | h | h
 ·exact .inl ⟨h, h1⟩
 ·exact .inr (.inl ⟨h.1, h.2.1, h1, h.2.2⟩)
 ·exact .inr (.inr h)
theorem Nr : ∀ {a b y : T}, Gt sp a b → b.k = 2 → y ∈ b.l → Gt sp a y := by
 intro a
 induction h : wt a using Nat.strongRecOn generalizing a with
 | _ n ih =>
   intro b y wO hb hy
   rcases qp wO with ⟨x, hx, rfl | hg⟩ | ⟨_, h1, _⟩
   ·exact pf (xW wO) hx (.inr (pf hb hy (.inl rfl)))
   ·exact pf (xW wO) hx (.inr (ih _ (by have := cK hx; omega) rfl hg hb hy))
   ·exact h1 y hy
theorem JH {G : T → T → Prop} : ∀ {l : List T}, Lx G l l → ∃ x ∈ l, G x x
 | x :: l, h => by
   rcases h with ⟨_, h⟩ | h
   ·obtain ⟨y, hy, hg⟩ := JH h; exact ⟨y, List.mem_cons_of_mem _ hy, hg⟩
   ·exact ⟨x, List.mem_cons_self, h⟩
theorem zL : ∀ a : T, ¬ Gt sp a a := by
 intro a
 induction h : wt a using Nat.strongRecOn generalizing a with
 | _ n ih =>
   intro hg
   rcases qp hg with ⟨x, hx, rfl | Ns⟩ | ⟨_, _, h1 | ⟨_, _, h1⟩ | ⟨_, _, h1⟩⟩
   ·have := cK hx; omega
   ·exact ih (wt x) (by have := cK hx; omega) x rfl (Nr Ns (xW hg) hx)
   ·omega
   ·obtain ⟨x, hx, Ns⟩ := JH h1
    have hx := kL.1 hx
    exact ih (wt x) (by have := cK hx; omega) x rfl Ns
   ·obtain ⟨⟨x, _, hx⟩, _⟩ := h1; omega
theorem JI {G : T → T → Prop} {S : List T} (irr : ∀ x ∈ S, ¬ G x x) (tr : ∀ x ∈ S, ∀ y ∈ S, ∀ z ∈ S, G x y → G y z → G x z) (P : T → Prop)
 (step : ∀ z ∈ S, (∀ x ∈ S, G x z → P x) → P z) : ∀ z ∈ S, P z := by
 classical
 intro z
 induction h : S.countP (fun w => decide (G w z)) using Nat.strongRecOn generalizing z with
 | _ n ih =>
   intro hz
   refine step z hz fun x hx hg => ih (S.countP fun w => decide (G w x)) ?_ x rfl hx
   subst h
   have key : ∀ (l : List T), (∀ w ∈ l, w ∈ S) → l.countP (fun w => decide (G w x)) ≤ l.countP (fun w => decide (G w z)) ∧ (x ∈ l → l.countP (fun w => decide (G w x)) < l.countP (fun w => decide (G w z))) := by
    intro l
    induction l with
    | nil => intro _; exact ⟨Nat.le_refl _, fun h => by cases h⟩
    | cons w l ihl =>
      intro hl
      obtain ⟨i1, i2⟩ := ihl fun w hw => hl w (List.mem_cons_of_mem _ hw)
      have hw := hl w List.mem_cons_self
      by_cases h1 : G w x
      ·have h2 : G w z := tr w hw x hx z hz h1 hg
       have eo : x ≠ w := fun e => irr x hx (by rw [← e] at h1; exact h1)
       simp only [List.countP_cons, h1, h2, decide_true, if_true]
       refine ⟨by omega, fun hm => ?_⟩
       rcases List.mem_cons.1 hm with e | hm
       ·exact absurd e eo
       ·have := i2 hm; omega
      ·by_cases h2 : G w z
       ·simp only [List.countP_cons, h1, h2, decide_true, decide_false, if_true]
        refine ⟨by simp; omega, fun _ => by simp; omega⟩
       ·have eo : x ≠ w := fun e => h2 (e ▸ hg)
        simp only [List.countP_cons, h1, h2, decide_false]
        refine ⟨by simpa using i1, fun hm => ?_⟩
        rcases List.mem_cons.1 hm with e | hm
        ·exact absurd e eo
        ·simpa using i2 hm
   exact (key S fun _ h => h).2 hx
theorem JJ {G : T → T → Prop} {l m k : List T} (irr : ∀ x ∈ l ++ m ++ k, ¬ G x x) (tr : ∀ x ∈ l ++ m ++ k, ∀ y ∈ l ++ m ++ k, ∀ z ∈ l ++ m ++ k, G x y → G y z → G x z)
 (h1 : Mu G l m) (h2 : Mu G m k) : Mu G l k := by
 have il : ∀ {x}, x ∈ l → x ∈ l ++ m ++ k := fun h => by simp [h]
 have im : ∀ {x}, x ∈ m → x ∈ l ++ m ++ k := fun h => by simp [h]
 have ik : ∀ {x}, x ∈ k → x ∈ l ++ m ++ k := fun h => by simp [h]
 have up : ∀ z ∈ l ++ m ++ k, (l.count z < m.count z ∨ m.count z < k.count z) → ∃ x ∈ l, k.count x < l.count x ∧ G x z := by
  refine JI irr tr _ fun z hz ih hc => ?_
  rcases hc with hc | hc
  ·obtain ⟨x1, sv, Oe, HE⟩ := h1.2 z (mi hc) hc
   by_cases hk : k.count x1 < l.count x1
   ·exact ⟨x1, sv, hk, HE⟩
   ·obtain ⟨x, hx, oq, hg⟩ := ih x1 (il sv) HE (.inr (by omega))
    exact ⟨x, hx, oq, tr x (il hx) x1 (il sv) z hz hg HE⟩
  ·obtain ⟨x1, sv, Oe, HE⟩ := h2.2 z (mi hc) hc
   by_cases hk : l.count x1 < m.count x1
   ·obtain ⟨x, hx, oq, hg⟩ := ih x1 (im sv) HE (.inl hk)
    exact ⟨x, hx, oq, tr x (il hx) x1 (im sv) z hz hg HE⟩
   ·exact ⟨x1, List.count_pos_iff.1 (by omega), by omega, HE⟩
 constructor
 ·obtain ⟨x0, H7, Lj⟩ := h1.1
  by_cases hk : k.count x0 < l.count x0
  ·exact ⟨x0, H7, hk⟩
  ·obtain ⟨x, hx, hc, _⟩ := up x0 (il H7) (.inr (by omega))
   exact ⟨x, hx, hc⟩
 ·intro y hy hc
  refine up y (ik hy) ?_
  by_cases h : l.count y < m.count y
  ·exact .inl h
  ·exact .inr (by omega)
theorem B1 {G : T → T → Prop} : ∀ {l m k : List T}, (∀ x ∈ l, ∀ y ∈ m, ∀ z ∈ k, G x y → G y z → G x z) → Lx G l m → Lx G m k → Lx G l k
 | [], _, _, _, h, _ => h.elim
 | _ :: _, [], _, _, _, h => h.elim
 | _ :: _, _ :: _, [], _, _, _ => trivial
 | x :: l, y :: m, z :: k, tr, h1, h2 => by
   have ih := @B1 G l m k fun x hx y hy z hz => tr x (List.mem_cons_of_mem _ hx) y (List.mem_cons_of_mem _ hy) z (List.mem_cons_of_mem _ hz)
   rcases h1 with ⟨rfl, h1⟩ | h1 <;> rcases h2 with ⟨rfl, h2⟩ | h2
   ·exact .inl ⟨rfl, ih h1 h2⟩
   ·exact .inr h2
   ·exact .inr h1
   ·exact .inr (tr x List.mem_cons_self y List.mem_cons_self z List.mem_cons_self h1 h2)
theorem zM : ∀ (N : Nat) {a b c : T}, wt a ≤ N → wt b ≤ N → wt c ≤ N → Gt sp a b → Gt sp b c → Gt sp a c := by
 intro N
 induction N with
 | zero => intro a b c h; have := gr a; omega
 | succ N ihN =>
 intro a b c
 induction h : wt a + wt b + wt c using Nat.strongRecOn generalizing a b c with
 | _ n ih =>
   intro la lb lc wO OY
   rcases qp wO with ⟨x, hx, rfl | hg⟩ | ⟨hb, h1, h2⟩
   ·exact pf (xW wO) hx (.inr OY)
   ·have := cK hx
    exact pf (xW wO) hx (.inr (ih (wt x + wt b + wt c) (by omega) rfl (by omega) lb lc hg OY))
   rcases qp OY with ⟨y, hy, rfl | hg⟩ | ⟨hc, h3, h4⟩
   ·exact h1 y hy
   ·have := cK hy
    exact ih (wt a + wt y + wt c) (by omega) rfl la (by omega) lc (h1 y hy) hg
   have h5 : ∀ z ∈ c.l, Gt sp a z := fun z hz => by
    have := cK hz
    exact ih (wt a + wt b + wt z) (by omega) rfl la lb (by omega) wO (h3 z hz)
   refine VF (xW wO) hc h5 ?_
   rcases h2 with h2 | ⟨e2, s2, h2⟩ | ⟨e2, s2, h2⟩ <;> rcases h4 with h4 | ⟨e4, s4, h4⟩ | ⟨e4, s4, h4⟩
   ·exact .inl (by omega)
   ·exact .inl (by omega)
   ·exact .inl (by omega)
   ·exact .inl (by omega)
   ·refine .inr (.inl ⟨by omega, s2, ?_⟩)
    rw [e2] at h4
    refine B1 (fun x hx y hy z hz => ?_) h2 h4
    have := cK (kL.1 hx); have := cK (kL.1 hy); have := cK (kL.1 hz)
    exact ihN (by omega) (by omega) (by omega)
   ·rw [e2] at s4; exact absurd s4 s2
   ·exact .inl (by omega)
   ·rw [e2] at s4; exact absurd s2 s4
   ·refine .inr (.inr ⟨by omega, s2, ?_⟩)
    have small : ∀ x ∈ a.l ++ b.l ++ c.l, wt x ≤ N := by
     intro x hx
     simp only [List.mem_append] at hx
     rcases hx with (hx | hx) | hx <;> have := cK hx <;> omega
    exact JJ (fun x _ => zL x) (fun x hx y hy z hz => ihN (small x hx) (small y hy) (small z hz)) h2 h4
theorem gt_trans {a b c : T} : Gt sp a b → Gt sp b c → Gt sp a c := zM (wt a + wt b + wt c) (by omega) (by omega) (by omega)
theorem VG {l m X Y C : List T} (hl : l.Perm (X ++ C)) (hm : m.Perm (Y ++ C)) (h0 : X ≠ []) (h1 : ∀ y ∈ Y, ∃ x ∈ X, Gt sp x y) : Mu (Gt sp) l m := by
 have cl : ∀ z, l.count z = X.count z + C.count z := fun z => by rw [hl.count_eq, List.count_append]
 have cm : ∀ z, m.count z = Y.count z + C.count z := fun z => by rw [hm.count_eq, List.count_append]
 have up : ∀ z ∈ X ++ Y, z ∈ Y → ∃ x ∈ X, Y.count x < X.count x ∧ Gt sp x z := by
  refine JI (G := Gt sp) (fun x _ => zL x) (fun x _ y _ z _ => gt_trans) _ fun z hz ih hy => ?_
  obtain ⟨x1, sv, HE⟩ := h1 z hy
  by_cases hc : Y.count x1 < X.count x1
  ·exact ⟨x1, sv, hc, HE⟩
  ·have : 0 < X.count x1 := List.count_pos_iff.2 sv
   obtain ⟨x, hx, oq, hg⟩ := ih x1 (by simp [sv]) HE (List.count_pos_iff.1 (by omega))
   exact ⟨x, hx, oq, gt_trans hg HE⟩
 have inl : ∀ {x}, x ∈ X → x ∈ l := fun hx => hl.mem_iff.2 (by simp [hx])
 constructor
 ·obtain ⟨x, hx⟩ := List.exists_mem_of_ne_nil X h0
  by_cases hc : Y.count x < X.count x
  ·exact ⟨x, inl hx, by rw [cl, cm]; omega⟩
  ·have : 0 < X.count x := List.count_pos_iff.2 hx
   obtain ⟨x', v9, F6, _⟩ := up x (by simp [hx]) (List.count_pos_iff.1 (by omega))
   exact ⟨x', inl v9, by rw [cl, cm]; omega⟩
 ·intro y hy hc
  rw [cl, cm] at hc
  have hyY : y ∈ Y := List.count_pos_iff.1 (by omega)
  obtain ⟨x, hx, F6, hg⟩ := up y (by simp [hyY]) hyY
  exact ⟨x, inl hx, by rw [cl, cm]; omega, hg⟩
def RU (X Y : List T) : Prop := ∀ z, z ∈ X → z ∉ Y
theorem RV {G : T → T → Prop} {l m X Y C : List T} (hl : l.Perm (X ++ C)) (hm : m.Perm (Y ++ C)) (hd : RU X Y) : Mu G l m ↔ X ≠ [] ∧ ∀ y ∈ Y, ∃ x ∈ X, G x y := by
 have cl : ∀ z, l.count z = X.count z + C.count z := fun z => by rw [hl.count_eq, List.count_append]
 have cm : ∀ z, m.count z = Y.count z + C.count z := fun z => by rw [hm.count_eq, List.count_append]
 have inl : ∀ {x}, x ∈ X → x ∈ l := fun hx => hl.mem_iff.2 (by simp [hx])
 have inm : ∀ {x}, x ∈ Y → x ∈ m := fun hx => hm.mem_iff.2 (by simp [hx])
 have cX : ∀ {z}, m.count z < l.count z ↔ z ∈ X := by
  intro z
  rw [cl, cm]
  constructor
  ·intro h; exact List.count_pos_iff.1 (by omega)
  ·intro h
   have h1 : 0 < X.count z := List.count_pos_iff.2 h
   have h2 : Y.count z = 0 := List.count_eq_zero.2 (hd z h)
   omega
 have cY : ∀ {z}, l.count z < m.count z ↔ z ∈ Y := by
  intro z
  rw [cl, cm]
  constructor
  ·intro h; exact List.count_pos_iff.1 (by omega)
  ·intro h
   have h1 : 0 < Y.count z := List.count_pos_iff.2 h
   have h2 : X.count z = 0 := List.count_eq_zero.2 (fun hx => hd z hx h)
   omega
 constructor
 ·rintro ⟨⟨x, _, hx⟩, h2⟩
  refine ⟨fun e => (by have hm := cX.1 hx; rw [e] at hm; cases hm), fun y hy => ?_⟩
  obtain ⟨x, _, hx, hg⟩ := h2 y (inm hy) (cY.2 hy)
  exact ⟨x, cX.1 hx, hg⟩
 ·rintro ⟨h1, h2⟩
  refine ⟨?_, fun y _ hy => ?_⟩
  ·obtain ⟨x, hx⟩ := List.exists_mem_of_ne_nil X h1
   exact ⟨x, inl hx, cX.2 hx⟩
  ·obtain ⟨x, hx, hg⟩ := h2 y (cY.1 hy)
   exact ⟨x, inl hx, cX.2 hx, hg⟩
theorem wP {l m X Y C : List T} (hl : l.Perm (X ++ C)) (hm : m.Perm (Y ++ C)) (hd : RU X Y) : l.Perm m ↔ X = [] ∧ Y = [] := by
 constructor
 ·intro h
  have hc : ∀ z, X.count z = Y.count z := fun z => by
   have h1 := hl.count_eq z
   have h2 := hm.count_eq z
   have h3 := h.count_eq z
   rw [List.count_append] at h1 h2
   omega
  constructor
  ·cases hX : X with
   | nil => rfl
   | cons x r =>
     have h1 : x ∈ X := by rw [hX]; simp
     have h2 : 0 < Y.count x := by rw [← hc]; exact List.count_pos_iff.2 h1
     exact absurd (List.count_pos_iff.1 h2) (hd x h1)
  ·cases hY : Y with
   | nil => rfl
   | cons x r =>
     have h1 : x ∈ Y := by rw [hY]; simp
     have h2 : 0 < X.count x := by rw [hc]; exact List.count_pos_iff.2 h1
     exact absurd h1 (hd x (List.count_pos_iff.1 h2))
 ·rintro ⟨rfl, rfl⟩
  exact hl.trans hm.symm
theorem B2 (s : Int) (g : T → T) (l : List T) : side s (l.map g) = (side s l).map g := by unfold side; split <;> simp
theorem T.ext {a b : T} (h1 : a.k = b.k) (h2 : a.n = b.n) (h3 : a.l = b.l) : a = b := by
 cases a; cases b; simp only [T.k, T.n, T.l] at h1 h2 h3; rw [h1, h2, h3]
end
end Go.fE
end
section
namespace Go.fE
open Go.aK
def E (O : Od) (a b : T) : Prop := norm O a = norm O b
def R (O : Od) (a b : T) : Prop := Gt O.sp (norm O a) (norm O b)
theorem kmk (k n : Int) (l : List T) : (T.mk k n l).k = k := rfl
section
variable {O : Od}
theorem n8 {a : T} (h : a.k = 2) : (norm O a).k = 2 ∧ (norm O a).n = O.pl a.n ∧ (O.sp (O.pl a.n) = 3 → (norm O a).l = wN (a.l.map (norm O))) ∧ (O.sp (O.pl a.n) ≠ 3 → (norm O a).l = a.l.map (norm O)) := by
 cases a with
 | mk k n l =>
   simp only [T.k] at h
   subst h
   simp only [norm, if_true, T.k, T.n, T.l, xV, true_and]
   exact ⟨fun h => by rw [if_pos h], fun h => by rw [if_neg h]⟩
theorem vi {a : T} (h : a.k ≠ 2) : norm O a = .mk 1 a.n [] := by
 cases a with
 | mk k n l => simp only [kmk] at h; simp only [norm]; rw [if_neg h]; rfl
theorem rH {a : T} : (norm O a).k = 2 ↔ a.k = 2 := by
 by_cases h : a.k = 2
 ·simp [h, (n8 h).1]
 ·rw [vi h, kmk]; simp [h]
theorem qq {a x : T} (h : a.k = 2) : x ∈ (norm O a).l ↔ ∃ y ∈ a.l, norm O y = x := by
 obtain ⟨_, _, h1, h2⟩ := n8 (O := O) h
 by_cases hs : O.sp (O.pl a.n) = 3
 ·rw [h1 hs, Nq, List.mem_map]
 ·rw [h2 hs, List.mem_map]
theorem Nt {G : T → T → Prop} {l m l' m' : List T} (h1 : l.Perm l') (h2 : m.Perm m') : Mu G l m ↔ Mu G l' m' := by
 unfold Mu
 simp only [h1.count_eq, h2.count_eq, h1.mem_iff, h2.mem_iff]
theorem VH {a b : T} : E O a b ↔ (a.k = 2 ∧ b.k = 2 ∧ O.pl a.n = O.pl b.n ∧ (if O.sp (O.pl a.n) = 3 then (a.l.map (norm O)).Perm (b.l.map (norm O)) else a.l.map (norm O) = b.l.map (norm O))) ∨ (a.k ≠ 2 ∧ b.k ≠ 2 ∧ a.n = b.n) := by
 by_cases ha : a.k = 2
 ·by_cases hb : b.k = 2
  ·obtain ⟨ka, na, pa, qa⟩ := n8 (O := O) ha
   obtain ⟨kb, nb, pb, qb⟩ := n8 (O := O) hb
   simp only [ha, hb, true_and, ne_eq, not_true_eq_false, false_and, or_false]
   unfold E
   constructor
   ·intro h
    have hn : O.pl a.n = O.pl b.n := by rw [← na, ← nb, h]
    refine ⟨hn, ?_⟩
    have hl : (norm O a).l = (norm O b).l := by rw [h]
    split
    ·rename_i hs
     rw [pa hs, pb (by rw [← hn]; exact hs)] at hl
     exact Fe.1 hl
    ·rename_i hs
     rw [qa hs, qb (by rw [← hn]; exact hs)] at hl
     exact hl
   ·rintro ⟨hn, hl⟩
    refine T.ext (by rw [ka, kb]) (by rw [na, nb, hn]) ?_
    split at hl
    ·rename_i hs
     rw [pa hs, pb (by rw [← hn]; exact hs)]
     exact Fe.2 hl
    ·rename_i hs
     rw [qa hs, qb (by rw [← hn]; exact hs)]
     exact hl
  ·simp only [ha, hb, ne_eq, not_true_eq_false, false_and, and_false, or_false, iff_false]
   intro h
   have := rH (O := O) (a := a)
   unfold E at h
   rw [h, rH] at this
   exact hb (this.2 ha)
 ·by_cases hb : b.k = 2
  ·simp only [ha, hb, ne_eq, not_true_eq_false, false_and, and_false, or_false, iff_false]
   intro h
   have := rH (O := O) (a := b)
   unfold E at h
   rw [← h, rH] at this
   exact ha (this.2 hb)
  ·simp only [ha, hb, ne_eq, not_false_eq_true, false_and, true_and, false_or]
   unfold E
   rw [vi ha, vi hb]
   simp
theorem qt {a b : T} : R O a b ↔ a.k = 2 ∧ ((∃ x ∈ a.l, E O x b ∨ R O x b) ∨ b.k = 2 ∧ (
 (O.pl b.n < O.pl a.n ∧ ∀ y ∈ b.l, R O a y) ∨
 (O.pl b.n = O.pl a.n ∧ O.sp (O.pl a.n) ≠ 3 ∧ (∀ y ∈ b.l, R O a y) ∧ Lx (Gt O.sp) (side (O.sp (O.pl a.n)) (a.l.map (norm O))) (side (O.sp (O.pl a.n)) (b.l.map (norm O)))) ∨
 (O.pl b.n = O.pl a.n ∧ O.sp (O.pl a.n) = 3 ∧ Mu (Gt O.sp) (a.l.map (norm O)) (b.l.map (norm O))))) := by
 unfold R
 rw [vh]
 unfold Fm
 rw [rH, rH]
 refine and_congr_right fun ha => ?_
 obtain ⟨ka, na, pa, qa⟩ := n8 (O := O) ha
 refine or_congr ?_ (and_congr_right fun hb => ?_)
 ·constructor
  ·rintro ⟨x, hx, h⟩
   obtain ⟨y, hy, rfl⟩ := (qq ha).1 hx
   exact ⟨y, hy, h⟩
  ·rintro ⟨x, hx, h⟩
   exact ⟨_, (qq ha).2 ⟨x, hx, rfl⟩, h⟩
 ·obtain ⟨kb, nb, pb, qb⟩ := n8 (O := O) hb
  have e : (∀ y ∈ (norm O b).l, Gt O.sp (norm O a) y) ↔ ∀ y ∈ b.l, Gt O.sp (norm O a) (norm O y) := by
   constructor
   ·intro h y hy; exact h _ ((qq hb).2 ⟨y, hy, rfl⟩)
   ·intro h y hy; obtain ⟨z, hz, rfl⟩ := (qq hb).1 hy; exact h z hz
  rw [e, na, nb]
  refine or_congr Iff.rfl (or_congr ?_ ?_)
  ·refine and_congr_right fun hn => and_congr_right fun hs => ?_
   rw [qa hs, qb (by rw [hn]; exact hs)]
  ·refine and_congr_right fun hn => and_congr_right fun hs => ?_
   exact Nt (by rw [pa hs]; exact kK _) (by rw [pb (by rw [hn]; exact hs)]; exact kK _)
theorem OZ {a b : T} (h : E O a b) : ¬ R O a b := by unfold R; rw [show norm O a = norm O b from h]; exact zL _
theorem Nu {a b c : T} (h1 : R O a b) (h2 : R O b c) : R O a c := gt_trans h1 h2
theorem RW {a a' b : T} (h : E O a a') : R O a b ↔ R O a' b := by unfold R; rw [show norm O a = norm O a' from h]
theorem Nv {a b b' : T} (h : E O b b') : R O a b ↔ R O a b' := by unfold R; rw [show norm O b = norm O b' from h]
theorem VI {a b x : T} (ha : a.k = 2) (hx : x ∈ a.l) (h : E O x b ∨ R O x b) : R O a b := qt.2 ⟨ha, .inl ⟨x, hx, h⟩⟩
end
inductive xX (p : Int → Prop) : T → Prop
 | mk (k n : Int) (l : List T) (h1 : k = 2 → p n) (h2 : ∀ x ∈ l, xX p x) : xX p (.mk k n l)
theorem xX.op {p : Int → Prop} {a : T} (h : xX p a) (hk : a.k = 2) : p a.n := by cases h with | mk k n l h1 _ => exact h1 hk
theorem xX.mem {p : Int → Prop} {a x : T} (h : xX p a) (hx : x ∈ a.l) : xX p x := by cases h with | mk k n l _ h2 => exact h2 x hx
end Go.fE
end
section
set_option maxRecDepth 100000
namespace Go.aK
open Go Go.Proofs Go.fE
abbrev Nd := T × List Int
def bn : List Int → AV
 | [] => .ah
 | v :: r => .ap 0 (ints (v :: r))
def D4 (p : Nd) : AV := .agg [.int .i64 p.1.k, .int .i64 p.1.n, .ap 0 (cJ p.1.l), bn p.2]
def ey (l : List Nd) : List AV := l.map D4
def zN : AV := .agg [.int .i64 0, .int .i64 0, .ah, .ah]
theorem aD (l : List Int) : (bn l).one = true ∧ (bn l).ab = bn l ∧ (∀ n, (bn l).aY n = true) ∧ (bn l).val = true ∧ (bn l).cells = [bn l] := by
 cases l with
 | nil => exact ⟨rfl, rfl, fun _ => rfl, rfl, rfl⟩
 | cons v r => exact ⟨rfl, rfl, fun n => by rw [bn, cU]; exact bk n _, rfl, rfl⟩
theorem Nw (p : Nd) : iN 4 (D4 p) := by
 obtain ⟨t, ks⟩ := p
 cases ks with
 | nil => exact ⟨rfl, rfl, by simp [D4, bn, AV.cells, dW, bL, cV, iL, cU, E4], rfl⟩
 | cons v r => exact ⟨rfl, rfl, by simp [D4, bn, AV.cells, dW, bL, cV, iL, cU, bk], rfl⟩
theorem zO : iN 4 (bN zN) := ⟨rfl, rfl, rfl, rfl⟩
theorem jA (l : List Nd) : ∀ x ∈ ey l, iN 4 x := by
 intro x hx; obtain ⟨p, _, rfl⟩ := List.mem_map.1 hx; exact Nw p
def aT : List T → Nat → List Int
 | [], _ => []
 | x :: r, n => (n : Int) :: aT r (n + wt x)
mutual
def vj : T → Nat → List Nd
 | .mk k n l, i => (.mk k n l, aT l (i + 1)) :: cQ l (i + 1)
def cQ : List T → Nat → List Nd
 | [], _ => []
 | x :: r, i => vj x i ++ cQ r (i + wt x)
end
mutual
theorem qv : ∀ (t : T) (i : Nat), (vj t i).length = wt t
 | .mk k n l, i => by rw [vj, List.length_cons, gv, wt]; omega
theorem gv : ∀ (l : List T) (i : Nat), (cQ l i).length = gE l
 | [], _ => rfl
 | x :: r, i => by rw [cQ, List.length_append, qv, gv, gE]
end
theorem n9 (t : T) (i : Nat) : vj t i = (t, aT t.l (i + 1)) :: cQ t.l (i + 1) := by cases t; rw [vj]; rfl
theorem B3 (t : T) : wt t = gE t.l + 1 := by cases t; rw [wt]; exact Nat.add_comm _ _
theorem kM : ∀ (l : List T) (x : T) (i : Nat), cQ (l ++ [x]) i = cQ l i ++ vj x (i + gE l)
 | [], x, i => by simp [cQ, gE]
 | y :: r, x, i => by rw [List.cons_append, cQ, cQ, kM r x, List.append_assoc, gE]; congr 3; omega
theorem ij : ∀ (l : List T) (x : T) (i : Nat), aT (l ++ [x]) i = aT l i ++ [((i + gE l : Nat) : Int)]
 | [], x, i => by simp [aT, gE]
 | y :: r, x, i => by rw [List.cons_append, aT, aT, ij r x, gE]; simp; omega
theorem nr {l : List T} {i : Nat} (h : i < l.length) : gE (l.take (i + 1)) = gE (l.take i) + wt (l.getD i default) := by
 have e : ∀ (a : List T) (x : T), gE (a ++ [x]) = gE a + wt x := by
  intro a x; induction a with
  | nil => simp [gE]
  | cons y r ih => rw [List.cons_append, gE, gE, ih]; omega
 rw [List.take_succ_eq_append_getElem h, e]
 simp [h]
theorem de : ∀ (l : List T) (i : Nat), gE (l.take i) ≤ gE l
 | [], i => by simp [gE]
 | x :: r, 0 => by simp [gE]
 | x :: r, i + 1 => by rw [List.take_succ_cons, gE, gE]; have := de r i; omega
theorem cr : ∀ (l : List T) (i : Nat), (aT l i).length = l.length
 | [], _ => rfl
 | x :: r, i => by rw [aT, List.length_cons, cr, List.length_cons]
theorem gZ : ∀ l : List T, l.length ≤ gE l
 | [] => by simp
 | x :: r => by rw [List.length_cons, gE]; have := gZ r; have := gr x; omega
def lR (t : T) : AV := .agg [.int .i64 t.k, .int .i64 t.n, .ap 0 (cJ t.l), .ap 0 []]
theorem qw (t : T) : iN 4 (lR t) := ⟨rfl, rfl, by simp [lR, AV.cells, dW, bL, iL, cU, aj], rfl⟩
theorem bdN (t : T) (φ : AV → Prop) : cB [.int .i64 0, .int .i64 0, .ah, .ah] [(0, 3, t.av)] φ = φ (.agg [.int .i64 t.k, .int .i64 t.n, .ap 0 (cJ t.l), .ah]) := by
 cases t with
 | mk k n l =>
 simp only [cB, gG, T.av, eq_iff_iff]
 constructor
 ·rintro ⟨_, _, _, h⟩; exact h
 ·exact fun h => ⟨rfl, rfl, by decide, h⟩
theorem VJ (t : T) : aS (.agg [.int .i64 t.k, .int .i64 t.n, .ap 0 (cJ t.l), .ah]) = lR t := rfl
theorem RO.aL {z : AV} {base : Nat} {v : AV} {xs : List AV} {G : List aa} (h : RO z base v xs G) : aL 1 v = True := by
 rcases h with ⟨_, rfl⟩ | ⟨id, cap, _, rfl, _⟩ <;> simp [Go.aK.aL]
theorem eM (l : List Int) : (ot l).one = true ∧ (ot l).ab = bn l ∧ (ot l).val = true ∧ (ot l).cells = [ot l] := by
 cases l with
 | nil => exact ⟨rfl, rfl, rfl, rfl⟩
 | cons v r => exact ⟨rfl, rfl, rfl, rfl⟩
def VK (base : Nat) (H : List aa) (xs : List AV) (r : AV) (H' : List aa) : Prop := RO zN base r xs H' ∧ H'.take base = H.take base ∧ H.length ≤ H'.length
theorem qx (a b : List Nd) : ey (a ++ b) = ey a ++ ey b := by simp [ey]
theorem qy (a : List Nd) : (ey a).length = a.length := by simp [ey]
theorem YT : ∀ (N : Nat) (t : T), wt t ≤ N → ∀ (base : Nat) (v : AV) (xs : List AV) (H : List aa), RO zN base v xs H → (∀ x ∈ xs, iN 4 x) → base ≤ H.length → (xs.length + wt t) * 64 ≤ 140737488355328 →
 aq Tryz.prog 132 [t.av, v] H (VK base H (xs ++ ey (vj t xs.length))) := by
 intro N
 induction N with
 | zero => intro t ht; have := gr t; omega
 | succ N ih =>
 intro t ht base v xs H hR fp hbase hb
 have hw := B3 t
 have Xy := gZ t.l
 refine E9.2.calls rfl ?_
 simp only [E9, aI]
 obtain ⟨o1, o2, o3, o4⟩ := hR.one
 simp +contextual only [o3, hR.len, hR.aL, bdN, VJ, sZ, Nat.reduceEqDiff, Nat.reduceAdd, ↓reduceIte, reduceCtorEq]
 refine JC zO hR fp 0 [lR t] (by simp) (by simp [qw]) (by simp; omega) hbase fun v1 G1 RY RZ hj1 s9 => ?_
 obtain ⟨o1', o2', o3', o4'⟩ := RY.one
 simp +contextual only [sZ]
 intro _
 have iE : ∀ i, (xs ++ lR t :: ey (cQ (t.l.take i) (xs.length + 1))).length = xs.length + 1 + gE (t.l.take i) := by intro i; simp [qy, gv]; omega
 have jI : ∀ i, ∀ x ∈ xs ++ lR t :: ey (cQ (t.l.take i) (xs.length + 1)), iN 4 x := by
  intro i x hx
  rcases List.mem_append.1 hx with hx | hx
  ·exact fp x hx
  ·rcases List.mem_cons.1 hx with rfl | hx
   ·exact qw t
   ·exact jA _ x hx
 refine aN t.l.length (fun i (p : AV × List aa) => RO zN base p.1 (xs ++ lR t :: ey (cQ (t.l.take i) (xs.length + 1))) p.2 ∧ p.2.take base = H.take base ∧ H.length ≤ p.2.length)
  (fun i p => [(1, p.1), (5, .int .i64 xs.length), (6, ot (aT (t.l.take i) (xs.length + 1))), (17, .ap 0 (cJ t.l)), (18, .int .i64 t.l.length), (19, .int .i64 i)])
  (fun i p => p.2) (v1, G1) ⟨⟨RY, RZ, s9⟩, aA _ _ _⟩ fun i p hi hI => ?_
 obtain ⟨v, G⟩ := p
 obtain ⟨hR, hG, hl⟩ := hI
 simp only at hR hG hl
 obtain ⟨o1, o2, o3, o4⟩ := hR.one
 have hle := de t.l i
 have EF := cr (t.l.take i) (xs.length + 1)
 have R0 : (t.l.take i).length ≤ t.l.length := by simp; omega
 simp +contextual only [o3, hR.len, hR.aL, iE, vg, (eM _).2.1, kJ, sZ, Nat.reduceEqDiff, Nat.reduceAdd, ↓reduceIte, reduceCtorEq]
 refine ⟨fun a8 => ⟨bY a8, by omega, ?_⟩, fun jG => ?_⟩
 ·have a8 := bY a8
  have YU := nr a8
  have hnext := de t.l (i + 1)
  have e2 : t.l.take (i + 1) = t.l.take i ++ [t.l.getD i default] := by rw [List.take_succ_eq_append_getElem a8]; simp [a8]
  refine af (ih (t.l.getD i default) (by have := cK (ig a8); omega) base v _ G hR (jI i) (by omega) (by rw [iE]; omega)) ?_
  rintro r G' ⟨wQ, dX, wB⟩
  obtain ⟨o1', o2', o3', o4'⟩ := wQ.one
  simp +contextual only [o3', sZ, Nat.reduceEqDiff, ↓reduceIte]
  refine ⟨i + 1, (r, G'), ⟨a8, ?_, dX.trans hG, Nat.le_trans hl wB⟩, by omega, aH ?_ rfl⟩
  ·rw [iE] at wQ
   rw [e2, kM, qx, ← List.cons_append, ← List.append_assoc]
   exact wQ
  ·rw [e2, ij, au i (by omega)]
 ·have mr : i = t.l.length := by have := dl jG; omega
  subst mr
  rw [List.take_length] at hR
  have D5 := iE t.l.length
  have D6 := jI t.l.length
  rw [List.take_length] at D5 D6
  have fT : (xs ++ lR t :: ey (cQ t.l (xs.length + 1))).set xs.length (D4 (t, aT t.l (xs.length + 1))) = xs ++ ey (vj t xs.length) := by
   rw [List.set_append_right _ _ (Nat.le_refl _), Nat.sub_self, List.set_cons_zero, n9]; rfl
  have jf : (xs ++ lR t :: ey (cQ t.l (xs.length + 1))).getD xs.length .any = lR t := by simp
  generalize xs ++ lR t :: ey (cQ t.l (xs.length + 1)) = ys at hR D5 D6 fT jf
  rcases hR with ⟨rfl, _⟩ | ⟨id, cap, bm, rfl, hg, cE, _⟩
  ·simp at D5
   omega
  have xn := (List.getElem?_eq_some_iff.1 hg).1
  obtain ⟨k1, k2, k3, k4, k5⟩ := aD (aT t.l (xs.length + 1))
  simp +contextual only [hg, kq, List.take_length, sZ, Nat.reduceEqDiff, ↓reduceIte, reduceCtorEq]
  refine ⟨by omega, ?_⟩
  refine zG D6 (by omega) (by decide) (y := D4 (t, aT t.l (xs.length + 1))) k1 k4 (by rw [k2]; exact k3 _) (by rw [jf, k2]; rfl) ?_
  simp +contextual only [sZ, Nat.reduceEqDiff, ↓reduceIte, reduceCtorEq]
  rw [fT]
  refine aV (G.length) (by omega) (by rw [ax, if_pos rfl, jy]; simpa using xn) ?_
  rw [ax, if_pos rfl, List.take_of_length_le (by simp)]
  refine ⟨.inr ⟨id, cap, bm, ?_, ?_, ?_, ?_⟩, ?_, by simpa using hl⟩
  ·rw [← fT]; simp
  ·rw [List.getElem?_set_self xn]
  ·rw [← fT]; simpa using cE
  ·rw [n9]; simp [ey]
  ·rw [List.take_set_of_le bm]; exact hG
end Go.aK
end
section
set_option maxRecDepth 100000
namespace Go.aK
open Go Go.Proofs Go.fE
def ns (l : List Nd) : AV := if l = [] then .ah else .ap 0 (ey l)
def eN (ps ss : List Int) : AV := .agg [.ap 0 (ints ps), .ap 0 (ints ss)]
def jB (ps ss : List Int) (l : List Nd) (e g : Nat) : aa := .cells [.ap 0 (ints ps), .ap 0 (ints ss), ns l, .map e, .map g]
theorem bdD (ps ss : List Int) (a b : Nat) (φ : AV → Prop) : cB [.ah, .ah, .ah, .iA, .iA] [(0, 2, .agg [.ap 0 (ints ps), .ap 0 (ints ss)]), (3, 1, .map a), (4, 1, .map b)] φ = φ (.agg [.ap 0 (ints ps), .ap 0 (ints ss), .ah, .map a, .map b]) := by
 simp only [cB, gG, eq_iff_iff]
 constructor
 ·rintro ⟨_, _, _, _, _, _, _, _, _, h⟩; exact h
 ·exact fun h => ⟨rfl, rfl, by simp, rfl, rfl, by simp [ag, AV.cells], rfl, rfl, by simp [ag, AV.cells], h⟩
theorem Nx (a b : AV) (H : List aa) (φ : AV → Prop) : aR (some 2) (.ai (.agg [a, b])) H φ = φ (.agg [a, b]) := by simp [aR, AV.cells]
theorem B4 (id : Nat) (H : List aa) (K : AV → List aa → Prop) : fc 3004 (.ptr id 0) H K = yK 4 id 2 H (K (.ptr id 0)) := rfl
def O0 (H : List aa) (ps ss : List Int) (ts : List T) (r : AV) (H' : List aa) : Prop :=
 r = .tuple [.ptr (H.length + 2) 0, bn (aT ts 0)] ∧ H' = H ++ [.map [], .map [], jB ps ss (cQ ts 0) H.length (H.length + 1)]
theorem ja (l : List T) : (ey (cQ l 0)).length = gE l := by rw [qy, gv]
theorem B5 {l : List Nd} (h : ey l = []) : l = [] := List.map_eq_nil_iff.1 h
theorem JK {C : List aa → Nat → List aa → Prop} {n0 a b m : Nat} {env : Env} {H H' : List aa} {R : AV → List aa → Prop} {x y : AV} (hm : n0 ≤ m) (hC : C H m H') (hx : (get env a).ab = x) (hy : (get env b).ab = y) (bx : x.aY m = true) (xa : y.aY m = true)
 (hR : R (.tuple [x, y]) H') : kE C n0 [.t a, .t b] env H R := by
 subst hx; subst hy
 exact ⟨m, H', hm, hC, _, b8 _, by show aj m [(get env a).ab, (get env b).ab] = true; rw [bL, bL, cV, bx, xa]; rfl, hR⟩
theorem D7 {n0 m : Nat} {G : List aa} (hm : m ≤ G.length) (hb : ∀ (j : Nat) (o : aa), n0 ≤ j → j < m → G[j]? = some o → o = .dead ∨ o.aY (j + 1) = true) : mg n0 G m (G.take m) := by
 refine ⟨by simp, fun j o ho => ?_⟩
 rw [List.getElem?_take] at ho
 split at ho
 ·rename_i hj
  by_cases h0 : n0 ≤ j
  ·rcases hb j o h0 hj ho with h | h
   ·exact .inl h
   ·exact .inr ⟨ho, fun _ => h⟩
  ·exact .inr ⟨ho, fun h => by omega⟩
 ·cases ho
theorem vk (n : Nat) (l : List Nd) : aj n (ey l) = true :=
 (a9 _ _).2 fun x hx => by
   obtain ⟨⟨t, ks⟩, _, rfl⟩ := List.mem_map.1 hx
   cases ks with
   | nil => simp [D4, bn, AV.aY, dW, aj]
   | cons v r => simp [D4, bn, AV.aY, dW, bk, aj]
theorem xY (ps ss : List Int) (l : List Nd) (n : Nat) : (jB ps ss l n (n + 1)).aY (n + 2 + 1) = true := by
 have h : (ns l).aY (n + 2 + 1) = true := by
  unfold ns
  split
  ·rfl
  ·rw [cU]
   exact vk _ _
 simp only [jB, aa.aY, bL, cV, cU, bk, h, IU]
 simp; omega
theorem VL (ps ss : List Int) (ts : List T) (H : List aa) (hb : gE ts * 64 ≤ 140737488355328) : aq Tryz.prog 75 [eN ps ss, .ap 0 (cJ ts)] H (O0 H ps ss ts) := by
 refine Vx.2.DA rfl ?_
 simp only [Vx, aI, eN]
 have Xy := gZ ts
 simp +contextual only [bdD, Nx, sZ, Nat.reduceEqDiff, Nat.reduceAdd, ↓reduceIte, reduceCtorEq]
 refine ⟨by simp; omega, fun _ => ?_⟩
 have e0 : ∀ (l : List aa) (x : aa), (H ++ x :: l)[H.length]? = some x := by simp
 refine lL ts.length (fun i (p : AV × List aa) => RO zN (H.length + 3) p.1 (ey (cQ (ts.take i) 0)) p.2 ∧ H.length + 3 ≤ p.2.length ∧
  p.2.take (H.length + 3) = H ++ [.map [], .map [], .cells [.ap 0 (ints ps), .ap 0 (ints ss), p.1, .map H.length, .map (H.length + 1)]])
  (fun i p => [(6, .ptr (H.length + 2) 0), (7, ot (aT (ts.take i) 0)), (15, .ap 0 (cJ ts)), (16, .int .i64 ts.length), (17, .int .i64 i)])
  (fun i p => p.2) (.ah, _) ⟨⟨.inl ⟨rfl, rfl⟩, by simp, ?_⟩, nY _ _ _⟩ fun i p hi hI => ?_
 ·rw [List.take_of_length_le (by simp)]
 obtain ⟨v, G⟩ := p
 obtain ⟨hR, hl, hG⟩ := hI
 simp only at hR hl hG
 obtain ⟨o1, o2, o3, o4⟩ := hR.one
 have gget : ∀ j, j < H.length + 3 → G[j]? = (H ++ [.map [], .map [], .cells [.ap 0 (ints ps), .ap 0 (ints ss), v, .map H.length, .map (H.length + 1)]])[j]? := by
  intro j hj; rw [← hG, List.getElem?_take, if_pos hj]
 have g2 : G[H.length + 2]? = some (.cells [.ap 0 (ints ps), .ap 0 (ints ss), v, .map H.length, .map (H.length + 1)]) := by rw [gget _ (by omega)]; simp
 have hle := de ts i
 have EF := cr (ts.take i) 0
 have R0 : (ts.take i).length ≤ ts.length := by simp; omega
 simp +contextual only [o3, g2, hR.len, hR.aL, ja, vg, (eM _).2.1, kJ, sZ, Nat.reduceEqDiff, Nat.reduceAdd, Nat.reduceLT, ↓reduceIte, reduceCtorEq]
 refine ⟨fun a8 => ⟨bY a8, by omega, ?_⟩, fun jG => ?_⟩
 ·have a8 := bY a8
  have YU := nr a8
  have hnext := de ts (i + 1)
  have e2 : ts.take (i + 1) = ts.take i ++ [ts.getD i default] := by rw [List.take_succ_eq_append_getElem a8]; simp [a8]
  have hc := YT (wt (ts.getD i default)) (ts.getD i default) (Nat.le_refl _) (H.length + 3) v _ G hR (jA _) hl (by rw [ja]; omega)
  refine af hc ?_
  rintro r G' ⟨wQ, dX, wB⟩
  obtain ⟨o1', o2', o3', o4'⟩ := wQ.one
  have g2' : G'[H.length + 2]? = some (.cells [.ap 0 (ints ps), .ap 0 (ints ss), v, .map H.length, .map (H.length + 1)]) := by
   have : (G'.take (H.length + 3))[H.length + 2]? = (G.take (H.length + 3))[H.length + 2]? := by rw [dX]
   rw [List.getElem?_take, List.getElem?_take, if_pos (by omega), if_pos (by omega)] at this
   rw [this, g2]
  have dR := wQ.aY (Nat.le_refl _)
  simp +contextual only [rB, o1', o2', o3', o4', g2', dR, sZ, Nat.reduceEqDiff, Nat.reduceAdd, Nat.reduceLeDiff, ↓reduceIte]
  refine ⟨by omega, i + 1, (r, _), ⟨a8, ?_, by simp; omega, ?_⟩, by omega, zF ?_ rfl⟩
  ·have h1 := wQ.set (j := H.length + 2) (by omega) (.cells (ag [.ap 0 (ints ps), .ap 0 (ints ss), v, .map H.length, .map (H.length + 1)] 2 [r]))
   rw [ja] at h1
   rw [e2, kM, qx, Nat.zero_add]
   exact h1
  ·rw [List.take_set, dX, hG]
   simp [ag]
  ·rw [e2, ij, au i (by omega), Nat.zero_add]
 ·have mr : i = ts.length := by have := dl jG; omega
  subst mr
  rw [List.take_length] at hR
  have fin : ∀ (G' : List aa), G'.length = G.length → G'.take (H.length + 3) = H ++ [.map [], .map [], jB ps ss (cQ ts 0) H.length (H.length + 1)] → kE (mg H.length) H.length [.t 4, .t 5] [(4, .ptr (H.length + 2) 0), (5, bn (aT ts 0))] G' (O0 H ps ss ts) := by
   intro G' wB dX
   refine JK (m := H.length + 3) (by omega) (D7 (by omega) fun j o h1 h2 ho => .inr ?_) (x := .ptr (H.length + 2) 0) (y := bn (aT ts 0)) rfl ?_ ?_ ((aD _).2.2.1 _) ⟨rfl, dX⟩
   ·have h3 : (G'.take (H.length + 3))[j]? = some o := by rw [List.getElem?_take, if_pos h2]; exact ho
    rw [dX, List.getElem?_append_right h1] at h3
    have : j = H.length ∨ j = H.length + 1 ∨ j = H.length + 2 := by omega
    rcases this with rfl | rfl | rfl
    ·simp at h3; subst h3; rfl
    ·simp at h3; subst h3; rfl
    ·simp at h3; subst h3; exact xY ps ss _ _
   ·have h2 := (aD (aT ts 0)).2.1
    simp [ax, h2]
   ·rw [rv]; simp
  rw [B4]
  unfold yK
  rw [g2]
  rcases hR with ⟨e1, rfl⟩ | ⟨id, cap, bm, rfl, hg, cE, eo⟩
  ·simp +contextual only [List.getElem?_cons_succ, List.getElem?_cons_zero, List.take_length, (eM _).2.1, (aD _).2.1, sZ, Nat.reduceEqDiff, ↓reduceIte, reduceCtorEq]
   refine fin G rfl ?_
   rw [hG, jB, ns, if_pos (B5 e1)]
  ·simp +contextual only [List.getElem?_cons_succ, List.getElem?_cons_zero, List.take_length, (eM _).2.1, (aD _).2.1, sZ, Nat.reduceEqDiff, ↓reduceIte, reduceCtorEq]
   refine uZ (by decide) zO (jA _) (fun x hx => ?_) hg cE ⟨?_, ?_, ?_⟩
   ·obtain ⟨q, _, rfl⟩ := List.mem_map.1 hx; rfl
   ·rw [List.getElem?_set_ne (by omega)]; exact g2
   ·rw [cU]; exact vk _ _
   ·refine fin _ (by simp) ?_
    rw [List.take_set, List.take_set, hG]
    have e1 : ∀ X : List aa, X.length ≤ id → X.set id .dead = X := fun X h => List.set_eq_of_length_le h
    rw [e1 _ (by simp; omega), jB, ns, if_neg (fun e => eo (by rw [e]; rfl))]
    simp
end Go.aK
end
