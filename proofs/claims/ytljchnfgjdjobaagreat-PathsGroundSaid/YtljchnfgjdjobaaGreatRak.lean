/- Part 11 of 18 of the proof. -/
import Derived.Test.YtljchnfgjdjobaaGreatRaj
import Derived.Test.YtljchnfgjdjobaaGreatRag
import Derived.KernelRfl
import Derived.Test.YtljchnfgjdjobaaGreatRai
import Derived.SizedLaws
set_option linter.unusedVariables false
set_option linter.unusedSimpArgs false
set_option linter.defProp false
set_option linter.unusedSectionVars false
section
namespace Go.aK
open Go
structure iW (esz : Nat) (x : AV) : Prop where
 len : x.cells.length = esz
 un : x.cells.map AV.ab = x.cells
 bl : aj 0 x.cells = true
 one : x.cells.all AV.one = true
theorem iW.flat {esz : Nat} : ∀ {xs : List AV}, (∀ x ∈ xs, iW esz x) → (flat xs).length = xs.length * esz ∧ (flat xs).map AV.ab = flat xs ∧ (∀ n, aj n (flat xs) = true) ∧ (Go.aK.flat xs).all AV.one = true
 | [], _ => ⟨by simp [Go.aK.flat], rfl, fun _ => rfl, rfl⟩
 | x :: r, h => by
   obtain ⟨h1, h2, h3, h4⟩ := iW.flat (xs := r) fun y hy => h y (List.mem_cons_of_mem _ hy)
   have hx := h x List.mem_cons_self
   have e : Go.aK.flat (x :: r) = x.cells ++ Go.aK.flat r := rfl
   rw [e]
   refine ⟨by rw [List.length_append, hx.len, h1, List.length_cons, Nat.add_mul]; omega, by rw [List.map_append, hx.un, h2], fun n => ?_, by rw [List.all_append, hx.one, h4]; rfl⟩
   rw [bu]; exact ⟨bF (Nat.zero_le n) _ hx.bl, h3 n⟩
theorem nt (xs ys : List AV) : flat (xs ++ ys) = flat xs ++ flat ys := by simp [flat]
theorem jI {esz : Nat} {z : AV} (hz : iW esz (bO z)) (n : Nat) : ∀ x ∈ List.replicate n (bO z), iW esz x := fun x hx => by rw [List.eq_of_mem_replicate hx]; exact hz
theorem qv {esz : Nat} {z : AV} (hz : iW esz (bO z)) (n : Nat) : (dc z n).length = n * esz := by
 have := (iW.flat (jI hz n)).1
 rwa [List.length_replicate] at this
theorem xS {esz : Nat} {z : AV} (hz : iW esz (bO z)) (n k : Nat) (h : k ≤ n) : (dc z n).drop (k * esz) = dc z (n - k) := by
 have e : dc z n = dc z k ++ dc z (n - k) := by
  unfold dc
  rw [← nt, List.replicate_append_replicate]
  congr 2; omega
 rw [e, List.drop_append_of_le_length (by rw [qv hz]; omega), List.drop_of_length_le (by rw [qv hz]; omega)]
 rfl
def bj (z : AV) (xs : List AV) (cap : Nat) : aa := .cells (flat xs ++ dc z (cap - xs.length))
def RO (z : AV) (base : Nat) (v : AV) (xs : List AV) (G : List aa) : Prop :=
 (xs = [] ∧ v = .ah) ∨ ∃ id cap, base ≤ id ∧ v = .bf id 0 xs.length cap ∧ G[id]? = some (bj z xs cap) ∧ xs.length ≤ cap ∧ xs ≠ []
theorem RO.one {z : AV} {base : Nat} {v : AV} {xs : List AV} {G : List aa} (h : RO z base v xs G) : v.one = true ∧ v.val = true ∧ v.ab = v ∧ v.cells = [v] := by
 rcases h with ⟨_, rfl⟩ | ⟨id, cap, _, rfl, _⟩ <;> exact ⟨rfl, rfl, rfl, rfl⟩
theorem RO.a7 {z : AV} {base : Nat} {v : AV} {xs : List AV} {G : List aa} (h : RO z base v xs G) {n : Nat} (hn : G.length ≤ n) : v.a7 n = true := by
 rcases h with ⟨_, rfl⟩ | ⟨id, cap, _, rfl, c, _⟩
 ·rfl
 ·have := (List.getElem?_eq_some_iff.1 c).1
  rw [jH]; simp; omega
theorem RO.set {z : AV} {base : Nat} {v : AV} {xs : List AV} {G : List aa} (h : RO z base v xs G) {j : Nat} (hj : j < base) (o : aa) : RO z base v xs (G.set j o) := by
 rcases h with h | ⟨id, cap, a, b, c, d⟩
 ·exact .inl h
 ·exact .inr ⟨id, cap, a, b, by rw [List.getElem?_set_ne (by omega)]; exact c, d⟩
theorem RO.len {z : AV} {base : Nat} {v : AV} {xs : List AV} {G : List aa} (h : RO z base v xs G) {H : List aa} (φ : AV → Prop) : eY v H φ = φ (.int .i64 xs.length) := by
 rcases h with ⟨rfl, rfl⟩ | ⟨id, cap, _, rfl, _⟩ <;> rfl
theorem JZ {esz bytes : Nat} {z : AV} (hz : iW esz (bO z)) {base : Nat} {v : AV} {xs : List AV} {G : List aa} (h : RO z base v xs G) (fx : ∀ x ∈ xs, iW esz x) (o : Nat) (ys : List AV) (hy : ys ≠ []) (pE : ∀ x ∈ ys, iW esz x)
 (hb : (xs.length + ys.length) * bytes ≤ 140737488355328) (hG : base ≤ G.length) {K : AV → List aa → Prop}
 (hK : ∀ v' G', RO z base v' (xs ++ ys) G' → G'.take base = G.take base → (∀ j, j < base → G'[j]? = G[j]?) → G.length ≤ G'.length → K v' G') : cJ esz bytes z v (.ap o ys) G K := by
 have jS : ta esz ys := fun y hy => ⟨(pE y hy).len, (pE y hy).one⟩
 obtain ⟨f1, f2, f3, f4⟩ := iW.flat pE
 obtain ⟨g1, g2, g3, g4⟩ := iW.flat fx
 have wm := qv hz
 have kB : ∀ n m, aj n (dc z m) = true := fun n m => (iW.flat (jI hz m)).2.2.1 n
 unfold cJ
 simp only [dI]
 refine ⟨jS, ?_⟩
 rcases h with ⟨rfl, rfl⟩ | ⟨id, cap, bm, rfl, hg, hle, _⟩
 ·refine ⟨by simpa using hb, fun e => absurd e hy, fun _ cap hc _ => ⟨?_, hK _ _ (.inr ⟨G.length, cap, hG, by simp, ?_, by simpa using hc, by simpa using hy⟩) ?_ ?_ (by simp)⟩⟩
  ·rw [f2, bu]; exact ⟨f3 _, kB _ _⟩
  ·rw [f2]; simp [bj]
  ·rw [List.take_append_of_le_length hG]
  ·intro j hj; rw [List.getElem?_append_left (by omega)]
 ·have xx := (List.getElem?_eq_some_iff.1 hg).1
  simp only [hg, bj, List.length_append, g1, wm, Nat.zero_add, List.drop_zero]
  refine ⟨hb, hle, by rw [← Nat.add_mul]; exact Nat.le_of_eq (by congr 1; omega), fun hroom => ⟨by rw [f2]; exact f3 _, ?_⟩, fun jR fZ hc _ => ⟨?_, ?_⟩⟩
  ·rw [f2]
   refine hK _ _ (.inr ⟨id, cap, bm, by simp, ?_, by simpa using hroom, by simp [hy]⟩) ?_ ?_ (by simp)
   ·rw [List.getElem?_set_self xx, bj]
    congr 2
    unfold ag
    rw [f1, List.take_append_of_le_length (by rw [g1]; exact Nat.le_refl _), List.take_of_length_le (by rw [g1]; exact Nat.le_refl _), List.drop_append, List.drop_of_length_le (by rw [g1]; omega), g1,
     show xs.length * esz + ys.length * esz - xs.length * esz = ys.length * esz by omega, xS hz _ _ (by omega), nt, List.nil_append, List.length_append]
    rw [show cap - xs.length - ys.length = cap - (xs.length + ys.length) by omega, List.append_assoc]
   ·rw [List.take_set_of_le (by omega)]
   ·intro j hj; rw [List.getElem?_set_ne (by omega)]
  ·rw [List.take_append_of_le_length (by rw [g1]; exact Nat.le_refl _), List.take_of_length_le (by rw [g1]; exact Nat.le_refl _), g2, f2, bu, bu]; exact ⟨⟨g3 _, f3 _⟩, kB _ _⟩
  ·rw [List.take_append_of_le_length (by rw [g1]; exact Nat.le_refl _), List.take_of_length_le (by rw [g1]; exact Nat.le_refl _), g2, f2, ← nt]
   refine hK _ _ (.inr ⟨G.length, fZ, hG, by simp, ?_, by simpa using hc, by simp [hy]⟩) ?_ ?_ (by simp)
   ·simp [bj]
   ·rw [List.take_append_of_le_length hG]
   ·intro j hj; rw [List.getElem?_append_left (by omega)]
theorem ph {esz : Nat} : ∀ {xs : List AV} (_ : ∀ x ∈ xs, iW esz x) (i : Nat), i < xs.length → (flat xs).drop (i * esz) = (xs.getD i .any).cells ++ flat (xs.drop (i + 1))
 | [], _, i, h => by simp at h
 | x :: r, hx, 0, _ => by simp [flat]
 | x :: r, hx, i + 1, h => by
   have hl := (hx x List.mem_cons_self).len
   have e : flat (x :: r) = x.cells ++ flat r := rfl
   rw [e, show (i + 1) * esz = x.cells.length + i * esz by rw [hl, Nat.add_mul]; omega, List.drop_append, List.getD_cons_succ, List.drop_succ_cons]
   have := ph (xs := r) (fun y hy => hx y (List.mem_cons_of_mem _ hy)) i (by simpa using h)
   simp [this]
theorem xT {esz : Nat} {z : AV} {c : Nat} (hc : c < esz) (v : AV) : ∀ {xs : List AV} (_ : ∀ x ∈ xs, iW esz x) (i : Nat) {y : AV} (rest : List AV), i < xs.length → y.cells = (xs.getD i .any).cells.set c v →
 (flat xs ++ rest).set (i * esz + c) v = flat (xs.set i y) ++ rest
 | [], _, i, _, _, h, _ => by simp at h
 | x :: r, hx, 0, y, rest, _, hy => by
   have hl := (hx x List.mem_cons_self).len
   have e : flat (x :: r) = x.cells ++ flat r := rfl
   rw [List.set_cons_zero, e, show flat (y :: r) = y.cells ++ flat r from rfl, hy, Nat.zero_mul, Nat.zero_add, List.append_assoc, List.set_append_left _ _ (by omega), List.append_assoc]
   rfl
 | x :: r, hx, i + 1, y, rest, h, hy => by
   have hl := (hx x List.mem_cons_self).len
   have e : flat (x :: r) = x.cells ++ flat r := rfl
   have ih := xT (z := z) hc v (xs := r) (fun y hy => hx y (List.mem_cons_of_mem _ hy)) i rest (y := y) (by simpa using h) (by simpa using hy)
   rw [List.set_cons_succ, e, show flat (x :: r.set i y) = x.cells ++ flat (r.set i y) from rfl, List.append_assoc, List.append_assoc, ← ih, show (i + 1) * esz + c = x.cells.length + (i * esz + c) by rw [hl, Nat.add_mul]; omega]
   rw [List.set_append_right _ _ (by omega)]
   congr 2; omega
theorem kC (e id N c i : Nat) (k : IntKind) (φ : AV → Prop) : ay e (.bf id 0 N c) (.int k (i : Int)) φ = (i < N ∧ φ (.ptr id (i * e))) := by
 simp only [ay, Int.toNat_natCast, Nat.zero_add, eq_iff_iff]
 constructor
 ·rintro ⟨_, h⟩; exact h
 ·exact fun h => ⟨by omega, h⟩
theorem nu {α : Type} (l : List α) (i : Nat) (x : α) (h : i < l.length) : ag l i [x] = l.set i x := by
 unfold ag
 rw [List.set_eq_take_append_cons_drop, if_pos h]
 rfl
theorem zS {esz cap id : Nat} {z : AV} {ys : List AV} (pE : ∀ x ∈ ys, iW esz x) {i c : Nat} (hi : i < ys.length) (hc : c < esz) {v y : AV} (h1 : v.one = true) (h2 : v.val = true) (h3 : v.ab.a7 0 = true) (hy : y.cells = (ys.getD i .any).cells.set c v.ab)
 {H : List aa} {K : List aa → Prop} (hK : K (H.set id (bj z (ys.set i y) cap))) : g9 (some (bj z ys cap)) 1 id (i * esz + c) v H K := by
 obtain ⟨g1, g2, g3, g4⟩ := iW.flat pE
 have hle : i * esz + esz ≤ ys.length * esz := by rw [← Nat.succ_mul]; exact Nat.mul_le_mul_right _ hi
 simp only [bj, BU, xp h1, h2, List.length_cons, List.length_nil, List.all_cons, List.all_nil, h1, List.map_cons, List.map_nil]
 refine ⟨trivial, trivial, by rw [List.length_append, g1]; omega, rfl, bF (Nat.zero_le _) [v.ab] (by rw [bM, c8, h3]; rfl), ?_⟩
 rw [nu _ _ _ (by rw [List.length_append, g1]; omega), xT (z := z) hc v.ab pE i _ hi hy]
 have e : (ys.set i y).length = ys.length := by simp
 simp only [bj, e] at hK
 exact hK
theorem FA {esz : Nat} (h0 : 1 < esz) : ∀ {xs : List AV} (_ : ∀ x ∈ xs, iW esz x) (_ : ∀ x ∈ xs, AV.agg x.cells = x) (rest : List AV), chunks esz xs.length (flat xs ++ rest) = xs
 | [], _, _, _ => rfl
 | x :: r, hx, ha, rest => by
   have hl := (hx x List.mem_cons_self)
   have e : flat (x :: r) = x.cells ++ flat r := rfl
   rw [List.length_cons, chunks, if_neg (by omega), e, List.append_assoc, List.take_append_of_le_length (by rw [hl.len]; omega), List.take_of_length_le (by rw [hl.len]; omega), hl.un, ha x List.mem_cons_self]
   rw [show List.drop esz (x.cells ++ (flat r ++ rest)) = flat r ++ rest by rw [← hl.len, List.drop_left], FA h0 (fun y hy => hx y (List.mem_cons_of_mem _ hy)) (fun y hy => ha y (List.mem_cons_of_mem _ hy))]
theorem vj {esz id cap : Nat} (h0 : 1 < esz) {z : AV} (hz : iW esz (bO z)) {xs : List AV} {H : List aa} (hx : ∀ x ∈ xs, iW esz x) (ha : ∀ x ∈ xs, AV.agg x.cells = x) (h : H[id]? = some (bj z xs cap)) (hl : xs.length ≤ cap) {K : AV → List aa → Prop} (hK : K (.ap 0 xs) (H.set id .dead)) : dF esz (.bf id 0 xs.length cap) H K := by
 obtain ⟨g1, g2, g3, g4⟩ := iW.flat hx
 simp only [dF, h, bj, List.drop_zero, FA h0 hx ha]
 refine ⟨by omega, hl, by simp [g1], ?_, hK⟩
 rw [List.all_append, g4, show (dc z (cap - xs.length)).all AV.one = true from (iW.flat (jI hz _)).2.2.2]; rfl
end Go.aK
end
section
set_option maxRecDepth 100000
set_option maxHeartbeats 0
namespace Go.aK
open Go Go.Proofs
noncomputable def V0 := aI Tryz.call58 Tryz.func58 Tryz.ntmps58 [(3,0,2),(3,2,2),(3,3,1)] [(0,[0]),(1,[0,4]),(2,[2]),(3,[2])] []
noncomputable def V1 := aI Tryz.call75 Tryz.func75 Tryz.ntmps75 [(0,0,1),(5,2,1000),(6,0,1),(6,8,1),(7,6,2),(7,9,2),(9,0,6004)] [(0,[1,2]),(1,[1,6]),(2,[1,6,7]),(3,[6,7,15,16,17]),(4,[6,7,15,16,17,18]),(5,[6,7,9,15,16,17]),(6,[6,7,9,15,16,17]),(7,[6,7,15,16,17]),(8,[6,7,15,16,17]),(9,[4,5])] [(7,(.take 1 true (.take 2 true (.take 3 true (.take 4 true (.take 5 true (.take 0 false (.br 6 (.take 7 true (.take 8 true (.br 9 .done .nil))) .nil))))))))]
noncomputable def Pp := aI Tryz.call118 Tryz.func118 Tryz.ntmps118 [(3,0,2),(3,2,2),(3,3,1)] [(0,[0]),(1,[0,4]),(2,[2]),(3,[2])] []
noncomputable def FB := aI Tryz.call132 Tryz.func132 Tryz.ntmps132 [(0,0,1),(2,0,1),(2,4,2),(2,5,1),(6,2,1000),(7,0,1),(7,5,1),(8,1,1),(8,2,2),(8,3,1),(11,0,1),(11,1,1)] [(0,[1,2]),(1,[1,2,5]),(2,[1,2,5]),(3,[1,2,5,6]),(4,[1,5,6,17,18,19]),(5,[1,5,6,17,18,19,20]),(6,[1,5,6,8,17,18,19]),(7,[1,5,6,8,17,18,19]),(8,[1,5,6,17,18,19]),(9,[1,5,6,17,18,19]),(10,[1]),(11,[4])] []
noncomputable def Pq := aI Tryz.call139 Tryz.func139 Tryz.ntmps139 [(10,9,2000),(15,0,1),(15,4,1),(21,0,1),(21,4,1),(23,2,3000)] [(0,[0,1,2]),(1,[0,1,2,9]),(2,[0,1,2,9,10]),(3,[0,1,2,9,10,11,12]),(4,[0,1,9,10,11,12,26,27,28]),(5,[0,1,9,10,11,12,26,27,28,29]),(6,[0,1,9,10,11,12,13,14,26,27,28]),(7,[0,1,9,10,11,12,13,14,26,27,28,33,34,35]),(8,[0,1,9,10,11,12,13,14,26,27,28,33,34,35,36]),(9,[0,1,9,10,11,12,13,14,15,16,26,27,28,33,34,35]),(10,[0,1,9,10,11,12,13,14,15,26,27,28,33,34,35,50]),(11,[0,1,9,10,11,12,13,15,26,27,28]),(12,[0,1,9,10,11,12,13,26,27,28]),(13,[0,1,9,10,11,12,13,14,26,27,28,33,34,35]),(14,[0,1,9,10,11,12,13,26,27,28,63]),(15,[0,1,9,10,11,12,26,27,28]),(16,[0,1,9,10,11,12,26,27,28]),(17,[10,11,12,69,70,71]),(18,[10,11,12,69,70,71,72]),(19,[10,11,12,17,18,69,70,71]),(20,[10,11,12,17,69,70,71,77]),(21,[10,11,12,69,70,71]),(22,[10,11,12,69,70,71]),(23,[6,7,8])] []
noncomputable def Ps := aI Tryz.call149 Tryz.func149 Tryz.ntmps149 [(1,2,1),(3,1,2000),(4,0,3000)] [(0,[0,1]),(1,[0,1]),(2,[0,8]),(3,[0]),(4,[4])] []
noncomputable def Pt := aI Tryz.call185 Tryz.func185 Tryz.ntmps185 [(5,3,2000),(6,19,2000)] [(0,[0,1,2]),(1,[0,1,2,7,8]),(2,[0,1,2,7,38]),(3,[6]),(4,[0,9,10]),(5,[0,9,10,11]),(6,[6])] [(4,(.take 0 true (.take 1 true (.take 2 true (.take 3 true (.take 4 true (.take 5 true (.take 6 true (.take 7 true (.take 8 true (.take 9 true (.take 10 true (.take 11 true (.take 12 true (.take 13 true (.take 14 true (.take 15 true (.take 16 true (.take 17 true (.take 18 true (.take 19 true (.take 20 true (.take 21 true .done))))))))))))))))))))))),(6,(.take 0 true (.take 1 true (.take 2 true (.take 3 true (.take 4 true (.take 5 true (.take 6 true (.take 7 true (.take 8 true (.take 9 true (.take 10 true (.take 11 true (.take 12 true (.take 13 true (.take 14 true (.take 15 true (.take 16 true (.take 17 true (.take 18 true (.br 19 (.take 20 true (.take 21 true (.take 22 true .done))) .nil)))))))))))))))))))))]
noncomputable def Pu := aI Tryz.call199 Tryz.func199 Tryz.ntmps199 [] [(0,[0,2,3]),(1,[0,2,3,9]),(2,[0,2,3]),(3,[0,2,3])] [(3,(.take 0 true (.take 1 true (.take 4 true (.take 5 true (.take 6 true (.take 7 true (.take 8 true (.take 9 true (.take 10 true (.take 11 true (.take 12 true (.take 2 false (.take 3 false (.br 13 (.take 14 true (.br 15 .done .nil)) .nil)))))))))))))))]
end Go.aK
end
section
set_option maxRecDepth 100000
namespace Go.aK
open Go
inductive T where
 | mk (k n : Int) (l : List T)
 deriving Inhabited
mutual
def T.av : T → AV
 | .mk k n l => .agg [.int .i64 k, .int .i64 n, .ap 0 (cG l)]
def cG : List T → List AV
 | [] => []
 | x :: r => x.av :: cG r
end
def T.k : T → Int | .mk k _ _ => k
def T.n : T → Int | .mk _ n _ => n
def T.l : T → List T | .mk _ _ l => l
theorem T.sT (x : T) : x.av = .agg [.int .i64 x.k, .int .i64 x.n, .ap 0 (cG x.l)] := by cases x; rfl
theorem lU : ∀ l, cG l = l.map T.av
 | [] => rfl
 | x :: r => by simp [cG, lU r]
theorem tQ (l : List T) : (cG l).length = l.length := by simp [lU]
theorem B0 (l : List T) (i : Nat) (h : i < l.length) : (cG l).getD i .any = (l.getD i default).av := by
 simp [lU, h]
mutual
theorem T.pi (n : Nat) : ∀ x : T, x.av.a7 n = true
 | .mk k m l => by simp [T.av, AV.a7, aj, eh n l]
theorem eh (n : Nat) : ∀ l : List T, aj n (cG l) = true
 | [] => rfl
 | x :: r => by simp [cG, aj, T.pi n x, eh n r]
end
theorem T.oe (x : T) : AV.agg x.av.cells = x.av := by cases x; rfl
theorem T.vk (x : T) : x.av.val = true := by cases x; rfl
theorem T.pj (x : T) : x.av.cells.all AV.one = true := by cases x; rfl
theorem T.nv (x : T) : x.av.ab = x.av := by cases x; rfl
theorem T.qw (x : T) : x.av.drop = x.av := by cases x; rfl
theorem T.B1 (x : T) : x.av.cells.map AV.ab = x.av.cells := by cases x; rfl
theorem T.Ee (x : T) : x.av.cells.map AV.drop = x.av.cells := by cases x; rfl
theorem T.gE (x : T) : x.av.cells.length = 3 := by cases x; rfl
theorem J0 (o : Nat) (l : List T) : (∀ (own : Nat) (xs : List AV), AV.ap o (cG l) = AV.ap own xs → ∀ z ∈ xs, z.cells.length = 3) = True := by
 simp only [eq_iff_iff, iff_true]
 intro own xs e z hz
 cases e
 rw [lU] at hz
 obtain ⟨y, _, rfl⟩ := List.mem_map.1 hz
 exact y.gE
theorem NP (e o : Nat) (l : List T) (k : IntKind) (i : Nat) (φ : AV → Prop) : ay e (.ap o (cG l)) (.int k (i : Int)) φ = (i < l.length ∧ φ (.ai (l.getD i default).av)) := by
 simp only [ay, tQ, Int.toNat_natCast, eq_iff_iff]
 constructor
 ·rintro ⟨_, h, h2⟩; rw [B0 _ _ h] at h2; exact ⟨h, h2⟩
 ·rintro ⟨h, h2⟩; rw [B0 _ _ h]; exact ⟨by omega, h, h2⟩
theorem B2 (x : T) (H : List aa) (φ : AV → Prop) : aS (some 3) (.ai x.av) H φ = φ x.av := by
 simp [aS, T.gE, T.oe]
theorem Zd (a b c : AV) (x : T) : ag [a, b, c] 0 x.av.cells = x.av.cells := by simp [ag, T.gE]
theorem Ze (n : Nat) (x : T) : aj n x.av.cells = true := cq (x.pi _)
theorem NQ (x : T) (φ : AV → Prop) : dd (some (.cells x.av.cells)) (some 3) 0 φ = φ x.av := by
 have e : List.map AV.drop (List.take 3 (List.drop 0 x.av.cells)) = x.av.cells := by cases x; rfl
 simp only [dd, e, T.oe]
 simp [T.gE]
theorem fk (x : T) (φ : AV → Prop) : ak 0 none (.ai x.av) φ = φ (.ai (.int .i64 x.k)) := by
 cases x; simp [ak, apart, T.av, AV.cells, T.k, AV.one]
theorem fn_ (x : T) (φ : AV → Prop) : ak 1 none (.ai x.av) φ = φ (.ai (.int .i64 x.n)) := by
 cases x; simp [ak, apart, T.av, AV.cells, T.n, AV.one]
theorem fl (x : T) (φ : AV → Prop) : ak 2 none (.ai x.av) φ = φ (.ai (.ap 0 (cG x.l))) := by
 cases x; simp [ak, apart, T.av, AV.cells, T.l, AV.one]
def ints (l : List Int) : List AV := l.map (AV.int .i64)
theorem aw (l : List Int) : (ints l).length = l.length := by simp [ints]
theorem bk (n : Nat) (l : List Int) : aj n (ints l) = true := by
 rw [a9]; intro x hx; obtain ⟨y, _, rfl⟩ := List.mem_map.1 hx; rfl
theorem dA (o : Nat) (l : List Int) : (∀ (own : Nat) (xs : List AV), AV.ap o (ints l) = AV.ap own xs → ∀ z ∈ xs, z.cells.length = 1) = True := by
 simp only [eq_iff_iff, iff_true]
 intro own xs e z hz
 cases e
 obtain ⟨y, _, rfl⟩ := List.mem_map.1 hz
 rfl
theorem J1 (e o : Nat) (l : List Int) (k : IntKind) (i : Nat) (φ : AV → Prop) : ay e (.ap o (ints l)) (.int k (i : Int)) φ = (i < l.length ∧ φ (.ai (.int .i64 (l.getD i 0)))) := by
 simp only [ay, aw, Int.toNat_natCast, eq_iff_iff]
 constructor
 ·rintro ⟨_, h, h2⟩; refine ⟨h, ?_⟩; simpa [ints, h] using h2
 ·rintro ⟨h, h2⟩; refine ⟨by omega, h, ?_⟩; simpa [ints, h] using h2
theorem rI (l : List Int) (n : Int) : ints l ++ [.int .i64 n] = ints (l ++ [n]) := by simp [ints]
theorem ok_int (k : IntKind) (n : Int) : ta 1 [.int k n] = True := by simp [ta, AV.cells, AV.one]
theorem lV (l : List Int) : ta 1 (ints l) = True := by
 simp only [ta, eq_iff_iff, iff_true]
 intro y hy
 obtain ⟨z, _, rfl⟩ := List.mem_map.1 hy
 exact ⟨rfl, rfl⟩
theorem Sf (x : T) : ta 3 [x.av] = True := by
 simp only [ta, eq_iff_iff, iff_true]
 intro y hy
 rw [List.mem_singleton] at hy
 subst hy
 exact ⟨x.gE, x.pj⟩
theorem Si (k : IntKind) (n : Int) : aQ (.int k n) = .int k n := _root_.id rfl
theorem Zf (x : T) : aQ x.av = x.av := by cases x; rfl
theorem bs0 (z : AV) (esz : Nat) (φ : List AV → Prop) : bh (List.replicate 0 z) esz [] φ = φ [] := _root_.id rfl
theorem bs1 (z x : AV) (esz : Nat) (φ : List AV → Prop) : bh (List.replicate 1 (aQ z)) esz [(0, x)] φ = (x.val = true ∧ x.cells.length = esz ∧ φ [aQ x]) := by
 simp [bh]
theorem bs2 (z x y : AV) (esz : Nat) (φ : List AV → Prop) : bh (List.replicate 2 (aQ z)) esz [(0, x), (1, y)] φ = (x.val = true ∧ x.cells.length = esz ∧ y.val = true ∧ y.cells.length = esz ∧ φ [aQ x, aQ y]) := by
 simp [bh, List.replicate]
theorem bs3 (z x y u : AV) (esz : Nat) (φ : List AV → Prop) : bh (List.replicate 3 (aQ z)) esz [(0, x), (1, y), (2, u)] φ = (x.val = true ∧ x.cells.length = esz ∧ y.val = true ∧ y.cells.length = esz ∧ u.val = true ∧ u.cells.length = esz ∧ φ [aQ x, aQ y, aQ u]) := by
 simp [bh, List.replicate]
@[congr] theorem LB {xs : List AV} {esz : Nat} {ps ps' : List (Nat × AV)} {φ : List AV → Prop} (h : gf ps = ps') : bh xs esz ps φ = bh xs esz ps' φ := by subst h; rfl
def Sj := (And.intro (And.intro (And.intro (And.intro @or_true @true_or) (And.intro @true_and @and_true)) (And.intro (And.intro @true_implies @Bool.true_and) (And.intro @Bool.and_true (And.intro @Bool.not_true @Bool.not_false)))) (And.intro (And.intro (And.intro @decide_true @decide_false) (And.intro @Classical.not_not @not_true_eq_false)) (And.intro (And.intro @not_false_eq_true @false_implies) (And.intro @Int.not_le (And.intro @Int.not_lt @Nat.le_refl)))))
def Sk := (And.intro (And.intro (And.intro (And.intro (And.intro @tQ @T.pi) (And.intro @eh @T.vk)) (And.intro (And.intro @T.pj @T.nv) (And.intro @T.qw @T.B1))) (And.intro (And.intro (And.intro @T.Ee @T.gE) (And.intro @T.oe @J0)) (And.intro (And.intro @NP @B2) (And.intro @Zd (And.intro @Ze @NQ))))) (And.intro (And.intro (And.intro (And.intro @fk @fn_) (And.intro @fl @aw)) (And.intro (And.intro @bk @dA) (And.intro @J1 @rI))) (And.intro (And.intro (And.intro @ok_int @Sf) (And.intro @lV @Si)) (And.intro (And.intro @Zf @bs0) (And.intro @bs1 (And.intro @bs2 @bs3))))))
theorem sZa {α : Type} (a b : α) (h : Decidable True) : (if True then a else b) = a := if_pos trivial
def sZ := And.intro Se (And.intro Sk (And.intro Sj (And.intro @sZa (And.intro @ne_eq.{1} (And.intro @forall_const.{1} (And.intro @implies_true.{0} (And.intro @implies_true.{1} (And.intro @List.nil_append.{0} (And.intro @List.append_nil.{0} (And.intro @List.cons_append.{0} (And.intro @List.length_cons.{0} @List.length_nil.{0})))))))))))
end Go.aK
end
section
end
section
set_option maxRecDepth 100000
namespace Go.aK
open Go Go.Proofs
theorem fG {l : List T} {i : Nat} (h : i < l.length) : l.getD i default ∈ l := by simp [h]
theorem T.lt {x y : T} (h : x ∈ y.l) : SizeOf.sizeOf x < SizeOf.sizeOf y := by
 cases y with
 | mk k n l =>
   have := List.sizeOf_lt_of_mem h
   simp only [T.l] at this
   simp only [T.mk.sizeOf_spec]
   omega
end Go.aK
end
section
set_option maxRecDepth 100000
namespace Go.aK
open Go Go.Proofs
end Go.aK
end
section
set_option maxRecDepth 100000
namespace Go.aK
open Go Go.Proofs
mutual
def fS : T → Int → Int × Int → Int × Int
 | .mk _ _ l, d, s => kD l (d + 1) (s.1 + 1, max s.2 d)
def kD : List T → Int → Int × Int → Int × Int
 | [], _, s => s
 | x :: r, d, s => if 2000 < s.1 ∨ 200 < s.2 then s else kD r d (fS x d s)
end
def oN (d : Int) (s : Int × Int) : Prop := 0 ≤ s.1 ∧ s.1 ≤ 2000 ∧ 0 ≤ s.2 ∧ s.2 ≤ 200 ∧ 0 ≤ d ∧ d ≤ 201
def lW (s : Int × Int) : Prop := 0 ≤ s.1 ∧ s.1 ≤ 2001 ∧ 0 ≤ s.2 ∧ s.2 ≤ 201
mutual
theorem vn : ∀ (x : T) (d : Int) (s : Int × Int), oN d s → lW (fS x d s) ∧ (fS x d s).2 ≥ d
 | .mk k n l, d, s, h => by
   simp only [fS]
   obtain ⟨h1, h2, h3, h4, h5, h6⟩ := h
   have := B3 l (d + 1) (s.1 + 1, max s.2 d) (by unfold lW; simp only; omega) (by omega) (by simp only; omega)
   refine ⟨this.1, ?_⟩
   have h := this.2
   simp only at h
   omega
theorem B3 : ∀ (l : List T) (d : Int) (s : Int × Int), lW s → 0 ≤ d → d ≤ s.2 + 1 → lW (kD l d s) ∧ s.2 ≤ (kD l d s).2
 | [], d, s, h, _, _ => by simp [kD, h]
 | x :: r, d, s, h, hd, Gg => by
   simp only [kD]
   split
   ·exact ⟨h, Int.le_refl _⟩
   ·rename_i hn
    obtain ⟨h1, h2, h3, h4⟩ := h
    have hx := vn x d s ⟨h1, by omega, h3, by omega, hd, by omega⟩
    have hr := B3 r d (fS x d s) hx.1 hd (by omega)
    have := rJ x d s
    exact ⟨hr.1, by omega⟩
theorem rJ : ∀ (x : T) (d : Int) (s : Int × Int), s.2 ≤ (fS x d s).2
 | .mk k n l, d, s => by
   simp only [fS]
   have := xU l (d + 1) (s.1 + 1, max s.2 d)
   simp only at this
   omega
theorem xU : ∀ (l : List T) (d : Int) (s : Int × Int), s.2 ≤ (kD l d s).2
 | [], d, s => by simp [kD]
 | x :: r, d, s => by
   simp only [kD]
   split
   ·omega
   ·have h1 := rJ x d s
    have h2 := xU r d (fS x d s)
    omega
end
theorem Hw {l : List T} {i : Nat} {d : Int} {s : Int × Int} (h : i < l.length) : kD (l.drop i) d s = if 2000 < s.1 ∨ 200 < s.2 then s else kD (l.drop (i + 1)) d (fS (l.getD i default) d s) := by
 rw [List.drop_eq_getElem_cons h]
 simp [kD, h]
def eE (s : Int × Int) : List aa := [.cells [.int .i64 s.1, .int .i64 s.2]]
theorem Sl (H : List aa) (x : T) (d : Int) (s : Int × Int) (hs : oN d s) :
 aq Tryz.prog 171 [.ptr H.length 0, x.av, .int .i64 d] (H ++ eE s) fun r H' => r = .tuple [] ∧ H' = H ++ eE (fS x d s) := by
 have ih : ∀ y ∈ x.l, ∀ (d : Int) (s : Int × Int), oN d s → aq Tryz.prog 171 [.ptr H.length 0, y.av, .int .i64 d] (H ++ eE s) fun r H' => r = .tuple [] ∧ H' = H ++ eE (fS y d s) :=
  fun y hy d s hs => Sl H y d s hs
 have e : fS x d s = kD x.l (d + 1) (s.1 + 1, max s.2 d) := by cases x; simp only [fS, T.l]
 obtain ⟨h1, h2, h3, h4, h5, h6⟩ := hs
 have w1 : IntKind.i64.wrap (s.1 + 1) = s.1 + 1 := ee _ (by omega)
 have w2 : IntKind.i64.wrap (d + 1) = d + 1 := ee _ (by omega)
 refine Mm.2.calls rfl ?_
 simp only [Mm, aI]
 simp only [w1, eE, sZ, Nat.reduceEqDiff, Nat.reduceAdd, Nat.reduceLT, Nat.reduceLeDiff, ↓reduceIte, reduceCtorEq]
 intro hl
 have Ii : lW (s.1 + 1, max s.2 d) := by unfold lW; simp only; omega
 have YO : d ≤ max s.2 d := by omega
 generalize max s.2 d = m at *
 refine aM x.l.length (fun i (t : Int × Int) => lW t ∧ d ≤ t.2 ∧ kD (x.l.drop i) (d + 1) t = fS x d s)
  (fun i t => [(0, .ptr H.length 0), (2, .int .i64 d), (25, .ap 0 (cG x.l)), (26, .int .i64 x.l.length), (27, .int .i64 i)]) (fun i t => H ++ eE t) (s.1 + 1, m) ⟨⟨Ii, YO, by rw [e]; rfl⟩, aA _ _ _⟩ fun i t hi hI => ?_
 obtain ⟨⟨k1, k2, k3, k4⟩, k5, hI⟩ := hI
 simp only [w2, eE, sZ, Nat.reduceEqDiff, Nat.reduceAdd, Nat.reduceLT, ↓reduceIte, reduceCtorEq]
 refine ⟨fun aW => ⟨bT aW, ?_⟩, fun ji => ?_⟩
 ·have aW := bT aW
  rw [Hw aW] at hI
  refine ⟨fun Zg => ⟨fun X1 => ?_, fun X1 => ?_⟩, fun Zg => ?_⟩
  ·rw [if_pos (.inr X1)] at hI; rw [← hI]; exact qt (by simp [eE]) rfl
  ·rw [if_neg (by omega)] at hI
   have ho : oN (d + 1) t := ⟨k1, by omega, k3, by omega, by omega, by omega⟩
   have hx := vn (x.l.getD i default) (d + 1) t ho
   refine af (ih _ (fG aW) (d + 1) t ho) ?_
   rintro r H' ⟨rfl, rfl⟩
   simp only [eE, sZ, Nat.reduceEqDiff, ↓reduceIte, reduceCtorEq]
   exact ⟨i + 1, fS (x.l.getD i default) (d + 1) t, ⟨aW, hx.1, by omega, hI⟩, by omega, aF (by rw [au i (by omega)]) rfl⟩
  ·rw [if_pos (.inl Zg)] at hI; rw [← hI]; exact qt (by simp [eE]) rfl
 ·rw [List.drop_of_length_le (df ji)] at hI
  rw [← hI]
  exact qt (by simp [eE]) rfl
termination_by SizeOf.sizeOf x
decreasing_by exact T.lt hy
def sU (s : Int × Int) : Bool := decide (2000 < s.1) || decide (200 < s.2)
theorem V2 (H : List aa) (s : Int × Int) : aq Tryz.prog 172 [.ptr H.length 0] (H ++ eE s) fun r H' => r = .bool (sU s) ∧ H' = H ++ eE s := by
 refine Mn.2.calls rfl ?_
 simp only [Mn, aI]
 simp only [eE, sZ, Nat.reduceEqDiff, Nat.reduceAdd, Nat.reduceLT, ↓reduceIte, reduceCtorEq]
 refine ⟨fun h => ?_, fun h => ?_⟩
 ·exact Sc (by simp [eE]) rfl (by simp [sU, Int.not_lt.2 h]) rfl
 ·exact Sc (by simp [eE]) rfl (by simp [sU, h]) rfl
def rK (p : T → Bool) : List T → Int → Int
 | [], _ => -1
 | x :: r, k => if p x = true then k else rK p r (k + 1)
theorem vq (p : T → Bool) : ∀ (l : List T) (k : Int), 0 ≤ k → (decide (0 ≤ rK p l k) = l.any p)
 | [], k, _ => by simp [rK]
 | x :: r, k, h => by
   simp only [rK, List.any_cons]
   split
   ·rename_i hp; simp [hp, h]
   ·rename_i hp; simp [hp, vq p r (k + 1) (by omega)]
theorem xV {p : T → Bool} {l : List T} {i : Nat} {k : Int} (h : i < l.length) : rK p (l.drop i) k = if p (l.getD i default) = true then k else rK p (l.drop (i + 1)) (k + 1) := by
 rw [List.drop_eq_getElem_cons h]
 simp [rK, h]
theorem Zh (g : Nat) (p : T → Bool) (l : List T) (hf : ∀ x ∈ l, Pure Tryz.prog g [x.av] (.bool (p x))) :
 Pure Tryz.prog 114 [.ap 0 (cG l), .fn (.func g) [] []] (.int .i64 (rK p l 0)) := by
 refine fun H => Bv.2.calls rfl ?_
 simp only [Bv, aI]
 simp only [sZ, Nat.reduceEqDiff, Nat.reduceAdd, ↓reduceIte, reduceCtorEq]
 intro hl
 refine aE l.length (fun i => rK p (l.drop i) i = rK p l 0) (fun i => [(0, .ap 0 (cG l)), (1, .fn (.func g) [] []), (7, .int .i64 l.length), (8, .int .i64 i)]) (fun _ => H) ⟨rfl, aA _ _ _⟩ fun i hi hI => ?_
 simp only [sZ, Nat.reduceEqDiff, Nat.reduceAdd, ↓reduceIte, reduceCtorEq]
 refine ⟨fun aW => ?_, fun ji => ?_⟩
 ·have aW := bT aW
  rw [xV aW] at hI
  refine ⟨aW, ae (hf _ (fG aW)) ?_⟩
  simp only [sZ, Nat.reduceEqDiff, ↓reduceIte, reduceCtorEq]
  refine tN (fun hb => ?_) (fun hb => ?_) <;> simp only [sZ, Nat.reduceEqDiff, ↓reduceIte, reduceCtorEq]
  ·rw [if_pos hb] at hI
   exact aY rfl (by rw [← hI])
  ·rw [if_neg (by rw [hb]; simp)] at hI
   exact ⟨i + 1, ⟨aW, hI⟩, by omega, aF (by rw [au i (by omega)]) rfl⟩
 ·rw [List.drop_of_length_le (df ji)] at hI
  exact aY rfl (by rw [← hI]; rfl)
theorem c53 (g : Nat) (p : T → Bool) (l : List T) (hf : ∀ x ∈ l, Pure Tryz.prog g [x.av] (.bool (p x))) :
 Pure Tryz.prog 53 [.ap 0 (cG l), .fn (.func g) [] []] (.bool (l.any p)) := by
 refine fun H => OU.2.calls rfl ?_
 simp only [OU, aI]
 simp only [sZ, Nat.reduceEqDiff, Nat.reduceAdd, ↓reduceIte, reduceCtorEq]
 refine ae (Zh g p l hf) ?_
 simp only [sZ, ↓reduceIte, reduceCtorEq]
 exact aY rfl (by rw [vq p l 0 (by omega)])
mutual
def T.shaped : T → Bool
 | .mk k n l => !(decide (n < 0) || (decide (k = 1) && decide (0 < l.length)) || (decide (k ≠ 1) && decide (k ≠ 2)) || decide (8 < l.length)) && dq l
def dq : List T → Bool
 | [] => true
 | x :: r => x.shaped && dq r
end
theorem j5 : ∀ l, dq l = l.all T.shaped
 | [] => rfl
 | x :: r => by simp only [dq, List.all_cons, j5 r]
theorem B4 (l : List T) : (!(l.any fun x => !x.shaped)) = dq l := by
 rw [j5]
 induction l with
 | nil => rfl
 | cons x r ih => simp only [List.any_cons, List.all_cons, Bool.not_or, Bool.not_not, ih]
theorem T.dR (x : T) : x.shaped = (!(decide (x.n < 0) || (decide (x.k = 1) && decide (0 < x.l.length)) || (decide (x.k ≠ 1) && decide (x.k ≠ 2)) || decide (8 < x.l.length)) && dq x.l) := by
 cases x; simp only [T.shaped, T.k, T.n, T.l]; rfl
theorem zU {l : List T} {i : Nat} (h : i < l.length) : dq (l.drop i) = ((l.getD i default).shaped && dq (l.drop (i + 1))) := by
 rw [List.drop_eq_getElem_cons h]
 simp [dq, h]
theorem T.Hy {x : T} (hh : ¬ (x.n < 0 ∨ (x.k = 1 ∧ 0 < x.l.length) ∨ (x.k ≠ 1 ∧ x.k ≠ 2) ∨ 8 < x.l.length)) : x.shaped = dq x.l := by
 rw [x.dR]
 have h1 : decide (x.n < 0) = false := Bool.eq_false_iff.2 (by simp only [ne_eq, decide_eq_true_eq]; omega)
 have h2 : (decide (x.k = 1) && decide (0 < x.l.length)) = false := Bool.eq_false_iff.2 (by simp only [ne_eq, Bool.and_eq_true, decide_eq_true_eq]; omega)
 have h3 : (decide (x.k ≠ 1) && decide (x.k ≠ 2)) = false := Bool.eq_false_iff.2 (by simp only [ne_eq, Bool.and_eq_true, decide_eq_true_eq]; omega)
 have h4 : decide (8 < x.l.length) = false := Bool.eq_false_iff.2 (by simp only [ne_eq, decide_eq_true_eq]; omega)
 rw [h1, h2, h3, h4]; rfl
theorem Zi (x : T) (h : Pure Tryz.prog 173 [x.av] (.bool x.shaped)) : Pure Tryz.prog 211 [x.av] (.bool (!x.shaped)) := by
 refine fun H => Mz.2.calls rfl ?_
 simp only [Mz, aI]
 simp only [sZ, Nat.reduceEqDiff, Nat.reduceAdd, ↓reduceIte]
 refine ae h ?_
 simp only [sZ, ↓reduceIte, reduceCtorEq]
 exact aY rfl rfl
theorem V3 (x : T) : Pure Tryz.prog 173 [x.av] (.bool x.shaped) := by
 have ih : ∀ y ∈ x.l, Pure Tryz.prog 211 [y.av] (.bool (!y.shaped)) := fun y hy => Zi y (V3 y)
 refine fun H => Mo.2.calls rfl ?_
 simp only [Mo, aI]
 simp +contextual only [sZ, Nat.reduceEqDiff, Nat.reduceAdd, ↓reduceIte, reduceCtorEq]
 have fin : ∀ (H' : List aa), H' = H → (x.n < 0 ∨ (x.k = 1 ∧ 0 < x.l.length) ∨ (x.k ≠ 1 ∧ x.k ≠ 2) ∨ 8 < x.l.length) → bV H.length [RX.t 2] [(2, AV.bool false)] H' fun r H' => r = AV.bool x.shaped ∧ H' = H := by
  rintro H' rfl hh
  refine aY rfl ?_
  rw [x.dR]
  rcases hh with h | h | h | h <;> simp [h]
 have go : ¬ (x.n < 0 ∨ (x.k = 1 ∧ 0 < x.l.length) ∨ (x.k ≠ 1 ∧ x.k ≠ 2) ∨ 8 < x.l.length) → x.shaped = dq x.l := by
  intro hh
  rw [x.dR]
  have h1 : decide (x.n < 0) = false := Bool.eq_false_iff.2 (by simp only [ne_eq, decide_eq_true_eq]; omega)
  have h2 : (decide (x.k = 1) && decide (0 < x.l.length)) = false := Bool.eq_false_iff.2 (by simp only [ne_eq, Bool.and_eq_true, decide_eq_true_eq]; omega)
  have h3 : (decide (x.k ≠ 1) && decide (x.k ≠ 2)) = false := Bool.eq_false_iff.2 (by simp only [ne_eq, Bool.and_eq_true, decide_eq_true_eq]; omega)
  have h4 : decide (8 < x.l.length) = false := Bool.eq_false_iff.2 (by simp only [ne_eq, decide_eq_true_eq]; omega)
  rw [h1, h2, h3, h4]; rfl
 refine ⟨fun h => fin _ rfl (.inl h), fun h => ⟨fun h1 hl => ⟨fun h2 => fin _ rfl (by omega), fun h2 => ⟨fun h3 => fin _ rfl (by omega), fun h3 => ae (c53 211 _ _ ih) ?_⟩⟩,
  fun h1 => ⟨fun h2 => fin _ rfl (by omega), fun h2 hl => ⟨fun h3 => fin _ rfl (by omega), fun h3 => ae (c53 211 _ _ ih) ?_⟩⟩⟩⟩ <;>
 ·simp only [sZ, ↓reduceIte, reduceCtorEq]
  exact aY rfl (by rw [go (by omega), B4])
termination_by SizeOf.sizeOf x
decreasing_by exact T.lt hy
def T.tree (x : T) : Bool := !sU (fS x 1 (0, 0)) && x.shaped
theorem V4 (x : T) : Pure Tryz.prog 108 [x.av] (.bool x.tree) := by
 refine fun H => Mh.2.calls rfl ?_
 simp only [Mh, aI]
 simp only [sZ, Nat.reduceEqDiff, Nat.reduceAdd, ↓reduceIte, reduceCtorEq]
 refine af (Sl H x 1 (0, 0) (by unfold oN; simp)) ?_
 rintro r H' ⟨rfl, rfl⟩
 simp only [sZ, Nat.reduceEqDiff, Nat.reduceAdd, ↓reduceIte]
 refine af (V2 H (fS x 1 (0, 0))) ?_
 rintro r H' ⟨rfl, rfl⟩
 cases hb : sU (fS x 1 (0, 0)) <;> simp +contextual only [sZ, Nat.reduceEqDiff, Nat.reduceAdd, ↓reduceIte, reduceCtorEq]
 ·refine ae (V3 x) ?_
  simp only [sZ, Nat.reduceEqDiff, ↓reduceIte, reduceCtorEq]
  exact JX rfl (by simp [T.tree, hb])
 ·exact JX rfl (by simp [T.tree, hb])
mutual
def gF : T → Int → Int → Int × Bool
 | .mk _ _ l, left, deep => if left - 1 < 0 ∨ 200 < deep then (left - 1, false) else lX l (left - 1) (deep + 1)
def lX : List T → Int → Int → Int × Bool
 | [], left, _ => (left, true)
 | x :: r, left, deep => if (gF x left deep).2 = true then lX r (gF x left deep).1 deep else ((gF x left deep).1, false)
end
mutual
theorem zV : ∀ (x : T) (left deep : Int), (gF x left deep).1 ≤ left ∧ (0 ≤ left → -1 ≤ (gF x left deep).1 ∧ ((gF x left deep).2 = true → 0 ≤ (gF x left deep).1))
 | .mk k n l, left, deep => by
   simp only [gF]
   split
   ·simp; omega
   ·rename_i hn
    have := FC l (left - 1) (deep + 1)
    exact ⟨by omega, fun _ => this.2 (by omega)⟩
theorem FC : ∀ (l : List T) (left deep : Int), (lX l left deep).1 ≤ left ∧ (0 ≤ left → -1 ≤ (lX l left deep).1 ∧ ((lX l left deep).2 = true → 0 ≤ (lX l left deep).1))
 | [], left, deep => by simp [lX]; omega
 | x :: r, left, deep => by
   have h1 := zV x left deep
   simp only [lX]
   split
   ·rename_i hb
    have h2 := FC r (gF x left deep).1 deep
    exact ⟨by omega, fun h0 => h2.2 ((h1.2 h0).2 hb)⟩
   ·exact ⟨h1.1, fun h0 => ⟨(h1.2 h0).1, fun e => by cases e⟩⟩
end
theorem Hz {l : List T} {i : Nat} {left d : Int} (h : i < l.length) : lX (l.drop i) left d = if (gF (l.getD i default) left d).2 = true then lX (l.drop (i + 1)) (gF (l.getD i default) left d).1 d else ((gF (l.getD i default) left d).1, false) := by
 rw [List.drop_eq_getElem_cons h]
 simp [lX, h]
theorem V5 (x : T) (left deep : Int) (h0 : 0 ≤ left) (h1 : left ≤ 100000) (h2 : 0 ≤ deep) (h3 : deep ≤ 201) :
 Pure Tryz.prog 214 [x.av, .int .i64 left, .int .i64 deep] (.tuple [.int .i64 (gF x left deep).1, .bool (gF x left deep).2]) := by
 have ih : ∀ y ∈ x.l, ∀ (left deep : Int), 0 ≤ left → left ≤ 100000 → 0 ≤ deep → deep ≤ 201 →
  Pure Tryz.prog 214 [y.av, .int .i64 left, .int .i64 deep] (.tuple [.int .i64 (gF y left deep).1, .bool (gF y left deep).2]) := fun y hy left deep h0 h1 h2 h3 => V5 y left deep h0 h1 h2 h3
 have e : gF x left deep = if left - 1 < 0 ∨ 200 < deep then (left - 1, false) else lX x.l (left - 1) (deep + 1) := by cases x; simp only [gF, T.l]
 have w1 : IntKind.i64.wrap (left - 1) = left - 1 := ee _ (by omega)
 have w2 : IntKind.i64.wrap (deep + 1) = deep + 1 := ee _ (by omega)
 refine fun H => Vm.2.calls rfl ?_
 simp only [Vm, aI]
 simp +contextual only [w1, sZ, Nat.reduceEqDiff, Nat.reduceAdd, ↓reduceIte, reduceCtorEq]
 refine ⟨fun h4 => ⟨fun h5 => BX (by decide) rfl rfl (by rw [e, if_pos (.inr h5)]; rfl) (by rw [e, if_pos (.inr h5)]; rfl), fun h5 => ?_⟩, fun h4 => BX (by decide) rfl rfl (by rw [e, if_pos (.inl h4)]; rfl) (by rw [e, if_pos (.inl h4)]; rfl)⟩
 have e2 : gF x left deep = lX x.l (left - 1) (deep + 1) := by rw [e, if_neg (by omega)]
 refine aM x.l.length (fun i (s : Int) => 0 ≤ s ∧ s ≤ 100000 ∧ lX (x.l.drop i) s (deep + 1) = gF x left deep)
  (fun i s => [(1, .int .i64 s), (2, .int .i64 deep), (3, x.av.ai), (8, .int .i64 i)]) (fun i s => H) (left - 1) ⟨⟨by omega, by omega, by rw [e2]; rfl⟩, aA _ _ _⟩ fun i s hi hI => ?_
 obtain ⟨k0, k1, hI⟩ := hI
 simp +contextual only [w2, sZ, Nat.reduceEqDiff, Nat.reduceAdd, ↓reduceIte, reduceCtorEq]
 intro hl
 refine ⟨fun aW => ⟨bT aW, ?_⟩, fun ji => ?_⟩
 ·have aW := bT aW
  rw [Hz aW] at hI
  have hle := zV (x.l.getD i default) s (deep + 1)
  refine ae (ih _ (fG aW) s (deep + 1) k0 k1 (by omega) (by omega)) ?_
  simp +contextual only [sZ, Nat.reduceEqDiff, Nat.reduceAdd, Nat.reduceLT, ↓reduceIte]
  refine tN (fun hb => ?_) (fun hb => ?_) <;> simp +contextual only [sZ, Nat.reduceEqDiff, ↓reduceIte, reduceCtorEq]
  ·rw [if_pos hb] at hI
   exact ⟨i + 1, _, ⟨aW, (hle.2 k0).2 hb, by omega, hI⟩, by omega, aF (by rw [au i (by omega)]) rfl⟩
  ·rw [if_neg (by rw [hb]; simp)] at hI
   exact BX (by decide) rfl rfl (by rw [← hI]; rfl) (by rw [← hI]; rfl)
 ·rw [List.drop_of_length_le (df ji)] at hI
  exact BX (by decide) rfl rfl (by rw [← hI]; rfl) (by rw [← hI]; rfl)
termination_by SizeOf.sizeOf x
decreasing_by exact T.lt hy
theorem V6 (x : T) : Pure Tryz.prog 215 [x.av] (.bool x.shaped) := by
 have ih : ∀ y ∈ x.l, Pure Tryz.prog 215 [y.av] (.bool y.shaped) := fun y hy => V6 y
 refine fun H => Vn.2.calls rfl ?_
 simp only [Vn, aI]
 simp +contextual only [sZ, Nat.reduceEqDiff, Nat.reduceAdd, ↓reduceIte, reduceCtorEq, Int.reduceEq]
 have fin : ∀ (H' : List aa), H' = H → (x.n < 0 ∨ (x.k = 1 ∧ 0 < x.l.length) ∨ (x.k ≠ 1 ∧ x.k ≠ 2) ∨ 8 < x.l.length) → bV H.length [RX.t 2] [(2, AV.bool false)] H' fun r H' => r = AV.bool x.shaped ∧ H' = H := by
  rintro H' rfl hh
  refine aY rfl ?_
  rw [x.dR]
  rcases hh with h | h | h | h <;> simp [h]
 refine ⟨fun h => ⟨fun h1 => ⟨fun h2 hl => ⟨fun h3 => fin _ rfl (by omega), fun h3 => ?_⟩, fun h2 => fin _ rfl (by omega)⟩, fun h1 hl => ⟨fun h2 => ⟨fun h3 => fin _ rfl (by omega), fun h3 => ?_⟩, fun h2 => fin _ rfl (by omega)⟩⟩, fun h => fin _ rfl (by omega)⟩
 all_goals
  have go : x.shaped = dq x.l := T.Hy (by omega)
  refine aE x.l.length (fun i => dq (x.l.drop i) = x.shaped) (fun i => [(1, x.av.ai), (3, .int .i64 i)]) (fun i => H) ⟨by rw [go]; rfl, aA _ _ _⟩ fun i hi hI => ?_
  simp +contextual only [sZ, Nat.reduceEqDiff, Nat.reduceAdd, ↓reduceIte, reduceCtorEq]
  intro _
  refine ⟨fun aW => ⟨bT aW, ?_⟩, fun ji => ?_⟩
  ·have aW := bT aW
   rw [zU aW] at hI
   refine ae (ih _ (fG aW)) ?_
   simp +contextual only [sZ, Nat.reduceEqDiff, ↓reduceIte]
   refine tN (fun hb => ?_) (fun hb => ?_) <;> simp +contextual only [sZ, Nat.reduceEqDiff, ↓reduceIte, reduceCtorEq]
   ·exact ⟨i + 1, ⟨aW, by rw [hb] at hI; simpa using hI⟩, by omega, aF (by rw [au i (by omega)]) rfl⟩
   ·exact aY rfl (by rw [← hI, hb]; rfl)
  ·rw [List.drop_of_length_le (df ji)] at hI
   exact aY rfl (by rw [← hI]; rfl)
termination_by SizeOf.sizeOf x
decreasing_by exact T.lt hy
theorem Zj (x : T) : Pure Tryz.prog 175 [x.av] (.bool ((gF x 2000 1).2 && x.shaped)) := by
 refine fun H => U1.2.calls rfl ?_
 simp only [U1, aI]
 simp +contextual only [sZ, Nat.reduceEqDiff, Nat.reduceAdd, ↓reduceIte]
 refine ae (V5 x 2000 1 (by omega) (by omega) (by omega) (by omega)) ?_
 cases hb : (gF x 2000 1).2 <;> simp +contextual only [sZ, Nat.reduceEqDiff, Nat.reduceAdd, Nat.reduceLT, ↓reduceIte, reduceCtorEq]
 ·exact aY rfl rfl
 ·refine ae (V6 x) ?_
  simp +contextual only [sZ, Nat.reduceEqDiff, ↓reduceIte, reduceCtorEq]
  exact aY rfl rfl
end Go.aK
end
section
set_option maxRecDepth 100000
namespace Go.aK
open Go Go.Proofs
mutual
def T.sz : T → Int
 | .mk _ _ l => 1 + Ef l
def Ef : List T → Int
 | [] => 0
 | x :: r => x.sz + Ef r
end
mutual
def T.dp : T → Int
 | .mk _ _ l => 1 + Ib l
def Ib : List T → Int
 | [] => 0
 | x :: r => max x.dp (Ib r)
end
mutual
theorem T.Eg : ∀ x : T, 1 ≤ x.sz
 | .mk k n l => by simp only [T.sz]; have := qx l; omega
theorem qx : ∀ l : List T, 0 ≤ Ef l
 | [] => by simp [Ef]
 | x :: r => by simp only [Ef]; have := T.Eg x; have := qx r; omega
end
mutual
theorem T.zW : ∀ x : T, 1 ≤ x.dp
 | .mk k n l => by simp only [T.dp]; have := og l; omega
theorem og : ∀ l : List T, 0 ≤ Ib l
 | [] => by simp [Ib]
 | x :: r => by simp only [Ib]; have := T.zW x; have := og r; omega
end
def eD (s : Int × Int) : Prop := 2000 < s.1 ∨ 200 < s.2
mutual
theorem rL : ∀ (x : T) (d : Int) (s : Int × Int), oN d s → (¬ eD (fS x d s) ↔ s.1 + x.sz ≤ 2000 ∧ d + x.dp - 1 ≤ 200) ∧ (¬ eD (fS x d s) → (fS x d s).1 = s.1 + x.sz ∧ (fS x d s).2 = max s.2 (d + x.dp - 1))
 | .mk k n l, d, s, h => by
   obtain ⟨h1, h2, h3, h4, h5, h6⟩ := h
   simp only [fS, T.sz, T.dp]
   have hp := og l
   have ih := xW l (d + 1) (s.1 + 1, max s.2 d) (by unfold lW; simp only; omega) (by omega) (by simp only; omega)
   simp only at ih
   refine ⟨ih.1.trans ⟨fun k => ⟨by omega, by omega⟩, fun k => ⟨by omega, by omega, by omega⟩⟩, fun k => ?_⟩
   have k1 := ih.2 k
   have k2 := ih.1.1 k
   exact ⟨by omega, by omega⟩
theorem xW : ∀ (l : List T) (d : Int) (s : Int × Int), lW s → 0 ≤ d → d ≤ s.2 + 1 → (¬ eD (kD l d s) ↔ s.1 + Ef l ≤ 2000 ∧ s.2 ≤ 200 ∧ d + Ib l - 1 ≤ 200) ∧ (¬ eD (kD l d s) → (kD l d s).1 = s.1 + Ef l ∧ (kD l d s).2 = max s.2 (d + Ib l - 1))
 | [], d, s, h, h5, h6 => by
   simp only [kD, Ef, Ib, eD]
   exact ⟨⟨fun k => ⟨by omega, by omega, by omega⟩, fun k => by omega⟩, fun k => ⟨by omega, by omega⟩⟩
 | x :: r, d, s, h, h5, h6 => by
   obtain ⟨h1, h2, h3, h4⟩ := h
   simp only [kD]
   have Ix := x.Eg
   have hd0 := x.zW
   have YK := qx r
   have YC := og r
   simp only [Ef, Ib]
   by_cases ho : 2000 < s.1 ∨ 200 < s.2
   ·rw [if_pos ho]
    refine ⟨⟨fun k => absurd ho k, fun k => ?_⟩, fun k => absurd ho k⟩
    omega
   ·rw [if_neg ho]
    have jS : oN d s := ⟨h1, by omega, h3, by omega, h5, by omega⟩
    have hx := rL x d s jS
    have V7 := vn x d s jS
    have Pv := rJ x d s
    have ih := xW r d (fS x d s) V7.1 h5 (by omega)
    generalize fS x d s = t at *
    by_cases X2 : eD t
    ·have hn : eD (kD r d t) := by
      refine Classical.byContradiction fun hc => ?_
      have := ih.1.1 hc
      unfold eD at X2
      omega
     refine ⟨⟨fun k => absurd hn k, fun k => ?_⟩, fun k => absurd hn k⟩
     have := hx.1.2 (by omega)
     exact absurd X2 this
    ·have k1 := hx.2 X2
     have k2 := hx.1.1 X2
     refine ⟨ih.1.trans ⟨fun k => ⟨by omega, by omega, by omega⟩, fun k => ⟨by omega, by omega, by omega⟩⟩, fun k => ?_⟩
     have k3 := ih.2 k
     exact ⟨by omega, by omega⟩
end
theorem rM (s : Int × Int) : sU s = true ↔ eD s := by simp [sU, eD]
mutual
theorem xX : ∀ (x : T) (left d : Int), 0 ≤ left → d ≤ 201 → ((gF x left d).2 = true ↔ x.sz ≤ left ∧ d + x.dp - 1 ≤ 200) ∧ ((gF x left d).2 = true → (gF x left d).1 = left - x.sz)
 | .mk k n l, left, d, h0, hd => by
   simp only [gF, T.sz, T.dp]
   have hp := og l
   have hs := qx l
   by_cases ho : left - 1 < 0 ∨ 200 < d
   ·rw [if_pos ho]
    refine ⟨⟨fun k => (by cases k), fun k => ?_⟩, fun k => (by cases k)⟩
    omega
   ·rw [if_neg ho]
    have ih := xY l (left - 1) (d + 1) (by omega) (by omega)
    exact ⟨ih.1.trans ⟨fun k => ⟨by omega, by omega⟩, fun k => ⟨by omega, by omega⟩⟩, fun k => by have := ih.2 k; omega⟩
theorem xY : ∀ (l : List T) (left d : Int), 0 ≤ left → d ≤ 201 → ((lX l left d).2 = true ↔ Ef l ≤ left ∧ d + Ib l - 1 ≤ 200) ∧ ((lX l left d).2 = true → (lX l left d).1 = left - Ef l)
 | [], left, d, h0, hd => by simp only [lX, Ef, Ib]; exact ⟨⟨fun _ => ⟨by omega, by omega⟩, fun _ => trivial⟩, fun _ => by omega⟩
 | x :: r, left, d, h0, hd => by
   simp only [lX, Ef, Ib]
   have Ix := x.Eg
   have hd0 := x.zW
   have YK := qx r
   have YC := og r
   have hx := xX x left d h0 hd
   have hle := zV x left d
   cases hb : (gF x left d).2 with
   | false =>
     rw [if_neg (by simp)]
     refine ⟨⟨fun k => (by cases k), fun k => ?_⟩, fun k => (by cases k)⟩
     have := hx.1.2 (by omega)
     rw [hb] at this; cases this
   | true =>
     rw [if_pos rfl]
     have k1 := hx.2 hb
     have k2 := hx.1.1 hb
     have ih := xY r (gF x left d).1 d ((hle.2 h0).2 hb) hd
     exact ⟨ih.1.trans ⟨fun k => ⟨by omega, by omega⟩, fun k => ⟨by omega, by omega⟩⟩, fun k => by have := ih.2 k; omega⟩
end
theorem T.gG (x : T) : x.tree = true ↔ x.sz ≤ 2000 ∧ x.dp ≤ 200 ∧ x.shaped = true := by
 have h := (rL x 1 (0, 0) (by unfold oN; simp)).1
 unfold T.tree
 rw [Bool.and_eq_true, Bool.not_eq_true', ← Bool.not_eq_true, rM]
 constructor
 ·rintro ⟨h1, h2⟩
  have := h.1 h1
  simp only at this
  exact ⟨by omega, by omega, h2⟩
 ·rintro ⟨h1, h2, h3⟩
  exact ⟨h.2 (by simp only; omega), h3⟩
theorem Sm (x : T) : ((gF x 2000 1).2 && x.shaped) = x.tree := by
 have h := (xX x 2000 1 (by omega) (by omega)).1
 rw [Bool.eq_iff_iff, Bool.and_eq_true, h, T.gG]
 constructor
 ·rintro ⟨⟨h1, h2⟩, h3⟩; exact ⟨h1, by omega, h3⟩
 ·rintro ⟨h1, h2, h3⟩; exact ⟨⟨h1, by omega⟩, h3⟩
theorem V8 (x : T) : Pure Tryz.prog 175 [x.av] (.bool x.tree) := by rw [← Sm]; exact Zj x
def ents (vs : List Int) : List (AV × AV) := vs.map fun v => (.int .i64 v, .bool true)
def oA : List Int → AV
 | [] => .ah
 | v :: r => .ap 1 (ints (v :: r))
theorem kU (vs : List Int) (n : Int) : AV.ap 1 (ints (vs ++ [n])) = oA (vs ++ [n]) := by
 cases vs <;> rfl
theorem vr (vs : List Int) (n : Int) (o : Nat) (ψ : List AV → Prop) : bE 1 8 (oA vs) (.ap o [.int .i64 n]) ψ = ((vs.length + 1) * 8 ≤ 140737488355328 ∧ ψ (ints (vs ++ [n]))) := by
 cases vs with
 | nil => simp [oA, oa, ok_int, ints]
 | cons v r =>
   show bE 1 8 (.ap 1 (ints (v :: r))) _ ψ = _
   rw [ns, ok_int, aw, rI]
   simp
mutual
def J2 : T → List Int → List Int
 | .mk k n l, vs => vt l (if k = 1 ∧ n ∉ vs then vs ++ [n] else vs)
def vt : List T → List Int → List Int
 | [], vs => vs
 | x :: r, vs => vt r (J2 x vs)
end
end Go.aK
end
section
set_option maxRecDepth 100000
namespace Go.aK
open Go Go.Proofs
mutual
def V9 (f : Int → T) : T → T
 | .mk k n l => if k = 1 then f n else .mk k n (Pw f l)
def Pw (f : Int → T) : List T → List T
 | [] => []
 | x :: r => V9 f x :: Pw f r
end
def Eh : List T → AV
 | [] => .ah
 | v :: r => .ap 3 (cG (v :: r))
theorem J3 (l : List T) (x : T) : cG l ++ [x.av] = cG (l ++ [x]) := by simp [lU]
theorem HA (vs : List T) (n : T) : AV.ap 3 (cG (vs ++ [n])) = Eh (vs ++ [n]) := by
 cases vs <;> rfl
theorem NR (b : Nat) (vs : List T) (n : T) (o : Nat) (ψ : List AV → Prop) : bE 3 b (Eh vs) (.ap o [n.av]) ψ = ((vs.length + 1) * b ≤ 140737488355328 ∧ ψ (cG (vs ++ [n]))) := by
 cases vs with
 | nil => simp [Eh, oa, Sf, cG]
 | cons v r =>
   show bE 3 b (.ap 3 (cG (v :: r))) _ ψ = _
   rw [ns, Sf, tQ, J3]
   simp
theorem kc {x : T} (h : x.shaped = true) : x.l.length ≤ 8 ∧ ∀ y ∈ x.l, y.shaped = true := by
 rw [x.dR, Bool.and_eq_true, Bool.not_eq_true', Bool.or_eq_false_iff] at h
 have h1 := h.1.2
 have h2 := h.2
 rw [j5] at h2
 exact ⟨by simpa using h1, fun y hy => List.all_eq_true.1 h2 y hy⟩
end Go.aK
end
section
set_option maxRecDepth 100000
namespace Go.aK
open Go Go.Proofs
end Go.aK
end
section
set_option maxRecDepth 100000
namespace Go.aK
open Go Go.RowKit
mutual
def T.wf : T → Prop
 | .mk k n l => (-9223372036854775808 ≤ k ∧ k ≤ 9223372036854775807) ∧ (-9223372036854775808 ≤ n ∧ n ≤ 9223372036854775807) ∧ l.length ≤ 9223372036854775807 ∧ TG l
def TG : List T → Prop
 | [] => True
 | x :: r => x.wf ∧ TG r
end
theorem FD : ∀ l : List T, TG l ↔ ∀ x ∈ l, x.wf
 | [] => by simp [TG]
 | x :: r => by simp [TG, FD r]
section
variable {H : Type} {enc : TypeId × Value → H} {P : Program} {w : World} {base : Nat} {sp : Nat → Bool} {held : Bool}
structure Ei (P : Program) (ti tt tl : TypeId) : Prop where
 int : P.underlying ti = some (.int .i64)
 tree : ∃ f0 f1 f2 : Field, P.underlying tt = some (.struct #[f0, f1, f2]) ∧ f0.type = ti ∧ f0.offset = 0 ∧ f1.type = ti ∧ f1.offset = 1 ∧ f2.type = tl ∧ f2.offset = 2
 list : P.underlying tl = some (.slice tt)
 c1 : P.cellsOf ti = 1
 c3 : P.cellsOf tt = 3
 cl : P.cellsOf tl = 1
theorem J4 {n : Int} (h : (Lit.int .i64 n).wf = true) : -9223372036854775808 ≤ n ∧ n ≤ 9223372036854775807 := by
 simp only [Lit.wf, Bool.and_eq_true, decide_eq_true_eq] at h
 revert h
 simp [IntKind.min, IntKind.max, IntKind.signed, IntKind.bits]
theorem Ej {n : Nat} {p : Nat → T → Prop} (h : ∀ i, i < n → ∃ t, p i t) : ∃ f : Nat → T, ∀ i, i < n → p i (f i) := by
 refine ⟨fun i => if hi : i < n then Classical.choose (h i hi) else default, fun i hi => ?_⟩
 simp only [dif_pos hi]
 exact Classical.choose_spec (h i hi)
def isT (w : World) (cs : List Value) (t : T) : Prop := aJ (fF w) [] cs t.av.cells ∧ t.wf
def Sn (w : World) (cs : List Value) (l : List T) : Prop := (∃ v, cs = [v] ∧ (∃ y, aR (fF w) [] v y ∧ (y = .ap 0 (cG l) ∨ (y = .ah ∧ l = [])))) ∧ l.length ≤ 9223372036854775807 ∧ TG l
theorem Sn.XO {cs : List Value} {l : List T} (h : Sn w cs l) : ∃ v, cs = [v] ∧ aR (fF w) [] v (.ap 0 (cG l)) := by
 obtain ⟨⟨v, rfl, y, hr, hy⟩, _⟩ := h
 refine ⟨v, rfl, ?_⟩
 rcases hy with rfl | ⟨rfl, rfl⟩
 ·exact hr
 ·exact hr.drop
def Py (d : DataW H) (l : List T) : Prop := match d with | .slice es _ => l.length = es.length | _ => l = []
theorem HB {ti tt tl : TypeId} (hT : Ei P ti tt tl) : ∀ (fuel : Nat),
 (∀ (cs : List Value) (x : DataW H × List MemPlace), DataW.trod enc P w base sp held fuel tt cs = some x → ∃ t : T, isT w cs t) ∧
 (∀ (cs : List Value) (x : DataW H × List MemPlace), DataW.trod enc P w base sp held fuel tl cs = some x → ∃ l : List T, Sn w cs l ∧ Py x.1 l) := by
 intro fuel
 induction fuel with
 | zero => exact ⟨fun cs x h => by simp [DataW.trod] at h, fun cs x h => by simp [DataW.trod] at h⟩
 | succ n ih =>
   refine ⟨fun cs x h => ?_, fun cs x h => ?_⟩
   ·obtain ⟨f0, f1, f2, hu, h0, o0, h1, o1, h2, o2⟩ := hT.tree
    obtain ⟨xs, m, hm, rfl, hlen, fx, hf⟩ := DataW.trod_struct hu h
    cases hm
    have g0 := hf 0 f0 rfl
    have g1 := hf 1 f1 rfl
    have g2 := hf 2 f2 rfl
    rw [h0, o0, hT.c1] at g0
    rw [h1, o1, hT.c1] at g1
    rw [h2, o2, hT.cl] at g2
    simp at fx
    rw [hT.c3] at hlen
    match cs, hlen with
    | [a, b, c], _ =>
      have e0 : xs[0]? = some xs[0] := by simp [fx]
      have e1 : xs[1]? = some xs[1] := by simp [fx]
      have e2 : xs[2]? = some xs[2] := by simp [fx]
      rw [e0] at g0; rw [e1] at g1; rw [e2] at g2
      obtain ⟨k, ek, _, wk⟩ := DataW.trod_int hT.int g0
      obtain ⟨q, eq, _, wq⟩ := DataW.trod_int hT.int g1
      obtain ⟨l, hl, _⟩ := ih.2 _ _ g2
      obtain ⟨v, ev, hv⟩ := hl.XO
      simp at ek eq ev
      subst ek eq ev
      exact ⟨.mk k q l, .cons _ _ _ _ (.int _ _) (.cons _ _ _ _ (.int _ _) (.cons _ _ _ _ hv .nil)), J4 wk, J4 wq, hl.2.1, hl.2.2⟩
   ·rcases DataW.trod_slice hT.list h with ⟨rfl, rfl⟩ | ⟨a, len, cap, elems, rest, m, hm, rfl, rfl, hb, hle, cI, Tq, jo, _, _⟩
    ·exact ⟨[], ⟨⟨_, rfl, .ah, .ah, .inr ⟨rfl, rfl⟩⟩, by simp, trivial⟩, rfl⟩
    cases hm
    rw [hT.c3] at jo
    have hex : ∀ i, i < len → ∃ t : T, ∃ cs', w.cells? base (a.add (i * 3)) 3 = some cs' ∧ isT w cs' t := by
     intro i hi
     have := jo i hi
     rw [List.getElem?_eq_getElem (by omega)] at this
     obtain ⟨cs', k1, k2⟩ := Option.bind_eq_some_iff.1 this
     obtain ⟨t, ht⟩ := ih.1 _ _ k2
     exact ⟨t, cs', k1, ht⟩
    obtain ⟨f, hf⟩ := Ej hex
    have Tp : maxLen = 9223372036854775807 := rfl
    refine ⟨(List.range len).map f, ⟨⟨_, rfl, _, ?_, .inl rfl⟩, by simp; omega, ?_⟩, by simp [Py, Tq]⟩
    ·rw [lU, List.map_map]
     refine xR (e := 3) (base := base) (by decide) hle cI (fun i => if hi : i < len then Classical.choose (hf i hi) else []) _ fun i hi => ?_
     simp only [dif_pos hi]
     obtain ⟨k1, k2⟩ := Classical.choose_spec (hf i hi)
     exact ⟨k1, k2.1⟩
    ·rw [FD]
     intro x hx
     obtain ⟨i, hi, rfl⟩ := List.mem_map.1 hx
     obtain ⟨cs', _, k2⟩ := hf i (List.mem_range.1 hi)
     exact k2.2
theorem J5 {ti tt tl : TypeId} (hT : Ei P ti tt tl) {r : Reach} {b0 : Nat} {v : Value} {d : DataW H} {ps : List MemPlace} (kJ : Value.okWide P w r b0 tt v) (hd : DataW.Trod enc P w base sp held tt v d ps) :
 ∃ t : T, aR (fF w) [] v t.av ∧ t.wf := by
 obtain ⟨f0, f1, f2, hu, _⟩ := hT.tree
 obtain ⟨cs, rfl, _⟩ := WideShapes.okWide_struct hu kJ
 obtain ⟨fuel, hf⟩ := hd
 obtain ⟨t, h1, h2⟩ := (HB hT fuel).1 _ _ hf
 refine ⟨t, ?_, h2⟩
 have : aR (fF w) [] (.agg cs.toList.toArray) (.agg t.av.cells) := .agg _ _ h1
 rw [t.oe] at this
 simpa using this
end
end Go.aK
end
section
end
section
set_option maxRecDepth 100000
namespace Go.aK
open Go Go.Proofs
mutual
def T.fv : T → List Int
 | .mk k n l => if k = 1 then n :: FE l else FE l
def FE : List T → List Int
 | [] => []
 | x :: r => x.fv ++ FE r
end
mutual
theorem HC : ∀ (x : T) (vs : List Int) (v : Int), v ∈ J2 x vs ↔ v ∈ vs ∨ v ∈ x.fv
 | .mk k n l, vs, v => by
   simp only [J2, T.fv]
   rw [vu l _ v]
   by_cases hk : k = 1
   ·by_cases hn : n ∈ vs
    ·simp only [hk, hn, not_true_eq_false, and_false, if_false, if_true, List.mem_cons]
     constructor
     ·rintro (h | h)
      ·exact .inl h
      ·exact .inr (.inr h)
     ·rintro (h | h | h)
      ·exact .inl h
      ·subst h; exact .inl hn
      ·exact .inr h
    ·simp only [hk, hn, not_false_eq_true, and_self, if_true, List.mem_append, List.mem_cons, List.not_mem_nil, or_false, or_assoc]
   ·simp only [hk, false_and, if_false]
theorem vu : ∀ (l : List T) (vs : List Int) (v : Int), v ∈ vt l vs ↔ v ∈ vs ∨ v ∈ FE l
 | [], vs, v => by simp [vt, FE]
 | x :: r, vs, v => by
   simp only [vt, FE, List.mem_append]
   rw [vu r _ v, HC x vs v, or_assoc]
end
mutual
theorem xZ : ∀ (x : T), x.shaped = true → ∀ v ∈ x.fv, 0 ≤ v
 | .mk k n l, h, v, hv => by
   rw [T.dR] at h
   simp only [T.k, T.n, T.l, Bool.and_eq_true, Bool.not_eq_true', Bool.or_eq_false_iff] at h
   simp only [T.fv] at hv
   split at hv
   ·rcases List.mem_cons.1 hv with rfl | hv
    ·have h9 := h.1.1.1.1
     exact Int.not_lt.1 (of_decide_eq_false h9)
    ·exact pk l h.2 v hv
   ·exact pk l h.2 v hv
theorem pk : ∀ (l : List T), dq l = true → ∀ v ∈ FE l, 0 ≤ v
 | [], _, v, hv => by cases hv
 | x :: r, h, v, hv => by
   simp only [dq, Bool.and_eq_true] at h
   simp only [FE, List.mem_append] at hv
   rcases hv with hv | hv
   ·exact xZ x h.1 v hv
   ·exact pk r h.2 v hv
end
theorem Ek {k n : Int} {l : List T} (h : (T.mk k n l).shaped = true) : dq l = true := by
 rw [T.dR, Bool.and_eq_true] at h
 exact h.2
end Go.aK
end
section
set_option maxRecDepth 100000
namespace Go.aK
open Go Go.Proofs
def x7 (t : T) : Int × Int := if t.sz ≤ 2000 ∧ t.dp ≤ 200 then (t.sz, t.dp) else (2001, 201)
theorem Zk (t : T) : (¬ eD (fS t 1 (0, 0)) ↔ t.sz ≤ 2000 ∧ t.dp ≤ 200) ∧ (¬ eD (fS t 1 (0, 0)) → fS t 1 (0, 0) = (t.sz, t.dp)) := by
 have h := rL t 1 (0, 0) (by unfold oN; simp)
 have hd := t.zW
 refine ⟨h.1.trans ⟨fun k => ⟨by omega, by omega⟩, fun k => ⟨by simp only; omega, by omega⟩⟩, fun k => ?_⟩
 have := h.2 k
 exact Prod.ext (by simpa using this.1) (by have := this.2; simp only at this ⊢; omega)
theorem adW (t : T) : Pure Tryz.prog 122 [t.av] (.tuple [.int .i64 (x7 t).1, .int .i64 (x7 t).2]) := by
 refine fun H => UA.2.calls rfl ?_
 simp only [UA, aI]
 simp +contextual only [sZ, Nat.reduceEqDiff, Nat.reduceAdd, ↓reduceIte, reduceCtorEq]
 refine af (Sl H t 1 (0, 0) (by unfold oN; simp)) ?_
 rintro r H' ⟨rfl, rfl⟩
 simp +contextual only [sZ, Nat.reduceEqDiff, Nat.reduceAdd, ↓reduceIte]
 refine af (V2 H (fS t 1 (0, 0))) ?_
 rintro r H' ⟨rfl, rfl⟩
 have h0 := Zk t
 cases hb : sU (fS t 1 (0, 0)) with
 | true =>
   have hn : ¬ (t.sz ≤ 2000 ∧ t.dp ≤ 200) := fun h => h0.1.2 h ((rM _).1 hb)
   simp +contextual only [eE, sZ, Nat.reduceEqDiff, ↓reduceIte, reduceCtorEq]
   exact xO (by decide) rfl rfl (by rw [x7, if_neg hn]; rfl) (by rw [x7, if_neg hn]; rfl)
 | false =>
   have hn : ¬ eD (fS t 1 (0, 0)) := fun h => by rw [(rM _).2 h] at hb; cases hb
   have h1 := h0.1.1 hn
   rw [h0.2 hn]
   simp +contextual only [eE, sZ, Nat.reduceEqDiff, Nat.reduceAdd, Nat.reduceLT, ↓reduceIte, reduceCtorEq]
   exact xO (by decide) rfl rfl (by rw [x7, if_pos h1]; rfl) (by rw [x7, if_pos h1]; rfl)
theorem Zl (a b : List Int) (o o' : Nat) : Pure Tryz.prog 198 [.ap o (ints a), .ap o' (ints b)] (.bool (decide (a = b))) := by
 refine fun H => Ve.2.calls rfl ?_
 simp only [Ve, aI]
 simp +contextual only [sZ, Nat.reduceEqDiff, Nat.reduceAdd, ↓reduceIte, reduceCtorEq]
 refine fun _ _ => ⟨fun ep => aY rfl ?_, fun hl => ?_⟩
 ·rw [decide_eq_false]
  intro h; subst h; exact ep rfl
 have hl : a.length = b.length := by omega
 refine aE a.length (fun i => decide (a.drop i = b.drop i) = decide (a = b)) (fun i => [(0, .ap o (ints a)), (1, .ap o' (ints b)), (5, .int .i64 i)]) (fun i => H) ⟨rfl, aA _ _ _⟩ fun i hi hI => ?_
 simp +contextual only [sZ, Nat.reduceEqDiff, ↓reduceIte, reduceCtorEq]
 intro _
 refine ⟨fun aW => ⟨bT aW, ?_⟩, fun ji => ?_⟩
 ·have aW := bT aW
  have So : i < b.length := by omega
  rw [List.drop_eq_getElem_cons aW, List.drop_eq_getElem_cons So] at hI
  have e1 : a.getD i 0 = a[i] := by simp [aW]
  have e2 : b.getD i 0 = b[i] := by simp [So]
  rw [e1, e2]
  refine ⟨So, fun ep => aY rfl ?_, fun he => ⟨i + 1, ⟨aW, ?_⟩, by omega, aF (by rw [au i (by omega)]) rfl⟩⟩
  ·rw [← hI, decide_eq_false]
   intro h; exact ep (List.cons.inj h).1
  ·rw [← hI, he]
   exact decide_eq_decide.2 (by rw [List.cons.injEq]; simp only [true_and])
 ·have ji := df ji
  rw [List.drop_of_length_le ji, List.drop_of_length_le (by omega)] at hI
  exact aY rfl (by rw [← hI]; rfl)
mutual
def Pz : T → Int
 | .mk k n l => max (if k = 1 then n else -1) (x8 l)
def x8 : List T → Int
 | [] => -1
 | x :: r => max (Pz x) (x8 r)
end
theorem B5 {l : List T} {i : Nat} (h : i < l.length) : x8 (l.drop i) = max (Pz (l.getD i default)) (x8 (l.drop (i + 1))) := by
 rw [List.drop_eq_getElem_cons h]
 simp [x8, h]
theorem El : ∀ l : List T, -1 ≤ x8 l
 | [] => by simp [x8]
 | x :: r => by simp only [x8]; have := El r; omega
theorem Wa (l : List T) : Pure Tryz.prog 109 [.ap 0 (cG l)] (.int .i64 (x8 l)) := by
 have ih : ∀ y ∈ l, Pure Tryz.prog 109 [.ap 0 (cG y.l)] (.int .i64 (x8 y.l)) := fun y hy => Wa y.l
 refine fun H => Uu.2.calls rfl ?_
 simp only [Uu, aI]
 simp +contextual only [sZ, Nat.reduceEqDiff, Nat.reduceAdd, ↓reduceIte, reduceCtorEq]
 intro _
 have h0 := El l
 refine aM l.length (fun i (s : Int) => -1 ≤ s ∧ max s (x8 (l.drop i)) = x8 l)
  (fun i s => [(3, .int .i64 s), (6, .ap 0 (cG l)), (7, .int .i64 l.length), (8, .int .i64 i)]) (fun i s => H) (-1) ⟨⟨by omega, by rw [List.drop_zero]; omega⟩, aA _ _ _⟩ fun i s hi hI => ?_
 obtain ⟨k1, hI⟩ := hI
 simp +contextual only [sZ, Nat.reduceEqDiff, Nat.reduceAdd, ↓reduceIte, reduceCtorEq]
 refine ⟨fun aW => ⟨bT aW, fun hk => ?_, fun hk => ?_⟩, fun ji => ?_⟩
 ·have aW := bT aW
  rw [B5 aW] at hI
  have e : Pz (l.getD i default) = max (if (l.getD i default).k = 1 then (l.getD i default).n else -1) (x8 (l.getD i default).l) := by cases l.getD i default; simp only [Pz, T.k, T.n, T.l]; rfl
  rw [if_pos hk] at e
  refine ae (ih _ (fG aW)) ?_
  simp +contextual only [sZ, Nat.reduceEqDiff, ↓reduceIte]
  exact ⟨i + 1, max (max s (l.getD i default).n) (x8 (l.getD i default).l), ⟨aW, by omega, by omega⟩, by omega, aF (by rw [au i (by omega)]) rfl⟩
 ·have aW := bT aW
  rw [B5 aW] at hI
  have e : Pz (l.getD i default) = max (if (l.getD i default).k = 1 then (l.getD i default).n else -1) (x8 (l.getD i default).l) := by cases l.getD i default; simp only [Pz, T.k, T.n, T.l]; rfl
  rw [if_neg hk] at e
  refine ae (ih _ (fG aW)) ?_
  simp +contextual only [sZ, Nat.reduceEqDiff, ↓reduceIte]
  exact ⟨i + 1, max s (x8 (l.getD i default).l), ⟨aW, by omega, by omega⟩, by omega, aF (by rw [au i (by omega)]) rfl⟩
 ·rw [List.drop_of_length_le (df ji)] at hI
  simp only [x8] at hI
  exact aY rfl (by congr 1; omega)
termination_by SizeOf.sizeOf l
decreasing_by
 have h1 := List.sizeOf_lt_of_mem hy
 have h2 : SizeOf.sizeOf y.l < SizeOf.sizeOf y := by cases y; simp only [T.l, T.mk.sizeOf_spec]; omega
 omega
mutual
theorem Sp : ∀ (x : T), x.shaped = true → (Pz x < 0 ↔ x.fv = [])
 | .mk k n l, h => by
   have hs := Em l (Ek h)
   have h0 := El l
   simp only [Pz, T.fv]
   by_cases hk : k = 1
   ·have hn : 0 ≤ n := xZ _ h n (by simp [T.fv, hk])
    rw [if_pos hk, if_pos hk]
    constructor
    ·intro h; omega
    ·intro h; cases h
   ·rw [if_neg hk, if_neg hk, ← hs]
    omega
theorem Em : ∀ (l : List T), dq l = true → (x8 l < 0 ↔ FE l = [])
 | [], _ => by simp [x8, FE]
 | x :: r, h => by
   simp only [dq, Bool.and_eq_true] at h
   simp only [x8, FE, List.append_eq_nil_iff]
   rw [← Sp x h.1, ← Em r h.2]
   omega
end
def lY (t : T) : Bool := t.tree && decide (t.fv = [])
theorem c51 (t : T) : Pure Tryz.prog 51 [t.av] (.bool (lY t)) := by
 refine fun H => k51.2.calls rfl ?_
 simp only [k51, aI]
 simp +contextual only [sZ, Nat.reduceEqDiff, Nat.reduceAdd, ↓reduceIte]
 refine ae (V4 t) ?_
 cases ht : t.tree with
 | false =>
   simp +contextual only [sZ, Nat.reduceEqDiff, ↓reduceIte, reduceCtorEq]
   exact aY rfl (by rw [lY, ht]; rfl)
 | true =>
   simp +contextual only [sZ, Nat.reduceEqDiff, Nat.reduceAdd, ↓reduceIte]
   refine ae (Wa [t]) ?_
   simp +contextual only [sZ, Nat.reduceEqDiff, ↓reduceIte, reduceCtorEq]
   refine aY rfl ?_
   have h := Em [t] (by rw [j5]; simp [((T.gG t).1 ht).2.2])
   simp only [FE, List.append_nil] at h
   rw [lY, ht, Bool.true_and, decide_eq_decide.2 h]
theorem Sq (l : List T) : ta 3 (cG l) = True := by
 simp only [ta, eq_iff_iff, iff_true]
 intro y hy
 rw [lU] at hy
 obtain ⟨z, _, rfl⟩ := List.mem_map.1 hy
 exact ⟨z.gE, z.pj⟩
end Go.aK
end
section
set_option maxRecDepth 100000
namespace Go.aK
open Go Go.Proofs
def sub (l : List T) (t : T) : T := V9 (fun n => l.getD n.toNat default) t
end Go.aK
end
section
namespace Go.fJ
open Go.aK
mutual
def code : T → List Int
 | .mk k n l => k :: n :: (l.length : Int) :: x9 l
def x9 : List T → List Int
 | [] => []
 | x :: r => code x ++ x9 r
end
mutual
theorem B6 : ∀ (a b : T) (r s : List Int), code a ++ r = code b ++ s → a = b ∧ r = s
 | .mk k n l, .mk k' n' l', r, s, h => by
   simp only [code, List.cons_append, List.cons.injEq] at h
   obtain ⟨h1, h2, h3, h4⟩ := h
   obtain ⟨h5, h6⟩ := ya l l' r s (by omega) h4
   exact ⟨by rw [h1, h2, h5], h6⟩
theorem ya : ∀ (l m : List T) (r s : List Int), l.length = m.length → x9 l ++ r = x9 m ++ s → l = m ∧ r = s
 | [], [], r, s, _, h => ⟨rfl, by simpa [x9] using h⟩
 | x :: l, y :: m, r, s, hl, h => by
   simp only [x9, List.append_assoc] at h
   obtain ⟨h1, h2⟩ := B6 x y _ _ h
   obtain ⟨h3, h4⟩ := ya l m r s (by simpa using hl) h2
   exact ⟨by rw [h1, h3], h4⟩
 | [], _ :: _, _, _, h, _ => by simp at h
 | _ :: _, [], _, _, h, _ => by simp at h
end
theorem FF {a b : T} (h : code a = code b) : a = b := (B6 a b [] [] (by rw [h])).1
instance : DecidableEq T := fun a b => decidable_of_iff (code a = code b) ⟨FF, fun h => by rw [h]⟩
def AA (a b : T) : Prop := code a ≤ code b
instance (a b : T) : Decidable (AA a b) := inferInstanceAs (Decidable (code a ≤ code b))
theorem B7 {a b : T} (h1 : AA a b) (h2 : AA b a) : a = b := FF (List.le_antisymm h1 h2)
theorem yb (a b : T) : AA a b ∨ AA b a := List.le_total _ _
theorem yc {a b c : T} (h1 : AA a b) (h2 : AA b c) : AA a c := List.le_trans h1 h2
def ins (x : T) : List T → List T
 | [] => [x]
 | y :: r => if AA x y then x :: y :: r else y :: ins x r
def rN : List T → List T
 | [] => []
 | x :: r => ins x (rN r)
theorem B8 (x : T) : ∀ l, (ins x l).Perm (x :: l)
 | [] => List.Perm.refl _
 | y :: r => by
   simp only [ins]
   split
   ·exact List.Perm.refl _
   ·exact ((B8 x r).cons y).trans (List.Perm.swap _ _ _)
theorem jJ : ∀ l, (rN l).Perm l
 | [] => List.Perm.refl _
 | x :: r => (B8 x _).trans ((jJ r).cons x)
theorem B9 (x y : T) : ∀ l, ins x (ins y l) = ins y (ins x l)
 | [] => by
   simp only [ins]
   by_cases h1 : AA x y <;> by_cases h2 : AA y x <;> simp only [h1, h2, if_true, if_false]
   ·rw [B7 h1 h2]
   ·rcases yb x y with h | h
    ·exact absurd h h1
    ·exact absurd h h2
 | z :: r => by
   simp only [ins]
   by_cases hx : AA x z <;> by_cases hy : AA y z <;> simp only [hx, hy, if_true, if_false, ins]
   ·by_cases h1 : AA x y <;> by_cases h2 : AA y x <;> simp only [h1, h2, if_true, if_false]
    ·rw [B7 h1 h2]
    ·rcases yb x y with h | h
     ·exact absurd h h1
     ·exact absurd h h2
   ·have h2 : ¬ AA y x := fun h => hy (yc h hx)
    simp only [h2, if_false]
   ·have h2 : ¬ AA x y := fun h => hx (yc h hy)
    simp only [h2, if_false]
   ·rw [B9 x y r]
theorem En {l m : List T} (h : l.Perm m) : rN l = rN m := by
 induction h with
 | nil => rfl
 | cons x _ ih => simp only [rN, ih]
 | swap x y l => simp only [rN]; exact B9 _ _ _
 | trans _ _ h1 h2 => rw [h1, h2]
theorem FG {l m : List T} : rN l = rN m ↔ l.Perm m := ⟨fun h => (jJ l).symm.trans (h ▸ jJ m), En⟩
theorem NS (l : List T) : rN (rN l) = rN l := En (jJ l)
theorem NT {x : T} {l : List T} : x ∈ rN l ↔ x ∈ l := (jJ l).mem_iff
mutual
def wt : T → Nat
 | .mk _ _ l => 1 + gM l
def gM : List T → Nat
 | [] => 0
 | x :: r => wt x + gM r
end
theorem FH {x : T} : ∀ {l : List T}, x ∈ l → wt x ≤ gM l
 | y :: r, h => by
   simp only [gM]
   rcases List.mem_cons.1 h with rfl | h
   ·omega
   ·have := FH h; omega
theorem fw (a : T) : 0 < wt a := by cases a; simp only [wt]; omega
theorem bJ {a x : T} (h : x ∈ a.l) : wt x < wt a := by
 cases a with
 | mk k n l => have := FH (l := l) h; simp only [wt]; omega
structure Od where
 pl : Int → Int
 sp : Int → Int
mutual
def norm (O : Od) : T → T
 | .mk k n l => if k = 2 then .mk 2 (O.pl n) (if O.sp (O.pl n) = 3 then rN (Ca O l) else Ca O l) else .mk 1 n []
def Ca (O : Od) : List T → List T
 | [] => []
 | x :: r => norm O x :: Ca O r
end
theorem yd (O : Od) : ∀ l, Ca O l = l.map (norm O)
 | [] => rfl
 | x :: r => by simp [Ca, yd O r]
def Lx (G : T → T → Prop) : List T → List T → Prop
 | [], _ => False
 | _ :: _, [] => True
 | x :: l, y :: m => x = y ∧ Lx G l m ∨ G x y
def side (s : Int) (l : List T) : List T := if s = 2 then l.reverse else l
def Mu (G : T → T → Prop) (l m : List T) : Prop :=
 (∃ x ∈ l, m.count x < l.count x) ∧ ∀ y ∈ m, l.count y < m.count y → ∃ x ∈ l, m.count x < l.count x ∧ G x y
def Fm (sp : Int → Int) (G : T → T → Prop) (a b : T) : Prop :=
 a.k = 2 ∧ ((∃ x ∈ a.l, x = b ∨ G x b) ∨ b.k = 2 ∧ (
  (b.n < a.n ∧ ∀ y ∈ b.l, G a y) ∨
  (b.n = a.n ∧ sp a.n ≠ 3 ∧ (∀ y ∈ b.l, G a y) ∧ Lx G (side (sp a.n) a.l) (side (sp a.n) b.l)) ∨
  (b.n = a.n ∧ sp a.n = 3 ∧ Mu G a.l b.l)))
theorem iC {s : Int} {l : List T} {x : T} : x ∈ side s l ↔ x ∈ l := by unfold side; split <;> simp
theorem Cb {G G' : T → T → Prop} : ∀ {l m : List T}, (∀ x ∈ l, ∀ y ∈ m, (G x y ↔ G' x y)) → (Lx G l m ↔ Lx G' l m)
 | [], _, _ => Iff.rfl
 | _ :: _, [], _ => Iff.rfl
 | x :: l, y :: m, h => by
   simp only [Lx]
   rw [Cb (fun x hx y hy => h x (List.mem_cons_of_mem _ hx) y (List.mem_cons_of_mem _ hy)), h x List.mem_cons_self y List.mem_cons_self]
theorem Cc {sp : Int → Int} {G G' : T → T → Prop} {a b : T} (h1 : ∀ x ∈ a.l, (G x b ↔ G' x b)) (h2 : ∀ y ∈ b.l, (G a y ↔ G' a y)) (h3 : ∀ x ∈ a.l, ∀ y ∈ b.l, (G x y ↔ G' x y)) :
 Fm sp G a b ↔ Fm sp G' a b := by
 have e1 : (∃ x ∈ a.l, x = b ∨ G x b) ↔ (∃ x ∈ a.l, x = b ∨ G' x b) := ⟨fun ⟨x, hx, h⟩ => ⟨x, hx, by rwa [← h1 x hx]⟩, fun ⟨x, hx, h⟩ => ⟨x, hx, by rwa [h1 x hx]⟩⟩
 have e2 : (∀ y ∈ b.l, G a y) ↔ (∀ y ∈ b.l, G' a y) := ⟨fun h y hy => (h2 y hy).1 (h y hy), fun h y hy => (h2 y hy).2 (h y hy)⟩
 have e3 : Lx G (side (sp a.n) a.l) (side (sp a.n) b.l) ↔ Lx G' (side (sp a.n) a.l) (side (sp a.n) b.l) := Cb fun x hx y hy => h3 x (iC.1 hx) y (iC.1 hy)
 have e4 : Mu G a.l b.l ↔ Mu G' a.l b.l := by
  unfold Mu
  refine and_congr Iff.rfl ⟨fun h y hy hc => ?_, fun h y hy hc => ?_⟩ <;> obtain ⟨x, hx, Gy, hg⟩ := h y hy hc
  ·exact ⟨x, hx, Gy, (h3 x hx y hy).1 hg⟩
  ·exact ⟨x, hx, Gy, (h3 x hx y hy).2 hg⟩
 unfold Fm
 rw [e1, e2, e3, e4]
def LC (sp : Int → Int) : Nat → T → T → Prop
 | 0 => fun _ _ => False
 | f + 1 => Fm sp (LC sp f)
def Gt (sp : Int → Int) (a b : T) : Prop := LC sp (wt a + wt b) a b
theorem fT (sp : Int → Int) : ∀ (f g : Nat) (a b : T), wt a + wt b ≤ f → wt a + wt b ≤ g → (LC sp f a b ↔ LC sp g a b)
 | 0, _, a, b, h, _ => by have := fw a; omega
 | _ + 1, 0, a, b, _, h => by have := fw a; omega
 | f + 1, g + 1, a, b, h1, h2 => by
   simp only [LC]
   refine Cc (fun x hx => ?_) (fun y hy => ?_) (fun x hx y hy => ?_)
   ·have := bJ hx; exact fT sp f g x b (by omega) (by omega)
   ·have := bJ hy; exact fT sp f g a y (by omega) (by omega)
   ·have := bJ hx; have := bJ hy; exact fT sp f g x y (by omega) (by omega)
theorem vv {sp : Int → Int} {a b : T} : Gt sp a b ↔ Fm sp (Gt sp) a b := by
 have e : LC sp (wt a + wt b) a b ↔ LC sp (wt a + wt b + 1) a b := fT sp _ _ a b (by omega) (by omega)
 unfold Gt
 rw [e]
 show Fm sp (LC sp (wt a + wt b)) a b ↔ _
 refine Cc (fun x hx => ?_) (fun y hy => ?_) (fun x hx y hy => ?_)
 ·have := bJ hx; exact fT sp _ _ x b (by omega) (by omega)
 ·have := bJ hy; exact fT sp _ _ a y (by omega) (by omega)
 ·have := bJ hx; have := bJ hy; exact fT sp _ _ x y (by omega) (by omega)
section
variable {sp : Int → Int}
theorem ye {a b : T} (h : Gt sp a b) : a.k = 2 := (vv.1 h).1
theorem jK {a b x : T} (ha : a.k = 2) (hx : x ∈ a.l) (h : x = b ∨ Gt sp x b) : Gt sp a b := vv.2 ⟨ha, .inl ⟨x, hx, h⟩⟩
theorem dB {l m : List T} {x : T} (h : m.count x < l.count x) : x ∈ l := List.count_pos_iff.1 (by omega)
theorem qy {a b : T} (h : Gt sp a b) : (∃ x ∈ a.l, x = b ∨ Gt sp x b) ∨ b.k = 2 ∧ (∀ y ∈ b.l, Gt sp a y) ∧ (
 b.n < a.n ∨ (b.n = a.n ∧ sp a.n ≠ 3 ∧ Lx (Gt sp) (side (sp a.n) a.l) (side (sp a.n) b.l)) ∨ (b.n = a.n ∧ sp a.n = 3 ∧ Mu (Gt sp) a.l b.l)) := by
 obtain ⟨ha, h | ⟨hb, h | h | h⟩⟩ := vv.1 h
 ·exact .inl h
 ·exact .inr ⟨hb, h.2, .inl h.1⟩
 ·exact .inr ⟨hb, h.2.2.1, .inr (.inl ⟨h.1, h.2.1, h.2.2.2⟩)⟩
 ·refine .inr ⟨hb, fun y hy => ?_, .inr (.inr h)⟩
  obtain ⟨_, _, _, h2⟩ := h
  by_cases hc : a.l.count y < b.l.count y
  ·obtain ⟨x, hx, _, hg⟩ := h2 y hy hc
   exact jK ha hx (.inr hg)
  ·have : 0 < b.l.count y := List.count_pos_iff.2 hy
   exact jK ha (List.count_pos_iff.1 (by omega)) (.inl rfl)
theorem vw {a b : T} (ha : a.k = 2) (hb : b.k = 2) (h1 : ∀ y ∈ b.l, Gt sp a y) (h2 : b.n < a.n ∨ (b.n = a.n ∧ sp a.n ≠ 3 ∧ Lx (Gt sp) (side (sp a.n) a.l) (side (sp a.n) b.l)) ∨ (b.n = a.n ∧ sp a.n = 3 ∧ Mu (Gt sp) a.l b.l)) : Gt sp a b := by
 refine vv.2 ⟨ha, .inr ⟨hb, ?_⟩⟩
 rcases h2 with h | h | h
 ·exact .inl ⟨h, h1⟩
 ·exact .inr (.inl ⟨h.1, h.2.1, h1, h.2.2⟩)
 ·exact .inr (.inr h)
theorem NU : ∀ {a b y : T}, Gt sp a b → b.k = 2 → y ∈ b.l → Gt sp a y := by
 intro a
 induction h : wt a using Nat.strongRecOn generalizing a with
 | _ n ih =>
   intro b y Cd hb hy
   rcases qy Cd with ⟨x, hx, rfl | hg⟩ | ⟨_, h1, _⟩
   ·exact jK (ye Cd) hx (.inr (jK hb hy (.inl rfl)))
   ·exact jK (ye Cd) hx (.inr (ih _ (by have := bJ hx; omega) rfl hg hb hy))
   ·exact h1 y hy
theorem J6 {G : T → T → Prop} : ∀ {l : List T}, Lx G l l → ∃ x ∈ l, G x x
 | x :: l, h => by
   rcases h with ⟨_, h⟩ | h
   ·obtain ⟨y, hy, hg⟩ := J6 h; exact ⟨y, List.mem_cons_of_mem _ hy, hg⟩
   ·exact ⟨x, List.mem_cons_self, h⟩
theorem rO : ∀ a : T, ¬ Gt sp a a := by
 intro a
 induction h : wt a using Nat.strongRecOn generalizing a with
 | _ n ih =>
   intro hg
   rcases qy hg with ⟨x, hx, rfl | NV⟩ | ⟨_, _, h1 | ⟨_, _, h1⟩ | ⟨_, _, h1⟩⟩
   ·have := bJ hx; omega
   ·exact ih (wt x) (by have := bJ hx; omega) x rfl (NU NV (ye hg) hx)
   ·omega
   ·obtain ⟨x, hx, NV⟩ := J6 h1
    have hx := iC.1 hx
    exact ih (wt x) (by have := bJ hx; omega) x rfl NV
   ·obtain ⟨⟨x, _, hx⟩, _⟩ := h1; omega
theorem Eo {G : T → T → Prop} {S : List T} (irr : ∀ x ∈ S, ¬ G x x) (tr : ∀ x ∈ S, ∀ y ∈ S, ∀ z ∈ S, G x y → G y z → G x z) (P : T → Prop)
 (step : ∀ z ∈ S, (∀ x ∈ S, G x z → P x) → P z) : ∀ z ∈ S, P z := by
 classical
 intro z
 induction h : S.countP (fun w => decide (G w z)) using Nat.strongRecOn generalizing z with
 | _ n ih =>
   intro hz
   refine step z hz fun x hx hg => ih (S.countP fun w => decide (G w x)) ?_ x rfl hx
   subst h
   have key : ∀ (l : List T), (∀ w ∈ l, w ∈ S) → l.countP (fun w => decide (G w x)) ≤ l.countP (fun w => decide (G w z)) ∧ (x ∈ l → l.countP (fun w => decide (G w x)) < l.countP (fun w => decide (G w z))) := by
    intro l
    induction l with
    | nil => intro _; exact ⟨Nat.le_refl _, fun h => by cases h⟩
    | cons w l ihl =>
      intro hl
      obtain ⟨i1, i2⟩ := ihl fun w hw => hl w (List.mem_cons_of_mem _ hw)
      have hw := hl w List.mem_cons_self
      by_cases h1 : G w x
      ·have h2 : G w z := tr w hw x hx z hz h1 hg
       have ep : x ≠ w := fun e => irr x hx (by rw [← e] at h1; exact h1)
       simp only [List.countP_cons, h1, h2, decide_true, if_true]
       refine ⟨by omega, fun hm => ?_⟩
       rcases List.mem_cons.1 hm with e | hm
       ·exact absurd e ep
       ·have := i2 hm; omega
      ·by_cases h2 : G w z
       ·simp only [List.countP_cons, h1, h2, decide_true, decide_false, if_true]
        refine ⟨by simp; omega, fun _ => by simp; omega⟩
       ·have ep : x ≠ w := fun e => h2 (e ▸ hg)
        simp only [List.countP_cons, h1, h2, decide_false]
        refine ⟨by simpa using i1, fun hm => ?_⟩
        rcases List.mem_cons.1 hm with e | hm
        ·exact absurd e ep
        ·simpa using i2 hm
   exact (key S fun _ h => h).2 hx
theorem J7 {G : T → T → Prop} {l m k : List T} (irr : ∀ x ∈ l ++ m ++ k, ¬ G x x) (tr : ∀ x ∈ l ++ m ++ k, ∀ y ∈ l ++ m ++ k, ∀ z ∈ l ++ m ++ k, G x y → G y z → G x z)
 (h1 : Mu G l m) (h2 : Mu G m k) : Mu G l k := by
 have il : ∀ {x}, x ∈ l → x ∈ l ++ m ++ k := fun h => by simp [h]
 have im : ∀ {x}, x ∈ m → x ∈ l ++ m ++ k := fun h => by simp [h]
 have ik : ∀ {x}, x ∈ k → x ∈ l ++ m ++ k := fun h => by simp [h]
 have up : ∀ z ∈ l ++ m ++ k, (l.count z < m.count z ∨ m.count z < k.count z) → ∃ x ∈ l, k.count x < l.count x ∧ G x z := by
  refine Eo irr tr _ fun z hz ih hc => ?_
  rcases hc with hc | hc
  ·obtain ⟨x1, pU, ON, H6⟩ := h1.2 z (dB hc) hc
   by_cases hk : k.count x1 < l.count x1
   ·exact ⟨x1, pU, hk, H6⟩
   ·obtain ⟨x, hx, oz, hg⟩ := ih x1 (il pU) H6 (.inr (by omega))
    exact ⟨x, hx, oz, tr x (il hx) x1 (il pU) z hz hg H6⟩
  ·obtain ⟨x1, pU, ON, H6⟩ := h2.2 z (dB hc) hc
   by_cases hk : l.count x1 < m.count x1
   ·obtain ⟨x, hx, oz, hg⟩ := ih x1 (im pU) H6 (.inl hk)
    exact ⟨x, hx, oz, tr x (il hx) x1 (im pU) z hz hg H6⟩
   ·exact ⟨x1, List.count_pos_iff.1 (by omega), by omega, H6⟩
 constructor
 ·obtain ⟨x0, Ix, LN⟩ := h1.1
  by_cases hk : k.count x0 < l.count x0
  ·exact ⟨x0, Ix, hk⟩
  ·obtain ⟨x, hx, hc, _⟩ := up x0 (il Ix) (.inr (by omega))
   exact ⟨x, hx, hc⟩
 ·intro y hy hc
  refine up y (ik hy) ?_
  by_cases h : l.count y < m.count y
  ·exact .inl h
  ·exact .inr (by omega)
theorem Ce {G : T → T → Prop} : ∀ {l m k : List T}, (∀ x ∈ l, ∀ y ∈ m, ∀ z ∈ k, G x y → G y z → G x z) → Lx G l m → Lx G m k → Lx G l k
 | [], _, _, _, h, _ => h.elim
 | _ :: _, [], _, _, _, h => h.elim
 | _ :: _, _ :: _, [], _, _, _ => trivial
 | x :: l, y :: m, z :: k, tr, h1, h2 => by
   have ih := @Ce G l m k fun x hx y hy z hz => tr x (List.mem_cons_of_mem _ hx) y (List.mem_cons_of_mem _ hy) z (List.mem_cons_of_mem _ hz)
   rcases h1 with ⟨rfl, h1⟩ | h1 <;> rcases h2 with ⟨rfl, h2⟩ | h2
   ·exact .inl ⟨rfl, ih h1 h2⟩
   ·exact .inr h2
   ·exact .inr h1
   ·exact .inr (tr x List.mem_cons_self y List.mem_cons_self z List.mem_cons_self h1 h2)
theorem zX : ∀ (N : Nat) {a b c : T}, wt a ≤ N → wt b ≤ N → wt c ≤ N → Gt sp a b → Gt sp b c → Gt sp a c := by
 intro N
 induction N with
 | zero => intro a b c h; have := fw a; omega
 | succ N Wb =>
 intro a b c
 induction h : wt a + wt b + wt c using Nat.strongRecOn generalizing a b c with
 | _ n ih =>
   intro la lb lc Cd PD
   rcases qy Cd with ⟨x, hx, rfl | hg⟩ | ⟨hb, h1, h2⟩
   ·exact jK (ye Cd) hx (.inr PD)
   ·have := bJ hx
    exact jK (ye Cd) hx (.inr (ih (wt x + wt b + wt c) (by omega) rfl (by omega) lb lc hg PD))
   rcases qy PD with ⟨y, hy, rfl | hg⟩ | ⟨hc, h3, h4⟩
   ·exact h1 y hy
   ·have := bJ hy
    exact ih (wt a + wt y + wt c) (by omega) rfl la (by omega) lc (h1 y hy) hg
   have h5 : ∀ z ∈ c.l, Gt sp a z := fun z hz => by
    have := bJ hz
    exact ih (wt a + wt b + wt z) (by omega) rfl la lb (by omega) Cd (h3 z hz)
   refine vw (ye Cd) hc h5 ?_
   rcases h2 with h2 | ⟨e2, s2, h2⟩ | ⟨e2, s2, h2⟩ <;> rcases h4 with h4 | ⟨e4, s4, h4⟩ | ⟨e4, s4, h4⟩
   ·exact .inl (by omega)
   ·exact .inl (by omega)
   ·exact .inl (by omega)
   ·exact .inl (by omega)
   ·refine .inr (.inl ⟨by omega, s2, ?_⟩)
    rw [e2] at h4
    refine Ce (fun x hx y hy z hz => ?_) h2 h4
    have := bJ (iC.1 hx); have := bJ (iC.1 hy); have := bJ (iC.1 hz)
    exact Wb (by omega) (by omega) (by omega)
   ·rw [e2] at s4; exact absurd s4 s2
   ·exact .inl (by omega)
   ·rw [e2] at s4; exact absurd s2 s4
   ·refine .inr (.inr ⟨by omega, s2, ?_⟩)
    have small : ∀ x ∈ a.l ++ b.l ++ c.l, wt x ≤ N := by
     intro x hx
     simp only [List.mem_append] at hx
     rcases hx with (hx | hx) | hx <;> have := bJ hx <;> omega
    exact J7 (fun x _ => rO x) (fun x hx y hy z hz => Wb (small x hx) (small y hy) (small z hz)) h2 h4
theorem gt_trans {a b c : T} : Gt sp a b → Gt sp b c → Gt sp a c := zX (wt a + wt b + wt c) (by omega) (by omega) (by omega)
theorem J8 {a b : T} (h1 : Gt sp a b) (h2 : Gt sp b a) : False := rO a (gt_trans h1 h2)
theorem Wc {l m X Y C : List T} (hl : l.Perm (X ++ C)) (hm : m.Perm (Y ++ C)) (h0 : X ≠ []) (h1 : ∀ y ∈ Y, ∃ x ∈ X, Gt sp x y) : Mu (Gt sp) l m := by
 have cl : ∀ z, l.count z = X.count z + C.count z := fun z => by rw [hl.count_eq, List.count_append]
 have cm : ∀ z, m.count z = Y.count z + C.count z := fun z => by rw [hm.count_eq, List.count_append]
 have up : ∀ z ∈ X ++ Y, z ∈ Y → ∃ x ∈ X, Y.count x < X.count x ∧ Gt sp x z := by
  refine Eo (G := Gt sp) (fun x _ => rO x) (fun x _ y _ z _ => gt_trans) _ fun z hz ih hy => ?_
  obtain ⟨x1, pU, H6⟩ := h1 z hy
  by_cases hc : Y.count x1 < X.count x1
  ·exact ⟨x1, pU, hc, H6⟩
  ·have : 0 < X.count x1 := List.count_pos_iff.2 pU
   obtain ⟨x, hx, oz, hg⟩ := ih x1 (by simp [pU]) H6 (List.count_pos_iff.1 (by omega))
   exact ⟨x, hx, oz, gt_trans hg H6⟩
 have inl : ∀ {x}, x ∈ X → x ∈ l := fun hx => hl.mem_iff.2 (by simp [hx])
 constructor
 ·obtain ⟨x, hx⟩ := List.exists_mem_of_ne_nil X h0
  by_cases hc : Y.count x < X.count x
  ·exact ⟨x, inl hx, by rw [cl, cm]; omega⟩
  ·have : 0 < X.count x := List.count_pos_iff.2 hx
   obtain ⟨x', wo, Gy, _⟩ := up x (by simp [hx]) (List.count_pos_iff.1 (by omega))
   exact ⟨x', inl wo, by rw [cl, cm]; omega⟩
 ·intro y hy hc
  rw [cl, cm] at hc
  have hyY : y ∈ Y := List.count_pos_iff.1 (by omega)
  obtain ⟨x, hx, Gy, hg⟩ := up y (by simp [hyY]) hyY
  exact ⟨x, inl hx, by rw [cl, cm]; omega, hg⟩
def Sr (X Y : List T) : Prop := ∀ z, z ∈ X → z ∉ Y
theorem Ss {G : T → T → Prop} {l m X Y C : List T} (hl : l.Perm (X ++ C)) (hm : m.Perm (Y ++ C)) (hd : Sr X Y) : Mu G l m ↔ X ≠ [] ∧ ∀ y ∈ Y, ∃ x ∈ X, G x y := by
 have cl : ∀ z, l.count z = X.count z + C.count z := fun z => by rw [hl.count_eq, List.count_append]
 have cm : ∀ z, m.count z = Y.count z + C.count z := fun z => by rw [hm.count_eq, List.count_append]
 have inl : ∀ {x}, x ∈ X → x ∈ l := fun hx => hl.mem_iff.2 (by simp [hx])
 have inm : ∀ {x}, x ∈ Y → x ∈ m := fun hx => hm.mem_iff.2 (by simp [hx])
 have cX : ∀ {z}, m.count z < l.count z ↔ z ∈ X := by
  intro z
  rw [cl, cm]
  constructor
  ·intro h; exact List.count_pos_iff.1 (by omega)
  ·intro h
   have h1 : 0 < X.count z := List.count_pos_iff.2 h
   have h2 : Y.count z = 0 := List.count_eq_zero.2 (hd z h)
   omega
 have cY : ∀ {z}, l.count z < m.count z ↔ z ∈ Y := by
  intro z
  rw [cl, cm]
  constructor
  ·intro h; exact List.count_pos_iff.1 (by omega)
  ·intro h
   have h1 : 0 < Y.count z := List.count_pos_iff.2 h
   have h2 : X.count z = 0 := List.count_eq_zero.2 (fun hx => hd z hx h)
   omega
 constructor
 ·rintro ⟨⟨x, _, hx⟩, h2⟩
  refine ⟨fun e => (by have hm := cX.1 hx; rw [e] at hm; cases hm), fun y hy => ?_⟩
  obtain ⟨x, _, hx, hg⟩ := h2 y (inm hy) (cY.2 hy)
  exact ⟨x, cX.1 hx, hg⟩
 ·rintro ⟨h1, h2⟩
  refine ⟨?_, fun y _ hy => ?_⟩
  ·obtain ⟨x, hx⟩ := List.exists_mem_of_ne_nil X h1
   exact ⟨x, inl hx, cX.2 hx⟩
  ·obtain ⟨x, hx, hg⟩ := h2 y (cY.1 hy)
   exact ⟨x, inl hx, cX.2 hx, hg⟩
theorem wY {l m X Y C : List T} (hl : l.Perm (X ++ C)) (hm : m.Perm (Y ++ C)) (hd : Sr X Y) : l.Perm m ↔ X = [] ∧ Y = [] := by
 constructor
 ·intro h
  have hc : ∀ z, X.count z = Y.count z := fun z => by
   have h1 := hl.count_eq z
   have h2 := hm.count_eq z
   have h3 := h.count_eq z
   rw [List.count_append] at h1 h2
   omega
  constructor
  ·cases hX : X with
   | nil => rfl
   | cons x r =>
     have h1 : x ∈ X := by rw [hX]; simp
     have h2 : 0 < Y.count x := by rw [← hc]; exact List.count_pos_iff.2 h1
     exact absurd (List.count_pos_iff.1 h2) (hd x h1)
  ·cases hY : Y with
   | nil => rfl
   | cons x r =>
     have h1 : x ∈ Y := by rw [hY]; simp
     have h2 : 0 < X.count x := by rw [hc]; exact List.count_pos_iff.2 h1
     exact absurd h1 (hd x (List.count_pos_iff.1 h2))
 ·rintro ⟨rfl, rfl⟩
  exact hl.trans hm.symm
mutual
def sb (sp : Int → Int) (f : Int → T) : T → T
 | .mk k n l => if k = 2 then .mk 2 n (if sp n = 3 then rN (Zm sp f l) else Zm sp f l) else f n
def Zm (sp : Int → Int) (f : Int → T) : List T → List T
 | [] => []
 | x :: r => sb sp f x :: Zm sp f r
end
theorem Cf (s : Int) (g : T → T) (l : List T) : side s (l.map g) = (side s l).map g := by unfold side; split <;> simp
mutual
def Can (sp : Int → Int) : T → Prop
 | .mk k n l => k = 2 ∧ (sp n = 3 → rN l = l) ∧ J9 sp l
def J9 (sp : Int → Int) : List T → Prop
 | [] => True
 | x :: r => Can sp x ∧ J9 sp r
end
theorem Cg {sp : Int → Int} : ∀ {l : List T}, J9 sp l ↔ ∀ x ∈ l, Can sp x
 | [] => by simp [J9]
 | x :: r => by simp [J9, Cg (l := r)]
theorem zY {sp : Int → Int} {a : T} : Can sp a ↔ a.k = 2 ∧ (sp a.n = 3 → rN a.l = a.l) ∧ ∀ x ∈ a.l, Can sp x := by
 cases a with
 | mk k n l => simp only [Can, T.k, T.n, T.l, Cg]
theorem Ch {G : T → T → Prop} : ∀ {l m : List T}, (∀ x ∈ l, ∀ y ∈ m, x = y ∨ G x y ∨ G y x) → l = m ∨ Lx G l m ∨ Lx G m l
 | [], [], _ => .inl rfl
 | [], _ :: _, _ => .inr (.inr trivial)
 | _ :: _, [], _ => .inr (.inl trivial)
 | x :: l, y :: m, h => by
   rcases h x List.mem_cons_self y List.mem_cons_self with rfl | h1 | h1
   ·rcases Ch (G := G) (l := l) (m := m) (fun x hx y hy => h x (List.mem_cons_of_mem _ hx) y (List.mem_cons_of_mem _ hy)) with rfl | h2 | h2
    ·exact .inl rfl
    ·exact .inr (.inl (.inl ⟨rfl, h2⟩))
    ·exact .inr (.inr (.inl ⟨rfl, h2⟩))
   ·exact .inr (.inl (.inr h1))
   ·exact .inr (.inr (.inr h1))
theorem Ka {l m : List T} (ht : ∀ x ∈ l ++ m, ∀ y ∈ l ++ m, x = y ∨ Gt sp x y ∨ Gt sp y x) : l.Perm m ∨ Mu (Gt sp) l m ∨ Mu (Gt sp) m l := by
 by_cases he : ∀ z, l.count z = m.count z
 ·exact .inl (List.perm_iff_count.2 he)
 have hex : ∃ z, l.count z ≠ m.count z := Classical.not_forall.1 he
 obtain ⟨z, hz⟩ := hex
 have inS : ∀ z, l.count z ≠ m.count z → z ∈ l ++ m := fun z hz => by
  rw [List.mem_append]
  by_cases h : 0 < l.count z
  ·exact .inl (List.count_pos_iff.1 h)
  ·exact .inr (List.count_pos_iff.1 (by omega))
 have up : ∀ z ∈ l ++ m, l.count z ≠ m.count z → ∃ d, l.count d ≠ m.count d ∧ ∀ e, l.count e ≠ m.count e → ¬ Gt sp e d := by
  refine Eo (G := Gt sp) (fun x _ => rO x) (fun x _ y _ z _ => gt_trans) _ fun z hz ih hc => ?_
  by_cases h : ∃ e, l.count e ≠ m.count e ∧ Gt sp e z
  ·obtain ⟨e, he, hg⟩ := h
   exact ih e (inS e he) hg he
  ·exact ⟨z, hc, fun e he hg => h ⟨e, he, hg⟩⟩
 obtain ⟨d, hd, Zn⟩ := up z (inS z hz) hz
 have dom : ∀ y, l.count y ≠ m.count y → y ≠ d → Gt sp d y := fun y hy ep => by
  rcases ht d (inS d hd) y (inS y hy) with h | h | h
  ·exact absurd h.symm ep
  ·exact h
  ·exact absurd h (Zn y hy)
 rcases Nat.lt_or_ge (m.count d) (l.count d) with h | h
 ·refine .inr (.inl ⟨⟨d, dB h, h⟩, fun y _ hc => ⟨d, dB h, h, dom y (by omega) ?_⟩⟩)
  rintro rfl; omega
 ·have h : l.count d < m.count d := by omega
  refine .inr (.inr ⟨⟨d, dB h, h⟩, fun y _ hc => ⟨d, dB h, h, dom y (by omega) ?_⟩⟩)
  rintro rfl; omega
theorem T.ext {a b : T} (h1 : a.k = b.k) (h2 : a.n = b.n) (h3 : a.l = b.l) : a = b := by
 cases a; cases b; simp only [T.k, T.n, T.l] at h1 h2 h3; rw [h1, h2, h3]
theorem zZ : ∀ (N : Nat) {a b : T}, wt a ≤ N → wt b ≤ N → Can sp a → Can sp b → a = b ∨ Gt sp a b ∨ Gt sp b a := by
 intro N
 induction N with
 | zero => intro a b h; have := fw a; omega
 | succ N Wb =>
 intro a b
 induction h : wt a + wt b using Nat.strongRecOn generalizing a b with
 | _ n ih =>
   intro la lb ca cb
   obtain ⟨ka, sa, pa⟩ := zY.1 ca
   obtain ⟨kb, sb, pb⟩ := zY.1 cb
   -- one that has a part that is az great az the other one is greater; else it is greater than all of them
   have one : (∀ y ∈ b.l, Gt sp a y) ∨ Gt sp b a := by
    by_cases h : ∀ y ∈ b.l, Gt sp a y
    ·exact .inl h
    ·obtain ⟨y, h⟩ := Classical.not_forall.1 h
     obtain ⟨hy, h⟩ := Classical.not_imp.1 h
     have := bJ hy
     rcases ih (wt a + wt y) (by omega) rfl la (by omega) ca (pb y hy) with h1 | h1 | h1
     ·exact .inr (jK kb hy (.inl h1.symm))
     ·exact absurd h1 h
     ·exact .inr (jK kb hy (.inr h1))
   have two : (∀ x ∈ a.l, Gt sp b x) ∨ Gt sp a b := by
    by_cases h : ∀ x ∈ a.l, Gt sp b x
    ·exact .inl h
    ·obtain ⟨x, h⟩ := Classical.not_forall.1 h
     obtain ⟨hx, h⟩ := Classical.not_imp.1 h
     have := bJ hx
     rcases ih (wt x + wt b) (by omega) rfl (by omega) lb (pa x hx) cb with h1 | h1 | h1
     ·exact .inr (jK ka hx (.inl h1))
     ·exact .inr (jK ka hx (.inr h1))
     ·exact absurd h1 h
   rcases one with one | one
   ·rcases two with two | two
    ·by_cases hn : a.n = b.n
     ·by_cases hs : sp a.n = 3
      ·have ht : ∀ x ∈ a.l ++ b.l, ∀ y ∈ a.l ++ b.l, x = y ∨ Gt sp x y ∨ Gt sp y x := by
        intro x hx y hy
        rw [List.mem_append] at hx hy
        have pU : wt x ≤ N ∧ Can sp x := by
         rcases hx with hx | hx
         ·have := bJ hx; exact ⟨by omega, pa x hx⟩
         ·have := bJ hx; exact ⟨by omega, pb x hx⟩
        have hy1 : wt y ≤ N ∧ Can sp y := by
         rcases hy with hy | hy
         ·have := bJ hy; exact ⟨by omega, pa y hy⟩
         ·have := bJ hy; exact ⟨by omega, pb y hy⟩
        exact Wb pU.1 hy1.1 pU.2 hy1.2
       rcases Ka ht with h1 | h1 | h1
       ·refine .inl (T.ext (by rw [ka, kb]) hn ?_)
        rw [← sa hs, ← sb (by rw [← hn]; exact hs)]
        exact En h1
       ·exact .inr (.inl (vw ka kb one (.inr (.inr ⟨hn.symm, hs, h1⟩))))
       ·exact .inr (.inr (vw kb ka two (.inr (.inr ⟨hn, by rw [← hn]; exact hs, h1⟩))))
      ·have ht : ∀ x ∈ side (sp a.n) a.l, ∀ y ∈ side (sp a.n) b.l, x = y ∨ Gt sp x y ∨ Gt sp y x := by
        intro x hx y hy
        have hx := iC.1 hx; have hy := iC.1 hy
        have := bJ hx; have := bJ hy
        exact Wb (by omega) (by omega) (pa x hx) (pb y hy)
       rcases Ch ht with h1 | h1 | h1
       ·refine .inl (T.ext (by rw [ka, kb]) hn ?_)
        unfold side at h1
        split at h1
        ·exact List.reverse_inj.1 h1
        ·exact h1
       ·exact .inr (.inl (vw ka kb one (.inr (.inl ⟨hn.symm, hs, h1⟩))))
       ·exact .inr (.inr (vw kb ka two (.inr (.inl ⟨hn, by rw [← hn]; exact hs, by rw [← hn]; exact h1⟩))))
     ·rcases Int.lt_or_gt_of_ne hn with h1 | h1
      ·exact .inr (.inr (vw kb ka two (.inl h1)))
      ·exact .inr (.inl (vw ka kb one (.inl h1)))
    ·exact .inr (.inl two)
   ·exact .inr (.inr one)
theorem Kb {a b : T} (ha : Can sp a) (hb : Can sp b) : a = b ∨ Gt sp a b ∨ Gt sp b a := zZ (wt a + wt b) (by omega) (by omega) ha hb
end
end Go.fJ
end
section
namespace Go.fJ
open Go.aK
def E (O : Od) (a b : T) : Prop := norm O a = norm O b
def R (O : Od) (a b : T) : Prop := Gt O.sp (norm O a) (norm O b)
theorem kmk (k n : Int) (l : List T) : (T.mk k n l).k = k := rfl
section
variable {O : Od}
theorem lZ {a : T} (h : a.k = 2) : (norm O a).k = 2 ∧ (norm O a).n = O.pl a.n ∧ (O.sp (O.pl a.n) = 3 → (norm O a).l = rN (a.l.map (norm O))) ∧ (O.sp (O.pl a.n) ≠ 3 → (norm O a).l = a.l.map (norm O)) := by
 cases a with
 | mk k n l =>
   simp only [T.k] at h
   subst h
   simp only [norm, if_true, T.k, T.n, T.l, yd, true_and]
   exact ⟨fun h => by rw [if_pos h], fun h => by rw [if_neg h]⟩
theorem vx {a : T} (h : a.k ≠ 2) : norm O a = .mk 1 a.n [] := by
 cases a with
 | mk k n l => simp only [kmk] at h; simp only [norm]; rw [if_neg h]; rfl
theorem rP {a : T} : (norm O a).k = 2 ↔ a.k = 2 := by
 by_cases h : a.k = 2
 ·simp [h, (lZ h).1]
 ·rw [vx h, kmk]; simp [h]
theorem nw {a x : T} (h : a.k = 2) : x ∈ (norm O a).l ↔ ∃ y ∈ a.l, norm O y = x := by
 obtain ⟨_, _, h1, h2⟩ := lZ (O := O) h
 by_cases hs : O.sp (O.pl a.n) = 3
 ·rw [h1 hs, NT, List.mem_map]
 ·rw [h2 hs, List.mem_map]
theorem NW {G : T → T → Prop} {l m l' m' : List T} (h1 : l.Perm l') (h2 : m.Perm m') : Mu G l m ↔ Mu G l' m' := by
 unfold Mu
 simp only [h1.count_eq, h2.count_eq, h1.mem_iff, h2.mem_iff]
theorem Wd {a b : T} : E O a b ↔ (a.k = 2 ∧ b.k = 2 ∧ O.pl a.n = O.pl b.n ∧ (if O.sp (O.pl a.n) = 3 then (a.l.map (norm O)).Perm (b.l.map (norm O)) else a.l.map (norm O) = b.l.map (norm O))) ∨ (a.k ≠ 2 ∧ b.k ≠ 2 ∧ a.n = b.n) := by
 by_cases ha : a.k = 2
 ·by_cases hb : b.k = 2
  ·obtain ⟨ka, na, pa, qa⟩ := lZ (O := O) ha
   obtain ⟨kb, nb, pb, qb⟩ := lZ (O := O) hb
   simp only [ha, hb, true_and, ne_eq, not_true_eq_false, false_and, or_false]
   unfold E
   constructor
   ·intro h
    have hn : O.pl a.n = O.pl b.n := by rw [← na, ← nb, h]
    refine ⟨hn, ?_⟩
    have hl : (norm O a).l = (norm O b).l := by rw [h]
    split
    ·rename_i hs
     rw [pa hs, pb (by rw [← hn]; exact hs)] at hl
     exact FG.1 hl
    ·rename_i hs
     rw [qa hs, qb (by rw [← hn]; exact hs)] at hl
     exact hl
   ·rintro ⟨hn, hl⟩
    refine T.ext (by rw [ka, kb]) (by rw [na, nb, hn]) ?_
    split at hl
    ·rename_i hs
     rw [pa hs, pb (by rw [← hn]; exact hs)]
     exact FG.2 hl
    ·rename_i hs
     rw [qa hs, qb (by rw [← hn]; exact hs)]
     exact hl
  ·simp only [ha, hb, ne_eq, not_true_eq_false, false_and, and_false, or_false, iff_false]
   intro h
   have := rP (O := O) (a := a)
   unfold E at h
   rw [h, rP] at this
   exact hb (this.2 ha)
 ·by_cases hb : b.k = 2
  ·simp only [ha, hb, ne_eq, not_true_eq_false, false_and, and_false, or_false, iff_false]
   intro h
   have := rP (O := O) (a := b)
   unfold E at h
   rw [← h, rP] at this
   exact ha (this.2 hb)
  ·simp only [ha, hb, ne_eq, not_false_eq_true, false_and, true_and, false_or]
   unfold E
   rw [vx ha, vx hb]
   simp
theorem qz {a b : T} : R O a b ↔ a.k = 2 ∧ ((∃ x ∈ a.l, E O x b ∨ R O x b) ∨ b.k = 2 ∧ (
 (O.pl b.n < O.pl a.n ∧ ∀ y ∈ b.l, R O a y) ∨
 (O.pl b.n = O.pl a.n ∧ O.sp (O.pl a.n) ≠ 3 ∧ (∀ y ∈ b.l, R O a y) ∧ Lx (Gt O.sp) (side (O.sp (O.pl a.n)) (a.l.map (norm O))) (side (O.sp (O.pl a.n)) (b.l.map (norm O)))) ∨
 (O.pl b.n = O.pl a.n ∧ O.sp (O.pl a.n) = 3 ∧ Mu (Gt O.sp) (a.l.map (norm O)) (b.l.map (norm O))))) := by
 unfold R
 rw [vv]
 unfold Fm
 rw [rP, rP]
 refine and_congr_right fun ha => ?_
 obtain ⟨ka, na, pa, qa⟩ := lZ (O := O) ha
 refine or_congr ?_ (and_congr_right fun hb => ?_)
 ·constructor
  ·rintro ⟨x, hx, h⟩
   obtain ⟨y, hy, rfl⟩ := (nw ha).1 hx
   exact ⟨y, hy, h⟩
  ·rintro ⟨x, hx, h⟩
   exact ⟨_, (nw ha).2 ⟨x, hx, rfl⟩, h⟩
 ·obtain ⟨kb, nb, pb, qb⟩ := lZ (O := O) hb
  have e : (∀ y ∈ (norm O b).l, Gt O.sp (norm O a) y) ↔ ∀ y ∈ b.l, Gt O.sp (norm O a) (norm O y) := by
   constructor
   ·intro h y hy; exact h _ ((nw hb).2 ⟨y, hy, rfl⟩)
   ·intro h y hy; obtain ⟨z, hz, rfl⟩ := (nw hb).1 hy; exact h z hz
  rw [e, na, nb]
  refine or_congr Iff.rfl (or_congr ?_ ?_)
  ·refine and_congr_right fun hn => and_congr_right fun hs => ?_
   rw [qa hs, qb (by rw [hn]; exact hs)]
  ·refine and_congr_right fun hn => and_congr_right fun hs => ?_
   exact NW (by rw [pa hs]; exact jJ _) (by rw [pb (by rw [hn]; exact hs)]; exact jJ _)
theorem Ci {a b : T} (h : E O a b) : ¬ R O a b := by unfold R; rw [show norm O a = norm O b from h]; exact rO _
theorem NX {a b c : T} (h1 : R O a b) (h2 : R O b c) : R O a c := gt_trans h1 h2
theorem FI {a b : T} (h1 : R O a b) (h2 : R O b a) : False := J8 h1 h2
theorem We {a b x : T} (ha : a.k = 2) (hx : x ∈ a.l) (h : E O x b ∨ R O x b) : R O a b := qz.2 ⟨ha, .inl ⟨x, hx, h⟩⟩
inductive Gr : T → Prop
 | mk (n : Int) (l : List T) (h : ∀ x ∈ l, Gr x) : Gr (.mk 2 n l)
theorem Gr.k {a : T} (h : Gr a) : a.k = 2 := by cases h; rfl
theorem Gr.mem {a x : T} (h : Gr a) (hx : x ∈ a.l) : Gr x := by cases h with | mk n l h => exact h x hx
theorem Cj : ∀ {a : T}, Gr a → Can O.sp (norm O a) := by
 intro a
 induction h : wt a using Nat.strongRecOn generalizing a with
 | _ n ih =>
   intro ha
   obtain ⟨k1, n1, p1, q1⟩ := lZ (O := O) ha.k
   refine zY.2 ⟨k1, fun hs => ?_, fun x hx => ?_⟩
   ·rw [n1] at hs
    rw [p1 hs, NS]
   ·obtain ⟨y, hy, rfl⟩ := (nw ha.k).1 hx
    exact ih _ (by have := bJ hy; omega) rfl (ha.mem hy)
theorem NY {a b : T} (ha : Gr a) (hb : Gr b) : E O a b ∨ R O a b ∨ R O b a := Kb (Cj ha) (Cj hb)
end
inductive yf (p : Int → Prop) : T → Prop
 | mk (k n : Int) (l : List T) (h1 : k = 2 → p n) (h2 : ∀ x ∈ l, yf p x) : yf p (.mk k n l)
theorem yf.op {p : Int → Prop} {a : T} (h : yf p a) (hk : a.k = 2) : p a.n := by cases h with | mk k n l h1 _ => exact h1 hk
theorem yf.mem {p : Int → Prop} {a x : T} (h : yf p a) (hx : x ∈ a.l) : yf p x := by cases h with | mk k n l _ h2 => exact h2 x hx
end Go.fJ
end
section
set_option maxRecDepth 100000
namespace Go.aK
open Go Go.Proofs Go.fJ
abbrev Nd := T × List Int
def bn : List Int → AV
 | [] => .ah
 | v :: r => .ap 0 (ints (v :: r))
def Ep (p : Nd) : AV := .agg [.int .i64 p.1.k, .int .i64 p.1.n, .ap 0 (cG p.1.l), bn p.2]
def eF (l : List Nd) : List AV := l.map Ep
def zN : AV := .agg [.int .i64 0, .int .i64 0, .ah, .ah]
theorem aD (l : List Int) : (bn l).one = true ∧ (bn l).ab = bn l ∧ (∀ n, (bn l).a7 n = true) ∧ (bn l).val = true ∧ (bn l).cells = [bn l] := by
 cases l with
 | nil => exact ⟨rfl, rfl, fun _ => rfl, rfl, rfl⟩
 | cons v r => exact ⟨rfl, rfl, fun n => by rw [bn, cZ]; exact bk n _, rfl, rfl⟩
theorem NZ (p : Nd) : iW 4 (Ep p) := by
 obtain ⟨t, ks⟩ := p
 cases ks with
 | nil => exact ⟨rfl, rfl, by simp [Ep, bn, AV.cells, eh, bM, c8, iU, cZ, Fv], rfl⟩
 | cons v r => exact ⟨rfl, rfl, by simp [Ep, bn, AV.cells, eh, bM, c8, iU, cZ, bk], rfl⟩
theorem z3 : iW 4 (bO zN) := ⟨rfl, rfl, rfl, rfl⟩
theorem jL (l : List Nd) : ∀ x ∈ eF l, iW 4 x := by
 intro x hx; obtain ⟨p, _, rfl⟩ := List.mem_map.1 hx; exact NZ p
def aT : List T → Nat → List Int
 | [], _ => []
 | x :: r, n => (n : Int) :: aT r (n + wt x)
mutual
def vz : T → Nat → List Nd
 | .mk k n l, i => (.mk k n l, aT l (i + 1)) :: cT l (i + 1)
def cT : List T → Nat → List Nd
 | [], _ => []
 | x :: r, i => vz x i ++ cT r (i + wt x)
end
mutual
theorem qB : ∀ (t : T) (i : Nat), (vz t i).length = wt t
 | .mk k n l, i => by rw [vz, List.length_cons, gH, wt]; omega
theorem gH : ∀ (l : List T) (i : Nat), (cT l i).length = gM l
 | [], _ => rfl
 | x :: r, i => by rw [cT, List.length_append, qB, gH, gM]
end
theorem oh (t : T) (i : Nat) : vz t i = (t, aT t.l (i + 1)) :: cT t.l (i + 1) := by cases t; rw [vz]; rfl
theorem Ck (t : T) : wt t = gM t.l + 1 := by cases t; rw [wt]; exact Nat.add_comm _ _
theorem kV : ∀ (l : List T) (x : T) (i : Nat), cT (l ++ [x]) i = cT l i ++ vz x (i + gM l)
 | [], x, i => by simp [cT, gM]
 | y :: r, x, i => by rw [List.cons_append, cT, cT, kV r x, List.append_assoc, gM]; congr 3; omega
theorem iD : ∀ (l : List T) (x : T) (i : Nat), aT (l ++ [x]) i = aT l i ++ [((i + gM l : Nat) : Int)]
 | [], x, i => by simp [aT, gM]
 | y :: r, x, i => by rw [List.cons_append, aT, aT, iD r x, gM]; simp; omega
theorem nz {l : List T} {i : Nat} (h : i < l.length) : gM (l.take (i + 1)) = gM (l.take i) + wt (l.getD i default) := by
 have e : ∀ (a : List T) (x : T), gM (a ++ [x]) = gM a + wt x := by
  intro a x; induction a with
  | nil => simp [gM]
  | cons y r ih => rw [List.cons_append, gM, gM, ih]; omega
 rw [List.take_succ_eq_append_getElem h, e]
 simp [h]
theorem dh : ∀ (l : List T) (i : Nat), gM (l.take i) ≤ gM l
 | [], i => by simp [gM]
 | x :: r, 0 => by simp [gM]
 | x :: r, i + 1 => by rw [List.take_succ_cons, gM, gM]; have := dh r i; omega
theorem cv : ∀ (l : List T) (i : Nat), (aT l i).length = l.length
 | [], _ => rfl
 | x :: r, i => by rw [aT, List.length_cons, cv, List.length_cons]
theorem iu : ∀ l : List T, l.length ≤ gM l
 | [] => by simp
 | x :: r => by rw [List.length_cons, gM]; have := iu r; have := fw x; omega
def l7 (t : T) : AV := .agg [.int .i64 t.k, .int .i64 t.n, .ap 0 (cG t.l), .ap 0 []]
theorem qC (t : T) : iW 4 (l7 t) := ⟨rfl, rfl, by simp [l7, AV.cells, eh, bM, iU, cZ, aj], rfl⟩
theorem bdN (t : T) (φ : AV → Prop) : cE [.int .i64 0, .int .i64 0, .ah, .ah] [(0, 3, t.av)] φ = φ (.agg [.int .i64 t.k, .int .i64 t.n, .ap 0 (cG t.l), .ah]) := by
 cases t with
 | mk k n l =>
 simp only [cE, gO, T.av, eq_iff_iff]
 constructor
 ·rintro ⟨_, _, _, h⟩; exact h
 ·exact fun h => ⟨rfl, rfl, by decide, h⟩
theorem Wf (t : T) : aQ (.agg [.int .i64 t.k, .int .i64 t.n, .ap 0 (cG t.l), .ah]) = l7 t := rfl
theorem RO.aL {z : AV} {base : Nat} {v : AV} {xs : List AV} {G : List aa} (h : RO z base v xs G) : aL 1 v = True := by
 rcases h with ⟨_, rfl⟩ | ⟨id, cap, _, rfl, _⟩ <;> simp [Go.aK.aL]
theorem eT (l : List Int) : (oA l).one = true ∧ (oA l).ab = bn l ∧ (oA l).val = true ∧ (oA l).cells = [oA l] := by
 cases l with
 | nil => exact ⟨rfl, rfl, rfl, rfl⟩
 | cons v r => exact ⟨rfl, rfl, rfl, rfl⟩
def Wg (base : Nat) (H : List aa) (xs : List AV) (r : AV) (H' : List aa) : Prop := RO zN base r xs H' ∧ H'.take base = H.take base ∧ H.length ≤ H'.length
theorem qD (a b : List Nd) : eF (a ++ b) = eF a ++ eF b := by simp [eF]
theorem qE (a : List Nd) : (eF a).length = a.length := by simp [eF]
theorem Zo : ∀ (N : Nat) (t : T), wt t ≤ N → ∀ (base : Nat) (v : AV) (xs : List AV) (H : List aa), RO zN base v xs H → (∀ x ∈ xs, iW 4 x) → base ≤ H.length → (xs.length + wt t) * 64 ≤ 140737488355328 →
 aq Tryz.prog 132 [t.av, v] H (Wg base H (xs ++ eF (vz t xs.length))) := by
 intro N
 induction N with
 | zero => intro t ht; have := fw t; omega
 | succ N ih =>
 intro t ht base v xs H hR fx hbase hb
 have hw := Ck t
 have X3 := iu t.l
 refine FB.2.calls rfl ?_
 simp only [FB, aI]
 obtain ⟨o1, o2, o3, o4⟩ := hR.one
 simp +contextual only [o3, hR.len, hR.aL, bdN, Wf, sZ, Nat.reduceEqDiff, Nat.reduceAdd, ↓reduceIte, reduceCtorEq]
 refine JZ z3 hR fx 0 [l7 t] (by simp) (by simp [qC]) (by simp; omega) hbase fun v1 G1 Su Sv hj1 th => ?_
 obtain ⟨o1', o2', o3', o4'⟩ := Su.one
 simp +contextual only [sZ]
 intro _
 have iN : ∀ i, (xs ++ l7 t :: eF (cT (t.l.take i) (xs.length + 1))).length = xs.length + 1 + gM (t.l.take i) := by intro i; simp [qE, gH]; omega
 have jS : ∀ i, ∀ x ∈ xs ++ l7 t :: eF (cT (t.l.take i) (xs.length + 1)), iW 4 x := by
  intro i x hx
  rcases List.mem_append.1 hx with hx | hx
  ·exact fx x hx
  ·rcases List.mem_cons.1 hx with rfl | hx
   ·exact qC t
   ·exact jL _ x hx
 refine aM t.l.length (fun i (p : AV × List aa) => RO zN base p.1 (xs ++ l7 t :: eF (cT (t.l.take i) (xs.length + 1))) p.2 ∧ p.2.take base = H.take base ∧ H.length ≤ p.2.length)
  (fun i p => [(1, p.1), (5, .int .i64 xs.length), (6, oA (aT (t.l.take i) (xs.length + 1))), (17, .ap 0 (cG t.l)), (18, .int .i64 t.l.length), (19, .int .i64 i)])
  (fun i p => p.2) (v1, G1) ⟨⟨Su, Sv, th⟩, aA _ _ _⟩ fun i p hi hI => ?_
 obtain ⟨v, G⟩ := p
 obtain ⟨hR, hG, hl⟩ := hI
 simp only at hR hG hl
 obtain ⟨o1, o2, o3, o4⟩ := hR.one
 have hle := dh t.l i
 have EZ := cv (t.l.take i) (xs.length + 1)
 have Sw : (t.l.take i).length ≤ t.l.length := by simp; omega
 simp +contextual only [o3, hR.len, hR.aL, iN, vr, (eT _).2.1, kU, sZ, Nat.reduceEqDiff, Nat.reduceAdd, ↓reduceIte, reduceCtorEq]
 refine ⟨fun aW => ⟨bT aW, by omega, ?_⟩, fun ji => ?_⟩
 ·have aW := bT aW
  have Zp := nz aW
  have hnext := dh t.l (i + 1)
  have e2 : t.l.take (i + 1) = t.l.take i ++ [t.l.getD i default] := by rw [List.take_succ_eq_append_getElem aW]; simp [aW]
  refine af (ih (t.l.getD i default) (by have := bJ (fG aW); omega) base v _ G hR (jS i) (by omega) (by rw [iN]; omega)) ?_
  rintro r G' ⟨wZ, ej, wM⟩
  obtain ⟨o1', o2', o3', o4'⟩ := wZ.one
  simp +contextual only [o3', sZ, Nat.reduceEqDiff, ↓reduceIte]
  refine ⟨i + 1, (r, G'), ⟨aW, ?_, ej.trans hG, Nat.le_trans hl wM⟩, by omega, aF ?_ rfl⟩
  ·rw [iN] at wZ
   rw [e2, kV, qD, ← List.cons_append, ← List.append_assoc]
   exact wZ
  ·rw [e2, iD, au i (by omega)]
 ·have mD : i = t.l.length := by have := df ji; omega
  subst mD
  rw [List.take_length] at hR
  have Er := iN t.l.length
  have Es := jS t.l.length
  rw [List.take_length] at Er Es
  have fY : (xs ++ l7 t :: eF (cT t.l (xs.length + 1))).set xs.length (Ep (t, aT t.l (xs.length + 1))) = xs ++ eF (vz t xs.length) := by
   rw [List.set_append_right _ _ (Nat.le_refl _), Nat.sub_self, List.set_cons_zero, oh]; rfl
  have jo : (xs ++ l7 t :: eF (cT t.l (xs.length + 1))).getD xs.length .any = l7 t := by simp
  generalize xs ++ l7 t :: eF (cT t.l (xs.length + 1)) = ys at hR Er Es fY jo
  rcases hR with ⟨rfl, _⟩ | ⟨id, cap, bm, rfl, hg, cI, _⟩
  ·simp at Er
   omega
  have xx := (List.getElem?_eq_some_iff.1 hg).1
  obtain ⟨k1, k2, k3, k4, k5⟩ := aD (aT t.l (xs.length + 1))
  simp +contextual only [hg, kC, List.take_length, sZ, Nat.reduceEqDiff, ↓reduceIte, reduceCtorEq]
  refine ⟨by omega, ?_⟩
  refine zS Es (by omega) (by decide) (y := Ep (t, aT t.l (xs.length + 1))) k1 k4 (by rw [k2]; exact k3 _) (by rw [jo, k2]; rfl) ?_
  simp +contextual only [sZ, Nat.reduceEqDiff, ↓reduceIte, reduceCtorEq]
  rw [fY]
  refine aV (G.length) (by omega) (by rw [ax, if_pos rfl, jH]; simpa using xx) ?_
  rw [ax, if_pos rfl, List.take_of_length_le (by simp)]
  refine ⟨.inr ⟨id, cap, bm, ?_, ?_, ?_, ?_⟩, ?_, by simpa using hl⟩
  ·rw [← fY]; simp
  ·rw [List.getElem?_set_self xx]
  ·rw [← fY]; simpa using cI
  ·rw [oh]; simp [eF]
  ·rw [List.take_set_of_le bm]; exact hG
end Go.aK
end
