/- Part 11 of 18 of the proof. -/
import Derived.Test.YtljchnfgjdjobaaGreatTaj
import Derived.Test.YtljchnfgjdjobaaGreatTag
import Derived.KernelRfl
import Derived.Test.YtljchnfgjdjobaaGreatTai
import Derived.SizedLaws
set_option linter.unusedVariables false
set_option linter.unusedSimpArgs false
set_option linter.defProp false
set_option linter.unusedSectionVars false
section
namespace Go.aL
open Go
structure iR (esz : Nat) (x : AV) : Prop where
 len : x.cells.length = esz
 un : x.cells.map AV.ae = x.cells
 bl : ak 0 x.cells = true
 one : x.cells.all AV.one = true
theorem iR.flat {esz : Nat} : ∀ {xs : List AV}, (∀ x ∈ xs, iR esz x) → (flat xs).length = xs.length * esz ∧ (flat xs).map AV.ae = flat xs ∧ (∀ n, ak n (flat xs) = true) ∧ (Go.aL.flat xs).all AV.one = true
 | [], _ => ⟨by simp [Go.aL.flat], rfl, fun _ => rfl, rfl⟩
 | x :: r, h => by
   obtain ⟨h1, h2, h3, h4⟩ := iR.flat (xs := r) fun y hy => h y (List.mem_cons_of_mem _ hy)
   have hx := h x List.mem_cons_self
   have e : Go.aL.flat (x :: r) = x.cells ++ Go.aL.flat r := rfl
   rw [e]
   refine ⟨by rw [List.length_append, hx.len, h1, List.length_cons, Nat.add_mul]; omega, by rw [List.map_append, hx.un, h2], fun n => ?_, by rw [List.all_append, hx.one, h4]; rfl⟩
   rw [bw]; exact ⟨bG (Nat.zero_le n) _ hx.bl, h3 n⟩
theorem nc (xs ys : List AV) : flat (xs ++ ys) = flat xs ++ flat ys := by simp [flat]
theorem jF {esz : Nat} {z : AV} (hz : iR esz (bO z)) (n : Nat) : ∀ x ∈ List.replicate n (bO z), iR esz x := fun x hx => by rw [List.eq_of_mem_replicate hx]; exact hz
theorem qo {esz : Nat} {z : AV} (hz : iR esz (bO z)) (n : Nat) : (da z n).length = n * esz := by
 have := (iR.flat (jF hz n)).1
 rwa [List.length_replicate] at this
theorem xR {esz : Nat} {z : AV} (hz : iR esz (bO z)) (n k : Nat) (h : k ≤ n) : (da z n).drop (k * esz) = da z (n - k) := by
 have e : da z n = da z k ++ da z (n - k) := by
  unfold da
  rw [← nc, List.replicate_append_replicate]
  congr 2; omega
 rw [e, List.drop_append_of_le_length (by rw [qo hz]; omega), List.drop_of_length_le (by rw [qo hz]; omega)]
 rfl
def bm (z : AV) (xs : List AV) (cap : Nat) : aa := .cells (flat xs ++ da z (cap - xs.length))
def RO (z : AV) (base : Nat) (v : AV) (xs : List AV) (G : List aa) : Prop :=
 (xs = [] ∧ v = .ah) ∨ ∃ id cap, base ≤ id ∧ v = .bg id 0 xs.length cap ∧ G[id]? = some (bm z xs cap) ∧ xs.length ≤ cap ∧ xs ≠ []
theorem RO.one {z : AV} {base : Nat} {v : AV} {xs : List AV} {G : List aa} (h : RO z base v xs G) : v.one = true ∧ v.val = true ∧ v.ae = v ∧ v.cells = [v] := by
 rcases h with ⟨_, rfl⟩ | ⟨id, cap, _, rfl, _⟩ <;> exact ⟨rfl, rfl, rfl, rfl⟩
theorem RO.aZ {z : AV} {base : Nat} {v : AV} {xs : List AV} {G : List aa} (h : RO z base v xs G) {n : Nat} (hn : G.length ≤ n) : v.aZ n = true := by
 rcases h with ⟨_, rfl⟩ | ⟨id, cap, _, rfl, c, _⟩
 ·rfl
 ·have := (List.getElem?_eq_some_iff.1 c).1
  rw [jE]; simp; omega
theorem RO.set {z : AV} {base : Nat} {v : AV} {xs : List AV} {G : List aa} (h : RO z base v xs G) {j : Nat} (hj : j < base) (o : aa) : RO z base v xs (G.set j o) := by
 rcases h with h | ⟨id, cap, a, b, c, d⟩
 ·exact .inl h
 ·exact .inr ⟨id, cap, a, b, by rw [List.getElem?_set_ne (by omega)]; exact c, d⟩
theorem RO.len {z : AV} {base : Nat} {v : AV} {xs : List AV} {G : List aa} (h : RO z base v xs G) {H : List aa} (φ : AV → Prop) : eW v H φ = φ (.int .i64 xs.length) := by
 rcases h with ⟨rfl, rfl⟩ | ⟨id, cap, _, rfl, _⟩ <;> rfl
theorem JR {esz bytes : Nat} {z : AV} (hz : iR esz (bO z)) {base : Nat} {v : AV} {xs : List AV} {G : List aa} (h : RO z base v xs G) (ft : ∀ x ∈ xs, iR esz x) (o : Nat) (ys : List AV) (hy : ys ≠ []) (pA : ∀ x ∈ ys, iR esz x)
 (hb : (xs.length + ys.length) * bytes ≤ 140737488355328) (hG : base ≤ G.length) {K : AV → List aa → Prop}
 (hK : ∀ v' G', RO z base v' (xs ++ ys) G' → G'.take base = G.take base → (∀ j, j < base → G'[j]? = G[j]?) → G.length ≤ G'.length → K v' G') : cG esz bytes z v (.aq o ys) G K := by
 have jN : tb esz ys := fun y hy => ⟨(pA y hy).len, (pA y hy).one⟩
 obtain ⟨f1, f2, f3, f4⟩ := iR.flat pA
 obtain ⟨g1, g2, g3, g4⟩ := iR.flat ft
 have uk := qo hz
 have kv : ∀ n m, ak n (da z m) = true := fun n m => (iR.flat (jF hz m)).2.2.1 n
 unfold cG
 simp only [dE]
 refine ⟨jN, ?_⟩
 rcases h with ⟨rfl, rfl⟩ | ⟨id, cap, bn, rfl, hg, hle, _⟩
 ·refine ⟨by simpa using hb, fun e => absurd e hy, fun _ cap hc _ => ⟨?_, hK _ _ (.inr ⟨G.length, cap, hG, by simp, ?_, by simpa using hc, by simpa using hy⟩) ?_ ?_ (by simp)⟩⟩
  ·rw [f2, bw]; exact ⟨f3 _, kv _ _⟩
  ·rw [f2]; simp [bm]
  ·rw [List.take_append_of_le_length hG]
  ·intro j hj; rw [List.getElem?_append_left (by omega)]
 ·have xw := (List.getElem?_eq_some_iff.1 hg).1
  simp only [hg, bm, List.length_append, g1, uk, Nat.zero_add, List.drop_zero]
  refine ⟨hb, hle, by rw [← Nat.add_mul]; exact Nat.le_of_eq (by congr 1; omega), fun hroom => ⟨by rw [f2]; exact f3 _, ?_⟩, fun jM fX hc _ => ⟨?_, ?_⟩⟩
  ·rw [f2]
   refine hK _ _ (.inr ⟨id, cap, bn, by simp, ?_, by simpa using hroom, by simp [hy]⟩) ?_ ?_ (by simp)
   ·rw [List.getElem?_set_self xw, bm]
    congr 2
    unfold ai
    rw [f1, List.take_append_of_le_length (by rw [g1]; exact Nat.le_refl _), List.take_of_length_le (by rw [g1]; exact Nat.le_refl _), List.drop_append, List.drop_of_length_le (by rw [g1]; omega), g1,
     show xs.length * esz + ys.length * esz - xs.length * esz = ys.length * esz by omega, xR hz _ _ (by omega), nc, List.nil_append, List.length_append]
    rw [show cap - xs.length - ys.length = cap - (xs.length + ys.length) by omega, List.append_assoc]
   ·rw [List.take_set_of_le (by omega)]
   ·intro j hj; rw [List.getElem?_set_ne (by omega)]
  ·rw [List.take_append_of_le_length (by rw [g1]; exact Nat.le_refl _), List.take_of_length_le (by rw [g1]; exact Nat.le_refl _), g2, f2, bw, bw]; exact ⟨⟨g3 _, f3 _⟩, kv _ _⟩
  ·rw [List.take_append_of_le_length (by rw [g1]; exact Nat.le_refl _), List.take_of_length_le (by rw [g1]; exact Nat.le_refl _), g2, f2, ← nc]
   refine hK _ _ (.inr ⟨G.length, fX, hG, by simp, ?_, by simpa using hc, by simp [hy]⟩) ?_ ?_ (by simp)
   ·simp [bm]
   ·rw [List.take_append_of_le_length hG]
   ·intro j hj; rw [List.getElem?_append_left (by omega)]
theorem pd {esz : Nat} : ∀ {xs : List AV} (_ : ∀ x ∈ xs, iR esz x) (i : Nat), i < xs.length → (flat xs).drop (i * esz) = (xs.getD i .any).cells ++ flat (xs.drop (i + 1))
 | [], _, i, h => by simp at h
 | x :: r, hx, 0, _ => by simp [flat]
 | x :: r, hx, i + 1, h => by
   have hl := (hx x List.mem_cons_self).len
   have e : flat (x :: r) = x.cells ++ flat r := rfl
   rw [e, show (i + 1) * esz = x.cells.length + i * esz by rw [hl, Nat.add_mul]; omega, List.drop_append, List.getD_cons_succ, List.drop_succ_cons]
   have := pd (xs := r) (fun y hy => hx y (List.mem_cons_of_mem _ hy)) i (by simpa using h)
   simp [this]
theorem xS {esz : Nat} {z : AV} {c : Nat} (hc : c < esz) (v : AV) : ∀ {xs : List AV} (_ : ∀ x ∈ xs, iR esz x) (i : Nat) {y : AV} (rest : List AV), i < xs.length → y.cells = (xs.getD i .any).cells.set c v →
 (flat xs ++ rest).set (i * esz + c) v = flat (xs.set i y) ++ rest
 | [], _, i, _, _, h, _ => by simp at h
 | x :: r, hx, 0, y, rest, _, hy => by
   have hl := (hx x List.mem_cons_self).len
   have e : flat (x :: r) = x.cells ++ flat r := rfl
   rw [List.set_cons_zero, e, show flat (y :: r) = y.cells ++ flat r from rfl, hy, Nat.zero_mul, Nat.zero_add, List.append_assoc, List.set_append_left _ _ (by omega), List.append_assoc]
   rfl
 | x :: r, hx, i + 1, y, rest, h, hy => by
   have hl := (hx x List.mem_cons_self).len
   have e : flat (x :: r) = x.cells ++ flat r := rfl
   have ih := xS (z := z) hc v (xs := r) (fun y hy => hx y (List.mem_cons_of_mem _ hy)) i rest (y := y) (by simpa using h) (by simpa using hy)
   rw [List.set_cons_succ, e, show flat (x :: r.set i y) = x.cells ++ flat (r.set i y) from rfl, List.append_assoc, List.append_assoc, ← ih, show (i + 1) * esz + c = x.cells.length + (i * esz + c) by rw [hl, Nat.add_mul]; omega]
   rw [List.set_append_right _ _ (by omega)]
   congr 2; omega
theorem kw (e id N c i : Nat) (k : IntKind) (φ : AV → Prop) : aA e (.bg id 0 N c) (.int k (i : Int)) φ = (i < N ∧ φ (.ptr id (i * e))) := by
 simp only [aA, Int.toNat_natCast, Nat.zero_add, eq_iff_iff]
 constructor
 ·rintro ⟨_, h⟩; exact h
 ·exact fun h => ⟨by omega, h⟩
theorem nh {α : Type} (l : List α) (i : Nat) (x : α) (h : i < l.length) : ai l i [x] = l.set i x := by
 unfold ai
 rw [List.set_eq_take_append_cons_drop, if_pos h]
 rfl
theorem zP {esz cap id : Nat} {z : AV} {ys : List AV} (pA : ∀ x ∈ ys, iR esz x) {i c : Nat} (hi : i < ys.length) (hc : c < esz) {v y : AV} (h1 : v.one = true) (h2 : v.val = true) (h3 : v.ae.aZ 0 = true) (hy : y.cells = (ys.getD i .any).cells.set c v.ae)
 {H : List aa} {K : List aa → Prop} (hK : K (H.set id (bm z (ys.set i y) cap))) : gV (some (bm z ys cap)) 1 id (i * esz + c) v H K := by
 obtain ⟨g1, g2, g3, g4⟩ := iR.flat pA
 have hle : i * esz + esz ≤ ys.length * esz := by rw [← Nat.succ_mul]; exact Nat.mul_le_mul_right _ hi
 simp only [bm, BR, xo h1, h2, List.length_cons, List.length_nil, List.all_cons, List.all_nil, h1, List.map_cons, List.map_nil]
 refine ⟨trivial, trivial, by rw [List.length_append, g1]; omega, rfl, bG (Nat.zero_le _) [v.ae] (by rw [bM, cW, h3]; rfl), ?_⟩
 rw [nh _ _ _ (by rw [List.length_append, g1]; omega), xS (z := z) hc v.ae pA i _ hi hy]
 have e : (ys.set i y).length = ys.length := by simp
 simp only [bm, e] at hK
 exact hK
theorem Ft {esz : Nat} (h0 : 1 < esz) : ∀ {xs : List AV} (_ : ∀ x ∈ xs, iR esz x) (_ : ∀ x ∈ xs, AV.agg x.cells = x) (rest : List AV), chunks esz xs.length (flat xs ++ rest) = xs
 | [], _, _, _ => rfl
 | x :: r, hx, ha, rest => by
   have hl := (hx x List.mem_cons_self)
   have e : flat (x :: r) = x.cells ++ flat r := rfl
   rw [List.length_cons, chunks, if_neg (by omega), e, List.append_assoc, List.take_append_of_le_length (by rw [hl.len]; omega), List.take_of_length_le (by rw [hl.len]; omega), hl.un, ha x List.mem_cons_self]
   rw [show List.drop esz (x.cells ++ (flat r ++ rest)) = flat r ++ rest by rw [← hl.len, List.drop_left], Ft h0 (fun y hy => hx y (List.mem_cons_of_mem _ hy)) (fun y hy => ha y (List.mem_cons_of_mem _ hy))]
theorem vt {esz id cap : Nat} (h0 : 1 < esz) {z : AV} (hz : iR esz (bO z)) {xs : List AV} {H : List aa} (hx : ∀ x ∈ xs, iR esz x) (ha : ∀ x ∈ xs, AV.agg x.cells = x) (h : H[id]? = some (bm z xs cap)) (hl : xs.length ≤ cap) {K : AV → List aa → Prop} (hK : K (.aq 0 xs) (H.set id .dead)) : dB esz (.bg id 0 xs.length cap) H K := by
 obtain ⟨g1, g2, g3, g4⟩ := iR.flat hx
 simp only [dB, h, bm, List.drop_zero, Ft h0 hx ha]
 refine ⟨by omega, hl, by simp [g1], ?_, hK⟩
 rw [List.all_append, g4, show (da z (cap - xs.length)).all AV.one = true from (iR.flat (jF hz _)).2.2.2]; rfl
end Go.aL
end
section
set_option maxRecDepth 100000
set_option maxHeartbeats 0
namespace Go.aL
open Go Go.Proofs
noncomputable def VQ := aJ Tryz.call58 Tryz.func58 Tryz.ntmps58 [(3,0,2),(3,2,2),(3,3,1)] [(0,[0]),(1,[0,4]),(2,[2]),(3,[2])] []
noncomputable def VR := aJ Tryz.call75 Tryz.func75 Tryz.ntmps75 [(0,0,1),(5,2,1000),(6,0,1),(6,8,1),(7,6,2),(7,9,2),(9,0,6004)] [(0,[1,2]),(1,[1,6]),(2,[1,6,7]),(3,[6,7,15,16,17]),(4,[6,7,15,16,17,18]),(5,[6,7,9,15,16,17]),(6,[6,7,9,15,16,17]),(7,[6,7,15,16,17]),(8,[6,7,15,16,17]),(9,[4,5])] [(7,(.take 1 true (.take 2 true (.take 3 true (.take 4 true (.take 5 true (.take 0 false (.br 6 (.take 7 true (.take 8 true (.br 9 .done .nil))) .nil))))))))]
noncomputable def Pe := aJ Tryz.call118 Tryz.func118 Tryz.ntmps118 [(3,0,2),(3,2,2),(3,3,1)] [(0,[0]),(1,[0,4]),(2,[2]),(3,[2])] []
noncomputable def Fu := aJ Tryz.call132 Tryz.func132 Tryz.ntmps132 [(0,0,1),(2,0,1),(2,4,2),(2,5,1),(6,2,1000),(7,0,1),(7,5,1),(8,1,1),(8,2,2),(8,3,1),(11,0,1),(11,1,1)] [(0,[1,2]),(1,[1,2,5]),(2,[1,2,5]),(3,[1,2,5,6]),(4,[1,5,6,17,18,19]),(5,[1,5,6,17,18,19,20]),(6,[1,5,6,8,17,18,19]),(7,[1,5,6,8,17,18,19]),(8,[1,5,6,17,18,19]),(9,[1,5,6,17,18,19]),(10,[1]),(11,[4])] []
noncomputable def Pf := aJ Tryz.call139 Tryz.func139 Tryz.ntmps139 [(10,9,2000),(15,0,1),(15,4,1),(21,0,1),(21,4,1),(23,2,3000)] [(0,[0,1,2]),(1,[0,1,2,9]),(2,[0,1,2,9,10]),(3,[0,1,2,9,10,11,12]),(4,[0,1,9,10,11,12,26,27,28]),(5,[0,1,9,10,11,12,26,27,28,29]),(6,[0,1,9,10,11,12,13,14,26,27,28]),(7,[0,1,9,10,11,12,13,14,26,27,28,33,34,35]),(8,[0,1,9,10,11,12,13,14,26,27,28,33,34,35,36]),(9,[0,1,9,10,11,12,13,14,15,16,26,27,28,33,34,35]),(10,[0,1,9,10,11,12,13,14,15,26,27,28,33,34,35,50]),(11,[0,1,9,10,11,12,13,15,26,27,28]),(12,[0,1,9,10,11,12,13,26,27,28]),(13,[0,1,9,10,11,12,13,14,26,27,28,33,34,35]),(14,[0,1,9,10,11,12,13,26,27,28,63]),(15,[0,1,9,10,11,12,26,27,28]),(16,[0,1,9,10,11,12,26,27,28]),(17,[10,11,12,69,70,71]),(18,[10,11,12,69,70,71,72]),(19,[10,11,12,17,18,69,70,71]),(20,[10,11,12,17,69,70,71,77]),(21,[10,11,12,69,70,71]),(22,[10,11,12,69,70,71]),(23,[6,7,8])] []
noncomputable def Pg := aJ Tryz.call149 Tryz.func149 Tryz.ntmps149 [(1,2,1),(3,1,2000),(4,0,3000)] [(0,[0,1]),(1,[0,1]),(2,[0,8]),(3,[0]),(4,[4])] []
noncomputable def Ph := aJ Tryz.call185 Tryz.func185 Tryz.ntmps185 [(5,3,2000),(6,19,2000)] [(0,[0,1,2]),(1,[0,1,2,7,8]),(2,[0,1,2,7,38]),(3,[6]),(4,[0,9,10]),(5,[0,9,10,11]),(6,[6])] [(4,(.take 0 true (.take 1 true (.take 2 true (.take 3 true (.take 4 true (.take 5 true (.take 6 true (.take 7 true (.take 8 true (.take 9 true (.take 10 true (.take 11 true (.take 12 true (.take 13 true (.take 14 true (.take 15 true (.take 16 true (.take 17 true (.take 18 true (.take 19 true (.take 20 true (.take 21 true .done))))))))))))))))))))))),(6,(.take 0 true (.take 1 true (.take 2 true (.take 3 true (.take 4 true (.take 5 true (.take 6 true (.take 7 true (.take 8 true (.take 9 true (.take 10 true (.take 11 true (.take 12 true (.take 13 true (.take 14 true (.take 15 true (.take 16 true (.take 17 true (.take 18 true (.br 19 (.take 20 true (.take 21 true (.take 22 true .done))) .nil)))))))))))))))))))))]
noncomputable def Pj := aJ Tryz.call199 Tryz.func199 Tryz.ntmps199 [] [(0,[0,2,3]),(1,[0,2,3,9]),(2,[0,2,3]),(3,[0,2,3])] [(3,(.take 0 true (.take 1 true (.take 4 true (.take 5 true (.take 6 true (.take 7 true (.take 8 true (.take 9 true (.take 10 true (.take 11 true (.take 12 true (.take 2 false (.take 3 false (.br 13 (.take 14 true (.br 15 .done .nil)) .nil)))))))))))))))]
end Go.aL
end
section
set_option maxRecDepth 100000
namespace Go.aL
open Go
inductive T where
 | mk (k n : Int) (l : List T)
 deriving Inhabited
mutual
def T.av : T → AV
 | .mk k n l => .agg [.int .i64 k, .int .i64 n, .aq 0 (cK l)]
def cK : List T → List AV
 | [] => []
 | x :: r => x.av :: cK r
end
def T.k : T → Int | .mk k _ _ => k
def T.n : T → Int | .mk _ n _ => n
def T.l : T → List T | .mk _ _ l => l
theorem T.sQ (x : T) : x.av = .agg [.int .i64 x.k, .int .i64 x.n, .aq 0 (cK x.l)] := by cases x; rfl
theorem lP : ∀ l, cK l = l.map T.av
 | [] => rfl
 | x :: r => by simp [cK, lP r]
theorem tS (l : List T) : (cK l).length = l.length := by simp [lP]
theorem BX (l : List T) (i : Nat) (h : i < l.length) : (cK l).getD i .any = (l.getD i default).av := by
 simp [lP, h]
mutual
theorem T.pe (n : Nat) : ∀ x : T, x.av.aZ n = true
 | .mk k m l => by simp [T.av, AV.aZ, ak, dX n l]
theorem dX (n : Nat) : ∀ l : List T, ak n (cK l) = true
 | [] => rfl
 | x :: r => by simp [cK, ak, T.pe n x, dX n r]
end
theorem T.nZ (x : T) : AV.agg x.av.cells = x.av := by cases x; rfl
theorem T.vu (x : T) : x.av.val = true := by cases x; rfl
theorem T.pf (x : T) : x.av.cells.all AV.one = true := by cases x; rfl
theorem T.ni (x : T) : x.av.ae = x.av := by cases x; rfl
theorem T.qp (x : T) : x.av.drop = x.av := by cases x; rfl
theorem T.BY (x : T) : x.av.cells.map AV.ae = x.av.cells := by cases x; rfl
theorem T.Eb (x : T) : x.av.cells.map AV.drop = x.av.cells := by cases x; rfl
theorem T.gB (x : T) : x.av.cells.length = 3 := by cases x; rfl
theorem JS (o : Nat) (l : List T) : (∀ (own : Nat) (xs : List AV), AV.aq o (cK l) = AV.aq own xs → ∀ z ∈ xs, z.cells.length = 3) = True := by
 simp only [eq_iff_iff, iff_true]
 intro own xs e z hz
 cases e
 rw [lP] at hz
 obtain ⟨y, _, rfl⟩ := List.mem_map.1 hz
 exact y.gB
theorem NG (e o : Nat) (l : List T) (k : IntKind) (i : Nat) (φ : AV → Prop) : aA e (.aq o (cK l)) (.int k (i : Int)) φ = (i < l.length ∧ φ (.aj (l.getD i default).av)) := by
 simp only [aA, tS, Int.toNat_natCast, eq_iff_iff]
 constructor
 ·rintro ⟨_, h, h2⟩; rw [BX _ _ h] at h2; exact ⟨h, h2⟩
 ·rintro ⟨h, h2⟩; rw [BX _ _ h]; exact ⟨by omega, h, h2⟩
theorem BZ (x : T) (H : List aa) (φ : AV → Prop) : aS (some 3) (.aj x.av) H φ = φ x.av := by
 simp [aS, T.gB, T.nZ]
theorem Y2 (a b c : AV) (x : T) : ai [a, b, c] 0 x.av.cells = x.av.cells := by simp [ai, T.gB]
theorem Y3 (n : Nat) (x : T) : ak n x.av.cells = true := cq (x.pe _)
theorem NH (x : T) (φ : AV → Prop) : db (some (.cells x.av.cells)) (some 3) 0 φ = φ x.av := by
 have e : List.map AV.drop (List.take 3 (List.drop 0 x.av.cells)) = x.av.cells := by cases x; rfl
 simp only [db, e, T.nZ]
 simp [T.gB]
theorem fk (x : T) (φ : AV → Prop) : al 0 none (.aj x.av) φ = φ (.aj (.int .i64 x.k)) := by
 cases x; simp [al, apart, T.av, AV.cells, T.k, AV.one]
theorem fn_ (x : T) (φ : AV → Prop) : al 1 none (.aj x.av) φ = φ (.aj (.int .i64 x.n)) := by
 cases x; simp [al, apart, T.av, AV.cells, T.n, AV.one]
theorem fl (x : T) (φ : AV → Prop) : al 2 none (.aj x.av) φ = φ (.aj (.aq 0 (cK x.l))) := by
 cases x; simp [al, apart, T.av, AV.cells, T.l, AV.one]
def ints (l : List Int) : List AV := l.map (AV.int .i64)
theorem aw (l : List Int) : (ints l).length = l.length := by simp [ints]
theorem bj (n : Nat) (l : List Int) : ak n (ints l) = true := by
 rw [ba]; intro x hx; obtain ⟨y, _, rfl⟩ := List.mem_map.1 hx; rfl
theorem dx (o : Nat) (l : List Int) : (∀ (own : Nat) (xs : List AV), AV.aq o (ints l) = AV.aq own xs → ∀ z ∈ xs, z.cells.length = 1) = True := by
 simp only [eq_iff_iff, iff_true]
 intro own xs e z hz
 cases e
 obtain ⟨y, _, rfl⟩ := List.mem_map.1 hz
 rfl
theorem JT (e o : Nat) (l : List Int) (k : IntKind) (i : Nat) (φ : AV → Prop) : aA e (.aq o (ints l)) (.int k (i : Int)) φ = (i < l.length ∧ φ (.aj (.int .i64 (l.getD i 0)))) := by
 simp only [aA, aw, Int.toNat_natCast, eq_iff_iff]
 constructor
 ·rintro ⟨_, h, h2⟩; refine ⟨h, ?_⟩; simpa [ints, h] using h2
 ·rintro ⟨h, h2⟩; refine ⟨by omega, h, ?_⟩; simpa [ints, h] using h2
theorem rE (l : List Int) (n : Int) : ints l ++ [.int .i64 n] = ints (l ++ [n]) := by simp [ints]
theorem ok_int (k : IntKind) (n : Int) : tb 1 [.int k n] = True := by simp [tb, AV.cells, AV.one]
theorem lQ (l : List Int) : tb 1 (ints l) = True := by
 simp only [tb, eq_iff_iff, iff_true]
 intro y hy
 obtain ⟨z, _, rfl⟩ := List.mem_map.1 hy
 exact ⟨rfl, rfl⟩
theorem R6 (x : T) : tb 3 [x.av] = True := by
 simp only [tb, eq_iff_iff, iff_true]
 intro y hy
 rw [List.mem_singleton] at hy
 subst hy
 exact ⟨x.gB, x.pf⟩
theorem R7 (k : IntKind) (n : Int) : aT (.int k n) = .int k n := _root_.id rfl
theorem Y4 (x : T) : aT x.av = x.av := by cases x; rfl
theorem bs0 (z : AV) (esz : Nat) (φ : List AV → Prop) : bk (List.replicate 0 z) esz [] φ = φ [] := _root_.id rfl
theorem bs1 (z x : AV) (esz : Nat) (φ : List AV → Prop) : bk (List.replicate 1 (aT z)) esz [(0, x)] φ = (x.val = true ∧ x.cells.length = esz ∧ φ [aT x]) := by
 simp [bk]
theorem bs2 (z x y : AV) (esz : Nat) (φ : List AV → Prop) : bk (List.replicate 2 (aT z)) esz [(0, x), (1, y)] φ = (x.val = true ∧ x.cells.length = esz ∧ y.val = true ∧ y.cells.length = esz ∧ φ [aT x, aT y]) := by
 simp [bk, List.replicate]
theorem bs3 (z x y u : AV) (esz : Nat) (φ : List AV → Prop) : bk (List.replicate 3 (aT z)) esz [(0, x), (1, y), (2, u)] φ = (x.val = true ∧ x.cells.length = esz ∧ y.val = true ∧ y.cells.length = esz ∧ u.val = true ∧ u.cells.length = esz ∧ φ [aT x, aT y, aT u]) := by
 simp [bk, List.replicate]
@[congr] theorem Ls {xs : List AV} {esz : Nat} {ps ps' : List (Nat × AV)} {φ : List AV → Prop} (h : fY ps = ps') : bk xs esz ps φ = bk xs esz ps' φ := by subst h; rfl
def R8 := (And.intro (And.intro (And.intro (And.intro @or_true @true_or) (And.intro @true_and @and_true)) (And.intro (And.intro @true_implies @Bool.true_and) (And.intro @Bool.and_true (And.intro @Bool.not_true @Bool.not_false)))) (And.intro (And.intro (And.intro @decide_true @decide_false) (And.intro @Classical.not_not @not_true_eq_false)) (And.intro (And.intro @not_false_eq_true @false_implies) (And.intro @Int.not_le (And.intro @Int.not_lt @Nat.le_refl)))))
def R9 := (And.intro (And.intro (And.intro (And.intro (And.intro @tS @T.pe) (And.intro @dX @T.vu)) (And.intro (And.intro @T.pf @T.ni) (And.intro @T.qp @T.BY))) (And.intro (And.intro (And.intro @T.Eb @T.gB) (And.intro @T.nZ @JS)) (And.intro (And.intro @NG @BZ) (And.intro @Y2 (And.intro @Y3 @NH))))) (And.intro (And.intro (And.intro (And.intro @fk @fn_) (And.intro @fl @aw)) (And.intro (And.intro @bj @dx) (And.intro @JT @rE))) (And.intro (And.intro (And.intro @ok_int @R6) (And.intro @lQ @R7)) (And.intro (And.intro @Y4 @bs0) (And.intro @bs1 (And.intro @bs2 @bs3))))))
theorem sZa {α : Type} (a b : α) (h : Decidable True) : (if True then a else b) = a := if_pos trivial
def sZ := And.intro R5 (And.intro R9 (And.intro R8 (And.intro @sZa (And.intro @ne_eq.{1} (And.intro @forall_const.{1} (And.intro @implies_true.{0} (And.intro @implies_true.{1} (And.intro @List.nil_append.{0} (And.intro @List.append_nil.{0} (And.intro @List.cons_append.{0} (And.intro @List.length_cons.{0} @List.length_nil.{0})))))))))))
end Go.aL
end
section
end
section
set_option maxRecDepth 100000
namespace Go.aL
open Go Go.Proofs
theorem iu {l : List T} {i : Nat} (h : i < l.length) : l.getD i default ∈ l := by simp [h]
theorem T.lt {x y : T} (h : x ∈ y.l) : SizeOf.sizeOf x < SizeOf.sizeOf y := by
 cases y with
 | mk k n l =>
   have := List.sizeOf_lt_of_mem h
   simp only [T.l] at this
   simp only [T.mk.sizeOf_spec]
   omega
end Go.aL
end
section
set_option maxRecDepth 100000
namespace Go.aL
open Go Go.Proofs
end Go.aL
end
section
set_option maxRecDepth 100000
namespace Go.aL
open Go Go.Proofs
mutual
def fP : T → Int → Int × Int → Int × Int
 | .mk _ _ l, d, s => kx l (d + 1) (s.1 + 1, max s.2 d)
def kx : List T → Int → Int × Int → Int × Int
 | [], _, s => s
 | x :: r, d, s => if 2000 < s.1 ∨ 200 < s.2 then s else kx r d (fP x d s)
end
def oJ (d : Int) (s : Int × Int) : Prop := 0 ≤ s.1 ∧ s.1 ≤ 2000 ∧ 0 ≤ s.2 ∧ s.2 ≤ 200 ∧ 0 ≤ d ∧ d ≤ 201
def lR (s : Int × Int) : Prop := 0 ≤ s.1 ∧ s.1 ≤ 2001 ∧ 0 ≤ s.2 ∧ s.2 ≤ 201
mutual
theorem vv : ∀ (x : T) (d : Int) (s : Int × Int), oJ d s → lR (fP x d s) ∧ (fP x d s).2 ≥ d
 | .mk k n l, d, s, h => by
   simp only [fP]
   obtain ⟨h1, h2, h3, h4, h5, h6⟩ := h
   have := B0 l (d + 1) (s.1 + 1, max s.2 d) (by unfold lR; simp only; omega) (by omega) (by simp only; omega)
   refine ⟨this.1, ?_⟩
   have h := this.2
   simp only at h
   omega
theorem B0 : ∀ (l : List T) (d : Int) (s : Int × Int), lR s → 0 ≤ d → d ≤ s.2 + 1 → lR (kx l d s) ∧ s.2 ≤ (kx l d s).2
 | [], d, s, h, _, _ => by simp [kx, h]
 | x :: r, d, s, h, hd, F7 => by
   simp only [kx]
   split
   ·exact ⟨h, Int.le_refl _⟩
   ·rename_i hn
    obtain ⟨h1, h2, h3, h4⟩ := h
    have hx := vv x d s ⟨h1, by omega, h3, by omega, hd, by omega⟩
    have hr := B0 r d (fP x d s) hx.1 hd (by omega)
    have := rF x d s
    exact ⟨hr.1, by omega⟩
theorem rF : ∀ (x : T) (d : Int) (s : Int × Int), s.2 ≤ (fP x d s).2
 | .mk k n l, d, s => by
   simp only [fP]
   have := xT l (d + 1) (s.1 + 1, max s.2 d)
   simp only at this
   omega
theorem xT : ∀ (l : List T) (d : Int) (s : Int × Int), s.2 ≤ (kx l d s).2
 | [], d, s => by simp [kx]
 | x :: r, d, s => by
   simp only [kx]
   split
   ·omega
   ·have h1 := rF x d s
    have h2 := xT r d (fP x d s)
    omega
end
theorem Hm {l : List T} {i : Nat} {d : Int} {s : Int × Int} (h : i < l.length) : kx (l.drop i) d s = if 2000 < s.1 ∨ 200 < s.2 then s else kx (l.drop (i + 1)) d (fP (l.getD i default) d s) := by
 rw [List.drop_eq_getElem_cons h]
 simp [kx, h]
def ey (s : Int × Int) : List aa := [.cells [.int .i64 s.1, .int .i64 s.2]]
theorem Sa (H : List aa) (x : T) (d : Int) (s : Int × Int) (hs : oJ d s) :
 au Tryz.prog 171 [.ptr H.length 0, x.av, .int .i64 d] (H ++ ey s) fun r H' => r = .tuple [] ∧ H' = H ++ ey (fP x d s) := by
 have ih : ∀ y ∈ x.l, ∀ (d : Int) (s : Int × Int), oJ d s → au Tryz.prog 171 [.ptr H.length 0, y.av, .int .i64 d] (H ++ ey s) fun r H' => r = .tuple [] ∧ H' = H ++ ey (fP y d s) :=
  fun y hy d s hs => Sa H y d s hs
 have e : fP x d s = kx x.l (d + 1) (s.1 + 1, max s.2 d) := by cases x; simp only [fP, T.l]
 obtain ⟨h1, h2, h3, h4, h5, h6⟩ := hs
 have w1 : IntKind.i64.wrap (s.1 + 1) = s.1 + 1 := dG _ (by omega)
 have w2 : IntKind.i64.wrap (d + 1) = d + 1 := dG _ (by omega)
 refine Md.2.calls rfl ?_
 simp only [Md, aJ]
 simp only [w1, ey, sZ, Nat.reduceEqDiff, Nat.reduceAdd, Nat.reduceLT, Nat.reduceLeDiff, ↓reduceIte, reduceCtorEq]
 intro hl
 have H7 : lR (s.1 + 1, max s.2 d) := by unfold lR; simp only; omega
 have YD : d ≤ max s.2 d := by omega
 generalize max s.2 d = m at *
 refine aO x.l.length (fun i (t : Int × Int) => lR t ∧ d ≤ t.2 ∧ kx (x.l.drop i) (d + 1) t = fP x d s)
  (fun i t => [(0, .ptr H.length 0), (2, .int .i64 d), (25, .aq 0 (cK x.l)), (26, .int .i64 x.l.length), (27, .int .i64 i)]) (fun i t => H ++ ey t) (s.1 + 1, m) ⟨⟨H7, YD, by rw [e]; rfl⟩, aB _ _ _⟩ fun i t hi hI => ?_
 obtain ⟨⟨k1, k2, k3, k4⟩, k5, hI⟩ := hI
 simp only [w2, ey, sZ, Nat.reduceEqDiff, Nat.reduceAdd, Nat.reduceLT, ↓reduceIte, reduceCtorEq]
 refine ⟨fun a8 => ⟨b7 a8, ?_⟩, fun jL => ?_⟩
 ·have a8 := b7 a8
  rw [Hm a8] at hI
  refine ⟨fun Y5 => ⟨fun XQ => ?_, fun XQ => ?_⟩, fun Y5 => ?_⟩
  ·rw [if_pos (.inr XQ)] at hI; rw [← hI]; exact qn (by simp [ey]) rfl
  ·rw [if_neg (by omega)] at hI
   have ho : oJ (d + 1) t := ⟨k1, by omega, k3, by omega, by omega, by omega⟩
   have hx := vv (x.l.getD i default) (d + 1) t ho
   refine ag (ih _ (iu a8) (d + 1) t ho) ?_
   rintro r H' ⟨rfl, rfl⟩
   simp only [ey, sZ, Nat.reduceEqDiff, ↓reduceIte, reduceCtorEq]
   exact ⟨i + 1, fP (x.l.getD i default) (d + 1) t, ⟨a8, hx.1, by omega, hI⟩, by omega, aH (by rw [ax i (by omega)]) rfl⟩
  ·rw [if_pos (.inl Y5)] at hI; rw [← hI]; exact qn (by simp [ey]) rfl
 ·rw [List.drop_of_length_le (dl jL)] at hI
  rw [← hI]
  exact qn (by simp [ey]) rfl
termination_by SizeOf.sizeOf x
decreasing_by exact T.lt hy
def sR (s : Int × Int) : Bool := decide (2000 < s.1) || decide (200 < s.2)
theorem VS (H : List aa) (s : Int × Int) : au Tryz.prog 172 [.ptr H.length 0] (H ++ ey s) fun r H' => r = .bool (sR s) ∧ H' = H ++ ey s := by
 refine Me.2.calls rfl ?_
 simp only [Me, aJ]
 simp only [ey, sZ, Nat.reduceEqDiff, Nat.reduceAdd, Nat.reduceLT, ↓reduceIte, reduceCtorEq]
 refine ⟨fun h => ?_, fun h => ?_⟩
 ·exact R3 (by simp [ey]) rfl (by simp [sR, Int.not_lt.2 h]) rfl
 ·exact R3 (by simp [ey]) rfl (by simp [sR, h]) rfl
def rG (p : T → Bool) : List T → Int → Int
 | [], _ => -1
 | x :: r, k => if p x = true then k else rG p r (k + 1)
theorem vw (p : T → Bool) : ∀ (l : List T) (k : Int), 0 ≤ k → (decide (0 ≤ rG p l k) = l.any p)
 | [], k, _ => by simp [rG]
 | x :: r, k, h => by
   simp only [rG, List.any_cons]
   split
   ·rename_i hp; simp [hp, h]
   ·rename_i hp; simp [hp, vw p r (k + 1) (by omega)]
theorem xU {p : T → Bool} {l : List T} {i : Nat} {k : Int} (h : i < l.length) : rG p (l.drop i) k = if p (l.getD i default) = true then k else rG p (l.drop (i + 1)) (k + 1) := by
 rw [List.drop_eq_getElem_cons h]
 simp [rG, h]
theorem Y6 (g : Nat) (p : T → Bool) (l : List T) (hf : ∀ x ∈ l, Pure Tryz.prog g [x.av] (.bool (p x))) :
 Pure Tryz.prog 114 [.aq 0 (cK l), .fn (.func g) [] []] (.int .i64 (rG p l 0)) := by
 refine fun H => Bs.2.calls rfl ?_
 simp only [Bs, aJ]
 simp only [sZ, Nat.reduceEqDiff, Nat.reduceAdd, ↓reduceIte, reduceCtorEq]
 intro hl
 refine aD l.length (fun i => rG p (l.drop i) i = rG p l 0) (fun i => [(0, .aq 0 (cK l)), (1, .fn (.func g) [] []), (7, .int .i64 l.length), (8, .int .i64 i)]) (fun _ => H) ⟨rfl, aB _ _ _⟩ fun i hi hI => ?_
 simp only [sZ, Nat.reduceEqDiff, Nat.reduceAdd, ↓reduceIte, reduceCtorEq]
 refine ⟨fun a8 => ?_, fun jL => ?_⟩
 ·have a8 := b7 a8
  rw [xU a8] at hI
  refine ⟨a8, af (hf _ (iu a8)) ?_⟩
  simp only [sZ, Nat.reduceEqDiff, ↓reduceIte, reduceCtorEq]
  refine tP (fun hb => ?_) (fun hb => ?_) <;> simp only [sZ, Nat.reduceEqDiff, ↓reduceIte, reduceCtorEq]
  ·rw [if_pos hb] at hI
   exact a9 rfl (by rw [← hI])
  ·rw [if_neg (by rw [hb]; simp)] at hI
   exact ⟨i + 1, ⟨a8, hI⟩, by omega, aH (by rw [ax i (by omega)]) rfl⟩
 ·rw [List.drop_of_length_le (dl jL)] at hI
  exact a9 rfl (by rw [← hI]; rfl)
theorem c53 (g : Nat) (p : T → Bool) (l : List T) (hf : ∀ x ∈ l, Pure Tryz.prog g [x.av] (.bool (p x))) :
 Pure Tryz.prog 53 [.aq 0 (cK l), .fn (.func g) [] []] (.bool (l.any p)) := by
 refine fun H => OK.2.calls rfl ?_
 simp only [OK, aJ]
 simp only [sZ, Nat.reduceEqDiff, Nat.reduceAdd, ↓reduceIte, reduceCtorEq]
 refine af (Y6 g p l hf) ?_
 simp only [sZ, ↓reduceIte, reduceCtorEq]
 exact a9 rfl (by rw [vw p l 0 (by omega)])
mutual
def T.shaped : T → Bool
 | .mk k n l => !(decide (n < 0) || (decide (k = 1) && decide (0 < l.length)) || (decide (k ≠ 1) && decide (k ≠ 2)) || decide (8 < l.length)) && fc l
def fc : List T → Bool
 | [] => true
 | x :: r => x.shaped && fc r
end
theorem nj : ∀ l, fc l = l.all T.shaped
 | [] => rfl
 | x :: r => by simp only [fc, List.all_cons, nj r]
theorem B1 (l : List T) : (!(l.any fun x => !x.shaped)) = fc l := by
 rw [nj]
 induction l with
 | nil => rfl
 | cons x r ih => simp only [List.any_cons, List.all_cons, Bool.not_or, Bool.not_not, ih]
theorem T.fU (x : T) : x.shaped = (!(decide (x.n < 0) || (decide (x.k = 1) && decide (0 < x.l.length)) || (decide (x.k ≠ 1) && decide (x.k ≠ 2)) || decide (8 < x.l.length)) && fc x.l) := by
 cases x; simp only [T.shaped, T.k, T.n, T.l]; rfl
theorem zQ {l : List T} {i : Nat} (h : i < l.length) : fc (l.drop i) = ((l.getD i default).shaped && fc (l.drop (i + 1))) := by
 rw [List.drop_eq_getElem_cons h]
 simp [fc, h]
theorem T.Hn {x : T} (hh : ¬ (x.n < 0 ∨ (x.k = 1 ∧ 0 < x.l.length) ∨ (x.k ≠ 1 ∧ x.k ≠ 2) ∨ 8 < x.l.length)) : x.shaped = fc x.l := by
 rw [x.fU]
 have h1 : decide (x.n < 0) = false := Bool.eq_false_iff.2 (by simp only [ne_eq, decide_eq_true_eq]; omega)
 have h2 : (decide (x.k = 1) && decide (0 < x.l.length)) = false := Bool.eq_false_iff.2 (by simp only [ne_eq, Bool.and_eq_true, decide_eq_true_eq]; omega)
 have h3 : (decide (x.k ≠ 1) && decide (x.k ≠ 2)) = false := Bool.eq_false_iff.2 (by simp only [ne_eq, Bool.and_eq_true, decide_eq_true_eq]; omega)
 have h4 : decide (8 < x.l.length) = false := Bool.eq_false_iff.2 (by simp only [ne_eq, decide_eq_true_eq]; omega)
 rw [h1, h2, h3, h4]; rfl
theorem Y7 (x : T) (h : Pure Tryz.prog 173 [x.av] (.bool x.shaped)) : Pure Tryz.prog 211 [x.av] (.bool (!x.shaped)) := by
 refine fun H => Mo.2.calls rfl ?_
 simp only [Mo, aJ]
 simp only [sZ, Nat.reduceEqDiff, Nat.reduceAdd, ↓reduceIte]
 refine af h ?_
 simp only [sZ, ↓reduceIte, reduceCtorEq]
 exact a9 rfl rfl
theorem VT (x : T) : Pure Tryz.prog 173 [x.av] (.bool x.shaped) := by
 have ih : ∀ y ∈ x.l, Pure Tryz.prog 211 [y.av] (.bool (!y.shaped)) := fun y hy => Y7 y (VT y)
 refine fun H => Mf.2.calls rfl ?_
 simp only [Mf, aJ]
 simp +contextual only [sZ, Nat.reduceEqDiff, Nat.reduceAdd, ↓reduceIte, reduceCtorEq]
 have fin : ∀ (H' : List aa), H' = H → (x.n < 0 ∨ (x.k = 1 ∧ 0 < x.l.length) ∨ (x.k ≠ 1 ∧ x.k ≠ 2) ∨ 8 < x.l.length) → bV H.length [RX.t 2] [(2, AV.bool false)] H' fun r H' => r = AV.bool x.shaped ∧ H' = H := by
  rintro H' rfl hh
  refine a9 rfl ?_
  rw [x.fU]
  rcases hh with h | h | h | h <;> simp [h]
 have go : ¬ (x.n < 0 ∨ (x.k = 1 ∧ 0 < x.l.length) ∨ (x.k ≠ 1 ∧ x.k ≠ 2) ∨ 8 < x.l.length) → x.shaped = fc x.l := by
  intro hh
  rw [x.fU]
  have h1 : decide (x.n < 0) = false := Bool.eq_false_iff.2 (by simp only [ne_eq, decide_eq_true_eq]; omega)
  have h2 : (decide (x.k = 1) && decide (0 < x.l.length)) = false := Bool.eq_false_iff.2 (by simp only [ne_eq, Bool.and_eq_true, decide_eq_true_eq]; omega)
  have h3 : (decide (x.k ≠ 1) && decide (x.k ≠ 2)) = false := Bool.eq_false_iff.2 (by simp only [ne_eq, Bool.and_eq_true, decide_eq_true_eq]; omega)
  have h4 : decide (8 < x.l.length) = false := Bool.eq_false_iff.2 (by simp only [ne_eq, decide_eq_true_eq]; omega)
  rw [h1, h2, h3, h4]; rfl
 refine ⟨fun h => fin _ rfl (.inl h), fun h => ⟨fun h1 hl => ⟨fun h2 => fin _ rfl (by omega), fun h2 => ⟨fun h3 => fin _ rfl (by omega), fun h3 => af (c53 211 _ _ ih) ?_⟩⟩,
  fun h1 => ⟨fun h2 => fin _ rfl (by omega), fun h2 hl => ⟨fun h3 => fin _ rfl (by omega), fun h3 => af (c53 211 _ _ ih) ?_⟩⟩⟩⟩ <;>
 ·simp only [sZ, ↓reduceIte, reduceCtorEq]
  exact a9 rfl (by rw [go (by omega), B1])
termination_by SizeOf.sizeOf x
decreasing_by exact T.lt hy
def T.tree (x : T) : Bool := !sR (fP x 1 (0, 0)) && x.shaped
theorem Y8 (x : T) : Pure Tryz.prog 108 [x.av] (.bool x.tree) := by
 refine fun H => L8.2.calls rfl ?_
 simp only [L8, aJ]
 simp only [sZ, Nat.reduceEqDiff, Nat.reduceAdd, ↓reduceIte, reduceCtorEq]
 refine ag (Sa H x 1 (0, 0) (by unfold oJ; simp)) ?_
 rintro r H' ⟨rfl, rfl⟩
 simp only [sZ, Nat.reduceEqDiff, Nat.reduceAdd, ↓reduceIte]
 refine ag (VS H (fP x 1 (0, 0))) ?_
 rintro r H' ⟨rfl, rfl⟩
 cases hb : sR (fP x 1 (0, 0)) <;> simp +contextual only [sZ, Nat.reduceEqDiff, Nat.reduceAdd, ↓reduceIte, reduceCtorEq]
 ·refine af (VT x) ?_
  simp only [sZ, Nat.reduceEqDiff, ↓reduceIte, reduceCtorEq]
  exact JP rfl (by simp [T.tree, hb])
 ·exact JP rfl (by simp [T.tree, hb])
mutual
def gC : T → Int → Int → Int × Bool
 | .mk _ _ l, left, deep => if left - 1 < 0 ∨ 200 < deep then (left - 1, false) else lS l (left - 1) (deep + 1)
def lS : List T → Int → Int → Int × Bool
 | [], left, _ => (left, true)
 | x :: r, left, deep => if (gC x left deep).2 = true then lS r (gC x left deep).1 deep else ((gC x left deep).1, false)
end
mutual
theorem zR : ∀ (x : T) (left deep : Int), (gC x left deep).1 ≤ left ∧ (0 ≤ left → -1 ≤ (gC x left deep).1 ∧ ((gC x left deep).2 = true → 0 ≤ (gC x left deep).1))
 | .mk k n l, left, deep => by
   simp only [gC]
   split
   ·simp; omega
   ·rename_i hn
    have := Fv l (left - 1) (deep + 1)
    exact ⟨by omega, fun _ => this.2 (by omega)⟩
theorem Fv : ∀ (l : List T) (left deep : Int), (lS l left deep).1 ≤ left ∧ (0 ≤ left → -1 ≤ (lS l left deep).1 ∧ ((lS l left deep).2 = true → 0 ≤ (lS l left deep).1))
 | [], left, deep => by simp [lS]; omega
 | x :: r, left, deep => by
   have h1 := zR x left deep
   simp only [lS]
   split
   ·rename_i hb
    have h2 := Fv r (gC x left deep).1 deep
    exact ⟨by omega, fun h0 => h2.2 ((h1.2 h0).2 hb)⟩
   ·exact ⟨h1.1, fun h0 => ⟨(h1.2 h0).1, fun e => by cases e⟩⟩
end
theorem Ho {l : List T} {i : Nat} {left d : Int} (h : i < l.length) : lS (l.drop i) left d = if (gC (l.getD i default) left d).2 = true then lS (l.drop (i + 1)) (gC (l.getD i default) left d).1 d else ((gC (l.getD i default) left d).1, false) := by
 rw [List.drop_eq_getElem_cons h]
 simp [lS, h]
theorem VU (x : T) (left deep : Int) (h0 : 0 ≤ left) (h1 : left ≤ 100000) (h2 : 0 ≤ deep) (h3 : deep ≤ 201) :
 Pure Tryz.prog 214 [x.av, .int .i64 left, .int .i64 deep] (.tuple [.int .i64 (gC x left deep).1, .bool (gC x left deep).2]) := by
 have ih : ∀ y ∈ x.l, ∀ (left deep : Int), 0 ≤ left → left ≤ 100000 → 0 ≤ deep → deep ≤ 201 →
  Pure Tryz.prog 214 [y.av, .int .i64 left, .int .i64 deep] (.tuple [.int .i64 (gC y left deep).1, .bool (gC y left deep).2]) := fun y hy left deep h0 h1 h2 h3 => VU y left deep h0 h1 h2 h3
 have e : gC x left deep = if left - 1 < 0 ∨ 200 < deep then (left - 1, false) else lS x.l (left - 1) (deep + 1) := by cases x; simp only [gC, T.l]
 have w1 : IntKind.i64.wrap (left - 1) = left - 1 := dG _ (by omega)
 have w2 : IntKind.i64.wrap (deep + 1) = deep + 1 := dG _ (by omega)
 refine fun H => Vc.2.calls rfl ?_
 simp only [Vc, aJ]
 simp +contextual only [w1, sZ, Nat.reduceEqDiff, Nat.reduceAdd, ↓reduceIte, reduceCtorEq]
 refine ⟨fun h4 => ⟨fun h5 => BU (by decide) rfl rfl (by rw [e, if_pos (.inr h5)]; rfl) (by rw [e, if_pos (.inr h5)]; rfl), fun h5 => ?_⟩, fun h4 => BU (by decide) rfl rfl (by rw [e, if_pos (.inl h4)]; rfl) (by rw [e, if_pos (.inl h4)]; rfl)⟩
 have e2 : gC x left deep = lS x.l (left - 1) (deep + 1) := by rw [e, if_neg (by omega)]
 refine aO x.l.length (fun i (s : Int) => 0 ≤ s ∧ s ≤ 100000 ∧ lS (x.l.drop i) s (deep + 1) = gC x left deep)
  (fun i s => [(1, .int .i64 s), (2, .int .i64 deep), (3, x.av.aj), (8, .int .i64 i)]) (fun i s => H) (left - 1) ⟨⟨by omega, by omega, by rw [e2]; rfl⟩, aB _ _ _⟩ fun i s hi hI => ?_
 obtain ⟨k0, k1, hI⟩ := hI
 simp +contextual only [w2, sZ, Nat.reduceEqDiff, Nat.reduceAdd, ↓reduceIte, reduceCtorEq]
 intro hl
 refine ⟨fun a8 => ⟨b7 a8, ?_⟩, fun jL => ?_⟩
 ·have a8 := b7 a8
  rw [Ho a8] at hI
  have hle := zR (x.l.getD i default) s (deep + 1)
  refine af (ih _ (iu a8) s (deep + 1) k0 k1 (by omega) (by omega)) ?_
  simp +contextual only [sZ, Nat.reduceEqDiff, Nat.reduceAdd, Nat.reduceLT, ↓reduceIte]
  refine tP (fun hb => ?_) (fun hb => ?_) <;> simp +contextual only [sZ, Nat.reduceEqDiff, ↓reduceIte, reduceCtorEq]
  ·rw [if_pos hb] at hI
   exact ⟨i + 1, _, ⟨a8, (hle.2 k0).2 hb, by omega, hI⟩, by omega, aH (by rw [ax i (by omega)]) rfl⟩
  ·rw [if_neg (by rw [hb]; simp)] at hI
   exact BU (by decide) rfl rfl (by rw [← hI]; rfl) (by rw [← hI]; rfl)
 ·rw [List.drop_of_length_le (dl jL)] at hI
  exact BU (by decide) rfl rfl (by rw [← hI]; rfl) (by rw [← hI]; rfl)
termination_by SizeOf.sizeOf x
decreasing_by exact T.lt hy
theorem VV (x : T) : Pure Tryz.prog 215 [x.av] (.bool x.shaped) := by
 have ih : ∀ y ∈ x.l, Pure Tryz.prog 215 [y.av] (.bool y.shaped) := fun y hy => VV y
 refine fun H => Vd.2.calls rfl ?_
 simp only [Vd, aJ]
 simp +contextual only [sZ, Nat.reduceEqDiff, Nat.reduceAdd, ↓reduceIte, reduceCtorEq, Int.reduceEq]
 have fin : ∀ (H' : List aa), H' = H → (x.n < 0 ∨ (x.k = 1 ∧ 0 < x.l.length) ∨ (x.k ≠ 1 ∧ x.k ≠ 2) ∨ 8 < x.l.length) → bV H.length [RX.t 2] [(2, AV.bool false)] H' fun r H' => r = AV.bool x.shaped ∧ H' = H := by
  rintro H' rfl hh
  refine a9 rfl ?_
  rw [x.fU]
  rcases hh with h | h | h | h <;> simp [h]
 refine ⟨fun h => ⟨fun h1 => ⟨fun h2 hl => ⟨fun h3 => fin _ rfl (by omega), fun h3 => ?_⟩, fun h2 => fin _ rfl (by omega)⟩, fun h1 hl => ⟨fun h2 => ⟨fun h3 => fin _ rfl (by omega), fun h3 => ?_⟩, fun h2 => fin _ rfl (by omega)⟩⟩, fun h => fin _ rfl (by omega)⟩
 all_goals
  have go : x.shaped = fc x.l := T.Hn (by omega)
  refine aD x.l.length (fun i => fc (x.l.drop i) = x.shaped) (fun i => [(1, x.av.aj), (3, .int .i64 i)]) (fun i => H) ⟨by rw [go]; rfl, aB _ _ _⟩ fun i hi hI => ?_
  simp +contextual only [sZ, Nat.reduceEqDiff, Nat.reduceAdd, ↓reduceIte, reduceCtorEq]
  intro _
  refine ⟨fun a8 => ⟨b7 a8, ?_⟩, fun jL => ?_⟩
  ·have a8 := b7 a8
   rw [zQ a8] at hI
   refine af (ih _ (iu a8)) ?_
   simp +contextual only [sZ, Nat.reduceEqDiff, ↓reduceIte]
   refine tP (fun hb => ?_) (fun hb => ?_) <;> simp +contextual only [sZ, Nat.reduceEqDiff, ↓reduceIte, reduceCtorEq]
   ·exact ⟨i + 1, ⟨a8, by rw [hb] at hI; simpa using hI⟩, by omega, aH (by rw [ax i (by omega)]) rfl⟩
   ·exact a9 rfl (by rw [← hI, hb]; rfl)
  ·rw [List.drop_of_length_le (dl jL)] at hI
   exact a9 rfl (by rw [← hI]; rfl)
termination_by SizeOf.sizeOf x
decreasing_by exact T.lt hy
theorem Y9 (x : T) : Pure Tryz.prog 175 [x.av] (.bool ((gC x 2000 1).2 && x.shaped)) := by
 refine fun H => UQ.2.calls rfl ?_
 simp only [UQ, aJ]
 simp +contextual only [sZ, Nat.reduceEqDiff, Nat.reduceAdd, ↓reduceIte]
 refine af (VU x 2000 1 (by omega) (by omega) (by omega) (by omega)) ?_
 cases hb : (gC x 2000 1).2 <;> simp +contextual only [sZ, Nat.reduceEqDiff, Nat.reduceAdd, Nat.reduceLT, ↓reduceIte, reduceCtorEq]
 ·exact a9 rfl rfl
 ·refine af (VV x) ?_
  simp +contextual only [sZ, Nat.reduceEqDiff, ↓reduceIte, reduceCtorEq]
  exact a9 rfl rfl
end Go.aL
end
section
set_option maxRecDepth 100000
namespace Go.aL
open Go Go.Proofs
mutual
def T.sz : T → Int
 | .mk _ _ l => 1 + Ec l
def Ec : List T → Int
 | [] => 0
 | x :: r => x.sz + Ec r
end
mutual
def T.dp : T → Int
 | .mk _ _ l => 1 + HX l
def HX : List T → Int
 | [] => 0
 | x :: r => max x.dp (HX r)
end
mutual
theorem T.Ed : ∀ x : T, 1 ≤ x.sz
 | .mk k n l => by simp only [T.sz]; have := qq l; omega
theorem qq : ∀ l : List T, 0 ≤ Ec l
 | [] => by simp [Ec]
 | x :: r => by simp only [Ec]; have := T.Ed x; have := qq r; omega
end
mutual
theorem T.zS : ∀ x : T, 1 ≤ x.dp
 | .mk k n l => by simp only [T.dp]; have := n7 l; omega
theorem n7 : ∀ l : List T, 0 ≤ HX l
 | [] => by simp [HX]
 | x :: r => by simp only [HX]; have := T.zS x; have := n7 r; omega
end
def ew (s : Int × Int) : Prop := 2000 < s.1 ∨ 200 < s.2
mutual
theorem rH : ∀ (x : T) (d : Int) (s : Int × Int), oJ d s → (¬ ew (fP x d s) ↔ s.1 + x.sz ≤ 2000 ∧ d + x.dp - 1 ≤ 200) ∧ (¬ ew (fP x d s) → (fP x d s).1 = s.1 + x.sz ∧ (fP x d s).2 = max s.2 (d + x.dp - 1))
 | .mk k n l, d, s, h => by
   obtain ⟨h1, h2, h3, h4, h5, h6⟩ := h
   simp only [fP, T.sz, T.dp]
   have hp := n7 l
   have ih := xV l (d + 1) (s.1 + 1, max s.2 d) (by unfold lR; simp only; omega) (by omega) (by simp only; omega)
   simp only at ih
   refine ⟨ih.1.trans ⟨fun k => ⟨by omega, by omega⟩, fun k => ⟨by omega, by omega, by omega⟩⟩, fun k => ?_⟩
   have k1 := ih.2 k
   have k2 := ih.1.1 k
   exact ⟨by omega, by omega⟩
theorem xV : ∀ (l : List T) (d : Int) (s : Int × Int), lR s → 0 ≤ d → d ≤ s.2 + 1 → (¬ ew (kx l d s) ↔ s.1 + Ec l ≤ 2000 ∧ s.2 ≤ 200 ∧ d + HX l - 1 ≤ 200) ∧ (¬ ew (kx l d s) → (kx l d s).1 = s.1 + Ec l ∧ (kx l d s).2 = max s.2 (d + HX l - 1))
 | [], d, s, h, h5, h6 => by
   simp only [kx, Ec, HX, ew]
   exact ⟨⟨fun k => ⟨by omega, by omega, by omega⟩, fun k => by omega⟩, fun k => ⟨by omega, by omega⟩⟩
 | x :: r, d, s, h, h5, h6 => by
   obtain ⟨h1, h2, h3, h4⟩ := h
   simp only [kx]
   have Io := x.Ed
   have hd0 := x.zS
   have Yz := qq r
   have Yr := n7 r
   simp only [Ec, HX]
   by_cases ho : 2000 < s.1 ∨ 200 < s.2
   ·rw [if_pos ho]
    refine ⟨⟨fun k => absurd ho k, fun k => ?_⟩, fun k => absurd ho k⟩
    omega
   ·rw [if_neg ho]
    have jN : oJ d s := ⟨h1, by omega, h3, by omega, h5, by omega⟩
    have hx := rH x d s jN
    have VW := vv x d s jN
    have Pk := rF x d s
    have ih := xV r d (fP x d s) VW.1 h5 (by omega)
    generalize fP x d s = t at *
    by_cases XR : ew t
    ·have hn : ew (kx r d t) := by
      refine Classical.byContradiction fun hc => ?_
      have := ih.1.1 hc
      unfold ew at XR
      omega
     refine ⟨⟨fun k => absurd hn k, fun k => ?_⟩, fun k => absurd hn k⟩
     have := hx.1.2 (by omega)
     exact absurd XR this
    ·have k1 := hx.2 XR
     have k2 := hx.1.1 XR
     refine ⟨ih.1.trans ⟨fun k => ⟨by omega, by omega, by omega⟩, fun k => ⟨by omega, by omega, by omega⟩⟩, fun k => ?_⟩
     have k3 := ih.2 k
     exact ⟨by omega, by omega⟩
end
theorem rI (s : Int × Int) : sR s = true ↔ ew s := by simp [sR, ew]
mutual
theorem xW : ∀ (x : T) (left d : Int), 0 ≤ left → d ≤ 201 → ((gC x left d).2 = true ↔ x.sz ≤ left ∧ d + x.dp - 1 ≤ 200) ∧ ((gC x left d).2 = true → (gC x left d).1 = left - x.sz)
 | .mk k n l, left, d, h0, hd => by
   simp only [gC, T.sz, T.dp]
   have hp := n7 l
   have hs := qq l
   by_cases ho : left - 1 < 0 ∨ 200 < d
   ·rw [if_pos ho]
    refine ⟨⟨fun k => (by cases k), fun k => ?_⟩, fun k => (by cases k)⟩
    omega
   ·rw [if_neg ho]
    have ih := xX l (left - 1) (d + 1) (by omega) (by omega)
    exact ⟨ih.1.trans ⟨fun k => ⟨by omega, by omega⟩, fun k => ⟨by omega, by omega⟩⟩, fun k => by have := ih.2 k; omega⟩
theorem xX : ∀ (l : List T) (left d : Int), 0 ≤ left → d ≤ 201 → ((lS l left d).2 = true ↔ Ec l ≤ left ∧ d + HX l - 1 ≤ 200) ∧ ((lS l left d).2 = true → (lS l left d).1 = left - Ec l)
 | [], left, d, h0, hd => by simp only [lS, Ec, HX]; exact ⟨⟨fun _ => ⟨by omega, by omega⟩, fun _ => trivial⟩, fun _ => by omega⟩
 | x :: r, left, d, h0, hd => by
   simp only [lS, Ec, HX]
   have Io := x.Ed
   have hd0 := x.zS
   have Yz := qq r
   have Yr := n7 r
   have hx := xW x left d h0 hd
   have hle := zR x left d
   cases hb : (gC x left d).2 with
   | false =>
     rw [if_neg (by simp)]
     refine ⟨⟨fun k => (by cases k), fun k => ?_⟩, fun k => (by cases k)⟩
     have := hx.1.2 (by omega)
     rw [hb] at this; cases this
   | true =>
     rw [if_pos rfl]
     have k1 := hx.2 hb
     have k2 := hx.1.1 hb
     have ih := xX r (gC x left d).1 d ((hle.2 h0).2 hb) hd
     exact ⟨ih.1.trans ⟨fun k => ⟨by omega, by omega⟩, fun k => ⟨by omega, by omega⟩⟩, fun k => by have := ih.2 k; omega⟩
end
theorem T.kM (x : T) : x.tree = true ↔ x.sz ≤ 2000 ∧ x.dp ≤ 200 ∧ x.shaped = true := by
 have h := (rH x 1 (0, 0) (by unfold oJ; simp)).1
 unfold T.tree
 rw [Bool.and_eq_true, Bool.not_eq_true', ← Bool.not_eq_true, rI]
 constructor
 ·rintro ⟨h1, h2⟩
  have := h.1 h1
  simp only at this
  exact ⟨by omega, by omega, h2⟩
 ·rintro ⟨h1, h2, h3⟩
  exact ⟨h.2 (by simp only; omega), h3⟩
theorem Sb (x : T) : ((gC x 2000 1).2 && x.shaped) = x.tree := by
 have h := (xW x 2000 1 (by omega) (by omega)).1
 rw [Bool.eq_iff_iff, Bool.and_eq_true, h, T.kM]
 constructor
 ·rintro ⟨⟨h1, h2⟩, h3⟩; exact ⟨h1, by omega, h3⟩
 ·rintro ⟨h1, h2, h3⟩; exact ⟨⟨h1, by omega⟩, h3⟩
theorem VX (x : T) : Pure Tryz.prog 175 [x.av] (.bool x.tree) := by rw [← Sb]; exact Y9 x
def ents (vs : List Int) : List (AV × AV) := vs.map fun v => (.int .i64 v, .bool true)
def ja : List Int → AV
 | [] => .ah
 | v :: r => .aq 1 (ints (v :: r))
theorem je (vs : List Int) (n : Int) : AV.aq 1 (ints (vs ++ [n])) = ja (vs ++ [n]) := by
 cases vs <;> rfl
theorem JU (vs : List Int) : (ja vs).one = true := by cases vs <;> rfl
theorem JV (k : Nat) (vs : List Int) : (ja vs).aZ k = true := by
 cases vs with
 | nil => rfl
 | cons v r => simp only [ja, cR, bj]
theorem rJ (vs : List Int) (n : Int) (o : Nat) (ψ : List AV → Prop) : bF 1 8 (ja vs) (.aq o [.int .i64 n]) ψ = ((vs.length + 1) * 8 ≤ 140737488355328 ∧ ψ (ints (vs ++ [n]))) := by
 cases vs with
 | nil => simp [ja, nX, ok_int, ints]
 | cons v r =>
   show bF 1 8 (.aq 1 (ints (v :: r))) _ ψ = _
   rw [m9, ok_int, aw, rE]
   simp
end Go.aL
end
section
set_option maxRecDepth 100000
namespace Go.aL
open Go Go.Proofs
mutual
def VY (f : Int → T) : T → T
 | .mk k n l => if k = 1 then f n else .mk k n (Pl f l)
def Pl (f : Int → T) : List T → List T
 | [] => []
 | x :: r => VY f x :: Pl f r
end
def Ee : List T → AV
 | [] => .ah
 | v :: r => .aq 3 (cK (v :: r))
theorem JW (l : List T) (x : T) : cK l ++ [x.av] = cK (l ++ [x]) := by simp [lP]
theorem Hp (vs : List T) (n : T) : AV.aq 3 (cK (vs ++ [n])) = Ee (vs ++ [n]) := by
 cases vs <;> rfl
theorem NI (b : Nat) (vs : List T) (n : T) (o : Nat) (ψ : List AV → Prop) : bF 3 b (Ee vs) (.aq o [n.av]) ψ = ((vs.length + 1) * b ≤ 140737488355328 ∧ ψ (cK (vs ++ [n]))) := by
 cases vs with
 | nil => simp [Ee, nX, R6, cK]
 | cons v r =>
   show bF 3 b (.aq 3 (cK (v :: r))) _ ψ = _
   rw [m9, R6, tS, JW]
   simp
theorem nk {x : T} (h : x.shaped = true) : x.l.length ≤ 8 ∧ ∀ y ∈ x.l, y.shaped = true := by
 rw [x.fU, Bool.and_eq_true, Bool.not_eq_true', Bool.or_eq_false_iff] at h
 have h1 := h.1.2
 have h2 := h.2
 rw [nj] at h2
 exact ⟨by simpa using h1, fun y hy => List.all_eq_true.1 h2 y hy⟩
end Go.aL
end
section
set_option maxRecDepth 100000
namespace Go.aL
open Go Go.Proofs
end Go.aL
end
section
set_option maxRecDepth 100000
namespace Go.aL
open Go Go.RowKit
mutual
def T.wf : T → Prop
 | .mk k n l => (-9223372036854775808 ≤ k ∧ k ≤ 9223372036854775807) ∧ (-9223372036854775808 ≤ n ∧ n ≤ 9223372036854775807) ∧ l.length ≤ 9223372036854775807 ∧ Tv l
def Tv : List T → Prop
 | [] => True
 | x :: r => x.wf ∧ Tv r
end
theorem Fx : ∀ l : List T, Tv l ↔ ∀ x ∈ l, x.wf
 | [] => by simp [Tv]
 | x :: r => by simp [Tv, Fx r]
section
variable {H : Type} {enc : TypeId × Value → H} {P : Program} {w : World} {base : Nat} {sp : Nat → Bool} {held : Bool}
structure Ef (P : Program) (ti tt tl : TypeId) : Prop where
 int : P.underlying ti = some (.int .i64)
 tree : ∃ f0 f1 f2 : Field, P.underlying tt = some (.struct #[f0, f1, f2]) ∧ f0.type = ti ∧ f0.offset = 0 ∧ f1.type = ti ∧ f1.offset = 1 ∧ f2.type = tl ∧ f2.offset = 2
 list : P.underlying tl = some (.slice tt)
 c1 : P.cellsOf ti = 1
 c3 : P.cellsOf tt = 3
 cl : P.cellsOf tl = 1
theorem JX {n : Int} (h : (Lit.int .i64 n).wf = true) : -9223372036854775808 ≤ n ∧ n ≤ 9223372036854775807 := by
 simp only [Lit.wf, Bool.and_eq_true, decide_eq_true_eq] at h
 revert h
 simp [IntKind.min, IntKind.max, IntKind.signed, IntKind.bits]
theorem Eg {n : Nat} {p : Nat → T → Prop} (h : ∀ i, i < n → ∃ t, p i t) : ∃ f : Nat → T, ∀ i, i < n → p i (f i) := by
 refine ⟨fun i => if hi : i < n then Classical.choose (h i hi) else default, fun i hi => ?_⟩
 simp only [dif_pos hi]
 exact Classical.choose_spec (h i hi)
def isT (w : World) (cs : List Value) (t : T) : Prop := aK (fg w) [] cs t.av.cells ∧ t.wf
def Sc (w : World) (cs : List Value) (l : List T) : Prop := (∃ v, cs = [v] ∧ (∃ y, aR (fg w) [] v y ∧ (y = .aq 0 (cK l) ∨ (y = .ah ∧ l = [])))) ∧ l.length ≤ 9223372036854775807 ∧ Tv l
theorem Sc.XE {cs : List Value} {l : List T} (h : Sc w cs l) : ∃ v, cs = [v] ∧ aR (fg w) [] v (.aq 0 (cK l)) := by
 obtain ⟨⟨v, rfl, y, hr, hy⟩, _⟩ := h
 refine ⟨v, rfl, ?_⟩
 rcases hy with rfl | ⟨rfl, rfl⟩
 ·exact hr
 ·exact hr.drop
def Pm (d : DataW H) (l : List T) : Prop := match d with | .slice es _ => l.length = es.length | _ => l = []
theorem Hq {ti tt tl : TypeId} (hT : Ef P ti tt tl) : ∀ (fuel : Nat),
 (∀ (cs : List Value) (x : DataW H × List MemPlace), DataW.trod enc P w base sp held fuel tt cs = some x → ∃ t : T, isT w cs t) ∧
 (∀ (cs : List Value) (x : DataW H × List MemPlace), DataW.trod enc P w base sp held fuel tl cs = some x → ∃ l : List T, Sc w cs l ∧ Pm x.1 l) := by
 intro fuel
 induction fuel with
 | zero => exact ⟨fun cs x h => by simp [DataW.trod] at h, fun cs x h => by simp [DataW.trod] at h⟩
 | succ n ih =>
   refine ⟨fun cs x h => ?_, fun cs x h => ?_⟩
   ·obtain ⟨f0, f1, f2, hu, h0, o0, h1, o1, h2, o2⟩ := hT.tree
    obtain ⟨xs, m, hm, rfl, hlen, ft, hf⟩ := DataW.trod_struct hu h
    cases hm
    have g0 := hf 0 f0 rfl
    have g1 := hf 1 f1 rfl
    have g2 := hf 2 f2 rfl
    rw [h0, o0, hT.c1] at g0
    rw [h1, o1, hT.c1] at g1
    rw [h2, o2, hT.cl] at g2
    simp at ft
    rw [hT.c3] at hlen
    match cs, hlen with
    | [a, b, c], _ =>
      have e0 : xs[0]? = some xs[0] := by simp [ft]
      have e1 : xs[1]? = some xs[1] := by simp [ft]
      have e2 : xs[2]? = some xs[2] := by simp [ft]
      rw [e0] at g0; rw [e1] at g1; rw [e2] at g2
      obtain ⟨k, ek, _, wk⟩ := DataW.trod_int hT.int g0
      obtain ⟨q, eq, _, wq⟩ := DataW.trod_int hT.int g1
      obtain ⟨l, hl, _⟩ := ih.2 _ _ g2
      obtain ⟨v, ev, hv⟩ := hl.XE
      simp at ek eq ev
      subst ek eq ev
      exact ⟨.mk k q l, .cons _ _ _ _ (.int _ _) (.cons _ _ _ _ (.int _ _) (.cons _ _ _ _ hv .nil)), JX wk, JX wq, hl.2.1, hl.2.2⟩
   ·rcases DataW.trod_slice hT.list h with ⟨rfl, rfl⟩ | ⟨a, len, cap, elems, rest, m, hm, rfl, rfl, hb, hle, cF, Th, jk, _, _⟩
    ·exact ⟨[], ⟨⟨_, rfl, .ah, .ah, .inr ⟨rfl, rfl⟩⟩, by simp, trivial⟩, rfl⟩
    cases hm
    rw [hT.c3] at jk
    have hex : ∀ i, i < len → ∃ t : T, ∃ cs', w.cells? base (a.add (i * 3)) 3 = some cs' ∧ isT w cs' t := by
     intro i hi
     have := jk i hi
     rw [List.getElem?_eq_getElem (by omega)] at this
     obtain ⟨cs', k1, k2⟩ := Option.bind_eq_some_iff.1 this
     obtain ⟨t, ht⟩ := ih.1 _ _ k2
     exact ⟨t, cs', k1, ht⟩
    obtain ⟨f, hf⟩ := Eg hex
    have Tg : maxLen = 9223372036854775807 := rfl
    refine ⟨(List.range len).map f, ⟨⟨_, rfl, _, ?_, .inl rfl⟩, by simp; omega, ?_⟩, by simp [Pm, Th]⟩
    ·rw [lP, List.map_map]
     refine xQ (e := 3) (base := base) (by decide) hle cF (fun i => if hi : i < len then Classical.choose (hf i hi) else []) _ fun i hi => ?_
     simp only [dif_pos hi]
     obtain ⟨k1, k2⟩ := Classical.choose_spec (hf i hi)
     exact ⟨k1, k2.1⟩
    ·rw [Fx]
     intro x hx
     obtain ⟨i, hi, rfl⟩ := List.mem_map.1 hx
     obtain ⟨cs', _, k2⟩ := hf i (List.mem_range.1 hi)
     exact k2.2
theorem JY {ti tt tl : TypeId} (hT : Ef P ti tt tl) {r : Reach} {b0 : Nat} {v : Value} {d : DataW H} {ps : List MemPlace} (jq : Value.okWide P w r b0 tt v) (hd : DataW.Trod enc P w base sp held tt v d ps) :
 ∃ t : T, aR (fg w) [] v t.av ∧ t.wf := by
 obtain ⟨f0, f1, f2, hu, _⟩ := hT.tree
 obtain ⟨cs, rfl, _⟩ := WideShapes.okWide_struct hu jq
 obtain ⟨fuel, hf⟩ := hd
 obtain ⟨t, h1, h2⟩ := (Hq hT fuel).1 _ _ hf
 refine ⟨t, ?_, h2⟩
 have : aR (fg w) [] (.agg cs.toList.toArray) (.agg t.av.cells) := .agg _ _ h1
 rw [t.nZ] at this
 simpa using this
end
end Go.aL
end
section
end
section
set_option maxRecDepth 100000
namespace Go.aL
open Go Go.Proofs
end Go.aL
end
section
set_option maxRecDepth 100000
namespace Go.aL
open Go Go.Proofs
def xY (t : T) : Int × Int := if t.sz ≤ 2000 ∧ t.dp ≤ 200 then (t.sz, t.dp) else (2001, 201)
theorem Za (t : T) : (¬ ew (fP t 1 (0, 0)) ↔ t.sz ≤ 2000 ∧ t.dp ≤ 200) ∧ (¬ ew (fP t 1 (0, 0)) → fP t 1 (0, 0) = (t.sz, t.dp)) := by
 have h := rH t 1 (0, 0) (by unfold oJ; simp)
 have hd := t.zS
 refine ⟨h.1.trans ⟨fun k => ⟨by omega, by omega⟩, fun k => ⟨by simp only; omega, by omega⟩⟩, fun k => ?_⟩
 have := h.2 k
 exact Prod.ext (by simpa using this.1) (by have := this.2; simp only at this ⊢; omega)
theorem adK (t : T) : Pure Tryz.prog 122 [t.av] (.tuple [.int .i64 (xY t).1, .int .i64 (xY t).2]) := by
 refine fun H => Uq.2.calls rfl ?_
 simp only [Uq, aJ]
 simp +contextual only [sZ, Nat.reduceEqDiff, Nat.reduceAdd, ↓reduceIte, reduceCtorEq]
 refine ag (Sa H t 1 (0, 0) (by unfold oJ; simp)) ?_
 rintro r H' ⟨rfl, rfl⟩
 simp +contextual only [sZ, Nat.reduceEqDiff, Nat.reduceAdd, ↓reduceIte]
 refine ag (VS H (fP t 1 (0, 0))) ?_
 rintro r H' ⟨rfl, rfl⟩
 have h0 := Za t
 cases hb : sR (fP t 1 (0, 0)) with
 | true =>
   have hn : ¬ (t.sz ≤ 2000 ∧ t.dp ≤ 200) := fun h => h0.1.2 h ((rI _).1 hb)
   simp +contextual only [ey, sZ, Nat.reduceEqDiff, ↓reduceIte, reduceCtorEq]
   exact xN (by decide) rfl rfl (by rw [xY, if_neg hn]; rfl) (by rw [xY, if_neg hn]; rfl)
 | false =>
   have hn : ¬ ew (fP t 1 (0, 0)) := fun h => by rw [(rI _).2 h] at hb; cases hb
   have h1 := h0.1.1 hn
   rw [h0.2 hn]
   simp +contextual only [ey, sZ, Nat.reduceEqDiff, Nat.reduceAdd, Nat.reduceLT, ↓reduceIte, reduceCtorEq]
   exact xN (by decide) rfl rfl (by rw [xY, if_pos h1]; rfl) (by rw [xY, if_pos h1]; rfl)
theorem Zb (a b : List Int) (o o' : Nat) : Pure Tryz.prog 198 [.aq o (ints a), .aq o' (ints b)] (.bool (decide (a = b))) := by
 refine fun H => U2.2.calls rfl ?_
 simp only [U2, aJ]
 simp +contextual only [sZ, Nat.reduceEqDiff, Nat.reduceAdd, ↓reduceIte, reduceCtorEq]
 refine fun _ _ => ⟨fun ep => a9 rfl ?_, fun hl => ?_⟩
 ·rw [decide_eq_false]
  intro h; subst h; exact ep rfl
 have hl : a.length = b.length := by omega
 refine aD a.length (fun i => decide (a.drop i = b.drop i) = decide (a = b)) (fun i => [(0, .aq o (ints a)), (1, .aq o' (ints b)), (5, .int .i64 i)]) (fun i => H) ⟨rfl, aB _ _ _⟩ fun i hi hI => ?_
 simp +contextual only [sZ, Nat.reduceEqDiff, ↓reduceIte, reduceCtorEq]
 intro _
 refine ⟨fun a8 => ⟨b7 a8, ?_⟩, fun jL => ?_⟩
 ·have a8 := b7 a8
  have Sd : i < b.length := by omega
  rw [List.drop_eq_getElem_cons a8, List.drop_eq_getElem_cons Sd] at hI
  have e1 : a.getD i 0 = a[i] := by simp [a8]
  have e2 : b.getD i 0 = b[i] := by simp [Sd]
  rw [e1, e2]
  refine ⟨Sd, fun ep => a9 rfl ?_, fun he => ⟨i + 1, ⟨a8, ?_⟩, by omega, aH (by rw [ax i (by omega)]) rfl⟩⟩
  ·rw [← hI, decide_eq_false]
   intro h; exact ep (List.cons.inj h).1
  ·rw [← hI, he]
   exact decide_eq_decide.2 (by rw [List.cons.injEq]; simp only [true_and])
 ·have jL := dl jL
  rw [List.drop_of_length_le jL, List.drop_of_length_le (by omega)] at hI
  exact a9 rfl (by rw [← hI]; rfl)
theorem Se (l : List T) : tb 3 (cK l) = True := by
 simp only [tb, eq_iff_iff, iff_true]
 intro y hy
 rw [lP] at hy
 obtain ⟨z, _, rfl⟩ := List.mem_map.1 hy
 exact ⟨z.gB, z.pf⟩
end Go.aL
end
section
set_option maxRecDepth 100000
namespace Go.aL
open Go Go.Proofs
def sub (l : List T) (t : T) : T := VY (fun n => l.getD n.toNat default) t
end Go.aL
end
section
namespace Go.fw
open Go.aL
mutual
def code : T → List Int
 | .mk k n l => k :: n :: (l.length : Int) :: xZ l
def xZ : List T → List Int
 | [] => []
 | x :: r => code x ++ xZ r
end
mutual
theorem B2 : ∀ (a b : T) (r s : List Int), code a ++ r = code b ++ s → a = b ∧ r = s
 | .mk k n l, .mk k' n' l', r, s, h => by
   simp only [code, List.cons_append, List.cons.injEq] at h
   obtain ⟨h1, h2, h3, h4⟩ := h
   obtain ⟨h5, h6⟩ := x7 l l' r s (by omega) h4
   exact ⟨by rw [h1, h2, h5], h6⟩
theorem x7 : ∀ (l m : List T) (r s : List Int), l.length = m.length → xZ l ++ r = xZ m ++ s → l = m ∧ r = s
 | [], [], r, s, _, h => ⟨rfl, by simpa [xZ] using h⟩
 | x :: l, y :: m, r, s, hl, h => by
   simp only [xZ, List.append_assoc] at h
   obtain ⟨h1, h2⟩ := B2 x y _ _ h
   obtain ⟨h3, h4⟩ := x7 l m r s (by simpa using hl) h2
   exact ⟨by rw [h1, h3], h4⟩
 | [], _ :: _, _, _, h, _ => by simp at h
 | _ :: _, [], _, _, h, _ => by simp at h
end
theorem Fy {a b : T} (h : code a = code b) : a = b := (B2 a b [] [] (by rw [h])).1
instance : DecidableEq T := fun a b => decidable_of_iff (code a = code b) ⟨Fy, fun h => by rw [h]⟩
def Ax (a b : T) : Prop := code a ≤ code b
instance (a b : T) : Decidable (Ax a b) := inferInstanceAs (Decidable (code a ≤ code b))
theorem B3 {a b : T} (h1 : Ax a b) (h2 : Ax b a) : a = b := Fy (List.le_antisymm h1 h2)
theorem x8 (a b : T) : Ax a b ∨ Ax b a := List.le_total _ _
theorem x9 {a b c : T} (h1 : Ax a b) (h2 : Ax b c) : Ax a c := List.le_trans h1 h2
def ins (x : T) : List T → List T
 | [] => [x]
 | y :: r => if Ax x y then x :: y :: r else y :: ins x r
def wV : List T → List T
 | [] => []
 | x :: r => ins x (wV r)
theorem B4 (x : T) : ∀ l, (ins x l).Perm (x :: l)
 | [] => List.Perm.refl _
 | y :: r => by
   simp only [ins]
   split
   ·exact List.Perm.refl _
   ·exact ((B4 x r).cons y).trans (List.Perm.swap _ _ _)
theorem kN : ∀ l, (wV l).Perm l
 | [] => List.Perm.refl _
 | x :: r => (B4 x _).trans ((kN r).cons x)
theorem B5 (x y : T) : ∀ l, ins x (ins y l) = ins y (ins x l)
 | [] => by
   simp only [ins]
   by_cases h1 : Ax x y <;> by_cases h2 : Ax y x <;> simp only [h1, h2, if_true, if_false]
   ·rw [B3 h1 h2]
   ·rcases x8 x y with h | h
    ·exact absurd h h1
    ·exact absurd h h2
 | z :: r => by
   simp only [ins]
   by_cases hx : Ax x z <;> by_cases hy : Ax y z <;> simp only [hx, hy, if_true, if_false, ins]
   ·by_cases h1 : Ax x y <;> by_cases h2 : Ax y x <;> simp only [h1, h2, if_true, if_false]
    ·rw [B3 h1 h2]
    ·rcases x8 x y with h | h
     ·exact absurd h h1
     ·exact absurd h h2
   ·have h2 : ¬ Ax y x := fun h => hy (x9 h hx)
    simp only [h2, if_false]
   ·have h2 : ¬ Ax x y := fun h => hx (x9 h hy)
    simp only [h2, if_false]
   ·rw [B5 x y r]
theorem Sf {l m : List T} (h : l.Perm m) : wV l = wV m := by
 induction h with
 | nil => rfl
 | cons x _ ih => simp only [wV, ih]
 | swap x y l => simp only [wV]; exact B5 _ _ _
 | trans _ _ h1 h2 => rw [h1, h2]
theorem Fz {l m : List T} : wV l = wV m ↔ l.Perm m := ⟨fun h => (kN l).symm.trans (h ▸ kN m), Sf⟩
theorem NJ {x : T} {l : List T} : x ∈ wV l ↔ x ∈ l := (kN l).mem_iff
mutual
def wt : T → Nat
 | .mk _ _ l => 1 + gI l
def gI : List T → Nat
 | [] => 0
 | x :: r => wt x + gI r
end
theorem FA {x : T} : ∀ {l : List T}, x ∈ l → wt x ≤ gI l
 | y :: r, h => by
   simp only [gI]
   rcases List.mem_cons.1 h with rfl | h
   ·omega
   ·have := FA h; omega
theorem fQ (a : T) : 0 < wt a := by cases a; simp only [wt]; omega
theorem bU {a x : T} (h : x ∈ a.l) : wt x < wt a := by
 cases a with
 | mk k n l => have := FA (l := l) h; simp only [wt]; omega
structure Od where
 pl : Int → Int
 sp : Int → Int
mutual
def norm (O : Od) : T → T
 | .mk k n l => if k = 2 then .mk 2 (O.pl n) (if O.sp (O.pl n) = 3 then wV (B6 O l) else B6 O l) else .mk 1 n []
def B6 (O : Od) : List T → List T
 | [] => []
 | x :: r => norm O x :: B6 O r
end
theorem ya (O : Od) : ∀ l, B6 O l = l.map (norm O)
 | [] => rfl
 | x :: r => by simp [B6, ya O r]
def Lx (G : T → T → Prop) : List T → List T → Prop
 | [], _ => False
 | _ :: _, [] => True
 | x :: l, y :: m => x = y ∧ Lx G l m ∨ G x y
def side (s : Int) (l : List T) : List T := if s = 2 then l.reverse else l
def Mu (G : T → T → Prop) (l m : List T) : Prop :=
 (∃ x ∈ l, m.count x < l.count x) ∧ ∀ y ∈ m, l.count y < m.count y → ∃ x ∈ l, m.count x < l.count x ∧ G x y
def Fm (sp : Int → Int) (G : T → T → Prop) (a b : T) : Prop :=
 a.k = 2 ∧ ((∃ x ∈ a.l, x = b ∨ G x b) ∨ b.k = 2 ∧ (
  (b.n < a.n ∧ ∀ y ∈ b.l, G a y) ∨
  (b.n = a.n ∧ sp a.n ≠ 3 ∧ (∀ y ∈ b.l, G a y) ∧ Lx G (side (sp a.n) a.l) (side (sp a.n) b.l)) ∨
  (b.n = a.n ∧ sp a.n = 3 ∧ Mu G a.l b.l)))
theorem fE {s : Int} {l : List T} {x : T} : x ∈ side s l ↔ x ∈ l := by unfold side; split <;> simp
theorem B7 {G G' : T → T → Prop} : ∀ {l m : List T}, (∀ x ∈ l, ∀ y ∈ m, (G x y ↔ G' x y)) → (Lx G l m ↔ Lx G' l m)
 | [], _, _ => Iff.rfl
 | _ :: _, [], _ => Iff.rfl
 | x :: l, y :: m, h => by
   simp only [Lx]
   rw [B7 (fun x hx y hy => h x (List.mem_cons_of_mem _ hx) y (List.mem_cons_of_mem _ hy)), h x List.mem_cons_self y List.mem_cons_self]
theorem B8 {sp : Int → Int} {G G' : T → T → Prop} {a b : T} (h1 : ∀ x ∈ a.l, (G x b ↔ G' x b)) (h2 : ∀ y ∈ b.l, (G a y ↔ G' a y)) (h3 : ∀ x ∈ a.l, ∀ y ∈ b.l, (G x y ↔ G' x y)) :
 Fm sp G a b ↔ Fm sp G' a b := by
 have e1 : (∃ x ∈ a.l, x = b ∨ G x b) ↔ (∃ x ∈ a.l, x = b ∨ G' x b) := ⟨fun ⟨x, hx, h⟩ => ⟨x, hx, by rwa [← h1 x hx]⟩, fun ⟨x, hx, h⟩ => ⟨x, hx, by rwa [h1 x hx]⟩⟩
 have e2 : (∀ y ∈ b.l, G a y) ↔ (∀ y ∈ b.l, G' a y) := ⟨fun h y hy => (h2 y hy).1 (h y hy), fun h y hy => (h2 y hy).2 (h y hy)⟩
 have e3 : Lx G (side (sp a.n) a.l) (side (sp a.n) b.l) ↔ Lx G' (side (sp a.n) a.l) (side (sp a.n) b.l) := B7 fun x hx y hy => h3 x (fE.1 hx) y (fE.1 hy)
 have e4 : Mu G a.l b.l ↔ Mu G' a.l b.l := by
  unfold Mu
  refine and_congr Iff.rfl ⟨fun h y hy hc => ?_, fun h y hy hc => ?_⟩ <;> obtain ⟨x, hx, CZ, hg⟩ := h y hy hc
  ·exact ⟨x, hx, CZ, (h3 x hx y hy).1 hg⟩
  ·exact ⟨x, hx, CZ, (h3 x hx y hy).2 hg⟩
 unfold Fm
 rw [e1, e2, e3, e4]
def Lt (sp : Int → Int) : Nat → T → T → Prop
 | 0 => fun _ _ => False
 | f + 1 => Fm sp (Lt sp f)
def Gt (sp : Int → Int) (a b : T) : Prop := Lt sp (wt a + wt b) a b
theorem fR (sp : Int → Int) : ∀ (f g : Nat) (a b : T), wt a + wt b ≤ f → wt a + wt b ≤ g → (Lt sp f a b ↔ Lt sp g a b)
 | 0, _, a, b, h, _ => by have := fQ a; omega
 | _ + 1, 0, a, b, _, h => by have := fQ a; omega
 | f + 1, g + 1, a, b, h1, h2 => by
   simp only [Lt]
   refine B8 (fun x hx => ?_) (fun y hy => ?_) (fun x hx y hy => ?_)
   ·have := bU hx; exact fR sp f g x b (by omega) (by omega)
   ·have := bU hy; exact fR sp f g a y (by omega) (by omega)
   ·have := bU hx; have := bU hy; exact fR sp f g x y (by omega) (by omega)
theorem vx {sp : Int → Int} {a b : T} : Gt sp a b ↔ Fm sp (Gt sp) a b := by
 have e : Lt sp (wt a + wt b) a b ↔ Lt sp (wt a + wt b + 1) a b := fR sp _ _ a b (by omega) (by omega)
 unfold Gt
 rw [e]
 show Fm sp (Lt sp (wt a + wt b)) a b ↔ _
 refine B8 (fun x hx => ?_) (fun y hy => ?_) (fun x hx y hy => ?_)
 ·have := bU hx; exact fR sp _ _ x b (by omega) (by omega)
 ·have := bU hy; exact fR sp _ _ a y (by omega) (by omega)
 ·have := bU hx; have := bU hy; exact fR sp _ _ x y (by omega) (by omega)
section
variable {sp : Int → Int}
theorem yb {a b : T} (h : Gt sp a b) : a.k = 2 := (vx.1 h).1
theorem pg {a b x : T} (ha : a.k = 2) (hx : x ∈ a.l) (h : x = b ∨ Gt sp x b) : Gt sp a b := vx.2 ⟨ha, .inl ⟨x, hx, h⟩⟩
theorem mh {l m : List T} {x : T} (h : m.count x < l.count x) : x ∈ l := List.count_pos_iff.1 (by omega)
theorem qt {a b : T} (h : Gt sp a b) : (∃ x ∈ a.l, x = b ∨ Gt sp x b) ∨ b.k = 2 ∧ (∀ y ∈ b.l, Gt sp a y) ∧ (
 b.n < a.n ∨ (b.n = a.n ∧ sp a.n ≠ 3 ∧ Lx (Gt sp) (side (sp a.n) a.l) (side (sp a.n) b.l)) ∨ (b.n = a.n ∧ sp a.n = 3 ∧ Mu (Gt sp) a.l b.l)) := by
 obtain ⟨ha, h | ⟨hb, h | h | h⟩⟩ := vx.1 h
 ·exact .inl h
 ·exact .inr ⟨hb, h.2, .inl h.1⟩
 ·exact .inr ⟨hb, h.2.2.1, .inr (.inl ⟨h.1, h.2.1, h.2.2.2⟩)⟩
 ·refine .inr ⟨hb, fun y hy => ?_, .inr (.inr h)⟩
  obtain ⟨_, _, _, h2⟩ := h
  by_cases hc : a.l.count y < b.l.count y
  ·obtain ⟨x, hx, _, hg⟩ := h2 y hy hc
   exact pg ha hx (.inr hg)
  ·have : 0 < b.l.count y := List.count_pos_iff.2 hy
   exact pg ha (List.count_pos_iff.1 (by omega)) (.inl rfl)
theorem VZ {a b : T} (ha : a.k = 2) (hb : b.k = 2) (h1 : ∀ y ∈ b.l, Gt sp a y) (h2 : b.n < a.n ∨ (b.n = a.n ∧ sp a.n ≠ 3 ∧ Lx (Gt sp) (side (sp a.n) a.l) (side (sp a.n) b.l)) ∨ (b.n = a.n ∧ sp a.n = 3 ∧ Mu (Gt sp) a.l b.l)) : Gt sp a b := by
 refine vx.2 ⟨ha, .inr ⟨hb, ?_⟩⟩
 rcases h2 with h | h | h
 ·exact .inl ⟨h, h1⟩
 ·exact .inr (.inl ⟨h.1, h.2.1, h1, h.2.2⟩)
 ·exact .inr (.inr h)
theorem NK : ∀ {a b y : T}, Gt sp a b → b.k = 2 → y ∈ b.l → Gt sp a y := by
 intro a
 induction h : wt a using Nat.strongRecOn generalizing a with
 | _ n ih =>
   intro b y B9 hb hy
   rcases qt B9 with ⟨x, hx, rfl | hg⟩ | ⟨_, h1, _⟩
   ·exact pg (yb B9) hx (.inr (pg hb hy (.inl rfl)))
   ·exact pg (yb B9) hx (.inr (ih _ (by have := bU hx; omega) rfl hg hb hy))
   ·exact h1 y hy
theorem JZ {G : T → T → Prop} : ∀ {l : List T}, Lx G l l → ∃ x ∈ l, G x x
 | x :: l, h => by
   rcases h with ⟨_, h⟩ | h
   ·obtain ⟨y, hy, hg⟩ := JZ h; exact ⟨y, List.mem_cons_of_mem _ hy, hg⟩
   ·exact ⟨x, List.mem_cons_self, h⟩
theorem zU : ∀ a : T, ¬ Gt sp a a := by
 intro a
 induction h : wt a using Nat.strongRecOn generalizing a with
 | _ n ih =>
   intro hg
   rcases qt hg with ⟨x, hx, rfl | NL⟩ | ⟨_, _, h1 | ⟨_, _, h1⟩ | ⟨_, _, h1⟩⟩
   ·have := bU hx; omega
   ·exact ih (wt x) (by have := bU hx; omega) x rfl (NK NL (yb hg) hx)
   ·omega
   ·obtain ⟨x, hx, NL⟩ := JZ h1
    have hx := fE.1 hx
    exact ih (wt x) (by have := bU hx; omega) x rfl NL
   ·obtain ⟨⟨x, _, hx⟩, _⟩ := h1; omega
theorem J0 {G : T → T → Prop} {S : List T} (irr : ∀ x ∈ S, ¬ G x x) (tr : ∀ x ∈ S, ∀ y ∈ S, ∀ z ∈ S, G x y → G y z → G x z) (P : T → Prop)
 (step : ∀ z ∈ S, (∀ x ∈ S, G x z → P x) → P z) : ∀ z ∈ S, P z := by
 classical
 intro z
 induction h : S.countP (fun w => decide (G w z)) using Nat.strongRecOn generalizing z with
 | _ n ih =>
   intro hz
   refine step z hz fun x hx hg => ih (S.countP fun w => decide (G w x)) ?_ x rfl hx
   subst h
   have key : ∀ (l : List T), (∀ w ∈ l, w ∈ S) → l.countP (fun w => decide (G w x)) ≤ l.countP (fun w => decide (G w z)) ∧ (x ∈ l → l.countP (fun w => decide (G w x)) < l.countP (fun w => decide (G w z))) := by
    intro l
    induction l with
    | nil => intro _; exact ⟨Nat.le_refl _, fun h => by cases h⟩
    | cons w l ihl =>
      intro hl
      obtain ⟨i1, i2⟩ := ihl fun w hw => hl w (List.mem_cons_of_mem _ hw)
      have hw := hl w List.mem_cons_self
      by_cases h1 : G w x
      ·have h2 : G w z := tr w hw x hx z hz h1 hg
       have ep : x ≠ w := fun e => irr x hx (by rw [← e] at h1; exact h1)
       simp only [List.countP_cons, h1, h2, decide_true, if_true]
       refine ⟨by omega, fun hm => ?_⟩
       rcases List.mem_cons.1 hm with e | hm
       ·exact absurd e ep
       ·have := i2 hm; omega
      ·by_cases h2 : G w z
       ·simp only [List.countP_cons, h1, h2, decide_true, decide_false, if_true]
        refine ⟨by simp; omega, fun _ => by simp; omega⟩
       ·have ep : x ≠ w := fun e => h2 (e ▸ hg)
        simp only [List.countP_cons, h1, h2, decide_false]
        refine ⟨by simpa using i1, fun hm => ?_⟩
        rcases List.mem_cons.1 hm with e | hm
        ·exact absurd e ep
        ·simpa using i2 hm
   exact (key S fun _ h => h).2 hx
theorem J1 {G : T → T → Prop} {l m k : List T} (irr : ∀ x ∈ l ++ m ++ k, ¬ G x x) (tr : ∀ x ∈ l ++ m ++ k, ∀ y ∈ l ++ m ++ k, ∀ z ∈ l ++ m ++ k, G x y → G y z → G x z)
 (h1 : Mu G l m) (h2 : Mu G m k) : Mu G l k := by
 have il : ∀ {x}, x ∈ l → x ∈ l ++ m ++ k := fun h => by simp [h]
 have im : ∀ {x}, x ∈ m → x ∈ l ++ m ++ k := fun h => by simp [h]
 have ik : ∀ {x}, x ∈ k → x ∈ l ++ m ++ k := fun h => by simp [h]
 have up : ∀ z ∈ l ++ m ++ k, (l.count z < m.count z ∨ m.count z < k.count z) → ∃ x ∈ l, k.count x < l.count x ∧ G x z := by
  refine J0 irr tr _ fun z hz ih hc => ?_
  rcases hc with hc | hc
  ·obtain ⟨x1, sA, OD, HS⟩ := h1.2 z (mh hc) hc
   by_cases hk : k.count x1 < l.count x1
   ·exact ⟨x1, sA, hk, HS⟩
   ·obtain ⟨x, hx, ou, hg⟩ := ih x1 (il sA) HS (.inr (by omega))
    exact ⟨x, hx, ou, tr x (il hx) x1 (il sA) z hz hg HS⟩
  ·obtain ⟨x1, sA, OD, HS⟩ := h2.2 z (mh hc) hc
   by_cases hk : l.count x1 < m.count x1
   ·obtain ⟨x, hx, ou, hg⟩ := ih x1 (im sA) HS (.inl hk)
    exact ⟨x, hx, ou, tr x (il hx) x1 (im sA) z hz hg HS⟩
   ·exact ⟨x1, List.count_pos_iff.1 (by omega), by omega, HS⟩
 constructor
 ·obtain ⟨x0, Io, LD⟩ := h1.1
  by_cases hk : k.count x0 < l.count x0
  ·exact ⟨x0, Io, hk⟩
  ·obtain ⟨x, hx, hc, _⟩ := up x0 (il Io) (.inr (by omega))
   exact ⟨x, hx, hc⟩
 ·intro y hy hc
  refine up y (ik hy) ?_
  by_cases h : l.count y < m.count y
  ·exact .inl h
  ·exact .inr (by omega)
theorem Ca {G : T → T → Prop} : ∀ {l m k : List T}, (∀ x ∈ l, ∀ y ∈ m, ∀ z ∈ k, G x y → G y z → G x z) → Lx G l m → Lx G m k → Lx G l k
 | [], _, _, _, h, _ => h.elim
 | _ :: _, [], _, _, _, h => h.elim
 | _ :: _, _ :: _, [], _, _, _ => trivial
 | x :: l, y :: m, z :: k, tr, h1, h2 => by
   have ih := @Ca G l m k fun x hx y hy z hz => tr x (List.mem_cons_of_mem _ hx) y (List.mem_cons_of_mem _ hy) z (List.mem_cons_of_mem _ hz)
   rcases h1 with ⟨rfl, h1⟩ | h1 <;> rcases h2 with ⟨rfl, h2⟩ | h2
   ·exact .inl ⟨rfl, ih h1 h2⟩
   ·exact .inr h2
   ·exact .inr h1
   ·exact .inr (tr x List.mem_cons_self y List.mem_cons_self z List.mem_cons_self h1 h2)
theorem zV : ∀ (N : Nat) {a b c : T}, wt a ≤ N → wt b ≤ N → wt c ≤ N → Gt sp a b → Gt sp b c → Gt sp a c := by
 intro N
 induction N with
 | zero => intro a b c h; have := fQ a; omega
 | succ N ihN =>
 intro a b c
 induction h : wt a + wt b + wt c using Nat.strongRecOn generalizing a b c with
 | _ n ih =>
   intro la lb lc B9 Pn
   rcases qt B9 with ⟨x, hx, rfl | hg⟩ | ⟨hb, h1, h2⟩
   ·exact pg (yb B9) hx (.inr Pn)
   ·have := bU hx
    exact pg (yb B9) hx (.inr (ih (wt x + wt b + wt c) (by omega) rfl (by omega) lb lc hg Pn))
   rcases qt Pn with ⟨y, hy, rfl | hg⟩ | ⟨hc, h3, h4⟩
   ·exact h1 y hy
   ·have := bU hy
    exact ih (wt a + wt y + wt c) (by omega) rfl la (by omega) lc (h1 y hy) hg
   have h5 : ∀ z ∈ c.l, Gt sp a z := fun z hz => by
    have := bU hz
    exact ih (wt a + wt b + wt z) (by omega) rfl la lb (by omega) B9 (h3 z hz)
   refine VZ (yb B9) hc h5 ?_
   rcases h2 with h2 | ⟨e2, s2, h2⟩ | ⟨e2, s2, h2⟩ <;> rcases h4 with h4 | ⟨e4, s4, h4⟩ | ⟨e4, s4, h4⟩
   ·exact .inl (by omega)
   ·exact .inl (by omega)
   ·exact .inl (by omega)
   ·exact .inl (by omega)
   ·refine .inr (.inl ⟨by omega, s2, ?_⟩)
    rw [e2] at h4
    refine Ca (fun x hx y hy z hz => ?_) h2 h4
    have := bU (fE.1 hx); have := bU (fE.1 hy); have := bU (fE.1 hz)
    exact ihN (by omega) (by omega) (by omega)
   ·rw [e2] at s4; exact absurd s4 s2
   ·exact .inl (by omega)
   ·rw [e2] at s4; exact absurd s2 s4
   ·refine .inr (.inr ⟨by omega, s2, ?_⟩)
    have small : ∀ x ∈ a.l ++ b.l ++ c.l, wt x ≤ N := by
     intro x hx
     simp only [List.mem_append] at hx
     rcases hx with (hx | hx) | hx <;> have := bU hx <;> omega
    exact J1 (fun x _ => zU x) (fun x hx y hy z hz => ihN (small x hx) (small y hy) (small z hz)) h2 h4
theorem gt_trans {a b c : T} : Gt sp a b → Gt sp b c → Gt sp a c := zV (wt a + wt b + wt c) (by omega) (by omega) (by omega)
theorem V0 {l m X Y C : List T} (hl : l.Perm (X ++ C)) (hm : m.Perm (Y ++ C)) (h0 : X ≠ []) (h1 : ∀ y ∈ Y, ∃ x ∈ X, Gt sp x y) : Mu (Gt sp) l m := by
 have cl : ∀ z, l.count z = X.count z + C.count z := fun z => by rw [hl.count_eq, List.count_append]
 have cm : ∀ z, m.count z = Y.count z + C.count z := fun z => by rw [hm.count_eq, List.count_append]
 have up : ∀ z ∈ X ++ Y, z ∈ Y → ∃ x ∈ X, Y.count x < X.count x ∧ Gt sp x z := by
  refine J0 (G := Gt sp) (fun x _ => zU x) (fun x _ y _ z _ => gt_trans) _ fun z hz ih hy => ?_
  obtain ⟨x1, sA, HS⟩ := h1 z hy
  by_cases hc : Y.count x1 < X.count x1
  ·exact ⟨x1, sA, hc, HS⟩
  ·have : 0 < X.count x1 := List.count_pos_iff.2 sA
   obtain ⟨x, hx, ou, hg⟩ := ih x1 (by simp [sA]) HS (List.count_pos_iff.1 (by omega))
   exact ⟨x, hx, ou, gt_trans hg HS⟩
 have inl : ∀ {x}, x ∈ X → x ∈ l := fun hx => hl.mem_iff.2 (by simp [hx])
 constructor
 ·obtain ⟨x, hx⟩ := List.exists_mem_of_ne_nil X h0
  by_cases hc : Y.count x < X.count x
  ·exact ⟨x, inl hx, by rw [cl, cm]; omega⟩
  ·have : 0 < X.count x := List.count_pos_iff.2 hx
   obtain ⟨x', sk, CZ, _⟩ := up x (by simp [hx]) (List.count_pos_iff.1 (by omega))
   exact ⟨x', inl sk, by rw [cl, cm]; omega⟩
 ·intro y hy hc
  rw [cl, cm] at hc
  have hyY : y ∈ Y := List.count_pos_iff.1 (by omega)
  obtain ⟨x, hx, CZ, hg⟩ := up y (by simp [hyY]) hyY
  exact ⟨x, inl hx, by rw [cl, cm]; omega, hg⟩
def Si (X Y : List T) : Prop := ∀ z, z ∈ X → z ∉ Y
theorem Sj {G : T → T → Prop} {l m X Y C : List T} (hl : l.Perm (X ++ C)) (hm : m.Perm (Y ++ C)) (hd : Si X Y) : Mu G l m ↔ X ≠ [] ∧ ∀ y ∈ Y, ∃ x ∈ X, G x y := by
 have cl : ∀ z, l.count z = X.count z + C.count z := fun z => by rw [hl.count_eq, List.count_append]
 have cm : ∀ z, m.count z = Y.count z + C.count z := fun z => by rw [hm.count_eq, List.count_append]
 have inl : ∀ {x}, x ∈ X → x ∈ l := fun hx => hl.mem_iff.2 (by simp [hx])
 have inm : ∀ {x}, x ∈ Y → x ∈ m := fun hx => hm.mem_iff.2 (by simp [hx])
 have cX : ∀ {z}, m.count z < l.count z ↔ z ∈ X := by
  intro z
  rw [cl, cm]
  constructor
  ·intro h; exact List.count_pos_iff.1 (by omega)
  ·intro h
   have h1 : 0 < X.count z := List.count_pos_iff.2 h
   have h2 : Y.count z = 0 := List.count_eq_zero.2 (hd z h)
   omega
 have cY : ∀ {z}, l.count z < m.count z ↔ z ∈ Y := by
  intro z
  rw [cl, cm]
  constructor
  ·intro h; exact List.count_pos_iff.1 (by omega)
  ·intro h
   have h1 : 0 < Y.count z := List.count_pos_iff.2 h
   have h2 : X.count z = 0 := List.count_eq_zero.2 (fun hx => hd z hx h)
   omega
 constructor
 ·rintro ⟨⟨x, _, hx⟩, h2⟩
  refine ⟨fun e => (by have hm := cX.1 hx; rw [e] at hm; cases hm), fun y hy => ?_⟩
  obtain ⟨x, _, hx, hg⟩ := h2 y (inm hy) (cY.2 hy)
  exact ⟨x, cX.1 hx, hg⟩
 ·rintro ⟨h1, h2⟩
  refine ⟨?_, fun y _ hy => ?_⟩
  ·obtain ⟨x, hx⟩ := List.exists_mem_of_ne_nil X h1
   exact ⟨x, inl hx, cX.2 hx⟩
  ·obtain ⟨x, hx, hg⟩ := h2 y (cY.1 hy)
   exact ⟨x, inl hx, cX.2 hx, hg⟩
theorem wW {l m X Y C : List T} (hl : l.Perm (X ++ C)) (hm : m.Perm (Y ++ C)) (hd : Si X Y) : l.Perm m ↔ X = [] ∧ Y = [] := by
 constructor
 ·intro h
  have hc : ∀ z, X.count z = Y.count z := fun z => by
   have h1 := hl.count_eq z
   have h2 := hm.count_eq z
   have h3 := h.count_eq z
   rw [List.count_append] at h1 h2
   omega
  constructor
  ·cases hX : X with
   | nil => rfl
   | cons x r =>
     have h1 : x ∈ X := by rw [hX]; simp
     have h2 : 0 < Y.count x := by rw [← hc]; exact List.count_pos_iff.2 h1
     exact absurd (List.count_pos_iff.1 h2) (hd x h1)
  ·cases hY : Y with
   | nil => rfl
   | cons x r =>
     have h1 : x ∈ Y := by rw [hY]; simp
     have h2 : 0 < X.count x := by rw [hc]; exact List.count_pos_iff.2 h1
     exact absurd h1 (hd x (List.count_pos_iff.1 h2))
 ·rintro ⟨rfl, rfl⟩
  exact hl.trans hm.symm
theorem qv (s : Int) (g : T → T) (l : List T) : side s (l.map g) = (side s l).map g := by unfold side; split <;> simp
theorem T.ext {a b : T} (h1 : a.k = b.k) (h2 : a.n = b.n) (h3 : a.l = b.l) : a = b := by
 cases a; cases b; simp only [T.k, T.n, T.l] at h1 h2 h3; rw [h1, h2, h3]
end
end Go.fw
end
section
namespace Go.fw
open Go.aL
def E (O : Od) (a b : T) : Prop := norm O a = norm O b
def R (O : Od) (a b : T) : Prop := Gt O.sp (norm O a) (norm O b)
theorem kmk (k n : Int) (l : List T) : (T.mk k n l).k = k := rfl
section
variable {O : Od}
theorem n8 {a : T} (h : a.k = 2) : (norm O a).k = 2 ∧ (norm O a).n = O.pl a.n ∧ (O.sp (O.pl a.n) = 3 → (norm O a).l = wV (a.l.map (norm O))) ∧ (O.sp (O.pl a.n) ≠ 3 → (norm O a).l = a.l.map (norm O)) := by
 cases a with
 | mk k n l =>
   simp only [T.k] at h
   subst h
   simp only [norm, if_true, T.k, T.n, T.l, ya, true_and]
   exact ⟨fun h => by rw [if_pos h], fun h => by rw [if_neg h]⟩
theorem vz {a : T} (h : a.k ≠ 2) : norm O a = .mk 1 a.n [] := by
 cases a with
 | mk k n l => simp only [kmk] at h; simp only [norm]; rw [if_neg h]; rfl
theorem rK {a : T} : (norm O a).k = 2 ↔ a.k = 2 := by
 by_cases h : a.k = 2
 ·simp [h, (n8 h).1]
 ·rw [vz h, kmk]; simp [h]
theorem qw {a x : T} (h : a.k = 2) : x ∈ (norm O a).l ↔ ∃ y ∈ a.l, norm O y = x := by
 obtain ⟨_, _, h1, h2⟩ := n8 (O := O) h
 by_cases hs : O.sp (O.pl a.n) = 3
 ·rw [h1 hs, NJ, List.mem_map]
 ·rw [h2 hs, List.mem_map]
theorem NM {G : T → T → Prop} {l m l' m' : List T} (h1 : l.Perm l') (h2 : m.Perm m') : Mu G l m ↔ Mu G l' m' := by
 unfold Mu
 simp only [h1.count_eq, h2.count_eq, h1.mem_iff, h2.mem_iff]
theorem FB {a b : T} : E O a b ↔ (a.k = 2 ∧ b.k = 2 ∧ O.pl a.n = O.pl b.n ∧ (if O.sp (O.pl a.n) = 3 then (a.l.map (norm O)).Perm (b.l.map (norm O)) else a.l.map (norm O) = b.l.map (norm O))) ∨ (a.k ≠ 2 ∧ b.k ≠ 2 ∧ a.n = b.n) := by
 by_cases ha : a.k = 2
 ·by_cases hb : b.k = 2
  ·obtain ⟨ka, na, pa, qa⟩ := n8 (O := O) ha
   obtain ⟨kb, nb, pb, qb⟩ := n8 (O := O) hb
   simp only [ha, hb, true_and, ne_eq, not_true_eq_false, false_and, or_false]
   unfold E
   constructor
   ·intro h
    have hn : O.pl a.n = O.pl b.n := by rw [← na, ← nb, h]
    refine ⟨hn, ?_⟩
    have hl : (norm O a).l = (norm O b).l := by rw [h]
    split
    ·rename_i hs
     rw [pa hs, pb (by rw [← hn]; exact hs)] at hl
     exact Fz.1 hl
    ·rename_i hs
     rw [qa hs, qb (by rw [← hn]; exact hs)] at hl
     exact hl
   ·rintro ⟨hn, hl⟩
    refine T.ext (by rw [ka, kb]) (by rw [na, nb, hn]) ?_
    split at hl
    ·rename_i hs
     rw [pa hs, pb (by rw [← hn]; exact hs)]
     exact Fz.2 hl
    ·rename_i hs
     rw [qa hs, qb (by rw [← hn]; exact hs)]
     exact hl
  ·simp only [ha, hb, ne_eq, not_true_eq_false, false_and, and_false, or_false, iff_false]
   intro h
   have := rK (O := O) (a := a)
   unfold E at h
   rw [h, rK] at this
   exact hb (this.2 ha)
 ·by_cases hb : b.k = 2
  ·simp only [ha, hb, ne_eq, not_true_eq_false, false_and, and_false, or_false, iff_false]
   intro h
   have := rK (O := O) (a := b)
   unfold E at h
   rw [← h, rK] at this
   exact ha (this.2 hb)
  ·simp only [ha, hb, ne_eq, not_false_eq_true, false_and, true_and, false_or]
   unfold E
   rw [vz ha, vz hb]
   simp
theorem nl {a b : T} : R O a b ↔ a.k = 2 ∧ ((∃ x ∈ a.l, E O x b ∨ R O x b) ∨ b.k = 2 ∧ (
 (O.pl b.n < O.pl a.n ∧ ∀ y ∈ b.l, R O a y) ∨
 (O.pl b.n = O.pl a.n ∧ O.sp (O.pl a.n) ≠ 3 ∧ (∀ y ∈ b.l, R O a y) ∧ Lx (Gt O.sp) (side (O.sp (O.pl a.n)) (a.l.map (norm O))) (side (O.sp (O.pl a.n)) (b.l.map (norm O)))) ∨
 (O.pl b.n = O.pl a.n ∧ O.sp (O.pl a.n) = 3 ∧ Mu (Gt O.sp) (a.l.map (norm O)) (b.l.map (norm O))))) := by
 unfold R
 rw [vx]
 unfold Fm
 rw [rK, rK]
 refine and_congr_right fun ha => ?_
 obtain ⟨ka, na, pa, qa⟩ := n8 (O := O) ha
 refine or_congr ?_ (and_congr_right fun hb => ?_)
 ·constructor
  ·rintro ⟨x, hx, h⟩
   obtain ⟨y, hy, rfl⟩ := (qw ha).1 hx
   exact ⟨y, hy, h⟩
  ·rintro ⟨x, hx, h⟩
   exact ⟨_, (qw ha).2 ⟨x, hx, rfl⟩, h⟩
 ·obtain ⟨kb, nb, pb, qb⟩ := n8 (O := O) hb
  have e : (∀ y ∈ (norm O b).l, Gt O.sp (norm O a) y) ↔ ∀ y ∈ b.l, Gt O.sp (norm O a) (norm O y) := by
   constructor
   ·intro h y hy; exact h _ ((qw hb).2 ⟨y, hy, rfl⟩)
   ·intro h y hy; obtain ⟨z, hz, rfl⟩ := (qw hb).1 hy; exact h z hz
  rw [e, na, nb]
  refine or_congr Iff.rfl (or_congr ?_ ?_)
  ·refine and_congr_right fun hn => and_congr_right fun hs => ?_
   rw [qa hs, qb (by rw [hn]; exact hs)]
  ·refine and_congr_right fun hn => and_congr_right fun hs => ?_
   exact NM (by rw [pa hs]; exact kN _) (by rw [pb (by rw [hn]; exact hs)]; exact kN _)
theorem V1 {a b : T} (h : E O a b) : ¬ R O a b := by unfold R; rw [show norm O a = norm O b from h]; exact zU _
theorem NN {a b c : T} (h1 : R O a b) (h2 : R O b c) : R O a c := gt_trans h1 h2
theorem V2 {a b x : T} (ha : a.k = 2) (hx : x ∈ a.l) (h : E O x b ∨ R O x b) : R O a b := nl.2 ⟨ha, .inl ⟨x, hx, h⟩⟩
end
inductive pD (p : Int → Prop) : T → Prop
 | mk (k n : Int) (l : List T) (h1 : k = 2 → p n) (h2 : ∀ x ∈ l, pD p x) : pD p (.mk k n l)
theorem pD.op {p : Int → Prop} {a : T} (h : pD p a) (hk : a.k = 2) : p a.n := by cases h with | mk k n l h1 _ => exact h1 hk
theorem pD.mem {p : Int → Prop} {a x : T} (h : pD p a) (hx : x ∈ a.l) : pD p x := by cases h with | mk k n l _ h2 => exact h2 x hx
structure Alike (O O' : Od) (p : Int → Prop) : Prop where
 lt : ∀ n m, p n → p m → (O.pl n < O.pl m ↔ O'.pl n < O'.pl m)
 st : ∀ n, p n → O.sp (O.pl n) = O'.sp (O'.pl n)
theorem Alike.eq {O O' : Od} {p : Int → Prop} (h : Alike O O' p) {n m : Int} (hn : p n) (hm : p m) : O.pl n = O.pl m ↔ O'.pl n = O'.pl m := by
 have h1 := h.lt n m hn hm
 have h2 := h.lt m n hm hn
 omega
theorem Cb {f g : T → T} : ∀ {l m : List T}, (∀ x ∈ l, ∀ y ∈ m, f x = f y → g x = g y) → (l.map f).Perm (m.map f) → (l.map g).Perm (m.map g)
 | [], m, _, h => by
   have : m = [] := by simpa using h.length_eq.symm
   subst this; exact List.Perm.refl _
 | x :: l, m, hfg, h => by
   have hx : f x ∈ m.map f := h.mem_iff.1 (by simp)
   obtain ⟨y, hy, e⟩ := List.mem_map.1 hx
   have hp : m.Perm (y :: m.erase y) := List.perm_cons_erase hy
   have h1 : (f x :: l.map f).Perm (f x :: (m.erase y).map f) := by
    have := h.trans (hp.map f)
    rwa [List.map_cons, List.map_cons, e] at this
   have ih := Cb (f := f) (g := g) (l := l) (m := m.erase y) (fun x hx z hz => hfg x (List.mem_cons_of_mem _ hx) z (List.mem_of_mem_erase hz)) h1.cons_inv
   refine List.Perm.trans ?_ (hp.map g).symm
   rw [List.map_cons, List.map_cons, hfg x List.mem_cons_self y hy e.symm]
   exact ih.cons _
theorem count_map {f : T → T} (z : T) (l : List T) : (l.map f).count z = l.countP (fun x => decide (f x = z)) := by
 induction l with
 | nil => rfl
 | cons x l ih =>
   simp only [List.map_cons, List.count_cons, List.countP_cons, ih]
   by_cases h : f x = z <;> simp [h]
theorem sS {f g : T → T} {x : T} {l : List T} (h : ∀ y ∈ l, f y = f x ↔ g y = g x) : (l.map f).count (f x) = (l.map g).count (g x) := by
 rw [count_map, count_map]
 exact List.countP_congr fun y hy => by simp [h y hy]
theorem J2 {G G' : T → T → Prop} {f g : T → T} {l m : List T} (hf : ∀ x ∈ l ++ m, ∀ y ∈ l ++ m, f x = f y ↔ g x = g y) (hG : ∀ x ∈ l, ∀ y ∈ m, G (f x) (f y) → G' (g x) (g y)) :
 Mu G (l.map f) (m.map f) → Mu G' (l.map g) (m.map g) := by
 have c1 : ∀ x ∈ l ++ m, (l.map f).count (f x) = (l.map g).count (g x) := fun x hx => sS fun y hy => hf y (by simp [hy]) x hx
 have c2 : ∀ x ∈ l ++ m, (m.map f).count (f x) = (m.map g).count (g x) := fun x hx => sS fun y hy => hf y (by simp [hy]) x hx
 rintro ⟨⟨x', sk, hc⟩, h2⟩
 constructor
 ·obtain ⟨x, hx, rfl⟩ := List.mem_map.1 sk
  rw [c1 x (by simp [hx]), c2 x (by simp [hx])] at hc
  exact ⟨g x, List.mem_map.2 ⟨x, hx, rfl⟩, hc⟩
 ·intro y' TN hc
  obtain ⟨y, hy, rfl⟩ := List.mem_map.1 TN
  rw [← c1 y (by simp [hy]), ← c2 y (by simp [hy])] at hc
  obtain ⟨x', sk, CZ, hg⟩ := h2 (f y) (List.mem_map.2 ⟨y, hy, rfl⟩) hc
  obtain ⟨x, hx, rfl⟩ := List.mem_map.1 sk
  rw [c1 x (by simp [hx]), c2 x (by simp [hx])] at CZ
  exact ⟨g x, List.mem_map.2 ⟨x, hx, rfl⟩, CZ, hG x hx y hy hg⟩
theorem Cc {G G' : T → T → Prop} {f g : T → T} : ∀ {l m : List T}, (∀ x ∈ l, ∀ y ∈ m, f x = f y → g x = g y) → (∀ x ∈ l, ∀ y ∈ m, G (f x) (f y) → G' (g x) (g y)) → Lx G (l.map f) (m.map f) → Lx G' (l.map g) (m.map g)
 | [], _, _, _, h => h.elim
 | _ :: _, [], _, _, _ => trivial
 | x :: l, y :: m, hf, hG, h => by
   rcases h with ⟨e, h⟩ | h
   ·exact .inl ⟨hf x List.mem_cons_self y List.mem_cons_self e, Cc (fun x hx y hy => hf x (List.mem_cons_of_mem _ hx) y (List.mem_cons_of_mem _ hy)) (fun x hx y hy => hG x (List.mem_cons_of_mem _ hx) y (List.mem_cons_of_mem _ hy)) h⟩
   ·exact .inr (hG x List.mem_cons_self y List.mem_cons_self h)
theorem yc {f g : T → T} : ∀ {l m : List T}, (∀ x ∈ l, ∀ y ∈ m, f x = f y → g x = g y) → l.map f = m.map f → l.map g = m.map g
 | [], [], _, _ => rfl
 | [], _ :: _, _, h => by simp at h
 | _ :: _, [], _, h => by simp at h
 | x :: l, y :: m, hf, h => by
   simp only [List.map_cons, List.cons.injEq] at h
   rw [List.map_cons, List.map_cons, hf x List.mem_cons_self y List.mem_cons_self h.1, yc (fun x hx y hy => hf x (List.mem_cons_of_mem _ hx) y (List.mem_cons_of_mem _ hy)) h.2]
theorem Alike.symm {O O' : Od} {p : Int → Prop} (h : Alike O O' p) : Alike O' O p := ⟨fun n m hn hm => (h.lt n m hn hm).symm, fun n hn => (h.st n hn).symm⟩
theorem sT : ∀ (N : Nat) {O O' : Od} {p : Int → Prop} (h : Alike O O' p) {a b : T}, wt a ≤ N → wt b ≤ N → pD p a → pD p b → E O a b → E O' a b := by
 intro N
 induction N with
 | zero => intro O O' p h a b h1; have := fQ a; omega
 | succ N ih =>
   intro O O' p h a b la lb ha hb he
   rcases FB.1 he with ⟨ka, kb, hn, hl⟩ | h1
   ·refine FB.2 (.inl ⟨ka, kb, (h.eq (ha.op ka) (hb.op kb)).1 hn, ?_⟩)
    have key : ∀ x ∈ a.l, ∀ y ∈ b.l, norm O x = norm O y → norm O' x = norm O' y := fun x hx y hy e => by
     have := bU hx; have := bU hy
     exact ih h (by omega) (by omega) (ha.mem hx) (hb.mem hy) e
    rw [← h.st _ (ha.op ka)]
    split at hl
    ·rename_i hs; rw [if_pos hs]; exact Cb key hl
    ·rename_i hs; rw [if_neg hs]; exact yc key hl
   ·exact FB.2 (.inr h1)
theorem tT {O O' : Od} {p : Int → Prop} (h : Alike O O' p) {a b : T} (ha : pD p a) (hb : pD p b) : E O a b ↔ E O' a b :=
 ⟨sT (wt a + wt b) h (by omega) (by omega) ha hb, sT (wt a + wt b) h.symm (by omega) (by omega) ha hb⟩
theorem sU {O O' : Od} {p : Int → Prop} (h : Alike O O' p) : ∀ {a b : T}, pD p a → pD p b → R O a b → R O' a b := by
 intro a b
 induction hw : wt a + wt b using Nat.strongRecOn generalizing a b with
 | _ n ih =>
   intro ha hb hr
   obtain ⟨ka, hr⟩ := nl.1 hr
   refine nl.2 ⟨ka, ?_⟩
   rcases hr with ⟨x, hx, hr⟩ | ⟨kb, hr⟩
   ·have := bU hx
    refine .inl ⟨x, hx, ?_⟩
    rcases hr with hr | hr
    ·exact .inl ((tT h (ha.mem hx) hb).1 hr)
    ·exact .inr (ih (wt x + wt b) (by omega) rfl (ha.mem hx) hb hr)
   ·have pa := ha.op ka
    have pb := hb.op kb
    have ab : ∀ y ∈ b.l, R O a y → R O' a y := fun y hy hr => by
     have := bU hy
     exact ih (wt a + wt y) (by omega) rfl ha (hb.mem hy) hr
    have key : ∀ x ∈ a.l, ∀ y ∈ b.l, norm O x = norm O y → norm O' x = norm O' y := fun x hx y hy e => (tT h (ha.mem hx) (hb.mem hy)).1 e
    have keyG : ∀ x ∈ a.l, ∀ y ∈ b.l, Gt O.sp (norm O x) (norm O y) → Gt O'.sp (norm O' x) (norm O' y) := fun x hx y hy hg => by
     have := bU hx; have := bU hy
     exact ih (wt x + wt y) (by omega) rfl (ha.mem hx) (hb.mem hy) hg
    refine .inr ⟨kb, ?_⟩
    rw [← h.st _ pa]
    rcases hr with ⟨hn, hr⟩ | ⟨hn, hs, hr, hl⟩ | ⟨hn, hs, hm⟩
    ·exact .inl ⟨(h.lt _ _ pb pa).1 hn, fun y hy => ab y hy (hr y hy)⟩
    ·refine .inr (.inl ⟨(h.eq pb pa).1 hn, hs, fun y hy => ab y hy (hr y hy), ?_⟩)
     rw [qv, qv] at hl ⊢
     exact Cc (fun x hx y hy => key x (fE.1 hx) y (fE.1 hy)) (fun x hx y hy => keyG x (fE.1 hx) y (fE.1 hy)) hl
    ·refine .inr (.inr ⟨(h.eq pb pa).1 hn, hs, ?_⟩)
     have am : ∀ x ∈ a.l ++ b.l, pD p x := fun x hx => by
      rcases List.mem_append.1 hx with hx | hx
      ·exact ha.mem hx
      ·exact hb.mem hx
     exact J2 (fun x hx y hy => tT h (am x hx) (am y hy)) keyG hm
theorem NO {O O' : Od} {p : Int → Prop} (h : Alike O O' p) {a b : T} (ha : pD p a) (hb : pD p b) : R O a b ↔ R O' a b :=
 ⟨sU h ha hb, sU h.symm ha hb⟩
end Go.fw
end
section
set_option maxRecDepth 100000
namespace Go.aL
open Go Go.Proofs Go.fw
abbrev Nd := T × List Int
def bo : List Int → AV
 | [] => .ah
 | v :: r => .aq 0 (ints (v :: r))
def Eh (p : Nd) : AV := .agg [.int .i64 p.1.k, .int .i64 p.1.n, .aq 0 (cK p.1.l), bo p.2]
def eB (l : List Nd) : List AV := l.map Eh
def zN : AV := .agg [.int .i64 0, .int .i64 0, .ah, .ah]
theorem aF (l : List Int) : (bo l).one = true ∧ (bo l).ae = bo l ∧ (∀ n, (bo l).aZ n = true) ∧ (bo l).val = true ∧ (bo l).cells = [bo l] := by
 cases l with
 | nil => exact ⟨rfl, rfl, fun _ => rfl, rfl, rfl⟩
 | cons v r => exact ⟨rfl, rfl, fun n => by rw [bo, cR]; exact bj n _, rfl, rfl⟩
theorem NP (p : Nd) : iR 4 (Eh p) := by
 obtain ⟨t, ks⟩ := p
 cases ks with
 | nil => exact ⟨rfl, rfl, by simp [Eh, bo, AV.cells, dX, bM, cW, iP, cR, Fk], rfl⟩
 | cons v r => exact ⟨rfl, rfl, by simp [Eh, bo, AV.cells, dX, bM, cW, iP, cR, bj], rfl⟩
theorem zW : iR 4 (bO zN) := ⟨rfl, rfl, rfl, rfl⟩
theorem jG (l : List Nd) : ∀ x ∈ eB l, iR 4 x := by
 intro x hx; obtain ⟨p, _, rfl⟩ := List.mem_map.1 hx; exact NP p
def aU : List T → Nat → List Int
 | [], _ => []
 | x :: r, n => (n : Int) :: aU r (n + wt x)
mutual
def vA : T → Nat → List Nd
 | .mk k n l, i => (.mk k n l, aU l (i + 1)) :: cS l (i + 1)
def cS : List T → Nat → List Nd
 | [], _ => []
 | x :: r, i => vA x i ++ cS r (i + wt x)
end
mutual
theorem qx : ∀ (t : T) (i : Nat), (vA t i).length = wt t
 | .mk k n l, i => by rw [vA, List.length_cons, gD, wt]; omega
theorem gD : ∀ (l : List T) (i : Nat), (cS l i).length = gI l
 | [], _ => rfl
 | x :: r, i => by rw [cS, List.length_append, qx, gD, gI]
end
theorem n9 (t : T) (i : Nat) : vA t i = (t, aU t.l (i + 1)) :: cS t.l (i + 1) := by cases t; rw [vA]; rfl
theorem Cd (t : T) : wt t = gI t.l + 1 := by cases t; rw [wt]; exact Nat.add_comm _ _
theorem kO : ∀ (l : List T) (x : T) (i : Nat), cS (l ++ [x]) i = cS l i ++ vA x (i + gI l)
 | [], x, i => by simp [cS, gI]
 | y :: r, x, i => by rw [List.cons_append, cS, cS, kO r x, List.append_assoc, gI]; congr 3; omega
theorem iv : ∀ (l : List T) (x : T) (i : Nat), aU (l ++ [x]) i = aU l i ++ [((i + gI l : Nat) : Int)]
 | [], x, i => by simp [aU, gI]
 | y :: r, x, i => by rw [List.cons_append, aU, aU, iv r x, gI]; simp; omega
theorem nr {l : List T} {i : Nat} (h : i < l.length) : gI (l.take (i + 1)) = gI (l.take i) + wt (l.getD i default) := by
 have e : ∀ (a : List T) (x : T), gI (a ++ [x]) = gI a + wt x := by
  intro a x; induction a with
  | nil => simp [gI]
  | cons y r ih => rw [List.cons_append, gI, gI, ih]; omega
 rw [List.take_succ_eq_append_getElem h, e]
 simp [h]
theorem de : ∀ (l : List T) (i : Nat), gI (l.take i) ≤ gI l
 | [], i => by simp [gI]
 | x :: r, 0 => by simp [gI]
 | x :: r, i + 1 => by rw [List.take_succ_cons, gI, gI]; have := de r i; omega
theorem cu : ∀ (l : List T) (i : Nat), (aU l i).length = l.length
 | [], _ => rfl
 | x :: r, i => by rw [aU, List.length_cons, cu, List.length_cons]
theorem hZ : ∀ l : List T, l.length ≤ gI l
 | [] => by simp
 | x :: r => by rw [List.length_cons, gI]; have := hZ r; have := fQ x; omega
def lT (t : T) : AV := .agg [.int .i64 t.k, .int .i64 t.n, .aq 0 (cK t.l), .aq 0 []]
theorem qy (t : T) : iR 4 (lT t) := ⟨rfl, rfl, by simp [lT, AV.cells, dX, bM, iP, cR, ak], rfl⟩
theorem bdN (t : T) (φ : AV → Prop) : cj [.int .i64 0, .int .i64 0, .ah, .ah] [(0, 3, t.av)] φ = φ (.agg [.int .i64 t.k, .int .i64 t.n, .aq 0 (cK t.l), .ah]) := by
 cases t with
 | mk k n l =>
 simp only [cj, gk, T.av, eq_iff_iff]
 constructor
 ·rintro ⟨_, _, _, h⟩; exact h
 ·exact fun h => ⟨rfl, rfl, by decide, h⟩
theorem V3 (t : T) : aT (.agg [.int .i64 t.k, .int .i64 t.n, .aq 0 (cK t.l), .ah]) = lT t := rfl
theorem RO.aM {z : AV} {base : Nat} {v : AV} {xs : List AV} {G : List aa} (h : RO z base v xs G) : aM 1 v = True := by
 rcases h with ⟨_, rfl⟩ | ⟨id, cap, _, rfl, _⟩ <;> simp [Go.aL.aM]
theorem eO (l : List Int) : (ja l).one = true ∧ (ja l).ae = bo l ∧ (ja l).val = true ∧ (ja l).cells = [ja l] := by
 cases l with
 | nil => exact ⟨rfl, rfl, rfl, rfl⟩
 | cons v r => exact ⟨rfl, rfl, rfl, rfl⟩
def V4 (base : Nat) (H : List aa) (xs : List AV) (r : AV) (H' : List aa) : Prop := RO zN base r xs H' ∧ H'.take base = H.take base ∧ H.length ≤ H'.length
theorem qz (a b : List Nd) : eB (a ++ b) = eB a ++ eB b := by simp [eB]
theorem qB (a : List Nd) : (eB a).length = a.length := by simp [eB]
theorem Zc : ∀ (N : Nat) (t : T), wt t ≤ N → ∀ (base : Nat) (v : AV) (xs : List AV) (H : List aa), RO zN base v xs H → (∀ x ∈ xs, iR 4 x) → base ≤ H.length → (xs.length + wt t) * 64 ≤ 140737488355328 →
 au Tryz.prog 132 [t.av, v] H (V4 base H (xs ++ eB (vA t xs.length))) := by
 intro N
 induction N with
 | zero => intro t ht; have := fQ t; omega
 | succ N ih =>
 intro t ht base v xs H hR ft hbase hb
 have hw := Cd t
 have XS := hZ t.l
 refine Fu.2.calls rfl ?_
 simp only [Fu, aJ]
 obtain ⟨o1, o2, o3, o4⟩ := hR.one
 simp +contextual only [o3, hR.len, hR.aM, bdN, V3, sZ, Nat.reduceEqDiff, Nat.reduceAdd, ↓reduceIte, reduceCtorEq]
 refine JR zW hR ft 0 [lT t] (by simp) (by simp [qy]) (by simp; omega) hbase fun v1 G1 Sk Sl hj1 tn => ?_
 obtain ⟨o1', o2', o3', o4'⟩ := Sk.one
 simp +contextual only [sZ]
 intro _
 have iI : ∀ i, (xs ++ lT t :: eB (cS (t.l.take i) (xs.length + 1))).length = xs.length + 1 + gI (t.l.take i) := by intro i; simp [qB, gD]; omega
 have jN : ∀ i, ∀ x ∈ xs ++ lT t :: eB (cS (t.l.take i) (xs.length + 1)), iR 4 x := by
  intro i x hx
  rcases List.mem_append.1 hx with hx | hx
  ·exact ft x hx
  ·rcases List.mem_cons.1 hx with rfl | hx
   ·exact qy t
   ·exact jG _ x hx
 refine aO t.l.length (fun i (p : AV × List aa) => RO zN base p.1 (xs ++ lT t :: eB (cS (t.l.take i) (xs.length + 1))) p.2 ∧ p.2.take base = H.take base ∧ H.length ≤ p.2.length)
  (fun i p => [(1, p.1), (5, .int .i64 xs.length), (6, ja (aU (t.l.take i) (xs.length + 1))), (17, .aq 0 (cK t.l)), (18, .int .i64 t.l.length), (19, .int .i64 i)])
  (fun i p => p.2) (v1, G1) ⟨⟨Sk, Sl, tn⟩, aB _ _ _⟩ fun i p hi hI => ?_
 obtain ⟨v, G⟩ := p
 obtain ⟨hR, hG, hl⟩ := hI
 simp only at hR hG hl
 obtain ⟨o1, o2, o3, o4⟩ := hR.one
 have hle := de t.l i
 have EU := cu (t.l.take i) (xs.length + 1)
 have Sm : (t.l.take i).length ≤ t.l.length := by simp; omega
 simp +contextual only [o3, hR.len, hR.aM, iI, rJ, (eO _).2.1, je, sZ, Nat.reduceEqDiff, Nat.reduceAdd, ↓reduceIte, reduceCtorEq]
 refine ⟨fun a8 => ⟨b7 a8, by omega, ?_⟩, fun jL => ?_⟩
 ·have a8 := b7 a8
  have Zd := nr a8
  have hnext := de t.l (i + 1)
  have e2 : t.l.take (i + 1) = t.l.take i ++ [t.l.getD i default] := by rw [List.take_succ_eq_append_getElem a8]; simp [a8]
  refine ag (ih (t.l.getD i default) (by have := bU (iu a8); omega) base v _ G hR (jN i) (by omega) (by rw [iI]; omega)) ?_
  rintro r G' ⟨wX, dY, wJ⟩
  obtain ⟨o1', o2', o3', o4'⟩ := wX.one
  simp +contextual only [o3', sZ, Nat.reduceEqDiff, ↓reduceIte]
  refine ⟨i + 1, (r, G'), ⟨a8, ?_, dY.trans hG, Nat.le_trans hl wJ⟩, by omega, aH ?_ rfl⟩
  ·rw [iI] at wX
   rw [e2, kO, qz, ← List.cons_append, ← List.append_assoc]
   exact wX
  ·rw [e2, iv, ax i (by omega)]
 ·have mq : i = t.l.length := by have := dl jL; omega
  subst mq
  rw [List.take_length] at hR
  have Ei := iI t.l.length
  have Ej := jN t.l.length
  rw [List.take_length] at Ei Ej
  have fW : (xs ++ lT t :: eB (cS t.l (xs.length + 1))).set xs.length (Eh (t, aU t.l (xs.length + 1))) = xs ++ eB (vA t xs.length) := by
   rw [List.set_append_right _ _ (Nat.le_refl _), Nat.sub_self, List.set_cons_zero, n9]; rfl
  have jk : (xs ++ lT t :: eB (cS t.l (xs.length + 1))).getD xs.length .any = lT t := by simp
  generalize xs ++ lT t :: eB (cS t.l (xs.length + 1)) = ys at hR Ei Ej fW jk
  rcases hR with ⟨rfl, _⟩ | ⟨id, cap, bn, rfl, hg, cF, _⟩
  ·simp at Ei
   omega
  have xw := (List.getElem?_eq_some_iff.1 hg).1
  obtain ⟨k1, k2, k3, k4, k5⟩ := aF (aU t.l (xs.length + 1))
  simp +contextual only [hg, kw, List.take_length, sZ, Nat.reduceEqDiff, ↓reduceIte, reduceCtorEq]
  refine ⟨by omega, ?_⟩
  refine zP Ej (by omega) (by decide) (y := Eh (t, aU t.l (xs.length + 1))) k1 k4 (by rw [k2]; exact k3 _) (by rw [jk, k2]; rfl) ?_
  simp +contextual only [sZ, Nat.reduceEqDiff, ↓reduceIte, reduceCtorEq]
  rw [fW]
  refine aW (G.length) (by omega) (by rw [ay, if_pos rfl, jE]; simpa using xw) ?_
  rw [ay, if_pos rfl, List.take_of_length_le (by simp)]
  refine ⟨.inr ⟨id, cap, bn, ?_, ?_, ?_, ?_⟩, ?_, by simpa using hl⟩
  ·rw [← fW]; simp
  ·rw [List.getElem?_set_self xw]
  ·rw [← fW]; simpa using cF
  ·rw [n9]; simp [eB]
  ·rw [List.take_set_of_le bn]; exact hG
end Go.aL
end
