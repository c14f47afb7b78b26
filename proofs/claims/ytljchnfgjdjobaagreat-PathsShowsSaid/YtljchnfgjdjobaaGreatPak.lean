/- Part 11 of 18 of the proof. -/
import Derived.Test.YtljchnfgjdjobaaGreatPaj
import Derived.Test.YtljchnfgjdjobaaGreatPag
import Derived.KernelRfl
import Derived.Test.YtljchnfgjdjobaaGreatPai
import Derived.SizedLaws
set_option linter.unusedVariables false
set_option linter.unusedSimpArgs false
set_option linter.defProp false
set_option linter.unusedSectionVars false
section
namespace Go.Abs
open Go
structure okO (esz : Nat) (x : AV) : Prop where
 len : x.cells.length = esz
 un : x.cells.map AV.unown = x.cells
 bl : belowL 0 x.cells = true
 one : x.cells.all AV.one = true
theorem okO.flat {esz : Nat} : ∀ {xs : List AV}, (∀ x ∈ xs, okO esz x) → (flat xs).length = xs.length * esz ∧ (flat xs).map AV.unown = flat xs ∧ (∀ n, belowL n (flat xs) = true) ∧ (Go.Abs.flat xs).all AV.one = true
 | [], _ => ⟨by simp [Go.Abs.flat], rfl, fun _ => rfl, rfl⟩
 | x :: r, h => by
   obtain ⟨h1, h2, h3, h4⟩ := okO.flat (xs := r) fun y hy => h y (List.mem_cons_of_mem _ hy)
   have hx := h x List.mem_cons_self
   have e : Go.Abs.flat (x :: r) = x.cells ++ Go.Abs.flat r := rfl
   rw [e]
   refine ⟨by rw [List.length_append, hx.len, h1, List.length_cons, Nat.add_mul]; omega, by rw [List.map_append, hx.un, h2], fun n => ?_, by rw [List.all_append, hx.one, h4]; rfl⟩
   rw [belowL_append]; exact ⟨belowL_mono (Nat.zero_le n) _ hx.bl, h3 n⟩
theorem flat_app (xs ys : List AV) : flat (xs ++ ys) = flat xs ++ flat ys := by simp [flat]
theorem apad_okO {esz : Nat} {z : AV} (hz : okO esz (zcanon z)) (n : Nat) : ∀ x ∈ List.replicate n (zcanon z), okO esz x := fun x hx => by rw [List.eq_of_mem_replicate hx]; exact hz
theorem apad_len {esz : Nat} {z : AV} (hz : okO esz (zcanon z)) (n : Nat) : (apad z n).length = n * esz := by
 have := (okO.flat (apad_okO hz n)).1
 rwa [List.length_replicate] at this
theorem apad_drop {esz : Nat} {z : AV} (hz : okO esz (zcanon z)) (n k : Nat) (h : k ≤ n) : (apad z n).drop (k * esz) = apad z (n - k) := by
 have e : apad z n = apad z k ++ apad z (n - k) := by
  unfold apad
  rw [← flat_app, List.replicate_append_replicate]
  congr 2; omega
 rw [e, List.drop_append_of_le_length (by rw [apad_len hz]; omega), List.drop_of_length_le (by rw [apad_len hz]; omega)]
 rfl
def cellsO (z : AV) (xs : List AV) (cap : Nat) : AObj := .cells (flat xs ++ apad z (cap - xs.length))
def RO (z : AV) (base : Nat) (v : AV) (xs : List AV) (G : List AObj) : Prop :=
 (xs = [] ∧ v = .nils) ∨ ∃ id cap, base ≤ id ∧ v = .arr id 0 xs.length cap ∧ G[id]? = some (cellsO z xs cap) ∧ xs.length ≤ cap ∧ xs ≠ []
theorem RO.one {z : AV} {base : Nat} {v : AV} {xs : List AV} {G : List AObj} (h : RO z base v xs G) : v.one = true ∧ v.val = true ∧ v.unown = v ∧ v.cells = [v] := by
 rcases h with ⟨_, rfl⟩ | ⟨id, cap, _, rfl, _⟩ <;> exact ⟨rfl, rfl, rfl, rfl⟩
theorem RO.blw {z : AV} {base : Nat} {v : AV} {xs : List AV} {G : List AObj} (h : RO z base v xs G) {n : Nat} (hn : G.length ≤ n) : v.blw n = true := by
 rcases h with ⟨_, rfl⟩ | ⟨id, cap, _, rfl, c, _⟩
 ·rfl
 ·have := (List.getElem?_eq_some_iff.1 c).1
  rw [bw_arr]; simp; omega
theorem RO.set {z : AV} {base : Nat} {v : AV} {xs : List AV} {G : List AObj} (h : RO z base v xs G) {j : Nat} (hj : j < base) (o : AObj) : RO z base v xs (G.set j o) := by
 rcases h with h | ⟨id, cap, a, b, c, d⟩
 ·exact .inl h
 ·exact .inr ⟨id, cap, a, b, by rw [List.getElem?_set_ne (by omega)]; exact c, d⟩
theorem RO.len {z : AV} {base : Nat} {v : AV} {xs : List AV} {G : List AObj} (h : RO z base v xs G) {H : List AObj} (φ : AV → Prop) : alen v H φ = φ (.int .i64 xs.length) := by
 rcases h with ⟨rfl, rfl⟩ | ⟨id, cap, _, rfl, _⟩ <;> rfl
theorem appendRO {esz bytes : Nat} {z : AV} (hz : okO esz (zcanon z)) {base : Nat} {v : AV} {xs : List AV} {G : List AObj} (h : RO z base v xs G) (hxs : ∀ x ∈ xs, okO esz x) (o : Nat) (ys : List AV) (hy : ys ≠ []) (hys : ∀ x ∈ ys, okO esz x)
 (hb : (xs.length + ys.length) * bytes ≤ 140737488355328) (hG : base ≤ G.length) {K : AV → List AObj → Prop}
 (hK : ∀ v' G', RO z base v' (xs ++ ys) G' → G'.take base = G.take base → (∀ j, j < base → G'[j]? = G[j]?) → G.length ≤ G'.length → K v' G') : aappendA esz bytes z v (.lst o ys) G K := by
 have hok : okE esz ys := fun y hy => ⟨(hys y hy).len, (hys y hy).one⟩
 obtain ⟨f1, f2, f3, f4⟩ := okO.flat hys
 obtain ⟨g1, g2, g3, g4⟩ := okO.flat hxs
 have hpl := apad_len hz
 have hpb : ∀ n m, belowL n (apad z m) = true := fun n m => (okO.flat (apad_okO hz m)).2.2.1 n
 unfold aappendA
 simp only [rlist]
 refine ⟨hok, ?_⟩
 rcases h with ⟨rfl, rfl⟩ | ⟨id, cap, hid, rfl, hg, hle, _⟩
 ·refine ⟨by simpa using hb, fun e => absurd e hy, fun _ cap hc _ => ⟨?_, hK _ _ (.inr ⟨G.length, cap, hG, by simp, ?_, by simpa using hc, by simpa using hy⟩) ?_ ?_ (by simp)⟩⟩
  ·rw [f2, belowL_append]; exact ⟨f3 _, hpb _ _⟩
  ·rw [f2]; simp [cellsO]
  ·rw [List.take_append_of_le_length hG]
  ·intro j hj; rw [List.getElem?_append_left (by omega)]
 ·have hgl := (List.getElem?_eq_some_iff.1 hg).1
  simp only [hg, cellsO, List.length_append, g1, hpl, Nat.zero_add, List.drop_zero]
  refine ⟨hb, hle, by rw [← Nat.add_mul]; exact Nat.le_of_eq (by congr 1; omega), fun hroom => ⟨by rw [f2]; exact f3 _, ?_⟩, fun hno cap' hc _ => ⟨?_, ?_⟩⟩
  ·rw [f2]
   refine hK _ _ (.inr ⟨id, cap, hid, by simp, ?_, by simpa using hroom, by simp [hy]⟩) ?_ ?_ (by simp)
   ·rw [List.getElem?_set_self hgl, cellsO]
    congr 2
    unfold asplice
    rw [f1, List.take_append_of_le_length (by rw [g1]; exact Nat.le_refl _), List.take_of_length_le (by rw [g1]; exact Nat.le_refl _), List.drop_append, List.drop_of_length_le (by rw [g1]; omega), g1,
     show xs.length * esz + ys.length * esz - xs.length * esz = ys.length * esz by omega, apad_drop hz _ _ (by omega), flat_app, List.nil_append, List.length_append]
    rw [show cap - xs.length - ys.length = cap - (xs.length + ys.length) by omega, List.append_assoc]
   ·rw [List.take_set_of_le (by omega)]
   ·intro j hj; rw [List.getElem?_set_ne (by omega)]
  ·rw [List.take_append_of_le_length (by rw [g1]; exact Nat.le_refl _), List.take_of_length_le (by rw [g1]; exact Nat.le_refl _), g2, f2, belowL_append, belowL_append]; exact ⟨⟨g3 _, f3 _⟩, hpb _ _⟩
  ·rw [List.take_append_of_le_length (by rw [g1]; exact Nat.le_refl _), List.take_of_length_le (by rw [g1]; exact Nat.le_refl _), g2, f2, ← flat_app]
   refine hK _ _ (.inr ⟨G.length, cap', hG, by simp, ?_, by simpa using hc, by simp [hy]⟩) ?_ ?_ (by simp)
   ·simp [cellsO]
   ·rw [List.take_append_of_le_length hG]
   ·intro j hj; rw [List.getElem?_append_left (by omega)]
theorem flatO_drop {esz : Nat} : ∀ {xs : List AV} (_ : ∀ x ∈ xs, okO esz x) (i : Nat), i < xs.length → (flat xs).drop (i * esz) = (xs.getD i .any).cells ++ flat (xs.drop (i + 1))
 | [], _, i, h => by simp at h
 | x :: r, hx, 0, _ => by simp [flat]
 | x :: r, hx, i + 1, h => by
   have hl := (hx x List.mem_cons_self).len
   have e : flat (x :: r) = x.cells ++ flat r := rfl
   rw [e, show (i + 1) * esz = x.cells.length + i * esz by rw [hl, Nat.add_mul]; omega, List.drop_append, List.getD_cons_succ, List.drop_succ_cons]
   have := flatO_drop (xs := r) (fun y hy => hx y (List.mem_cons_of_mem _ hy)) i (by simpa using h)
   simp [this]
theorem flatO_set {esz : Nat} {z : AV} {c : Nat} (hc : c < esz) (v : AV) : ∀ {xs : List AV} (_ : ∀ x ∈ xs, okO esz x) (i : Nat) {y : AV} (rest : List AV), i < xs.length → y.cells = (xs.getD i .any).cells.set c v →
 (flat xs ++ rest).set (i * esz + c) v = flat (xs.set i y) ++ rest
 | [], _, i, _, _, h, _ => by simp at h
 | x :: r, hx, 0, y, rest, _, hy => by
   have hl := (hx x List.mem_cons_self).len
   have e : flat (x :: r) = x.cells ++ flat r := rfl
   rw [List.set_cons_zero, e, show flat (y :: r) = y.cells ++ flat r from rfl, hy, Nat.zero_mul, Nat.zero_add, List.append_assoc, List.set_append_left _ _ (by omega), List.append_assoc]
   rfl
 | x :: r, hx, i + 1, y, rest, h, hy => by
   have hl := (hx x List.mem_cons_self).len
   have e : flat (x :: r) = x.cells ++ flat r := rfl
   have ih := flatO_set (z := z) hc v (xs := r) (fun y hy => hx y (List.mem_cons_of_mem _ hy)) i rest (y := y) (by simpa using h) (by simpa using hy)
   rw [List.set_cons_succ, e, show flat (x :: r.set i y) = x.cells ++ flat (r.set i y) from rfl, List.append_assoc, List.append_assoc, ← ih, show (i + 1) * esz + c = x.cells.length + (i * esz + c) by rw [hl, Nat.add_mul]; omega]
   rw [List.set_append_right _ _ (by omega)]
   congr 2; omega
theorem idxO (e id N c i : Nat) (k : IntKind) (φ : AV → Prop) : aindexAddr e (.arr id 0 N c) (.int k (i : Int)) φ = (i < N ∧ φ (.ptr id (i * e))) := by
 simp only [aindexAddr, Int.toNat_natCast, Nat.zero_add, eq_iff_iff]
 constructor
 ·rintro ⟨_, h⟩; exact h
 ·exact fun h => ⟨by omega, h⟩
theorem asplice_one {α : Type} (l : List α) (i : Nat) (x : α) (h : i < l.length) : asplice l i [x] = l.set i x := by
 unfold asplice
 rw [List.set_eq_take_append_cons_drop, if_pos h]
 rfl
theorem storeRO {esz cap id : Nat} {z : AV} {ys : List AV} (hys : ∀ x ∈ ys, okO esz x) {i c : Nat} (hi : i < ys.length) (hc : c < esz) {v y : AV} (h1 : v.one = true) (h2 : v.val = true) (h3 : v.unown.blw 0 = true) (hy : y.cells = (ys.getD i .any).cells.set c v.unown)
 {H : List AObj} {K : List AObj → Prop} (hK : K (H.set id (cellsO z (ys.set i y) cap))) : storeC (some (cellsO z ys cap)) 1 id (i * esz + c) v H K := by
 obtain ⟨g1, g2, g3, g4⟩ := okO.flat hys
 have hle : i * esz + esz ≤ ys.length * esz := by rw [← Nat.succ_mul]; exact Nat.mul_le_mul_right _ hi
 simp only [cellsO, storeC_1, one_cells h1, h2, List.length_cons, List.length_nil, List.all_cons, List.all_nil, h1, List.map_cons, List.map_nil]
 refine ⟨trivial, trivial, by rw [List.length_append, g1]; omega, rfl, belowL_mono (Nat.zero_le _) [v.unown] (by rw [bl_cons, bl_nil, h3]; rfl), ?_⟩
 rw [asplice_one _ _ _ (by rw [List.length_append, g1]; omega), flatO_set (z := z) hc v.unown hys i _ hi hy]
 have e : (ys.set i y).length = ys.length := by simp
 simp only [cellsO, e] at hK
 exact hK
theorem chunksO {esz : Nat} (h0 : 1 < esz) : ∀ {xs : List AV} (_ : ∀ x ∈ xs, okO esz x) (_ : ∀ x ∈ xs, AV.agg x.cells = x) (rest : List AV), chunks esz xs.length (flat xs ++ rest) = xs
 | [], _, _, _ => rfl
 | x :: r, hx, ha, rest => by
   have hl := (hx x List.mem_cons_self)
   have e : flat (x :: r) = x.cells ++ flat r := rfl
   rw [List.length_cons, chunks, if_neg (by omega), e, List.append_assoc, List.take_append_of_le_length (by rw [hl.len]; omega), List.take_of_length_le (by rw [hl.len]; omega), hl.un, ha x List.mem_cons_self]
   rw [show List.drop esz (x.cells ++ (flat r ++ rest)) = flat r ++ rest by rw [← hl.len, List.drop_left], chunksO h0 (fun y hy => hx y (List.mem_cons_of_mem _ hy)) (fun y hy => ha y (List.mem_cons_of_mem _ hy))]
theorem freezeRO {esz id cap : Nat} (h0 : 1 < esz) {z : AV} (hz : okO esz (zcanon z)) {xs : List AV} {H : List AObj} (hx : ∀ x ∈ xs, okO esz x) (ha : ∀ x ∈ xs, AV.agg x.cells = x) (h : H[id]? = some (cellsO z xs cap)) (hl : xs.length ≤ cap) {K : AV → List AObj → Prop} (hK : K (.lst 0 xs) (H.set id .dead)) : asetf1 esz (.arr id 0 xs.length cap) H K := by
 obtain ⟨g1, g2, g3, g4⟩ := okO.flat hx
 simp only [asetf1, h, cellsO, List.drop_zero, chunksO h0 hx ha]
 refine ⟨by omega, hl, by simp [g1], ?_, hK⟩
 rw [List.all_append, g4, show (apad z (cap - xs.length)).all AV.one = true from (okO.flat (apad_okO hz _)).2.2.2]; rfl
end Go.Abs
end
section
set_option maxRecDepth 100000
set_option maxHeartbeats 0
namespace Go.Abs
open Go Go.Proofs
noncomputable def k58v := mkF Tryz.call58 Tryz.func58 Tryz.ntmps58 [(3,0,2),(3,2,2),(3,3,1)] [(0,[0]),(1,[0,4]),(2,[2]),(3,[2])] []
noncomputable def k75v := mkF Tryz.call75 Tryz.func75 Tryz.ntmps75 [(0,0,1),(5,2,1000),(6,0,1),(6,8,1),(7,6,2),(7,9,2),(9,0,6004)] [(0,[1,2]),(1,[1,6]),(2,[1,6,7]),(3,[6,7,15,16,17]),(4,[6,7,15,16,17,18]),(5,[6,7,9,15,16,17]),(6,[6,7,9,15,16,17]),(7,[6,7,15,16,17]),(8,[6,7,15,16,17]),(9,[4,5])] [(7,(.take 1 true (.take 2 true (.take 3 true (.take 4 true (.take 5 true (.take 0 false (.br 6 (.take 7 true (.take 8 true (.br 9 .done .nil))) .nil))))))))]
noncomputable def k118v := mkF Tryz.call118 Tryz.func118 Tryz.ntmps118 [(3,0,2),(3,2,2),(3,3,1)] [(0,[0]),(1,[0,4]),(2,[2]),(3,[2])] []
noncomputable def k132v := mkF Tryz.call132 Tryz.func132 Tryz.ntmps132 [(0,0,1),(2,0,1),(2,4,2),(2,5,1),(6,2,1000),(7,0,1),(7,5,1),(8,1,1),(8,2,2),(8,3,1),(11,0,1),(11,1,1)] [(0,[1,2]),(1,[1,2,5]),(2,[1,2,5]),(3,[1,2,5,6]),(4,[1,5,6,17,18,19]),(5,[1,5,6,17,18,19,20]),(6,[1,5,6,8,17,18,19]),(7,[1,5,6,8,17,18,19]),(8,[1,5,6,17,18,19]),(9,[1,5,6,17,18,19]),(10,[1]),(11,[4])] []
noncomputable def k139v := mkF Tryz.call139 Tryz.func139 Tryz.ntmps139 [(10,9,2000),(15,0,1),(15,4,1),(21,0,1),(21,4,1),(23,2,3000)] [(0,[0,1,2]),(1,[0,1,2,9]),(2,[0,1,2,9,10]),(3,[0,1,2,9,10,11,12]),(4,[0,1,9,10,11,12,26,27,28]),(5,[0,1,9,10,11,12,26,27,28,29]),(6,[0,1,9,10,11,12,13,14,26,27,28]),(7,[0,1,9,10,11,12,13,14,26,27,28,33,34,35]),(8,[0,1,9,10,11,12,13,14,26,27,28,33,34,35,36]),(9,[0,1,9,10,11,12,13,14,15,16,26,27,28,33,34,35]),(10,[0,1,9,10,11,12,13,14,15,26,27,28,33,34,35,50]),(11,[0,1,9,10,11,12,13,15,26,27,28]),(12,[0,1,9,10,11,12,13,26,27,28]),(13,[0,1,9,10,11,12,13,14,26,27,28,33,34,35]),(14,[0,1,9,10,11,12,13,26,27,28,63]),(15,[0,1,9,10,11,12,26,27,28]),(16,[0,1,9,10,11,12,26,27,28]),(17,[10,11,12,69,70,71]),(18,[10,11,12,69,70,71,72]),(19,[10,11,12,17,18,69,70,71]),(20,[10,11,12,17,69,70,71,77]),(21,[10,11,12,69,70,71]),(22,[10,11,12,69,70,71]),(23,[6,7,8])] []
noncomputable def k149v := mkF Tryz.call149 Tryz.func149 Tryz.ntmps149 [(1,2,1),(3,1,2000),(4,0,3000)] [(0,[0,1]),(1,[0,1]),(2,[0,8]),(3,[0]),(4,[4])] []
noncomputable def k185v := mkF Tryz.call185 Tryz.func185 Tryz.ntmps185 [(5,3,2000),(6,19,2000)] [(0,[0,1,2]),(1,[0,1,2,7,8]),(2,[0,1,2,7,38]),(3,[6]),(4,[0,9,10]),(5,[0,9,10,11]),(6,[6])] [(4,(.take 0 true (.take 1 true (.take 2 true (.take 3 true (.take 4 true (.take 5 true (.take 6 true (.take 7 true (.take 8 true (.take 9 true (.take 10 true (.take 11 true (.take 12 true (.take 13 true (.take 14 true (.take 15 true (.take 16 true (.take 17 true (.take 18 true (.take 19 true (.take 20 true (.take 21 true .done))))))))))))))))))))))),(6,(.take 0 true (.take 1 true (.take 2 true (.take 3 true (.take 4 true (.take 5 true (.take 6 true (.take 7 true (.take 8 true (.take 9 true (.take 10 true (.take 11 true (.take 12 true (.take 13 true (.take 14 true (.take 15 true (.take 16 true (.take 17 true (.take 18 true (.br 19 (.take 20 true (.take 21 true (.take 22 true .done))) .nil)))))))))))))))))))))]
noncomputable def k199v := mkF Tryz.call199 Tryz.func199 Tryz.ntmps199 [] [(0,[0,2,3]),(1,[0,2,3,9]),(2,[0,2,3]),(3,[0,2,3])] [(3,(.take 0 true (.take 1 true (.take 4 true (.take 5 true (.take 6 true (.take 7 true (.take 8 true (.take 9 true (.take 10 true (.take 11 true (.take 12 true (.take 2 false (.take 3 false (.br 13 (.take 14 true (.br 15 .done .nil)) .nil)))))))))))))))]
end Go.Abs
end
section
set_option maxRecDepth 100000
namespace Go.Abs
open Go
inductive T where
 | mk (k n : Int) (l : List T)
 deriving Inhabited
mutual
def T.av : T → AV
 | .mk k n l => .agg [.int .i64 k, .int .i64 n, .lst 0 (avs l)]
def avs : List T → List AV
 | [] => []
 | x :: r => x.av :: avs r
end
def T.k : T → Int | .mk k _ _ => k
def T.n : T → Int | .mk _ n _ => n
def T.l : T → List T | .mk _ _ l => l
theorem T.av_eq (x : T) : x.av = .agg [.int .i64 x.k, .int .i64 x.n, .lst 0 (avs x.l)] := by cases x; rfl
theorem avs_map : ∀ l, avs l = l.map T.av
 | [] => rfl
 | x :: r => by simp [avs, avs_map r]
theorem avs_len (l : List T) : (avs l).length = l.length := by simp [avs_map]
theorem avs_getD (l : List T) (i : Nat) (h : i < l.length) : (avs l).getD i .any = (l.getD i default).av := by
 simp [avs_map, h]
mutual
theorem T.av_blw (n : Nat) : ∀ x : T, x.av.blw n = true
 | .mk k m l => by simp [T.av, AV.blw, belowL, avs_blw n l]
theorem avs_blw (n : Nat) : ∀ l : List T, belowL n (avs l) = true
 | [] => rfl
 | x :: r => by simp [avs, belowL, T.av_blw n x, avs_blw n r]
end
theorem T.agg_cells (x : T) : AV.agg x.av.cells = x.av := by cases x; rfl
theorem T.av_val (x : T) : x.av.val = true := by cases x; rfl
theorem T.av_one (x : T) : x.av.cells.all AV.one = true := by cases x; rfl
theorem T.av_unown (x : T) : x.av.unown = x.av := by cases x; rfl
theorem T.av_drop (x : T) : x.av.drop = x.av := by cases x; rfl
theorem T.cells_unown (x : T) : x.av.cells.map AV.unown = x.av.cells := by cases x; rfl
theorem T.cells_drop (x : T) : x.av.cells.map AV.drop = x.av.cells := by cases x; rfl
theorem T.av_clen (x : T) : x.av.cells.length = 3 := by cases x; rfl
theorem lens_avs (o : Nat) (l : List T) : (∀ (own : Nat) (xs : List AV), AV.lst o (avs l) = AV.lst own xs → ∀ z ∈ xs, z.cells.length = 3) = True := by
 simp only [eq_iff_iff, iff_true]
 intro own xs e z hz
 cases e
 rw [avs_map] at hz
 obtain ⟨y, _, rfl⟩ := List.mem_map.1 hz
 exact y.av_clen
theorem idx_avs (e o : Nat) (l : List T) (k : IntKind) (i : Nat) (φ : AV → Prop) : aindexAddr e (.lst o (avs l)) (.int k (i : Int)) φ = (i < l.length ∧ φ (.iptr (l.getD i default).av)) := by
 simp only [aindexAddr, avs_len, Int.toNat_natCast, eq_iff_iff]
 constructor
 ·rintro ⟨_, h, h2⟩; rw [avs_getD _ _ h] at h2; exact ⟨h, h2⟩
 ·rintro ⟨h, h2⟩; rw [avs_getD _ _ h]; exact ⟨by omega, h, h2⟩
theorem load_iptr_T (x : T) (H : List AObj) (φ : AV → Prop) : aload (some 3) (.iptr x.av) H φ = φ x.av := by
 simp [aload, T.av_clen, T.agg_cells]
theorem sp_T (a b c : AV) (x : T) : asplice [a, b, c] 0 x.av.cells = x.av.cells := by simp [asplice, T.av_clen]
theorem bl_T (n : Nat) (x : T) : belowL n x.av.cells = true := belowL_cells (x.av_blw _)
theorem loadC_T (x : T) (φ : AV → Prop) : loadC (some (.cells x.av.cells)) (some 3) 0 φ = φ x.av := by
 have e : List.map AV.drop (List.take 3 (List.drop 0 x.av.cells)) = x.av.cells := by cases x; rfl
 simp only [loadC, e, T.agg_cells]
 simp [T.av_clen]
theorem fk (x : T) (φ : AV → Prop) : afieldAddr 0 none (.iptr x.av) φ = φ (.iptr (.int .i64 x.k)) := by
 cases x; simp [afieldAddr, apart, T.av, AV.cells, T.k, AV.one]
theorem fn_ (x : T) (φ : AV → Prop) : afieldAddr 1 none (.iptr x.av) φ = φ (.iptr (.int .i64 x.n)) := by
 cases x; simp [afieldAddr, apart, T.av, AV.cells, T.n, AV.one]
theorem fl (x : T) (φ : AV → Prop) : afieldAddr 2 none (.iptr x.av) φ = φ (.iptr (.lst 0 (avs x.l))) := by
 cases x; simp [afieldAddr, apart, T.av, AV.cells, T.l, AV.one]
def ints (l : List Int) : List AV := l.map (AV.int .i64)
theorem ints_len (l : List Int) : (ints l).length = l.length := by simp [ints]
theorem ints_blw (n : Nat) (l : List Int) : belowL n (ints l) = true := by
 rw [belowL_iff]; intro x hx; obtain ⟨y, _, rfl⟩ := List.mem_map.1 hx; rfl
theorem lens_ints (o : Nat) (l : List Int) : (∀ (own : Nat) (xs : List AV), AV.lst o (ints l) = AV.lst own xs → ∀ z ∈ xs, z.cells.length = 1) = True := by
 simp only [eq_iff_iff, iff_true]
 intro own xs e z hz
 cases e
 obtain ⟨y, _, rfl⟩ := List.mem_map.1 hz
 rfl
theorem idx_ints (e o : Nat) (l : List Int) (k : IntKind) (i : Nat) (φ : AV → Prop) : aindexAddr e (.lst o (ints l)) (.int k (i : Int)) φ = (i < l.length ∧ φ (.iptr (.int .i64 (l.getD i 0)))) := by
 simp only [aindexAddr, ints_len, Int.toNat_natCast, eq_iff_iff]
 constructor
 ·rintro ⟨_, h, h2⟩; refine ⟨h, ?_⟩; simpa [ints, h] using h2
 ·rintro ⟨h, h2⟩; refine ⟨by omega, h, ?_⟩; simpa [ints, h] using h2
theorem ints_snoc (l : List Int) (n : Int) : ints l ++ [.int .i64 n] = ints (l ++ [n]) := by simp [ints]
theorem ok_int (k : IntKind) (n : Int) : okE 1 [.int k n] = True := by simp [okE, AV.cells, AV.one]
theorem ok_ints (l : List Int) : okE 1 (ints l) = True := by
 simp only [okE, eq_iff_iff, iff_true]
 intro y hy
 obtain ⟨z, _, rfl⟩ := List.mem_map.1 hy
 exact ⟨rfl, rfl⟩
theorem ok_T (x : T) : okE 3 [x.av] = True := by
 simp only [okE, eq_iff_iff, iff_true]
 intro y hy
 rw [List.mem_singleton] at hy
 subst hy
 exact ⟨x.av_clen, x.av_one⟩
theorem cn_int (k : IntKind) (n : Int) : canon (.int k n) = .int k n := _root_.id rfl
theorem cn_T (x : T) : canon x.av = x.av := by cases x; rfl
theorem bs0 (z : AV) (esz : Nat) (φ : List AV → Prop) : abslice (List.replicate 0 z) esz [] φ = φ [] := _root_.id rfl
theorem bs1 (z x : AV) (esz : Nat) (φ : List AV → Prop) : abslice (List.replicate 1 (canon z)) esz [(0, x)] φ = (x.val = true ∧ x.cells.length = esz ∧ φ [canon x]) := by
 simp [abslice]
theorem bs2 (z x y : AV) (esz : Nat) (φ : List AV → Prop) : abslice (List.replicate 2 (canon z)) esz [(0, x), (1, y)] φ = (x.val = true ∧ x.cells.length = esz ∧ y.val = true ∧ y.cells.length = esz ∧ φ [canon x, canon y]) := by
 simp [abslice, List.replicate]
theorem bs3 (z x y u : AV) (esz : Nat) (φ : List AV → Prop) : abslice (List.replicate 3 (canon z)) esz [(0, x), (1, y), (2, u)] φ = (x.val = true ∧ x.cells.length = esz ∧ y.val = true ∧ y.cells.length = esz ∧ u.val = true ∧ u.cells.length = esz ∧ φ [canon x, canon y, canon u]) := by
 simp [abslice, List.replicate]
@[congr] theorem abslice_congr {xs : List AV} {esz : Nat} {ps ps' : List (Nat × AV)} {φ : List AV → Prop} (h : nrm ps = ps') : abslice xs esz ps φ = abslice xs esz ps' φ := by subst h; rfl
def stepsN := (And.intro (And.intro (And.intro (And.intro @or_true @true_or) (And.intro @true_and @and_true)) (And.intro (And.intro @true_implies @Bool.true_and) (And.intro @Bool.and_true (And.intro @Bool.not_true @Bool.not_false)))) (And.intro (And.intro (And.intro @decide_true @decide_false) (And.intro @Classical.not_not @not_true_eq_false)) (And.intro (And.intro @not_false_eq_true @false_implies) (And.intro @Int.not_le (And.intro @Int.not_lt @Nat.le_refl)))))
def stepsT := (And.intro (And.intro (And.intro (And.intro (And.intro @avs_len @T.av_blw) (And.intro @avs_blw @T.av_val)) (And.intro (And.intro @T.av_one @T.av_unown) (And.intro @T.av_drop @T.cells_unown))) (And.intro (And.intro (And.intro @T.cells_drop @T.av_clen) (And.intro @T.agg_cells @lens_avs)) (And.intro (And.intro @idx_avs @load_iptr_T) (And.intro @sp_T (And.intro @bl_T @loadC_T))))) (And.intro (And.intro (And.intro (And.intro @fk @fn_) (And.intro @fl @ints_len)) (And.intro (And.intro @ints_blw @lens_ints) (And.intro @idx_ints @ints_snoc))) (And.intro (And.intro (And.intro @ok_int @ok_T) (And.intro @ok_ints @cn_int)) (And.intro (And.intro @cn_T @bs0) (And.intro @bs1 (And.intro @bs2 @bs3))))))
theorem sZa {α : Type} (a b : α) (h : Decidable True) : (if True then a else b) = a := if_pos trivial
def sZ := And.intro stepsS (And.intro stepsT (And.intro stepsN (And.intro @sZa (And.intro @ne_eq.{1} (And.intro @forall_const.{1} (And.intro @implies_true.{0} (And.intro @implies_true.{1} (And.intro @List.nil_append.{0} (And.intro @List.append_nil.{0} (And.intro @List.cons_append.{0} (And.intro @List.length_cons.{0} @List.length_nil.{0})))))))))))
end Go.Abs
end
section
end
section
set_option maxRecDepth 100000
namespace Go.Abs
open Go Go.Proofs
theorem mem_getD {l : List T} {i : Nat} (h : i < l.length) : l.getD i default ∈ l := by simp [h]
theorem T.lt {x y : T} (h : x ∈ y.l) : SizeOf.sizeOf x < SizeOf.sizeOf y := by
 cases y with
 | mk k n l =>
   have := List.sizeOf_lt_of_mem h
   simp only [T.l] at this
   simp only [T.mk.sizeOf_spec]
   omega
end Go.Abs
end
section
set_option maxRecDepth 100000
namespace Go.Abs
open Go Go.Proofs
end Go.Abs
end
section
set_option maxRecDepth 100000
namespace Go.Abs
open Go Go.Proofs
mutual
def cntT : T → Int → Int × Int → Int × Int
 | .mk _ _ l, d, s => cnts l (d + 1) (s.1 + 1, max s.2 d)
def cnts : List T → Int → Int × Int → Int × Int
 | [], _, s => s
 | x :: r, d, s => if 2000 < s.1 ∨ 200 < s.2 then s else cnts r d (cntT x d s)
end
def cntOk (d : Int) (s : Int × Int) : Prop := 0 ≤ s.1 ∧ s.1 ≤ 2000 ∧ 0 ≤ s.2 ∧ s.2 ≤ 200 ∧ 0 ≤ d ∧ d ≤ 201
def cntOut (s : Int × Int) : Prop := 0 ≤ s.1 ∧ s.1 ≤ 2001 ∧ 0 ≤ s.2 ∧ s.2 ≤ 201
mutual
theorem cntT_out : ∀ (x : T) (d : Int) (s : Int × Int), cntOk d s → cntOut (cntT x d s) ∧ (cntT x d s).2 ≥ d
 | .mk k n l, d, s, h => by
   simp only [cntT]
   obtain ⟨h1, h2, h3, h4, h5, h6⟩ := h
   have := cnts_out l (d + 1) (s.1 + 1, max s.2 d) (by unfold cntOut; simp only; omega) (by omega) (by simp only; omega)
   refine ⟨this.1, ?_⟩
   have h := this.2
   simp only at h
   omega
theorem cnts_out : ∀ (l : List T) (d : Int) (s : Int × Int), cntOut s → 0 ≤ d → d ≤ s.2 + 1 → cntOut (cnts l d s) ∧ s.2 ≤ (cnts l d s).2
 | [], d, s, h, _, _ => by simp [cnts, h]
 | x :: r, d, s, h, hd, hd2 => by
   simp only [cnts]
   split
   ·exact ⟨h, Int.le_refl _⟩
   ·rename_i hn
    obtain ⟨h1, h2, h3, h4⟩ := h
    have hx := cntT_out x d s ⟨h1, by omega, h3, by omega, hd, by omega⟩
    have hr := cnts_out r d (cntT x d s) hx.1 hd (by omega)
    have := cntT_mono x d s
    exact ⟨hr.1, by omega⟩
theorem cntT_mono : ∀ (x : T) (d : Int) (s : Int × Int), s.2 ≤ (cntT x d s).2
 | .mk k n l, d, s => by
   simp only [cntT]
   have := cnts_mono l (d + 1) (s.1 + 1, max s.2 d)
   simp only at this
   omega
theorem cnts_mono : ∀ (l : List T) (d : Int) (s : Int × Int), s.2 ≤ (cnts l d s).2
 | [], d, s => by simp [cnts]
 | x :: r, d, s => by
   simp only [cnts]
   split
   ·omega
   ·have h1 := cntT_mono x d s
    have h2 := cnts_mono r d (cntT x d s)
    omega
end
theorem cnts_drop {l : List T} {i : Nat} {d : Int} {s : Int × Int} (h : i < l.length) : cnts (l.drop i) d s = if 2000 < s.1 ∨ 200 < s.2 then s else cnts (l.drop (i + 1)) d (cntT (l.getD i default) d s) := by
 rw [List.drop_eq_getElem_cons h]
 simp [cnts, h]
def cntObj (s : Int × Int) : List AObj := [.cells [.int .i64 s.1, .int .i64 s.2]]
theorem c171 (H : List AObj) (x : T) (d : Int) (s : Int × Int) (hs : cntOk d s) :
 ACalls Tryz.prog 171 [.ptr H.length 0, x.av, .int .i64 d] (H ++ cntObj s) fun r H' => r = .tuple [] ∧ H' = H ++ cntObj (cntT x d s) := by
 have ih : ∀ y ∈ x.l, ∀ (d : Int) (s : Int × Int), cntOk d s → ACalls Tryz.prog 171 [.ptr H.length 0, y.av, .int .i64 d] (H ++ cntObj s) fun r H' => r = .tuple [] ∧ H' = H ++ cntObj (cntT y d s) :=
  fun y hy d s hs => c171 H y d s hs
 have e : cntT x d s = cnts x.l (d + 1) (s.1 + 1, max s.2 d) := by cases x; simp only [cntT, T.l]
 obtain ⟨h1, h2, h3, h4, h5, h6⟩ := hs
 have w1 : IntKind.i64.wrap (s.1 + 1) = s.1 + 1 := wrap_in _ (by omega)
 have w2 : IntKind.i64.wrap (d + 1) = d + 1 := wrap_in _ (by omega)
 refine k171.2.calls rfl ?_
 simp only [k171, mkF]
 simp only [w1, cntObj, sZ, Nat.reduceEqDiff, Nat.reduceAdd, Nat.reduceLT, Nat.reduceLeDiff, ↓reduceIte, reduceCtorEq]
 intro hl
 have hout : cntOut (s.1 + 1, max s.2 d) := by unfold cntOut; simp only; omega
 have hmd : d ≤ max s.2 d := by omega
 generalize max s.2 d = m at *
 refine swp_loop_st x.l.length (fun i (t : Int × Int) => cntOut t ∧ d ≤ t.2 ∧ cnts (x.l.drop i) (d + 1) t = cntT x d s)
  (fun i t => [(0, .ptr H.length 0), (2, .int .i64 d), (25, .lst 0 (avs x.l)), (26, .int .i64 x.l.length), (27, .int .i64 i)]) (fun i t => H ++ cntObj t) (s.1 + 1, m) ⟨⟨hout, hmd, by rw [e]; rfl⟩, sle_refl _ _ _⟩ fun i t hi hI => ?_
 obtain ⟨⟨k1, k2, k3, k4⟩, k5, hI⟩ := hI
 simp only [w2, cntObj, sZ, Nat.reduceEqDiff, Nat.reduceAdd, Nat.reduceLT, ↓reduceIte, reduceCtorEq]
 refine ⟨fun hlt => ⟨len_lt hlt, ?_⟩, fun hge => ?_⟩
 ·have hlt := len_lt hlt
  rw [cnts_drop hlt] at hI
  refine ⟨fun hn1 => ⟨fun hn2 => ?_, fun hn2 => ?_⟩, fun hn1 => ?_⟩
  ·rw [if_pos (.inr hn2)] at hI; rw [← hI]; exact ret_none (by simp [cntObj]) rfl
  ·rw [if_neg (by omega)] at hI
   have ho : cntOk (d + 1) t := ⟨k1, by omega, k3, by omega, by omega, by omega⟩
   have hx := cntT_out (x.l.getD i default) (d + 1) t ho
   refine scall_to (ih _ (mem_getD hlt) (d + 1) t ho) ?_
   rintro r H' ⟨rfl, rfl⟩
   simp only [cntObj, sZ, Nat.reduceEqDiff, ↓reduceIte, reduceCtorEq]
   exact ⟨i + 1, cntT (x.l.getD i default) (d + 1) t, ⟨hlt, hx.1, by omega, hI⟩, by omega, sle_eq (by rw [wrap_nat i (by omega)]) rfl⟩
  ·rw [if_pos (.inl hn1)] at hI; rw [← hI]; exact ret_none (by simp [cntObj]) rfl
 ·rw [List.drop_of_length_le (len_nlt hge)] at hI
  rw [← hI]
  exact ret_none (by simp [cntObj]) rfl
termination_by SizeOf.sizeOf x
decreasing_by exact T.lt hy
def overB (s : Int × Int) : Bool := decide (2000 < s.1) || decide (200 < s.2)
theorem c172 (H : List AObj) (s : Int × Int) : ACalls Tryz.prog 172 [.ptr H.length 0] (H ++ cntObj s) fun r H' => r = .bool (overB s) ∧ H' = H ++ cntObj s := by
 refine k172.2.calls rfl ?_
 simp only [k172, mkF]
 simp only [cntObj, sZ, Nat.reduceEqDiff, Nat.reduceAdd, Nat.reduceLT, ↓reduceIte, reduceCtorEq]
 refine ⟨fun h => ?_, fun h => ?_⟩
 ·exact ret2 (by simp [cntObj]) rfl (by simp [overB, Int.not_lt.2 h]) rfl
 ·exact ret2 (by simp [cntObj]) rfl (by simp [overB, h]) rfl
def idxT (p : T → Bool) : List T → Int → Int
 | [], _ => -1
 | x :: r, k => if p x = true then k else idxT p r (k + 1)
theorem idxT_any (p : T → Bool) : ∀ (l : List T) (k : Int), 0 ≤ k → (decide (0 ≤ idxT p l k) = l.any p)
 | [], k, _ => by simp [idxT]
 | x :: r, k, h => by
   simp only [idxT, List.any_cons]
   split
   ·rename_i hp; simp [hp, h]
   ·rename_i hp; simp [hp, idxT_any p r (k + 1) (by omega)]
theorem idxT_drop {p : T → Bool} {l : List T} {i : Nat} {k : Int} (h : i < l.length) : idxT p (l.drop i) k = if p (l.getD i default) = true then k else idxT p (l.drop (i + 1)) (k + 1) := by
 rw [List.drop_eq_getElem_cons h]
 simp [idxT, h]
theorem c114 (g : Nat) (p : T → Bool) (l : List T) (hf : ∀ x ∈ l, Pure Tryz.prog g [x.av] (.bool (p x))) :
 Pure Tryz.prog 114 [.lst 0 (avs l), .fn (.func g) [] []] (.int .i64 (idxT p l 0)) := by
 refine fun H => k114.2.calls rfl ?_
 simp only [k114, mkF]
 simp only [sZ, Nat.reduceEqDiff, Nat.reduceAdd, ↓reduceIte, reduceCtorEq]
 intro hl
 refine swp_loop_nat l.length (fun i => idxT p (l.drop i) i = idxT p l 0) (fun i => [(0, .lst 0 (avs l)), (1, .fn (.func g) [] []), (7, .int .i64 l.length), (8, .int .i64 i)]) (fun _ => H) ⟨rfl, sle_refl _ _ _⟩ fun i hi hI => ?_
 simp only [sZ, Nat.reduceEqDiff, Nat.reduceAdd, ↓reduceIte, reduceCtorEq]
 refine ⟨fun hlt => ?_, fun hge => ?_⟩
 ·have hlt := len_lt hlt
  rw [idxT_drop hlt] at hI
  refine ⟨hlt, scall_pure (hf _ (mem_getD hlt)) ?_⟩
  simp only [sZ, Nat.reduceEqDiff, ↓reduceIte, reduceCtorEq]
  refine scond_b (fun hb => ?_) (fun hb => ?_) <;> simp only [sZ, Nat.reduceEqDiff, ↓reduceIte, reduceCtorEq]
  ·rw [if_pos hb] at hI
   exact ret0 rfl (by rw [← hI])
  ·rw [if_neg (by rw [hb]; simp)] at hI
   exact ⟨i + 1, ⟨hlt, hI⟩, by omega, sle_eq (by rw [wrap_nat i (by omega)]) rfl⟩
 ·rw [List.drop_of_length_le (len_nlt hge)] at hI
  exact ret0 rfl (by rw [← hI]; rfl)
theorem c53 (g : Nat) (p : T → Bool) (l : List T) (hf : ∀ x ∈ l, Pure Tryz.prog g [x.av] (.bool (p x))) :
 Pure Tryz.prog 53 [.lst 0 (avs l), .fn (.func g) [] []] (.bool (l.any p)) := by
 refine fun H => k53.2.calls rfl ?_
 simp only [k53, mkF]
 simp only [sZ, Nat.reduceEqDiff, Nat.reduceAdd, ↓reduceIte, reduceCtorEq]
 refine scall_pure (c114 g p l hf) ?_
 simp only [sZ, ↓reduceIte, reduceCtorEq]
 exact ret0 rfl (by rw [idxT_any p l 0 (by omega)])
mutual
def T.shaped : T → Bool
 | .mk k n l => !(decide (n < 0) || (decide (k = 1) && decide (0 < l.length)) || (decide (k ≠ 1) && decide (k ≠ 2)) || decide (8 < l.length)) && shapeds l
def shapeds : List T → Bool
 | [] => true
 | x :: r => x.shaped && shapeds r
end
theorem shapeds_all : ∀ l, shapeds l = l.all T.shaped
 | [] => rfl
 | x :: r => by simp only [shapeds, List.all_cons, shapeds_all r]
theorem shapeds_any (l : List T) : (!(l.any fun x => !x.shaped)) = shapeds l := by
 rw [shapeds_all]
 induction l with
 | nil => rfl
 | cons x r ih => simp only [List.any_cons, List.all_cons, Bool.not_or, Bool.not_not, ih]
theorem T.shaped_eq (x : T) : x.shaped = (!(decide (x.n < 0) || (decide (x.k = 1) && decide (0 < x.l.length)) || (decide (x.k ≠ 1) && decide (x.k ≠ 2)) || decide (8 < x.l.length)) && shapeds x.l) := by
 cases x; simp only [T.shaped, T.k, T.n, T.l]; rfl
theorem T.shaped_go {x : T} (hh : ¬ (x.n < 0 ∨ (x.k = 1 ∧ 0 < x.l.length) ∨ (x.k ≠ 1 ∧ x.k ≠ 2) ∨ 8 < x.l.length)) : x.shaped = shapeds x.l := by
 rw [x.shaped_eq]
 have h1 : decide (x.n < 0) = false := Bool.eq_false_iff.2 (by simp only [ne_eq, decide_eq_true_eq]; omega)
 have h2 : (decide (x.k = 1) && decide (0 < x.l.length)) = false := Bool.eq_false_iff.2 (by simp only [ne_eq, Bool.and_eq_true, decide_eq_true_eq]; omega)
 have h3 : (decide (x.k ≠ 1) && decide (x.k ≠ 2)) = false := Bool.eq_false_iff.2 (by simp only [ne_eq, Bool.and_eq_true, decide_eq_true_eq]; omega)
 have h4 : decide (8 < x.l.length) = false := Bool.eq_false_iff.2 (by simp only [ne_eq, decide_eq_true_eq]; omega)
 rw [h1, h2, h3, h4]; rfl
theorem c211 (x : T) (h : Pure Tryz.prog 173 [x.av] (.bool x.shaped)) : Pure Tryz.prog 211 [x.av] (.bool (!x.shaped)) := by
 refine fun H => k211.2.calls rfl ?_
 simp only [k211, mkF]
 simp only [sZ, Nat.reduceEqDiff, Nat.reduceAdd, ↓reduceIte]
 refine scall_pure h ?_
 simp only [sZ, ↓reduceIte, reduceCtorEq]
 exact ret0 rfl rfl
theorem c173 (x : T) : Pure Tryz.prog 173 [x.av] (.bool x.shaped) := by
 have ih : ∀ y ∈ x.l, Pure Tryz.prog 211 [y.av] (.bool (!y.shaped)) := fun y hy => c211 y (c173 y)
 refine fun H => k173.2.calls rfl ?_
 simp only [k173, mkF]
 simp +contextual only [sZ, Nat.reduceEqDiff, Nat.reduceAdd, ↓reduceIte, reduceCtorEq]
 have fin : ∀ (H' : List AObj), H' = H → (x.n < 0 ∨ (x.k = 1 ∧ 0 < x.l.length) ∨ (x.k ≠ 1 ∧ x.k ≠ 2) ∨ 8 < x.l.length) → aret H.length [RX.t 2] [(2, AV.bool false)] H' fun r H' => r = AV.bool x.shaped ∧ H' = H := by
  rintro H' rfl hh
  refine ret0 rfl ?_
  rw [x.shaped_eq]
  rcases hh with h | h | h | h <;> simp [h]
 have go : ¬ (x.n < 0 ∨ (x.k = 1 ∧ 0 < x.l.length) ∨ (x.k ≠ 1 ∧ x.k ≠ 2) ∨ 8 < x.l.length) → x.shaped = shapeds x.l := by
  intro hh
  rw [x.shaped_eq]
  have h1 : decide (x.n < 0) = false := Bool.eq_false_iff.2 (by simp only [ne_eq, decide_eq_true_eq]; omega)
  have h2 : (decide (x.k = 1) && decide (0 < x.l.length)) = false := Bool.eq_false_iff.2 (by simp only [ne_eq, Bool.and_eq_true, decide_eq_true_eq]; omega)
  have h3 : (decide (x.k ≠ 1) && decide (x.k ≠ 2)) = false := Bool.eq_false_iff.2 (by simp only [ne_eq, Bool.and_eq_true, decide_eq_true_eq]; omega)
  have h4 : decide (8 < x.l.length) = false := Bool.eq_false_iff.2 (by simp only [ne_eq, decide_eq_true_eq]; omega)
  rw [h1, h2, h3, h4]; rfl
 refine ⟨fun h => fin _ rfl (.inl h), fun h => ⟨fun h1 hl => ⟨fun h2 => fin _ rfl (by omega), fun h2 => ⟨fun h3 => fin _ rfl (by omega), fun h3 => scall_pure (c53 211 _ _ ih) ?_⟩⟩,
  fun h1 => ⟨fun h2 => fin _ rfl (by omega), fun h2 hl => ⟨fun h3 => fin _ rfl (by omega), fun h3 => scall_pure (c53 211 _ _ ih) ?_⟩⟩⟩⟩ <;>
 ·simp only [sZ, ↓reduceIte, reduceCtorEq]
  exact ret0 rfl (by rw [go (by omega), shapeds_any])
termination_by SizeOf.sizeOf x
decreasing_by exact T.lt hy
def T.tree (x : T) : Bool := !overB (cntT x 1 (0, 0)) && x.shaped
theorem c108 (x : T) : Pure Tryz.prog 108 [x.av] (.bool x.tree) := by
 refine fun H => k108.2.calls rfl ?_
 simp only [k108, mkF]
 simp only [sZ, Nat.reduceEqDiff, Nat.reduceAdd, ↓reduceIte, reduceCtorEq]
 refine scall_to (c171 H x 1 (0, 0) (by unfold cntOk; simp)) ?_
 rintro r H' ⟨rfl, rfl⟩
 simp only [sZ, Nat.reduceEqDiff, Nat.reduceAdd, ↓reduceIte]
 refine scall_to (c172 H (cntT x 1 (0, 0))) ?_
 rintro r H' ⟨rfl, rfl⟩
 cases hb : overB (cntT x 1 (0, 0)) <;> simp +contextual only [sZ, Nat.reduceEqDiff, Nat.reduceAdd, ↓reduceIte, reduceCtorEq]
 ·refine scall_pure (c173 x) ?_
  simp only [sZ, Nat.reduceEqDiff, ↓reduceIte, reduceCtorEq]
  exact ret1 rfl (by simp [T.tree, hb])
 ·exact ret1 rfl (by simp [T.tree, hb])
end Go.Abs
end
section
set_option maxRecDepth 100000
namespace Go.Abs
open Go Go.Proofs
mutual
def T.sz : T → Int
 | .mk _ _ l => 1 + szs l
def szs : List T → Int
 | [] => 0
 | x :: r => x.sz + szs r
end
mutual
def T.dp : T → Int
 | .mk _ _ l => 1 + dps l
def dps : List T → Int
 | [] => 0
 | x :: r => max x.dp (dps r)
end
mutual
theorem T.sz_pos : ∀ x : T, 1 ≤ x.sz
 | .mk k n l => by simp only [T.sz]; have := szs_pos l; omega
theorem szs_pos : ∀ l : List T, 0 ≤ szs l
 | [] => by simp [szs]
 | x :: r => by simp only [szs]; have := T.sz_pos x; have := szs_pos r; omega
end
mutual
theorem T.dp_pos : ∀ x : T, 1 ≤ x.dp
 | .mk k n l => by simp only [T.dp]; have := dps_pos l; omega
theorem dps_pos : ∀ l : List T, 0 ≤ dps l
 | [] => by simp [dps]
 | x :: r => by simp only [dps]; have := T.dp_pos x; have := dps_pos r; omega
end
def over (s : Int × Int) : Prop := 2000 < s.1 ∨ 200 < s.2
mutual
theorem cntT_spec : ∀ (x : T) (d : Int) (s : Int × Int), cntOk d s → (¬ over (cntT x d s) ↔ s.1 + x.sz ≤ 2000 ∧ d + x.dp - 1 ≤ 200) ∧ (¬ over (cntT x d s) → (cntT x d s).1 = s.1 + x.sz ∧ (cntT x d s).2 = max s.2 (d + x.dp - 1))
 | .mk k n l, d, s, h => by
   obtain ⟨h1, h2, h3, h4, h5, h6⟩ := h
   simp only [cntT, T.sz, T.dp]
   have hp := dps_pos l
   have ih := cnts_spec l (d + 1) (s.1 + 1, max s.2 d) (by unfold cntOut; simp only; omega) (by omega) (by simp only; omega)
   simp only at ih
   refine ⟨ih.1.trans ⟨fun k => ⟨by omega, by omega⟩, fun k => ⟨by omega, by omega, by omega⟩⟩, fun k => ?_⟩
   have k1 := ih.2 k
   have k2 := ih.1.1 k
   exact ⟨by omega, by omega⟩
theorem cnts_spec : ∀ (l : List T) (d : Int) (s : Int × Int), cntOut s → 0 ≤ d → d ≤ s.2 + 1 → (¬ over (cnts l d s) ↔ s.1 + szs l ≤ 2000 ∧ s.2 ≤ 200 ∧ d + dps l - 1 ≤ 200) ∧ (¬ over (cnts l d s) → (cnts l d s).1 = s.1 + szs l ∧ (cnts l d s).2 = max s.2 (d + dps l - 1))
 | [], d, s, h, h5, h6 => by
   simp only [cnts, szs, dps, over]
   exact ⟨⟨fun k => ⟨by omega, by omega, by omega⟩, fun k => by omega⟩, fun k => ⟨by omega, by omega⟩⟩
 | x :: r, d, s, h, h5, h6 => by
   obtain ⟨h1, h2, h3, h4⟩ := h
   simp only [cnts]
   have hx0 := x.sz_pos
   have hd0 := x.dp_pos
   have hr0 := szs_pos r
   have he0 := dps_pos r
   simp only [szs, dps]
   by_cases ho : 2000 < s.1 ∨ 200 < s.2
   ·rw [if_pos ho]
    refine ⟨⟨fun k => absurd ho k, fun k => ?_⟩, fun k => absurd ho k⟩
    omega
   ·rw [if_neg ho]
    have hok : cntOk d s := ⟨h1, by omega, h3, by omega, h5, by omega⟩
    have hx := cntT_spec x d s hok
    have ho2 := cntT_out x d s hok
    have hmn := cntT_mono x d s
    have ih := cnts_spec r d (cntT x d s) ho2.1 h5 (by omega)
    generalize cntT x d s = t at *
    by_cases hot : over t
    ·have hn : over (cnts r d t) := by
      refine Classical.byContradiction fun hc => ?_
      have := ih.1.1 hc
      unfold over at hot
      omega
     refine ⟨⟨fun k => absurd hn k, fun k => ?_⟩, fun k => absurd hn k⟩
     have := hx.1.2 (by omega)
     exact absurd hot this
    ·have k1 := hx.2 hot
     have k2 := hx.1.1 hot
     refine ⟨ih.1.trans ⟨fun k => ⟨by omega, by omega, by omega⟩, fun k => ⟨by omega, by omega, by omega⟩⟩, fun k => ?_⟩
     have k3 := ih.2 k
     exact ⟨by omega, by omega⟩
end
theorem overB_iff (s : Int × Int) : overB s = true ↔ over s := by simp [overB, over]
theorem T.tree_iff (x : T) : x.tree = true ↔ x.sz ≤ 2000 ∧ x.dp ≤ 200 ∧ x.shaped = true := by
 have h := (cntT_spec x 1 (0, 0) (by unfold cntOk; simp)).1
 unfold T.tree
 rw [Bool.and_eq_true, Bool.not_eq_true', ← Bool.not_eq_true, overB_iff]
 constructor
 ·rintro ⟨h1, h2⟩
  have := h.1 h1
  simp only at this
  exact ⟨by omega, by omega, h2⟩
 ·rintro ⟨h1, h2, h3⟩
  exact ⟨h.2 (by simp only; omega), h3⟩
def ents (vs : List Int) : List (AV × AV) := vs.map fun v => (.int .i64 v, .bool true)
def outC : List Int → AV
 | [] => .nils
 | v :: r => .lst 1 (ints (v :: r))
theorem outC_snoc (vs : List Int) (n : Int) : AV.lst 1 (ints (vs ++ [n])) = outC (vs ++ [n]) := by
 cases vs <;> rfl
theorem ap_out (vs : List Int) (n : Int) (o : Nat) (ψ : List AV → Prop) : aappend 1 8 (outC vs) (.lst o [.int .i64 n]) ψ = ((vs.length + 1) * 8 ≤ 140737488355328 ∧ ψ (ints (vs ++ [n]))) := by
 cases vs with
 | nil => simp [outC, ap_nils, ok_int, ints]
 | cons v r =>
   show aappend 1 8 (.lst 1 (ints (v :: r))) _ ψ = _
   rw [ap_lst, ok_int, ints_len, ints_snoc]
   simp
end Go.Abs
end
section
set_option maxRecDepth 100000
namespace Go.Abs
open Go Go.Proofs
mutual
def mapT (f : Int → T) : T → T
 | .mk k n l => if k = 1 then f n else .mk k n (mapTs f l)
def mapTs (f : Int → T) : List T → List T
 | [] => []
 | x :: r => mapT f x :: mapTs f r
end
def outT : List T → AV
 | [] => .nils
 | v :: r => .lst 3 (avs (v :: r))
theorem avs_snoc (l : List T) (x : T) : avs l ++ [x.av] = avs (l ++ [x]) := by simp [avs_map]
theorem outT_snoc (vs : List T) (n : T) : AV.lst 3 (avs (vs ++ [n])) = outT (vs ++ [n]) := by
 cases vs <;> rfl
theorem ap_outT (b : Nat) (vs : List T) (n : T) (o : Nat) (ψ : List AV → Prop) : aappend 3 b (outT vs) (.lst o [n.av]) ψ = ((vs.length + 1) * b ≤ 140737488355328 ∧ ψ (avs (vs ++ [n]))) := by
 cases vs with
 | nil => simp [outT, ap_nils, ok_T, avs]
 | cons v r =>
   show aappend 3 b (.lst 3 (avs (v :: r))) _ ψ = _
   rw [ap_lst, ok_T, avs_len, avs_snoc]
   simp
theorem shaped_kids {x : T} (h : x.shaped = true) : x.l.length ≤ 8 ∧ ∀ y ∈ x.l, y.shaped = true := by
 rw [x.shaped_eq, Bool.and_eq_true, Bool.not_eq_true', Bool.or_eq_false_iff] at h
 have h1 := h.1.2
 have h2 := h.2
 rw [shapeds_all] at h2
 exact ⟨by simpa using h1, fun y hy => List.all_eq_true.1 h2 y hy⟩
end Go.Abs
end
section
set_option maxRecDepth 100000
namespace Go.Abs
open Go Go.Proofs
end Go.Abs
end
section
set_option maxRecDepth 100000
namespace Go.Abs
open Go Go.RowKit
mutual
def T.wf : T → Prop
 | .mk k n l => (-9223372036854775808 ≤ k ∧ k ≤ 9223372036854775807) ∧ (-9223372036854775808 ≤ n ∧ n ≤ 9223372036854775807) ∧ l.length ≤ 9223372036854775807 ∧ wfs l
def wfs : List T → Prop
 | [] => True
 | x :: r => x.wf ∧ wfs r
end
theorem wfs_iff : ∀ l : List T, wfs l ↔ ∀ x ∈ l, x.wf
 | [] => by simp [wfs]
 | x :: r => by simp [wfs, wfs_iff r]
section
variable {H : Type} {enc : TypeId × Value → H} {P : Program} {w : World} {base : Nat} {sp : Nat → Bool} {held : Bool}
structure TreeTy (P : Program) (ti tt tl : TypeId) : Prop where
 int : P.underlying ti = some (.int .i64)
 tree : ∃ f0 f1 f2 : Field, P.underlying tt = some (.struct #[f0, f1, f2]) ∧ f0.type = ti ∧ f0.offset = 0 ∧ f1.type = ti ∧ f1.offset = 1 ∧ f2.type = tl ∧ f2.offset = 2
 list : P.underlying tl = some (.slice tt)
 c1 : P.cellsOf ti = 1
 c3 : P.cellsOf tt = 3
 cl : P.cellsOf tl = 1
theorem i64_wf {n : Int} (h : (Lit.int .i64 n).wf = true) : -9223372036854775808 ≤ n ∧ n ≤ 9223372036854775807 := by
 simp only [Lit.wf, Bool.and_eq_true, decide_eq_true_eq] at h
 revert h
 simp [IntKind.min, IntKind.max, IntKind.signed, IntKind.bits]
theorem range_list {n : Nat} {p : Nat → T → Prop} (h : ∀ i, i < n → ∃ t, p i t) : ∃ f : Nat → T, ∀ i, i < n → p i (f i) := by
 refine ⟨fun i => if hi : i < n then Classical.choose (h i hi) else default, fun i hi => ?_⟩
 simp only [dif_pos hi]
 exact Classical.choose_spec (h i hi)
def isT (w : World) (cs : List Value) (t : T) : Prop := RepL (memOf w) [] cs t.av.cells ∧ t.wf
def isTs (w : World) (cs : List Value) (l : List T) : Prop := (∃ v, cs = [v] ∧ (∃ y, Rep (memOf w) [] v y ∧ (y = .lst 0 (avs l) ∨ (y = .nils ∧ l = [])))) ∧ l.length ≤ 9223372036854775807 ∧ wfs l
theorem isTs.rep {cs : List Value} {l : List T} (h : isTs w cs l) : ∃ v, cs = [v] ∧ Rep (memOf w) [] v (.lst 0 (avs l)) := by
 obtain ⟨⟨v, rfl, y, hr, hy⟩, _⟩ := h
 refine ⟨v, rfl, ?_⟩
 rcases hy with rfl | ⟨rfl, rfl⟩
 ·exact hr
 ·exact hr.drop
def tsLen (d : DataW H) (l : List T) : Prop := match d with | .slice es _ => l.length = es.length | _ => l = []
theorem trod_tree {ti tt tl : TypeId} (hT : TreeTy P ti tt tl) : ∀ (fuel : Nat),
 (∀ (cs : List Value) (x : DataW H × List MemPlace), DataW.trod enc P w base sp held fuel tt cs = some x → ∃ t : T, isT w cs t) ∧
 (∀ (cs : List Value) (x : DataW H × List MemPlace), DataW.trod enc P w base sp held fuel tl cs = some x → ∃ l : List T, isTs w cs l ∧ tsLen x.1 l) := by
 intro fuel
 induction fuel with
 | zero => exact ⟨fun cs x h => by simp [DataW.trod] at h, fun cs x h => by simp [DataW.trod] at h⟩
 | succ n ih =>
   refine ⟨fun cs x h => ?_, fun cs x h => ?_⟩
   ·obtain ⟨f0, f1, f2, hu, h0, o0, h1, o1, h2, o2⟩ := hT.tree
    obtain ⟨xs, m, hm, rfl, hlen, hxs, hf⟩ := DataW.trod_struct hu h
    cases hm
    have g0 := hf 0 f0 rfl
    have g1 := hf 1 f1 rfl
    have g2 := hf 2 f2 rfl
    rw [h0, o0, hT.c1] at g0
    rw [h1, o1, hT.c1] at g1
    rw [h2, o2, hT.cl] at g2
    simp at hxs
    rw [hT.c3] at hlen
    match cs, hlen with
    | [a, b, c], _ =>
      have e0 : xs[0]? = some xs[0] := by simp [hxs]
      have e1 : xs[1]? = some xs[1] := by simp [hxs]
      have e2 : xs[2]? = some xs[2] := by simp [hxs]
      rw [e0] at g0; rw [e1] at g1; rw [e2] at g2
      obtain ⟨k, ek, _, wk⟩ := DataW.trod_int hT.int g0
      obtain ⟨q, eq, _, wq⟩ := DataW.trod_int hT.int g1
      obtain ⟨l, hl, _⟩ := ih.2 _ _ g2
      obtain ⟨v, ev, hv⟩ := hl.rep
      simp at ek eq ev
      subst ek eq ev
      exact ⟨.mk k q l, .cons _ _ _ _ (.int _ _) (.cons _ _ _ _ (.int _ _) (.cons _ _ _ _ hv .nil)), i64_wf wk, i64_wf wq, hl.2.1, hl.2.2⟩
   ·rcases DataW.trod_slice hT.list h with ⟨rfl, rfl⟩ | ⟨a, len, cap, elems, rest, m, hm, rfl, rfl, hb, hle, hcap, hel, hget, _, _⟩
    ·exact ⟨[], ⟨⟨_, rfl, .nils, .nils, .inr ⟨rfl, rfl⟩⟩, by simp, trivial⟩, rfl⟩
    cases hm
    rw [hT.c3] at hget
    have hex : ∀ i, i < len → ∃ t : T, ∃ cs', w.cells? base (a.add (i * 3)) 3 = some cs' ∧ isT w cs' t := by
     intro i hi
     have := hget i hi
     rw [List.getElem?_eq_getElem (by omega)] at this
     obtain ⟨cs', k1, k2⟩ := Option.bind_eq_some_iff.1 this
     obtain ⟨t, ht⟩ := ih.1 _ _ k2
     exact ⟨t, cs', k1, ht⟩
    obtain ⟨f, hf⟩ := range_list hex
    have hmx : maxLen = 9223372036854775807 := rfl
    refine ⟨(List.range len).map f, ⟨⟨_, rfl, _, ?_, .inl rfl⟩, by simp; omega, ?_⟩, by simp [tsLen, hel]⟩
    ·rw [avs_map, List.map_map]
     refine rep_slice (e := 3) (base := base) (by decide) hle hcap (fun i => if hi : i < len then Classical.choose (hf i hi) else []) _ fun i hi => ?_
     simp only [dif_pos hi]
     obtain ⟨k1, k2⟩ := Classical.choose_spec (hf i hi)
     exact ⟨k1, k2.1⟩
    ·rw [wfs_iff]
     intro x hx
     obtain ⟨i, hi, rfl⟩ := List.mem_map.1 hx
     obtain ⟨cs', _, k2⟩ := hf i (List.mem_range.1 hi)
     exact k2.2
theorem open_T {ti tt tl : TypeId} (hT : TreeTy P ti tt tl) {r : Reach} {b0 : Nat} {v : Value} {d : DataW H} {ps : List MemPlace} (hval : Value.okWide P w r b0 tt v) (hd : DataW.Trod enc P w base sp held tt v d ps) :
 ∃ t : T, Rep (memOf w) [] v t.av ∧ t.wf := by
 obtain ⟨f0, f1, f2, hu, _⟩ := hT.tree
 obtain ⟨cs, rfl, _⟩ := WideShapes.okWide_struct hu hval
 obtain ⟨fuel, hf⟩ := hd
 obtain ⟨t, h1, h2⟩ := (trod_tree hT fuel).1 _ _ hf
 refine ⟨t, ?_, h2⟩
 have : Rep (memOf w) [] (.agg cs.toList.toArray) (.agg t.av.cells) := .agg _ _ h1
 rw [t.agg_cells] at this
 simpa using this
end
end Go.Abs
end
section
end
section
set_option maxRecDepth 100000
namespace Go.Abs
open Go Go.Proofs
end Go.Abs
end
section
set_option maxRecDepth 100000
namespace Go.Abs
open Go Go.Proofs
theorem ok_avs (l : List T) : okE 3 (avs l) = True := by
 simp only [okE, eq_iff_iff, iff_true]
 intro y hy
 rw [avs_map] at hy
 obtain ⟨z, _, rfl⟩ := List.mem_map.1 hy
 exact ⟨z.av_clen, z.av_one⟩
end Go.Abs
end
section
set_option maxRecDepth 100000
namespace Go.Abs
open Go Go.Proofs
def sub (l : List T) (t : T) : T := mapT (fun n => l.getD n.toNat default) t
end Go.Abs
end
section
namespace Go.Rpo
open Go.Abs
mutual
def code : T → List Int
 | .mk k n l => k :: n :: (l.length : Int) :: codes l
def codes : List T → List Int
 | [] => []
 | x :: r => code x ++ codes r
end
mutual
theorem code_inj : ∀ (a b : T) (r s : List Int), code a ++ r = code b ++ s → a = b ∧ r = s
 | .mk k n l, .mk k' n' l', r, s, h => by
   simp only [code, List.cons_append, List.cons.injEq] at h
   obtain ⟨h1, h2, h3, h4⟩ := h
   obtain ⟨h5, h6⟩ := codes_inj l l' r s (by omega) h4
   exact ⟨by rw [h1, h2, h5], h6⟩
theorem codes_inj : ∀ (l m : List T) (r s : List Int), l.length = m.length → codes l ++ r = codes m ++ s → l = m ∧ r = s
 | [], [], r, s, _, h => ⟨rfl, by simpa [codes] using h⟩
 | x :: l, y :: m, r, s, hl, h => by
   simp only [codes, List.append_assoc] at h
   obtain ⟨h1, h2⟩ := code_inj x y _ _ h
   obtain ⟨h3, h4⟩ := codes_inj l m r s (by simpa using hl) h2
   exact ⟨by rw [h1, h3], h4⟩
 | [], _ :: _, _, _, h, _ => by simp at h
 | _ :: _, [], _, _, h, _ => by simp at h
end
theorem code_eq {a b : T} (h : code a = code b) : a = b := (code_inj a b [] [] (by rw [h])).1
instance : DecidableEq T := fun a b => decidable_of_iff (code a = code b) ⟨code_eq, fun h => by rw [h]⟩
def tle (a b : T) : Prop := code a ≤ code b
instance (a b : T) : Decidable (tle a b) := inferInstanceAs (Decidable (code a ≤ code b))
theorem tle_anti {a b : T} (h1 : tle a b) (h2 : tle b a) : a = b := code_eq (List.le_antisymm h1 h2)
theorem tle_total (a b : T) : tle a b ∨ tle b a := List.le_total _ _
theorem tle_trans {a b c : T} (h1 : tle a b) (h2 : tle b c) : tle a c := List.le_trans h1 h2
def ins (x : T) : List T → List T
 | [] => [x]
 | y :: r => if tle x y then x :: y :: r else y :: ins x r
def srt : List T → List T
 | [] => []
 | x :: r => ins x (srt r)
theorem ins_perm (x : T) : ∀ l, (ins x l).Perm (x :: l)
 | [] => List.Perm.refl _
 | y :: r => by
   simp only [ins]
   split
   ·exact List.Perm.refl _
   ·exact ((ins_perm x r).cons y).trans (List.Perm.swap _ _ _)
theorem srt_perm : ∀ l, (srt l).Perm l
 | [] => List.Perm.refl _
 | x :: r => (ins_perm x _).trans ((srt_perm r).cons x)
theorem ins_comm (x y : T) : ∀ l, ins x (ins y l) = ins y (ins x l)
 | [] => by
   simp only [ins]
   by_cases h1 : tle x y <;> by_cases h2 : tle y x <;> simp only [h1, h2, if_true, if_false]
   ·rw [tle_anti h1 h2]
   ·rcases tle_total x y with h | h
    ·exact absurd h h1
    ·exact absurd h h2
 | z :: r => by
   simp only [ins]
   by_cases hx : tle x z <;> by_cases hy : tle y z <;> simp only [hx, hy, if_true, if_false, ins]
   ·by_cases h1 : tle x y <;> by_cases h2 : tle y x <;> simp only [h1, h2, if_true, if_false]
    ·rw [tle_anti h1 h2]
    ·rcases tle_total x y with h | h
     ·exact absurd h h1
     ·exact absurd h h2
   ·have h2 : ¬ tle y x := fun h => hy (tle_trans h hx)
    simp only [h2, if_false]
   ·have h2 : ¬ tle x y := fun h => hx (tle_trans h hy)
    simp only [h2, if_false]
   ·rw [ins_comm x y r]
theorem srt_eq {l m : List T} (h : l.Perm m) : srt l = srt m := by
 induction h with
 | nil => rfl
 | cons x _ ih => simp only [srt, ih]
 | swap x y l => simp only [srt]; exact ins_comm _ _ _
 | trans _ _ h1 h2 => rw [h1, h2]
theorem srt_iff {l m : List T} : srt l = srt m ↔ l.Perm m := ⟨fun h => (srt_perm l).symm.trans (h ▸ srt_perm m), srt_eq⟩
theorem mem_srt {x : T} {l : List T} : x ∈ srt l ↔ x ∈ l := (srt_perm l).mem_iff
mutual
def wt : T → Nat
 | .mk _ _ l => 1 + wts l
def wts : List T → Nat
 | [] => 0
 | x :: r => wt x + wts r
end
theorem wts_mem {x : T} : ∀ {l : List T}, x ∈ l → wt x ≤ wts l
 | y :: r, h => by
   simp only [wts]
   rcases List.mem_cons.1 h with rfl | h
   ·omega
   ·have := wts_mem h; omega
theorem wt_pos (a : T) : 0 < wt a := by cases a; simp only [wt]; omega
theorem wt_mem {a x : T} (h : x ∈ a.l) : wt x < wt a := by
 cases a with
 | mk k n l => have := wts_mem (l := l) h; simp only [wt]; omega
structure Od where
 pl : Int → Int
 sp : Int → Int
mutual
def norm (O : Od) : T → T
 | .mk k n l => if k = 2 then .mk 2 (O.pl n) (if O.sp (O.pl n) = 3 then srt (norms O l) else norms O l) else .mk 1 n []
def norms (O : Od) : List T → List T
 | [] => []
 | x :: r => norm O x :: norms O r
end
theorem norms_map (O : Od) : ∀ l, norms O l = l.map (norm O)
 | [] => rfl
 | x :: r => by simp [norms, norms_map O r]
def Lx (G : T → T → Prop) : List T → List T → Prop
 | [], _ => False
 | _ :: _, [] => True
 | x :: l, y :: m => x = y ∧ Lx G l m ∨ G x y
def side (s : Int) (l : List T) : List T := if s = 2 then l.reverse else l
def Mu (G : T → T → Prop) (l m : List T) : Prop :=
 (∃ x ∈ l, m.count x < l.count x) ∧ ∀ y ∈ m, l.count y < m.count y → ∃ x ∈ l, m.count x < l.count x ∧ G x y
def Fm (sp : Int → Int) (G : T → T → Prop) (a b : T) : Prop :=
 a.k = 2 ∧ ((∃ x ∈ a.l, x = b ∨ G x b) ∨ b.k = 2 ∧ (
  (b.n < a.n ∧ ∀ y ∈ b.l, G a y) ∨
  (b.n = a.n ∧ sp a.n ≠ 3 ∧ (∀ y ∈ b.l, G a y) ∧ Lx G (side (sp a.n) a.l) (side (sp a.n) b.l)) ∨
  (b.n = a.n ∧ sp a.n = 3 ∧ Mu G a.l b.l)))
theorem mem_side {s : Int} {l : List T} {x : T} : x ∈ side s l ↔ x ∈ l := by unfold side; split <;> simp
theorem Lx_congr {G G' : T → T → Prop} : ∀ {l m : List T}, (∀ x ∈ l, ∀ y ∈ m, (G x y ↔ G' x y)) → (Lx G l m ↔ Lx G' l m)
 | [], _, _ => Iff.rfl
 | _ :: _, [], _ => Iff.rfl
 | x :: l, y :: m, h => by
   simp only [Lx]
   rw [Lx_congr (fun x hx y hy => h x (List.mem_cons_of_mem _ hx) y (List.mem_cons_of_mem _ hy)), h x List.mem_cons_self y List.mem_cons_self]
theorem Fm_congr {sp : Int → Int} {G G' : T → T → Prop} {a b : T} (h1 : ∀ x ∈ a.l, (G x b ↔ G' x b)) (h2 : ∀ y ∈ b.l, (G a y ↔ G' a y)) (h3 : ∀ x ∈ a.l, ∀ y ∈ b.l, (G x y ↔ G' x y)) :
 Fm sp G a b ↔ Fm sp G' a b := by
 have e1 : (∃ x ∈ a.l, x = b ∨ G x b) ↔ (∃ x ∈ a.l, x = b ∨ G' x b) := ⟨fun ⟨x, hx, h⟩ => ⟨x, hx, by rwa [← h1 x hx]⟩, fun ⟨x, hx, h⟩ => ⟨x, hx, by rwa [h1 x hx]⟩⟩
 have e2 : (∀ y ∈ b.l, G a y) ↔ (∀ y ∈ b.l, G' a y) := ⟨fun h y hy => (h2 y hy).1 (h y hy), fun h y hy => (h2 y hy).2 (h y hy)⟩
 have e3 : Lx G (side (sp a.n) a.l) (side (sp a.n) b.l) ↔ Lx G' (side (sp a.n) a.l) (side (sp a.n) b.l) := Lx_congr fun x hx y hy => h3 x (mem_side.1 hx) y (mem_side.1 hy)
 have e4 : Mu G a.l b.l ↔ Mu G' a.l b.l := by
  unfold Mu
  refine and_congr Iff.rfl ⟨fun h y hy hc => ?_, fun h y hy hc => ?_⟩ <;> obtain ⟨x, hx, hc', hg⟩ := h y hy hc
  ·exact ⟨x, hx, hc', (h3 x hx y hy).1 hg⟩
  ·exact ⟨x, hx, hc', (h3 x hx y hy).2 hg⟩
 unfold Fm
 rw [e1, e2, e3, e4]
def GtF (sp : Int → Int) : Nat → T → T → Prop
 | 0 => fun _ _ => False
 | f + 1 => Fm sp (GtF sp f)
def Gt (sp : Int → Int) (a b : T) : Prop := GtF sp (wt a + wt b) a b
theorem GtF_stable (sp : Int → Int) : ∀ (f g : Nat) (a b : T), wt a + wt b ≤ f → wt a + wt b ≤ g → (GtF sp f a b ↔ GtF sp g a b)
 | 0, _, a, b, h, _ => by have := wt_pos a; omega
 | _ + 1, 0, a, b, _, h => by have := wt_pos a; omega
 | f + 1, g + 1, a, b, h1, h2 => by
   simp only [GtF]
   refine Fm_congr (fun x hx => ?_) (fun y hy => ?_) (fun x hx y hy => ?_)
   ·have := wt_mem hx; exact GtF_stable sp f g x b (by omega) (by omega)
   ·have := wt_mem hy; exact GtF_stable sp f g a y (by omega) (by omega)
   ·have := wt_mem hx; have := wt_mem hy; exact GtF_stable sp f g x y (by omega) (by omega)
theorem gt_iff {sp : Int → Int} {a b : T} : Gt sp a b ↔ Fm sp (Gt sp) a b := by
 have e : GtF sp (wt a + wt b) a b ↔ GtF sp (wt a + wt b + 1) a b := GtF_stable sp _ _ a b (by omega) (by omega)
 unfold Gt
 rw [e]
 show Fm sp (GtF sp (wt a + wt b)) a b ↔ _
 refine Fm_congr (fun x hx => ?_) (fun y hy => ?_) (fun x hx y hy => ?_)
 ·have := wt_mem hx; exact GtF_stable sp _ _ x b (by omega) (by omega)
 ·have := wt_mem hy; exact GtF_stable sp _ _ a y (by omega) (by omega)
 ·have := wt_mem hx; have := wt_mem hy; exact GtF_stable sp _ _ x y (by omega) (by omega)
section
variable {sp : Int → Int}
theorem gt_op {a b : T} (h : Gt sp a b) : a.k = 2 := (gt_iff.1 h).1
theorem gt_sub {a b x : T} (ha : a.k = 2) (hx : x ∈ a.l) (h : x = b ∨ Gt sp x b) : Gt sp a b := gt_iff.2 ⟨ha, .inl ⟨x, hx, h⟩⟩
theorem count_pos_of_lt {l m : List T} {x : T} (h : m.count x < l.count x) : x ∈ l := List.count_pos_iff.1 (by omega)
theorem gt_cases {a b : T} (h : Gt sp a b) : (∃ x ∈ a.l, x = b ∨ Gt sp x b) ∨ b.k = 2 ∧ (∀ y ∈ b.l, Gt sp a y) ∧ (
 b.n < a.n ∨ (b.n = a.n ∧ sp a.n ≠ 3 ∧ Lx (Gt sp) (side (sp a.n) a.l) (side (sp a.n) b.l)) ∨ (b.n = a.n ∧ sp a.n = 3 ∧ Mu (Gt sp) a.l b.l)) := by
 obtain ⟨ha, h | ⟨hb, h | h | h⟩⟩ := gt_iff.1 h
 ·exact .inl h
 ·exact .inr ⟨hb, h.2, .inl h.1⟩
 ·exact .inr ⟨hb, h.2.2.1, .inr (.inl ⟨h.1, h.2.1, h.2.2.2⟩)⟩
 ·refine .inr ⟨hb, fun y hy => ?_, .inr (.inr h)⟩
  obtain ⟨_, _, _, h2⟩ := h
  by_cases hc : a.l.count y < b.l.count y
  ·obtain ⟨x, hx, _, hg⟩ := h2 y hy hc
   exact gt_sub ha hx (.inr hg)
  ·have : 0 < b.l.count y := List.count_pos_iff.2 hy
   exact gt_sub ha (List.count_pos_iff.1 (by omega)) (.inl rfl)
theorem gt_of {a b : T} (ha : a.k = 2) (hb : b.k = 2) (h1 : ∀ y ∈ b.l, Gt sp a y) (h2 : b.n < a.n ∨ (b.n = a.n ∧ sp a.n ≠ 3 ∧ Lx (Gt sp) (side (sp a.n) a.l) (side (sp a.n) b.l)) ∨ (b.n = a.n ∧ sp a.n = 3 ∧ Mu (Gt sp) a.l b.l)) : Gt sp a b := by
 refine gt_iff.2 ⟨ha, .inr ⟨hb, ?_⟩⟩
 rcases h2 with h | h | h
 ·exact .inl ⟨h, h1⟩
 ·exact .inr (.inl ⟨h.1, h.2.1, h1, h.2.2⟩)
 ·exact .inr (.inr h)
theorem gt_down : ∀ {a b y : T}, Gt sp a b → b.k = 2 → y ∈ b.l → Gt sp a y := by
 intro a
 induction h : wt a using Nat.strongRecOn generalizing a with
 | _ n ih =>
   intro b y hab hb hy
   rcases gt_cases hab with ⟨x, hx, rfl | hg⟩ | ⟨_, h1, _⟩
   ·exact gt_sub (gt_op hab) hx (.inr (gt_sub hb hy (.inl rfl)))
   ·exact gt_sub (gt_op hab) hx (.inr (ih _ (by have := wt_mem hx; omega) rfl hg hb hy))
   ·exact h1 y hy
theorem Lx_irr {G : T → T → Prop} : ∀ {l : List T}, Lx G l l → ∃ x ∈ l, G x x
 | x :: l, h => by
   rcases h with ⟨_, h⟩ | h
   ·obtain ⟨y, hy, hg⟩ := Lx_irr h; exact ⟨y, List.mem_cons_of_mem _ hy, hg⟩
   ·exact ⟨x, List.mem_cons_self, h⟩
theorem gt_irr : ∀ a : T, ¬ Gt sp a a := by
 intro a
 induction h : wt a using Nat.strongRecOn generalizing a with
 | _ n ih =>
   intro hg
   rcases gt_cases hg with ⟨x, hx, rfl | hgx⟩ | ⟨_, _, h1 | ⟨_, _, h1⟩ | ⟨_, _, h1⟩⟩
   ·have := wt_mem hx; omega
   ·exact ih (wt x) (by have := wt_mem hx; omega) x rfl (gt_down hgx (gt_op hg) hx)
   ·omega
   ·obtain ⟨x, hx, hgx⟩ := Lx_irr h1
    have hx := mem_side.1 hx
    exact ih (wt x) (by have := wt_mem hx; omega) x rfl hgx
   ·obtain ⟨⟨x, _, hx⟩, _⟩ := h1; omega
theorem upward {G : T → T → Prop} {S : List T} (irr : ∀ x ∈ S, ¬ G x x) (tr : ∀ x ∈ S, ∀ y ∈ S, ∀ z ∈ S, G x y → G y z → G x z) (P : T → Prop)
 (step : ∀ z ∈ S, (∀ x ∈ S, G x z → P x) → P z) : ∀ z ∈ S, P z := by
 classical
 intro z
 induction h : S.countP (fun w => decide (G w z)) using Nat.strongRecOn generalizing z with
 | _ n ih =>
   intro hz
   refine step z hz fun x hx hg => ih (S.countP fun w => decide (G w x)) ?_ x rfl hx
   subst h
   have key : ∀ (l : List T), (∀ w ∈ l, w ∈ S) → l.countP (fun w => decide (G w x)) ≤ l.countP (fun w => decide (G w z)) ∧ (x ∈ l → l.countP (fun w => decide (G w x)) < l.countP (fun w => decide (G w z))) := by
    intro l
    induction l with
    | nil => intro _; exact ⟨Nat.le_refl _, fun h => by cases h⟩
    | cons w l ihl =>
      intro hl
      obtain ⟨i1, i2⟩ := ihl fun w hw => hl w (List.mem_cons_of_mem _ hw)
      have hw := hl w List.mem_cons_self
      by_cases h1 : G w x
      ·have h2 : G w z := tr w hw x hx z hz h1 hg
       have hne : x ≠ w := fun e => irr x hx (by rw [← e] at h1; exact h1)
       simp only [List.countP_cons, h1, h2, decide_true, if_true]
       refine ⟨by omega, fun hm => ?_⟩
       rcases List.mem_cons.1 hm with e | hm
       ·exact absurd e hne
       ·have := i2 hm; omega
      ·by_cases h2 : G w z
       ·simp only [List.countP_cons, h1, h2, decide_true, decide_false, if_true]
        refine ⟨by simp; omega, fun _ => by simp; omega⟩
       ·have hne : x ≠ w := fun e => h2 (e ▸ hg)
        simp only [List.countP_cons, h1, h2, decide_false]
        refine ⟨by simpa using i1, fun hm => ?_⟩
        rcases List.mem_cons.1 hm with e | hm
        ·exact absurd e hne
        ·simpa using i2 hm
   exact (key S fun _ h => h).2 hx
theorem Mu_trans {G : T → T → Prop} {l m k : List T} (irr : ∀ x ∈ l ++ m ++ k, ¬ G x x) (tr : ∀ x ∈ l ++ m ++ k, ∀ y ∈ l ++ m ++ k, ∀ z ∈ l ++ m ++ k, G x y → G y z → G x z)
 (h1 : Mu G l m) (h2 : Mu G m k) : Mu G l k := by
 have il : ∀ {x}, x ∈ l → x ∈ l ++ m ++ k := fun h => by simp [h]
 have im : ∀ {x}, x ∈ m → x ∈ l ++ m ++ k := fun h => by simp [h]
 have ik : ∀ {x}, x ∈ k → x ∈ l ++ m ++ k := fun h => by simp [h]
 have up : ∀ z ∈ l ++ m ++ k, (l.count z < m.count z ∨ m.count z < k.count z) → ∃ x ∈ l, k.count x < l.count x ∧ G x z := by
  refine upward irr tr _ fun z hz ih hc => ?_
  rcases hc with hc | hc
  ·obtain ⟨x1, hx1, hc1, hg1⟩ := h1.2 z (count_pos_of_lt hc) hc
   by_cases hk : k.count x1 < l.count x1
   ·exact ⟨x1, hx1, hk, hg1⟩
   ·obtain ⟨x, hx, hc2, hg⟩ := ih x1 (il hx1) hg1 (.inr (by omega))
    exact ⟨x, hx, hc2, tr x (il hx) x1 (il hx1) z hz hg hg1⟩
  ·obtain ⟨x1, hx1, hc1, hg1⟩ := h2.2 z (count_pos_of_lt hc) hc
   by_cases hk : l.count x1 < m.count x1
   ·obtain ⟨x, hx, hc2, hg⟩ := ih x1 (im hx1) hg1 (.inl hk)
    exact ⟨x, hx, hc2, tr x (il hx) x1 (im hx1) z hz hg hg1⟩
   ·exact ⟨x1, List.count_pos_iff.1 (by omega), by omega, hg1⟩
 constructor
 ·obtain ⟨x0, hx0, hc0⟩ := h1.1
  by_cases hk : k.count x0 < l.count x0
  ·exact ⟨x0, hx0, hk⟩
  ·obtain ⟨x, hx, hc, _⟩ := up x0 (il hx0) (.inr (by omega))
   exact ⟨x, hx, hc⟩
 ·intro y hy hc
  refine up y (ik hy) ?_
  by_cases h : l.count y < m.count y
  ·exact .inl h
  ·exact .inr (by omega)
theorem Lx_trans {G : T → T → Prop} : ∀ {l m k : List T}, (∀ x ∈ l, ∀ y ∈ m, ∀ z ∈ k, G x y → G y z → G x z) → Lx G l m → Lx G m k → Lx G l k
 | [], _, _, _, h, _ => h.elim
 | _ :: _, [], _, _, _, h => h.elim
 | _ :: _, _ :: _, [], _, _, _ => trivial
 | x :: l, y :: m, z :: k, tr, h1, h2 => by
   have ih := @Lx_trans G l m k fun x hx y hy z hz => tr x (List.mem_cons_of_mem _ hx) y (List.mem_cons_of_mem _ hy) z (List.mem_cons_of_mem _ hz)
   rcases h1 with ⟨rfl, h1⟩ | h1 <;> rcases h2 with ⟨rfl, h2⟩ | h2
   ·exact .inl ⟨rfl, ih h1 h2⟩
   ·exact .inr h2
   ·exact .inr h1
   ·exact .inr (tr x List.mem_cons_self y List.mem_cons_self z List.mem_cons_self h1 h2)
theorem gt_trans_aux : ∀ (N : Nat) {a b c : T}, wt a ≤ N → wt b ≤ N → wt c ≤ N → Gt sp a b → Gt sp b c → Gt sp a c := by
 intro N
 induction N with
 | zero => intro a b c h; have := wt_pos a; omega
 | succ N ihN =>
 intro a b c
 induction h : wt a + wt b + wt c using Nat.strongRecOn generalizing a b c with
 | _ n ih =>
   intro la lb lc hab hbc
   rcases gt_cases hab with ⟨x, hx, rfl | hg⟩ | ⟨hb, h1, h2⟩
   ·exact gt_sub (gt_op hab) hx (.inr hbc)
   ·have := wt_mem hx
    exact gt_sub (gt_op hab) hx (.inr (ih (wt x + wt b + wt c) (by omega) rfl (by omega) lb lc hg hbc))
   rcases gt_cases hbc with ⟨y, hy, rfl | hg⟩ | ⟨hc, h3, h4⟩
   ·exact h1 y hy
   ·have := wt_mem hy
    exact ih (wt a + wt y + wt c) (by omega) rfl la (by omega) lc (h1 y hy) hg
   have h5 : ∀ z ∈ c.l, Gt sp a z := fun z hz => by
    have := wt_mem hz
    exact ih (wt a + wt b + wt z) (by omega) rfl la lb (by omega) hab (h3 z hz)
   refine gt_of (gt_op hab) hc h5 ?_
   rcases h2 with h2 | ⟨e2, s2, h2⟩ | ⟨e2, s2, h2⟩ <;> rcases h4 with h4 | ⟨e4, s4, h4⟩ | ⟨e4, s4, h4⟩
   ·exact .inl (by omega)
   ·exact .inl (by omega)
   ·exact .inl (by omega)
   ·exact .inl (by omega)
   ·refine .inr (.inl ⟨by omega, s2, ?_⟩)
    rw [e2] at h4
    refine Lx_trans (fun x hx y hy z hz => ?_) h2 h4
    have := wt_mem (mem_side.1 hx); have := wt_mem (mem_side.1 hy); have := wt_mem (mem_side.1 hz)
    exact ihN (by omega) (by omega) (by omega)
   ·rw [e2] at s4; exact absurd s4 s2
   ·exact .inl (by omega)
   ·rw [e2] at s4; exact absurd s2 s4
   ·refine .inr (.inr ⟨by omega, s2, ?_⟩)
    have small : ∀ x ∈ a.l ++ b.l ++ c.l, wt x ≤ N := by
     intro x hx
     simp only [List.mem_append] at hx
     rcases hx with (hx | hx) | hx <;> have := wt_mem hx <;> omega
    exact Mu_trans (fun x _ => gt_irr x) (fun x hx y hy z hz => ihN (small x hx) (small y hy) (small z hz)) h2 h4
theorem gt_trans {a b c : T} : Gt sp a b → Gt sp b c → Gt sp a c := gt_trans_aux (wt a + wt b + wt c) (by omega) (by omega) (by omega)
theorem mu_of {l m X Y C : List T} (hl : l.Perm (X ++ C)) (hm : m.Perm (Y ++ C)) (h0 : X ≠ []) (h1 : ∀ y ∈ Y, ∃ x ∈ X, Gt sp x y) : Mu (Gt sp) l m := by
 have cl : ∀ z, l.count z = X.count z + C.count z := fun z => by rw [hl.count_eq, List.count_append]
 have cm : ∀ z, m.count z = Y.count z + C.count z := fun z => by rw [hm.count_eq, List.count_append]
 have up : ∀ z ∈ X ++ Y, z ∈ Y → ∃ x ∈ X, Y.count x < X.count x ∧ Gt sp x z := by
  refine upward (G := Gt sp) (fun x _ => gt_irr x) (fun x _ y _ z _ => gt_trans) _ fun z hz ih hy => ?_
  obtain ⟨x1, hx1, hg1⟩ := h1 z hy
  by_cases hc : Y.count x1 < X.count x1
  ·exact ⟨x1, hx1, hc, hg1⟩
  ·have : 0 < X.count x1 := List.count_pos_iff.2 hx1
   obtain ⟨x, hx, hc2, hg⟩ := ih x1 (by simp [hx1]) hg1 (List.count_pos_iff.1 (by omega))
   exact ⟨x, hx, hc2, gt_trans hg hg1⟩
 have inl : ∀ {x}, x ∈ X → x ∈ l := fun hx => hl.mem_iff.2 (by simp [hx])
 constructor
 ·obtain ⟨x, hx⟩ := List.exists_mem_of_ne_nil X h0
  by_cases hc : Y.count x < X.count x
  ·exact ⟨x, inl hx, by rw [cl, cm]; omega⟩
  ·have : 0 < X.count x := List.count_pos_iff.2 hx
   obtain ⟨x', hx', hc', _⟩ := up x (by simp [hx]) (List.count_pos_iff.1 (by omega))
   exact ⟨x', inl hx', by rw [cl, cm]; omega⟩
 ·intro y hy hc
  rw [cl, cm] at hc
  have hyY : y ∈ Y := List.count_pos_iff.1 (by omega)
  obtain ⟨x, hx, hc', hg⟩ := up y (by simp [hyY]) hyY
  exact ⟨x, inl hx, by rw [cl, cm]; omega, hg⟩
def Disj (X Y : List T) : Prop := ∀ z, z ∈ X → z ∉ Y
theorem mu_iff {G : T → T → Prop} {l m X Y C : List T} (hl : l.Perm (X ++ C)) (hm : m.Perm (Y ++ C)) (hd : Disj X Y) : Mu G l m ↔ X ≠ [] ∧ ∀ y ∈ Y, ∃ x ∈ X, G x y := by
 have cl : ∀ z, l.count z = X.count z + C.count z := fun z => by rw [hl.count_eq, List.count_append]
 have cm : ∀ z, m.count z = Y.count z + C.count z := fun z => by rw [hm.count_eq, List.count_append]
 have inl : ∀ {x}, x ∈ X → x ∈ l := fun hx => hl.mem_iff.2 (by simp [hx])
 have inm : ∀ {x}, x ∈ Y → x ∈ m := fun hx => hm.mem_iff.2 (by simp [hx])
 have cX : ∀ {z}, m.count z < l.count z ↔ z ∈ X := by
  intro z
  rw [cl, cm]
  constructor
  ·intro h; exact List.count_pos_iff.1 (by omega)
  ·intro h
   have h1 : 0 < X.count z := List.count_pos_iff.2 h
   have h2 : Y.count z = 0 := List.count_eq_zero.2 (hd z h)
   omega
 have cY : ∀ {z}, l.count z < m.count z ↔ z ∈ Y := by
  intro z
  rw [cl, cm]
  constructor
  ·intro h; exact List.count_pos_iff.1 (by omega)
  ·intro h
   have h1 : 0 < Y.count z := List.count_pos_iff.2 h
   have h2 : X.count z = 0 := List.count_eq_zero.2 (fun hx => hd z hx h)
   omega
 constructor
 ·rintro ⟨⟨x, _, hx⟩, h2⟩
  refine ⟨fun e => (by have hm := cX.1 hx; rw [e] at hm; cases hm), fun y hy => ?_⟩
  obtain ⟨x, _, hx, hg⟩ := h2 y (inm hy) (cY.2 hy)
  exact ⟨x, cX.1 hx, hg⟩
 ·rintro ⟨h1, h2⟩
  refine ⟨?_, fun y _ hy => ?_⟩
  ·obtain ⟨x, hx⟩ := List.exists_mem_of_ne_nil X h1
   exact ⟨x, inl hx, cX.2 hx⟩
  ·obtain ⟨x, hx, hg⟩ := h2 y (cY.1 hy)
   exact ⟨x, inl hx, cX.2 hx, hg⟩
theorem perm_iff_left {l m X Y C : List T} (hl : l.Perm (X ++ C)) (hm : m.Perm (Y ++ C)) (hd : Disj X Y) : l.Perm m ↔ X = [] ∧ Y = [] := by
 constructor
 ·intro h
  have hc : ∀ z, X.count z = Y.count z := fun z => by
   have h1 := hl.count_eq z
   have h2 := hm.count_eq z
   have h3 := h.count_eq z
   rw [List.count_append] at h1 h2
   omega
  constructor
  ·cases hX : X with
   | nil => rfl
   | cons x r =>
     have h1 : x ∈ X := by rw [hX]; simp
     have h2 : 0 < Y.count x := by rw [← hc]; exact List.count_pos_iff.2 h1
     exact absurd (List.count_pos_iff.1 h2) (hd x h1)
  ·cases hY : Y with
   | nil => rfl
   | cons x r =>
     have h1 : x ∈ Y := by rw [hY]; simp
     have h2 : 0 < X.count x := by rw [hc]; exact List.count_pos_iff.2 h1
     exact absurd h1 (hd x (List.count_pos_iff.1 h2))
 ·rintro ⟨rfl, rfl⟩
  exact hl.trans hm.symm
theorem side_map (s : Int) (g : T → T) (l : List T) : side s (l.map g) = (side s l).map g := by unfold side; split <;> simp
theorem T.ext {a b : T} (h1 : a.k = b.k) (h2 : a.n = b.n) (h3 : a.l = b.l) : a = b := by
 cases a; cases b; simp only [T.k, T.n, T.l] at h1 h2 h3; rw [h1, h2, h3]
end
end Go.Rpo
end
section
namespace Go.Rpo
open Go.Abs
def E (O : Od) (a b : T) : Prop := norm O a = norm O b
def R (O : Od) (a b : T) : Prop := Gt O.sp (norm O a) (norm O b)
theorem kmk (k n : Int) (l : List T) : (T.mk k n l).k = k := rfl
section
variable {O : Od}
theorem norm_op {a : T} (h : a.k = 2) : (norm O a).k = 2 ∧ (norm O a).n = O.pl a.n ∧ (O.sp (O.pl a.n) = 3 → (norm O a).l = srt (a.l.map (norm O))) ∧ (O.sp (O.pl a.n) ≠ 3 → (norm O a).l = a.l.map (norm O)) := by
 cases a with
 | mk k n l =>
   simp only [T.k] at h
   subst h
   simp only [norm, if_true, T.k, T.n, T.l, norms_map, true_and]
   exact ⟨fun h => by rw [if_pos h], fun h => by rw [if_neg h]⟩
theorem norm_var {a : T} (h : a.k ≠ 2) : norm O a = .mk 1 a.n [] := by
 cases a with
 | mk k n l => simp only [kmk] at h; simp only [norm]; rw [if_neg h]; rfl
theorem norm_k {a : T} : (norm O a).k = 2 ↔ a.k = 2 := by
 by_cases h : a.k = 2
 ·simp [h, (norm_op h).1]
 ·rw [norm_var h, kmk]; simp [h]
theorem norm_mem {a x : T} (h : a.k = 2) : x ∈ (norm O a).l ↔ ∃ y ∈ a.l, norm O y = x := by
 obtain ⟨_, _, h1, h2⟩ := norm_op (O := O) h
 by_cases hs : O.sp (O.pl a.n) = 3
 ·rw [h1 hs, mem_srt, List.mem_map]
 ·rw [h2 hs, List.mem_map]
theorem Mu_perm {G : T → T → Prop} {l m l' m' : List T} (h1 : l.Perm l') (h2 : m.Perm m') : Mu G l m ↔ Mu G l' m' := by
 unfold Mu
 simp only [h1.count_eq, h2.count_eq, h1.mem_iff, h2.mem_iff]
theorem E_iff {a b : T} : E O a b ↔ (a.k = 2 ∧ b.k = 2 ∧ O.pl a.n = O.pl b.n ∧ (if O.sp (O.pl a.n) = 3 then (a.l.map (norm O)).Perm (b.l.map (norm O)) else a.l.map (norm O) = b.l.map (norm O))) ∨ (a.k ≠ 2 ∧ b.k ≠ 2 ∧ a.n = b.n) := by
 by_cases ha : a.k = 2
 ·by_cases hb : b.k = 2
  ·obtain ⟨ka, na, pa, qa⟩ := norm_op (O := O) ha
   obtain ⟨kb, nb, pb, qb⟩ := norm_op (O := O) hb
   simp only [ha, hb, true_and, ne_eq, not_true_eq_false, false_and, or_false]
   unfold E
   constructor
   ·intro h
    have hn : O.pl a.n = O.pl b.n := by rw [← na, ← nb, h]
    refine ⟨hn, ?_⟩
    have hl : (norm O a).l = (norm O b).l := by rw [h]
    split
    ·rename_i hs
     rw [pa hs, pb (by rw [← hn]; exact hs)] at hl
     exact srt_iff.1 hl
    ·rename_i hs
     rw [qa hs, qb (by rw [← hn]; exact hs)] at hl
     exact hl
   ·rintro ⟨hn, hl⟩
    refine T.ext (by rw [ka, kb]) (by rw [na, nb, hn]) ?_
    split at hl
    ·rename_i hs
     rw [pa hs, pb (by rw [← hn]; exact hs)]
     exact srt_iff.2 hl
    ·rename_i hs
     rw [qa hs, qb (by rw [← hn]; exact hs)]
     exact hl
  ·simp only [ha, hb, ne_eq, not_true_eq_false, false_and, and_false, or_false, iff_false]
   intro h
   have := norm_k (O := O) (a := a)
   unfold E at h
   rw [h, norm_k] at this
   exact hb (this.2 ha)
 ·by_cases hb : b.k = 2
  ·simp only [ha, hb, ne_eq, not_true_eq_false, false_and, and_false, or_false, iff_false]
   intro h
   have := norm_k (O := O) (a := b)
   unfold E at h
   rw [← h, norm_k] at this
   exact ha (this.2 hb)
  ·simp only [ha, hb, ne_eq, not_false_eq_true, false_and, true_and, false_or]
   unfold E
   rw [norm_var ha, norm_var hb]
   simp
theorem R_iff {a b : T} : R O a b ↔ a.k = 2 ∧ ((∃ x ∈ a.l, E O x b ∨ R O x b) ∨ b.k = 2 ∧ (
 (O.pl b.n < O.pl a.n ∧ ∀ y ∈ b.l, R O a y) ∨
 (O.pl b.n = O.pl a.n ∧ O.sp (O.pl a.n) ≠ 3 ∧ (∀ y ∈ b.l, R O a y) ∧ Lx (Gt O.sp) (side (O.sp (O.pl a.n)) (a.l.map (norm O))) (side (O.sp (O.pl a.n)) (b.l.map (norm O)))) ∨
 (O.pl b.n = O.pl a.n ∧ O.sp (O.pl a.n) = 3 ∧ Mu (Gt O.sp) (a.l.map (norm O)) (b.l.map (norm O))))) := by
 unfold R
 rw [gt_iff]
 unfold Fm
 rw [norm_k, norm_k]
 refine and_congr_right fun ha => ?_
 obtain ⟨ka, na, pa, qa⟩ := norm_op (O := O) ha
 refine or_congr ?_ (and_congr_right fun hb => ?_)
 ·constructor
  ·rintro ⟨x, hx, h⟩
   obtain ⟨y, hy, rfl⟩ := (norm_mem ha).1 hx
   exact ⟨y, hy, h⟩
  ·rintro ⟨x, hx, h⟩
   exact ⟨_, (norm_mem ha).2 ⟨x, hx, rfl⟩, h⟩
 ·obtain ⟨kb, nb, pb, qb⟩ := norm_op (O := O) hb
  have e : (∀ y ∈ (norm O b).l, Gt O.sp (norm O a) y) ↔ ∀ y ∈ b.l, Gt O.sp (norm O a) (norm O y) := by
   constructor
   ·intro h y hy; exact h _ ((norm_mem hb).2 ⟨y, hy, rfl⟩)
   ·intro h y hy; obtain ⟨z, hz, rfl⟩ := (norm_mem hb).1 hy; exact h z hz
  rw [e, na, nb]
  refine or_congr Iff.rfl (or_congr ?_ ?_)
  ·refine and_congr_right fun hn => and_congr_right fun hs => ?_
   rw [qa hs, qb (by rw [hn]; exact hs)]
  ·refine and_congr_right fun hn => and_congr_right fun hs => ?_
   exact Mu_perm (by rw [pa hs]; exact srt_perm _) (by rw [pb (by rw [hn]; exact hs)]; exact srt_perm _)
theorem R_irr {a b : T} (h : E O a b) : ¬ R O a b := by unfold R; rw [show norm O a = norm O b from h]; exact gt_irr _
theorem R_trans {a b c : T} (h1 : R O a b) (h2 : R O b c) : R O a c := gt_trans h1 h2
theorem R_sub {a b x : T} (ha : a.k = 2) (hx : x ∈ a.l) (h : E O x b ∨ R O x b) : R O a b := R_iff.2 ⟨ha, .inl ⟨x, hx, h⟩⟩
end
inductive All (p : Int → Prop) : T → Prop
 | mk (k n : Int) (l : List T) (h1 : k = 2 → p n) (h2 : ∀ x ∈ l, All p x) : All p (.mk k n l)
theorem All.op {p : Int → Prop} {a : T} (h : All p a) (hk : a.k = 2) : p a.n := by cases h with | mk k n l h1 _ => exact h1 hk
theorem All.mem {p : Int → Prop} {a x : T} (h : All p a) (hx : x ∈ a.l) : All p x := by cases h with | mk k n l _ h2 => exact h2 x hx
end Go.Rpo
end
section
set_option maxRecDepth 100000
namespace Go.Abs
open Go Go.Proofs Go.Rpo
abbrev Nd := T × List Int
def kav : List Int → AV
 | [] => .nils
 | v :: r => .lst 0 (ints (v :: r))
def nav (p : Nd) : AV := .agg [.int .i64 p.1.k, .int .i64 p.1.n, .lst 0 (avs p.1.l), kav p.2]
def navs (l : List Nd) : List AV := l.map nav
def zN : AV := .agg [.int .i64 0, .int .i64 0, .nils, .nils]
theorem kav_one (l : List Int) : (kav l).one = true ∧ (kav l).unown = kav l ∧ (∀ n, (kav l).blw n = true) ∧ (kav l).val = true ∧ (kav l).cells = [kav l] := by
 cases l with
 | nil => exact ⟨rfl, rfl, fun _ => rfl, rfl, rfl⟩
 | cons v r => exact ⟨rfl, rfl, fun n => by rw [kav, bw_lst]; exact ints_blw n _, rfl, rfl⟩
theorem okO_nav (p : Nd) : okO 4 (nav p) := by
 obtain ⟨t, ks⟩ := p
 cases ks with
 | nil => exact ⟨rfl, rfl, by simp [nav, kav, AV.cells, avs_blw, bl_cons, bl_nil, bw_int, bw_lst, bw_nils], rfl⟩
 | cons v r => exact ⟨rfl, rfl, by simp [nav, kav, AV.cells, avs_blw, bl_cons, bl_nil, bw_int, bw_lst, ints_blw], rfl⟩
theorem okO_zN : okO 4 (zcanon zN) := ⟨rfl, rfl, rfl, rfl⟩
theorem okO_navs (l : List Nd) : ∀ x ∈ navs l, okO 4 x := by
 intro x hx; obtain ⟨p, _, rfl⟩ := List.mem_map.1 hx; exact okO_nav p
def kidsOf : List T → Nat → List Int
 | [], _ => []
 | x :: r, n => (n : Int) :: kidsOf r (n + wt x)
mutual
def layT : T → Nat → List Nd
 | .mk k n l, i => (.mk k n l, kidsOf l (i + 1)) :: layL l (i + 1)
def layL : List T → Nat → List Nd
 | [], _ => []
 | x :: r, i => layT x i ++ layL r (i + wt x)
end
mutual
theorem layT_len : ∀ (t : T) (i : Nat), (layT t i).length = wt t
 | .mk k n l, i => by rw [layT, List.length_cons, layL_len, wt]; omega
theorem layL_len : ∀ (l : List T) (i : Nat), (layL l i).length = wts l
 | [], _ => rfl
 | x :: r, i => by rw [layL, List.length_append, layT_len, layL_len, wts]
end
theorem layT_eq (t : T) (i : Nat) : layT t i = (t, kidsOf t.l (i + 1)) :: layL t.l (i + 1) := by cases t; rw [layT]; rfl
theorem wt_eq (t : T) : wt t = wts t.l + 1 := by cases t; rw [wt]; exact Nat.add_comm _ _
theorem layL_snoc : ∀ (l : List T) (x : T) (i : Nat), layL (l ++ [x]) i = layL l i ++ layT x (i + wts l)
 | [], x, i => by simp [layL, wts]
 | y :: r, x, i => by rw [List.cons_append, layL, layL, layL_snoc r x, List.append_assoc, wts]; congr 3; omega
theorem kidsOf_snoc : ∀ (l : List T) (x : T) (i : Nat), kidsOf (l ++ [x]) i = kidsOf l i ++ [((i + wts l : Nat) : Int)]
 | [], x, i => by simp [kidsOf, wts]
 | y :: r, x, i => by rw [List.cons_append, kidsOf, kidsOf, kidsOf_snoc r x, wts]; simp; omega
theorem wts_take {l : List T} {i : Nat} (h : i < l.length) : wts (l.take (i + 1)) = wts (l.take i) + wt (l.getD i default) := by
 have e : ∀ (a : List T) (x : T), wts (a ++ [x]) = wts a + wt x := by
  intro a x; induction a with
  | nil => simp [wts]
  | cons y r ih => rw [List.cons_append, wts, wts, ih]; omega
 rw [List.take_succ_eq_append_getElem h, e]
 simp [h]
theorem wts_take_le : ∀ (l : List T) (i : Nat), wts (l.take i) ≤ wts l
 | [], i => by simp [wts]
 | x :: r, 0 => by simp [wts]
 | x :: r, i + 1 => by rw [List.take_succ_cons, wts, wts]; have := wts_take_le r i; omega
theorem kidsOf_len : ∀ (l : List T) (i : Nat), (kidsOf l i).length = l.length
 | [], _ => rfl
 | x :: r, i => by rw [kidsOf, List.length_cons, kidsOf_len, List.length_cons]
theorem len_wts : ∀ l : List T, l.length ≤ wts l
 | [] => by simp
 | x :: r => by rw [List.length_cons, wts]; have := len_wts r; have := wt_pos x; omega
def nav0 (t : T) : AV := .agg [.int .i64 t.k, .int .i64 t.n, .lst 0 (avs t.l), .lst 0 []]
theorem okO_nav0 (t : T) : okO 4 (nav0 t) := ⟨rfl, rfl, by simp [nav0, AV.cells, avs_blw, bl_cons, bw_int, bw_lst, belowL], rfl⟩
theorem bdN (t : T) (φ : AV → Prop) : abuild [.int .i64 0, .int .i64 0, .nils, .nils] [(0, 3, t.av)] φ = φ (.agg [.int .i64 t.k, .int .i64 t.n, .lst 0 (avs t.l), .nils]) := by
 cases t with
 | mk k n l =>
 simp only [abuild, afill, T.av, eq_iff_iff]
 constructor
 ·rintro ⟨_, _, _, h⟩; exact h
 ·exact fun h => ⟨rfl, rfl, by decide, h⟩
theorem canN (t : T) : canon (.agg [.int .i64 t.k, .int .i64 t.n, .lst 0 (avs t.l), .nils]) = nav0 t := rfl
theorem RO.lenOk {z : AV} {base : Nat} {v : AV} {xs : List AV} {G : List AObj} (h : RO z base v xs G) : lenOk 1 v = True := by
 rcases h with ⟨_, rfl⟩ | ⟨id, cap, _, rfl, _⟩ <;> simp [Go.Abs.lenOk]
theorem outC_facts (l : List Int) : (outC l).one = true ∧ (outC l).unown = kav l ∧ (outC l).val = true ∧ (outC l).cells = [outC l] := by
 cases l with
 | nil => exact ⟨rfl, rfl, rfl, rfl⟩
 | cons v r => exact ⟨rfl, rfl, rfl, rfl⟩
def laidR (base : Nat) (H : List AObj) (xs : List AV) (r : AV) (H' : List AObj) : Prop := RO zN base r xs H' ∧ H'.take base = H.take base ∧ H.length ≤ H'.length
theorem navs_app (a b : List Nd) : navs (a ++ b) = navs a ++ navs b := by simp [navs]
theorem navs_len (a : List Nd) : (navs a).length = a.length := by simp [navs]
theorem c132 : ∀ (N : Nat) (t : T), wt t ≤ N → ∀ (base : Nat) (v : AV) (xs : List AV) (H : List AObj), RO zN base v xs H → (∀ x ∈ xs, okO 4 x) → base ≤ H.length → (xs.length + wt t) * 64 ≤ 140737488355328 →
 ACalls Tryz.prog 132 [t.av, v] H (laidR base H (xs ++ navs (layT t xs.length))) := by
 intro N
 induction N with
 | zero => intro t ht; have := wt_pos t; omega
 | succ N ih =>
 intro t ht base v xs H hR hxs hbase hb
 have hw := wt_eq t
 have hlw := len_wts t.l
 refine k132v.2.calls rfl ?_
 simp only [k132v, mkF]
 obtain ⟨o1, o2, o3, o4⟩ := hR.one
 simp +contextual only [o3, hR.len, hR.lenOk, bdN, canN, sZ, Nat.reduceEqDiff, Nat.reduceAdd, ↓reduceIte, reduceCtorEq]
 refine appendRO okO_zN hR hxs 0 [nav0 t] (by simp) (by simp [okO_nav0]) (by simp; omega) hbase fun v1 G1 hR1 ht1 hj1 hl1 => ?_
 obtain ⟨o1', o2', o3', o4'⟩ := hR1.one
 simp +contextual only [sZ]
 intro _
 have hzl : ∀ i, (xs ++ nav0 t :: navs (layL (t.l.take i) (xs.length + 1))).length = xs.length + 1 + wts (t.l.take i) := by intro i; simp [navs_len, layL_len]; omega
 have hok : ∀ i, ∀ x ∈ xs ++ nav0 t :: navs (layL (t.l.take i) (xs.length + 1)), okO 4 x := by
  intro i x hx
  rcases List.mem_append.1 hx with hx | hx
  ·exact hxs x hx
  ·rcases List.mem_cons.1 hx with rfl | hx
   ·exact okO_nav0 t
   ·exact okO_navs _ x hx
 refine swp_loop_st t.l.length (fun i (p : AV × List AObj) => RO zN base p.1 (xs ++ nav0 t :: navs (layL (t.l.take i) (xs.length + 1))) p.2 ∧ p.2.take base = H.take base ∧ H.length ≤ p.2.length)
  (fun i p => [(1, p.1), (5, .int .i64 xs.length), (6, outC (kidsOf (t.l.take i) (xs.length + 1))), (17, .lst 0 (avs t.l)), (18, .int .i64 t.l.length), (19, .int .i64 i)])
  (fun i p => p.2) (v1, G1) ⟨⟨hR1, ht1, hl1⟩, sle_refl _ _ _⟩ fun i p hi hI => ?_
 obtain ⟨v, G⟩ := p
 obtain ⟨hR, hG, hl⟩ := hI
 simp only at hR hG hl
 obtain ⟨o1, o2, o3, o4⟩ := hR.one
 have hle := wts_take_le t.l i
 have hkl := kidsOf_len (t.l.take i) (xs.length + 1)
 have hkl2 : (t.l.take i).length ≤ t.l.length := by simp; omega
 simp +contextual only [o3, hR.len, hR.lenOk, hzl, ap_out, (outC_facts _).2.1, outC_snoc, sZ, Nat.reduceEqDiff, Nat.reduceAdd, ↓reduceIte, reduceCtorEq]
 refine ⟨fun hlt => ⟨len_lt hlt, by omega, ?_⟩, fun hge => ?_⟩
 ·have hlt := len_lt hlt
  have hwt := wts_take hlt
  have hnext := wts_take_le t.l (i + 1)
  have e2 : t.l.take (i + 1) = t.l.take i ++ [t.l.getD i default] := by rw [List.take_succ_eq_append_getElem hlt]; simp [hlt]
  refine scall_to (ih (t.l.getD i default) (by have := wt_mem (mem_getD hlt); omega) base v _ G hR (hok i) (by omega) (by rw [hzl]; omega)) ?_
  rintro r G' ⟨hR', hG', hl'⟩
  obtain ⟨o1', o2', o3', o4'⟩ := hR'.one
  simp +contextual only [o3', sZ, Nat.reduceEqDiff, ↓reduceIte]
  refine ⟨i + 1, (r, G'), ⟨hlt, ?_, hG'.trans hG, Nat.le_trans hl hl'⟩, by omega, sle_eq ?_ rfl⟩
  ·rw [hzl] at hR'
   rw [e2, layL_snoc, navs_app, ← List.cons_append, ← List.append_assoc]
   exact hR'
  ·rw [e2, kidsOf_snoc, wrap_nat i (by omega)]
 ·have hi' : i = t.l.length := by have := len_nlt hge; omega
  subst hi'
  rw [List.take_length] at hR
  have hzl' := hzl t.l.length
  have hok' := hok t.l.length
  rw [List.take_length] at hzl' hok'
  have hset : (xs ++ nav0 t :: navs (layL t.l (xs.length + 1))).set xs.length (nav (t, kidsOf t.l (xs.length + 1))) = xs ++ navs (layT t xs.length) := by
   rw [List.set_append_right _ _ (Nat.le_refl _), Nat.sub_self, List.set_cons_zero, layT_eq]; rfl
  have hget : (xs ++ nav0 t :: navs (layL t.l (xs.length + 1))).getD xs.length .any = nav0 t := by simp
  generalize xs ++ nav0 t :: navs (layL t.l (xs.length + 1)) = ys at hR hzl' hok' hset hget
  rcases hR with ⟨rfl, _⟩ | ⟨id, cap, hid, rfl, hg, hcap, _⟩
  ·simp at hzl'
   omega
  have hgl := (List.getElem?_eq_some_iff.1 hg).1
  obtain ⟨k1, k2, k3, k4, k5⟩ := kav_one (kidsOf t.l (xs.length + 1))
  simp +contextual only [hg, idxO, List.take_length, sZ, Nat.reduceEqDiff, ↓reduceIte, reduceCtorEq]
  refine ⟨by omega, ?_⟩
  refine storeRO hok' (by omega) (by decide) (y := nav (t, kidsOf t.l (xs.length + 1))) k1 k4 (by rw [k2]; exact k3 _) (by rw [hget, k2]; rfl) ?_
  simp +contextual only [sZ, Nat.reduceEqDiff, ↓reduceIte, reduceCtorEq]
  rw [hset]
  refine aret_one (G.length) (by omega) (by rw [gt_cons, if_pos rfl, bw_arr]; simpa using hgl) ?_
  rw [gt_cons, if_pos rfl, List.take_of_length_le (by simp)]
  refine ⟨.inr ⟨id, cap, hid, ?_, ?_, ?_, ?_⟩, ?_, by simpa using hl⟩
  ·rw [← hset]; simp
  ·rw [List.getElem?_set_self hgl]
  ·rw [← hset]; simpa using hcap
  ·rw [layT_eq]; simp [navs]
  ·rw [List.take_set_of_le hid]; exact hG
end Go.Abs
end
section
set_option maxRecDepth 100000
namespace Go.Abs
open Go Go.Proofs Go.Rpo
def nodesA (l : List Nd) : AV := if l = [] then .nils else .lst 0 (navs l)
def odA (ps ss : List Int) : AV := .agg [.lst 0 (ints ps), .lst 0 (ints ss)]
def duelO (ps ss : List Int) (l : List Nd) (e g : Nat) : AObj := .cells [.lst 0 (ints ps), .lst 0 (ints ss), nodesA l, .map e, .map g]
theorem bdD (ps ss : List Int) (a b : Nat) (φ : AV → Prop) : abuild [.nils, .nils, .nils, .nilm, .nilm] [(0, 2, .agg [.lst 0 (ints ps), .lst 0 (ints ss)]), (3, 1, .map a), (4, 1, .map b)] φ = φ (.agg [.lst 0 (ints ps), .lst 0 (ints ss), .nils, .map a, .map b]) := by
 simp only [abuild, afill, eq_iff_iff]
 constructor
 ·rintro ⟨_, _, _, _, _, _, _, _, _, h⟩; exact h
 ·exact fun h => ⟨rfl, rfl, by simp, rfl, rfl, by simp [asplice, AV.cells], rfl, rfl, by simp [asplice, AV.cells], h⟩
theorem ldi2 (a b : AV) (H : List AObj) (φ : AV → Prop) : aload (some 2) (.iptr (.agg [a, b])) H φ = φ (.agg [a, b]) := by simp [aload, AV.cells]
theorem afrz_ptr (id : Nat) (H : List AObj) (K : AV → List AObj → Prop) : asetf 3004 (.ptr id 0) H K = afrz 4 id 2 H (K (.ptr id 0)) := rfl
def duelR (H : List AObj) (ps ss : List Int) (ts : List T) (r : AV) (H' : List AObj) : Prop :=
 r = .tuple [.ptr (H.length + 2) 0, kav (kidsOf ts 0)] ∧ H' = H ++ [.map [], .map [], duelO ps ss (layL ts 0) H.length (H.length + 1)]
theorem layL_len0 (l : List T) : (navs (layL l 0)).length = wts l := by rw [navs_len, layL_len]
theorem navs_nil {l : List Nd} (h : navs l = []) : l = [] := List.map_eq_nil_iff.1 h
theorem aretC2 {C : List AObj → Nat → List AObj → Prop} {n0 a b m : Nat} {env : Env} {H H' : List AObj} {R : AV → List AObj → Prop} {x y : AV} (hm : n0 ≤ m) (hC : C H m H') (hx : (get env a).unown = x) (hy : (get env b).unown = y) (bx : x.blw m = true) (hby : y.blw m = true)
 (hR : R (.tuple [x, y]) H') : aretC C n0 [.t a, .t b] env H R := by
 subst hx; subst hy
 exact ⟨m, H', hm, hC, _, LeL_refl _, by show belowL m [(get env a).unown, (get env b).unown] = true; rw [bl_cons, bl_cons, bl_nil, bx, hby]; rfl, hR⟩
theorem sealS_take {n0 m : Nat} {G : List AObj} (hm : m ≤ G.length) (hb : ∀ (j : Nat) (o : AObj), n0 ≤ j → j < m → G[j]? = some o → o = .dead ∨ o.blw (j + 1) = true) : sealS n0 G m (G.take m) := by
 refine ⟨by simp, fun j o ho => ?_⟩
 rw [List.getElem?_take] at ho
 split at ho
 ·rename_i hj
  by_cases h0 : n0 ≤ j
  ·rcases hb j o h0 hj ho with h | h
   ·exact .inl h
   ·exact .inr ⟨ho, fun _ => h⟩
  ·exact .inr ⟨ho, fun h => by omega⟩
 ·cases ho
theorem navs_blw (n : Nat) (l : List Nd) : belowL n (navs l) = true :=
 (belowL_iff _ _).2 fun x hx => by
   obtain ⟨⟨t, ks⟩, _, rfl⟩ := List.mem_map.1 hx
   cases ks with
   | nil => simp [nav, kav, AV.blw, avs_blw, belowL]
   | cons v r => simp [nav, kav, AV.blw, avs_blw, ints_blw, belowL]
theorem duelO_blw (ps ss : List Int) (l : List Nd) (n : Nat) : (duelO ps ss l n (n + 1)).blw (n + 2 + 1) = true := by
 have h : (nodesA l).blw (n + 2 + 1) = true := by
  unfold nodesA
  split
  ·rfl
  ·rw [bw_lst]
   exact navs_blw _ _
 simp only [duelO, AObj.blw, bl_cons, bl_nil, bw_lst, ints_blw, h, bw_map]
 simp; omega
theorem c75 (ps ss : List Int) (ts : List T) (H : List AObj) (hb : wts ts * 64 ≤ 140737488355328) : ACalls Tryz.prog 75 [odA ps ss, .lst 0 (avs ts)] H (duelR H ps ss ts) := by
 refine k75v.2.callsS rfl ?_
 simp only [k75v, mkF, odA]
 have hlw := len_wts ts
 simp +contextual only [bdD, ldi2, sZ, Nat.reduceEqDiff, Nat.reduceAdd, ↓reduceIte, reduceCtorEq]
 refine ⟨by simp; omega, fun _ => ?_⟩
 have e0 : ∀ (l : List AObj) (x : AObj), (H ++ x :: l)[H.length]? = some x := by simp
 refine swp_loop_stL ts.length (fun i (p : AV × List AObj) => RO zN (H.length + 3) p.1 (navs (layL (ts.take i) 0)) p.2 ∧ H.length + 3 ≤ p.2.length ∧
  p.2.take (H.length + 3) = H ++ [.map [], .map [], .cells [.lst 0 (ints ps), .lst 0 (ints ss), p.1, .map H.length, .map (H.length + 1)]])
  (fun i p => [(6, .ptr (H.length + 2) 0), (7, outC (kidsOf (ts.take i) 0)), (15, .lst 0 (avs ts)), (16, .int .i64 ts.length), (17, .int .i64 i)])
  (fun i p => p.2) (.nils, _) ⟨⟨.inl ⟨rfl, rfl⟩, by simp, ?_⟩, sleL_refl _ _ _⟩ fun i p hi hI => ?_
 ·rw [List.take_of_length_le (by simp)]
 obtain ⟨v, G⟩ := p
 obtain ⟨hR, hl, hG⟩ := hI
 simp only at hR hl hG
 obtain ⟨o1, o2, o3, o4⟩ := hR.one
 have gget : ∀ j, j < H.length + 3 → G[j]? = (H ++ [.map [], .map [], .cells [.lst 0 (ints ps), .lst 0 (ints ss), v, .map H.length, .map (H.length + 1)]])[j]? := by
  intro j hj; rw [← hG, List.getElem?_take, if_pos hj]
 have g2 : G[H.length + 2]? = some (.cells [.lst 0 (ints ps), .lst 0 (ints ss), v, .map H.length, .map (H.length + 1)]) := by rw [gget _ (by omega)]; simp
 have hle := wts_take_le ts i
 have hkl := kidsOf_len (ts.take i) 0
 have hkl2 : (ts.take i).length ≤ ts.length := by simp; omega
 simp +contextual only [o3, g2, hR.len, hR.lenOk, layL_len0, ap_out, (outC_facts _).2.1, outC_snoc, sZ, Nat.reduceEqDiff, Nat.reduceAdd, Nat.reduceLT, ↓reduceIte, reduceCtorEq]
 refine ⟨fun hlt => ⟨len_lt hlt, by omega, ?_⟩, fun hge => ?_⟩
 ·have hlt := len_lt hlt
  have hwt := wts_take hlt
  have hnext := wts_take_le ts (i + 1)
  have e2 : ts.take (i + 1) = ts.take i ++ [ts.getD i default] := by rw [List.take_succ_eq_append_getElem hlt]; simp [hlt]
  have hc := c132 (wt (ts.getD i default)) (ts.getD i default) (Nat.le_refl _) (H.length + 3) v _ G hR (okO_navs _) hl (by rw [layL_len0]; omega)
  refine scall_to hc ?_
  rintro r G' ⟨hR', hG', hl'⟩
  obtain ⟨o1', o2', o3', o4'⟩ := hR'.one
  have g2' : G'[H.length + 2]? = some (.cells [.lst 0 (ints ps), .lst 0 (ints ss), v, .map H.length, .map (H.length + 1)]) := by
   have : (G'.take (H.length + 3))[H.length + 2]? = (G.take (H.length + 3))[H.length + 2]? := by rw [hG']
   rw [List.getElem?_take, List.getElem?_take, if_pos (by omega), if_pos (by omega)] at this
   rw [this, g2]
  have hb' := hR'.blw (Nat.le_refl _)
  simp +contextual only [stepsX, o1', o2', o3', o4', g2', hb', sZ, Nat.reduceEqDiff, Nat.reduceAdd, Nat.reduceLeDiff, ↓reduceIte]
  refine ⟨by omega, i + 1, (r, _), ⟨hlt, ?_, by simp; omega, ?_⟩, by omega, sleL_eq ?_ rfl⟩
  ·have h1 := hR'.set (j := H.length + 2) (by omega) (.cells (asplice [.lst 0 (ints ps), .lst 0 (ints ss), v, .map H.length, .map (H.length + 1)] 2 [r]))
   rw [layL_len0] at h1
   rw [e2, layL_snoc, navs_app, Nat.zero_add]
   exact h1
  ·rw [List.take_set, hG', hG]
   simp [asplice]
  ·rw [e2, kidsOf_snoc, wrap_nat i (by omega), Nat.zero_add]
 ·have hi' : i = ts.length := by have := len_nlt hge; omega
  subst hi'
  rw [List.take_length] at hR
  have fin : ∀ (G' : List AObj), G'.length = G.length → G'.take (H.length + 3) = H ++ [.map [], .map [], duelO ps ss (layL ts 0) H.length (H.length + 1)] → aretC (sealS H.length) H.length [.t 4, .t 5] [(4, .ptr (H.length + 2) 0), (5, kav (kidsOf ts 0))] G' (duelR H ps ss ts) := by
   intro G' hl' hG'
   refine aretC2 (m := H.length + 3) (by omega) (sealS_take (by omega) fun j o h1 h2 ho => .inr ?_) (x := .ptr (H.length + 2) 0) (y := kav (kidsOf ts 0)) rfl ?_ ?_ ((kav_one _).2.2.1 _) ⟨rfl, hG'⟩
   ·have h3 : (G'.take (H.length + 3))[j]? = some o := by rw [List.getElem?_take, if_pos h2]; exact ho
    rw [hG', List.getElem?_append_right h1] at h3
    have : j = H.length ∨ j = H.length + 1 ∨ j = H.length + 2 := by omega
    rcases this with rfl | rfl | rfl
    ·simp at h3; subst h3; rfl
    ·simp at h3; subst h3; rfl
    ·simp at h3; subst h3; exact duelO_blw ps ss _ _
   ·have h2 := (kav_one (kidsOf ts 0)).2.1
    simp [gt_cons, h2]
   ·rw [bw_ptr]; simp
  rw [afrz_ptr]
  unfold afrz
  rw [g2]
  rcases hR with ⟨e1, rfl⟩ | ⟨id, cap, hid, rfl, hg, hcap, hne⟩
  ·simp +contextual only [List.getElem?_cons_succ, List.getElem?_cons_zero, List.take_length, (outC_facts _).2.1, (kav_one _).2.1, sZ, Nat.reduceEqDiff, ↓reduceIte, reduceCtorEq]
   refine fin G rfl ?_
   rw [hG, duelO, nodesA, if_pos (navs_nil e1)]
  ·simp +contextual only [List.getElem?_cons_succ, List.getElem?_cons_zero, List.take_length, (outC_facts _).2.1, (kav_one _).2.1, sZ, Nat.reduceEqDiff, ↓reduceIte, reduceCtorEq]
   refine freezeRO (by decide) okO_zN (okO_navs _) (fun x hx => ?_) hg hcap ⟨?_, ?_, ?_⟩
   ·obtain ⟨q, _, rfl⟩ := List.mem_map.1 hx; rfl
   ·rw [List.getElem?_set_ne (by omega)]; exact g2
   ·rw [bw_lst]; exact navs_blw _ _
   ·refine fin _ (by simp) ?_
    rw [List.take_set, List.take_set, hG]
    have e1 : ∀ X : List AObj, X.length ≤ id → X.set id .dead = X := fun X h => List.set_eq_of_length_le h
    rw [e1 _ (by simp; omega), duelO, nodesA, if_neg (fun e => hne (by rw [e]; rfl))]
    simp
end Go.Abs
end
section
set_option maxRecDepth 100000
namespace Go.Abs
open Go Go.Proofs Go.Rpo
def zI : AV := .int .i64 0
theorem okO_zI : okO 1 (zcanon zI) := ⟨rfl, rfl, rfl, rfl⟩
theorem okO_ints (l : List Int) : ∀ x ∈ ints l, okO 1 x := by
 intro x hx; obtain ⟨n, _, rfl⟩ := List.mem_map.1 hx; exact ⟨rfl, rfl, rfl, rfl⟩
theorem flat_ints : ∀ l : List Int, flat (ints l) = ints l
 | [] => rfl
 | x :: r => by
   have := flat_ints r
   show AV.cells (.int .i64 x) ++ flat (ints r) = _
   rw [this]; rfl
theorem ints_ne {l : List Int} (h : l ≠ []) : ints l ≠ [] := by cases l with | nil => exact absurd rfl h | cons v r => simp [ints]
theorem nil_ints (o : Nat) (v : Int) (r : List Int) (φ : AV → Prop) : aeqNil 0 false (.lst o (ints (v :: r))) φ = φ (.bool false) := by simp [aeqNil, isNil, ints]
theorem nil_nils (φ : AV → Prop) : aeqNil 0 false .nils φ = φ (.bool true) := by simp [aeqNil, isNil]
theorem appendE {esz bytes : Nat} {z : AV} (hz : okO esz (zcanon z)) {id o : Nat} {G : List AObj} (hid : G[id]? = some (.cells [])) (ys : List AV) (hy : ys ≠ []) (hys : ∀ x ∈ ys, okO esz x) (hb : ys.length * bytes ≤ 140737488355328) {base : Nat} (hG : base ≤ G.length) {K : AV → List AObj → Prop}
 (hK : ∀ v' G', RO z base v' ys G' → G'.take base = G.take base → G.length ≤ G'.length → K v' G') : aappendA esz bytes z (.arr id 0 0 0) (.lst o ys) G K := by
 obtain ⟨f1, f2, f3, f4⟩ := okO.flat hys
 have hpb : ∀ n m, belowL n (apad z m) = true := fun n m => (okO.flat (apad_okO hz m)).2.2.1 n
 have hl : 0 < ys.length := List.length_pos_iff.2 hy
 unfold aappendA
 simp only [rlist, hid]
 refine ⟨fun y h => ⟨(hys y h).len, (hys y h).one⟩, by simpa using hb, Nat.le_refl _, by simp, fun h => absurd h (by omega), fun _ cap hc _ => ⟨?_, ?_⟩⟩
 ·simp only [Nat.zero_mul, List.drop_zero, List.take_nil, List.map_nil, List.nil_append, f2, belowL_append]; exact ⟨f3 _, hpb _ _⟩
 ·simp only [Nat.zero_mul, List.drop_zero, List.take_nil, List.map_nil, List.nil_append, f2, Nat.zero_add]
  refine hK _ _ (.inr ⟨G.length, cap, hG, rfl, ?_, by omega, hy⟩) ?_ (by simp)
  ·simp [cellsO]
  ·rw [List.take_append_of_le_length hG]
theorem c118w (l : List Int) (H : List AObj) (hb : l.length * 8 ≤ 140737488355328) : ACalls Tryz.prog 118 [kav l] H fun r H' => RO zI H.length r (ints l) H' ∧ H'.take H.length = H ∧ H.length ≤ H'.length := by
 refine k118v.2.calls rfl ?_
 simp only [k118v, mkF]
 cases l with
 | nil =>
   simp +contextual only [kav, nil_nils, sZ, Nat.reduceAdd, ↓reduceIte, reduceCtorEq]
   exact aret_one H.length (Nat.le_refl _) (by rw [gt_cons, if_pos rfl]; rfl) ⟨.inl ⟨rfl, by rw [gt_cons, if_pos rfl]⟩, by simp, by simp⟩
 | cons v r =>
   simp +contextual only [kav, nil_ints, op_litA, alitA, sZ, Nat.reduceEqDiff, Nat.reduceAdd, ↓reduceIte, reduceCtorEq]
   refine ⟨rfl, appendE okO_zI (by simp [flat]) (ints (v :: r)) (ints_ne (by simp)) (okO_ints _) (by rw [ints_len]; exact hb) (base := H.length) (by simp) fun v' G' hR hG hl => ?_⟩
   obtain ⟨o1, o2, o3, o4⟩ := hR.one
   simp +contextual only [o3, sZ, ↓reduceIte, reduceCtorEq]
   have hl' : H.length ≤ G'.length := by simp at hl; omega
   refine aret_one G'.length hl' (by rw [gt_cons, if_pos rfl]; exact hR.blw (Nat.le_refl _)) ?_
   rw [gt_cons, if_pos rfl, List.take_length]
   exact ⟨hR, by rw [hG]; simp, hl'⟩
theorem cellsI (l : List Int) (cap : Nat) : cellsO zI (ints l) cap = .cells (ints l ++ apad zI (cap - l.length)) := by rw [cellsO, flat_ints, ints_len]
theorem loadI {l : List Int} {cap i : Nat} (h : i < l.length) (φ : AV → Prop) : loadC (some (cellsO zI (ints l) cap)) none (i * 1) φ = φ (.int .i64 (l.getD i 0)) := by
 have e : (ints l ++ apad zI (cap - l.length)).getD (i * 1) .any = .int .i64 (l.getD i 0) := by
  rw [Nat.mul_one, List.getD_eq_getElem?_getD, List.getElem?_append_left (by rw [ints_len]; exact h)]
  simp [ints, h]
 have hl := ints_len l
 simp only [cellsI, loadC, e, un_int, eq_iff_iff, List.length_append, hl]
 constructor
 ·exact fun h => h.2
 ·exact fun h2 => ⟨by omega, h2⟩
theorem storeI {l : List Int} {cap i : Nat} (h : i < l.length) (n : Int) (id : Nat) (H : List AObj) (K : List AObj → Prop) (hK : K (H.set id (cellsO zI (ints (l.set i n)) cap))) : storeC (some (cellsO zI (ints l) cap)) 1 id (i * 1) (.int .i64 n) H K := by
 have e : ints (l.set i n) = (ints l).set i (.int .i64 n) := by simp [ints, List.map_set]
 rw [e] at hK
 refine storeRO (esz := 1) (c := 0) (okO_ints l) (by rw [ints_len]; exact h) (by decide) (v := .int .i64 n) (y := .int .i64 n) rfl rfl rfl ?_ hK
 simp [ints, h, AV.cells, AV.unown]
structure Tu (l : List Int) (i : Nat) (m : List Int) : Prop where
 len : m.length = l.length
 get : ∀ j, j < l.length → m.getD j 0 = if j < i ∨ l.length - 1 - j < i then l.getD (l.length - 1 - j) 0 else l.getD j 0
theorem list_ext0 {l m : List Int} (h : m.length = l.length) (hg : ∀ j, j < l.length → m.getD j 0 = l.getD j 0) : m = l := by
 apply List.ext_getElem h
 intro j h1 h2
 have := hg j h2
 simpa [h1, h2] using this
theorem Tu.done {l m : List Int} {i : Nat} (h : Tu l i m) (hi : l.length ≤ 2 * i + 1) : m = l.reverse := by
 refine list_ext0 (by simp [h.len]) fun j hj => ?_
 simp at hj
 rw [h.get j hj]
 have e : l.reverse.getD j 0 = l.getD (l.length - 1 - j) 0 := by
  have h1 : l.length - 1 - j < l.length := by omega
  simp [List.getElem?_reverse hj]
 rw [e]
 split
 ·rfl
 ·rename_i hc
  have : l.length - 1 - j = j := by omega
  rw [this]
theorem getD_set {l : List Int} {i j : Nat} {x : Int} (hi : i < l.length) : (l.set i x).getD j 0 = if j = i then x else l.getD j 0 := by
 simp only [List.getD_eq_getElem?_getD, List.getElem?_set]
 by_cases h : i = j
 ·subst h; simp [hi]
 ·rw [if_neg h, if_neg (fun e => h e.symm)]
theorem Tu.step {l m : List Int} {i k : Nat} (h : Tu l i m) (hk : l.length = i + k + 1) (hlt : i < k) : Tu l (i + 1) ((m.set i (m.getD k 0)).set k (m.getD i 0)) := by
 refine ⟨by simp [h.len], fun j hj => ?_⟩
 have hl := h.len
 rw [getD_set (by simp; omega), getD_set (by omega)]
 by_cases h1 : j = k
 ·subst h1
  rw [if_pos rfl, h.get i (by omega), if_neg (by omega), if_pos (by omega)]
  congr 1; omega
 ·rw [if_neg h1]
  by_cases h2 : j = i
  ·subst h2
   rw [if_pos rfl, h.get k (by omega), if_neg (by omega), if_pos (by omega)]
   congr 1; omega
  ·rw [if_neg h2, h.get j hj]
   by_cases h3 : j < i ∨ l.length - 1 - j < i
   ·rw [if_pos h3, if_pos (by omega)]
   ·rw [if_neg h3, if_neg (by omega)]
theorem set_id {H : List AObj} {id : Nat} {o : AObj} (h : H[id]? = some o) : H.set id o = H := by
 apply List.ext_getElem?
 intro j
 rw [List.getElem?_set]
 split
 ·rename_i e; subst e
  have := (List.getElem?_eq_some_iff.1 h).1
  rw [if_pos this, h]
 ·rfl
theorem c199w (l : List Int) (base : Nat) (v : AV) (H : List AObj) (hR : RO zI base v (ints l) H) (hb : l.length * 8 ≤ 140737488355328) : ACalls Tryz.prog 199 [v] H fun r H' => r = .tuple [] ∧ RO zI base v (ints l.reverse) H' ∧ H'.take base = H.take base ∧ H'.length = H.length := by
 refine k199v.2.calls rfl ?_
 simp only [k199v, mkF]
 obtain ⟨o1, o2, o3, o4⟩ := hR.one
 simp +contextual only [o3, hR.len, hR.lenOk, ints_len, sZ, Nat.reduceEqDiff, Nat.reduceAdd, ↓reduceIte, reduceCtorEq]
 rcases hR with ⟨e, rfl⟩ | ⟨id, cap, hid, rfl, hg, hcap, hne⟩
 ·have e : l = [] := List.map_eq_nil_iff.1 e
  subst e
  refine swp_loop_nat 0 (fun _ => True) (fun _ => [(0, .nils), (2, .int .i64 0), (3, .int .i64 (-1))]) (fun _ => H) ⟨trivial, sle_eq (by rfl) rfl⟩ fun i hi _ => ?_
  simp +contextual only [sZ, Nat.reduceEqDiff, ↓reduceIte, reduceCtorEq, Int.reduceLT]
  exact ⟨H.length, Nat.le_refl _, [], trivial, rfl, rfl, .inl ⟨rfl, rfl⟩, by simp, by simp⟩
 ·rw [ints_len] at hcap ⊢
  have e1 : IntKind.i64.wrap ((l.length : Int) - 1) = (l.length : Int) - 1 - (0 : Nat) := by rw [wrap_in _ (by omega)]; omega
  rw [e1]
  refine swp_loop_st l.length (fun i m => Tu l i m) (fun i m => [(0, .arr id 0 l.length cap), (2, .int .i64 i), (3, .int .i64 ((l.length : Int) - 1 - i))]) (fun i m => H.set id (cellsO zI (ints m) cap)) l ⟨⟨rfl, fun j hj => by simp⟩, sle_eq rfl ?_⟩ fun i m hi hI => ?_
  ·exact (set_id hg).symm
  have hgl := (List.getElem?_eq_some_iff.1 hg).1
  have hm := hI.len
  simp +contextual only [sZ, Nat.reduceEqDiff, ↓reduceIte, reduceCtorEq]
  refine ⟨fun hlt => ?_, fun hge => ?_⟩
  ·obtain ⟨k, hk⟩ : ∃ k, l.length = i + k + 1 := ⟨l.length - i - 1, by omega⟩
   have e2 : (l.length : Int) - 1 - i = (k : Nat) := by omega
   rw [e2] at hlt ⊢
   have hk1 : k < m.length := by omega
   have hi1 : i < m.length := by omega
   simp +contextual only [idxO, List.getElem?_set_self hgl, loadI hk1, loadI hi1, sZ, Nat.reduceEqDiff, ↓reduceIte, reduceCtorEq]
   refine ⟨by omega, by omega, by omega, storeI hi1 _ _ _ _ ?_⟩
   have hk2 : k < (m.set i (m.getD k 0)).length := by simp; omega
   simp +contextual only [idxO, List.getElem?_set_self hgl, List.set_set, sZ, Nat.reduceEqDiff, ↓reduceIte, reduceCtorEq]
   refine ⟨by omega, storeI hk2 _ _ _ _ ?_⟩
   simp +contextual only [List.set_set, sZ, Nat.reduceEqDiff, ↓reduceIte, reduceCtorEq]
   have hw : IntKind.i64.wrap ((k : Int) - 1) = (l.length : Int) - 1 - ((i + 1 : Nat) : Int) := by rw [wrap_in _ (by omega)]; omega
   exact ⟨i + 1, _, ⟨by omega, hI.step hk (by omega)⟩, by omega, sle_eq (by rw [hw, wrap_nat i (by omega)]) rfl⟩
  ·have hd := hI.done (by omega)
   subst hd
   refine ⟨H.length, Nat.le_refl _, [], trivial, rfl, rfl, .inr ⟨id, cap, hid, by simp [ints_len], ?_, by simpa [ints_len] using hcap, ?_⟩, ?_, by simp⟩
   ·rw [List.take_of_length_le (by simp), List.getElem?_set_self hgl]
   ·intro e; apply hne; have := List.map_eq_nil_iff.1 e; simp at this; rw [this]; rfl
   ·rw [List.take_of_length_le (l := H.set _ _) (by simp), List.take_set_of_le hid]
def sideI (s : Int) (l : List Int) : List Int := if s = 2 then l.reverse else l
theorem freezeI {id cap : Nat} {l : List Int} {H : List AObj} (h : H[id]? = some (cellsO zI (ints l) cap)) (hl : l.length ≤ cap) {K : AV → List AObj → Prop} (hK : K (.lst 0 (ints l)) (H.set id .dead)) : asetf1 1 (.arr id 0 l.length cap) H K := by
 have hc : ∀ (l : List Int) (r : List AV), chunks 1 l.length (ints l ++ r) = ints l := by
  intro l r
  induction l with
  | nil => rfl
  | cons x q ih => exact congrArg (AV.int .i64 x :: ·) ih
 have ho : (ints l ++ apad zI (cap - l.length)).all AV.one = true := by
  rw [List.all_append, show (apad zI (cap - l.length)).all AV.one = true from (okO.flat (apad_okO okO_zI _)).2.2.2, Bool.and_true]
  have := (okO.flat (okO_ints l)).2.2.2
  rwa [flat_ints] at this
 rw [cellsI] at h
 simp only [asetf1, h, List.drop_zero, hc, ho]
 exact ⟨by omega, hl, by simp [ints_len], trivial, hK⟩
theorem c149 (l : List Int) (s : Int) (hb : l.length * 8 ≤ 140737488355328) : Pure Tryz.prog 149 [kav l, .int .i64 s] (.lst 0 (ints (sideI s l))) := by
 refine fun H => k149v.2.calls rfl ?_
 simp only [k149v, mkF]
 obtain ⟨k1, k2, k3, k4, k5⟩ := kav_one l
 simp +contextual only [k2, sZ, Nat.reduceEqDiff, Nat.reduceAdd, ↓reduceIte, reduceCtorEq]
 refine scall_to (c118w l H hb) ?_
 rintro v G ⟨hR, hG, hl⟩
 obtain ⟨o1, o2, o3, o4⟩ := hR.one
 have fin : ∀ (m : List Int) (G' : List AObj) (K : AV → List AObj → Prop), RO zI H.length v (ints m) G' → G'.take H.length = H → (∀ x G'', (m = [] ∧ x = .nils ∨ x = .lst 0 (ints m)) → x.unown = x → G''.take H.length = H → K x G'') → asetf 1 v G' K := by
  intro m G' K hR' hG' hK
  rcases hR' with ⟨e, rfl⟩ | ⟨id, cap, hid, rfl, hg, hcap, hne⟩
  ·exact hK _ _ (.inl ⟨List.map_eq_nil_iff.1 e, rfl⟩) rfl hG'
  ·rw [ints_len] at hcap ⊢
   exact freezeI hg hcap (hK _ _ (.inr rfl) rfl (by rw [List.take_set_of_le hid]; exact hG'))
 have fin2 : ∀ (m : List Int) (x : AV) (G' : List AObj), sideI s l = m → (m = [] ∧ x = .nils ∨ x = .lst 0 (ints m)) → G'.take H.length = H → aret H.length [.t 4] [(4, x)] G' fun r H' => r = .lst 0 (ints (sideI s l)) ∧ H' = H := by
  intro m x G' hm hx hG'
  rw [hm]
  rcases hx with ⟨rfl, rfl⟩ | rfl
  ·exact ⟨H.length, Nat.le_refl _, .lst 0 [], .inr (.inr (.inr (.inl ⟨rfl, 0, rfl⟩))), rfl, rfl, hG'⟩
  ·exact ⟨H.length, Nat.le_refl _, _, le_refl _, by show AV.blw _ (.lst 0 (ints m)) = true; rw [bw_lst]; exact ints_blw _ _, rfl, hG'⟩
 simp +contextual only [o3, sZ, Nat.reduceEqDiff, Nat.reduceAdd, ↓reduceIte, reduceCtorEq]
 refine ⟨fun hs => ?_, fun hs => ?_⟩
 ·refine scall_to (c199w l H.length v G hR hb) ?_
  rintro r G' ⟨rfl, hR', hG', _⟩
  simp +contextual only [sZ, ↓reduceIte, reduceCtorEq]
  refine fin l.reverse G' _ hR' (by rw [hG', hG]) fun x G'' hx hu hG'' => ?_
  simp +contextual only [hu, sZ, ↓reduceIte, reduceCtorEq]
  exact fin2 l.reverse x G'' (by rw [sideI, if_pos hs]) hx hG''
 ·refine fin l G _ hR hG fun x G'' hx hu hG'' => ?_
  simp +contextual only [hu, sZ, ↓reduceIte, reduceCtorEq]
  exact fin2 l x G'' (by rw [sideI, if_neg hs]) hx hG''
end Go.Abs
end
