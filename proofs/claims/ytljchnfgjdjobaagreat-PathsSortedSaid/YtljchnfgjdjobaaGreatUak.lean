/- Part 11 of 18 of the proof. -/
import Derived.Test.YtljchnfgjdjobaaGreatUaj
import Derived.Test.YtljchnfgjdjobaaGreatUag
import Derived.KernelRfl
import Derived.Test.YtljchnfgjdjobaaGreatUai
import Derived.SizedLaws
set_option linter.unusedVariables false
set_option linter.unusedSimpArgs false
set_option linter.defProp false
set_option linter.unusedSectionVars false
section
namespace Go.aK
open Go
structure iQ (esz : Nat) (x : AV) : Prop where
 len : x.cells.length = esz
 un : x.cells.map AV.ab = x.cells
 bl : aj 0 x.cells = true
 one : x.cells.all AV.one = true
theorem iQ.flat {esz : Nat} : ∀ {xs : List AV}, (∀ x ∈ xs, iQ esz x) → (flat xs).length = xs.length * esz ∧ (flat xs).map AV.ab = flat xs ∧ (∀ n, aj n (flat xs) = true) ∧ (Go.aK.flat xs).all AV.one = true
 | [], _ => ⟨by simp [Go.aK.flat], rfl, fun _ => rfl, rfl⟩
 | x :: r, h => by
   obtain ⟨h1, h2, h3, h4⟩ := iQ.flat (xs := r) fun y hy => h y (List.mem_cons_of_mem _ hy)
   have hx := h x List.mem_cons_self
   have e : Go.aK.flat (x :: r) = x.cells ++ Go.aK.flat r := rfl
   rw [e]
   refine ⟨by rw [List.length_append, hx.len, h1, List.length_cons, Nat.add_mul]; omega, by rw [List.map_append, hx.un, h2], fun n => ?_, by rw [List.all_append, hx.one, h4]; rfl⟩
   rw [bw]; exact ⟨bF (Nat.zero_le n) _ hx.bl, h3 n⟩
theorem m9 (xs ys : List AV) : flat (xs ++ ys) = flat xs ++ flat ys := by simp [flat]
theorem jC {esz : Nat} {z : AV} (hz : iQ esz (bN z)) (n : Nat) : ∀ x ∈ List.replicate n (bN z), iQ esz x := fun x hx => by rw [List.eq_of_mem_replicate hx]; exact hz
theorem qm {esz : Nat} {z : AV} (hz : iQ esz (bN z)) (n : Nat) : (da z n).length = n * esz := by
 have := (iQ.flat (jC hz n)).1
 rwa [List.length_replicate] at this
theorem xR {esz : Nat} {z : AV} (hz : iQ esz (bN z)) (n k : Nat) (h : k ≤ n) : (da z n).drop (k * esz) = da z (n - k) := by
 have e : da z n = da z k ++ da z (n - k) := by
  unfold da
  rw [← m9, List.replicate_append_replicate]
  congr 2; omega
 rw [e, List.drop_append_of_le_length (by rw [qm hz]; omega), List.drop_of_length_le (by rw [qm hz]; omega)]
 rfl
def bj (z : AV) (xs : List AV) (cap : Nat) : aa := .cells (flat xs ++ da z (cap - xs.length))
def RO (z : AV) (base : Nat) (v : AV) (xs : List AV) (G : List aa) : Prop :=
 (xs = [] ∧ v = .ah) ∨ ∃ id cap, base ≤ id ∧ v = .bf id 0 xs.length cap ∧ G[id]? = some (bj z xs cap) ∧ xs.length ≤ cap ∧ xs ≠ []
theorem RO.one {z : AV} {base : Nat} {v : AV} {xs : List AV} {G : List aa} (h : RO z base v xs G) : v.one = true ∧ v.val = true ∧ v.ab = v ∧ v.cells = [v] := by
 rcases h with ⟨_, rfl⟩ | ⟨id, cap, _, rfl, _⟩ <;> exact ⟨rfl, rfl, rfl, rfl⟩
theorem RO.a7 {z : AV} {base : Nat} {v : AV} {xs : List AV} {G : List aa} (h : RO z base v xs G) {n : Nat} (hn : G.length ≤ n) : v.a7 n = true := by
 rcases h with ⟨_, rfl⟩ | ⟨id, cap, _, rfl, c, _⟩
 ·rfl
 ·have := (List.getElem?_eq_some_iff.1 c).1
  rw [jB]; simp; omega
theorem RO.set {z : AV} {base : Nat} {v : AV} {xs : List AV} {G : List aa} (h : RO z base v xs G) {j : Nat} (hj : j < base) (o : aa) : RO z base v xs (G.set j o) := by
 rcases h with h | ⟨id, cap, a, b, c, d⟩
 ·exact .inl h
 ·exact .inr ⟨id, cap, a, b, by rw [List.getElem?_set_ne (by omega)]; exact c, d⟩
theorem RO.len {z : AV} {base : Nat} {v : AV} {xs : List AV} {G : List aa} (h : RO z base v xs G) {H : List aa} (φ : AV → Prop) : eW v H φ = φ (.int .i64 xs.length) := by
 rcases h with ⟨rfl, rfl⟩ | ⟨id, cap, _, rfl, _⟩ <;> rfl
theorem JR {esz bytes : Nat} {z : AV} (hz : iQ esz (bN z)) {base : Nat} {v : AV} {xs : List AV} {G : List aa} (h : RO z base v xs G) (fp : ∀ x ∈ xs, iQ esz x) (o : Nat) (ys : List AV) (hy : ys ≠ []) (pv : ∀ x ∈ ys, iQ esz x)
 (hb : (xs.length + ys.length) * bytes ≤ 140737488355328) (hG : base ≤ G.length) {K : AV → List aa → Prop}
 (hK : ∀ v' G', RO z base v' (xs ++ ys) G' → G'.take base = G.take base → (∀ j, j < base → G'[j]? = G[j]?) → G.length ≤ G'.length → K v' G') : cG esz bytes z v (.ap o ys) G K := by
 have jK : ta esz ys := fun y hy => ⟨(pv y hy).len, (pv y hy).one⟩
 obtain ⟨f1, f2, f3, f4⟩ := iQ.flat pv
 obtain ⟨g1, g2, g3, g4⟩ := iQ.flat fp
 have wm := qm hz
 have kq : ∀ n m, aj n (da z m) = true := fun n m => (iQ.flat (jC hz m)).2.2.1 n
 unfold cG
 simp only [dz]
 refine ⟨jK, ?_⟩
 rcases h with ⟨rfl, rfl⟩ | ⟨id, cap, bm, rfl, hg, hle, _⟩
 ·refine ⟨by simpa using hb, fun e => absurd e hy, fun _ cap hc _ => ⟨?_, hK _ _ (.inr ⟨G.length, cap, hG, by simp, ?_, by simpa using hc, by simpa using hy⟩) ?_ ?_ (by simp)⟩⟩
  ·rw [f2, bw]; exact ⟨f3 _, kq _ _⟩
  ·rw [f2]; simp [bj]
  ·rw [List.take_append_of_le_length hG]
  ·intro j hj; rw [List.getElem?_append_left (by omega)]
 ·have xw := (List.getElem?_eq_some_iff.1 hg).1
  simp only [hg, bj, List.length_append, g1, wm, Nat.zero_add, List.drop_zero]
  refine ⟨hb, hle, by rw [← Nat.add_mul]; exact Nat.le_of_eq (by congr 1; omega), fun hroom => ⟨by rw [f2]; exact f3 _, ?_⟩, fun jJ fW hc _ => ⟨?_, ?_⟩⟩
  ·rw [f2]
   refine hK _ _ (.inr ⟨id, cap, bm, by simp, ?_, by simpa using hroom, by simp [hy]⟩) ?_ ?_ (by simp)
   ·rw [List.getElem?_set_self xw, bj]
    congr 2
    unfold ag
    rw [f1, List.take_append_of_le_length (by rw [g1]; exact Nat.le_refl _), List.take_of_length_le (by rw [g1]; exact Nat.le_refl _), List.drop_append, List.drop_of_length_le (by rw [g1]; omega), g1,
     show xs.length * esz + ys.length * esz - xs.length * esz = ys.length * esz by omega, xR hz _ _ (by omega), m9, List.nil_append, List.length_append]
    rw [show cap - xs.length - ys.length = cap - (xs.length + ys.length) by omega, List.append_assoc]
   ·rw [List.take_set_of_le (by omega)]
   ·intro j hj; rw [List.getElem?_set_ne (by omega)]
  ·rw [List.take_append_of_le_length (by rw [g1]; exact Nat.le_refl _), List.take_of_length_le (by rw [g1]; exact Nat.le_refl _), g2, f2, bw, bw]; exact ⟨⟨g3 _, f3 _⟩, kq _ _⟩
  ·rw [List.take_append_of_le_length (by rw [g1]; exact Nat.le_refl _), List.take_of_length_le (by rw [g1]; exact Nat.le_refl _), g2, f2, ← m9]
   refine hK _ _ (.inr ⟨G.length, fW, hG, by simp, ?_, by simpa using hc, by simp [hy]⟩) ?_ ?_ (by simp)
   ·simp [bj]
   ·rw [List.take_append_of_le_length hG]
   ·intro j hj; rw [List.getElem?_append_left (by omega)]
theorem o9 {esz : Nat} : ∀ {xs : List AV} (_ : ∀ x ∈ xs, iQ esz x) (i : Nat), i < xs.length → (flat xs).drop (i * esz) = (xs.getD i .any).cells ++ flat (xs.drop (i + 1))
 | [], _, i, h => by simp at h
 | x :: r, hx, 0, _ => by simp [flat]
 | x :: r, hx, i + 1, h => by
   have hl := (hx x List.mem_cons_self).len
   have e : flat (x :: r) = x.cells ++ flat r := rfl
   rw [e, show (i + 1) * esz = x.cells.length + i * esz by rw [hl, Nat.add_mul]; omega, List.drop_append, List.getD_cons_succ, List.drop_succ_cons]
   have := o9 (xs := r) (fun y hy => hx y (List.mem_cons_of_mem _ hy)) i (by simpa using h)
   simp [this]
theorem xS {esz : Nat} {z : AV} {c : Nat} (hc : c < esz) (v : AV) : ∀ {xs : List AV} (_ : ∀ x ∈ xs, iQ esz x) (i : Nat) {y : AV} (rest : List AV), i < xs.length → y.cells = (xs.getD i .any).cells.set c v →
 (flat xs ++ rest).set (i * esz + c) v = flat (xs.set i y) ++ rest
 | [], _, i, _, _, h, _ => by simp at h
 | x :: r, hx, 0, y, rest, _, hy => by
   have hl := (hx x List.mem_cons_self).len
   have e : flat (x :: r) = x.cells ++ flat r := rfl
   rw [List.set_cons_zero, e, show flat (y :: r) = y.cells ++ flat r from rfl, hy, Nat.zero_mul, Nat.zero_add, List.append_assoc, List.set_append_left _ _ (by omega), List.append_assoc]
   rfl
 | x :: r, hx, i + 1, y, rest, h, hy => by
   have hl := (hx x List.mem_cons_self).len
   have e : flat (x :: r) = x.cells ++ flat r := rfl
   have ih := xS (z := z) hc v (xs := r) (fun y hy => hx y (List.mem_cons_of_mem _ hy)) i rest (y := y) (by simpa using h) (by simpa using hy)
   rw [List.set_cons_succ, e, show flat (x :: r.set i y) = x.cells ++ flat (r.set i y) from rfl, List.append_assoc, List.append_assoc, ← ih, show (i + 1) * esz + c = x.cells.length + (i * esz + c) by rw [hl, Nat.add_mul]; omega]
   rw [List.set_append_right _ _ (by omega)]
   congr 2; omega
theorem kr (e id N c i : Nat) (k : IntKind) (φ : AV → Prop) : ay e (.bf id 0 N c) (.int k (i : Int)) φ = (i < N ∧ φ (.ptr id (i * e))) := by
 simp only [ay, Int.toNat_natCast, Nat.zero_add, eq_iff_iff]
 constructor
 ·rintro ⟨_, h⟩; exact h
 ·exact fun h => ⟨by omega, h⟩
theorem nc {α : Type} (l : List α) (i : Nat) (x : α) (h : i < l.length) : ag l i [x] = l.set i x := by
 unfold ag
 rw [List.set_eq_take_append_cons_drop, if_pos h]
 rfl
theorem zS {esz cap id : Nat} {z : AV} {ys : List AV} (pv : ∀ x ∈ ys, iQ esz x) {i c : Nat} (hi : i < ys.length) (hc : c < esz) {v y : AV} (h1 : v.one = true) (h2 : v.val = true) (h3 : v.ab.a7 0 = true) (hy : y.cells = (ys.getD i .any).cells.set c v.ab)
 {H : List aa} {K : List aa → Prop} (hK : K (H.set id (bj z (ys.set i y) cap))) : gU (some (bj z ys cap)) 1 id (i * esz + c) v H K := by
 obtain ⟨g1, g2, g3, g4⟩ := iQ.flat pv
 have hle : i * esz + esz ≤ ys.length * esz := by rw [← Nat.succ_mul]; exact Nat.mul_le_mul_right _ hi
 simp only [bj, BS, xo h1, h2, List.length_cons, List.length_nil, List.all_cons, List.all_nil, h1, List.map_cons, List.map_nil]
 refine ⟨trivial, trivial, by rw [List.length_append, g1]; omega, rfl, bF (Nat.zero_le _) [v.ab] (by rw [bL, cZ, h3]; rfl), ?_⟩
 rw [nc _ _ _ (by rw [List.length_append, g1]; omega), xS (z := z) hc v.ab pv i _ hi hy]
 have e : (ys.set i y).length = ys.length := by simp
 simp only [bj, e] at hK
 exact hK
theorem Fk {esz : Nat} (h0 : 1 < esz) : ∀ {xs : List AV} (_ : ∀ x ∈ xs, iQ esz x) (_ : ∀ x ∈ xs, AV.agg x.cells = x) (rest : List AV), chunks esz xs.length (flat xs ++ rest) = xs
 | [], _, _, _ => rfl
 | x :: r, hx, ha, rest => by
   have hl := (hx x List.mem_cons_self)
   have e : flat (x :: r) = x.cells ++ flat r := rfl
   rw [List.length_cons, chunks, if_neg (by omega), e, List.append_assoc, List.take_append_of_le_length (by rw [hl.len]; omega), List.take_of_length_le (by rw [hl.len]; omega), hl.un, ha x List.mem_cons_self]
   rw [show List.drop esz (x.cells ++ (flat r ++ rest)) = flat r ++ rest by rw [← hl.len, List.drop_left], Fk h0 (fun y hy => hx y (List.mem_cons_of_mem _ hy)) (fun y hy => ha y (List.mem_cons_of_mem _ hy))]
theorem vk {esz id cap : Nat} (h0 : 1 < esz) {z : AV} (hz : iQ esz (bN z)) {xs : List AV} {H : List aa} (hx : ∀ x ∈ xs, iQ esz x) (ha : ∀ x ∈ xs, AV.agg x.cells = x) (h : H[id]? = some (bj z xs cap)) (hl : xs.length ≤ cap) {K : AV → List aa → Prop} (hK : K (.ap 0 xs) (H.set id .dead)) : dD esz (.bf id 0 xs.length cap) H K := by
 obtain ⟨g1, g2, g3, g4⟩ := iQ.flat hx
 simp only [dD, h, bj, List.drop_zero, Fk h0 hx ha]
 refine ⟨by omega, hl, by simp [g1], ?_, hK⟩
 rw [List.all_append, g4, show (da z (cap - xs.length)).all AV.one = true from (iQ.flat (jC hz _)).2.2.2]; rfl
end Go.aK
end
section
set_option maxRecDepth 100000
set_option maxHeartbeats 0
namespace Go.aK
open Go Go.Proofs
noncomputable def VL := aI Tryz.call58 Tryz.func58 Tryz.ntmps58 [(3,0,2),(3,2,2),(3,3,1)] [(0,[0]),(1,[0,4]),(2,[2]),(3,[2])] []
noncomputable def VM := aI Tryz.call75 Tryz.func75 Tryz.ntmps75 [(0,0,1),(5,2,1000),(6,0,1),(6,8,1),(7,6,2),(7,9,2),(9,0,6004)] [(0,[1,2]),(1,[1,6]),(2,[1,6,7]),(3,[6,7,15,16,17]),(4,[6,7,15,16,17,18]),(5,[6,7,9,15,16,17]),(6,[6,7,9,15,16,17]),(7,[6,7,15,16,17]),(8,[6,7,15,16,17]),(9,[4,5])] [(7,(.take 1 true (.take 2 true (.take 3 true (.take 4 true (.take 5 true (.take 0 false (.br 6 (.take 7 true (.take 8 true (.br 9 .done .nil))) .nil))))))))]
noncomputable def Pb := aI Tryz.call118 Tryz.func118 Tryz.ntmps118 [(3,0,2),(3,2,2),(3,3,1)] [(0,[0]),(1,[0,4]),(2,[2]),(3,[2])] []
noncomputable def Fl := aI Tryz.call132 Tryz.func132 Tryz.ntmps132 [(0,0,1),(2,0,1),(2,4,2),(2,5,1),(6,2,1000),(7,0,1),(7,5,1),(8,1,1),(8,2,2),(8,3,1),(11,0,1),(11,1,1)] [(0,[1,2]),(1,[1,2,5]),(2,[1,2,5]),(3,[1,2,5,6]),(4,[1,5,6,17,18,19]),(5,[1,5,6,17,18,19,20]),(6,[1,5,6,8,17,18,19]),(7,[1,5,6,8,17,18,19]),(8,[1,5,6,17,18,19]),(9,[1,5,6,17,18,19]),(10,[1]),(11,[4])] []
noncomputable def Pc := aI Tryz.call139 Tryz.func139 Tryz.ntmps139 [(10,9,2000),(15,0,1),(15,4,1),(21,0,1),(21,4,1),(23,2,3000)] [(0,[0,1,2]),(1,[0,1,2,9]),(2,[0,1,2,9,10]),(3,[0,1,2,9,10,11,12]),(4,[0,1,9,10,11,12,26,27,28]),(5,[0,1,9,10,11,12,26,27,28,29]),(6,[0,1,9,10,11,12,13,14,26,27,28]),(7,[0,1,9,10,11,12,13,14,26,27,28,33,34,35]),(8,[0,1,9,10,11,12,13,14,26,27,28,33,34,35,36]),(9,[0,1,9,10,11,12,13,14,15,16,26,27,28,33,34,35]),(10,[0,1,9,10,11,12,13,14,15,26,27,28,33,34,35,50]),(11,[0,1,9,10,11,12,13,15,26,27,28]),(12,[0,1,9,10,11,12,13,26,27,28]),(13,[0,1,9,10,11,12,13,14,26,27,28,33,34,35]),(14,[0,1,9,10,11,12,13,26,27,28,63]),(15,[0,1,9,10,11,12,26,27,28]),(16,[0,1,9,10,11,12,26,27,28]),(17,[10,11,12,69,70,71]),(18,[10,11,12,69,70,71,72]),(19,[10,11,12,17,18,69,70,71]),(20,[10,11,12,17,69,70,71,77]),(21,[10,11,12,69,70,71]),(22,[10,11,12,69,70,71]),(23,[6,7,8])] []
noncomputable def Pd := aI Tryz.call149 Tryz.func149 Tryz.ntmps149 [(1,2,1),(3,1,2000),(4,0,3000)] [(0,[0,1]),(1,[0,1]),(2,[0,8]),(3,[0]),(4,[4])] []
noncomputable def Pe := aI Tryz.call185 Tryz.func185 Tryz.ntmps185 [(5,3,2000),(6,19,2000)] [(0,[0,1,2]),(1,[0,1,2,7,8]),(2,[0,1,2,7,38]),(3,[6]),(4,[0,9,10]),(5,[0,9,10,11]),(6,[6])] [(4,(.take 0 true (.take 1 true (.take 2 true (.take 3 true (.take 4 true (.take 5 true (.take 6 true (.take 7 true (.take 8 true (.take 9 true (.take 10 true (.take 11 true (.take 12 true (.take 13 true (.take 14 true (.take 15 true (.take 16 true (.take 17 true (.take 18 true (.take 19 true (.take 20 true (.take 21 true .done))))))))))))))))))))))),(6,(.take 0 true (.take 1 true (.take 2 true (.take 3 true (.take 4 true (.take 5 true (.take 6 true (.take 7 true (.take 8 true (.take 9 true (.take 10 true (.take 11 true (.take 12 true (.take 13 true (.take 14 true (.take 15 true (.take 16 true (.take 17 true (.take 18 true (.br 19 (.take 20 true (.take 21 true (.take 22 true .done))) .nil)))))))))))))))))))))]
noncomputable def Pf := aI Tryz.call199 Tryz.func199 Tryz.ntmps199 [] [(0,[0,2,3]),(1,[0,2,3,9]),(2,[0,2,3]),(3,[0,2,3])] [(3,(.take 0 true (.take 1 true (.take 4 true (.take 5 true (.take 6 true (.take 7 true (.take 8 true (.take 9 true (.take 10 true (.take 11 true (.take 12 true (.take 2 false (.take 3 false (.br 13 (.take 14 true (.br 15 .done .nil)) .nil)))))))))))))))]
end Go.aK
end
section
set_option maxRecDepth 100000
namespace Go.aK
open Go
inductive T where
 | mk (k n : Int) (l : List T)
 deriving Inhabited
mutual
def T.av : T → AV
 | .mk k n l => .agg [.int .i64 k, .int .i64 n, .ap 0 (bU l)]
def bU : List T → List AV
 | [] => []
 | x :: r => x.av :: bU r
end
def T.k : T → Int | .mk k _ _ => k
def T.n : T → Int | .mk _ n _ => n
def T.l : T → List T | .mk _ _ l => l
theorem T.qn (x : T) : x.av = .agg [.int .i64 x.k, .int .i64 x.n, .ap 0 (bU x.l)] := by cases x; rfl
theorem hJ : ∀ l, bU l = l.map T.av
 | [] => rfl
 | x :: r => by simp [bU, hJ r]
theorem qo (l : List T) : (bU l).length = l.length := by simp [hJ]
theorem BY (l : List T) (i : Nat) (h : i < l.length) : (bU l).getD i .any = (l.getD i default).av := by
 simp [hJ, h]
mutual
theorem T.nh (n : Nat) : ∀ x : T, x.av.a7 n = true
 | .mk k m l => by simp [T.av, AV.a7, aj, dI n l]
theorem dI (n : Nat) : ∀ l : List T, aj n (bU l) = true
 | [] => rfl
 | x :: r => by simp [bU, aj, T.nh n x, dI n r]
end
theorem T.rF (x : T) : AV.agg x.av.cells = x.av := by cases x; rfl
theorem T.vn (x : T) : x.av.val = true := by cases x; rfl
theorem T.pc (x : T) : x.av.cells.all AV.one = true := by cases x; rfl
theorem T.ni (x : T) : x.av.ab = x.av := by cases x; rfl
theorem T.qp (x : T) : x.av.drop = x.av := by cases x; rfl
theorem T.BZ (x : T) : x.av.cells.map AV.ab = x.av.cells := by cases x; rfl
theorem T.D8 (x : T) : x.av.cells.map AV.drop = x.av.cells := by cases x; rfl
theorem T.gr (x : T) : x.av.cells.length = 3 := by cases x; rfl
theorem JS (o : Nat) (l : List T) : (∀ (own : Nat) (xs : List AV), AV.ap o (bU l) = AV.ap own xs → ∀ z ∈ xs, z.cells.length = 3) = True := by
 simp only [eq_iff_iff, iff_true]
 intro own xs e z hz
 cases e
 rw [hJ] at hz
 obtain ⟨y, _, rfl⟩ := List.mem_map.1 hz
 exact y.gr
theorem NF (e o : Nat) (l : List T) (k : IntKind) (i : Nat) (φ : AV → Prop) : ay e (.ap o (bU l)) (.int k (i : Int)) φ = (i < l.length ∧ φ (.ai (l.getD i default).av)) := by
 simp only [ay, qo, Int.toNat_natCast, eq_iff_iff]
 constructor
 ·rintro ⟨_, h, h2⟩; rw [BY _ _ h] at h2; exact ⟨h, h2⟩
 ·rintro ⟨h, h2⟩; rw [BY _ _ h]; exact ⟨by omega, h, h2⟩
theorem B0 (x : T) (H : List aa) (φ : AV → Prop) : aS (some 3) (.ai x.av) H φ = φ x.av := by
 simp [aS, T.gr, T.rF]
theorem YY (a b c : AV) (x : T) : ag [a, b, c] 0 x.av.cells = x.av.cells := by simp [ag, T.gr]
theorem YZ (n : Nat) (x : T) : aj n x.av.cells = true := cn (x.nh _)
theorem NG (x : T) (φ : AV → Prop) : db (some (.cells x.av.cells)) (some 3) 0 φ = φ x.av := by
 have e : List.map AV.drop (List.take 3 (List.drop 0 x.av.cells)) = x.av.cells := by cases x; rfl
 simp only [db, e, T.rF]
 simp [T.gr]
theorem fk (x : T) (φ : AV → Prop) : ak 0 none (.ai x.av) φ = φ (.ai (.int .i64 x.k)) := by
 cases x; simp [ak, apart, T.av, AV.cells, T.k, AV.one]
theorem fn_ (x : T) (φ : AV → Prop) : ak 1 none (.ai x.av) φ = φ (.ai (.int .i64 x.n)) := by
 cases x; simp [ak, apart, T.av, AV.cells, T.n, AV.one]
theorem fl (x : T) (φ : AV → Prop) : ak 2 none (.ai x.av) φ = φ (.ai (.ap 0 (bU x.l))) := by
 cases x; simp [ak, apart, T.av, AV.cells, T.l, AV.one]
def ints (l : List Int) : List AV := l.map (AV.int .i64)
theorem aw (l : List Int) : (ints l).length = l.length := by simp [ints]
theorem bk (n : Nat) (l : List Int) : aj n (ints l) = true := by
 rw [a9]; intro x hx; obtain ⟨y, _, rfl⟩ := List.mem_map.1 hx; rfl
theorem dy (o : Nat) (l : List Int) : (∀ (own : Nat) (xs : List AV), AV.ap o (ints l) = AV.ap own xs → ∀ z ∈ xs, z.cells.length = 1) = True := by
 simp only [eq_iff_iff, iff_true]
 intro own xs e z hz
 cases e
 obtain ⟨y, _, rfl⟩ := List.mem_map.1 hz
 rfl
theorem JT (e o : Nat) (l : List Int) (k : IntKind) (i : Nat) (φ : AV → Prop) : ay e (.ap o (ints l)) (.int k (i : Int)) φ = (i < l.length ∧ φ (.ai (.int .i64 (l.getD i 0)))) := by
 simp only [ay, aw, Int.toNat_natCast, eq_iff_iff]
 constructor
 ·rintro ⟨_, h, h2⟩; refine ⟨h, ?_⟩; simpa [ints, h] using h2
 ·rintro ⟨h, h2⟩; refine ⟨by omega, h, ?_⟩; simpa [ints, h] using h2
theorem rG (l : List Int) (n : Int) : ints l ++ [.int .i64 n] = ints (l ++ [n]) := by simp [ints]
theorem ok_int (k : IntKind) (n : Int) : ta 1 [.int k n] = True := by simp [ta, AV.cells, AV.one]
theorem lO (l : List Int) : ta 1 (ints l) = True := by
 simp only [ta, eq_iff_iff, iff_true]
 intro y hy
 obtain ⟨z, _, rfl⟩ := List.mem_map.1 hy
 exact ⟨rfl, rfl⟩
theorem R1 (x : T) : ta 3 [x.av] = True := by
 simp only [ta, eq_iff_iff, iff_true]
 intro y hy
 rw [List.mem_singleton] at hy
 subst hy
 exact ⟨x.gr, x.pc⟩
theorem R2 (k : IntKind) (n : Int) : aT (.int k n) = .int k n := _root_.id rfl
theorem Y0 (x : T) : aT x.av = x.av := by cases x; rfl
theorem bs0 (z : AV) (esz : Nat) (φ : List AV → Prop) : bh (List.replicate 0 z) esz [] φ = φ [] := _root_.id rfl
theorem bs1 (z x : AV) (esz : Nat) (φ : List AV → Prop) : bh (List.replicate 1 (aT z)) esz [(0, x)] φ = (x.val = true ∧ x.cells.length = esz ∧ φ [aT x]) := by
 simp [bh]
theorem bs2 (z x y : AV) (esz : Nat) (φ : List AV → Prop) : bh (List.replicate 2 (aT z)) esz [(0, x), (1, y)] φ = (x.val = true ∧ x.cells.length = esz ∧ y.val = true ∧ y.cells.length = esz ∧ φ [aT x, aT y]) := by
 simp [bh, List.replicate]
theorem bs3 (z x y u : AV) (esz : Nat) (φ : List AV → Prop) : bh (List.replicate 3 (aT z)) esz [(0, x), (1, y), (2, u)] φ = (x.val = true ∧ x.cells.length = esz ∧ y.val = true ∧ y.cells.length = esz ∧ u.val = true ∧ u.cells.length = esz ∧ φ [aT x, aT y, aT u]) := by
 simp [bh, List.replicate]
@[congr] theorem Lq {xs : List AV} {esz : Nat} {ps ps' : List (Nat × AV)} {φ : List AV → Prop} (h : fY ps = ps') : bh xs esz ps φ = bh xs esz ps' φ := by subst h; rfl
def R3 := (And.intro (And.intro (And.intro (And.intro @or_true @true_or) (And.intro @true_and @and_true)) (And.intro (And.intro @true_implies @Bool.true_and) (And.intro @Bool.and_true (And.intro @Bool.not_true @Bool.not_false)))) (And.intro (And.intro (And.intro @decide_true @decide_false) (And.intro @Classical.not_not @not_true_eq_false)) (And.intro (And.intro @not_false_eq_true @false_implies) (And.intro @Int.not_le (And.intro @Int.not_lt @Nat.le_refl)))))
def R4 := (And.intro (And.intro (And.intro (And.intro (And.intro @qo @T.nh) (And.intro @dI @T.vn)) (And.intro (And.intro @T.pc @T.ni) (And.intro @T.qp @T.BZ))) (And.intro (And.intro (And.intro @T.D8 @T.gr) (And.intro @T.rF @JS)) (And.intro (And.intro @NF @B0) (And.intro @YY (And.intro @YZ @NG))))) (And.intro (And.intro (And.intro (And.intro @fk @fn_) (And.intro @fl @aw)) (And.intro (And.intro @bk @dy) (And.intro @JT @rG))) (And.intro (And.intro (And.intro @ok_int @R1) (And.intro @lO @R2)) (And.intro (And.intro @Y0 @bs0) (And.intro @bs1 (And.intro @bs2 @bs3))))))
theorem sZa {α : Type} (a b : α) (h : Decidable True) : (if True then a else b) = a := if_pos trivial
def sZ := And.intro R0 (And.intro R4 (And.intro R3 (And.intro @sZa (And.intro @ne_eq.{1} (And.intro @forall_const.{1} (And.intro @implies_true.{0} (And.intro @implies_true.{1} (And.intro @List.nil_append.{0} (And.intro @List.append_nil.{0} (And.intro @List.cons_append.{0} (And.intro @List.length_cons.{0} @List.length_nil.{0})))))))))))
end Go.aK
end
section
end
section
set_option maxRecDepth 100000
namespace Go.aK
open Go Go.Proofs
mutual
def T.same : T → T → Bool
 | .mk k n l, .mk k' n' l' => k == k' && n == n' && fS l l'
def fS : List T → List T → Bool
 | [], [] => true
 | x :: r, y :: s => x.same y && fS r s
 | _, _ => false
end
theorem xT : ∀ {l m : List T}, fS l m = true → l.length = m.length
 | [], [], _ => rfl
 | x :: r, y :: s, h => by simp only [fS, Bool.and_eq_true] at h; simp [xT h.2]
 | [], _ :: _, h => by simp [fS] at h
 | _ :: _, [], h => by simp [fS] at h
theorem D9 {xs ys : List T} {i : Nat} (h1 : i < xs.length) (h2 : i < ys.length) : fS (xs.drop i) (ys.drop i) = ((xs.getD i default).same (ys.getD i default) && fS (xs.drop (i + 1)) (ys.drop (i + 1))) := by
 rw [List.drop_eq_getElem_cons h1, List.drop_eq_getElem_cons h2]
 simp [fS, h1, h2]
theorem c40 (xs ys : List T) (hf : ∀ x ∈ xs, ∀ y, Pure Tryz.prog 49 [x.av, y.av] (.bool (x.same y))) :
 Pure Tryz.prog 40 [.ap 0 (bU xs), .ap 0 (bU ys), .fn (.func 49) [] []] (.bool (fS xs ys)) := by
 refine fun H => k40.2.calls rfl ?_
 simp only [k40, aI]
 simp only [sZ, Nat.reduceEqDiff, Nat.reduceAdd, ↓reduceIte, reduceCtorEq]
 refine fun hx hy => ⟨fun dS => ?_, fun he _ => ?_⟩
 ·refine aQ H.length (Nat.le_refl _) (by simp only [sZ, ↓reduceIte]) ?_
  simp only [sZ, ↓reduceIte, List.take_length]
  have : xs.length ≠ ys.length := by simpa [Int.ofNat_inj] using dS
  cases hs : fS xs ys with
  | false => rfl
  | true => exact absurd (xT hs) this
 have CY : xs.length = ys.length := by simpa [Int.ofNat_inj] using he
 refine aB xs.length (fun i => fS (xs.drop i) (ys.drop i) = fS xs ys) (fun i => [(1, .ap 0 (bU ys)), (2, .fn (.func 49) [] []), (15, .ap 0 (bU xs)), (16, .int .i64 xs.length), (17, .int .i64 i)]) (fun _ => H) ⟨rfl, aA _ _ _⟩ fun i hi hI => ?_
 simp only [sZ, Nat.reduceEqDiff, Nat.reduceAdd, ↓reduceIte, reduceCtorEq]
 refine ⟨fun aY => ?_, fun iW => ?_⟩
 ·have aY : i < xs.length := by simpa using aY
  have Hl : i < ys.length := by omega
  refine ⟨aY, Hl, ae (hf _ (by simp [aY]) _) ?_⟩
  rw [D9 aY Hl] at hI
  simp only [sZ, Nat.reduceEqDiff, ↓reduceIte]
  refine qh (fun hn => ?_) (fun hn => ?_) <;> simp only [sZ, Nat.reduceEqDiff, ↓reduceIte, reduceCtorEq]
  ·refine ⟨i + 1, ⟨by omega, by rw [← hI, hn]; rfl⟩, by omega, ?_⟩
   refine qg ?_ (Nat.le_refl _) (by simp only [sZ]) _ rfl
   rw [au i (by omega)]
  ·refine aQ H.length (Nat.le_refl _) (by simp only [sZ, ↓reduceIte]) ?_
   rw [← hI, hn]
   exact ⟨rfl, by simp⟩
 ·have iW : ¬ i < xs.length := by simpa using iW
  refine aQ H.length (Nat.le_refl _) (by simp only [sZ, ↓reduceIte]) ?_
  rw [List.drop_of_length_le (by omega), List.drop_of_length_le (by omega)] at hI
  simp [get, ← hI, fS]
theorem iu {l : List T} {i : Nat} (h : i < l.length) : l.getD i default ∈ l := by simp [h]
theorem T.lt {x y : T} (h : x ∈ y.l) : SizeOf.sizeOf x < SizeOf.sizeOf y := by
 cases y with
 | mk k n l =>
   have := List.sizeOf_lt_of_mem h
   simp only [T.l] at this
   simp only [T.mk.sizeOf_spec]
   omega
theorem Y1 (a b : T) : Pure Tryz.prog 49 [a.av, b.av] (.bool (a.same b)) := by
 have ih : ∀ x ∈ a.l, ∀ y, Pure Tryz.prog 49 [x.av, y.av] (.bool (x.same y)) := fun x hx y => Y1 x y
 refine fun H => k49.2.calls rfl ?_
 simp only [k49, aI]
 simp only [sZ, Nat.reduceEqDiff, Nat.reduceAdd, ↓reduceIte, reduceCtorEq]
 have e : a.same b = (decide (a.k = b.k) && decide (a.n = b.n) && fS a.l b.l) := by
  cases a; cases b; simp only [T.same, T.k, T.n, T.l]; rfl
 refine ⟨fun hk => ⟨fun hn => ae (c40 _ _ ih) ?_, fun hn => aW rfl (by rw [e]; simp [hn])⟩, fun hk => aW rfl (by rw [e]; simp [hk])⟩
 simp only [sZ, Nat.reduceEqDiff, ↓reduceIte, reduceCtorEq]
 exact aW rfl (by rw [e]; simp [hk, hn])
termination_by SizeOf.sizeOf a
decreasing_by exact T.lt hx
def tu (a b : Int) : Int := if a < b then -1 else if b < a then 1 else 0
def XL : List Int → Int
 | [] => 0
 | x :: r => if x ≠ 0 then x else XL r
mutual
def T.cmp : T → T → Int
 | .mk k n l, .mk k' n' l' => if XL [tu k k', tu n n', tu l.length l'.length] ≠ 0 then XL [tu k k', tu n n', tu l.length l'.length] else vq l l'
def vq : List T → List T → Int
 | [], [] => 0
 | [], _ :: _ => -1
 | _ :: _, [] => 1
 | x :: r, y :: s => if x.cmp y ≠ 0 then x.cmp y else vq r s
end
end Go.aK
end
section
set_option maxRecDepth 100000
namespace Go.aK
open Go Go.Proofs
end Go.aK
end
section
set_option maxRecDepth 100000
namespace Go.aK
open Go Go.Proofs
mutual
def fM : T → Int → Int × Int → Int × Int
 | .mk _ _ l, d, s => ku l (d + 1) (s.1 + 1, max s.2 d)
def ku : List T → Int → Int × Int → Int × Int
 | [], _, s => s
 | x :: r, d, s => if 2000 < s.1 ∨ 200 < s.2 then s else ku r d (fM x d s)
end
def oI (d : Int) (s : Int × Int) : Prop := 0 ≤ s.1 ∧ s.1 ≤ 2000 ∧ 0 ≤ s.2 ∧ s.2 ≤ 200 ∧ 0 ≤ d ∧ d ≤ 201
def lP (s : Int × Int) : Prop := 0 ≤ s.1 ∧ s.1 ≤ 2001 ∧ 0 ≤ s.2 ∧ s.2 ≤ 201
mutual
theorem vr : ∀ (x : T) (d : Int) (s : Int × Int), oI d s → lP (fM x d s) ∧ (fM x d s).2 ≥ d
 | .mk k n l, d, s, h => by
   simp only [fM]
   obtain ⟨h1, h2, h3, h4, h5, h6⟩ := h
   have := B1 l (d + 1) (s.1 + 1, max s.2 d) (by unfold lP; simp only; omega) (by omega) (by simp only; omega)
   refine ⟨this.1, ?_⟩
   have h := this.2
   simp only at h
   omega
theorem B1 : ∀ (l : List T) (d : Int) (s : Int × Int), lP s → 0 ≤ d → d ≤ s.2 + 1 → lP (ku l d s) ∧ s.2 ≤ (ku l d s).2
 | [], d, s, h, _, _ => by simp [ku, h]
 | x :: r, d, s, h, hd, F5 => by
   simp only [ku]
   split
   ·exact ⟨h, Int.le_refl _⟩
   ·rename_i hn
    obtain ⟨h1, h2, h3, h4⟩ := h
    have hx := vr x d s ⟨h1, by omega, h3, by omega, hd, by omega⟩
    have hr := B1 r d (fM x d s) hx.1 hd (by omega)
    have := rH x d s
    exact ⟨hr.1, by omega⟩
theorem rH : ∀ (x : T) (d : Int) (s : Int × Int), s.2 ≤ (fM x d s).2
 | .mk k n l, d, s => by
   simp only [fM]
   have := xU l (d + 1) (s.1 + 1, max s.2 d)
   simp only at this
   omega
theorem xU : ∀ (l : List T) (d : Int) (s : Int × Int), s.2 ≤ (ku l d s).2
 | [], d, s => by simp [ku]
 | x :: r, d, s => by
   simp only [ku]
   split
   ·omega
   ·have h1 := rH x d s
    have h2 := xU r d (fM x d s)
    omega
end
theorem Hm {l : List T} {i : Nat} {d : Int} {s : Int × Int} (h : i < l.length) : ku (l.drop i) d s = if 2000 < s.1 ∨ 200 < s.2 then s else ku (l.drop (i + 1)) d (fM (l.getD i default) d s) := by
 rw [List.drop_eq_getElem_cons h]
 simp [ku, h]
def ey (s : Int × Int) : List aa := [.cells [.int .i64 s.1, .int .i64 s.2]]
theorem R5 (H : List aa) (x : T) (d : Int) (s : Int × Int) (hs : oI d s) :
 aq Tryz.prog 171 [.ptr H.length 0, x.av, .int .i64 d] (H ++ ey s) fun r H' => r = .tuple [] ∧ H' = H ++ ey (fM x d s) := by
 have ih : ∀ y ∈ x.l, ∀ (d : Int) (s : Int × Int), oI d s → aq Tryz.prog 171 [.ptr H.length 0, y.av, .int .i64 d] (H ++ ey s) fun r H' => r = .tuple [] ∧ H' = H ++ ey (fM y d s) :=
  fun y hy d s hs => R5 H y d s hs
 have e : fM x d s = ku x.l (d + 1) (s.1 + 1, max s.2 d) := by cases x; simp only [fM, T.l]
 obtain ⟨h1, h2, h3, h4, h5, h6⟩ := hs
 have w1 : IntKind.i64.wrap (s.1 + 1) = s.1 + 1 := dY _ (by omega)
 have w2 : IntKind.i64.wrap (d + 1) = d + 1 := dY _ (by omega)
 refine Mc.2.calls rfl ?_
 simp only [Mc, aI]
 simp only [w1, ey, sZ, Nat.reduceEqDiff, Nat.reduceAdd, Nat.reduceLT, Nat.reduceLeDiff, ↓reduceIte, reduceCtorEq]
 intro hl
 have H8 : lP (s.1 + 1, max s.2 d) := by unfold lP; simp only; omega
 have Yz : d ≤ max s.2 d := by omega
 generalize max s.2 d = m at *
 refine aN x.l.length (fun i (t : Int × Int) => lP t ∧ d ≤ t.2 ∧ ku (x.l.drop i) (d + 1) t = fM x d s)
  (fun i t => [(0, .ptr H.length 0), (2, .int .i64 d), (25, .ap 0 (bU x.l)), (26, .int .i64 x.l.length), (27, .int .i64 i)]) (fun i t => H ++ ey t) (s.1 + 1, m) ⟨⟨H8, Yz, by rw [e]; rfl⟩, aA _ _ _⟩ fun i t hi hI => ?_
 obtain ⟨⟨k1, k2, k3, k4⟩, k5, hI⟩ := hI
 simp only [w2, ey, sZ, Nat.reduceEqDiff, Nat.reduceAdd, Nat.reduceLT, ↓reduceIte, reduceCtorEq]
 refine ⟨fun aY => ⟨bZ aY, ?_⟩, fun iW => ?_⟩
 ·have aY := bZ aY
  rw [Hm aY] at hI
  refine ⟨fun Y2 => ⟨fun XM => ?_, fun XM => ?_⟩, fun Y2 => ?_⟩
  ·rw [if_pos (.inr XM)] at hI; rw [← hI]; exact qk (by simp [ey]) rfl
  ·rw [if_neg (by omega)] at hI
   have ho : oI (d + 1) t := ⟨k1, by omega, k3, by omega, by omega, by omega⟩
   have hx := vr (x.l.getD i default) (d + 1) t ho
   refine af (ih _ (iu aY) (d + 1) t ho) ?_
   rintro r H' ⟨rfl, rfl⟩
   simp only [ey, sZ, Nat.reduceEqDiff, ↓reduceIte, reduceCtorEq]
   exact ⟨i + 1, fM (x.l.getD i default) (d + 1) t, ⟨aY, hx.1, by omega, hI⟩, by omega, aG (by rw [au i (by omega)]) rfl⟩
  ·rw [if_pos (.inl Y2)] at hI; rw [← hI]; exact qk (by simp [ey]) rfl
 ·rw [List.drop_of_length_le (dl iW)] at hI
  rw [← hI]
  exact qk (by simp [ey]) rfl
termination_by SizeOf.sizeOf x
decreasing_by exact T.lt hy
def sU (s : Int × Int) : Bool := decide (2000 < s.1) || decide (200 < s.2)
theorem VN (H : List aa) (s : Int × Int) : aq Tryz.prog 172 [.ptr H.length 0] (H ++ ey s) fun r H' => r = .bool (sU s) ∧ H' = H ++ ey s := by
 refine Md.2.calls rfl ?_
 simp only [Md, aI]
 simp only [ey, sZ, Nat.reduceEqDiff, Nat.reduceAdd, Nat.reduceLT, ↓reduceIte, reduceCtorEq]
 refine ⟨fun h => ?_, fun h => ?_⟩
 ·exact RY (by simp [ey]) rfl (by simp [sU, Int.not_lt.2 h]) rfl
 ·exact RY (by simp [ey]) rfl (by simp [sU, h]) rfl
def rI (p : T → Bool) : List T → Int → Int
 | [], _ => -1
 | x :: r, k => if p x = true then k else rI p r (k + 1)
theorem vt (p : T → Bool) : ∀ (l : List T) (k : Int), 0 ≤ k → (decide (0 ≤ rI p l k) = l.any p)
 | [], k, _ => by simp [rI]
 | x :: r, k, h => by
   simp only [rI, List.any_cons]
   split
   ·rename_i hp; simp [hp, h]
   ·rename_i hp; simp [hp, vt p r (k + 1) (by omega)]
theorem xV {p : T → Bool} {l : List T} {i : Nat} {k : Int} (h : i < l.length) : rI p (l.drop i) k = if p (l.getD i default) = true then k else rI p (l.drop (i + 1)) (k + 1) := by
 rw [List.drop_eq_getElem_cons h]
 simp [rI, h]
theorem Y3 (g : Nat) (p : T → Bool) (l : List T) (hf : ∀ x ∈ l, Pure Tryz.prog g [x.av] (.bool (p x))) :
 Pure Tryz.prog 114 [.ap 0 (bU l), .fn (.func g) [] []] (.int .i64 (rI p l 0)) := by
 refine fun H => Bu.2.calls rfl ?_
 simp only [Bu, aI]
 simp only [sZ, Nat.reduceEqDiff, Nat.reduceAdd, ↓reduceIte, reduceCtorEq]
 intro hl
 refine aB l.length (fun i => rI p (l.drop i) i = rI p l 0) (fun i => [(0, .ap 0 (bU l)), (1, .fn (.func g) [] []), (7, .int .i64 l.length), (8, .int .i64 i)]) (fun _ => H) ⟨rfl, aA _ _ _⟩ fun i hi hI => ?_
 simp only [sZ, Nat.reduceEqDiff, Nat.reduceAdd, ↓reduceIte, reduceCtorEq]
 refine ⟨fun aY => ?_, fun iW => ?_⟩
 ·have aY := bZ aY
  rw [xV aY] at hI
  refine ⟨aY, ae (hf _ (iu aY)) ?_⟩
  simp only [sZ, Nat.reduceEqDiff, ↓reduceIte, reduceCtorEq]
  refine qh (fun hb => ?_) (fun hb => ?_) <;> simp only [sZ, Nat.reduceEqDiff, ↓reduceIte, reduceCtorEq]
  ·rw [if_pos hb] at hI
   exact aW rfl (by rw [← hI])
  ·rw [if_neg (by rw [hb]; simp)] at hI
   exact ⟨i + 1, ⟨aY, hI⟩, by omega, aG (by rw [au i (by omega)]) rfl⟩
 ·rw [List.drop_of_length_le (dl iW)] at hI
  exact aW rfl (by rw [← hI]; rfl)
theorem c53 (g : Nat) (p : T → Bool) (l : List T) (hf : ∀ x ∈ l, Pure Tryz.prog g [x.av] (.bool (p x))) :
 Pure Tryz.prog 53 [.ap 0 (bU l), .fn (.func g) [] []] (.bool (l.any p)) := by
 refine fun H => OH.2.calls rfl ?_
 simp only [OH, aI]
 simp only [sZ, Nat.reduceEqDiff, Nat.reduceAdd, ↓reduceIte, reduceCtorEq]
 refine ae (Y3 g p l hf) ?_
 simp only [sZ, ↓reduceIte, reduceCtorEq]
 exact aW rfl (by rw [vt p l 0 (by omega)])
mutual
def T.shaped : T → Bool
 | .mk k n l => !(decide (n < 0) || (decide (k = 1) && decide (0 < l.length)) || (decide (k ≠ 1) && decide (k ≠ 2)) || decide (8 < l.length)) && fc l
def fc : List T → Bool
 | [] => true
 | x :: r => x.shaped && fc r
end
theorem nj : ∀ l, fc l = l.all T.shaped
 | [] => rfl
 | x :: r => by simp only [fc, List.all_cons, nj r]
theorem B2 (l : List T) : (!(l.any fun x => !x.shaped)) = fc l := by
 rw [nj]
 induction l with
 | nil => rfl
 | cons x r ih => simp only [List.any_cons, List.all_cons, Bool.not_or, Bool.not_not, ih]
theorem T.fT (x : T) : x.shaped = (!(decide (x.n < 0) || (decide (x.k = 1) && decide (0 < x.l.length)) || (decide (x.k ≠ 1) && decide (x.k ≠ 2)) || decide (8 < x.l.length)) && fc x.l) := by
 cases x; simp only [T.shaped, T.k, T.n, T.l]; rfl
theorem zU {l : List T} {i : Nat} (h : i < l.length) : fc (l.drop i) = ((l.getD i default).shaped && fc (l.drop (i + 1))) := by
 rw [List.drop_eq_getElem_cons h]
 simp [fc, h]
theorem T.Hn {x : T} (hh : ¬ (x.n < 0 ∨ (x.k = 1 ∧ 0 < x.l.length) ∨ (x.k ≠ 1 ∧ x.k ≠ 2) ∨ 8 < x.l.length)) : x.shaped = fc x.l := by
 rw [x.fT]
 have h1 : decide (x.n < 0) = false := Bool.eq_false_iff.2 (by simp only [ne_eq, decide_eq_true_eq]; omega)
 have h2 : (decide (x.k = 1) && decide (0 < x.l.length)) = false := Bool.eq_false_iff.2 (by simp only [ne_eq, Bool.and_eq_true, decide_eq_true_eq]; omega)
 have h3 : (decide (x.k ≠ 1) && decide (x.k ≠ 2)) = false := Bool.eq_false_iff.2 (by simp only [ne_eq, Bool.and_eq_true, decide_eq_true_eq]; omega)
 have h4 : decide (8 < x.l.length) = false := Bool.eq_false_iff.2 (by simp only [ne_eq, decide_eq_true_eq]; omega)
 rw [h1, h2, h3, h4]; rfl
theorem Y4 (x : T) (h : Pure Tryz.prog 173 [x.av] (.bool x.shaped)) : Pure Tryz.prog 211 [x.av] (.bool (!x.shaped)) := by
 refine fun H => Mn.2.calls rfl ?_
 simp only [Mn, aI]
 simp only [sZ, Nat.reduceEqDiff, Nat.reduceAdd, ↓reduceIte]
 refine ae h ?_
 simp only [sZ, ↓reduceIte, reduceCtorEq]
 exact aW rfl rfl
theorem VO (x : T) : Pure Tryz.prog 173 [x.av] (.bool x.shaped) := by
 have ih : ∀ y ∈ x.l, Pure Tryz.prog 211 [y.av] (.bool (!y.shaped)) := fun y hy => Y4 y (VO y)
 refine fun H => Me.2.calls rfl ?_
 simp only [Me, aI]
 simp +contextual only [sZ, Nat.reduceEqDiff, Nat.reduceAdd, ↓reduceIte, reduceCtorEq]
 have fin : ∀ (H' : List aa), H' = H → (x.n < 0 ∨ (x.k = 1 ∧ 0 < x.l.length) ∨ (x.k ≠ 1 ∧ x.k ≠ 2) ∨ 8 < x.l.length) → bT H.length [RX.t 2] [(2, AV.bool false)] H' fun r H' => r = AV.bool x.shaped ∧ H' = H := by
  rintro H' rfl hh
  refine aW rfl ?_
  rw [x.fT]
  rcases hh with h | h | h | h <;> simp [h]
 have go : ¬ (x.n < 0 ∨ (x.k = 1 ∧ 0 < x.l.length) ∨ (x.k ≠ 1 ∧ x.k ≠ 2) ∨ 8 < x.l.length) → x.shaped = fc x.l := by
  intro hh
  rw [x.fT]
  have h1 : decide (x.n < 0) = false := Bool.eq_false_iff.2 (by simp only [ne_eq, decide_eq_true_eq]; omega)
  have h2 : (decide (x.k = 1) && decide (0 < x.l.length)) = false := Bool.eq_false_iff.2 (by simp only [ne_eq, Bool.and_eq_true, decide_eq_true_eq]; omega)
  have h3 : (decide (x.k ≠ 1) && decide (x.k ≠ 2)) = false := Bool.eq_false_iff.2 (by simp only [ne_eq, Bool.and_eq_true, decide_eq_true_eq]; omega)
  have h4 : decide (8 < x.l.length) = false := Bool.eq_false_iff.2 (by simp only [ne_eq, decide_eq_true_eq]; omega)
  rw [h1, h2, h3, h4]; rfl
 refine ⟨fun h => fin _ rfl (.inl h), fun h => ⟨fun h1 hl => ⟨fun h2 => fin _ rfl (by omega), fun h2 => ⟨fun h3 => fin _ rfl (by omega), fun h3 => ae (c53 211 _ _ ih) ?_⟩⟩,
  fun h1 => ⟨fun h2 => fin _ rfl (by omega), fun h2 hl => ⟨fun h3 => fin _ rfl (by omega), fun h3 => ae (c53 211 _ _ ih) ?_⟩⟩⟩⟩ <;>
 ·simp only [sZ, ↓reduceIte, reduceCtorEq]
  exact aW rfl (by rw [go (by omega), B2])
termination_by SizeOf.sizeOf x
decreasing_by exact T.lt hy
def T.tree (x : T) : Bool := !sU (fM x 1 (0, 0)) && x.shaped
theorem Y5 (x : T) : Pure Tryz.prog 108 [x.av] (.bool x.tree) := by
 refine fun H => L7.2.calls rfl ?_
 simp only [L7, aI]
 simp only [sZ, Nat.reduceEqDiff, Nat.reduceAdd, ↓reduceIte, reduceCtorEq]
 refine af (R5 H x 1 (0, 0) (by unfold oI; simp)) ?_
 rintro r H' ⟨rfl, rfl⟩
 simp only [sZ, Nat.reduceEqDiff, Nat.reduceAdd, ↓reduceIte]
 refine af (VN H (fM x 1 (0, 0))) ?_
 rintro r H' ⟨rfl, rfl⟩
 cases hb : sU (fM x 1 (0, 0)) <;> simp +contextual only [sZ, Nat.reduceEqDiff, Nat.reduceAdd, ↓reduceIte, reduceCtorEq]
 ·refine ae (VO x) ?_
  simp only [sZ, Nat.reduceEqDiff, ↓reduceIte, reduceCtorEq]
  exact JP rfl (by simp [T.tree, hb])
 ·exact JP rfl (by simp [T.tree, hb])
mutual
def gv : T → Int → Int → Int × Bool
 | .mk _ _ l, left, deep => if left - 1 < 0 ∨ 200 < deep then (left - 1, false) else lQ l (left - 1) (deep + 1)
def lQ : List T → Int → Int → Int × Bool
 | [], left, _ => (left, true)
 | x :: r, left, deep => if (gv x left deep).2 = true then lQ r (gv x left deep).1 deep else ((gv x left deep).1, false)
end
mutual
theorem zV : ∀ (x : T) (left deep : Int), (gv x left deep).1 ≤ left ∧ (0 ≤ left → -1 ≤ (gv x left deep).1 ∧ ((gv x left deep).2 = true → 0 ≤ (gv x left deep).1))
 | .mk k n l, left, deep => by
   simp only [gv]
   split
   ·simp; omega
   ·rename_i hn
    have := Fp l (left - 1) (deep + 1)
    exact ⟨by omega, fun _ => this.2 (by omega)⟩
theorem Fp : ∀ (l : List T) (left deep : Int), (lQ l left deep).1 ≤ left ∧ (0 ≤ left → -1 ≤ (lQ l left deep).1 ∧ ((lQ l left deep).2 = true → 0 ≤ (lQ l left deep).1))
 | [], left, deep => by simp [lQ]; omega
 | x :: r, left, deep => by
   have h1 := zV x left deep
   simp only [lQ]
   split
   ·rename_i hb
    have h2 := Fp r (gv x left deep).1 deep
    exact ⟨by omega, fun h0 => h2.2 ((h1.2 h0).2 hb)⟩
   ·exact ⟨h1.1, fun h0 => ⟨(h1.2 h0).1, fun e => by cases e⟩⟩
end
theorem Ho {l : List T} {i : Nat} {left d : Int} (h : i < l.length) : lQ (l.drop i) left d = if (gv (l.getD i default) left d).2 = true then lQ (l.drop (i + 1)) (gv (l.getD i default) left d).1 d else ((gv (l.getD i default) left d).1, false) := by
 rw [List.drop_eq_getElem_cons h]
 simp [lQ, h]
theorem VP (x : T) (left deep : Int) (h0 : 0 ≤ left) (h1 : left ≤ 100000) (h2 : 0 ≤ deep) (h3 : deep ≤ 201) :
 Pure Tryz.prog 214 [x.av, .int .i64 left, .int .i64 deep] (.tuple [.int .i64 (gv x left deep).1, .bool (gv x left deep).2]) := by
 have ih : ∀ y ∈ x.l, ∀ (left deep : Int), 0 ≤ left → left ≤ 100000 → 0 ≤ deep → deep ≤ 201 →
  Pure Tryz.prog 214 [y.av, .int .i64 left, .int .i64 deep] (.tuple [.int .i64 (gv y left deep).1, .bool (gv y left deep).2]) := fun y hy left deep h0 h1 h2 h3 => VP y left deep h0 h1 h2 h3
 have e : gv x left deep = if left - 1 < 0 ∨ 200 < deep then (left - 1, false) else lQ x.l (left - 1) (deep + 1) := by cases x; simp only [gv, T.l]
 have w1 : IntKind.i64.wrap (left - 1) = left - 1 := dY _ (by omega)
 have w2 : IntKind.i64.wrap (deep + 1) = deep + 1 := dY _ (by omega)
 refine fun H => U6.2.calls rfl ?_
 simp only [U6, aI]
 simp +contextual only [w1, sZ, Nat.reduceEqDiff, Nat.reduceAdd, ↓reduceIte, reduceCtorEq]
 refine ⟨fun h4 => ⟨fun h5 => BV (by decide) rfl rfl (by rw [e, if_pos (.inr h5)]; rfl) (by rw [e, if_pos (.inr h5)]; rfl), fun h5 => ?_⟩, fun h4 => BV (by decide) rfl rfl (by rw [e, if_pos (.inl h4)]; rfl) (by rw [e, if_pos (.inl h4)]; rfl)⟩
 have e2 : gv x left deep = lQ x.l (left - 1) (deep + 1) := by rw [e, if_neg (by omega)]
 refine aN x.l.length (fun i (s : Int) => 0 ≤ s ∧ s ≤ 100000 ∧ lQ (x.l.drop i) s (deep + 1) = gv x left deep)
  (fun i s => [(1, .int .i64 s), (2, .int .i64 deep), (3, x.av.ai), (8, .int .i64 i)]) (fun i s => H) (left - 1) ⟨⟨by omega, by omega, by rw [e2]; rfl⟩, aA _ _ _⟩ fun i s hi hI => ?_
 obtain ⟨k0, k1, hI⟩ := hI
 simp +contextual only [w2, sZ, Nat.reduceEqDiff, Nat.reduceAdd, ↓reduceIte, reduceCtorEq]
 intro hl
 refine ⟨fun aY => ⟨bZ aY, ?_⟩, fun iW => ?_⟩
 ·have aY := bZ aY
  rw [Ho aY] at hI
  have hle := zV (x.l.getD i default) s (deep + 1)
  refine ae (ih _ (iu aY) s (deep + 1) k0 k1 (by omega) (by omega)) ?_
  simp +contextual only [sZ, Nat.reduceEqDiff, Nat.reduceAdd, Nat.reduceLT, ↓reduceIte]
  refine qh (fun hb => ?_) (fun hb => ?_) <;> simp +contextual only [sZ, Nat.reduceEqDiff, ↓reduceIte, reduceCtorEq]
  ·rw [if_pos hb] at hI
   exact ⟨i + 1, _, ⟨aY, (hle.2 k0).2 hb, by omega, hI⟩, by omega, aG (by rw [au i (by omega)]) rfl⟩
  ·rw [if_neg (by rw [hb]; simp)] at hI
   exact BV (by decide) rfl rfl (by rw [← hI]; rfl) (by rw [← hI]; rfl)
 ·rw [List.drop_of_length_le (dl iW)] at hI
  exact BV (by decide) rfl rfl (by rw [← hI]; rfl) (by rw [← hI]; rfl)
termination_by SizeOf.sizeOf x
decreasing_by exact T.lt hy
theorem VQ (x : T) : Pure Tryz.prog 215 [x.av] (.bool x.shaped) := by
 have ih : ∀ y ∈ x.l, Pure Tryz.prog 215 [y.av] (.bool y.shaped) := fun y hy => VQ y
 refine fun H => U7.2.calls rfl ?_
 simp only [U7, aI]
 simp +contextual only [sZ, Nat.reduceEqDiff, Nat.reduceAdd, ↓reduceIte, reduceCtorEq, Int.reduceEq]
 have fin : ∀ (H' : List aa), H' = H → (x.n < 0 ∨ (x.k = 1 ∧ 0 < x.l.length) ∨ (x.k ≠ 1 ∧ x.k ≠ 2) ∨ 8 < x.l.length) → bT H.length [RX.t 2] [(2, AV.bool false)] H' fun r H' => r = AV.bool x.shaped ∧ H' = H := by
  rintro H' rfl hh
  refine aW rfl ?_
  rw [x.fT]
  rcases hh with h | h | h | h <;> simp [h]
 refine ⟨fun h => ⟨fun h1 => ⟨fun h2 hl => ⟨fun h3 => fin _ rfl (by omega), fun h3 => ?_⟩, fun h2 => fin _ rfl (by omega)⟩, fun h1 hl => ⟨fun h2 => ⟨fun h3 => fin _ rfl (by omega), fun h3 => ?_⟩, fun h2 => fin _ rfl (by omega)⟩⟩, fun h => fin _ rfl (by omega)⟩
 all_goals
  have go : x.shaped = fc x.l := T.Hn (by omega)
  refine aB x.l.length (fun i => fc (x.l.drop i) = x.shaped) (fun i => [(1, x.av.ai), (3, .int .i64 i)]) (fun i => H) ⟨by rw [go]; rfl, aA _ _ _⟩ fun i hi hI => ?_
  simp +contextual only [sZ, Nat.reduceEqDiff, Nat.reduceAdd, ↓reduceIte, reduceCtorEq]
  intro _
  refine ⟨fun aY => ⟨bZ aY, ?_⟩, fun iW => ?_⟩
  ·have aY := bZ aY
   rw [zU aY] at hI
   refine ae (ih _ (iu aY)) ?_
   simp +contextual only [sZ, Nat.reduceEqDiff, ↓reduceIte]
   refine qh (fun hb => ?_) (fun hb => ?_) <;> simp +contextual only [sZ, Nat.reduceEqDiff, ↓reduceIte, reduceCtorEq]
   ·exact ⟨i + 1, ⟨aY, by rw [hb] at hI; simpa using hI⟩, by omega, aG (by rw [au i (by omega)]) rfl⟩
   ·exact aW rfl (by rw [← hI, hb]; rfl)
  ·rw [List.drop_of_length_le (dl iW)] at hI
   exact aW rfl (by rw [← hI]; rfl)
termination_by SizeOf.sizeOf x
decreasing_by exact T.lt hy
theorem Y6 (x : T) : Pure Tryz.prog 175 [x.av] (.bool ((gv x 2000 1).2 && x.shaped)) := by
 refine fun H => UL.2.calls rfl ?_
 simp only [UL, aI]
 simp +contextual only [sZ, Nat.reduceEqDiff, Nat.reduceAdd, ↓reduceIte]
 refine ae (VP x 2000 1 (by omega) (by omega) (by omega) (by omega)) ?_
 cases hb : (gv x 2000 1).2 <;> simp +contextual only [sZ, Nat.reduceEqDiff, Nat.reduceAdd, Nat.reduceLT, ↓reduceIte, reduceCtorEq]
 ·exact aW rfl rfl
 ·refine ae (VQ x) ?_
  simp +contextual only [sZ, Nat.reduceEqDiff, ↓reduceIte, reduceCtorEq]
  exact aW rfl rfl
end Go.aK
end
section
set_option maxRecDepth 100000
namespace Go.aK
open Go Go.Proofs
mutual
def T.sz : T → Int
 | .mk _ _ l => 1 + Ea l
def Ea : List T → Int
 | [] => 0
 | x :: r => x.sz + Ea r
end
mutual
def T.dp : T → Int
 | .mk _ _ l => 1 + HY l
def HY : List T → Int
 | [] => 0
 | x :: r => max x.dp (HY r)
end
mutual
theorem T.Eb : ∀ x : T, 1 ≤ x.sz
 | .mk k n l => by simp only [T.sz]; have := qq l; omega
theorem qq : ∀ l : List T, 0 ≤ Ea l
 | [] => by simp [Ea]
 | x :: r => by simp only [Ea]; have := T.Eb x; have := qq r; omega
end
mutual
theorem T.zW : ∀ x : T, 1 ≤ x.dp
 | .mk k n l => by simp only [T.dp]; have := nZ l; omega
theorem nZ : ∀ l : List T, 0 ≤ HY l
 | [] => by simp [HY]
 | x :: r => by simp only [HY]; have := T.zW x; have := nZ r; omega
end
def ew (s : Int × Int) : Prop := 2000 < s.1 ∨ 200 < s.2
mutual
theorem rJ : ∀ (x : T) (d : Int) (s : Int × Int), oI d s → (¬ ew (fM x d s) ↔ s.1 + x.sz ≤ 2000 ∧ d + x.dp - 1 ≤ 200) ∧ (¬ ew (fM x d s) → (fM x d s).1 = s.1 + x.sz ∧ (fM x d s).2 = max s.2 (d + x.dp - 1))
 | .mk k n l, d, s, h => by
   obtain ⟨h1, h2, h3, h4, h5, h6⟩ := h
   simp only [fM, T.sz, T.dp]
   have hp := nZ l
   have ih := xW l (d + 1) (s.1 + 1, max s.2 d) (by unfold lP; simp only; omega) (by omega) (by simp only; omega)
   simp only at ih
   refine ⟨ih.1.trans ⟨fun k => ⟨by omega, by omega⟩, fun k => ⟨by omega, by omega, by omega⟩⟩, fun k => ?_⟩
   have k1 := ih.2 k
   have k2 := ih.1.1 k
   exact ⟨by omega, by omega⟩
theorem xW : ∀ (l : List T) (d : Int) (s : Int × Int), lP s → 0 ≤ d → d ≤ s.2 + 1 → (¬ ew (ku l d s) ↔ s.1 + Ea l ≤ 2000 ∧ s.2 ≤ 200 ∧ d + HY l - 1 ≤ 200) ∧ (¬ ew (ku l d s) → (ku l d s).1 = s.1 + Ea l ∧ (ku l d s).2 = max s.2 (d + HY l - 1))
 | [], d, s, h, h5, h6 => by
   simp only [ku, Ea, HY, ew]
   exact ⟨⟨fun k => ⟨by omega, by omega, by omega⟩, fun k => by omega⟩, fun k => ⟨by omega, by omega⟩⟩
 | x :: r, d, s, h, h5, h6 => by
   obtain ⟨h1, h2, h3, h4⟩ := h
   simp only [ku]
   have Ip := x.Eb
   have hd0 := x.zW
   have Yv := qq r
   have Yn := nZ r
   simp only [Ea, HY]
   by_cases ho : 2000 < s.1 ∨ 200 < s.2
   ·rw [if_pos ho]
    refine ⟨⟨fun k => absurd ho k, fun k => ?_⟩, fun k => absurd ho k⟩
    omega
   ·rw [if_neg ho]
    have jK : oI d s := ⟨h1, by omega, h3, by omega, h5, by omega⟩
    have hx := rJ x d s jK
    have VR := vr x d s jK
    have Pg := rH x d s
    have ih := xW r d (fM x d s) VR.1 h5 (by omega)
    generalize fM x d s = t at *
    by_cases XN : ew t
    ·have hn : ew (ku r d t) := by
      refine Classical.byContradiction fun hc => ?_
      have := ih.1.1 hc
      unfold ew at XN
      omega
     refine ⟨⟨fun k => absurd hn k, fun k => ?_⟩, fun k => absurd hn k⟩
     have := hx.1.2 (by omega)
     exact absurd XN this
    ·have k1 := hx.2 XN
     have k2 := hx.1.1 XN
     refine ⟨ih.1.trans ⟨fun k => ⟨by omega, by omega, by omega⟩, fun k => ⟨by omega, by omega, by omega⟩⟩, fun k => ?_⟩
     have k3 := ih.2 k
     exact ⟨by omega, by omega⟩
end
theorem rK (s : Int × Int) : sU s = true ↔ ew s := by simp [sU, ew]
mutual
theorem xX : ∀ (x : T) (left d : Int), 0 ≤ left → d ≤ 201 → ((gv x left d).2 = true ↔ x.sz ≤ left ∧ d + x.dp - 1 ≤ 200) ∧ ((gv x left d).2 = true → (gv x left d).1 = left - x.sz)
 | .mk k n l, left, d, h0, hd => by
   simp only [gv, T.sz, T.dp]
   have hp := nZ l
   have hs := qq l
   by_cases ho : left - 1 < 0 ∨ 200 < d
   ·rw [if_pos ho]
    refine ⟨⟨fun k => (by cases k), fun k => ?_⟩, fun k => (by cases k)⟩
    omega
   ·rw [if_neg ho]
    have ih := xY l (left - 1) (d + 1) (by omega) (by omega)
    exact ⟨ih.1.trans ⟨fun k => ⟨by omega, by omega⟩, fun k => ⟨by omega, by omega⟩⟩, fun k => by have := ih.2 k; omega⟩
theorem xY : ∀ (l : List T) (left d : Int), 0 ≤ left → d ≤ 201 → ((lQ l left d).2 = true ↔ Ea l ≤ left ∧ d + HY l - 1 ≤ 200) ∧ ((lQ l left d).2 = true → (lQ l left d).1 = left - Ea l)
 | [], left, d, h0, hd => by simp only [lQ, Ea, HY]; exact ⟨⟨fun _ => ⟨by omega, by omega⟩, fun _ => trivial⟩, fun _ => by omega⟩
 | x :: r, left, d, h0, hd => by
   simp only [lQ, Ea, HY]
   have Ip := x.Eb
   have hd0 := x.zW
   have Yv := qq r
   have Yn := nZ r
   have hx := xX x left d h0 hd
   have hle := zV x left d
   cases hb : (gv x left d).2 with
   | false =>
     rw [if_neg (by simp)]
     refine ⟨⟨fun k => (by cases k), fun k => ?_⟩, fun k => (by cases k)⟩
     have := hx.1.2 (by omega)
     rw [hb] at this; cases this
   | true =>
     rw [if_pos rfl]
     have k1 := hx.2 hb
     have k2 := hx.1.1 hb
     have ih := xY r (gv x left d).1 d ((hle.2 h0).2 hb) hd
     exact ⟨ih.1.trans ⟨fun k => ⟨by omega, by omega⟩, fun k => ⟨by omega, by omega⟩⟩, fun k => by have := ih.2 k; omega⟩
end
theorem T.kJ (x : T) : x.tree = true ↔ x.sz ≤ 2000 ∧ x.dp ≤ 200 ∧ x.shaped = true := by
 have h := (rJ x 1 (0, 0) (by unfold oI; simp)).1
 unfold T.tree
 rw [Bool.and_eq_true, Bool.not_eq_true', ← Bool.not_eq_true, rK]
 constructor
 ·rintro ⟨h1, h2⟩
  have := h.1 h1
  simp only at this
  exact ⟨by omega, by omega, h2⟩
 ·rintro ⟨h1, h2, h3⟩
  exact ⟨h.2 (by simp only; omega), h3⟩
theorem R6 (x : T) : ((gv x 2000 1).2 && x.shaped) = x.tree := by
 have h := (xX x 2000 1 (by omega) (by omega)).1
 rw [Bool.eq_iff_iff, Bool.and_eq_true, h, T.kJ]
 constructor
 ·rintro ⟨⟨h1, h2⟩, h3⟩; exact ⟨h1, by omega, h3⟩
 ·rintro ⟨h1, h2, h3⟩; exact ⟨⟨h1, by omega⟩, h3⟩
theorem VS (x : T) : Pure Tryz.prog 175 [x.av] (.bool x.tree) := by rw [← R6]; exact Y6 x
def ents (vs : List Int) : List (AV × AV) := vs.map fun v => (.int .i64 v, .bool true)
def oq : List Int → AV
 | [] => .ah
 | v :: r => .ap 1 (ints (v :: r))
theorem kK (vs : List Int) (n : Int) : AV.ap 1 (ints (vs ++ [n])) = oq (vs ++ [n]) := by
 cases vs <;> rfl
theorem vu (vs : List Int) (n : Int) (o : Nat) (ψ : List AV → Prop) : bE 1 8 (oq vs) (.ap o [.int .i64 n]) ψ = ((vs.length + 1) * 8 ≤ 140737488355328 ∧ ψ (ints (vs ++ [n]))) := by
 cases vs with
 | nil => simp [oq, nX, ok_int, ints]
 | cons v r =>
   show bE 1 8 (.ap 1 (ints (v :: r))) _ ψ = _
   rw [m8, ok_int, aw, rG]
   simp
end Go.aK
end
section
set_option maxRecDepth 100000
namespace Go.aK
open Go Go.Proofs
mutual
def VT (f : Int → T) : T → T
 | .mk k n l => if k = 1 then f n else .mk k n (Ph f l)
def Ph (f : Int → T) : List T → List T
 | [] => []
 | x :: r => VT f x :: Ph f r
end
def Ec : List T → AV
 | [] => .ah
 | v :: r => .ap 3 (bU (v :: r))
theorem JU (l : List T) (x : T) : bU l ++ [x.av] = bU (l ++ [x]) := by simp [hJ]
theorem Hp (vs : List T) (n : T) : AV.ap 3 (bU (vs ++ [n])) = Ec (vs ++ [n]) := by
 cases vs <;> rfl
theorem NH (b : Nat) (vs : List T) (n : T) (o : Nat) (ψ : List AV → Prop) : bE 3 b (Ec vs) (.ap o [n.av]) ψ = ((vs.length + 1) * b ≤ 140737488355328 ∧ ψ (bU (vs ++ [n]))) := by
 cases vs with
 | nil => simp [Ec, nX, R1, bU]
 | cons v r =>
   show bE 3 b (.ap 3 (bU (v :: r))) _ ψ = _
   rw [m8, R1, qo, JU]
   simp
theorem nk {x : T} (h : x.shaped = true) : x.l.length ≤ 8 ∧ ∀ y ∈ x.l, y.shaped = true := by
 rw [x.fT, Bool.and_eq_true, Bool.not_eq_true', Bool.or_eq_false_iff] at h
 have h1 := h.1.2
 have h2 := h.2
 rw [nj] at h2
 exact ⟨by simpa using h1, fun y hy => List.all_eq_true.1 h2 y hy⟩
end Go.aK
end
section
set_option maxRecDepth 100000
namespace Go.aK
open Go Go.Proofs
theorem rL (a b : Int) : tu b a = - tu a b := by unfold tu; split <;> split <;> (try split) <;> omega
def NI (a b : Int) : Int := if a ≠ 0 then a else b
theorem JV (a b : T) : a.cmp b = NI (tu a.k b.k) (NI (tu a.n b.n) (NI (tu a.l.length b.l.length) (vq a.l b.l))) := by
 cases a; cases b
 simp only [T.cmp, XL, T.k, T.n, T.l, NI]
 repeat' split
 all_goals first | rfl | simp_all
theorem xZ (x y : T) (r s : List T) : vq (x :: r) (y :: s) = NI (x.cmp y) (vq r s) := by simp only [vq, NI]
theorem tR {a b c d : Int} (h1 : a = -c) (h2 : b = -d) : NI a b = - NI c d := by unfold NI; repeat' split <;> omega
mutual
theorem T.JW : ∀ a b : T, b.cmp a = - a.cmp b
 | .mk k n l, .mk k' n' l' => by
   rw [JV, JV]
   exact tR (rL _ _) (tR (rL _ _) (tR (rL _ _) (x7 l l')))
theorem x7 : ∀ l m : List T, vq m l = - vq l m
 | [], [] => by simp [vq]
 | [], _ :: _ => by simp [vq]
 | _ :: _, [] => by simp [vq]
 | x :: r, y :: s => by rw [xZ, xZ]; exact tR (T.JW x y) (x7 r s)
end
mutual
theorem T.JX : ∀ a b : T, a.same b = true ↔ a = b
 | .mk k n l, .mk k' n' l' => by
   simp only [T.same, Bool.and_eq_true, beq_iff_eq, T.mk.injEq, rM l l', and_assoc]
theorem rM : ∀ l m : List T, fS l m = true ↔ l = m
 | [], [] => by simp [fS]
 | [], _ :: _ => by simp [fS]
 | _ :: _, [] => by simp [fS]
 | x :: r, y :: s => by simp only [fS, Bool.and_eq_true, T.JX x y, rM r s, List.cons.injEq]
end
end Go.aK
end
section
set_option maxRecDepth 100000
namespace Go.aK
open Go Go.RowKit
mutual
def T.wf : T → Prop
 | .mk k n l => (-9223372036854775808 ≤ k ∧ k ≤ 9223372036854775807) ∧ (-9223372036854775808 ≤ n ∧ n ≤ 9223372036854775807) ∧ l.length ≤ 9223372036854775807 ∧ R7 l
def R7 : List T → Prop
 | [] => True
 | x :: r => x.wf ∧ R7 r
end
theorem Fq : ∀ l : List T, R7 l ↔ ∀ x ∈ l, x.wf
 | [] => by simp [R7]
 | x :: r => by simp [R7, Fq r]
section
variable {H : Type} {enc : TypeId × Value → H} {P : Program} {w : World} {base : Nat} {sp : Nat → Bool} {held : Bool}
structure zX (P : Program) (ti tt tl : TypeId) : Prop where
 int : P.underlying ti = some (.int .i64)
 tree : ∃ f0 f1 f2 : Field, P.underlying tt = some (.struct #[f0, f1, f2]) ∧ f0.type = ti ∧ f0.offset = 0 ∧ f1.type = ti ∧ f1.offset = 1 ∧ f2.type = tl ∧ f2.offset = 2
 list : P.underlying tl = some (.slice tt)
 c1 : P.cellsOf ti = 1
 c3 : P.cellsOf tt = 3
 cl : P.cellsOf tl = 1
theorem JY {n : Int} (h : (Lit.int .i64 n).wf = true) : -9223372036854775808 ≤ n ∧ n ≤ 9223372036854775807 := by
 simp only [Lit.wf, Bool.and_eq_true, decide_eq_true_eq] at h
 revert h
 simp [IntKind.min, IntKind.max, IntKind.signed, IntKind.bits]
theorem Ed {n : Nat} {p : Nat → T → Prop} (h : ∀ i, i < n → ∃ t, p i t) : ∃ f : Nat → T, ∀ i, i < n → p i (f i) := by
 refine ⟨fun i => if hi : i < n then Classical.choose (h i hi) else default, fun i hi => ?_⟩
 simp only [dif_pos hi]
 exact Classical.choose_spec (h i hi)
def isT (w : World) (cs : List Value) (t : T) : Prop := aJ (fR w) [] cs t.av.cells ∧ t.wf
def R8 (w : World) (cs : List Value) (l : List T) : Prop := (∃ v, cs = [v] ∧ (∃ y, aR (fR w) [] v y ∧ (y = .ap 0 (bU l) ∨ (y = .ah ∧ l = [])))) ∧ l.length ≤ 9223372036854775807 ∧ R7 l
theorem R8.TH {cs : List Value} {l : List T} (h : R8 w cs l) : ∃ v, cs = [v] ∧ aR (fR w) [] v (.ap 0 (bU l)) := by
 obtain ⟨⟨v, rfl, y, hr, hy⟩, _⟩ := h
 refine ⟨v, rfl, ?_⟩
 rcases hy with rfl | ⟨rfl, rfl⟩
 ·exact hr
 ·exact hr.drop
def B3 (d : DataW H) (l : List T) : Prop := match d with | .slice es _ => l.length = es.length | _ => l = []
theorem Hq {ti tt tl : TypeId} (hT : zX P ti tt tl) : ∀ (fuel : Nat),
 (∀ (cs : List Value) (x : DataW H × List MemPlace), DataW.trod enc P w base sp held fuel tt cs = some x → ∃ t : T, isT w cs t) ∧
 (∀ (cs : List Value) (x : DataW H × List MemPlace), DataW.trod enc P w base sp held fuel tl cs = some x → ∃ l : List T, R8 w cs l ∧ B3 x.1 l) := by
 intro fuel
 induction fuel with
 | zero => exact ⟨fun cs x h => by simp [DataW.trod] at h, fun cs x h => by simp [DataW.trod] at h⟩
 | succ n ih =>
   refine ⟨fun cs x h => ?_, fun cs x h => ?_⟩
   ·obtain ⟨f0, f1, f2, hu, h0, o0, h1, o1, h2, o2⟩ := hT.tree
    obtain ⟨xs, m, hm, rfl, hlen, fp, hf⟩ := DataW.trod_struct hu h
    cases hm
    have g0 := hf 0 f0 rfl
    have g1 := hf 1 f1 rfl
    have g2 := hf 2 f2 rfl
    rw [h0, o0, hT.c1] at g0
    rw [h1, o1, hT.c1] at g1
    rw [h2, o2, hT.cl] at g2
    simp at fp
    rw [hT.c3] at hlen
    match cs, hlen with
    | [a, b, c], _ =>
      have e0 : xs[0]? = some xs[0] := by simp [fp]
      have e1 : xs[1]? = some xs[1] := by simp [fp]
      have e2 : xs[2]? = some xs[2] := by simp [fp]
      rw [e0] at g0; rw [e1] at g1; rw [e2] at g2
      obtain ⟨k, ek, _, wk⟩ := DataW.trod_int hT.int g0
      obtain ⟨q, eq, _, wq⟩ := DataW.trod_int hT.int g1
      obtain ⟨l, hl, _⟩ := ih.2 _ _ g2
      obtain ⟨v, ev, hv⟩ := hl.TH
      simp at ek eq ev
      subst ek eq ev
      exact ⟨.mk k q l, .cons _ _ _ _ (.int _ _) (.cons _ _ _ _ (.int _ _) (.cons _ _ _ _ hv .nil)), JY wk, JY wq, hl.2.1, hl.2.2⟩
   ·rcases DataW.trod_slice hT.list h with ⟨rfl, rfl⟩ | ⟨a, len, cap, elems, rest, m, hm, rfl, rfl, hb, hle, cF, Tb, ji, _, _⟩
    ·exact ⟨[], ⟨⟨_, rfl, .ah, .ah, .inr ⟨rfl, rfl⟩⟩, by simp, trivial⟩, rfl⟩
    cases hm
    rw [hT.c3] at ji
    have hex : ∀ i, i < len → ∃ t : T, ∃ cs', w.cells? base (a.add (i * 3)) 3 = some cs' ∧ isT w cs' t := by
     intro i hi
     have := ji i hi
     rw [List.getElem?_eq_getElem (by omega)] at this
     obtain ⟨cs', k1, k2⟩ := Option.bind_eq_some_iff.1 this
     obtain ⟨t, ht⟩ := ih.1 _ _ k2
     exact ⟨t, cs', k1, ht⟩
    obtain ⟨f, hf⟩ := Ed hex
    have Ta : maxLen = 9223372036854775807 := rfl
    refine ⟨(List.range len).map f, ⟨⟨_, rfl, _, ?_, .inl rfl⟩, by simp; omega, ?_⟩, by simp [B3, Tb]⟩
    ·rw [hJ, List.map_map]
     refine xQ (e := 3) (base := base) (by decide) hle cF (fun i => if hi : i < len then Classical.choose (hf i hi) else []) _ fun i hi => ?_
     simp only [dif_pos hi]
     obtain ⟨k1, k2⟩ := Classical.choose_spec (hf i hi)
     exact ⟨k1, k2.1⟩
    ·rw [Fq]
     intro x hx
     obtain ⟨i, hi, rfl⟩ := List.mem_map.1 hx
     obtain ⟨cs', _, k2⟩ := hf i (List.mem_range.1 hi)
     exact k2.2
theorem NJ {ti tt tl : TypeId} (hT : zX P ti tt tl) {r : Reach} {b0 : Nat} {v : Value} {d : DataW H} {ps : List MemPlace} (lh : Value.okWide P w r b0 tl v) (hd : DataW.Trod enc P w base sp held tl v d ps) :
 ∃ l : List T, aR (fR w) [] v (.ap 0 (bU l)) ∧ B3 d l ∧ R7 l := by
 obtain ⟨a, len, cap, rfl⟩ := WideShapes.okWide_slice hT.list lh
 obtain ⟨fuel, hf⟩ := hd
 obtain ⟨l, hl, hlen⟩ := (Hq hT fuel).2 _ _ hf
 obtain ⟨v, hv, hr⟩ := hl.TH
 simp [Value.cells] at hv
 subst hv
 exact ⟨l, hr, hlen, hl.2.2⟩
theorem NK {ti tt tl : TypeId} (hT : zX P ti tt tl) {ts : List TypeId} {ds : List (DataW H)} (h : (DataW.weightsEach P ts ds).all (· ≤ reachBytes) = true) {j : Nat} {d : DataW H} {l : List T} (ht : ts[j]? = some tl) (hd : ds[j]? = some d) (hl : B3 d l) :
 l.length * P.bytesOf tt ≤ reachBytes := by
 unfold B3 at hl
 split at hl
 ·rename_i es sp
  have := sized_slice h ht hd hT.list
  rw [hl]
  exact Nat.le_trans (Nat.mul_le_mul_right _ (Nat.le_add_right _ _)) this
 ·subst hl; simp
end
end Go.aK
end
section
end
section
set_option maxRecDepth 100000
namespace Go.aK
open Go Go.Proofs
end Go.aK
end
section
set_option maxRecDepth 100000
namespace Go.aK
open Go Go.Proofs
def x8 (t : T) : Int × Int := if t.sz ≤ 2000 ∧ t.dp ≤ 200 then (t.sz, t.dp) else (2001, 201)
theorem Y7 (t : T) : (¬ ew (fM t 1 (0, 0)) ↔ t.sz ≤ 2000 ∧ t.dp ≤ 200) ∧ (¬ ew (fM t 1 (0, 0)) → fM t 1 (0, 0) = (t.sz, t.dp)) := by
 have h := rJ t 1 (0, 0) (by unfold oI; simp)
 have hd := t.zW
 refine ⟨h.1.trans ⟨fun k => ⟨by omega, by omega⟩, fun k => ⟨by simp only; omega, by omega⟩⟩, fun k => ?_⟩
 have := h.2 k
 exact Prod.ext (by simpa using this.1) (by have := this.2; simp only at this ⊢; omega)
theorem adN (t : T) : Pure Tryz.prog 122 [t.av] (.tuple [.int .i64 (x8 t).1, .int .i64 (x8 t).2]) := by
 refine fun H => Uk.2.calls rfl ?_
 simp only [Uk, aI]
 simp +contextual only [sZ, Nat.reduceEqDiff, Nat.reduceAdd, ↓reduceIte, reduceCtorEq]
 refine af (R5 H t 1 (0, 0) (by unfold oI; simp)) ?_
 rintro r H' ⟨rfl, rfl⟩
 simp +contextual only [sZ, Nat.reduceEqDiff, Nat.reduceAdd, ↓reduceIte]
 refine af (VN H (fM t 1 (0, 0))) ?_
 rintro r H' ⟨rfl, rfl⟩
 have h0 := Y7 t
 cases hb : sU (fM t 1 (0, 0)) with
 | true =>
   have hn : ¬ (t.sz ≤ 2000 ∧ t.dp ≤ 200) := fun h => h0.1.2 h ((rK _).1 hb)
   simp +contextual only [ey, sZ, Nat.reduceEqDiff, ↓reduceIte, reduceCtorEq]
   exact xN (by decide) rfl rfl (by rw [x8, if_neg hn]; rfl) (by rw [x8, if_neg hn]; rfl)
 | false =>
   have hn : ¬ ew (fM t 1 (0, 0)) := fun h => by rw [(rK _).2 h] at hb; cases hb
   have h1 := h0.1.1 hn
   rw [h0.2 hn]
   simp +contextual only [ey, sZ, Nat.reduceEqDiff, Nat.reduceAdd, Nat.reduceLT, ↓reduceIte, reduceCtorEq]
   exact xN (by decide) rfl rfl (by rw [x8, if_pos h1]; rfl) (by rw [x8, if_pos h1]; rfl)
theorem Y8 (a b : List Int) (o o' : Nat) : Pure Tryz.prog 198 [.ap o (ints a), .ap o' (ints b)] (.bool (decide (a = b))) := by
 refine fun H => UX.2.calls rfl ?_
 simp only [UX, aI]
 simp +contextual only [sZ, Nat.reduceEqDiff, Nat.reduceAdd, ↓reduceIte, reduceCtorEq]
 refine fun _ _ => ⟨fun dS => aW rfl ?_, fun hl => ?_⟩
 ·rw [decide_eq_false]
  intro h; subst h; exact dS rfl
 have hl : a.length = b.length := by omega
 refine aB a.length (fun i => decide (a.drop i = b.drop i) = decide (a = b)) (fun i => [(0, .ap o (ints a)), (1, .ap o' (ints b)), (5, .int .i64 i)]) (fun i => H) ⟨rfl, aA _ _ _⟩ fun i hi hI => ?_
 simp +contextual only [sZ, Nat.reduceEqDiff, ↓reduceIte, reduceCtorEq]
 intro _
 refine ⟨fun aY => ⟨bZ aY, ?_⟩, fun iW => ?_⟩
 ·have aY := bZ aY
  have Hl : i < b.length := by omega
  rw [List.drop_eq_getElem_cons aY, List.drop_eq_getElem_cons Hl] at hI
  have e1 : a.getD i 0 = a[i] := by simp [aY]
  have e2 : b.getD i 0 = b[i] := by simp [Hl]
  rw [e1, e2]
  refine ⟨Hl, fun dS => aW rfl ?_, fun he => ⟨i + 1, ⟨aY, ?_⟩, by omega, aG (by rw [au i (by omega)]) rfl⟩⟩
  ·rw [← hI, decide_eq_false]
   intro h; exact dS (List.cons.inj h).1
  ·rw [← hI, he]
   exact decide_eq_decide.2 (by rw [List.cons.injEq]; simp only [true_and])
 ·have iW := dl iW
  rw [List.drop_of_length_le iW, List.drop_of_length_le (by omega)] at hI
  exact aW rfl (by rw [← hI]; rfl)
theorem R9 (l : List T) : ta 3 (bU l) = True := by
 simp only [ta, eq_iff_iff, iff_true]
 intro y hy
 rw [hJ] at hy
 obtain ⟨z, _, rfl⟩ := List.mem_map.1 hy
 exact ⟨z.gr, z.pc⟩
end Go.aK
end
section
set_option maxRecDepth 100000
namespace Go.aK
open Go Go.Proofs
def sub (l : List T) (t : T) : T := VT (fun n => l.getD n.toNat default) t
end Go.aK
end
section
namespace Go.fq
open Go.aK
mutual
def code : T → List Int
 | .mk k n l => k :: n :: (l.length : Int) :: x9 l
def x9 : List T → List Int
 | [] => []
 | x :: r => code x ++ x9 r
end
mutual
theorem B4 : ∀ (a b : T) (r s : List Int), code a ++ r = code b ++ s → a = b ∧ r = s
 | .mk k n l, .mk k' n' l', r, s, h => by
   simp only [code, List.cons_append, List.cons.injEq] at h
   obtain ⟨h1, h2, h3, h4⟩ := h
   obtain ⟨h5, h6⟩ := ya l l' r s (by omega) h4
   exact ⟨by rw [h1, h2, h5], h6⟩
theorem ya : ∀ (l m : List T) (r s : List Int), l.length = m.length → x9 l ++ r = x9 m ++ s → l = m ∧ r = s
 | [], [], r, s, _, h => ⟨rfl, by simpa [x9] using h⟩
 | x :: l, y :: m, r, s, hl, h => by
   simp only [x9, List.append_assoc] at h
   obtain ⟨h1, h2⟩ := B4 x y _ _ h
   obtain ⟨h3, h4⟩ := ya l m r s (by simpa using hl) h2
   exact ⟨by rw [h1, h3], h4⟩
 | [], _ :: _, _, _, h, _ => by simp at h
 | _ :: _, [], _, _, h, _ => by simp at h
end
theorem Ft {a b : T} (h : code a = code b) : a = b := (B4 a b [] [] (by rw [h])).1
instance : DecidableEq T := fun a b => decidable_of_iff (code a = code b) ⟨Ft, fun h => by rw [h]⟩
def Az (a b : T) : Prop := code a ≤ code b
instance (a b : T) : Decidable (Az a b) := inferInstanceAs (Decidable (code a ≤ code b))
theorem B5 {a b : T} (h1 : Az a b) (h2 : Az b a) : a = b := Ft (List.le_antisymm h1 h2)
theorem yb (a b : T) : Az a b ∨ Az b a := List.le_total _ _
theorem yc {a b c : T} (h1 : Az a b) (h2 : Az b c) : Az a c := List.le_trans h1 h2
def ins (x : T) : List T → List T
 | [] => [x]
 | y :: r => if Az x y then x :: y :: r else y :: ins x r
def py : List T → List T
 | [] => []
 | x :: r => ins x (py r)
theorem B6 (x : T) : ∀ l, (ins x l).Perm (x :: l)
 | [] => List.Perm.refl _
 | y :: r => by
   simp only [ins]
   split
   ·exact List.Perm.refl _
   ·exact ((B6 x r).cons y).trans (List.Perm.swap _ _ _)
theorem kL : ∀ l, (py l).Perm l
 | [] => List.Perm.refl _
 | x :: r => (B6 x _).trans ((kL r).cons x)
theorem B7 (x y : T) : ∀ l, ins x (ins y l) = ins y (ins x l)
 | [] => by
   simp only [ins]
   by_cases h1 : Az x y <;> by_cases h2 : Az y x <;> simp only [h1, h2, if_true, if_false]
   ·rw [B5 h1 h2]
   ·rcases yb x y with h | h
    ·exact absurd h h1
    ·exact absurd h h2
 | z :: r => by
   simp only [ins]
   by_cases hx : Az x z <;> by_cases hy : Az y z <;> simp only [hx, hy, if_true, if_false, ins]
   ·by_cases h1 : Az x y <;> by_cases h2 : Az y x <;> simp only [h1, h2, if_true, if_false]
    ·rw [B5 h1 h2]
    ·rcases yb x y with h | h
     ·exact absurd h h1
     ·exact absurd h h2
   ·have h2 : ¬ Az y x := fun h => hy (yc h hx)
    simp only [h2, if_false]
   ·have h2 : ¬ Az x y := fun h => hx (yc h hy)
    simp only [h2, if_false]
   ·rw [B7 x y r]
theorem Sa {l m : List T} (h : l.Perm m) : py l = py m := by
 induction h with
 | nil => rfl
 | cons x _ ih => simp only [py, ih]
 | swap x y l => simp only [py]; exact B7 _ _ _
 | trans _ _ h1 h2 => rw [h1, h2]
theorem Fu {l m : List T} : py l = py m ↔ l.Perm m := ⟨fun h => (kL l).symm.trans (h ▸ kL m), Sa⟩
theorem NL {x : T} {l : List T} : x ∈ py l ↔ x ∈ l := (kL l).mem_iff
mutual
def wt : T → Nat
 | .mk _ _ l => 1 + gG l
def gG : List T → Nat
 | [] => 0
 | x :: r => wt x + gG r
end
theorem Fv {x : T} : ∀ {l : List T}, x ∈ l → wt x ≤ gG l
 | y :: r, h => by
   simp only [gG]
   rcases List.mem_cons.1 h with rfl | h
   ·omega
   ·have := Fv h; omega
theorem gA (a : T) : 0 < wt a := by cases a; simp only [wt]; omega
theorem cK {a x : T} (h : x ∈ a.l) : wt x < wt a := by
 cases a with
 | mk k n l => have := Fv (l := l) h; simp only [wt]; omega
structure Od where
 pl : Int → Int
 sp : Int → Int
mutual
def norm (O : Od) : T → T
 | .mk k n l => if k = 2 then .mk 2 (O.pl n) (if O.sp (O.pl n) = 3 then py (B8 O l) else B8 O l) else .mk 1 n []
def B8 (O : Od) : List T → List T
 | [] => []
 | x :: r => norm O x :: B8 O r
end
theorem yd (O : Od) : ∀ l, B8 O l = l.map (norm O)
 | [] => rfl
 | x :: r => by simp [B8, yd O r]
def Lx (G : T → T → Prop) : List T → List T → Prop
 | [], _ => False
 | _ :: _, [] => True
 | x :: l, y :: m => x = y ∧ Lx G l m ∨ G x y
def side (s : Int) (l : List T) : List T := if s = 2 then l.reverse else l
def Mu (G : T → T → Prop) (l m : List T) : Prop :=
 (∃ x ∈ l, m.count x < l.count x) ∧ ∀ y ∈ m, l.count y < m.count y → ∃ x ∈ l, m.count x < l.count x ∧ G x y
def Fm (sp : Int → Int) (G : T → T → Prop) (a b : T) : Prop :=
 a.k = 2 ∧ ((∃ x ∈ a.l, x = b ∨ G x b) ∨ b.k = 2 ∧ (
  (b.n < a.n ∧ ∀ y ∈ b.l, G a y) ∨
  (b.n = a.n ∧ sp a.n ≠ 3 ∧ (∀ y ∈ b.l, G a y) ∧ Lx G (side (sp a.n) a.l) (side (sp a.n) b.l)) ∨
  (b.n = a.n ∧ sp a.n = 3 ∧ Mu G a.l b.l)))
theorem kM {s : Int} {l : List T} {x : T} : x ∈ side s l ↔ x ∈ l := by unfold side; split <;> simp
theorem B9 {G G' : T → T → Prop} : ∀ {l m : List T}, (∀ x ∈ l, ∀ y ∈ m, (G x y ↔ G' x y)) → (Lx G l m ↔ Lx G' l m)
 | [], _, _ => Iff.rfl
 | _ :: _, [], _ => Iff.rfl
 | x :: l, y :: m, h => by
   simp only [Lx]
   rw [B9 (fun x hx y hy => h x (List.mem_cons_of_mem _ hx) y (List.mem_cons_of_mem _ hy)), h x List.mem_cons_self y List.mem_cons_self]
theorem Ca {sp : Int → Int} {G G' : T → T → Prop} {a b : T} (h1 : ∀ x ∈ a.l, (G x b ↔ G' x b)) (h2 : ∀ y ∈ b.l, (G a y ↔ G' a y)) (h3 : ∀ x ∈ a.l, ∀ y ∈ b.l, (G x y ↔ G' x y)) :
 Fm sp G a b ↔ Fm sp G' a b := by
 have e1 : (∃ x ∈ a.l, x = b ∨ G x b) ↔ (∃ x ∈ a.l, x = b ∨ G' x b) := ⟨fun ⟨x, hx, h⟩ => ⟨x, hx, by rwa [← h1 x hx]⟩, fun ⟨x, hx, h⟩ => ⟨x, hx, by rwa [h1 x hx]⟩⟩
 have e2 : (∀ y ∈ b.l, G a y) ↔ (∀ y ∈ b.l, G' a y) := ⟨fun h y hy => (h2 y hy).1 (h y hy), fun h y hy => (h2 y hy).2 (h y hy)⟩
 have e3 : Lx G (side (sp a.n) a.l) (side (sp a.n) b.l) ↔ Lx G' (side (sp a.n) a.l) (side (sp a.n) b.l) := B9 fun x hx y hy => h3 x (kM.1 hx) y (kM.1 hy)
 have e4 : Mu G a.l b.l ↔ Mu G' a.l b.l := by
  unfold Mu
  refine and_congr Iff.rfl ⟨fun h y hy hc => ?_, fun h y hy hc => ?_⟩ <;> obtain ⟨x, hx, Gl, hg⟩ := h y hy hc
  ·exact ⟨x, hx, Gl, (h3 x hx y hy).1 hg⟩
  ·exact ⟨x, hx, Gl, (h3 x hx y hy).2 hg⟩
 unfold Fm
 rw [e1, e2, e3, e4]
def Lr (sp : Int → Int) : Nat → T → T → Prop
 | 0 => fun _ _ => False
 | f + 1 => Fm sp (Lr sp f)
def Gt (sp : Int → Int) (a b : T) : Prop := Lr sp (wt a + wt b) a b
theorem fN (sp : Int → Int) : ∀ (f g : Nat) (a b : T), wt a + wt b ≤ f → wt a + wt b ≤ g → (Lr sp f a b ↔ Lr sp g a b)
 | 0, _, a, b, h, _ => by have := gA a; omega
 | _ + 1, 0, a, b, _, h => by have := gA a; omega
 | f + 1, g + 1, a, b, h1, h2 => by
   simp only [Lr]
   refine Ca (fun x hx => ?_) (fun y hy => ?_) (fun x hx y hy => ?_)
   ·have := cK hx; exact fN sp f g x b (by omega) (by omega)
   ·have := cK hy; exact fN sp f g a y (by omega) (by omega)
   ·have := cK hx; have := cK hy; exact fN sp f g x y (by omega) (by omega)
theorem vv {sp : Int → Int} {a b : T} : Gt sp a b ↔ Fm sp (Gt sp) a b := by
 have e : Lr sp (wt a + wt b) a b ↔ Lr sp (wt a + wt b + 1) a b := fN sp _ _ a b (by omega) (by omega)
 unfold Gt
 rw [e]
 show Fm sp (Lr sp (wt a + wt b)) a b ↔ _
 refine Ca (fun x hx => ?_) (fun y hy => ?_) (fun x hx y hy => ?_)
 ·have := cK hx; exact fN sp _ _ x b (by omega) (by omega)
 ·have := cK hy; exact fN sp _ _ a y (by omega) (by omega)
 ·have := cK hx; have := cK hy; exact fN sp _ _ x y (by omega) (by omega)
section
variable {sp : Int → Int}
theorem ye {a b : T} (h : Gt sp a b) : a.k = 2 := (vv.1 h).1
theorem pd {a b x : T} (ha : a.k = 2) (hx : x ∈ a.l) (h : x = b ∨ Gt sp x b) : Gt sp a b := vv.2 ⟨ha, .inl ⟨x, hx, h⟩⟩
theorem mf {l m : List T} {x : T} (h : m.count x < l.count x) : x ∈ l := List.count_pos_iff.1 (by omega)
theorem qt {a b : T} (h : Gt sp a b) : (∃ x ∈ a.l, x = b ∨ Gt sp x b) ∨ b.k = 2 ∧ (∀ y ∈ b.l, Gt sp a y) ∧ (
 b.n < a.n ∨ (b.n = a.n ∧ sp a.n ≠ 3 ∧ Lx (Gt sp) (side (sp a.n) a.l) (side (sp a.n) b.l)) ∨ (b.n = a.n ∧ sp a.n = 3 ∧ Mu (Gt sp) a.l b.l)) := by
 obtain ⟨ha, h | ⟨hb, h | h | h⟩⟩ := vv.1 h
 ·exact .inl h
 ·exact .inr ⟨hb, h.2, .inl h.1⟩
 ·exact .inr ⟨hb, h.2.2.1, .inr (.inl ⟨h.1, h.2.1, h.2.2.2⟩)⟩
 ·refine .inr ⟨hb, fun y hy => ?_, .inr (.inr h)⟩
  obtain ⟨_, _, _, h2⟩ := h
  by_cases hc : a.l.count y < b.l.count y
  ·obtain ⟨x, hx, _, hg⟩ := h2 y hy hc
   exact pd ha hx (.inr hg)
  ·have : 0 < b.l.count y := List.count_pos_iff.2 hy
   exact pd ha (List.count_pos_iff.1 (by omega)) (.inl rfl)
theorem VU {a b : T} (ha : a.k = 2) (hb : b.k = 2) (h1 : ∀ y ∈ b.l, Gt sp a y) (h2 : b.n < a.n ∨ (b.n = a.n ∧ sp a.n ≠ 3 ∧ Lx (Gt sp) (side (sp a.n) a.l) (side (sp a.n) b.l)) ∨ (b.n = a.n ∧ sp a.n = 3 ∧ Mu (Gt sp) a.l b.l)) : Gt sp a b := by
 refine vv.2 ⟨ha, .inr ⟨hb, ?_⟩⟩
 rcases h2 with h | h | h
 ·exact .inl ⟨h, h1⟩
 ·exact .inr (.inl ⟨h.1, h.2.1, h1, h.2.2⟩)
 ·exact .inr (.inr h)
theorem NM : ∀ {a b y : T}, Gt sp a b → b.k = 2 → y ∈ b.l → Gt sp a y := by
 intro a
 induction h : wt a using Nat.strongRecOn generalizing a with
 | _ n ih =>
   intro b y Cb hb hy
   rcases qt Cb with ⟨x, hx, rfl | hg⟩ | ⟨_, h1, _⟩
   ·exact pd (ye Cb) hx (.inr (pd hb hy (.inl rfl)))
   ·exact pd (ye Cb) hx (.inr (ih _ (by have := cK hx; omega) rfl hg hb hy))
   ·exact h1 y hy
theorem JZ {G : T → T → Prop} : ∀ {l : List T}, Lx G l l → ∃ x ∈ l, G x x
 | x :: l, h => by
   rcases h with ⟨_, h⟩ | h
   ·obtain ⟨y, hy, hg⟩ := JZ h; exact ⟨y, List.mem_cons_of_mem _ hy, hg⟩
   ·exact ⟨x, List.mem_cons_self, h⟩
theorem zY : ∀ a : T, ¬ Gt sp a a := by
 intro a
 induction h : wt a using Nat.strongRecOn generalizing a with
 | _ n ih =>
   intro hg
   rcases qt hg with ⟨x, hx, rfl | NN⟩ | ⟨_, _, h1 | ⟨_, _, h1⟩ | ⟨_, _, h1⟩⟩
   ·have := cK hx; omega
   ·exact ih (wt x) (by have := cK hx; omega) x rfl (NM NN (ye hg) hx)
   ·omega
   ·obtain ⟨x, hx, NN⟩ := JZ h1
    have hx := kM.1 hx
    exact ih (wt x) (by have := cK hx; omega) x rfl NN
   ·obtain ⟨⟨x, _, hx⟩, _⟩ := h1; omega
theorem J0 {G : T → T → Prop} {S : List T} (irr : ∀ x ∈ S, ¬ G x x) (tr : ∀ x ∈ S, ∀ y ∈ S, ∀ z ∈ S, G x y → G y z → G x z) (P : T → Prop)
 (step : ∀ z ∈ S, (∀ x ∈ S, G x z → P x) → P z) : ∀ z ∈ S, P z := by
 classical
 intro z
 induction h : S.countP (fun w => decide (G w z)) using Nat.strongRecOn generalizing z with
 | _ n ih =>
   intro hz
   refine step z hz fun x hx hg => ih (S.countP fun w => decide (G w x)) ?_ x rfl hx
   subst h
   have key : ∀ (l : List T), (∀ w ∈ l, w ∈ S) → l.countP (fun w => decide (G w x)) ≤ l.countP (fun w => decide (G w z)) ∧ (x ∈ l → l.countP (fun w => decide (G w x)) < l.countP (fun w => decide (G w z))) := by
    intro l
    induction l with
    | nil => intro _; exact ⟨Nat.le_refl _, fun h => by cases h⟩
    | cons w l ihl =>
      intro hl
      obtain ⟨i1, i2⟩ := ihl fun w hw => hl w (List.mem_cons_of_mem _ hw)
      have hw := hl w List.mem_cons_self
      by_cases h1 : G w x
      ·have h2 : G w z := tr w hw x hx z hz h1 hg
       have dS : x ≠ w := fun e => irr x hx (by rw [← e] at h1; exact h1)
       simp only [List.countP_cons, h1, h2, decide_true, if_true]
       refine ⟨by omega, fun hm => ?_⟩
       rcases List.mem_cons.1 hm with e | hm
       ·exact absurd e dS
       ·have := i2 hm; omega
      ·by_cases h2 : G w z
       ·simp only [List.countP_cons, h1, h2, decide_true, decide_false, if_true]
        refine ⟨by simp; omega, fun _ => by simp; omega⟩
       ·have dS : x ≠ w := fun e => h2 (e ▸ hg)
        simp only [List.countP_cons, h1, h2, decide_false]
        refine ⟨by simpa using i1, fun hm => ?_⟩
        rcases List.mem_cons.1 hm with e | hm
        ·exact absurd e dS
        ·simpa using i2 hm
   exact (key S fun _ h => h).2 hx
theorem J1 {G : T → T → Prop} {l m k : List T} (irr : ∀ x ∈ l ++ m ++ k, ¬ G x x) (tr : ∀ x ∈ l ++ m ++ k, ∀ y ∈ l ++ m ++ k, ∀ z ∈ l ++ m ++ k, G x y → G y z → G x z)
 (h1 : Mu G l m) (h2 : Mu G m k) : Mu G l k := by
 have il : ∀ {x}, x ∈ l → x ∈ l ++ m ++ k := fun h => by simp [h]
 have im : ∀ {x}, x ∈ m → x ∈ l ++ m ++ k := fun h => by simp [h]
 have ik : ∀ {x}, x ∈ k → x ∈ l ++ m ++ k := fun h => by simp [h]
 have up : ∀ z ∈ l ++ m ++ k, (l.count z < m.count z ∨ m.count z < k.count z) → ∃ x ∈ l, k.count x < l.count x ∧ G x z := by
  refine J0 irr tr _ fun z hz ih hc => ?_
  rcases hc with hc | hc
  ·obtain ⟨x1, sE, OA, HT⟩ := h1.2 z (mf hc) hc
   by_cases hk : k.count x1 < l.count x1
   ·exact ⟨x1, sE, hk, HT⟩
   ·obtain ⟨x, hx, oo, hg⟩ := ih x1 (il sE) HT (.inr (by omega))
    exact ⟨x, hx, oo, tr x (il hx) x1 (il sE) z hz hg HT⟩
  ·obtain ⟨x1, sE, OA, HT⟩ := h2.2 z (mf hc) hc
   by_cases hk : l.count x1 < m.count x1
   ·obtain ⟨x, hx, oo, hg⟩ := ih x1 (im sE) HT (.inl hk)
    exact ⟨x, hx, oo, tr x (il hx) x1 (im sE) z hz hg HT⟩
   ·exact ⟨x1, List.count_pos_iff.1 (by omega), by omega, HT⟩
 constructor
 ·obtain ⟨x0, Ip, LC⟩ := h1.1
  by_cases hk : k.count x0 < l.count x0
  ·exact ⟨x0, Ip, hk⟩
  ·obtain ⟨x, hx, hc, _⟩ := up x0 (il Ip) (.inr (by omega))
   exact ⟨x, hx, hc⟩
 ·intro y hy hc
  refine up y (ik hy) ?_
  by_cases h : l.count y < m.count y
  ·exact .inl h
  ·exact .inr (by omega)
theorem Cc {G : T → T → Prop} : ∀ {l m k : List T}, (∀ x ∈ l, ∀ y ∈ m, ∀ z ∈ k, G x y → G y z → G x z) → Lx G l m → Lx G m k → Lx G l k
 | [], _, _, _, h, _ => h.elim
 | _ :: _, [], _, _, _, h => h.elim
 | _ :: _, _ :: _, [], _, _, _ => trivial
 | x :: l, y :: m, z :: k, tr, h1, h2 => by
   have ih := @Cc G l m k fun x hx y hy z hz => tr x (List.mem_cons_of_mem _ hx) y (List.mem_cons_of_mem _ hy) z (List.mem_cons_of_mem _ hz)
   rcases h1 with ⟨rfl, h1⟩ | h1 <;> rcases h2 with ⟨rfl, h2⟩ | h2
   ·exact .inl ⟨rfl, ih h1 h2⟩
   ·exact .inr h2
   ·exact .inr h1
   ·exact .inr (tr x List.mem_cons_self y List.mem_cons_self z List.mem_cons_self h1 h2)
theorem zZ : ∀ (N : Nat) {a b c : T}, wt a ≤ N → wt b ≤ N → wt c ≤ N → Gt sp a b → Gt sp b c → Gt sp a c := by
 intro N
 induction N with
 | zero => intro a b c h; have := gA a; omega
 | succ N ihN =>
 intro a b c
 induction h : wt a + wt b + wt c using Nat.strongRecOn generalizing a b c with
 | _ n ih =>
   intro la lb lc Cb Pj
   rcases qt Cb with ⟨x, hx, rfl | hg⟩ | ⟨hb, h1, h2⟩
   ·exact pd (ye Cb) hx (.inr Pj)
   ·have := cK hx
    exact pd (ye Cb) hx (.inr (ih (wt x + wt b + wt c) (by omega) rfl (by omega) lb lc hg Pj))
   rcases qt Pj with ⟨y, hy, rfl | hg⟩ | ⟨hc, h3, h4⟩
   ·exact h1 y hy
   ·have := cK hy
    exact ih (wt a + wt y + wt c) (by omega) rfl la (by omega) lc (h1 y hy) hg
   have h5 : ∀ z ∈ c.l, Gt sp a z := fun z hz => by
    have := cK hz
    exact ih (wt a + wt b + wt z) (by omega) rfl la lb (by omega) Cb (h3 z hz)
   refine VU (ye Cb) hc h5 ?_
   rcases h2 with h2 | ⟨e2, s2, h2⟩ | ⟨e2, s2, h2⟩ <;> rcases h4 with h4 | ⟨e4, s4, h4⟩ | ⟨e4, s4, h4⟩
   ·exact .inl (by omega)
   ·exact .inl (by omega)
   ·exact .inl (by omega)
   ·exact .inl (by omega)
   ·refine .inr (.inl ⟨by omega, s2, ?_⟩)
    rw [e2] at h4
    refine Cc (fun x hx y hy z hz => ?_) h2 h4
    have := cK (kM.1 hx); have := cK (kM.1 hy); have := cK (kM.1 hz)
    exact ihN (by omega) (by omega) (by omega)
   ·rw [e2] at s4; exact absurd s4 s2
   ·exact .inl (by omega)
   ·rw [e2] at s4; exact absurd s2 s4
   ·refine .inr (.inr ⟨by omega, s2, ?_⟩)
    have small : ∀ x ∈ a.l ++ b.l ++ c.l, wt x ≤ N := by
     intro x hx
     simp only [List.mem_append] at hx
     rcases hx with (hx | hx) | hx <;> have := cK hx <;> omega
    exact J1 (fun x _ => zY x) (fun x hx y hy z hz => ihN (small x hx) (small y hy) (small z hz)) h2 h4
theorem gt_trans {a b c : T} : Gt sp a b → Gt sp b c → Gt sp a c := zZ (wt a + wt b + wt c) (by omega) (by omega) (by omega)
theorem VV {l m X Y C : List T} (hl : l.Perm (X ++ C)) (hm : m.Perm (Y ++ C)) (h0 : X ≠ []) (h1 : ∀ y ∈ Y, ∃ x ∈ X, Gt sp x y) : Mu (Gt sp) l m := by
 have cl : ∀ z, l.count z = X.count z + C.count z := fun z => by rw [hl.count_eq, List.count_append]
 have cm : ∀ z, m.count z = Y.count z + C.count z := fun z => by rw [hm.count_eq, List.count_append]
 have up : ∀ z ∈ X ++ Y, z ∈ Y → ∃ x ∈ X, Y.count x < X.count x ∧ Gt sp x z := by
  refine J0 (G := Gt sp) (fun x _ => zY x) (fun x _ y _ z _ => gt_trans) _ fun z hz ih hy => ?_
  obtain ⟨x1, sE, HT⟩ := h1 z hy
  by_cases hc : Y.count x1 < X.count x1
  ·exact ⟨x1, sE, hc, HT⟩
  ·have : 0 < X.count x1 := List.count_pos_iff.2 sE
   obtain ⟨x, hx, oo, hg⟩ := ih x1 (by simp [sE]) HT (List.count_pos_iff.1 (by omega))
   exact ⟨x, hx, oo, gt_trans hg HT⟩
 have inl : ∀ {x}, x ∈ X → x ∈ l := fun hx => hl.mem_iff.2 (by simp [hx])
 constructor
 ·obtain ⟨x, hx⟩ := List.exists_mem_of_ne_nil X h0
  by_cases hc : Y.count x < X.count x
  ·exact ⟨x, inl hx, by rw [cl, cm]; omega⟩
  ·have : 0 < X.count x := List.count_pos_iff.2 hx
   obtain ⟨x', wo, Gl, _⟩ := up x (by simp [hx]) (List.count_pos_iff.1 (by omega))
   exact ⟨x', inl wo, by rw [cl, cm]; omega⟩
 ·intro y hy hc
  rw [cl, cm] at hc
  have hyY : y ∈ Y := List.count_pos_iff.1 (by omega)
  obtain ⟨x, hx, Gl, hg⟩ := up y (by simp [hyY]) hyY
  exact ⟨x, inl hx, by rw [cl, cm]; omega, hg⟩
def Sb (X Y : List T) : Prop := ∀ z, z ∈ X → z ∉ Y
theorem Sc {G : T → T → Prop} {l m X Y C : List T} (hl : l.Perm (X ++ C)) (hm : m.Perm (Y ++ C)) (hd : Sb X Y) : Mu G l m ↔ X ≠ [] ∧ ∀ y ∈ Y, ∃ x ∈ X, G x y := by
 have cl : ∀ z, l.count z = X.count z + C.count z := fun z => by rw [hl.count_eq, List.count_append]
 have cm : ∀ z, m.count z = Y.count z + C.count z := fun z => by rw [hm.count_eq, List.count_append]
 have inl : ∀ {x}, x ∈ X → x ∈ l := fun hx => hl.mem_iff.2 (by simp [hx])
 have inm : ∀ {x}, x ∈ Y → x ∈ m := fun hx => hm.mem_iff.2 (by simp [hx])
 have cX : ∀ {z}, m.count z < l.count z ↔ z ∈ X := by
  intro z
  rw [cl, cm]
  constructor
  ·intro h; exact List.count_pos_iff.1 (by omega)
  ·intro h
   have h1 : 0 < X.count z := List.count_pos_iff.2 h
   have h2 : Y.count z = 0 := List.count_eq_zero.2 (hd z h)
   omega
 have cY : ∀ {z}, l.count z < m.count z ↔ z ∈ Y := by
  intro z
  rw [cl, cm]
  constructor
  ·intro h; exact List.count_pos_iff.1 (by omega)
  ·intro h
   have h1 : 0 < Y.count z := List.count_pos_iff.2 h
   have h2 : X.count z = 0 := List.count_eq_zero.2 (fun hx => hd z hx h)
   omega
 constructor
 ·rintro ⟨⟨x, _, hx⟩, h2⟩
  refine ⟨fun e => (by have hm := cX.1 hx; rw [e] at hm; cases hm), fun y hy => ?_⟩
  obtain ⟨x, _, hx, hg⟩ := h2 y (inm hy) (cY.2 hy)
  exact ⟨x, cX.1 hx, hg⟩
 ·rintro ⟨h1, h2⟩
  refine ⟨?_, fun y _ hy => ?_⟩
  ·obtain ⟨x, hx⟩ := List.exists_mem_of_ne_nil X h1
   exact ⟨x, inl hx, cX.2 hx⟩
  ·obtain ⟨x, hx, hg⟩ := h2 y (cY.1 hy)
   exact ⟨x, inl hx, cX.2 hx, hg⟩
theorem wX {l m X Y C : List T} (hl : l.Perm (X ++ C)) (hm : m.Perm (Y ++ C)) (hd : Sb X Y) : l.Perm m ↔ X = [] ∧ Y = [] := by
 constructor
 ·intro h
  have hc : ∀ z, X.count z = Y.count z := fun z => by
   have h1 := hl.count_eq z
   have h2 := hm.count_eq z
   have h3 := h.count_eq z
   rw [List.count_append] at h1 h2
   omega
  constructor
  ·cases hX : X with
   | nil => rfl
   | cons x r =>
     have h1 : x ∈ X := by rw [hX]; simp
     have h2 : 0 < Y.count x := by rw [← hc]; exact List.count_pos_iff.2 h1
     exact absurd (List.count_pos_iff.1 h2) (hd x h1)
  ·cases hY : Y with
   | nil => rfl
   | cons x r =>
     have h1 : x ∈ Y := by rw [hY]; simp
     have h2 : 0 < X.count x := by rw [hc]; exact List.count_pos_iff.2 h1
     exact absurd h1 (hd x (List.count_pos_iff.1 h2))
 ·rintro ⟨rfl, rfl⟩
  exact hl.trans hm.symm
theorem Cd (s : Int) (g : T → T) (l : List T) : side s (l.map g) = (side s l).map g := by unfold side; split <;> simp
theorem T.ext {a b : T} (h1 : a.k = b.k) (h2 : a.n = b.n) (h3 : a.l = b.l) : a = b := by
 cases a; cases b; simp only [T.k, T.n, T.l] at h1 h2 h3; rw [h1, h2, h3]
end
end Go.fq
end
section
namespace Go.fq
open Go.aK
def E (O : Od) (a b : T) : Prop := norm O a = norm O b
def R (O : Od) (a b : T) : Prop := Gt O.sp (norm O a) (norm O b)
theorem kmk (k n : Int) (l : List T) : (T.mk k n l).k = k := rfl
section
variable {O : Od}
theorem n7 {a : T} (h : a.k = 2) : (norm O a).k = 2 ∧ (norm O a).n = O.pl a.n ∧ (O.sp (O.pl a.n) = 3 → (norm O a).l = py (a.l.map (norm O))) ∧ (O.sp (O.pl a.n) ≠ 3 → (norm O a).l = a.l.map (norm O)) := by
 cases a with
 | mk k n l =>
   simp only [T.k] at h
   subst h
   simp only [norm, if_true, T.k, T.n, T.l, yd, true_and]
   exact ⟨fun h => by rw [if_pos h], fun h => by rw [if_neg h]⟩
theorem vw {a : T} (h : a.k ≠ 2) : norm O a = .mk 1 a.n [] := by
 cases a with
 | mk k n l => simp only [kmk] at h; simp only [norm]; rw [if_neg h]; rfl
theorem rN {a : T} : (norm O a).k = 2 ↔ a.k = 2 := by
 by_cases h : a.k = 2
 ·simp [h, (n7 h).1]
 ·rw [vw h, kmk]; simp [h]
theorem qv {a x : T} (h : a.k = 2) : x ∈ (norm O a).l ↔ ∃ y ∈ a.l, norm O y = x := by
 obtain ⟨_, _, h1, h2⟩ := n7 (O := O) h
 by_cases hs : O.sp (O.pl a.n) = 3
 ·rw [h1 hs, NL, List.mem_map]
 ·rw [h2 hs, List.mem_map]
theorem NO {G : T → T → Prop} {l m l' m' : List T} (h1 : l.Perm l') (h2 : m.Perm m') : Mu G l m ↔ Mu G l' m' := by
 unfold Mu
 simp only [h1.count_eq, h2.count_eq, h1.mem_iff, h2.mem_iff]
theorem VW {a b : T} : E O a b ↔ (a.k = 2 ∧ b.k = 2 ∧ O.pl a.n = O.pl b.n ∧ (if O.sp (O.pl a.n) = 3 then (a.l.map (norm O)).Perm (b.l.map (norm O)) else a.l.map (norm O) = b.l.map (norm O))) ∨ (a.k ≠ 2 ∧ b.k ≠ 2 ∧ a.n = b.n) := by
 by_cases ha : a.k = 2
 ·by_cases hb : b.k = 2
  ·obtain ⟨ka, na, pa, qa⟩ := n7 (O := O) ha
   obtain ⟨kb, nb, pb, qb⟩ := n7 (O := O) hb
   simp only [ha, hb, true_and, ne_eq, not_true_eq_false, false_and, or_false]
   unfold E
   constructor
   ·intro h
    have hn : O.pl a.n = O.pl b.n := by rw [← na, ← nb, h]
    refine ⟨hn, ?_⟩
    have hl : (norm O a).l = (norm O b).l := by rw [h]
    split
    ·rename_i hs
     rw [pa hs, pb (by rw [← hn]; exact hs)] at hl
     exact Fu.1 hl
    ·rename_i hs
     rw [qa hs, qb (by rw [← hn]; exact hs)] at hl
     exact hl
   ·rintro ⟨hn, hl⟩
    refine T.ext (by rw [ka, kb]) (by rw [na, nb, hn]) ?_
    split at hl
    ·rename_i hs
     rw [pa hs, pb (by rw [← hn]; exact hs)]
     exact Fu.2 hl
    ·rename_i hs
     rw [qa hs, qb (by rw [← hn]; exact hs)]
     exact hl
  ·simp only [ha, hb, ne_eq, not_true_eq_false, false_and, and_false, or_false, iff_false]
   intro h
   have := rN (O := O) (a := a)
   unfold E at h
   rw [h, rN] at this
   exact hb (this.2 ha)
 ·by_cases hb : b.k = 2
  ·simp only [ha, hb, ne_eq, not_true_eq_false, false_and, and_false, or_false, iff_false]
   intro h
   have := rN (O := O) (a := b)
   unfold E at h
   rw [← h, rN] at this
   exact ha (this.2 hb)
  ·simp only [ha, hb, ne_eq, not_false_eq_true, false_and, true_and, false_or]
   unfold E
   rw [vw ha, vw hb]
   simp
theorem qw {a b : T} : R O a b ↔ a.k = 2 ∧ ((∃ x ∈ a.l, E O x b ∨ R O x b) ∨ b.k = 2 ∧ (
 (O.pl b.n < O.pl a.n ∧ ∀ y ∈ b.l, R O a y) ∨
 (O.pl b.n = O.pl a.n ∧ O.sp (O.pl a.n) ≠ 3 ∧ (∀ y ∈ b.l, R O a y) ∧ Lx (Gt O.sp) (side (O.sp (O.pl a.n)) (a.l.map (norm O))) (side (O.sp (O.pl a.n)) (b.l.map (norm O)))) ∨
 (O.pl b.n = O.pl a.n ∧ O.sp (O.pl a.n) = 3 ∧ Mu (Gt O.sp) (a.l.map (norm O)) (b.l.map (norm O))))) := by
 unfold R
 rw [vv]
 unfold Fm
 rw [rN, rN]
 refine and_congr_right fun ha => ?_
 obtain ⟨ka, na, pa, qa⟩ := n7 (O := O) ha
 refine or_congr ?_ (and_congr_right fun hb => ?_)
 ·constructor
  ·rintro ⟨x, hx, h⟩
   obtain ⟨y, hy, rfl⟩ := (qv ha).1 hx
   exact ⟨y, hy, h⟩
  ·rintro ⟨x, hx, h⟩
   exact ⟨_, (qv ha).2 ⟨x, hx, rfl⟩, h⟩
 ·obtain ⟨kb, nb, pb, qb⟩ := n7 (O := O) hb
  have e : (∀ y ∈ (norm O b).l, Gt O.sp (norm O a) y) ↔ ∀ y ∈ b.l, Gt O.sp (norm O a) (norm O y) := by
   constructor
   ·intro h y hy; exact h _ ((qv hb).2 ⟨y, hy, rfl⟩)
   ·intro h y hy; obtain ⟨z, hz, rfl⟩ := (qv hb).1 hy; exact h z hz
  rw [e, na, nb]
  refine or_congr Iff.rfl (or_congr ?_ ?_)
  ·refine and_congr_right fun hn => and_congr_right fun hs => ?_
   rw [qa hs, qb (by rw [hn]; exact hs)]
  ·refine and_congr_right fun hn => and_congr_right fun hs => ?_
   exact NO (by rw [pa hs]; exact kL _) (by rw [pb (by rw [hn]; exact hs)]; exact kL _)
theorem Pk {a b : T} (h : E O a b) : ¬ R O a b := by unfold R; rw [show norm O a = norm O b from h]; exact zY _
theorem Fx {a b c : T} (h1 : R O a b) (h2 : R O b c) : R O a c := gt_trans h1 h2
theorem VX {a b x : T} (ha : a.k = 2) (hx : x ∈ a.l) (h : E O x b ∨ R O x b) : R O a b := qw.2 ⟨ha, .inl ⟨x, hx, h⟩⟩
end
inductive yf (p : Int → Prop) : T → Prop
 | mk (k n : Int) (l : List T) (h1 : k = 2 → p n) (h2 : ∀ x ∈ l, yf p x) : yf p (.mk k n l)
theorem yf.op {p : Int → Prop} {a : T} (h : yf p a) (hk : a.k = 2) : p a.n := by cases h with | mk k n l h1 _ => exact h1 hk
theorem yf.mem {p : Int → Prop} {a x : T} (h : yf p a) (hx : x ∈ a.l) : yf p x := by cases h with | mk k n l _ h2 => exact h2 x hx
end Go.fq
end
section
set_option maxRecDepth 100000
namespace Go.aK
open Go Go.Proofs Go.fq
abbrev Nd := T × List Int
def bo : List Int → AV
 | [] => .ah
 | v :: r => .ap 0 (ints (v :: r))
def Ee (p : Nd) : AV := .agg [.int .i64 p.1.k, .int .i64 p.1.n, .ap 0 (bU p.1.l), bo p.2]
def eB (l : List Nd) : List AV := l.map Ee
def zN : AV := .agg [.int .i64 0, .int .i64 0, .ah, .ah]
theorem aE (l : List Int) : (bo l).one = true ∧ (bo l).ab = bo l ∧ (∀ n, (bo l).a7 n = true) ∧ (bo l).val = true ∧ (bo l).cells = [bo l] := by
 cases l with
 | nil => exact ⟨rfl, rfl, fun _ => rfl, rfl, rfl⟩
 | cons v r => exact ⟨rfl, rfl, fun n => by rw [bo, cW]; exact bk n _, rfl, rfl⟩
theorem NP (p : Nd) : iQ 4 (Ee p) := by
 obtain ⟨t, ks⟩ := p
 cases ks with
 | nil => exact ⟨rfl, rfl, by simp [Ee, bo, AV.cells, dI, bL, cZ, iO, cW, Fg], rfl⟩
 | cons v r => exact ⟨rfl, rfl, by simp [Ee, bo, AV.cells, dI, bL, cZ, iO, cW, bk], rfl⟩
theorem z3 : iQ 4 (bN zN) := ⟨rfl, rfl, rfl, rfl⟩
theorem jD (l : List Nd) : ∀ x ∈ eB l, iQ 4 x := by
 intro x hx; obtain ⟨p, _, rfl⟩ := List.mem_map.1 hx; exact NP p
def aU : List T → Nat → List Int
 | [], _ => []
 | x :: r, n => (n : Int) :: aU r (n + wt x)
mutual
def vx : T → Nat → List Nd
 | .mk k n l, i => (.mk k n l, aU l (i + 1)) :: cR l (i + 1)
def cR : List T → Nat → List Nd
 | [], _ => []
 | x :: r, i => vx x i ++ cR r (i + wt x)
end
mutual
theorem qx : ∀ (t : T) (i : Nat), (vx t i).length = wt t
 | .mk k n l, i => by rw [vx, List.length_cons, gB, wt]; omega
theorem gB : ∀ (l : List T) (i : Nat), (cR l i).length = gG l
 | [], _ => rfl
 | x :: r, i => by rw [cR, List.length_append, qx, gB, gG]
end
theorem n8 (t : T) (i : Nat) : vx t i = (t, aU t.l (i + 1)) :: cR t.l (i + 1) := by cases t; rw [vx]; rfl
theorem Ce (t : T) : wt t = gG t.l + 1 := by cases t; rw [wt]; exact Nat.add_comm _ _
theorem kN : ∀ (l : List T) (x : T) (i : Nat), cR (l ++ [x]) i = cR l i ++ vx x (i + gG l)
 | [], x, i => by simp [cR, gG]
 | y :: r, x, i => by rw [List.cons_append, cR, cR, kN r x, List.append_assoc, gG]; congr 3; omega
theorem iv : ∀ (l : List T) (x : T) (i : Nat), aU (l ++ [x]) i = aU l i ++ [((i + gG l : Nat) : Int)]
 | [], x, i => by simp [aU, gG]
 | y :: r, x, i => by rw [List.cons_append, aU, aU, iv r x, gG]; simp; omega
theorem nl {l : List T} {i : Nat} (h : i < l.length) : gG (l.take (i + 1)) = gG (l.take i) + wt (l.getD i default) := by
 have e : ∀ (a : List T) (x : T), gG (a ++ [x]) = gG a + wt x := by
  intro a x; induction a with
  | nil => simp [gG]
  | cons y r ih => rw [List.cons_append, gG, gG, ih]; omega
 rw [List.take_succ_eq_append_getElem h, e]
 simp [h]
theorem de : ∀ (l : List T) (i : Nat), gG (l.take i) ≤ gG l
 | [], i => by simp [gG]
 | x :: r, 0 => by simp [gG]
 | x :: r, i + 1 => by rw [List.take_succ_cons, gG, gG]; have := de r i; omega
theorem cr : ∀ (l : List T) (i : Nat), (aU l i).length = l.length
 | [], _ => rfl
 | x :: r, i => by rw [aU, List.length_cons, cr, List.length_cons]
theorem hZ : ∀ l : List T, l.length ≤ gG l
 | [] => by simp
 | x :: r => by rw [List.length_cons, gG]; have := hZ r; have := gA x; omega
def lR (t : T) : AV := .agg [.int .i64 t.k, .int .i64 t.n, .ap 0 (bU t.l), .ap 0 []]
theorem qy (t : T) : iQ 4 (lR t) := ⟨rfl, rfl, by simp [lR, AV.cells, dI, bL, iO, cW, aj], rfl⟩
theorem bdN (t : T) (φ : AV → Prop) : cC [.int .i64 0, .int .i64 0, .ah, .ah] [(0, 3, t.av)] φ = φ (.agg [.int .i64 t.k, .int .i64 t.n, .ap 0 (bU t.l), .ah]) := by
 cases t with
 | mk k n l =>
 simp only [cC, gI, T.av, eq_iff_iff]
 constructor
 ·rintro ⟨_, _, _, h⟩; exact h
 ·exact fun h => ⟨rfl, rfl, by decide, h⟩
theorem VY (t : T) : aT (.agg [.int .i64 t.k, .int .i64 t.n, .ap 0 (bU t.l), .ah]) = lR t := rfl
theorem RO.aL {z : AV} {base : Nat} {v : AV} {xs : List AV} {G : List aa} (h : RO z base v xs G) : aL 1 v = True := by
 rcases h with ⟨_, rfl⟩ | ⟨id, cap, _, rfl, _⟩ <;> simp [Go.aK.aL]
theorem eO (l : List Int) : (oq l).one = true ∧ (oq l).ab = bo l ∧ (oq l).val = true ∧ (oq l).cells = [oq l] := by
 cases l with
 | nil => exact ⟨rfl, rfl, rfl, rfl⟩
 | cons v r => exact ⟨rfl, rfl, rfl, rfl⟩
def VZ (base : Nat) (H : List aa) (xs : List AV) (r : AV) (H' : List aa) : Prop := RO zN base r xs H' ∧ H'.take base = H.take base ∧ H.length ≤ H'.length
theorem qz (a b : List Nd) : eB (a ++ b) = eB a ++ eB b := by simp [eB]
theorem qB (a : List Nd) : (eB a).length = a.length := by simp [eB]
theorem Y9 : ∀ (N : Nat) (t : T), wt t ≤ N → ∀ (base : Nat) (v : AV) (xs : List AV) (H : List aa), RO zN base v xs H → (∀ x ∈ xs, iQ 4 x) → base ≤ H.length → (xs.length + wt t) * 64 ≤ 140737488355328 →
 aq Tryz.prog 132 [t.av, v] H (VZ base H (xs ++ eB (vx t xs.length))) := by
 intro N
 induction N with
 | zero => intro t ht; have := gA t; omega
 | succ N ih =>
 intro t ht base v xs H hR fp hbase hb
 have hw := Ce t
 have XO := hZ t.l
 refine Fl.2.calls rfl ?_
 simp only [Fl, aI]
 obtain ⟨o1, o2, o3, o4⟩ := hR.one
 simp +contextual only [o3, hR.len, hR.aL, bdN, VY, sZ, Nat.reduceEqDiff, Nat.reduceAdd, ↓reduceIte, reduceCtorEq]
 refine JR z3 hR fp 0 [lR t] (by simp) (by simp [qy]) (by simp; omega) hbase fun v1 G1 Sd Se hj1 th => ?_
 obtain ⟨o1', o2', o3', o4'⟩ := Sd.one
 simp +contextual only [sZ]
 intro _
 have iH : ∀ i, (xs ++ lR t :: eB (cR (t.l.take i) (xs.length + 1))).length = xs.length + 1 + gG (t.l.take i) := by intro i; simp [qB, gB]; omega
 have jK : ∀ i, ∀ x ∈ xs ++ lR t :: eB (cR (t.l.take i) (xs.length + 1)), iQ 4 x := by
  intro i x hx
  rcases List.mem_append.1 hx with hx | hx
  ·exact fp x hx
  ·rcases List.mem_cons.1 hx with rfl | hx
   ·exact qy t
   ·exact jD _ x hx
 refine aN t.l.length (fun i (p : AV × List aa) => RO zN base p.1 (xs ++ lR t :: eB (cR (t.l.take i) (xs.length + 1))) p.2 ∧ p.2.take base = H.take base ∧ H.length ≤ p.2.length)
  (fun i p => [(1, p.1), (5, .int .i64 xs.length), (6, oq (aU (t.l.take i) (xs.length + 1))), (17, .ap 0 (bU t.l)), (18, .int .i64 t.l.length), (19, .int .i64 i)])
  (fun i p => p.2) (v1, G1) ⟨⟨Sd, Se, th⟩, aA _ _ _⟩ fun i p hi hI => ?_
 obtain ⟨v, G⟩ := p
 obtain ⟨hR, hG, hl⟩ := hI
 simp only at hR hG hl
 obtain ⟨o1, o2, o3, o4⟩ := hR.one
 have hle := de t.l i
 have EQ := cr (t.l.take i) (xs.length + 1)
 have Sf : (t.l.take i).length ≤ t.l.length := by simp; omega
 simp +contextual only [o3, hR.len, hR.aL, iH, vu, (eO _).2.1, kK, sZ, Nat.reduceEqDiff, Nat.reduceAdd, ↓reduceIte, reduceCtorEq]
 refine ⟨fun aY => ⟨bZ aY, by omega, ?_⟩, fun iW => ?_⟩
 ·have aY := bZ aY
  have Za := nl aY
  have hnext := de t.l (i + 1)
  have e2 : t.l.take (i + 1) = t.l.take i ++ [t.l.getD i default] := by rw [List.take_succ_eq_append_getElem aY]; simp [aY]
  refine af (ih (t.l.getD i default) (by have := cK (iu aY); omega) base v _ G hR (jK i) (by omega) (by rw [iH]; omega)) ?_
  rintro r G' ⟨wY, dZ, wL⟩
  obtain ⟨o1', o2', o3', o4'⟩ := wY.one
  simp +contextual only [o3', sZ, Nat.reduceEqDiff, ↓reduceIte]
  refine ⟨i + 1, (r, G'), ⟨aY, ?_, dZ.trans hG, Nat.le_trans hl wL⟩, by omega, aG ?_ rfl⟩
  ·rw [iH] at wY
   rw [e2, kN, qz, ← List.cons_append, ← List.append_assoc]
   exact wY
  ·rw [e2, iv, au i (by omega)]
 ·have mj : i = t.l.length := by have := dl iW; omega
  subst mj
  rw [List.take_length] at hR
  have Ef := iH t.l.length
  have Eg := jK t.l.length
  rw [List.take_length] at Ef Eg
  have fV : (xs ++ lR t :: eB (cR t.l (xs.length + 1))).set xs.length (Ee (t, aU t.l (xs.length + 1))) = xs ++ eB (vx t xs.length) := by
   rw [List.set_append_right _ _ (Nat.le_refl _), Nat.sub_self, List.set_cons_zero, n8]; rfl
  have ji : (xs ++ lR t :: eB (cR t.l (xs.length + 1))).getD xs.length .any = lR t := by simp
  generalize xs ++ lR t :: eB (cR t.l (xs.length + 1)) = ys at hR Ef Eg fV ji
  rcases hR with ⟨rfl, _⟩ | ⟨id, cap, bm, rfl, hg, cF, _⟩
  ·simp at Ef
   omega
  have xw := (List.getElem?_eq_some_iff.1 hg).1
  obtain ⟨k1, k2, k3, k4, k5⟩ := aE (aU t.l (xs.length + 1))
  simp +contextual only [hg, kr, List.take_length, sZ, Nat.reduceEqDiff, ↓reduceIte, reduceCtorEq]
  refine ⟨by omega, ?_⟩
  refine zS Eg (by omega) (by decide) (y := Ee (t, aU t.l (xs.length + 1))) k1 k4 (by rw [k2]; exact k3 _) (by rw [ji, k2]; rfl) ?_
  simp +contextual only [sZ, Nat.reduceEqDiff, ↓reduceIte, reduceCtorEq]
  rw [fV]
  refine aQ (G.length) (by omega) (by rw [ax, if_pos rfl, jB]; simpa using xw) ?_
  rw [ax, if_pos rfl, List.take_of_length_le (by simp)]
  refine ⟨.inr ⟨id, cap, bm, ?_, ?_, ?_, ?_⟩, ?_, by simpa using hl⟩
  ·rw [← fV]; simp
  ·rw [List.getElem?_set_self xw]
  ·rw [← fV]; simpa using cF
  ·rw [n8]; simp [eB]
  ·rw [List.take_set_of_le bm]; exact hG
end Go.aK
end
section
set_option maxRecDepth 100000
namespace Go.aK
open Go Go.Proofs Go.fq
def nr (l : List Nd) : AV := if l = [] then .ah else .ap 0 (eB l)
def eR (ps ss : List Int) : AV := .agg [.ap 0 (ints ps), .ap 0 (ints ss)]
def jE (ps ss : List Int) (l : List Nd) (e g : Nat) : aa := .cells [.ap 0 (ints ps), .ap 0 (ints ss), nr l, .map e, .map g]
theorem bdD (ps ss : List Int) (a b : Nat) (φ : AV → Prop) : cC [.ah, .ah, .ah, .iD, .iD] [(0, 2, .agg [.ap 0 (ints ps), .ap 0 (ints ss)]), (3, 1, .map a), (4, 1, .map b)] φ = φ (.agg [.ap 0 (ints ps), .ap 0 (ints ss), .ah, .map a, .map b]) := by
 simp only [cC, gI, eq_iff_iff]
 constructor
 ·rintro ⟨_, _, _, _, _, _, _, _, _, h⟩; exact h
 ·exact fun h => ⟨rfl, rfl, by simp, rfl, rfl, by simp [ag, AV.cells], rfl, rfl, by simp [ag, AV.cells], h⟩
theorem NQ (a b : AV) (H : List aa) (φ : AV → Prop) : aS (some 2) (.ai (.agg [a, b])) H φ = φ (.agg [a, b]) := by simp [aS, AV.cells]
theorem Cf (id : Nat) (H : List aa) (K : AV → List aa → Prop) : ff 3004 (.ptr id 0) H K = yU 4 id 2 H (K (.ptr id 0)) := rfl
def Pl (H : List aa) (ps ss : List Int) (ts : List T) (r : AV) (H' : List aa) : Prop :=
 r = .tuple [.ptr (H.length + 2) 0, bo (aU ts 0)] ∧ H' = H ++ [.map [], .map [], jE ps ss (cR ts 0) H.length (H.length + 1)]
theorem jd (l : List T) : (eB (cR l 0)).length = gG l := by rw [qB, gB]
theorem Cg {l : List Nd} (h : eB l = []) : l = [] := List.map_eq_nil_iff.1 h
theorem J2 {C : List aa → Nat → List aa → Prop} {n0 a b m : Nat} {env : Env} {H H' : List aa} {R : AV → List aa → Prop} {x y : AV} (hm : n0 ≤ m) (hC : C H m H') (hx : (get env a).ab = x) (hy : (get env b).ab = y) (bx : x.a7 m = true) (xi : y.a7 m = true)
 (hR : R (.tuple [x, y]) H') : kF C n0 [.t a, .t b] env H R := by
 subst hx; subst hy
 exact ⟨m, H', hm, hC, _, b9 _, by show aj m [(get env a).ab, (get env b).ab] = true; rw [bL, bL, cZ, bx, xi]; rfl, hR⟩
theorem Eh {n0 m : Nat} {G : List aa} (hm : m ≤ G.length) (hb : ∀ (j : Nat) (o : aa), n0 ≤ j → j < m → G[j]? = some o → o = .dead ∨ o.a7 (j + 1) = true) : mc n0 G m (G.take m) := by
 refine ⟨by simp, fun j o ho => ?_⟩
 rw [List.getElem?_take] at ho
 split at ho
 ·rename_i hj
  by_cases h0 : n0 ≤ j
  ·rcases hb j o h0 hj ho with h | h
   ·exact .inl h
   ·exact .inr ⟨ho, fun _ => h⟩
  ·exact .inr ⟨ho, fun h => by omega⟩
 ·cases ho
theorem vz (n : Nat) (l : List Nd) : aj n (eB l) = true :=
 (a9 _ _).2 fun x hx => by
   obtain ⟨⟨t, ks⟩, _, rfl⟩ := List.mem_map.1 hx
   cases ks with
   | nil => simp [Ee, bo, AV.a7, dI, aj]
   | cons v r => simp [Ee, bo, AV.a7, dI, bk, aj]
theorem yg (ps ss : List Int) (l : List Nd) (n : Nat) : (jE ps ss l n (n + 1)).a7 (n + 2 + 1) = true := by
 have h : (nr l).a7 (n + 2 + 1) = true := by
  unfold nr
  split
  ·rfl
  ·rw [cW]
   exact vz _ _
 simp only [jE, aa.a7, bL, cZ, cW, bk, h, Ja]
 simp; omega
theorem V0 (ps ss : List Int) (ts : List T) (H : List aa) (hb : gG ts * 64 ≤ 140737488355328) : aq Tryz.prog 75 [eR ps ss, .ap 0 (bU ts)] H (Pl H ps ss ts) := by
 refine VM.2.DL rfl ?_
 simp only [VM, aI, eR]
 have XO := hZ ts
 simp +contextual only [bdD, NQ, sZ, Nat.reduceEqDiff, Nat.reduceAdd, ↓reduceIte, reduceCtorEq]
 refine ⟨by simp; omega, fun _ => ?_⟩
 have e0 : ∀ (l : List aa) (x : aa), (H ++ x :: l)[H.length]? = some x := by simp
 refine lM ts.length (fun i (p : AV × List aa) => RO zN (H.length + 3) p.1 (eB (cR (ts.take i) 0)) p.2 ∧ H.length + 3 ≤ p.2.length ∧
  p.2.take (H.length + 3) = H ++ [.map [], .map [], .cells [.ap 0 (ints ps), .ap 0 (ints ss), p.1, .map H.length, .map (H.length + 1)]])
  (fun i p => [(6, .ptr (H.length + 2) 0), (7, oq (aU (ts.take i) 0)), (15, .ap 0 (bU ts)), (16, .int .i64 ts.length), (17, .int .i64 i)])
  (fun i p => p.2) (.ah, _) ⟨⟨.inl ⟨rfl, rfl⟩, by simp, ?_⟩, nY _ _ _⟩ fun i p hi hI => ?_
 ·rw [List.take_of_length_le (by simp)]
 obtain ⟨v, G⟩ := p
 obtain ⟨hR, hl, hG⟩ := hI
 simp only at hR hl hG
 obtain ⟨o1, o2, o3, o4⟩ := hR.one
 have gget : ∀ j, j < H.length + 3 → G[j]? = (H ++ [.map [], .map [], .cells [.ap 0 (ints ps), .ap 0 (ints ss), v, .map H.length, .map (H.length + 1)]])[j]? := by
  intro j hj; rw [← hG, List.getElem?_take, if_pos hj]
 have g2 : G[H.length + 2]? = some (.cells [.ap 0 (ints ps), .ap 0 (ints ss), v, .map H.length, .map (H.length + 1)]) := by rw [gget _ (by omega)]; simp
 have hle := de ts i
 have EQ := cr (ts.take i) 0
 have Sf : (ts.take i).length ≤ ts.length := by simp; omega
 simp +contextual only [o3, g2, hR.len, hR.aL, jd, vu, (eO _).2.1, kK, sZ, Nat.reduceEqDiff, Nat.reduceAdd, Nat.reduceLT, ↓reduceIte, reduceCtorEq]
 refine ⟨fun aY => ⟨bZ aY, by omega, ?_⟩, fun iW => ?_⟩
 ·have aY := bZ aY
  have Za := nl aY
  have hnext := de ts (i + 1)
  have e2 : ts.take (i + 1) = ts.take i ++ [ts.getD i default] := by rw [List.take_succ_eq_append_getElem aY]; simp [aY]
  have hc := Y9 (wt (ts.getD i default)) (ts.getD i default) (Nat.le_refl _) (H.length + 3) v _ G hR (jD _) hl (by rw [jd]; omega)
  refine af hc ?_
  rintro r G' ⟨wY, dZ, wL⟩
  obtain ⟨o1', o2', o3', o4'⟩ := wY.one
  have g2' : G'[H.length + 2]? = some (.cells [.ap 0 (ints ps), .ap 0 (ints ss), v, .map H.length, .map (H.length + 1)]) := by
   have : (G'.take (H.length + 3))[H.length + 2]? = (G.take (H.length + 3))[H.length + 2]? := by rw [dZ]
   rw [List.getElem?_take, List.getElem?_take, if_pos (by omega), if_pos (by omega)] at this
   rw [this, g2]
  have dU := wY.a7 (Nat.le_refl _)
  simp +contextual only [rE, o1', o2', o3', o4', g2', dU, sZ, Nat.reduceEqDiff, Nat.reduceAdd, Nat.reduceLeDiff, ↓reduceIte]
  refine ⟨by omega, i + 1, (r, _), ⟨aY, ?_, by simp; omega, ?_⟩, by omega, zR ?_ rfl⟩
  ·have h1 := wY.set (j := H.length + 2) (by omega) (.cells (ag [.ap 0 (ints ps), .ap 0 (ints ss), v, .map H.length, .map (H.length + 1)] 2 [r]))
   rw [jd] at h1
   rw [e2, kN, qz, Nat.zero_add]
   exact h1
  ·rw [List.take_set, dZ, hG]
   simp [ag]
  ·rw [e2, iv, au i (by omega), Nat.zero_add]
 ·have mj : i = ts.length := by have := dl iW; omega
  subst mj
  rw [List.take_length] at hR
  have fin : ∀ (G' : List aa), G'.length = G.length → G'.take (H.length + 3) = H ++ [.map [], .map [], jE ps ss (cR ts 0) H.length (H.length + 1)] → kF (mc H.length) H.length [.t 4, .t 5] [(4, .ptr (H.length + 2) 0), (5, bo (aU ts 0))] G' (Pl H ps ss ts) := by
   intro G' wL dZ
   refine J2 (m := H.length + 3) (by omega) (Eh (by omega) fun j o h1 h2 ho => .inr ?_) (x := .ptr (H.length + 2) 0) (y := bo (aU ts 0)) rfl ?_ ?_ ((aE _).2.2.1 _) ⟨rfl, dZ⟩
   ·have h3 : (G'.take (H.length + 3))[j]? = some o := by rw [List.getElem?_take, if_pos h2]; exact ho
    rw [dZ, List.getElem?_append_right h1] at h3
    have : j = H.length ∨ j = H.length + 1 ∨ j = H.length + 2 := by omega
    rcases this with rfl | rfl | rfl
    ·simp at h3; subst h3; rfl
    ·simp at h3; subst h3; rfl
    ·simp at h3; subst h3; exact yg ps ss _ _
   ·have h2 := (aE (aU ts 0)).2.1
    simp [ax, h2]
   ·rw [rB]; simp
  rw [Cf]
  unfold yU
  rw [g2]
  rcases hR with ⟨e1, rfl⟩ | ⟨id, cap, bm, rfl, hg, cF, dS⟩
  ·simp +contextual only [List.getElem?_cons_succ, List.getElem?_cons_zero, List.take_length, (eO _).2.1, (aE _).2.1, sZ, Nat.reduceEqDiff, ↓reduceIte, reduceCtorEq]
   refine fin G rfl ?_
   rw [hG, jE, nr, if_pos (Cg e1)]
  ·simp +contextual only [List.getElem?_cons_succ, List.getElem?_cons_zero, List.take_length, (eO _).2.1, (aE _).2.1, sZ, Nat.reduceEqDiff, ↓reduceIte, reduceCtorEq]
   refine vk (by decide) z3 (jD _) (fun x hx => ?_) hg cF ⟨?_, ?_, ?_⟩
   ·obtain ⟨q, _, rfl⟩ := List.mem_map.1 hx; rfl
   ·rw [List.getElem?_set_ne (by omega)]; exact g2
   ·rw [cW]; exact vz _ _
   ·refine fin _ (by simp) ?_
    rw [List.take_set, List.take_set, hG]
    have e1 : ∀ X : List aa, X.length ≤ id → X.set id .dead = X := fun X h => List.set_eq_of_length_le h
    rw [e1 _ (by simp; omega), jE, nr, if_neg (fun e => dS (by rw [e]; rfl))]
    simp
end Go.aK
end
