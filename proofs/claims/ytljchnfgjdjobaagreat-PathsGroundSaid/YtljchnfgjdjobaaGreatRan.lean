/- Part 14 of 18 of the proof. -/
import Derived.Test.YtljchnfgjdjobaaGreatRak
import Derived.Test.YtljchnfgjdjobaaGreatRam
import Derived.Test.YtljchnfgjdjobaaGreatRac
import Derived.Test.YtljchnfgjdjobaaGreatRag
import Derived.KernelRfl
set_option linter.unusedVariables false
set_option linter.unusedSimpArgs false
set_option linter.defProp false
set_option linter.unusedSectionVars false
section
namespace Go.fJ
open Go.aK
inductive PP where
 | mk (r i : Int) (to : List Int) (l : List PP)
 deriving Inhabited
def PP.r : PP → Int | .mk r _ _ _ => r
def PP.i : PP → Int | .mk _ i _ _ => i
def PP.to : PP → List Int | .mk _ _ to _ => to
def PP.l : PP → List PP | .mk _ _ _ l => l
mutual
def pz : PP → Nat
 | .mk _ _ _ l => WJ l + 1
def WJ : List PP → Nat
 | [] => 0
 | x :: r => pz x + WJ r
end
theorem FQ {x : PP} : ∀ {l : List PP}, x ∈ l → pz x ≤ WJ l
 | y :: r, h => by
   rw [WJ]
   rcases List.mem_cons.1 h with rfl | h
   ·omega
   ·have := FQ h; omega
theorem Ah (p : PP) : 0 < pz p := by cases p; rw [pz]; omega
theorem Ai {p x : PP} (h : x ∈ p.l) : pz x < pz p := by
 obtain ⟨r, i, to, l⟩ := p
 have : pz x ≤ WJ l := FQ h
 rw [pz]; omega
theorem dT {l : List PP} {i : Nat} (h : i < l.length) : l.getD i default ∈ l := by
 rw [List.getD_eq_getElem?_getD, List.getElem?_eq_getElem h]; exact List.getElem_mem h
theorem HO {l : List T} {i : Nat} (h : i < l.length) : l.getD i default ∈ l := by
 rw [List.getD_eq_getElem?_getD, List.getElem?_eq_getElem h]; exact List.getElem_mem h
def PP.nil (q : PP) : Prop := q.r = 0 ∧ q.i = 0 ∧ q.to = [] ∧ q.l = []
instance (q : PP) : Decidable q.nil := by
 unfold PP.nil
 have : Decidable (q.l = []) := by cases q.l with
  | nil => exact isTrue rfl
  | cons a b => exact isFalse (by simp)
 exact inferInstance
def dm (to : List Int) (x : Int) : Nat → Nat
 | 0 => 0
 | n + 1 => dm to x n + if to.getD n 0 = x then 1 else 0
def dg (to : List Int) (l : List PP) (x : Int) : Nat → Nat
 | 0 => 0
 | n + 1 => dg to l x n + if to.getD n 0 = x ∧ (l.getD n default).nil then 1 else 0
theorem yn {to : List Int} {x : Int} {j : Nat} : ∀ {n : Nat}, j < n → to.getD j 0 = x → 1 ≤ dm to x n
 | n + 1, h, e => by
   rw [dm]
   by_cases hj : j = n
   ·subst hj; rw [if_pos e]; omega
   ·have := yn (n := n) (by omega) e; omega
theorem rY {to : List Int} {x : Int} {j j' : Nat} (hj : j < j') (e : to.getD j 0 = x) (e' : to.getD j' 0 = x) : ∀ {n : Nat}, j' < n → 2 ≤ dm to x n
 | n + 1, h => by
   rw [dm]
   by_cases hn : j' = n
   ·subst hn; rw [if_pos e']; have := yn hj e; omega
   ·have := rY hj e e' (n := n) (by omega); omega
theorem yo {to : List Int} {x : Int} {j j' n : Nat} (h : dm to x n ≤ 1) (hj : j < n) (tS : j' < n) (e : to.getD j 0 = x) (e' : to.getD j' 0 = x) : j = j' := by
 rcases Nat.lt_trichotomy j j' with h1 | h1 | h1
 ·have := rY h1 e e' tS; omega
 ·exact h1
 ·have := rY h1 e' e hj; omega
theorem hJ {to : List Int} {l : List PP} {x : Int} : ∀ {n : Nat}, 0 < dg to l x n ↔ ∃ j, j < n ∧ to.getD j 0 = x ∧ (l.getD j default).nil
 | 0 => by simp [dg]
 | n + 1 => by
   rw [dg]
   have ih := hJ (to := to) (l := l) (x := x) (n := n)
   by_cases h : to.getD n 0 = x ∧ (l.getD n default).nil
   ·rw [if_pos h]
    exact ⟨fun _ => ⟨n, by omega, h⟩, fun _ => by omega⟩
   ·rw [if_neg h, Nat.add_zero, ih]
    constructor
    ·rintro ⟨j, h1, h2⟩; exact ⟨j, by omega, h2⟩
    ·rintro ⟨j, h1, h2⟩
     have : j ≠ n := fun e => h (e ▸ h2)
     exact ⟨j, by omega, h2⟩
theorem nF {to : List Int} {l : List PP} {x : Int} : ∀ n, dg to l x n ≤ dm to x n
 | 0 => Nat.le_refl _
 | n + 1 => by
   rw [dg, dm]
   have := nF (to := to) (l := l) (x := x) n
   by_cases h : to.getD n 0 = x ∧ (l.getD n default).nil
   ·rw [if_pos h, if_pos h.1]; omega
   ·rw [if_neg h]; omega
def k8 (S : PP → T → T → Prop) (l : List PP) (a : T) (bs : List T) : Prop := l.length = bs.length ∧ ∀ j, j < bs.length → S (l.getD j default) a (bs.getD j default)
def PJ (Q : T → T → Prop) (S : PP → T → T → Prop) (to : List Int) (l : List PP) (az bs : List T) : Prop :=
 to.length = bs.length ∧ l.length = bs.length ∧
 (∀ j, j < bs.length → (0 ≤ to.getD j 0 ∧ to.getD j 0 < az.length) ∧
   (if (l.getD j default).nil then Q (az.getD (to.getD j 0).toNat default) (bs.getD j default) else S (l.getD j default) (az.getD (to.getD j 0).toNat default) (bs.getD j default))) ∧
 (∀ x : Nat, x < az.length → 0 < dg to l x bs.length → dm to x bs.length ≤ 1) ∧ ∃ x : Nat, x < az.length ∧ dg to l x bs.length = 0
def CB (Q : T → T → Prop) (S : PP → T → T → Prop) (i : Int) (l : List PP) (a : T) (az bs : List T) (bl : List T) : Prop :=
 (0 ≤ i ∧ i < az.length ∧ i ≤ bs.length) ∧ (∀ j, j < i.toNat → Q (az.getD j default) (bs.getD j default)) ∧
 (if i = bs.length then k8 S l a bl else ∃ q r, l = q :: r ∧ S q (az.getD i.toNat default) (bs.getD i.toNat default) ∧ k8 S r a bl)
def Fs (O : Od) (S : PP → T → T → Prop) (p : PP) (a b : T) : Prop :=
 a.k = 2 ∧ (
  (p.r = 1 ∧ p.to = [] ∧ (0 ≤ p.i ∧ p.i < a.l.length) ∧ ((p.l = [] ∧ E O (a.l.getD p.i.toNat default) b) ∨ ∃ q, p.l = [q] ∧ S q (a.l.getD p.i.toNat default) b)) ∨
  (p.r = 2 ∧ p.to = [] ∧ p.i = 0 ∧ b.k = 2 ∧ O.pl b.n < O.pl a.n ∧ k8 S p.l a b.l) ∨
  (p.r = 3 ∧ p.to = [] ∧ b.k = 2 ∧ O.pl a.n = O.pl b.n ∧ O.sp (O.pl a.n) ≠ 3 ∧ CB (E O) S p.i p.l a (side (O.sp (O.pl a.n)) a.l) (side (O.sp (O.pl a.n)) b.l) b.l) ∨
  (p.r = 4 ∧ p.i = 0 ∧ b.k = 2 ∧ O.pl a.n = O.pl b.n ∧ O.sp (O.pl a.n) = 3 ∧ PJ (E O) S p.to p.l a.l b.l))
theorem mg {S S' : PP → T → T → Prop} {l : List PP} {a : T} {bs : List T} (h : ∀ q ∈ l, ∀ a b, S q a b ↔ S' q a b) : k8 S l a bs ↔ k8 S' l a bs := by
 refine and_congr_right fun hl => ?_
 constructor
 ·exact fun k j hj => (h _ (dT (by omega)) _ _).1 (k j hj)
 ·exact fun k j hj => (h _ (dT (by omega)) _ _).2 (k j hj)
theorem HP {Q : T → T → Prop} {S S' : PP → T → T → Prop} {to : List Int} {l : List PP} {az bs : List T} (h : ∀ q ∈ l, ∀ a b, S q a b ↔ S' q a b) : PJ Q S to l az bs ↔ PJ Q S' to l az bs := by
 refine and_congr_right fun _ => and_congr_right fun hl => and_congr_left fun _ => ?_
 constructor
 ·intro k j hj
  refine ⟨(k j hj).1, ?_⟩
  have := (k j hj).2
  split at this
  ·rename_i e; rw [if_pos e]; exact this
  ·rename_i e; rw [if_neg e]; exact (h _ (dT (by omega)) _ _).1 this
 ·intro k j hj
  refine ⟨(k j hj).1, ?_⟩
  have := (k j hj).2
  split at this
  ·rename_i e; rw [if_pos e]; exact this
  ·rename_i e; rw [if_neg e]; exact (h _ (dT (by omega)) _ _).2 this
theorem ED {Q : T → T → Prop} {S S' : PP → T → T → Prop} {i : Int} {l : List PP} {a : T} {az bs bl : List T} (h : ∀ q ∈ l, ∀ a b, S q a b ↔ S' q a b) : CB Q S i l a az bs bl ↔ CB Q S' i l a az bs bl := by
 refine and_congr_right fun _ => and_congr_right fun _ => ?_
 split
 ·exact mg h
 ·constructor
  ·rintro ⟨q, r, rfl, h1, h2⟩
   exact ⟨q, r, rfl, (h q List.mem_cons_self _ _).1 h1, (mg fun x hx => h x (List.mem_cons_of_mem _ hx)).1 h2⟩
  ·rintro ⟨q, r, rfl, h1, h2⟩
   exact ⟨q, r, rfl, (h q List.mem_cons_self _ _).2 h1, (mg fun x hx => h x (List.mem_cons_of_mem _ hx)).2 h2⟩
theorem CC {O : Od} {S S' : PP → T → T → Prop} {p : PP} {a b : T} (h : ∀ q ∈ p.l, ∀ a b, S q a b ↔ S' q a b) : Fs O S p a b ↔ Fs O S' p a b := by
 refine and_congr_right fun _ => or_congr ?_ (or_congr ?_ (or_congr ?_ ?_))
 ·refine and_congr_right fun _ => and_congr_right fun _ => and_congr_right fun _ => or_congr Iff.rfl ?_
  constructor
  ·rintro ⟨q, e, k⟩; exact ⟨q, e, (h q (by rw [e]; simp) _ _).1 k⟩
  ·rintro ⟨q, e, k⟩; exact ⟨q, e, (h q (by rw [e]; simp) _ _).2 k⟩
 ·rw [mg h]
 ·rw [ED h]
 ·rw [HP h]
def PK (O : Od) : Nat → PP → T → T → Prop
 | 0 => fun _ _ _ => False
 | f + 1 => Fs O (PK O f)
def Sh (O : Od) (p : PP) (a b : T) : Prop := PK O (pz p) p a b
theorem pr (O : Od) : ∀ (f g : Nat) (p : PP) (a b : T), pz p ≤ f → pz p ≤ g → (PK O f p a b ↔ PK O g p a b)
 | 0, _, p, a, b, h, _ => by have := Ah p; omega
 | _ + 1, 0, p, a, b, _, h => by have := Ah p; omega
 | f + 1, g + 1, p, a, b, h1, h2 => by
   simp only [PK]
   refine CC fun q hq a b => ?_
   have := Ai hq
   exact pr O f g q a b (by omega) (by omega)
theorem pv {O : Od} {p : PP} {a b : T} : Sh O p a b ↔ Fs O (Sh O) p a b := by
 have e : PK O (pz p) p a b ↔ PK O (pz p + 1) p a b := pr O _ _ p a b (by omega) (by omega)
 unfold Sh
 rw [e]
 show Fs O (PK O (pz p)) p a b ↔ _
 refine CC fun q hq a b => ?_
 have := Ai hq
 exact pr O _ _ q a b (by omega) (by omega)
theorem PL {G : T → T → Prop} : ∀ (n : Nat) {l m : List T}, n < l.length → n ≤ m.length → (∀ j, j < n → l.getD j default = m.getD j default) → (n = m.length ∨ G (l.getD n default) (m.getD n default)) → Lx G l m
 | 0, x :: l, [], _, _, _, _ => trivial
 | 0, x :: l, y :: m, _, _, _, h => .inr (by simpa using h)
 | n + 1, x :: l, [], _, h, _, _ => by simp at h
 | n + 1, x :: l, y :: m, h1, h2, h3, h4 => by
   refine .inl ⟨h3 0 (by omega), PL n (by simpa using h1) (by simpa using h2) (fun j hj => h3 (j + 1) (by omega)) ?_⟩
   simpa using h4
theorem EE {β : Type} (f : T → β) (a : List T) : a.map f = (List.range a.length).map fun i => f (a.getD i default) := by
 apply List.ext_getElem
 ·simp
 ·intro i h1 h2
  have : i < a.length := by simpa using h1
  simp [this]
theorem yp {β : Type} (f : T → β) (a : List T) (p : Nat → Bool) : (a.map f).Perm (((List.range a.length).filter p).map (fun i => f (a.getD i default)) ++ ((List.range a.length).filter fun i => !p i).map fun i => f (a.getD i default)) := by
 rw [EE, ← List.map_append]
 exact (List.filter_append_perm p (List.range a.length)).symm.map _
theorem oR (n : Nat) (p : Nat → Bool) : ((List.range n).filter p).Nodup := List.Pairwise.filter p List.nodup_range
theorem SU {O : Od} {S : PP → T → T → Prop} {to : List Int} {l : List PP} {az bs : List T} (h : PJ (E O) S to l az bs) (hS : ∀ q ∈ l, ∀ a b, S q a b → R O a b) : Mu (Gt O.sp) (az.map (norm O)) (bs.map (norm O)) := by
 obtain ⟨h1, h2, h3, h4, x0, Ix, h5⟩ := h
 let n := bs.length
 let U : Nat → Bool := fun i => decide (dg to l i n = 0)
 let Z : Nat → Bool := fun j => !decide (l.getD j default).nil
 have pu := yp (norm O) az U
 have pz := yp (norm O) bs Z
 refine Wc (X := ((List.range az.length).filter U).map fun i => norm O (az.getD i default)) (Y := ((List.range bs.length).filter Z).map fun i => norm O (bs.getD i default)) (C := ((List.range bs.length).filter fun i => !Z i).map fun i => norm O (bs.getD i default)) ?_ pz ?_ ?_
 ·refine pu.trans (List.Perm.append_left _ ?_)
  have hp : (((List.range bs.length).filter fun j => !Z j).map fun j => (to.getD j 0).toNat).Perm ((List.range az.length).filter fun i => !U i) := by
   rw [List.perm_ext_iff_of_nodup]
   ·intro i
    simp only [Z, U, n, List.mem_map, List.mem_filter, List.mem_range, Bool.not_not, Bool.not_eq_true', decide_eq_true_eq, decide_eq_false_iff_not]
    constructor
    ·rintro ⟨j, ⟨hj, hn⟩, rfl⟩
     have := (h3 j hj).1
     refine ⟨by omega, ?_⟩
     have : 0 < dg to l ((to.getD j 0).toNat : Int) bs.length := hJ.2 ⟨j, hj, by omega, hn⟩
     omega
    ·rintro ⟨hi, hu⟩
     obtain ⟨j, k1, k2, k3⟩ := hJ.1 (show 0 < dg to l (i : Int) bs.length by omega)
     exact ⟨j, ⟨k1, k3⟩, by omega⟩
   ·rw [List.Nodup, List.pairwise_map]
    refine List.Pairwise.imp_of_mem ?_ (oR _ _)
    intro j j' hj tS ep he
    simp only [Z, List.mem_filter, List.mem_range, Bool.not_not, decide_eq_true_eq] at hj tS
    have b1 := (h3 j hj.1).1
    have b2 := (h3 j' tS.1).1
    have e1 : to.getD j 0 = (((to.getD j 0).toNat : Nat) : Int) := by omega
    have e2 : to.getD j' 0 = (((to.getD j 0).toNat : Nat) : Int) := by omega
    have hp : 0 < dg to l (((to.getD j 0).toNat : Nat) : Int) bs.length := hJ.2 ⟨j, hj.1, e1, hj.2⟩
    exact ep (yo (h4 _ (by omega) hp) hj.1 tS.1 e1 e2)
   ·exact oR _ _
  refine (hp.map fun i => norm O (az.getD i default)).symm.trans ?_
  rw [List.map_map]
  refine List.Perm.of_eq (List.map_congr_left fun j hj => ?_)
  simp only [Z, List.mem_filter, List.mem_range, Bool.not_not, decide_eq_true_eq] at hj
  have := (h3 j hj.1).2
  rw [if_pos hj.2] at this
  exact this
 ·intro e
  have : norm O (az.getD x0 default) ∈ ((List.range az.length).filter U).map fun i => norm O (az.getD i default) :=
   List.mem_map.2 ⟨x0, List.mem_filter.2 ⟨List.mem_range.2 Ix, by simp [U, n, h5]⟩, rfl⟩
  rw [e] at this
  cases this
 ·intro y hy
  obtain ⟨j, hj, rfl⟩ := List.mem_map.1 hy
  simp only [Z, List.mem_filter, List.mem_range, Bool.not_eq_true', decide_eq_false_iff_not] at hj
  obtain ⟨hj, hn⟩ := hj
  have b1 := h3 j hj
  rw [if_neg hn] at b1
  refine ⟨norm O (az.getD (to.getD j 0).toNat default), List.mem_map.2 ⟨(to.getD j 0).toNat, List.mem_filter.2 ⟨List.mem_range.2 (by omega), ?_⟩, rfl⟩, hS _ (dT (by omega)) _ _ b1.2⟩
  simp only [U, n, decide_eq_true_eq]
  by_cases hp : 0 < dg to l ((to.getD j 0).toNat : Int) bs.length
  ·have ht := h4 _ (by omega) hp
   obtain ⟨j', k1, k2, k3⟩ := hJ.1 hp
   have := yo ht hj k1 (by omega) k2
   exact absurd (this ▸ k3) hn
  ·omega
theorem oo {f : T → T} {l : List T} {i : Nat} (h : i < l.length) : (l.map f).getD i default = f (l.getD i default) := by
 simp [h]
theorem Z6 {O : Od} : ∀ (N : Nat) {p : PP} {a b : T}, pz p ≤ N → Sh O p a b → R O a b := by
 intro N
 induction N with
 | zero => intro p a b h; have := Ah p; omega
 | succ N ih =>
 intro p a b hN h
 have hm : ∀ q ∈ p.l, ∀ a b, Sh O q a b → R O a b := fun q hq a b hs => ih (by have := Ai hq; omega) hs
 have ju : ∀ {l : List PP} {bs : List T}, (∀ q ∈ l, q ∈ p.l) → k8 (Sh O) l a bs → ∀ y ∈ bs, R O a y := by
  intro l bs hq hl y hy
  obtain ⟨j, hj, rfl⟩ := List.mem_iff_getElem.1 hy
  have := hl.2 j hj
  have e : bs.getD j default = bs[j] := by simp [hj]
  rw [e] at this
  exact hm _ (hq _ (dT (by have := hl.1; omega))) _ _ this
 obtain ⟨ha, h⟩ := pv.1 h
 rcases h with ⟨_, _, hi, h⟩ | ⟨_, _, _, hb, hp, h⟩ | ⟨_, _, hb, hp, hs, h1, h2, h3⟩ | ⟨_, _, hb, hp, hs, h⟩
 ·refine We ha (HO (i := p.i.toNat) (by omega)) ?_
  rcases h with ⟨_, h⟩ | ⟨q, e, h⟩
  ·exact .inl h
  ·exact .inr (hm q (by rw [e]; simp) _ _ h)
 ·exact qz.2 ⟨ha, .inr ⟨hb, .inl ⟨hp, ju (fun _ h => h) h⟩⟩⟩
 ·refine qz.2 ⟨ha, .inr ⟨hb, .inr (.inl ⟨hp.symm, hs, ?_, ?_⟩)⟩⟩
  ·split at h3
   ·exact ju (fun _ h => h) h3
   ·obtain ⟨q, r, e, _, h3⟩ := h3
    exact ju (fun x hx => by rw [e]; exact List.mem_cons_of_mem _ hx) h3
  ·rw [Cf, Cf]
   have hla : p.i.toNat < (side (O.sp (O.pl a.n)) a.l).length := by omega
   refine PL p.i.toNat (by simpa using hla) (by simp; omega) (fun j hj => ?_) ?_
   ·rw [oo (by omega), oo (by omega)]
    exact h2 j hj
   ·by_cases hi : p.i = (side (O.sp (O.pl a.n)) b.l).length
    ·left; simp; omega
    ·rw [if_neg hi] at h3
     obtain ⟨q, r, e, h3, _⟩ := h3
     right
     rw [oo (by omega), oo (by omega)]
     exact hm q (by rw [e]; simp) _ _ h3
 ·exact qz.2 ⟨ha, .inr ⟨hb, .inr (.inr ⟨hp.symm, hs, SU h hm⟩)⟩⟩
theorem Sh.gt {O : Od} {p : PP} {a b : T} (h : Sh O p a b) : R O a b := Z6 _ (Nat.le_refl _) h
end Go.fJ
end
section
set_option maxRecDepth 100000
namespace Go.aK
open Go Go.Proofs Go.fJ
mutual
def dV : PP → AV
 | .mk r i to l => .agg [.int .i64 r, .int .i64 i, .ap 0 (ints to), .ap 0 (dU l)]
def dU : List PP → List AV
 | [] => []
 | x :: r => dV x :: dU r
end
theorem nG (p : PP) : dV p = .agg [.int .i64 p.r, .int .i64 p.i, .ap 0 (ints p.to), .ap 0 (dU p.l)] := by cases p; rw [dV]; rfl
theorem k9 : ∀ l, dU l = l.map dV
 | [] => rfl
 | x :: r => by simp [dU, k9 r]
theorem eB (l : List PP) : (dU l).length = l.length := by simp [k9]
mutual
theorem fK (n : Nat) : ∀ p, (dV p).a7 n = true
 | .mk r i to l => by simp [dV, AV.a7, aj, bk, iE n l]
theorem iE (n : Nat) : ∀ l, aj n (dU l) = true
 | [] => rfl
 | x :: r => by simp [dU, aj, fK n x, iE n r]
end
theorem aX (p : PP) : (dV p).val = true ∧ (dV p).cells.length = 4 ∧ (dV p).cells.all AV.one = true ∧ (dV p).ab = dV p ∧ (dV p).drop = dV p ∧ (∀ n, (dV p).a7 n = true) ∧ AV.agg (dV p).cells = dV p ∧ (dV p).cells.map AV.drop = (dV p).cells ∧ (dV p).cells.map AV.ab = (dV p).cells := by
 refine ⟨?_, ?_, ?_, ?_, ?_, fun n => fK n p, ?_, ?_, ?_⟩ <;> (rw [nG]; rfl)
theorem CD (p : PP) (φ : AV → Prop) : ak 0 none (.ai (dV p)) φ = φ (.ai (.int .i64 p.r)) := by rw [nG]; simp [ak, apart, AV.cells, AV.one]
theorem C6 (p : PP) (φ : AV → Prop) : ak 1 none (.ai (dV p)) φ = φ (.ai (.int .i64 p.i)) := by rw [nG]; simp [ak, apart, AV.cells, AV.one]
theorem Og (p : PP) (φ : AV → Prop) : ak 2 none (.ai (dV p)) φ = φ (.ai (.ap 0 (ints p.to))) := by rw [nG]; simp [ak, apart, AV.cells, AV.one]
theorem Kv (p : PP) (φ : AV → Prop) : ak 3 none (.ai (dV p)) φ = φ (.ai (.ap 0 (dU p.l))) := by rw [nG]; simp [ak, apart, AV.cells, AV.one]
theorem qL (o : Nat) (l : List PP) : (∀ (own : Nat) (xs : List AV), AV.ap o (dU l) = AV.ap own xs → ∀ z ∈ xs, z.cells.length = 4) = True := by
 simp only [eq_iff_iff, iff_true]
 intro own xs e z hz
 cases e
 rw [k9] at hz
 obtain ⟨y, _, rfl⟩ := List.mem_map.1 hz
 exact (aX y).2.1
theorem yq (l : List PP) (i : Nat) (h : i < l.length) : (dU l).getD i .any = dV (l.getD i default) := by
 simp [k9, h]
theorem Aj (e o : Nat) (l : List PP) (k : IntKind) (i : Int) (φ : AV → Prop) : ay e (.ap o (dU l)) (.int k i) φ = ((0 ≤ i ∧ i < l.length) ∧ φ (.ai (dV (l.getD i.toNat default)))) := by
 simp only [ay, eB, eq_iff_iff]
 constructor
 ·rintro ⟨h0, h, h2⟩; rw [yq _ _ h] at h2; exact ⟨by omega, h2⟩
 ·rintro ⟨⟨h0, h⟩, h2⟩
  have h : i.toNat < l.length := by omega
  rw [yq _ _ h]; exact ⟨h0, h, h2⟩
theorem qM (p : PP) (H : List aa) (φ : AV → Prop) : aS (some 4) (.ai (dV p)) H φ = φ (dV p) := by
 obtain ⟨_, h2, _, _, _, _, h7, _⟩ := aX p
 simp [aS, h2, h7]
theorem SV (l : List PP) : ta 4 (dU l) = True := by
 simp only [eq_iff_iff, iff_true]
 intro z hz
 rw [k9] at hz
 obtain ⟨y, _, rfl⟩ := List.mem_map.1 hz
 obtain ⟨h1, h2, h3, h4, h5, _⟩ := aX y
 first | exact ⟨h1, h2, h3⟩ | exact ⟨h2, h1, h3⟩ | exact ⟨h1, h2⟩ | (constructor <;> first | assumption | simp [*])
def Ak (P : Px) (id : Nat) (xs : List AV) (H : List aa) (K : AV → List aa → Prop) : Prop := ∃ bP, xq xs bP ∧ lD P id bP H K
@[congr] theorem Oh {P : Px} {id : Nat} {xs xs' : List AV} {H H' : List aa} {K : AV → List aa → Prop} (h : gf xs = xs') (h2 : H = H') : Ak P id xs H K = Ak P id xs' H' K := by subst h; subst h2; rfl
theorem FR {P : Px} {env : Env} {H : List aa} (id : Nat) (args : List IX) (pass : Option Nat) (K : AV → Env → List aa → Prop) : oF P (.mM id) args pass env H K = Ak P id (aG env pass 0 args) H (fun r H' => K r (cF env (bc args pass)) H') := _root_.id rfl
theorem SW (id : Nat) : (AV.mM id).ab = .mM id := _root_.id rfl
theorem yr {P : Program} {id : Nat} {xs : List AV} {H : List aa} {R K : AV → List aa → Prop} (hc : jz P id xs H R) (hk : ∀ r H', R r H' → K r H') : Ak (P : Px) id xs H K := ⟨xs, b9 _, fe.mono hc hk⟩
theorem rZ {P : Program} (g : FuncId) (first cap : List AV) (lc : iz) (env : Env) (H : List aa) (K : Option Code → List aa → Prop) {R : AV → List aa → Prop} (he : ∀ (vs : Array Value) (w : World), (callFunc g vs).run P w = .ok (.enter g vs) w)
 (hc : aq P g (first.map AV.ab ++ [.mM H.length] ++ cap.map AV.ab) (H ++ [.loop .ready lc (kw lc.n env)]) R) (hk : ∀ r H', R r H' → behind H.length H' K) : vg (P : Px) (.fn (.func g) first cap) lc env H K :=
 ⟨he, _, b9 _, dZ.of (hc.mono hk)⟩
theorem Z7 (n : Nat) (hn : n < 4611686018427387904) (id : Nat) (G : Nat → List aa) (hl : ∀ j, (G j).length = (G 0).length) (hy : ∀ j, j < n → jz Tryz.prog id [.int .i64 (j : Int)] (G j) fun r H' => r = .bool true ∧ H' = G (j + 1)) :
 aq Tryz.prog 201 [.mM id, .ai (.int .i64 n)] (G 0) fun r H' => r = .tuple [] ∧ H' = G n := by
 refine Vg.2.calls rfl ?_
 simp only [Vg, aI]
 simp +contextual only [sZ, Nat.reduceEqDiff, Nat.reduceAdd, ↓reduceIte, reduceCtorEq]
 refine aE n (fun j => True) (fun j => [(0, .mM id), (1, .ai (.int .i64 n)), (3, .int .i64 j)]) G ⟨trivial, aA _ _ _⟩ fun j hj _ => ?_
 by_cases hjn : (j : Int) < n
 ·simp +contextual only [hjn, decide_true, FR, SW, sZ, Nat.reduceEqDiff, Nat.reduceAdd, ↓reduceIte, reduceCtorEq]
  refine yr (hy j (by omega)) ?_
  rintro r H' ⟨rfl, rfl⟩
  simp +contextual only [sZ, Nat.reduceEqDiff, ↓reduceIte, reduceCtorEq]
  exact ⟨j + 1, by omega, by omega, aF (by rw [au j (by omega)]) rfl⟩
 ·have e : j = n := by omega
  subst e
  simp +contextual only [hjn, decide_false, sZ, Nat.reduceEqDiff, ↓reduceIte, reduceCtorEq]
  exact qt (hl j).symm rfl
end Go.aK
end
section
set_option maxRecDepth 100000
namespace Go.aK
open Go Go.Proofs Go.fJ
def upto (n : Nat) : List Int := (List.range n).map Int.ofNat
theorem yu (n : Nat) : upto (n + 1) = upto n ++ [(n : Int)] := by simp [upto, List.range_succ]
theorem CE (n : Nat) : (upto n).length = n := by simp [upto]
theorem vK {n : Nat} {x : Int} : x ∈ upto n ↔ 0 ≤ x ∧ x < n := by
 simp only [upto, List.mem_map, List.mem_range]
 constructor
 ·rintro ⟨j, h, rfl⟩; exact ⟨Int.natCast_nonneg j, Int.ofNat_lt.2 h⟩
 ·intro h; exact ⟨x.toNat, by omega, by simp; omega⟩
def vL (j : Nat) : AV := match j with | 0 => .ah | j + 1 => .ap 1 (ints (upto (j + 1)))
theorem Kw (j : Nat) (h : j < 1000000000) (ψ : List AV → Prop) (hψ : ψ (ints (upto (j + 1)))) : bE 1 8 (vL j) (.ap 0 [.int .i64 (j : Int)]) ψ := by
 have e1 : ints (upto j) ++ [AV.int .i64 (j : Int)] = ints (upto (j + 1)) := by rw [yu]; simp [ints]
 have jS : ta 1 [AV.int .i64 (j : Int)] := of_eq_true (lV [(j : Int)])
 cases j with
 | zero =>
   rw [vL, oa]
   exact ⟨by simp, jS, hψ⟩
 | succ j =>
   rw [vL, ns]
   exact ⟨by rw [aw, CE]; simp; omega, jS, by rw [e1]; exact hψ⟩
theorem Kx (j : Nat) : (vL j).ab = bn (upto j) := by
 cases j with
 | zero => rfl
 | succ j => rw [vL, yu]; cases h : upto j <;> rfl
theorem Al : bY.n = 13 := by kernel_rfl
theorem vM : bY.ps = [7] := by kernel_rfl
theorem sc {id : Nat} {H : List aa} {K : List aa → Prop} {lc : iz} {es : List AV} (h : H[id]? = some (.loop .ready lc es)) : jG id H K = K (H.set id (.loop .busy lc es)) := by
 unfold jG; rw [h]
theorem EF {n0 id : Nat} {R : AV → List aa → Prop} {H : List aa} {lc : iz} {es : List AV} (h : H[id]? = some (.loop .busy lc es)) : pZ n0 id R .normal H = GI n0 true (H.set id (.loop .ready lc es)) R := by
 unfold pZ; rw [h]
theorem vN {id : Nat} {H : List aa} {K : Option Code → List aa → Prop} {lc : iz} {es : List AV} (h : H[id]? = some (.loop .ready lc es)) : behind id H K = K none (H.set id (.loop .eD lc es)) := by
 unfold behind; rw [h]
theorem vO {P : Px} {n0 : Nat} {ia ib : IR} {env : Env} {H : List aa} {id : Nat} {R : AV → List aa → Prop}
 (h : lj P n0 ia env H fun e env1 H1 => e = .normal ∧ jG id H1 fun H2 => lj P n0 ib env1 H2 fun e _ H3 => pZ n0 id R e H3) : ms P n0 ia env H fun e env1 H1 => e = .normal ∧ jG id H1 fun H2 => ms P n0 ib env1 H2 fun e _ H3 => pZ n0 id R e H3 := by
 refine tO h ?_
 rintro x e H' ⟨h1, h2⟩
 refine ⟨h1, ?_⟩
 unfold jG at *
 split at h2
 ·rename_i e'
  exact tO h2 fun _ _ _ h => h
 ·exact h2.elim
theorem Z8 (n : Nat) (hn : n < 1000000000) : Pure Tryz.prog 200 [.ah, .fn (.func 201) [] [.ai (.int .i64 n)]] (bn (upto n)) := by
 refine fun H => Vf.calls rfl ?_
 simp only [O5, O4]
 simp +contextual only [lT, sZ, Nat.reduceEqDiff, Nat.reduceAdd, ↓reduceIte, reduceCtorEq]
 have el : ∀ X : List aa, (H ++ X).length = H.length + X.length := fun X => List.length_append
 obtain ⟨es, yR⟩ : ∃ es, es = kw bY.n [(2, AV.ptr H.length 0), (6, AV.fn (.func 201) [] [.ai (.int .i64 n)])] := ⟨_, rfl⟩
 have ees : es = [.any, .any, .ptr H.length 0, .any, .any, .any, .fn (.func 201) [] [.ai (.int .i64 n)], .any, .any, .any, .any, .any, .any] := by rw [yR, Al]; rfl
 let G : Nat → List aa := fun j => H ++ [.cells [vL j], .loop .ready bY es]
 have hG : ∀ j, (G j).length = H.length + 2 := fun j => by simp [G]
 have g1 : ∀ j, (G j)[H.length + 1]? = some (.loop .ready bY es) := fun j => by simp [G]
 refine rZ (P := Tryz.prog) (R := fun r H' => r = .tuple [] ∧ H' = G n) 201 [] [.ai (.int .i64 n)] bY _ _ _ Tryz.call201 ?_ ?_
 ·rw [← yR]
  have e1 : (H ++ [aa.cells [AV.ah]]).length = H.length + 1 := by simp
  have e2 : (H ++ [aa.cells [AV.ah]] ++ [.loop .ready bY es]) = G 0 := by simp [G, vL]
  rw [e1, e2]
  refine Z7 n (by omega) (H.length + 1) G (fun j => by rw [hG, hG]) fun j hj => ?_
  refine nV (lc := bY) (es := es) (g1 j) Mw Mx ⟨by rw [ees, Al]; rfl, by rw [vM]; rfl, by rw [vM, Al]; rfl, ?_, ?_⟩ (vO ?_)
  ·rw [ees]; intro x hx; simp only [List.mem_cons, List.not_mem_nil, or_false] at hx
   rcases hx with rfl | rfl | rfl | rfl | rfl | rfl | rfl | rfl | rfl | rfl | rfl | rfl | rfl <;> rfl
  ·intro x hx; simp only [List.mem_cons, List.not_mem_nil, or_false] at hx; subst hx; rfl
  ·have ez : (bY.ps.zip [AV.int .i64 (j : Int)]).reverse ++ bW 0 es = (7, .int .i64 (j : Int)) :: bW 0 es := by rw [vM]; rfl
   rw [ez, ees]
   simp only [Fl, Fp]
   have hb : ∀ K, jG (H.length + 1) (G j) K = K (H ++ [.cells [vL j], .loop .busy bY es]) := fun K => by rw [sc (g1 j)]; simp [G]
   simp +contextual only [hb, sZ, Nat.reduceEqDiff, Nat.reduceAdd, Nat.reduceLT, ↓reduceIte, reduceCtorEq]
   refine Kw j (by omega) _ ?_
   have hz : ∀ x : AV, (H ++ [aa.cells [x], .loop .busy bY es])[H.length + 1]? = some (.loop .busy bY es) := fun x => by simp
   have km : (AV.ap 1 (ints (upto (j + 1)))).a7 (H.length + 1) = true := by rw [cZ]; exact bk _ _
   simp +contextual only [km, sZ, Nat.reduceEqDiff, Nat.reduceAdd, Nat.reduceLT, ↓reduceIte]
   rw [EF (hz _)]
   refine ⟨by simp [G], rfl, ?_⟩
   simp [G, vL]
   exact List.take_of_length_le (by simp)
 ·rintro r G' ⟨rfl, rfl⟩
  have e1 : (H ++ [aa.cells [AV.ah]]).length = H.length + 1 := by simp
  rw [e1, vN (g1 n)]
  have e3 : (G n).set (H.length + 1) (.loop .eD bY es) = H ++ [.cells [vL n], .loop .eD bY es] := by simp [G]
  rw [e3]
  simp +contextual only [oY, sZ, Nat.reduceAdd, Nat.reduceLT, ↓reduceIte, reduceCtorEq]
  have e4 : (vL n).ab.ab = bn (upto n) := by rw [Kx]; exact (aD _).2.1
  rw [e4]
  exact JX ((aD _).2.2.1 _) rfl
theorem Z9 (n : Nat) (hn : n < 1000000000) : Pure Tryz.prog 152 [.fn (.func 201) [] [.ai (.int .i64 n)]] (bn (upto n)) := by
 refine fun H => UQ.2.calls rfl ?_
 simp only [UQ, aI]
 simp +contextual only [sZ, Nat.reduceAdd, ↓reduceIte, reduceCtorEq]
 refine ae (Z8 n hn) ?_
 have e4 : (bn (upto n)).ab = bn (upto n) := (aD _).2.1
 simp +contextual only [e4, sZ, ↓reduceIte, reduceCtorEq]
 exact aY ((aD _).2.2.1 _) rfl
theorem aaa (n : Int) : Pure Tryz.prog 153 [.int .i64 n] (.fn (.func 201) [] [.ai (.int .i64 n)]) := by
 refine fun H => UR.2.calls rfl ?_
 simp only [UR, aI]
 simp +contextual only [sZ, Nat.reduceEqDiff, Nat.reduceAdd, ↓reduceIte, reduceCtorEq]
 exact aY rfl rfl
end Go.aK
end
section
set_option maxRecDepth 100000
namespace Go.aK
open Go Go.Proofs Go.fJ
def ja (c : Cx) (i k : Int) (p : PP) : Prop := ∀ H, Du c H → aq Tryz.prog 87 [.ptr c.d 0, .int .i64 i, .int .i64 k, dV p] H (iv c (Sh c.O p (c.tm i) (c.tm k)) H)
theorem aab {c : Cx} {b : List Int} {vb : AV} (hb : IL vb b) {q : Nat} {i j : Int} {l : List PP} (hj : 0 ≤ j ∧ j < b.length) (hl : l.length = b.length) (h : ja c i (b.getD j.toNat 0) (l.getD j.toNat default)) {G : List aa} (hD : Du c G) (gq : G[q]? = some (.cells [vb])) :
 aq Tryz.prog 154 [.int .i64 j, .ai (.ptr c.d 0), .ai (.int .i64 i), .ptr q 0, .ai (.ap 0 (dU l))] G (iv c (¬ Sh c.O (l.getD j.toNat default) (c.tm i) (c.tm (b.getD j.toNat 0))) G) := by
 refine US.2.calls rfl ?_
 simp only [US, aI]
 obtain ⟨b1, b2, b3, b4⟩ := hb.one
 obtain ⟨p1, p2, p3, p4, p5, p6, p7, p8, p9⟩ := aX (l.getD j.toNat default)
 simp +contextual only [gq, b2, hb.lens, hb.idx, Aj, qL, qM, p4, sZ, Nat.reduceEqDiff, Nat.reduceAdd, Nat.reduceLT, ↓reduceIte, reduceCtorEq]
 refine ⟨hj, ⟨hj.1, by omega⟩, af (h G hD) ?_⟩
 rintro r G' ⟨z, rfl, hz, hU, jf⟩
 simp +contextual only [sZ, ↓reduceIte, reduceCtorEq]
 refine eo (b := !z) rfl ?_ hU jf
 rw [← hz]; cases z <;> simp
theorem cc {b : List Int} {f : Int → T} {j : Nat} (h : j < b.length) : (b.map f).getD j default = f (b.getD j 0) := by simp [h]
theorem SX {c : Cx} {b : List Int} {vb : AV} (hb : IL vb b) (lb : b.length < 1000000000) {q : Nat} (hq : q ≠ c.e ∧ q ≠ c.g) {i : Int} {l : List PP} (h : ∀ j, j < b.length → j < l.length → ja c i (b.getD j 0) (l.getD j default)) {G : List aa} (hD : Du c G) (gq : G[q]? = some (.cells [vb])) :
 aq Tryz.prog 151 [.ap 0 (dU l), .ptr q 0, .ai (.ptr c.d 0), .ai (.int .i64 i)] G (iv c (k8 (Sh c.O) l (c.tm i) (b.map c.tm)) G) := by
 refine UP.2.calls rfl ?_
 simp only [UP, aI]
 obtain ⟨b1, b2, b3, b4⟩ := hb.one
 simp +contextual only [gq, b2, hb.aL, hb.len (by omega), eB, sZ, Nat.reduceEqDiff, Nat.reduceAdd, Nat.reduceLT, ↓reduceIte, reduceCtorEq]
 have e1 : k8 (Sh c.O) l (c.tm i) (b.map c.tm) ↔ l.length = b.length ∧ ∀ j, j < b.length → Sh c.O (l.getD j default) (c.tm i) (c.tm (b.getD j 0)) := by
  unfold k8
  rw [List.length_map]
  refine and_congr_right fun _ => ⟨fun h j hj => ?_, fun h j hj => ?_⟩
  ·have := h j hj; rwa [cc hj] at this
  ·rw [cc hj]; exact h j hj
 refine fun Ln => ⟨fun he => ?_, fun ep => ?_⟩
 ·refine ae (aaa _) ?_
  simp +contextual only [sZ, Nat.reduceEqDiff, Nat.reduceAdd, ↓reduceIte]
  refine ae (Z9 b.length lb) ?_
  have k2 : ∀ l, (bn l).ab = bn l := fun l => (aD l).2.1
  simp +contextual only [k2, sZ, Nat.reduceEqDiff, Nat.reduceAdd, ↓reduceIte, reduceCtorEq]
  refine af (Cp (SD.z7 c G) (.inl rfl : IL (bn (upto b.length)) (upto b.length)) (by rw [CE]; omega) 154 [] [.ai (.ptr c.d 0), .ai (.int .i64 i), .ptr q 0, .ai (.ap 0 (dU l))] rfl rfl (Q := fun j => ¬ Sh c.O (l.getD j.toNat default) (c.tm i) (c.tm (b.getD j.toNat 0)))
   (fun x hx G' ej => ?_) ⟨hD, Up.refl c G⟩) ?_
  ·have hx := vK.1 hx
   exact (aab hb ⟨hx.1, hx.2⟩ (by omega) (h x.toNat (by omega) (by omega)) ej.1 (by rw [ej.2.get q hq.1 hq.2, gq])).mono fun r H' hr => hr.sb ej
  ·rintro r G' ⟨z, rfl, hz, ej⟩
   simp +contextual only [sZ, Nat.reduceEqDiff, ↓reduceIte, reduceCtorEq]
   refine eo (b := !z) rfl ?_ ej.2 ej.1
   rw [e1]
   cases z with
   | true =>
     obtain ⟨x, hx, hn⟩ := hz.1 rfl
     have hx := vK.1 hx
     exact ⟨fun h => by simp at h, fun h => absurd (h.2 x.toNat (by omega)) hn⟩
   | false =>
     refine ⟨fun _ => ⟨by omega, fun j hj => ?_⟩, fun _ => rfl⟩
     by_cases hs : Sh c.O (l.getD j default) (c.tm i) (c.tm (b.getD j 0))
     ·exact hs
     ·exact absurd (hz.2 ⟨(j : Int), vK.2 ⟨by omega, by omega⟩, hs⟩) (by simp)
 ·refine eo rfl ⟨fun h => by simp at h, fun h => ?_⟩ (Up.refl c G) hD
  have := (e1.1 h).1
  exact absurd (by omega) ep
end Go.aK
end
section
set_option maxRecDepth 100000
namespace Go.aK
open Go Go.Proofs Go.fJ
theorem EG {P : Px} {t : DT} {f : AV → Env} {v : AV} {H0 H : List aa} {K1 K2 : Env → List aa → Prop} (h : gR v H0 fun x => iV P t (f x) H K1) (hk : ∀ e G, K1 e G → K2 e G) : gR v H0 fun x => iV P t (f x) H K2 := by
 unfold gR at *
 split at h
 ·exact dz h hk
 ·unfold eY at *
  split at h <;> first | exact dz h hk | exact h.elim | (intro hl; exact dz (h hl) hk) | skip
  all_goals (split at h <;> first | exact dz h hk | exact h.elim)
structure CS (c : Cx) (H : List aa) (p q : Nat) (ts ps : List Int) (G : List aa) : Prop where
 du : Du c G
 gp : G[p]? = some (cQ ts)
 gq : G[q]? = some (cQ ps)
 len : G.length = H.length + 2
 up : ∀ j, j < H.length → j ≠ c.e → j ≠ c.g → G[j]? = H[j]?
structure PQ (H : List aa) (p q : Nat) : Prop where
 ne : p ≠ q
 p1 : H.length ≤ p
 q1 : H.length ≤ q
theorem CS.call {c : Cx} {H G G' : List aa} {p q : Nat} {ts ps : List Int} (hD : Du c H) (w : PQ H p q) (h : CS c H p q ts ps G) (hU : Up c G G') (jf : Du c G') : CS c H p q ts ps G' := by
 obtain ⟨l1, l2, l3⟩ := hD.lt
 obtain ⟨w1, w2, w3⟩ := w
 exact ⟨jf, by rw [hU.get p (by omega) (by omega), h.gp], by rw [hU.get q (by omega) (by omega), h.gq], by rw [hU.len, h.len], fun j h1 h2 h3 => by rw [hU.get j h2 h3, h.up j h1 h2 h3]⟩
theorem CS.aac {c : Cx} {H G : List aa} {p q : Nat} {ts ps ts' : List Int} (hD : Du c H) (w : PQ H p q) (h : CS c H p q ts ps G) : CS c H p q ts' ps (G.set p (cQ ts')) := by
 obtain ⟨l1, l2, l3⟩ := hD.lt
 obtain ⟨w1, w2, w3⟩ := w
 have hp := aN h.gp
 exact ⟨h.du.set (by omega) (by omega) (by omega), by rw [List.getElem?_set_self hp], by rw [List.getElem?_set_ne w1, h.gq], by rw [List.length_set, h.len], fun j h1 h2 h3 => by rw [List.getElem?_set_ne (by omega), h.up j h1 h2 h3]⟩
theorem CS.aad {c : Cx} {H G : List aa} {p q : Nat} {ts ps ps' : List Int} (hD : Du c H) (w : PQ H p q) (h : CS c H p q ts ps G) : CS c H p q ts ps' (G.set q (cQ ps')) := by
 obtain ⟨l1, l2, l3⟩ := hD.lt
 obtain ⟨w1, w2, w3⟩ := w
 have hq := aN h.gq
 exact ⟨h.du.set (by omega) (by omega) (by omega), by rw [List.getElem?_set_ne (Ne.symm w1), h.gp], by rw [List.getElem?_set_self hq], by rw [List.length_set, h.len], fun j h1 h2 h3 => by rw [List.getElem?_set_ne (by omega), h.up j h1 h2 h3]⟩
theorem CS.fin {c : Cx} {H G : List aa} {p q : Nat} {ts ps : List Int} (hD : Du c H) (h : CS c H p q ts ps G) {b : Bool} {Q : Prop} (hb : b = true ↔ Q) {s : Nat} : bV H.length [.t s] [(s, .bool b)] G (iv c Q H) := by
 obtain ⟨l1, l2, l3⟩ := hD.lt
 refine aV H.length (Nat.le_refl _) (by rw [ax, if_pos rfl]; rfl) ?_
 rw [ax, if_pos rfl]
 refine ⟨b, rfl, hb, ⟨by rw [List.length_take, h.len]; omega, fun j h1 h2 => ?_⟩, h.du.take l1 l2 l3⟩
 rw [List.getElem?_take]
 split
 ·rename_i hj; exact h.up j hj h1 h2
 ·rename_i hj; rw [List.getElem?_eq_none (by omega)]
def HQ (c : Cx) (to : List Int) (l : List PP) (a b : List Int) : Prop :=
 to.length = b.length ∧ l.length = b.length ∧
 (∀ j, j < b.length → (0 ≤ to.getD j 0 ∧ to.getD j 0 < a.length) ∧
   (if (l.getD j default).nil then E c.O (c.tm (a.getD (to.getD j 0).toNat 0)) (c.tm (b.getD j 0)) else Sh c.O (l.getD j default) (c.tm (a.getD (to.getD j 0).toNat 0)) (c.tm (b.getD j 0)))) ∧
 (∀ x : Nat, x < a.length → 0 < dg to l x b.length → dm to x b.length ≤ 1) ∧ ∃ x : Nat, x < a.length ∧ dg to l x b.length = 0
theorem CF {c : Cx} {to : List Int} {l : List PP} {a b : List Int} : HQ c to l a b ↔ PJ (E c.O) (Sh c.O) to l (a.map c.tm) (b.map c.tm) := by
 unfold HQ PJ
 simp only [List.length_map]
 refine and_congr_right fun _ => and_congr_right fun _ => and_congr_left fun _ => ⟨fun h j hj => ?_, fun h j hj => ?_⟩
 ·obtain ⟨h1, h2⟩ := h j hj
  refine ⟨h1, ?_⟩
  rw [cc (by omega), cc hj]; exact h2
 ·obtain ⟨h1, h2⟩ := h j hj
  rw [cc (by omega), cc hj] at h2
  exact ⟨h1, h2⟩
structure CI (c : Cx) (to : List Int) (l : List PP) (a b ts ps : List Int) (j : Nat) : Prop where
 lt : ts.length = a.length
 lp : ps.length = a.length
 t : ∀ x : Nat, x < a.length → ts.getD x 0 = dm to x j
 p : ∀ x : Nat, x < a.length → ps.getD x 0 = dg to l x j
 ok : ∀ j', j' < j → (0 ≤ to.getD j' 0 ∧ to.getD j' 0 < a.length) ∧
  (if (l.getD j' default).nil then E c.O (c.tm (a.getD (to.getD j' 0).toNat 0)) (c.tm (b.getD j' 0)) else Sh c.O (l.getD j' default) (c.tm (a.getD (to.getD j' 0).toNat 0)) (c.tm (b.getD j' 0)))
theorem CI.step {c : Cx} {to : List Int} {l : List PP} {a b ts ps ps' : List Int} {j z : Nat} (h : CI c to l a b ts ps j) (hz : z < a.length) (ht : to.getD j 0 = z) (hp : ps' = if (l.getD j default).nil then ps.set z (ps.getD z 0 + 1) else ps)
 (hq : if (l.getD j default).nil then E c.O (c.tm (a.getD z 0)) (c.tm (b.getD j 0)) else Sh c.O (l.getD j default) (c.tm (a.getD z 0)) (c.tm (b.getD j 0))) : CI c to l a b (ts.set z (ts.getD z 0 + 1)) ps' (j + 1) := by
 obtain ⟨h1, h2, h3, h4, h5⟩ := h
 refine ⟨by simp [h1], by rw [hp]; split <;> simp [h2], fun x hx => ?_, fun x hx => ?_, fun j' tS => ?_⟩
 ·rw [kW (by omega), dm, ht]
  by_cases e : x = z
  ·subst e; rw [if_pos rfl, if_pos rfl, h3 x hx]; omega
  ·rw [if_neg e, if_neg (by omega), h3 x hx]; omega
 ·rw [hp, dg, ht]
  by_cases hn : (l.getD j default).nil
  ·rw [if_pos hn, kW (by omega)]
   by_cases e : x = z
   ·subst e; rw [if_pos rfl, if_pos ⟨rfl, hn⟩, h4 x hx]; omega
   ·rw [if_neg e, if_neg (fun h => by have := h.1; omega), h4 x hx]; omega
  ·rw [if_neg hn, if_neg (fun h => hn h.2), h4 x hx]; omega
 ·by_cases e : j' = j
  ·subst e; rw [ht]; exact ⟨by omega, hq⟩
  ·exact h5 j' (by omega)
theorem sd (to : List Int) (x : Int) : ∀ n, dm to x n ≤ n
 | 0 => Nat.le_refl _
 | n + 1 => by rw [dm]; have := sd to x n; split <;> omega
theorem HR (to : List Int) (l : List PP) (x : Int) (n : Nat) : dg to l x n ≤ n := Nat.le_trans (nF n) (sd to x n)
theorem CG {m n : Nat} (hm : m < 9223372036854775808) (hn : n < 9223372036854775808) : IntKind.i64.wrap ((m : Int) + (n : Int)) = 0 ↔ m = 0 ∧ n = 0 := by
 rw [IntKind.wrap_i64]
 omega
theorem yv (n x : Nat) : (dH 0 n 0).getD x 0 = 0 := by
 simp only [dH, List.replicate_zero, List.nil_append, Nat.sub_zero, List.getD_eq_getElem?_getD, List.getElem?_replicate]
 split <;> rfl
end Go.aK
end
section
set_option maxRecDepth 100000
namespace Go.aK
open Go Go.Proofs Go.fJ
theorem aae {c : Cx} {a b : List Int} {va vb : AV} (ha : IL va a) (hb : IL vb b) (la : a.length ≤ 1000000000) (lb : b.length ≤ 1000000000) (p : PP) (hs : ∀ x ∈ a, ∀ y ∈ b, ke c x y) (hh : ∀ x ∈ a, ∀ y ∈ b, ∀ q ∈ p.l, ja c x y q) {H : List aa} (hD : Du c H) :
 aq Tryz.prog 156 [.ptr c.d 0, va, vb, dV p] H (iv c (HQ c p.to p.l a b) H) := by
 refine UU.2.calls rfl ?_
 simp only [UU, aI]
 obtain ⟨a1, a2, a3, a4⟩ := ha.one
 obtain ⟨b1, b2, b3, b4⟩ := hb.one
 obtain ⟨p1, p2, p3, p4, p5, p6, p7, p8, p9⟩ := aX p
 have no : ¬ HQ c p.to p.l a b → bV H.length [.t 8] [(8, .bool false)] H (iv c (HQ c p.to p.l a b) H) := fun h => eo rfl ⟨fun h => by simp at h, fun h' => absurd h' h⟩ (Up.refl c H) hD
 by_cases h1 : p.to.length = b.length
 ·by_cases h2 : p.l.length = b.length
  ·have d1 : decide ((p.to.length : Int) ≠ b.length) = false := decide_eq_false (by omega)
   have d2 : decide ((p.l.length : Int) ≠ b.length) = false := decide_eq_false (by omega)
   simp +contextual only [a2, b2, p1, Og, Kv, ha.aL, hb.aL, hb.len (by omega), aw, eB, h1, h2, not_true_eq_false, decide_false, sZ, Nat.reduceEqDiff, Nat.reduceAdd, ↓reduceIte, reduceCtorEq]
   intro _
   refine EG (K1 := fun e G => get e 0 = .ptr c.d 0 ∧ get e 1 = va ∧ get e 2 = vb ∧ get e 7 = .ai (dV p) ∧ ∃ x y, get e 9 = .bf x 0 a.length a.length ∧ get e 10 = .bf y 0 a.length a.length ∧ PQ H x y ∧ CS c H x y (dH 0 a.length 0) (dH 0 a.length 0) G) ?_ ?_
   ·have key : ∀ G, G = H ++ [cQ (dH 0 a.length 0), cQ (dH 0 a.length 0)] → CS c H H.length (H.length + 1) (dH 0 a.length 0) (dH 0 a.length 0) G ∧ CS c H (H.length + 1) H.length (dH 0 a.length 0) (dH 0 a.length 0) G := by
     rintro G rfl
     exact ⟨⟨hD.rQ _, by simp, by simp, by simp, fun j hj _ _ => List.getElem?_append_left hj⟩, ⟨hD.rQ _, by simp, by simp, by simp, fun j hj _ _ => List.getElem?_append_left hj⟩⟩
    have A := key _ rfl
    simp +contextual only [a2, ha.vB, ha.aL, mkI _ _ _ la, sZ, Nat.reduceEqDiff, Nat.reduceAdd, ↓reduceIte, reduceCtorEq]
    refine ⟨⟨_, _, rfl, rfl, ⟨by omega, by omega, by omega⟩, ?_⟩, ⟨_, _, rfl, rfl, ⟨by omega, by omega, by omega⟩, ?_⟩⟩
    ·exact A.1
    ·exact A.2
   ·rintro e G ⟨e0, e1, e2, e7, x, y, e9, e10, hw, xi⟩
    simp +contextual only [e0, e1, e2, e7, e9, e10, Og, aw, h1, sZ, Nat.reduceEqDiff, ↓reduceIte, reduceCtorEq]
    intro _
    refine aM b.length (fun j (s : List aa × List Int × List Int) => CS c H x y s.2.1 s.2.2 s.1 ∧ CI c p.to p.l a b s.2.1 s.2.2 j)
     (fun j s => [(0, .ptr c.d 0), (1, va), (2, vb), (7, .ai (dV p)), (9, .bf x 0 a.length a.length), (10, .bf y 0 a.length a.length), (37, .ap 0 (ints p.to)), (38, .int .i64 b.length), (39, .int .i64 j)])
     (fun j s => s.1) (G, dH 0 a.length 0, dH 0 a.length 0) ⟨⟨xi, ?_⟩, aA _ _ _⟩ fun j s hj hI => ?_
    ·exact ⟨by simp [dH], by simp [dH], fun z _ => by rw [yv]; rfl, fun z _ => by rw [yv]; rfl, fun j h => by omega⟩
    ·obtain ⟨G, ts, ps⟩ := s
     obtain ⟨xi, E0⟩ := hI
     simp only at xi E0
     by_cases Ky : (j : Int) < b.length
     ·have pD : j < b.length := by omega
      obtain ⟨to, AE⟩ : ∃ to, p.to.getD j 0 = to := ⟨_, rfl⟩
      by_cases r1 : to < 0
      ·simp +contextual only [Ky, decide_true, cA, Int.toNat_natCast, AE, r1, sZ, Nat.reduceEqDiff, ↓reduceIte, reduceCtorEq]
       refine ⟨by omega, xi.fin hD ⟨fun h => by simp at h, fun h => ?_⟩⟩
       have := (h.2.2.1 j pD).1; omega
      ·by_cases r2 : (a.length : Int) ≤ to
       ·simp +contextual only [Ky, decide_true, decide_false, a2, ha.aL, ha.len (by omega), cA, Int.toNat_natCast, AE, r1, r2, sZ, Nat.reduceEqDiff, ↓reduceIte, reduceCtorEq]
        refine ⟨by omega, xi.fin hD ⟨fun h => by simp at h, fun h => ?_⟩⟩
        have := (h.2.2.1 j pD).1; omega
       ·obtain ⟨z, rfl⟩ := Int.eq_ofNat_of_zero_le (show 0 ≤ to by omega)
        have hz : z < a.length := by omega
        have gt := xi.gp
        have gp := xi.gq
        have lt := E0.lt
        have lp := E0.lp
        have WK : z < ts.length := by omega
        have TL : z < ps.length := by omega
        simp +contextual only [Ky, decide_true, decide_false, a2, ha.aL, ha.len (by omega), cA, Int.toNat_natCast, AE, r1, r2, kC, gt, z9 WK, Kk WK, sZ, Nat.reduceEqDiff, ↓reduceIte, reduceCtorEq]
        have HS := xi.aac (ts' := ts.set z (IntKind.i64.wrap (ts.getD z 0 + 1))) hD hw
        have tz := E0.t z hz
        have AA := sd p.to z j
        rw [ee _ (by omega)] at HS ⊢
        generalize G.set x (cQ (ts.set z (ts.getD z 0 + 1))) = G1 at HS ⊢
        have ql : p.l.getD j default ∈ p.l := dT (by omega)
        obtain ⟨q, hq⟩ : ∃ q, p.l.getD j default = q := ⟨_, rfl⟩
        rw [hq] at ql
        obtain ⟨q1, q2, q3, q4, q5, q6, q7, q8, q9⟩ := aX q
        refine ⟨by omega, hz, hz, ?_⟩
        simp +contextual only [Kv, Aj, qL, qM, hq, Int.toNat_natCast, q1, q2, q3, CD, C6, Og, aw, eB, sZ, Nat.reduceEqDiff, ↓reduceIte, reduceCtorEq]
        refine ⟨by omega, fun hr => ⟨fun hi l1 l2 => ⟨fun Iw => ?_, fun Iw => ?_⟩, fun hi => ?_⟩, fun hr => ?_⟩
        ·have hwz := (CG l1 l2).1 Iw
         have tc : (p.l.getD j default).nil := by rw [hq]; exact ⟨hr, hi, List.length_eq_zero_iff.1 hwz.1, List.length_eq_zero_iff.1 hwz.2⟩
         have gp1 := HS.gq
         have Oi := HS.aad (ps' := ps.set z (IntKind.i64.wrap (ps.getD z 0 + 1))) hD hw
         have tp := E0.p z hz
         have ple := HR p.to p.l z j
         simp +contextual only [kC, gp1, z9 TL, Kk TL, sZ, Nat.reduceEqDiff, ↓reduceIte, reduceCtorEq]
         rw [ee _ (by omega)] at Oi ⊢
         generalize G1.set y (cQ (ps.set z (ps.getD z 0 + 1))) = G2 at Oi ⊢
         refine ⟨hz, hz, ?_⟩
         simp +contextual only [a2, b2, ha.lens, hb.lens, ha.idx, hb.idx, Int.toNat_natCast, sZ, Nat.reduceEqDiff, Nat.reduceAdd, ↓reduceIte, reduceCtorEq]
         refine ⟨by omega, by omega, af (hs _ (aO hz) _ (aO pD) G2 Oi.du) ?_⟩
         rintro r G3 ⟨w, rfl, WL, hU, Kj⟩
         have Kz := Oi.call hD hw hU Kj
         cases w with
         | false =>
           simp +contextual only [Bool.not_false, sZ, Nat.reduceEqDiff, ↓reduceIte, reduceCtorEq]
           refine Kz.fin hD ⟨fun h => by simp at h, fun h => ?_⟩
           have := (h.2.2.1 j pD).2
           rw [if_pos tc, AE, Int.toNat_natCast] at this
           exact WL.2 this
         | true =>
           simp +contextual only [Bool.not_true, sZ, Nat.reduceEqDiff, ↓reduceIte, reduceCtorEq]
           refine ⟨j + 1, (G3, _, _), ⟨pD, Kz, E0.step hz AE (by rw [if_pos tc]) (by rw [if_pos tc]; exact WL.1 rfl)⟩, by omega, aF (by rw [au j (by omega)]) rfl⟩
        all_goals
         have tc : ¬ (p.l.getD j default).nil := by
          rw [hq]
          rintro ⟨n1, n2, n3, n4⟩
          first | exact hr n1 | exact hi n2 | exact Iw ((CG l1 l2).2 ⟨by rw [n3]; rfl, by rw [n4]; rfl⟩)
         simp +contextual only [a2, b2, q4, ha.lens, hb.lens, ha.idx, hb.idx, Int.toNat_natCast, qM, sZ, Nat.reduceEqDiff, Nat.reduceAdd, ↓reduceIte, reduceCtorEq]
         refine ⟨by omega, by omega, af (hh _ (aO hz) _ (aO pD) q ql G1 HS.du) ?_⟩
         rintro r G3 ⟨w, rfl, WL, hU, Kj⟩
         have Kz := HS.call hD hw hU Kj
         cases w with
         | false =>
           simp +contextual only [Bool.not_false, sZ, Nat.reduceEqDiff, ↓reduceIte, reduceCtorEq]
           refine Kz.fin hD ⟨fun h => by simp at h, fun h => ?_⟩
           have := (h.2.2.1 j pD).2
           rw [if_neg tc, AE, hq, Int.toNat_natCast] at this
           exact WL.2 this
         | true =>
           simp +contextual only [Bool.not_true, sZ, Nat.reduceEqDiff, ↓reduceIte, reduceCtorEq]
           refine ⟨j + 1, (G3, _, _), ⟨pD, Kz, E0.step hz AE (by rw [if_neg tc]) (by rw [if_neg tc, hq]; exact WL.1 rfl)⟩, by omega, aF (by rw [au j (by omega)]) rfl⟩
     ·have WM : j = b.length := by omega
      subst WM
      simp +contextual only [Ky, decide_false, a2, ha.aL, ha.len (by omega), sZ, Nat.reduceEqDiff, ↓reduceIte, reduceCtorEq]
      refine aM a.length (fun x' (f : Bool) => (∀ z : Nat, z < x' → 0 < dg p.to p.l z b.length → dm p.to z b.length ≤ 1) ∧ (f = true ↔ ∃ z : Nat, z < x' ∧ dg p.to p.l z b.length = 0))
       (fun x' f => [(9, .bf x 0 a.length a.length), (10, .bf y 0 a.length a.length), (14, .bool f), (112, .int .i64 a.length), (113, .int .i64 x')]) (fun _ _ => G) false
       ⟨⟨fun z h => by omega, ⟨fun h => by simp at h, fun ⟨z, h, _⟩ => by omega⟩⟩, aA _ _ _⟩ fun z f hz hI => ?_
      obtain ⟨jR, C3⟩ := hI
      by_cases Lk : (z : Int) < a.length
      ·have iN : z < a.length := by omega
       have gt := xi.gp
       have gp := xi.gq
       have lt := E0.lt
       have lp := E0.lp
       have WK : z < ts.length := by omega
       have TL : z < ps.length := by omega
       have tz := E0.t z iN
       have pz := E0.p z iN
       by_cases k1 : dg p.to p.l z b.length = 0
       ·have p0 : ps.getD z 0 = 0 := by omega
        cases f <;>
         (simp +contextual only [Lk, decide_true, kC, gp, z9 TL, p0, Int.lt_irrefl, decide_false, sZ, Nat.reduceEqDiff, ↓reduceIte, reduceCtorEq]
          refine ⟨iN, ?_⟩
          first
           | refine ⟨iN, z + 1, true, ⟨iN, fun z' Ie => ?_, ⟨fun _ => ⟨z, by omega, k1⟩, fun _ => rfl⟩⟩, by omega, aF (by rw [au z (by omega)]) rfl⟩
           | refine ⟨z + 1, true, ⟨iN, fun z' Ie => ?_, ⟨fun _ => ⟨z, by omega, k1⟩, fun _ => rfl⟩⟩, by omega, aF (by rw [au z (by omega)]) rfl⟩
          by_cases e : z' = z
          ·subst e; intro h; omega
          ·exact jR z' (by omega))
       ·have p0 : (0 < ps.getD z 0) = True := eq_true (by omega)
        have p1' : (ps.getD z 0 = 0) = False := eq_false (by omega)
        by_cases k2 : dm p.to z b.length ≤ 1
        ·have t0 : (1 < ts.getD z 0) = False := eq_false (by omega)
         have nxt : (∀ z' : Nat, z' < z + 1 → 0 < dg p.to p.l z' b.length → dm p.to z' b.length ≤ 1) := by
          intro z' Ie
          by_cases e : z' = z
          ·subst e; intro _; exact k2
          ·exact jR z' (by omega)
         have nfr : (f = true ↔ ∃ z' : Nat, z' < z + 1 ∧ dg p.to p.l z' b.length = 0) := by
          rw [C3]
          constructor
          ·rintro ⟨z', h1, h2⟩; exact ⟨z', by omega, h2⟩
          ·rintro ⟨z', h1, h2⟩
           have : z' ≠ z := fun e => k1 (e ▸ h2)
           exact ⟨z', by omega, h2⟩
         cases f <;>
          (simp +contextual only [Lk, decide_true, kC, gt, gp, z9 WK, z9 TL, p0, p1', t0, decide_false, sZ, Nat.reduceEqDiff, ↓reduceIte, reduceCtorEq]
           refine ⟨iN, iN, ?_⟩
           first
            | exact ⟨iN, z + 1, _, ⟨iN, nxt, nfr⟩, by omega, aF (by rw [au z (by omega)]) rfl⟩
            | exact ⟨z + 1, _, ⟨iN, nxt, nfr⟩, by omega, aF (by rw [au z (by omega)]) rfl⟩)
        ·have t0 : (1 < ts.getD z 0) = True := eq_true (by omega)
         simp +contextual only [Lk, decide_true, kC, gt, gp, z9 WK, z9 TL, p0, t0, sZ, Nat.reduceEqDiff, ↓reduceIte, reduceCtorEq]
         refine ⟨iN, iN, xi.fin hD ⟨fun h => by simp at h, fun h => ?_⟩⟩
         exact absurd (h.2.2.2.1 z iN (by omega)) k2
      ·have hze : z = a.length := by omega
       subst hze
       simp +contextual only [Lk, decide_false, sZ, Nat.reduceEqDiff, ↓reduceIte, reduceCtorEq]
       refine xi.fin hD ?_
       rw [C3]
       exact ⟨fun h => ⟨h1, h2, E0.ok, jR, h⟩, fun h => h.2.2.2.2⟩
  ·have d1 : decide ((p.to.length : Int) ≠ b.length) = false := decide_eq_false (by omega)
   have d2 : ((p.l.length : Int) = b.length) = False := eq_false (by omega)
   simp +contextual only [b2, p1, Og, Kv, hb.aL, hb.len (by omega), aw, eB, h1, d2, not_true_eq_false, not_false_eq_true, decide_false, decide_true, sZ, Nat.reduceEqDiff, Nat.reduceAdd, ↓reduceIte, reduceCtorEq]
   intro _ _
   exact no fun h => h2 h.2.1
 ·have d1 : ((p.to.length : Int) = b.length) = False := eq_false (by omega)
  simp +contextual only [b2, p1, Og, hb.aL, hb.len (by omega), aw, d1, not_false_eq_true, decide_true, sZ, Nat.reduceEqDiff, Nat.reduceAdd, ↓reduceIte, reduceCtorEq]
  intro _
  exact no fun h => h1 h.1
end Go.aK
end
section
set_option maxRecDepth 100000
set_option maxHeartbeats 0
namespace Go.aK
open Go Go.Proofs
noncomputable def w9 := aI Tryz.call87 Tryz.func87 Tryz.ntmps87 [(0,0,1),(0,1,1),(0,2,1),(12,7,2000),(13,11,2000),(17,10,2000),(20,36,2000),(23,3,2000),(24,20,2000),(24,27,2000),(26,10,2000)] [(0,[2,4,5,7]),(1,[2,4,5,7,9,10]),(2,[2,4,5,7,9,10,11]),(3,[2,4,5,7,9,10,11,14]),(4,[2,4,5,7,9,10,11,76]),(5,[8]),(6,[2,4,5,7,9,10,11,15,16]),(7,[2,4,5,7,9,10,11,15,16,85]),(8,[2,4,5,7,9,10,11,15,16,85,86]),(9,[2,4,7,9,103]),(10,[8]),(11,[2,4,7,9,107]),(12,[8]),(13,[8]),(14,[2,4,5,7,9,10,11,15,16,85,128]),(15,[2,4,7,11,17]),(16,[7,11,17,20,22]),(17,[8]),(18,[4,7,9,10,11,15,16,85,156]),(19,[4,7,11,15,16,23,24]),(20,[4,7,11,23,24,202]),(21,[8]),(22,[4,7,11,23,24,207]),(23,[8]),(24,[8]),(25,[4,7,9,10,15,16,241]),(26,[8]),(27,[8])] [(1,(.take 0 true (.take 1 true (.take 2 true (.take 3 true (.take 4 true (.take 5 true (.take 6 true (.take 7 true (.take 8 true (.take 9 true (.take 10 true (.take 11 true (.take 12 true (.take 13 true (.take 14 true (.take 15 true (.br 16 (.take 17 true (.br 18 .done .nil)) .nil)))))))))))))))))),(12,(.take 0 true (.take 1 true (.take 2 true (.take 3 true (.take 4 true (.take 5 true (.take 6 true (.br 7 (.take 8 true .done) .nil))))))))),(13,(.take 0 true (.take 1 true (.take 2 true (.take 3 true (.take 4 true (.take 5 true (.take 6 true (.take 7 true (.take 8 true (.take 9 true (.take 10 true (.br 11 (.take 12 true .done) .nil))))))))))))),(19,(.take 0 true (.take 1 true (.take 2 true (.take 3 true (.take 4 true (.take 5 true (.take 6 true (.take 7 true .done))))))))),(20,(.take 0 true (.take 1 true (.take 2 true (.take 3 true (.take 4 true (.take 5 true (.take 6 true (.take 7 true (.take 8 true (.take 9 true (.take 10 true (.take 11 true (.take 12 true (.take 13 true (.take 14 true (.take 15 true (.take 16 true (.take 17 true (.take 18 true (.take 19 true (.take 20 true (.take 21 true (.take 22 true (.take 23 true (.take 24 true (.take 25 true (.take 26 true (.take 27 true (.take 28 true (.take 29 true (.take 30 true (.take 31 true (.take 32 true (.take 33 true (.take 34 true (.take 35 true (.br 36 (.take 37 true (.take 38 true .done)) .nil)))))))))))))))))))))))))))))))))))))),(24,(.take 0 true (.take 1 true (.take 2 true (.take 3 true (.take 4 true (.take 5 true (.take 6 true (.take 7 true (.take 8 true (.take 9 true (.take 10 true (.take 11 true (.take 12 true (.take 13 true (.take 14 true (.take 15 true (.take 16 true (.take 17 true (.take 18 true (.take 19 true (.br 20 (.take 21 true (.take 22 true (.take 23 true (.take 24 true (.take 25 true (.take 26 true (.br 27 (.take 28 true (.take 29 true .done)) .nil))))))) .nil))))))))))))))))))))))]
end Go.aK
end
section
set_option maxRecDepth 100000
namespace Go.aK
open Go Go.Proofs Go.fJ
theorem CH {O : Od} {p : PP} {a b : T} (h : Sh O p a b) : a.k = 2 := (pv.1 h).1
theorem Sh1 {O : Od} {p : PP} {a b : T} (hr : p.r = 1) (ha : a.k = 2) : Sh O p a b ↔ p.to = [] ∧ (0 ≤ p.i ∧ p.i < a.l.length) ∧ ((p.l = [] ∧ E O (a.l.getD p.i.toNat default) b) ∨ ∃ q, p.l = [q] ∧ Sh O q (a.l.getD p.i.toNat default) b) := by
 rw [pv, Fs]; simp [hr, ha]
theorem Sh2 {O : Od} {p : PP} {a b : T} (hr : p.r = 2) (ha : a.k = 2) : Sh O p a b ↔ p.to = [] ∧ p.i = 0 ∧ b.k = 2 ∧ O.pl b.n < O.pl a.n ∧ k8 (Sh O) p.l a b.l := by
 rw [pv, Fs]; simp [hr, ha]
theorem Sh3 {O : Od} {p : PP} {a b : T} (hr : p.r = 3) (ha : a.k = 2) : Sh O p a b ↔ p.to = [] ∧ b.k = 2 ∧ O.pl a.n = O.pl b.n ∧ O.sp (O.pl a.n) ≠ 3 ∧ CB (E O) (Sh O) p.i p.l a (side (O.sp (O.pl a.n)) a.l) (side (O.sp (O.pl a.n)) b.l) b.l := by
 rw [pv, Fs]; simp [hr, ha]
theorem Sh4 {O : Od} {p : PP} {a b : T} (hr : p.r = 4) (ha : a.k = 2) : Sh O p a b ↔ p.i = 0 ∧ b.k = 2 ∧ O.pl a.n = O.pl b.n ∧ O.sp (O.pl a.n) = 3 ∧ PJ (E O) (Sh O) p.to p.l a.l b.l := by
 rw [pv, Fs]; simp [hr, ha]
theorem Sh0 {O : Od} {p : PP} {a b : T} (h1 : p.r ≠ 1) (h2 : p.r ≠ 2) (h3 : p.r ≠ 3) (h4 : p.r ≠ 4) : ¬ Sh O p a b := by
 rw [pv, Fs]; simp [h1, h2, h3, h4]
theorem slT (l : List Int) (n : Int) (h : 0 ≤ n ∧ n ≤ l.length) (φ : AV → Prop) : bA 1 (.ap 0 (ints l)) none (some (.int .i64 n)) none φ = φ (.ap 0 (ints (l.take n.toNat))) := by
 have er : dI (AV.ap 0 (ints l)) = some (ints l) := rfl
 have e2 : ((ints l).take n.toNat).drop 0 = ints (l.take n.toNat) := by rw [List.drop_zero, kX]
 simp only [bA, ft, er, dO, e2, eq_iff_iff]
 constructor
 ·intro h; exact h.2.2.2.2
 ·intro h'
  refine ⟨fun own xs he z hz => ?_, by omega, by omega, by have := aw l; omega, h'⟩
  cases he
  obtain ⟨y, _, rfl⟩ := List.mem_map.1 hz
  rfl
theorem WN (x : PP) (r : List PP) (φ : AV → Prop) : bA 4 (.ap 0 (dU (x :: r))) (some (.int .i64 1)) none none φ = φ (.ap 0 (dU r)) := by
 have er : dI (AV.ap 0 (dU (x :: r))) = some (dU (x :: r)) := rfl
 have e1 : (1 : Int).toNat = 1 := rfl
 have e2 : ((dU (x :: r)).take (dU (x :: r)).length).drop 1 = dU r := by rw [List.take_length]; rfl
 simp only [bA, ft, er, dO, e1, e2, eq_iff_iff]
 constructor
 ·intro h; exact h.2.2.2.2
 ·intro h
  refine ⟨fun own xs he z hz => of_eq_true (qL 0 (x :: r)) own xs he z hz, by omega, by simp [eB], Nat.le_refl _, h⟩
theorem oq {s : Int} {l : List Int} {x : Int} : x ∈ bD s l ↔ x ∈ l := by unfold bD; split <;> simp
theorem WO {c : Cx} (hc : c.Ok) {p : PP} {i k : Int} (hi : c.dJ i) (hk : c.dJ k) (fM : ∀ q ∈ p.l, ∀ x y, c.dJ x → c.dJ y → ja c x y q) (yY : p.r = 1) : ja c i k p := by
 intro H hD
 refine w9.2.calls rfl ?_
 simp only [w9, aI]
 obtain ⟨p1, p2, p3, p4, p5, p6, p7, p8, p9⟩ := aX p
 have k2 : ∀ l, (bn l).ab = bn l := fun l => (aD l).2.1
 have ki := hc.kids i hi
 have kk := hc.kids k hk
 have l1 := hc.kl i hi
 have l2 := hc.kl k hk
 obtain ⟨a1, a2, a3, a4, a5⟩ := aD (c.kd i)
 obtain ⟨b1, b2, b3, b4, b5⟩ := aD (c.kd k)
 have ii : IL (bn (c.kd i)) (c.kd i) := .inl rfl
 have ik : IL (bn (c.kd k)) (c.kd k) := .inl rfl
 have ei : (c.nd.getD i.toNat default).snd = c.kd i := rfl
 have ek : (c.nd.getD k.toNat default).snd = c.kd k := rfl
 obtain ⟨m1, m2, m3⟩ := hD.lt
 have mI : Du c (H ++ [.cells [bn (c.kd k)]]) := hD.rQ _
 have fin : ∀ G (b : Bool), Up c (H ++ [.cells [bn (c.kd k)]]) G → Du c G → (b = true ↔ Sh c.O p (c.tm i) (c.tm k)) → bV H.length [.t 8] [(8, .bool b)] G (iv c (Sh c.O p (c.tm i) (c.tm k)) H) := by
  intro G b u d hb
  refine aV H.length (Nat.le_refl _) (by rw [ax, if_pos rfl]; rfl) ?_
  rw [ax, if_pos rfl]
  exact ⟨b, rfl, hb, u.take, d.take m1 m2 m3⟩
 have fin0 : ¬ Sh c.O p (c.tm i) (c.tm k) → bV H.length [.t 8] [(8, .bool false)] (H ++ [.cells [bn (c.kd k)]]) (iv c (Sh c.O p (c.tm i) (c.tm k)) H) :=
  fun h => fin _ _ (Up.refl c _) mI ⟨fun h => by simp at h, fun h' => absurd h' h⟩
 have spv : ∀ x : AV, ag [AV.ah] 0 [x] = [x] := fun x => rfl
 simp +contextual only [p1, hD.d, l9, C5, cw, bU, k2, ei, ek, b1, b3, b4, b5, List.map_cons, List.map_nil, spv, List.all_cons, List.all_nil, Bool.and_true, bM, c8, sZ, Nat.reduceEqDiff, Nat.reduceAdd, Nat.reduceLT, ↓reduceIte, reduceCtorEq]
 refine ⟨hi, hk, af (po hc hi mI) ?_⟩
 rintro r H2 ⟨rfl, rfl⟩
 cases hb : qT c i with
 | false =>
   have ki2 : ¬ (c.tm i).k = 2 := of_decide_eq_false hb
   simp +contextual only [dx, fj, fm, fo, hb, Bool.not_false, sZ, Nat.reduceEqDiff, ↓reduceIte, reduceCtorEq]
   exact fin0 fun h => ki2 (CH h)
 | true =>
 have ki2 : (c.tm i).k = 2 := of_decide_eq_true hb
 have kid : ∀ (j : Int), (0 ≤ j ∧ j < (c.kd i).length) → (c.tm i).l.getD j.toNat default = c.tm ((c.kd i).getD j.toNat 0) := fun j hj => by rw [← ki.1, cc (by omega)]
 have klen : (c.tm i).l.length = (c.kd i).length := by rw [← ki.1]; simp
 have kn : ∀ (j : Int), (0 ≤ j ∧ j < (c.kd i).length) → c.dJ ((c.kd i).getD j.toNat 0) := fun j hj => ki.2 _ (aO (by omega))
 have lvun : (AV.tuple [.int .i64 (dw c i), .bool (tu c i k)]).ab = .tuple [.int .i64 (dw c i), .bool (tu c i k)] := rfl
 have hS := Sh1 (O := c.O) (b := c.tm k) yY ki2
 rw [klen] at hS
 simp +contextual only [dx, fj, fm, fo, hb, Bool.not_true, CD, Og, yY, not_true_eq_false, not_false_eq_true, decide_true, decide_false, aw, sZ, Nat.reduceEqDiff, Nat.reduceAdd, ↓reduceIte, reduceCtorEq, Int.reduceEq]
 refine fun _ => ⟨fun h0 => ?_, fun h0 => fin0 fun h => ?_⟩
 ·have AE : p.to = [] := List.length_eq_zero_iff.1 (by omega)
  refine af (Ew hc hi hk mI) ?_
  rintro r H2 ⟨rfl, rfl⟩
  by_cases hI : 0 ≤ p.i ∧ p.i < (c.kd i).length
  ·have n1 : (p.i < 0) = False := eq_false (by omega)
   have n2 : (((c.kd i).length : Int) ≤ p.i) = False := eq_false (by omega)
   have hkn := kn p.i hI
   rw [kid p.i hI] at hS
   by_cases hL : p.l.length ≤ 1
   ·have n3 : (1 < (p.l.length : Int)) = False := eq_false (by omega)
    by_cases hL0 : p.l.length = 0
    ·have n4 : ((p.l.length : Int) = 0) = True := eq_true (by omega)
     simp +contextual only [k2, ii.aL, ii.len (by omega), ii.lens, ii.idx, CD, C6, Kv, eB, lvun, decide_true, decide_false, yY, n1, n2, n3, n4, sZ, Nat.reduceEqDiff, Nat.reduceAdd, Nat.reduceLT, ↓reduceIte, reduceCtorEq]
     refine fun _ => ⟨hI, af (jN hc hkn hk _ mI) ?_⟩
     rintro r G ⟨x, rfl, hx, hU, jf⟩
     simp +contextual only [sZ, ↓reduceIte, reduceCtorEq]
     refine fin G x hU jf ?_
     rw [hx, hS]
     have : p.l = [] := List.length_eq_zero_iff.1 hL0
     simp [AE, hI, this]
    ·have n4 : ((p.l.length : Int) = 0) = False := eq_false (by omega)
     have hm : p.l.getD 0 default ∈ p.l := dT (by omega)
     obtain ⟨q1, q2, q3, q4, q5, q6, q7, q8, q9⟩ := aX (p.l.getD 0 default)
     have t0 : (0 : Int).toNat = 0 := rfl
     simp +contextual only [k2, ii.aL, ii.len (by omega), ii.lens, ii.idx, CD, C6, Kv, Aj, qL, qM, eB, lvun, decide_true, decide_false, yY, n1, n2, n3, n4, t0, q4, sZ, Nat.reduceEqDiff, Nat.reduceAdd, Nat.reduceLT, ↓reduceIte, reduceCtorEq]
     refine fun _ => ⟨hI, ⟨by omega, by omega⟩, af (fM _ hm _ _ hkn hk _ mI) ?_⟩
     rintro r G ⟨x, rfl, hx, hU, jf⟩
     simp +contextual only [sZ, ↓reduceIte, reduceCtorEq]
     refine fin G x hU jf ?_
     rw [hx, hS]
     obtain ⟨q, hq⟩ : ∃ q, p.l = [q] := List.length_eq_one_iff.1 (by omega)
     simp [AE, hI, hq]
   ·have n3 : (1 < (p.l.length : Int)) = True := eq_true (by omega)
    simp +contextual only [k2, ii.aL, ii.len (by omega), CD, C6, Kv, eB, lvun, decide_true, decide_false, yY, n1, n2, n3, sZ, Nat.reduceEqDiff, Nat.reduceAdd, Nat.reduceLT, ↓reduceIte, reduceCtorEq]
    refine fun _ => fin0 fun h => ?_
    rcases (hS.1 h).2.2 with h | ⟨q, h, _⟩
    ·rw [h.1] at hL; simp at hL
    ·rw [h] at hL; simp at hL
  ·by_cases hI0 : p.i < 0
   ·simp +contextual only [CD, C6, lvun, decide_true, yY, hI0, sZ, Nat.reduceEqDiff, Nat.reduceAdd, Nat.reduceLT, ↓reduceIte, reduceCtorEq]
    exact fin0 fun h => hI (hS.1 h).2.1
   ·have n2 : (((c.kd i).length : Int) ≤ p.i) = True := eq_true (by omega)
    simp +contextual only [k2, ii.aL, ii.len (by omega), CD, C6, lvun, decide_true, decide_false, yY, hI0, n2, sZ, Nat.reduceEqDiff, Nat.reduceAdd, Nat.reduceLT, ↓reduceIte, reduceCtorEq]
    exact fin0 fun h => hI (hS.1 h).2.1
 ·rw [(hS.1 h).1] at h0; simp at h0
theorem WQ {c : Cx} (hc : c.Ok) {p : PP} {i k : Int} (hi : c.dJ i) (hk : c.dJ k) (fM : ∀ q ∈ p.l, ∀ x y, c.dJ x → c.dJ y → ja c x y q) (rb : p.r = 2) : ja c i k p := by
 intro H hD
 refine w9.2.calls rfl ?_
 simp only [w9, aI]
 obtain ⟨p1, p2, p3, p4, p5, p6, p7, p8, p9⟩ := aX p
 have k2 : ∀ l, (bn l).ab = bn l := fun l => (aD l).2.1
 have ki := hc.kids i hi
 have kk := hc.kids k hk
 have l1 := hc.kl i hi
 have l2 := hc.kl k hk
 obtain ⟨a1, a2, a3, a4, a5⟩ := aD (c.kd i)
 obtain ⟨b1, b2, b3, b4, b5⟩ := aD (c.kd k)
 have ii : IL (bn (c.kd i)) (c.kd i) := .inl rfl
 have ik : IL (bn (c.kd k)) (c.kd k) := .inl rfl
 have ei : (c.nd.getD i.toNat default).snd = c.kd i := rfl
 have ek : (c.nd.getD k.toNat default).snd = c.kd k := rfl
 obtain ⟨m1, m2, m3⟩ := hD.lt
 have mI : Du c (H ++ [.cells [bn (c.kd k)]]) := hD.rQ _
 have fin : ∀ G (b : Bool), Up c (H ++ [.cells [bn (c.kd k)]]) G → Du c G → (b = true ↔ Sh c.O p (c.tm i) (c.tm k)) → bV H.length [.t 8] [(8, .bool b)] G (iv c (Sh c.O p (c.tm i) (c.tm k)) H) := by
  intro G b u d hb
  refine aV H.length (Nat.le_refl _) (by rw [ax, if_pos rfl]; rfl) ?_
  rw [ax, if_pos rfl]
  exact ⟨b, rfl, hb, u.take, d.take m1 m2 m3⟩
 have fin0 : ¬ Sh c.O p (c.tm i) (c.tm k) → bV H.length [.t 8] [(8, .bool false)] (H ++ [.cells [bn (c.kd k)]]) (iv c (Sh c.O p (c.tm i) (c.tm k)) H) :=
  fun h => fin _ _ (Up.refl c _) mI ⟨fun h => by simp at h, fun h' => absurd h' h⟩
 have spv : ∀ x : AV, ag [AV.ah] 0 [x] = [x] := fun x => rfl
 simp +contextual only [p1, hD.d, l9, C5, cw, bU, k2, ei, ek, b1, b3, b4, b5, List.map_cons, List.map_nil, spv, List.all_cons, List.all_nil, Bool.and_true, bM, c8, sZ, Nat.reduceEqDiff, Nat.reduceAdd, Nat.reduceLT, ↓reduceIte, reduceCtorEq]
 refine ⟨hi, hk, af (po hc hi mI) ?_⟩
 rintro r H2 ⟨rfl, rfl⟩
 cases hb : qT c i with
 | false =>
   have ki2 : ¬ (c.tm i).k = 2 := of_decide_eq_false hb
   simp +contextual only [dx, fj, fm, fo, hb, Bool.not_false, sZ, Nat.reduceEqDiff, ↓reduceIte, reduceCtorEq]
   exact fin0 fun h => ki2 (CH h)
 | true =>
 have ki2 : (c.tm i).k = 2 := of_decide_eq_true hb
 have kid : ∀ (j : Int), (0 ≤ j ∧ j < (c.kd i).length) → (c.tm i).l.getD j.toNat default = c.tm ((c.kd i).getD j.toNat 0) := fun j hj => by rw [← ki.1, cc (by omega)]
 have klen : (c.tm i).l.length = (c.kd i).length := by rw [← ki.1]; simp
 have kn : ∀ (j : Int), (0 ≤ j ∧ j < (c.kd i).length) → c.dJ ((c.kd i).getD j.toNat 0) := fun j hj => ki.2 _ (aO (by omega))
 have lvun : (AV.tuple [.int .i64 (dw c i), .bool (tu c i k)]).ab = .tuple [.int .i64 (dw c i), .bool (tu c i k)] := rfl
 have hS := Sh2 (O := c.O) (b := c.tm k) rb ki2
 have e1 : ((2 : Int) = 1) = False := by simp
 simp +contextual only [dx, fj, fm, fo, hb, Bool.not_true, CD, C6, Og, rb, not_true_eq_false, not_false_eq_true, decide_true, decide_false, aw, sZ, Nat.reduceEqDiff, Nat.reduceAdd, ↓reduceIte, reduceCtorEq, Int.reduceEq]
 have fAll : ∀ (G : List aa) (Q : Prop) (b0 : Bool), True := fun _ _ _ => trivial
 have hAS : k8 (Sh c.O) p.l (c.tm i) ((c.kd k).map c.tm) ↔ k8 (Sh c.O) p.l (c.tm i) (c.tm k).l := by rw [kk.1]
 refine fun _ => ⟨fun h0 => ⟨fun tB => fin0 fun h => tB (hS.1 h).2.1, fun tB => ?_⟩, fun h0 => fin0 fun h => ?_⟩
 ·have AE : p.to = [] := List.length_eq_zero_iff.1 (by omega)
  refine af (Ew hc hi hk mI) ?_
  rintro r H2 ⟨rfl, rfl⟩
  simp +contextual only [CD, lvun, decide_true, decide_false, rb, e1, sZ, Nat.reduceEqDiff, Nat.reduceAdd, Nat.reduceLT, ↓reduceIte]
  refine af (po hc hi mI) ?_
  rintro r H2 ⟨rfl, rfl⟩
  simp +contextual only [dx, fj, fm, fo, sZ, Nat.reduceEqDiff, Nat.reduceAdd, ↓reduceIte]
  refine af (po hc hk mI) ?_
  rintro r H2 ⟨rfl, rfl⟩
  have opi : pn c i = c.O.pl (c.tm i).n := by rw [pn, if_pos ki2]
  cases Ez : qT c k with
  | false =>
    have kk2 : ¬ (c.tm k).k = 2 := of_decide_eq_false Ez
    simp +contextual only [dx, fj, fm, fo, Ez, sZ, Nat.reduceEqDiff, ↓reduceIte, reduceCtorEq]
    exact fin0 fun h => kk2 (hS.1 h).2.2.1
  | true =>
    have kk2 : (c.tm k).k = 2 := of_decide_eq_true Ez
    have opk : pn c k = c.O.pl (c.tm k).n := by rw [pn, if_pos kk2]
    by_cases aW : pn c k < pn c i
    ·simp +contextual only [Kv, decide_true, dx, fj, fm, fo, Ez, aW, sZ, Nat.reduceEqDiff, Nat.reduceAdd, ↓reduceIte, reduceCtorEq]
     refine af (SX ik (by omega) (q := H.length) ⟨by omega, by omega⟩ (fun j h1 h2 => fM _ (dT h2) _ _ hi (kk.2 _ (aO h1))) mI (by simp)) ?_
     rintro r G ⟨x, rfl, hx, hU, jf⟩
     simp +contextual only [sZ, Nat.reduceEqDiff, ↓reduceIte, reduceCtorEq]
     refine fin G x hU jf ?_
     rw [hx, hS, hAS]
     rw [opi, opk] at aW
     simp [AE, tB, kk2, aW]
    ·simp +contextual only [decide_false, dx, fj, fm, fo, Ez, aW, sZ, Nat.reduceEqDiff, ↓reduceIte, reduceCtorEq]
     refine fin0 fun h => aW ?_
     rw [opi, opk]
     exact (hS.1 h).2.2.2.1
 ·rw [(hS.1 h).1] at h0; simp at h0
theorem WR {c : Cx} (hc : c.Ok) {p : PP} {i k : Int} (hi : c.dJ i) (hk : c.dJ k) (fM : ∀ q ∈ p.l, ∀ x y, c.dJ x → c.dJ y → ja c x y q) (Oj : p.r = 4) : ja c i k p := by
 intro H hD
 refine w9.2.calls rfl ?_
 simp only [w9, aI]
 obtain ⟨p1, p2, p3, p4, p5, p6, p7, p8, p9⟩ := aX p
 have k2 : ∀ l, (bn l).ab = bn l := fun l => (aD l).2.1
 have ki := hc.kids i hi
 have kk := hc.kids k hk
 have l1 := hc.kl i hi
 have l2 := hc.kl k hk
 obtain ⟨a1, a2, a3, a4, a5⟩ := aD (c.kd i)
 obtain ⟨b1, b2, b3, b4, b5⟩ := aD (c.kd k)
 have ii : IL (bn (c.kd i)) (c.kd i) := .inl rfl
 have ik : IL (bn (c.kd k)) (c.kd k) := .inl rfl
 have ei : (c.nd.getD i.toNat default).snd = c.kd i := rfl
 have ek : (c.nd.getD k.toNat default).snd = c.kd k := rfl
 obtain ⟨m1, m2, m3⟩ := hD.lt
 have mI : Du c (H ++ [.cells [bn (c.kd k)]]) := hD.rQ _
 have fin : ∀ G (b : Bool), Up c (H ++ [.cells [bn (c.kd k)]]) G → Du c G → (b = true ↔ Sh c.O p (c.tm i) (c.tm k)) → bV H.length [.t 8] [(8, .bool b)] G (iv c (Sh c.O p (c.tm i) (c.tm k)) H) := by
  intro G b u d hb
  refine aV H.length (Nat.le_refl _) (by rw [ax, if_pos rfl]; rfl) ?_
  rw [ax, if_pos rfl]
  exact ⟨b, rfl, hb, u.take, d.take m1 m2 m3⟩
 have fin0 : ¬ Sh c.O p (c.tm i) (c.tm k) → bV H.length [.t 8] [(8, .bool false)] (H ++ [.cells [bn (c.kd k)]]) (iv c (Sh c.O p (c.tm i) (c.tm k)) H) :=
  fun h => fin _ _ (Up.refl c _) mI ⟨fun h => by simp at h, fun h' => absurd h' h⟩
 have spv : ∀ x : AV, ag [AV.ah] 0 [x] = [x] := fun x => rfl
 simp +contextual only [p1, hD.d, l9, C5, cw, bU, k2, ei, ek, b1, b3, b4, b5, List.map_cons, List.map_nil, spv, List.all_cons, List.all_nil, Bool.and_true, bM, c8, sZ, Nat.reduceEqDiff, Nat.reduceAdd, Nat.reduceLT, ↓reduceIte, reduceCtorEq]
 refine ⟨hi, hk, af (po hc hi mI) ?_⟩
 rintro r H2 ⟨rfl, rfl⟩
 cases hb : qT c i with
 | false =>
   have ki2 : ¬ (c.tm i).k = 2 := of_decide_eq_false hb
   simp +contextual only [dx, fj, fm, fo, hb, Bool.not_false, sZ, Nat.reduceEqDiff, ↓reduceIte, reduceCtorEq]
   exact fin0 fun h => ki2 (CH h)
 | true =>
 have ki2 : (c.tm i).k = 2 := of_decide_eq_true hb
 have kid : ∀ (j : Int), (0 ≤ j ∧ j < (c.kd i).length) → (c.tm i).l.getD j.toNat default = c.tm ((c.kd i).getD j.toNat 0) := fun j hj => by rw [← ki.1, cc (by omega)]
 have klen : (c.tm i).l.length = (c.kd i).length := by rw [← ki.1]; simp
 have kn : ∀ (j : Int), (0 ≤ j ∧ j < (c.kd i).length) → c.dJ ((c.kd i).getD j.toNat 0) := fun j hj => ki.2 _ (aO (by omega))
 have lvun : (AV.tuple [.int .i64 (dw c i), .bool (tu c i k)]).ab = .tuple [.int .i64 (dw c i), .bool (tu c i k)] := rfl
 have hS := Sh4 (O := c.O) (b := c.tm k) Oj ki2
 have e1 : ((4 : Int) = 1) = False := by simp
 simp +contextual only [dx, fj, fm, fo, hb, Bool.not_true, CD, C6, Oj, not_true_eq_false, not_false_eq_true, decide_true, decide_false, sZ, Nat.reduceEqDiff, Nat.reduceAdd, ↓reduceIte, reduceCtorEq, Int.reduceEq]
 refine ⟨fun tB => fin0 fun h => tB (hS.1 h).1, fun tB => ?_⟩
 refine af (Ew hc hi hk mI) ?_
 rintro r H2 ⟨rfl, rfl⟩
 have opi : pn c i = c.O.pl (c.tm i).n := by rw [pn, if_pos ki2]
 have osi : dw c i = c.O.sp (c.O.pl (c.tm i).n) := by rw [dw, if_pos ki2]
 cases hl : tu c i k with
 | false =>
   simp +contextual only [CD, decide_true, decide_false, Oj, e1, sZ, Nat.reduceEqDiff, Nat.reduceAdd, Nat.reduceLT, ↓reduceIte, reduceCtorEq, Int.reduceEq]
   exact fin0 fun h => by
    have := hS.1 h
    rw [kg.2 ⟨ki2, this.2.1, this.2.2.1⟩] at hl
    cases hl
 | true =>
   have KA := kg.1 hl
   by_cases Am : dw c i = 3
   ·simp +contextual only [p4, k2, CD, qM, decide_true, decide_false, Oj, e1, Am, sZ, Nat.reduceEqDiff, Nat.reduceAdd, Nat.reduceLT, ↓reduceIte, reduceCtorEq, Int.reduceEq]
    refine af (aae ii ik (by omega) (by omega) p (fun x hx y hy => jN hc (ki.2 x hx) (kk.2 y hy)) (fun x hx y hy q hq => fM q hq _ _ (ki.2 x hx) (kk.2 y hy)) mI) ?_
    rintro r G ⟨x, rfl, hx, hU, jf⟩
    simp +contextual only [sZ, Nat.reduceEqDiff, ↓reduceIte, reduceCtorEq]
    refine fin G x hU jf ?_
    rw [hx, hS, CF, ki.1, kk.1]
    rw [osi] at Am
    exact ⟨fun h => ⟨tB, KA.2.1, KA.2.2, Am, h⟩, fun h => h.2.2.2.2⟩
   ·have HT : (dw c i = 3) = False := eq_false Am
    simp +contextual only [CD, decide_true, decide_false, Oj, e1, HT, sZ, Nat.reduceEqDiff, Nat.reduceAdd, Nat.reduceLT, ↓reduceIte, reduceCtorEq, Int.reduceEq]
    refine fin0 fun h => Am ?_
    rw [osi]; exact (hS.1 h).2.2.2.1
theorem WS {c : Cx} (hc : c.Ok) {p : PP} {i k : Int} (hi : c.dJ i) (hk : c.dJ k) (fM : ∀ q ∈ p.l, ∀ x y, c.dJ x → c.dJ y → ja c x y q) (yY : p.r ≠ 1) (rb : p.r ≠ 2) (Lo : p.r ≠ 3) (Oj : p.r ≠ 4) : ja c i k p := by
 intro H hD
 refine w9.2.calls rfl ?_
 simp only [w9, aI]
 obtain ⟨p1, p2, p3, p4, p5, p6, p7, p8, p9⟩ := aX p
 have k2 : ∀ l, (bn l).ab = bn l := fun l => (aD l).2.1
 have ki := hc.kids i hi
 have kk := hc.kids k hk
 have l1 := hc.kl i hi
 have l2 := hc.kl k hk
 obtain ⟨a1, a2, a3, a4, a5⟩ := aD (c.kd i)
 obtain ⟨b1, b2, b3, b4, b5⟩ := aD (c.kd k)
 have ii : IL (bn (c.kd i)) (c.kd i) := .inl rfl
 have ik : IL (bn (c.kd k)) (c.kd k) := .inl rfl
 have ei : (c.nd.getD i.toNat default).snd = c.kd i := rfl
 have ek : (c.nd.getD k.toNat default).snd = c.kd k := rfl
 obtain ⟨m1, m2, m3⟩ := hD.lt
 have mI : Du c (H ++ [.cells [bn (c.kd k)]]) := hD.rQ _
 have fin : ∀ G (b : Bool), Up c (H ++ [.cells [bn (c.kd k)]]) G → Du c G → (b = true ↔ Sh c.O p (c.tm i) (c.tm k)) → bV H.length [.t 8] [(8, .bool b)] G (iv c (Sh c.O p (c.tm i) (c.tm k)) H) := by
  intro G b u d hb
  refine aV H.length (Nat.le_refl _) (by rw [ax, if_pos rfl]; rfl) ?_
  rw [ax, if_pos rfl]
  exact ⟨b, rfl, hb, u.take, d.take m1 m2 m3⟩
 have fin0 : ¬ Sh c.O p (c.tm i) (c.tm k) → bV H.length [.t 8] [(8, .bool false)] (H ++ [.cells [bn (c.kd k)]]) (iv c (Sh c.O p (c.tm i) (c.tm k)) H) :=
  fun h => fin _ _ (Up.refl c _) mI ⟨fun h => by simp at h, fun h' => absurd h' h⟩
 have spv : ∀ x : AV, ag [AV.ah] 0 [x] = [x] := fun x => rfl
 simp +contextual only [p1, hD.d, l9, C5, cw, bU, k2, ei, ek, b1, b3, b4, b5, List.map_cons, List.map_nil, spv, List.all_cons, List.all_nil, Bool.and_true, bM, c8, sZ, Nat.reduceEqDiff, Nat.reduceAdd, Nat.reduceLT, ↓reduceIte, reduceCtorEq]
 refine ⟨hi, hk, af (po hc hi mI) ?_⟩
 rintro r H2 ⟨rfl, rfl⟩
 cases hb : qT c i with
 | false =>
   have ki2 : ¬ (c.tm i).k = 2 := of_decide_eq_false hb
   simp +contextual only [dx, fj, fm, fo, hb, Bool.not_false, sZ, Nat.reduceEqDiff, ↓reduceIte, reduceCtorEq]
   exact fin0 fun h => ki2 (CH h)
 | true =>
 have ki2 : (c.tm i).k = 2 := of_decide_eq_true hb
 have kid : ∀ (j : Int), (0 ≤ j ∧ j < (c.kd i).length) → (c.tm i).l.getD j.toNat default = c.tm ((c.kd i).getD j.toNat 0) := fun j hj => by rw [← ki.1, cc (by omega)]
 have klen : (c.tm i).l.length = (c.kd i).length := by rw [← ki.1]; simp
 have kn : ∀ (j : Int), (0 ≤ j ∧ j < (c.kd i).length) → c.dJ ((c.kd i).getD j.toNat 0) := fun j hj => ki.2 _ (aO (by omega))
 have lvun : (AV.tuple [.int .i64 (dw c i), .bool (tu c i k)]).ab = .tuple [.int .i64 (dw c i), .bool (tu c i k)] := rfl
 have hS := Sh0 (O := c.O) (a := c.tm i) (b := c.tm k) yY rb Lo Oj
 simp +contextual only [dx, fj, fm, fo, hb, Bool.not_true, CD, C6, Og, yY, Lo, Oj, not_true_eq_false, not_false_eq_true, decide_true, decide_false, aw, sZ, Nat.reduceEqDiff, Nat.reduceAdd, ↓reduceIte, reduceCtorEq]
 refine fun _ => ⟨fun h0 => ⟨fun tB => fin0 hS, fun tB => ?_⟩, fun h0 => fin0 hS⟩
 refine af (Ew hc hi hk mI) ?_
 rintro r H2 ⟨rfl, rfl⟩
 simp +contextual only [CD, lvun, decide_false, yY, rb, Lo, Oj, sZ, Nat.reduceEqDiff, Nat.reduceAdd, Nat.reduceLT, ↓reduceIte, reduceCtorEq]
 exact fin0 hS
end Go.aK
end
section
set_option maxRecDepth 100000
namespace Go.aK
open Go Go.Proofs Go.fJ
theorem WT {O : Od} {f : Int → T} {at' : Int} {l : List PP} {a : T} {x y kd : List Int} {bl : List T} (hb : kd.map f = bl) : CB (E O) (Sh O) at' l a (x.map f) (y.map f) bl ↔
 (0 ≤ at' ∧ at' < x.length ∧ at' ≤ y.length) ∧ (∀ j, j < at'.toNat → E O (f (x.getD j 0)) (f (y.getD j 0))) ∧
 (if at' = y.length then k8 (Sh O) l a (kd.map f) else ∃ q r, l = q :: r ∧ Sh O q (f (x.getD at'.toNat 0)) (f (y.getD at'.toNat 0)) ∧ k8 (Sh O) r a (kd.map f)) := by
 unfold CB
 rw [hb]
 simp only [List.length_map]
 refine and_congr_right fun h => ?_
 have e : ∀ j, j < at'.toNat → ((x.map f).getD j default = f (x.getD j 0) ∧ (y.map f).getD j default = f (y.getD j 0)) := fun j hj => ⟨cc (by omega), cc (by omega)⟩
 refine and_congr ⟨fun k j hj => ?_, fun k j hj => ?_⟩ ?_
 ·have := k j hj; rwa [(e j hj).1, (e j hj).2] at this
 ·rw [(e j hj).1, (e j hj).2]; exact k j hj
 ·split
  ·exact Iff.rfl
  ·rw [cc (by omega), cc (by omega)]
theorem WU {c : Cx} (hc : c.Ok) {p : PP} {i k : Int} (hi : c.dJ i) (hk : c.dJ k) (fM : ∀ q ∈ p.l, ∀ x y, c.dJ x → c.dJ y → ja c x y q) (Lo : p.r = 3) : ja c i k p := by
 intro H hD
 refine w9.2.calls rfl ?_
 simp only [w9, aI]
 obtain ⟨p1, p2, p3, p4, p5, p6, p7, p8, p9⟩ := aX p
 have k2 : ∀ l, (bn l).ab = bn l := fun l => (aD l).2.1
 have ki := hc.kids i hi
 have kk := hc.kids k hk
 have l1 := hc.kl i hi
 have l2 := hc.kl k hk
 obtain ⟨a1, a2, a3, a4, a5⟩ := aD (c.kd i)
 obtain ⟨b1, b2, b3, b4, b5⟩ := aD (c.kd k)
 have ii : IL (bn (c.kd i)) (c.kd i) := .inl rfl
 have ik : IL (bn (c.kd k)) (c.kd k) := .inl rfl
 have ei : (c.nd.getD i.toNat default).snd = c.kd i := rfl
 have ek : (c.nd.getD k.toNat default).snd = c.kd k := rfl
 obtain ⟨m1, m2, m3⟩ := hD.lt
 have mI : Du c (H ++ [.cells [bn (c.kd k)]]) := hD.rQ _
 have fin : ∀ G (b : Bool), Up c (H ++ [.cells [bn (c.kd k)]]) G → Du c G → (b = true ↔ Sh c.O p (c.tm i) (c.tm k)) → bV H.length [.t 8] [(8, .bool b)] G (iv c (Sh c.O p (c.tm i) (c.tm k)) H) := by
  intro G b u d hb
  refine aV H.length (Nat.le_refl _) (by rw [ax, if_pos rfl]; rfl) ?_
  rw [ax, if_pos rfl]
  exact ⟨b, rfl, hb, u.take, d.take m1 m2 m3⟩
 have fin0 : ¬ Sh c.O p (c.tm i) (c.tm k) → bV H.length [.t 8] [(8, .bool false)] (H ++ [.cells [bn (c.kd k)]]) (iv c (Sh c.O p (c.tm i) (c.tm k)) H) :=
  fun h => fin _ _ (Up.refl c _) mI ⟨fun h => by simp at h, fun h' => absurd h' h⟩
 have spv : ∀ x : AV, ag [AV.ah] 0 [x] = [x] := fun x => rfl
 simp +contextual only [p1, hD.d, l9, C5, cw, bU, k2, ei, ek, b1, b3, b4, b5, List.map_cons, List.map_nil, spv, List.all_cons, List.all_nil, Bool.and_true, bM, c8, sZ, Nat.reduceEqDiff, Nat.reduceAdd, Nat.reduceLT, ↓reduceIte, reduceCtorEq]
 refine ⟨hi, hk, af (po hc hi mI) ?_⟩
 rintro r H2 ⟨rfl, rfl⟩
 cases hb : qT c i with
 | false =>
   have ki2 : ¬ (c.tm i).k = 2 := of_decide_eq_false hb
   simp +contextual only [dx, fj, fm, fo, hb, Bool.not_false, sZ, Nat.reduceEqDiff, ↓reduceIte, reduceCtorEq]
   exact fin0 fun h => ki2 (CH h)
 | true =>
 have ki2 : (c.tm i).k = 2 := of_decide_eq_true hb
 have kid : ∀ (j : Int), (0 ≤ j ∧ j < (c.kd i).length) → (c.tm i).l.getD j.toNat default = c.tm ((c.kd i).getD j.toNat 0) := fun j hj => by rw [← ki.1, cc (by omega)]
 have klen : (c.tm i).l.length = (c.kd i).length := by rw [← ki.1]; simp
 have kn : ∀ (j : Int), (0 ≤ j ∧ j < (c.kd i).length) → c.dJ ((c.kd i).getD j.toNat 0) := fun j hj => ki.2 _ (aO (by omega))
 have lvun : (AV.tuple [.int .i64 (dw c i), .bool (tu c i k)]).ab = .tuple [.int .i64 (dw c i), .bool (tu c i k)] := rfl
 have hS := Sh3 (O := c.O) (b := c.tm k) Lo ki2
 have e1 : ((3 : Int) = 1) = False := by simp
 simp +contextual only [dx, fj, fm, fo, hb, Bool.not_true, CD, Og, Lo, not_true_eq_false, not_false_eq_true, decide_true, decide_false, aw, sZ, Nat.reduceEqDiff, Nat.reduceAdd, ↓reduceIte, reduceCtorEq, Int.reduceEq]
 refine fun _ => ⟨fun h0 => ?_, fun h0 => fin0 fun h => ?_⟩
 ·have AE : p.to = [] := List.length_eq_zero_iff.1 (by omega)
  refine af (Ew hc hi hk mI) ?_
  rintro r H2 ⟨rfl, rfl⟩
  simp +contextual only [k2, CD, lvun, decide_true, decide_false, Lo, e1, sZ, Nat.reduceEqDiff, Nat.reduceAdd, Nat.reduceLT, ↓reduceIte, Int.reduceEq]
  refine aH (HD (c.kd i) (dw c i) (by omega)) ?_
  simp +contextual only [k2, sZ, Nat.reduceEqDiff, Nat.reduceAdd, Nat.reduceLT, ↓reduceIte]
  refine aH (HD (c.kd k) (dw c i) (by omega)) ?_
  have opi : pn c i = c.O.pl (c.tm i).n := by rw [pn, if_pos ki2]
  have osi : dw c i = c.O.sp (c.O.pl (c.tm i).n) := by rw [dw, if_pos ki2]
  have hx : side (c.O.sp (c.O.pl (c.tm i).n)) (c.tm i).l = (bD (dw c i) (c.kd i)).map c.tm := by rw [← osi, ← ki.1, jm]
  have hy : side (c.O.sp (c.O.pl (c.tm i).n)) (c.tm k).l = (bD (dw c i) (c.kd k)).map c.tm := by rw [← osi, ← kk.1, jm]
  rw [hx, hy, WT (kd := c.kd k) kk.1] at hS
  have lx : (bD (dw c i) (c.kd i)).length = (c.kd i).length := jk
  have ly : (bD (dw c i) (c.kd k)).length = (c.kd k).length := jk
  have nx : ∀ z ∈ bD (dw c i) (c.kd i), c.dJ z := fun z hz => ki.2 z (oq.1 hz)
  have ny : ∀ z ∈ bD (dw c i) (c.kd k), c.dJ z := fun z hz => kk.2 z (oq.1 hz)
  generalize bD (dw c i) (c.kd i) = x at *
  generalize bD (dw c i) (c.kd k) = y at *
  have ix : IL (.ap 0 (ints x)) x := .inr rfl
  have iy : IL (.ap 0 (ints y)) y := .inr rfl
  cases hl : tu c i k with
  | false =>
    simp +contextual only [Bool.not_false, sZ, Nat.reduceEqDiff, ↓reduceIte, reduceCtorEq]
    exact fin0 fun h => by
     have := hS.1 h
     rw [kg.2 ⟨ki2, this.2.1, this.2.2.1⟩] at hl
     cases hl
  | true =>
  have KA := kg.1 hl
  by_cases Am : dw c i = 3
  ·have aag : (dw c i = 3) = True := eq_true Am
   simp +contextual only [decide_true, Bool.not_true, aag, sZ, Nat.reduceEqDiff, ↓reduceIte, reduceCtorEq]
   refine fin0 fun h => (hS.1 h).2.2.2.1 ?_
   rw [← osi]; exact Am
  ·have HT : (dw c i = 3) = False := eq_false Am
   have lvun' : True := trivial
   by_cases hI : 0 ≤ p.i ∧ p.i < x.length ∧ p.i ≤ y.length
   ·have n1 : (p.i < 0) = False := eq_false (by omega)
    have n2 : ((x.length : Int) ≤ p.i) = False := eq_false (by omega)
    have n3 : ((y.length : Int) < p.i) = False := eq_false (by omega)
    simp +contextual only [Option.map_some, Option.map_none, C6, decide_false, Bool.not_true, HT, n1, n2, n3, ix.aL, iy.aL, ix.vB, iy.vB, slT x p.i ⟨hI.1, by omega⟩, slT y p.i ⟨hI.1, by omega⟩, sZ, Nat.reduceEqDiff, Nat.reduceAdd, ↓reduceIte, reduceCtorEq]
    refine af (Wm (SD.z7 c _) (.inr rfl : IL (.ap 0 (ints (x.take p.i.toNat))) (x.take p.i.toNat)) (.inr rfl : IL (.ap 0 (ints (y.take p.i.toNat))) (y.take p.i.toNat)) (by rw [List.length_take]; omega) (by rw [List.length_take]; omega) 79 [.ptr c.d 0] [] rfl rfl (Q := fun x y => E c.O (c.tm x) (c.tm y))
     (fun u hu v hv G hG => (jN hc (nx u (List.mem_of_mem_take hu)) (ny v (List.mem_of_mem_take hv)) G hG.1).mono fun r H' hr => hr.sb hG) ⟨mI, Up.refl c _⟩) ?_
    rintro r G ⟨z, rfl, hz, hG⟩
    have Ie : z = true ↔ ∀ j, j < p.i.toNat → E c.O (c.tm (x.getD j 0)) (c.tm (y.getD j 0)) := by
     rw [hz]
     have lt1 : (x.take p.i.toNat).length = p.i.toNat := by rw [List.length_take]; omega
     have lt2 : (y.take p.i.toNat).length = p.i.toNat := by rw [List.length_take]; omega
     rw [lt1, lt2]
     have et : ∀ (l : List Int) j, j < p.i.toNat → (l.take p.i.toNat).getD j 0 = l.getD j 0 := fun l j hj => by simp [List.getD_eq_getElem?_getD, hj]
     constructor
     ·rintro ⟨_, h⟩ j hj; have := h j hj; rwa [et _ _ hj, et _ _ hj] at this
     ·intro h; exact ⟨rfl, fun j hj => by rw [et _ _ hj, et _ _ hj]; exact h j hj⟩
    have finG : ∀ G' (b : Bool), Up c G G' → Du c G' → (b = true ↔ Sh c.O p (c.tm i) (c.tm k)) → bV H.length [.t 8] [(8, .bool b)] G' (iv c (Sh c.O p (c.tm i) (c.tm k)) H) := fun G' b u d hb => fin G' b (hG.2.trans u) d hb
    have finG0 : ¬ Sh c.O p (c.tm i) (c.tm k) → bV H.length [.t 8] [(8, .bool false)] G (iv c (Sh c.O p (c.tm i) (c.tm k)) H) :=
     fun h => finG _ _ (Up.refl c _) hG.1 ⟨fun h => by simp at h, fun h' => absurd h' h⟩
    have gq : G[H.length]? = some (.cells [bn (c.kd k)]) := by rw [hG.2.get H.length (by omega) (by omega)]; simp
    cases z with
    | false =>
      simp +contextual only [Bool.not_false, sZ, Nat.reduceEqDiff, ↓reduceIte, reduceCtorEq]
      exact finG0 fun h => absurd (Ie.2 (hS.1 h).2.2.2.2.2.1) (by simp)
    | true =>
      have hz1 := Ie.1 rfl
      by_cases he : p.i = y.length
      ·have n4 : (p.i = (y.length : Int)) = True := eq_true he
       simp +contextual only [C6, Kv, decide_true, Bool.not_true, iy.len (by omega), iy.aL, n4, sZ, Nat.reduceEqDiff, Nat.reduceAdd, ↓reduceIte, reduceCtorEq]
       refine af (SX ik (by omega) (q := H.length) ⟨by omega, by omega⟩ (fun j h1 h2 => fM _ (dT h2) _ _ hi (kk.2 _ (aO h1))) hG.1 gq) ?_
       rintro r G' ⟨w, rfl, hw, hU, jf⟩
       simp +contextual only [sZ, ↓reduceIte, reduceCtorEq]
       refine finG G' w hU jf ?_
       rw [hw, hS]
       rw [if_pos he]
       rw [osi] at Am
       exact ⟨fun h => ⟨AE, KA.2.1, KA.2.2, Am, hI, hz1, h⟩, fun h => h.2.2.2.2.2.2⟩
      ·have n4 : (p.i = (y.length : Int)) = False := eq_false he
       rw [if_neg he] at hS
       cases wm : p.l with
       | nil =>
         have n5 : (0 < ((0 : Nat) : Int)) = False := eq_false (by simp)
         simp +contextual only [C6, Kv, eB, decide_false, Bool.not_true, iy.len (by omega), iy.aL, n4, wm, kS, n5, sZ, Nat.reduceEqDiff, ↓reduceIte, reduceCtorEq]
         exact finG0 fun h => by
          obtain ⟨q, r, e, _⟩ := (hS.1 h).2.2.2.2.2.2
          rw [wm] at e; cases e
       | cons q r =>
         have n5 : (0 < ((r.length + 1 : Nat) : Int)) = True := eq_true (by omega)
         have n6 : (q :: r).getD (0 : Int).toNat default = q := rfl
         obtain ⟨q1, q2, q3, q4, q5, q6, q7, q8, q9⟩ := aX q
         simp only [wm] at hS fM
         simp +contextual only [C6, Kv, Aj, qL, qM, eB, decide_true, decide_false, Bool.not_true, iy.len (by omega), iy.aL, n4, wm, kS, n5, n6, ix.idx, iy.idx, ix.lens, iy.lens, q4, sZ, Nat.reduceEqDiff, Nat.reduceAdd, ↓reduceIte, reduceCtorEq]
         refine ⟨by omega, by omega, by omega, af (fM q List.mem_cons_self _ _ (nx _ (aO (by omega))) (ny _ (aO (by omega))) G hG.1) ?_⟩
         rintro r' G2 ⟨w, rfl, hw, hU, AB⟩
         cases w with
         | false =>
           simp +contextual only [sZ, Nat.reduceEqDiff, ↓reduceIte, reduceCtorEq]
           refine finG G2 false hU AB ⟨fun h => by simp at h, fun h => ?_⟩
           obtain ⟨q', r', e, h', _⟩ := (hS.1 h).2.2.2.2.2.2
           cases e
           exact hw.2 h'
         | true =>
           have gq2 : G2[H.length]? = some (.cells [bn (c.kd k)]) := by rw [hU.get H.length (by omega) (by omega), gq]
           simp +contextual only [Option.map_some, Option.map_none, Kv, WN, wm, sZ, Nat.reduceEqDiff, Nat.reduceAdd, ↓reduceIte, reduceCtorEq]
           refine af (SX ik (by omega) (q := H.length) ⟨by omega, by omega⟩ (fun j h1 h2 => fM _ (List.mem_cons_of_mem _ (dT h2)) _ _ hi (kk.2 _ (aO h1))) AB gq2) ?_
           rintro r' G3 ⟨v, rfl, hv, Wr, Kj⟩
           simp +contextual only [sZ, Nat.reduceEqDiff, ↓reduceIte, reduceCtorEq]
           refine finG G3 v (hU.trans Wr) Kj ?_
           rw [hv, hS]
           rw [osi] at Am
           constructor
           ·exact fun h => ⟨AE, KA.2.1, KA.2.2, Am, hI, hz1, q, r, rfl, hw.1 rfl, h⟩
           ·rintro ⟨_, _, _, _, _, _, q', r', e, _, h⟩
            cases e
            exact h
   ·have bad : ¬ Sh c.O p (c.tm i) (c.tm k) := fun h => hI (hS.1 h).2.2.2.2.1
    by_cases m1' : p.i < 0
    ·have n1 : (p.i < 0) = True := eq_true m1'
     simp +contextual only [C6, decide_true, decide_false, Bool.not_true, HT, n1, sZ, Nat.reduceEqDiff, ↓reduceIte, reduceCtorEq]
     exact fin0 bad
    ·have n1 : (p.i < 0) = False := eq_false m1'
     by_cases m2' : (x.length : Int) ≤ p.i
     ·have n2 : ((x.length : Int) ≤ p.i) = True := eq_true m2'
      simp +contextual only [C6, decide_true, decide_false, Bool.not_true, HT, n1, n2, ix.aL, ix.vB, sZ, Nat.reduceEqDiff, ↓reduceIte, reduceCtorEq]
      exact fin0 bad
     ·have n2 : ((x.length : Int) ≤ p.i) = False := eq_false m2'
      have n3 : ((y.length : Int) < p.i) = True := eq_true (by omega)
      simp +contextual only [C6, decide_true, decide_false, Bool.not_true, HT, n1, n2, n3, ix.aL, iy.aL, ix.vB, iy.vB, sZ, Nat.reduceEqDiff, ↓reduceIte, reduceCtorEq]
      exact fin0 bad
 ·rw [(hS.1 h).1] at h0; simp at h0
end Go.aK
end
section
set_option maxRecDepth 100000
namespace Go.aK
open Go Go.Proofs Go.fJ
theorem c87 {c : Cx} (hc : c.Ok) : ∀ (N : Nat) (p : PP) (i k : Int), pz p ≤ N → c.dJ i → c.dJ k → ja c i k p := by
 intro N
 induction N with
 | zero => intro p i k h; have := Ah p; omega
 | succ N ih =>
 intro p i k hN hi hk
 have fM : ∀ q ∈ p.l, ∀ x y, c.dJ x → c.dJ y → ja c x y q := fun q hq x y hx hy => ih q x y (by have := Ai hq; omega) hx hy
 by_cases h1 : p.r = 1
 ·exact WO hc hi hk fM h1
 by_cases h2 : p.r = 2
 ·exact WQ hc hi hk fM h2
 by_cases h3 : p.r = 3
 ·exact WU hc hi hk fM h3
 by_cases h4 : p.r = 4
 ·exact WR hc hi hk fM h4
 exact WS hc hi hk fM h1 h2 h3 h4
theorem SY {c : Cx} (hc : c.Ok) {p : PP} {i k : Int} (hi : c.dJ i) (hk : c.dJ k) : ja c i k p := c87 hc _ p i k (Nat.le_refl _) hi hk
open Classical in
noncomputable def CJ (s : Sg) (ps ss : List Int) (a b : T) (p : PP) : Int := if fU s ps ss [a, b] = 0 then (if Sh (kE ps ss) p a b then 0 else 61) else fU s ps ss [a, b]
theorem c28 (s : Sg) (ps ss : List Int) (a b : T) (p : PP) : Pure Tryz.prog 28 [s.av, ff ps ss, a.av, b.av, dV p] (.int .i64 (CJ s ps ss a b p)) := by
 refine fun H => k28.2.calls rfl ?_
 simp only [k28, aI]
 obtain ⟨q1, q2, q3, q4, q5, q6⟩ := bi ps ss
 obtain ⟨p1, p2, p3, p4, p5, p6, p7, p8, p9⟩ := aX p
 simp +contextual only [aB, q1, q4, p1, cz, sZ, Nat.reduceEqDiff, Nat.reduceAdd, ↓reduceIte, reduceCtorEq]
 refine ae (WG s ps ss [a, b]) ?_
 by_cases h0 : fU s ps ss [a, b] = 0
 ·have hr := qJ h0
  have hw := mf hr.tree
  have hc := hr.cx (by simp) (by simp) H.length
  have hd := yk ps ss (ts := [a, b]) (by simp) H
  simp +contextual only [q4, cz, h0, sZ, Nat.reduceEqDiff, Nat.reduceAdd, ↓reduceIte]
  refine af (Wh ps ss [a, b] H (by simp at hw; omega)) ?_
  rintro r G ⟨rfl, rfl⟩
  have a0 := sW (ps := ps) (ss := ss) (ts := [a, b]) (n := H.length) (j := 0) (by simp)
  have a1 := sW (ps := ps) (ss := ss) (ts := [a, b]) (n := H.length) (j := 1) (by simp)
  have hl := cv [a, b] 0
  rw [N9]
  generalize aT [a, b] 0 = ks at a0 a1 hl ⊢
  have nP : ks.length = 2 := hl
  simp +contextual only [cA, nP, dA, qM, p4, sZ, Nat.reduceEqDiff, Nat.reduceAdd, Nat.reduceLT, ↓reduceIte, reduceCtorEq]
  refine ⟨by decide, by decide, af (SY hc a0.1 a1.1 _ hd) ?_⟩
  rintro r G ⟨x, rfl, hx, hU, hD⟩
  rw [a0.2, a1.2] at hx
  have wo : x = true ↔ Sh (kE ps ss) p a b := hx
  have WV := hU.low (by simp [gg]) (by simp [gg])
  cases x with
  | true =>
    simp +contextual only [Bool.not_true, sZ, ↓reduceIte, reduceCtorEq]
    exact NL WV rfl rfl ⟨by rw [CJ, if_pos h0, if_pos (wo.1 rfl)], rfl⟩
  | false =>
    simp +contextual only [Bool.not_false, sZ, ↓reduceIte, reduceCtorEq]
    exact NL WV rfl rfl ⟨by rw [CJ, if_pos h0, if_neg (fun h => absurd (wo.2 h) (by simp))], rfl⟩
 ·simp +contextual only [h0, sZ, Nat.reduceEqDiff, ↓reduceIte, reduceCtorEq]
  exact aY rfl (by rw [CJ, if_neg h0])
end Go.aK
end
section
set_option maxRecDepth 100000
set_option maxHeartbeats 0
namespace Go.aK
open Go Go.Proofs
noncomputable def CK := aI Tryz.call86 Tryz.func86 Tryz.ntmps86 [(0,0,1),(0,1,1),(3,6,2000),(8,2,2000),(9,7,2000),(10,7,2000),(10,8,1),(10,10,1),(13,3,2000),(16,3,1000),(19,3,2000),(20,9,2000),(21,1,1),(21,6,1),(21,11,1),(21,13,1),(27,3,2000),(29,1,1),(29,13,2000),(29,17,1),(33,1,1),(33,5,2000),(33,9,1)] [(0,[1,3,5,6]),(1,[1,3,5,6,7,8]),(2,[1,3,5,6,7,8,9]),(3,[1,3,5,6,7,8,9,47]),(4,[1,3,5,6,7,8,9]),(5,[1,3,5,6,7,8,9,10]),(6,[1,3,5,6,7,8,10,52]),(7,[1,3,5,6,7,8,10,52,53]),(8,[3,5,6,7,10]),(9,[3,5,6,7,10,67]),(10,[6,10]),(11,[6]),(12,[1,3,6,7,8,10,52,79]),(13,[3,6,7,8,10,11,13]),(14,[3,6,7,8,10,11,89,90,91]),(15,[3,6,7,8,10,11,89,90,91,92]),(16,[3,6,7,8,10,11,14,15,89,90,91]),(17,[3,6,7,8,10,11,14,15,16,89,90,91]),(18,[3,6,7,8,10,11,14,15,16,89,90,91,97]),(19,[3,6,7,8,10,11,14,15,16,89,90,91]),(20,[3,6,7,8,10,11,15,16,89,90,91]),(21,[3,6,7,8,10,11,89,90,91]),(22,[3,6,7,8,10,11,89,90,91]),(23,[6]),(24,[1,3,6,7,8,10,128]),(25,[1,3,6,7,8,10,18]),(26,[1,3,6,8,10,20,21]),(27,[1,3,6,8,10,20,21]),(28,[1,3,6,8,10,20,21,152]),(29,[1,3,6,8,10]),(30,[1,3,6,10,170,171,172]),(31,[1,3,6,10,170,171,172,173]),(32,[1,3,6,10,23,170,171,172]),(33,[1,3,6,10,170,171,172]),(34,[1,3,6,10,170,171,172]),(35,[6])] [(1,(.take 0 true (.take 1 true (.take 2 true (.take 3 true (.take 4 true (.take 5 true (.take 6 true (.take 7 true (.take 8 false (.take 9 false (.take 10 false (.take 12 false (.br 11 (.take 13 false (.take 14 false (.take 15 false (.br 16 (.br 17 (.br 18 (.br 19 .done .nil) .nil) .nil) (.br 17 (.br 16 (.br 18 (.br 19 .done .nil) .nil) .nil) .nil))))) (.br 16 (.br 11 (.take 13 false (.take 14 false (.take 15 false (.br 17 (.br 18 (.br 19 .done .nil) .nil) .nil)))) (.br 17 (.br 11 (.take 13 false (.take 14 false (.take 15 false (.br 18 (.br 19 .done .nil) .nil)))) (.br 18 (.take 11 true (.take 13 true (.take 14 true (.take 15 true (.br 19 .done .nil))))) .nil)) .nil)) (.br 17 (.br 11 (.take 13 false (.take 14 false (.take 15 false (.br 16 (.br 18 (.br 19 .done .nil) .nil) .nil)))) (.br 16 (.br 11 (.take 13 false (.take 14 false (.take 15 false (.br 18 (.br 19 .done .nil) .nil)))) (.br 18 (.take 11 true (.take 13 true (.take 14 true (.take 15 true (.br 19 .done .nil))))) .nil)) .nil)) .nil)))))))))))))))),(3,(.take 0 true (.take 1 true (.take 2 true (.take 3 true (.take 4 true (.take 5 true (.br 6 (.take 7 true .done) .nil)))))))),(9,(.take 0 true (.take 1 true (.take 2 true (.take 3 true (.take 4 true (.take 5 true (.take 6 true (.br 7 (.take 8 true .done) .nil))))))))),(10,(.take 0 true (.take 1 true (.take 2 true (.take 3 true (.take 4 true (.take 5 true (.take 6 true (.br 7 (.take 8 true (.take 9 true (.br 10 .done .nil))) .nil))))))))),(20,(.take 0 true (.take 1 true (.take 2 true (.take 3 true (.take 4 true (.take 5 true (.take 6 true (.take 7 true (.take 8 true (.br 9 (.br 10 .done .nil) .nil))))))))))),(21,(.take 0 false (.take 2 false (.take 3 false (.take 5 false (.br 1 (.br 4 (.br 6 (.take 7 true (.take 8 true (.take 10 true (.br 9 (.br 11 (.take 12 true (.br 13 .done .nil)) .nil) .nil)))) (.br 7 (.take 8 false (.br 6 (.take 10 true (.br 9 (.br 11 (.take 12 true (.br 13 .done .nil)) .nil) .nil)) .nil)) .nil)) (.br 6 (.take 7 true (.take 8 true (.br 4 (.take 10 true (.br 9 (.br 11 (.take 12 true (.br 13 .done .nil)) .nil) .nil)) .nil))) (.br 7 (.take 8 false (.br 4 (.br 6 (.take 10 true (.br 9 (.br 11 (.take 12 true (.br 13 .done .nil)) .nil) .nil)) .nil) (.br 6 (.br 4 (.take 10 true (.br 9 (.br 11 (.take 12 true (.br 13 .done .nil)) .nil) .nil)) .nil) .nil))) .nil))) (.br 6 (.br 1 (.take 7 true (.take 8 true (.br 4 (.take 10 true (.br 9 (.br 11 (.take 12 true (.br 13 .done .nil)) .nil) .nil)) .nil))) (.br 7 (.take 8 false (.br 1 (.br 4 (.take 10 true (.br 9 (.br 11 (.take 12 true (.br 13 .done .nil)) .nil) .nil)) .nil) .nil)) .nil)) (.br 7 (.take 8 false (.br 1 (.br 4 (.br 6 (.take 10 true (.br 9 (.br 11 (.take 12 true (.br 13 .done .nil)) .nil) .nil)) .nil) (.br 6 (.br 4 (.take 10 true (.br 9 (.br 11 (.take 12 true (.br 13 .done .nil)) .nil) .nil)) .nil) .nil)) (.br 6 (.br 1 (.br 4 (.take 10 true (.br 9 (.br 11 (.take 12 true (.br 13 .done .nil)) .nil) .nil)) .nil) .nil) .nil))) .nil)))))))),(26,(.take 0 true (.take 1 true (.take 2 true (.take 3 true (.take 4 true (.take 5 true (.take 6 true (.take 7 true .done))))))))),(29,(.take 0 false (.take 2 false (.take 3 false (.take 4 false (.take 8 false (.take 9 false (.br 1 (.take 5 true (.take 6 true (.take 7 true (.take 10 true (.take 11 true (.take 12 true (.br 13 (.take 14 true (.br 15 (.take 16 true (.br 17 .done .nil)) .nil)) .nil))))))) (.br 5 (.take 6 false (.take 7 false (.br 1 (.take 10 true (.take 11 true (.take 12 true (.br 13 (.take 14 true (.br 15 (.take 16 true (.br 17 .done .nil)) .nil)) .nil)))) (.br 10 (.take 11 false (.take 12 false (.br 1 (.br 13 (.take 14 true (.br 15 (.take 16 true (.br 17 .done .nil)) .nil)) .nil) (.br 13 (.take 14 false (.br 1 (.br 15 (.take 16 true (.br 17 .done .nil)) .nil) .nil)) .nil)))) .nil)))) (.br 10 (.take 11 false (.take 12 false (.br 1 (.take 5 true (.take 6 true (.take 7 true (.br 13 (.take 14 true (.br 15 (.take 16 true (.br 17 .done .nil)) .nil)) .nil)))) (.br 5 (.take 6 false (.take 7 false (.br 1 (.br 13 (.take 14 true (.br 15 (.take 16 true (.br 17 .done .nil)) .nil)) .nil) (.br 13 (.take 14 false (.br 1 (.br 15 (.take 16 true (.br 17 .done .nil)) .nil) .nil)) .nil)))) .nil)))) .nil)))))))))),(33,(.take 0 false (.take 2 false (.take 3 false (.take 4 false (.br 1 (.br 5 (.take 6 true (.br 7 (.take 8 true (.br 9 .done .nil)) .nil)) .nil) (.br 5 (.take 6 false (.br 1 (.br 7 (.take 8 true (.br 9 .done .nil)) .nil) .nil)) .nil)))))))]
end Go.aK
end
section
set_option maxRecDepth 100000
namespace Go.aK
open Go Go.Proofs Go.fJ
def oC (l : List PP) : AV := match l with | [] => .ah | _ :: _ => .ap 4 (dU l)
def sY (l : List Int) : AV := match l with | [] => .ah | _ :: _ => .ap 1 (ints l)
theorem hZ (l : List PP) : (oC l).val = true ∧ (oC l).cells = [oC l] ∧ (oC l).one = true ∧ (∀ n, (oC l).a7 n = true) ∧ (oC l).drop = .ap 0 (dU l) ∧ ∀ n, (oC l).ab.a7 n = true := by
 cases l with
 | nil => exact ⟨rfl, rfl, rfl, fun _ => rfl, rfl, fun _ => rfl⟩
 | cons x r => exact ⟨rfl, rfl, rfl, fun n => by rw [oC, cZ]; exact iE _ _, rfl, fun n => by rw [oC, uY, cZ]; exact iE _ _⟩
theorem lf (l : List Int) : (sY l).val = true ∧ (sY l).cells = [sY l] ∧ (sY l).one = true ∧ (∀ n, (sY l).a7 n = true) ∧ (sY l).drop = .ap 0 (ints l) ∧ ∀ n, (sY l).ab.a7 n = true := by
 cases l with
 | nil => exact ⟨rfl, rfl, rfl, fun _ => rfl, rfl, fun _ => rfl⟩
 | cons x r => exact ⟨rfl, rfl, rfl, fun n => by rw [sY, cZ]; exact bk _ _, rfl, fun n => by rw [sY, uY, cZ]; exact bk _ _⟩
theorem KB (a b : List PP) : dU (a ++ b) = dU a ++ dU b := by simp [k9]
theorem CL (l : List PP) (q : PP) (h : l.length < 1000000000) (o : Nat) (ψ : List AV → Prop) : bE 4 64 (oC l) (.ap o [dV q]) ψ = ψ (dU (l ++ [q])) := by
 have jS : ta 4 [dV q] := of_eq_true (SV [q])
 rw [KB]
 cases l with
 | nil => rw [oC, oa]; simp [jS, dU]
 | cons x r =>
   rw [oC, ns, eB]
   have e : dU [q] = [dV q] := rfl
   rw [e]
   simp only [jS, List.length_cons, List.length_nil, true_and, eq_iff_iff]
   simp only [List.length_cons] at h
   exact ⟨fun h => h.2, fun k => ⟨by omega, k⟩⟩
theorem PM (l : List Int) (q : Int) (h : l.length < 1000000000) (o : Nat) (ψ : List AV → Prop) : bE 1 8 (sY l) (.ap o [.int .i64 q]) ψ = ψ (ints (l ++ [q])) := by
 have jS : ta 1 [AV.int .i64 q] := of_eq_true (lV [q])
 have e : ints [q] = [AV.int .i64 q] := rfl
 cases l with
 | nil => rw [sY, oa]; simp [jS, ints]
 | cons x r =>
   rw [sY, ns, aw, ← kY, e]
   simp only [jS, List.length_cons, List.length_nil, true_and, eq_iff_iff]
   simp only [List.length_cons] at h
   exact ⟨fun h => h.2, fun k => ⟨by omega, k⟩⟩
theorem jn (q : PP) : aQ (dV q) = dV q := by rw [nG]; rfl
theorem qN (l : List PP) (q : PP) : AV.ap 4 (dU (l ++ [q])) = oC (l ++ [q]) := by cases l <;> rfl
theorem CM (l : List Int) (q : Int) : AV.ap 1 (ints (l ++ [q])) = sY (l ++ [q]) := by cases l <;> rfl
theorem d3 {α : Type} (x y z u d : α) (r : List α) : (x :: y :: z :: u :: r).getD 3 d = u := by simp
theorem s3 {α : Type} (x y z w u : α) (r : List α) : (x :: y :: z :: w :: r).set 3 u = x :: y :: z :: u :: r := by simp
theorem SZ (a b c d y : AV) : ag [a, b, c, d] 1 [y] = [a, y, c, d] := by simp [ag]
theorem HU (a b c d x y z u : AV) : ag [a, b, c, d] 0 [x, y, z, u] = [x, y, z, u] := by simp [ag]
theorem PN (r i : Int) (to : List Int) (l : List PP) (φ : AV → Prop) : dd (some (.cells [.int .i64 r, .int .i64 i, sY to, oC l])) (some 4) 0 φ = φ (dV (.mk r i to l)) := by
 have e : List.map AV.drop [AV.int .i64 r, .int .i64 i, sY to, oC l] = [.int .i64 r, .int .i64 i, .ap 0 (ints to), .ap 0 (dU l)] := by
  simp only [List.map_cons, List.map_nil, (hZ l).2.2.2.2.1, (lf to).2.2.2.2.1]; rfl
 simp only [dd, List.drop_zero, List.length_cons, List.length_nil, List.take_succ_cons, List.take_zero, e, dV]
 simp
def WW (c : Cx) (i k : Int) (H : List aa) (r : AV) (H' : List aa) : Prop := ∃ p, r = dV p ∧ Sh c.O p (c.tm i) (c.tm k) ∧ Up c H H' ∧ Du c H'
def oD (c : Cx) (i k : Int) : Prop := ∀ H, Du c H → aq Tryz.prog 86 [.ptr c.d 0, .int .i64 i, .int .i64 k] H (WW c i k H)
structure PB (c : Cx) (H : List aa) (x y : Nat) (i k : Int) (es : List AV) (G : List aa) : Prop where
 du : Du c G
 gx : G[x]? = some (.cells [bn (c.kd i)])
 gy : G[y]? = some (.cells [bn (c.kd k)])
 g6 : G[H.length]? = some (.cells [.int .i64 0, .int .i64 0, .ah, .ah])
 gp : G[H.length + 3]? = some (.cells es)
 len : G.length = H.length + 4
 up : ∀ j, j < H.length → j ≠ c.e → j ≠ c.g → G[j]? = H[j]?
structure XY (H : List aa) (x y : Nat) : Prop where
 x1 : H.length < x
 x2 : x < H.length + 3
 y1 : H.length < y
 y2 : y < H.length + 3
theorem PB.call {c : Cx} {H G G' : List aa} {x y : Nat} {i k : Int} {es : List AV} (hD : Du c H) (w : XY H x y) (h : PB c H x y i k es G) (hU : Up c G G') (jf : Du c G') : PB c H x y i k es G' := by
 obtain ⟨l1, l2, l3⟩ := hD.lt
 obtain ⟨w1, w2, w3, w4⟩ := w
 exact ⟨jf, by rw [hU.get x (by omega) (by omega), h.gx], by rw [hU.get y (by omega) (by omega), h.gy], by rw [hU.get _ (by omega) (by omega), h.g6], by rw [hU.get _ (by omega) (by omega), h.gp], by rw [hU.len, h.len], fun j h1 h2 h3 => by rw [hU.get j h2 h3, h.up j h1 h2 h3]⟩
theorem PB.set {c : Cx} {H G : List aa} {x y : Nat} {i k : Int} {es es' : List AV} (hD : Du c H) (w : XY H x y) (h : PB c H x y i k es G) : PB c H x y i k es' (G.set (H.length + 3) (.cells es')) := by
 obtain ⟨l1, l2, l3⟩ := hD.lt
 obtain ⟨w1, w2, w3, w4⟩ := w
 have hp := aN h.gp
 exact ⟨h.du.set (by omega) (by omega) (by omega), by rw [List.getElem?_set_ne (by omega), h.gx], by rw [List.getElem?_set_ne (by omega), h.gy], by rw [List.getElem?_set_ne (by omega), h.g6], by rw [List.getElem?_set_self hp], by rw [List.length_set, h.len], fun j h1 h2 h3 => by rw [List.getElem?_set_ne (by omega), h.up j h1 h2 h3]⟩
theorem aah {c : Cx} {k x : Int} (h1 : ke c x k) (h2 : gS c x k) {H : List aa} (hD : Du c H) : aq Tryz.prog 147 [.int .i64 x, .ai (.ptr c.d 0), .ai (.int .i64 k)] H (iv c (E c.O (c.tm x) (c.tm k) ∨ R c.O (c.tm x) (c.tm k)) H) := by
 refine UM.2.calls rfl ?_
 simp only [UM, aI]
 simp +contextual only [sZ, Nat.reduceEqDiff, Nat.reduceAdd, ↓reduceIte, reduceCtorEq]
 refine af (h1 H hD) ?_
 rintro r H' ⟨b, rfl, hb, hU, jf⟩
 cases b with
 | true =>
   simp +contextual only [sZ, Nat.reduceEqDiff, ↓reduceIte, reduceCtorEq]
   exact eo rfl ⟨fun _ => .inl (hb.1 rfl), fun _ => rfl⟩ hU jf
 | false =>
   simp +contextual only [sZ, Nat.reduceEqDiff, Nat.reduceAdd, ↓reduceIte, reduceCtorEq]
   refine af (h2 H' jf) ?_
   rintro r H2 ⟨z, rfl, hz, PF, AB⟩
   simp +contextual only [sZ, Nat.reduceEqDiff, ↓reduceIte, reduceCtorEq]
   refine eo rfl ⟨fun h => .inr (hz.1 h), fun h => hz.2 (h.resolve_left fun h => absurd (hb.2 h) (by simp))⟩ (hU.trans PF) AB
theorem aai {c : Cx} {a b : List Int} {va vb : AV} (ha : IL va a) (hb : IL vb b) {p q : Nat} {x y : Int} (hx : 0 ≤ x ∧ x < a.length) (hy : 0 ≤ y ∧ y < b.length) (h : gS c (a.getD x.toNat 0) (b.getD y.toNat 0)) {G : List aa} (hD : Du c G) (gp : G[p]? = some (.cells [va])) (gq : G[q]? = some (.cells [vb])) :
 aq Tryz.prog 148 [.int .i64 x, .ai (.ptr c.d 0), .ptr p 0, .ptr q 0, .ai (.int .i64 y)] G (iv c (R c.O (c.tm (a.getD x.toNat 0)) (c.tm (b.getD y.toNat 0))) G) := by
 refine UN.2.calls rfl ?_
 simp only [UN, aI]
 obtain ⟨a1, a2, a3, a4⟩ := ha.one
 obtain ⟨b1, b2, b3, b4⟩ := hb.one
 simp +contextual only [gp, gq, a2, b2, ha.lens, hb.lens, ha.idx, hb.idx, sZ, Nat.reduceEqDiff, Nat.reduceAdd, Nat.reduceLT, ↓reduceIte, reduceCtorEq]
 refine ⟨hx, hy, af (h G hD) ?_⟩
 rintro r G' ⟨z, rfl, hz, hU, jf⟩
 simp +contextual only [sZ, ↓reduceIte, reduceCtorEq]
 exact eo rfl hz hU jf
def PO : IR := (.loop (.seq (.region [⟨none,some 173,(.bin .lss (.t 172) (.t 171))⟩] (.some [1,3,6,10,170,171,172,173])) (.seq (.cond (.t 173) .skip (.exit 5)) (.seq (.block 6 (.seq (.region [⟨none,some 174,(.indexAddr 1 (.t 170) (.t 172))⟩,⟨none,some 175,(.load .none (.t 174))⟩,⟨none,some 23,(.set (.t 175) false)⟩] (.some [1,3,6,10,23,170,171,172])) (.draw (.take .false ⟨none,some 176,(.fieldAddr 3 .none (.t 10))⟩ (.take .false ⟨none,some 178,(.load .none (.t 3))⟩ (.take .false ⟨none,some 179,(.set (.t 1) false)⟩ (.take .false ⟨none,some 180,(.set (.t 23) false)⟩ (.br ⟨none,some 177,(.eu (.t 176))⟩ (.br ⟨none,some 181,(.call (.c (.fn (.func 86) [] [])) [(.t 178),(.t 179),(.t 180)] (.some 1999))⟩ (.take .true ⟨none,some 182,(.buildSlice 0 4 (.agg [(.int .i64 0),(.int .i64 0),.ah,.ah]) 1 [(0,(.t 181))])⟩ (.br ⟨none,some 183,(.append 4 64 (.t 177) (.t 182))⟩ (.take .true ⟨none,some 184,(.fieldAddr 3 .none (.t 10))⟩ (.br ⟨none,none,(.eX (.t 184) 183)⟩ .done .nil)) .nil)) .nil) (.br ⟨none,some 181,(.call (.c (.fn (.func 86) [] [])) [(.t 178),(.t 179),(.t 180)] (.some 1999))⟩ (.take .false ⟨none,some 182,(.buildSlice 0 4 (.agg [(.int .i64 0),(.int .i64 0),.ah,.ah]) 1 [(0,(.t 181))])⟩ (.br ⟨none,some 177,(.eu (.t 176))⟩ (.br ⟨none,some 183,(.append 4 64 (.t 177) (.t 182))⟩ (.take .true ⟨none,some 184,(.fieldAddr 3 .none (.t 10))⟩ (.br ⟨none,none,(.eX (.t 184) 183)⟩ .done .nil)) .nil) .nil)) .nil)))))) (.some [1,3,6,10,170,171,172])))) (.region [⟨none,some 185,(.bin .add (.t 172) (.c (.int .i64 1)))⟩,⟨none,some 172,(.set (.t 185) false)⟩] (.some [1,3,6,10,170,171,172]))))))
theorem EH {c : Cx} {H : List aa} (hD : Du c H) {x y : Nat} (w : XY H x y) {i k : Int} {rl at' : Int} {l0 : List PP} (EW : l0.length ≤ 1) {b : List Int} {vb : AV} (hb : IL vb b) (lb : b.length ≤ 100000000) (hp : ∀ z ∈ b, oD c i z) {G : List aa} (h : PB c H x y i k [.int .i64 rl, .int .i64 at', .ah, oC l0] G) :
 lj ⟨Tryz.prog, none⟩ H.length PO [(1, .int .i64 i), (3, .ai (.ptr c.d 0)), (6, .ptr H.length 0), (10, .ptr (H.length + 3) 0), (170, vb), (171, .int .i64 b.length), (172, .int .i64 0)] G fun e aC G' =>
  e = .exit 5 ∧ get aC 6 = .ptr H.length 0 ∧ get aC 10 = .ptr (H.length + 3) 0 ∧ ∃ qs, k8 (Sh c.O) qs (c.tm i) (b.map c.tm) ∧ PB c H x y i k [.int .i64 rl, .int .i64 at', .ah, oC (l0 ++ qs)] G' := by
 obtain ⟨b1, b2, b3, b4⟩ := hb.one
 unfold PO
 refine aM b.length (fun j (s : List aa × List PP) => PB c H x y i k [.int .i64 rl, .int .i64 at', .ah, oC (l0 ++ s.2)] s.1 ∧ s.2.length = j ∧ ∀ j', j' < j → Sh c.O (s.2.getD j' default) (c.tm i) (c.tm (b.getD j' 0)))
  (fun j s => [(1, .int .i64 i), (3, .ai (.ptr c.d 0)), (6, .ptr H.length 0), (10, .ptr (H.length + 3) 0), (170, vb), (171, .int .i64 b.length), (172, .int .i64 j)]) (fun j s => s.1) (G, []) ⟨⟨by rw [List.append_nil]; exact h, rfl, fun j h => by omega⟩, aA _ _ _⟩ fun j s hj hI => ?_
 obtain ⟨G, qs⟩ := s
 obtain ⟨kB, hlen, P6⟩ := hI
 simp only at kB hlen P6
 by_cases Ky : (j : Int) < b.length
 ·have pD : j < b.length := by omega
  have gp := kB.gp
  have hl : (l0 ++ qs).length < 1000000000 := by rw [List.length_append]; omega
  have mJ := fun es => kB.set (es' := es) hD w
  simp +contextual only [Ky, decide_true, hb.lens, hb.idx, Int.toNat_natCast, gp, d3, s3, sZ, Nat.reduceEqDiff, Nat.reduceAdd, Nat.reduceLT, ↓reduceIte, reduceCtorEq]
  have fin : ∀ (q : PP) (G' : List aa), Sh c.O q (c.tm i) (c.tm (b.getD j 0)) → PB c H x y i k [.int .i64 rl, .int .i64 at', .ah, oC (l0 ++ (qs ++ [q]))] G' → ∃ (j' : Nat) (t : List aa × List PP), (j' ≤ b.length ∧ PB c H x y i k [.int .i64 rl, .int .i64 at', .ah, oC (l0 ++ t.2)] t.1 ∧ t.2.length = j' ∧ ∀ j'', j'' < j' → Sh c.O (t.2.getD j'' default) (c.tm i) (c.tm (b.getD j'' 0))) ∧ b.length - j' < b.length - j ∧
   sle H.length [(1, .int .i64 i), (3, .ai (.ptr c.d 0)), (6, .ptr H.length 0), (10, .ptr (H.length + 3) 0), (170, vb), (171, .int .i64 b.length), (172, .int .i64 (IntKind.i64.wrap (j + 1)))] G' [(1, .int .i64 i), (3, .ai (.ptr c.d 0)), (6, .ptr H.length 0), (10, .ptr (H.length + 3) 0), (170, vb), (171, .int .i64 b.length), (172, .int .i64 j')] t.1 := by
   intro q G' hq aaj
   refine ⟨j + 1, (G', qs ++ [q]), ⟨pD, aaj, by simp [hlen], fun j'' aet => ?_⟩, by omega, aF (by rw [au j (by omega)]) rfl⟩
   by_cases e : j'' = j
   ·subst e
    have : (qs ++ [q]).getD j'' default = q := by rw [← hlen]; simp
    rw [this]; exact hq
   ·have : (qs ++ [q]).getD j'' default = qs.getD j'' default := by
     rw [List.getD_eq_getElem?_getD, List.getD_eq_getElem?_getD, List.getElem?_append_left (by omega)]
    rw [this]; exact P6 j'' (by omega)
  refine ⟨by omega, ?_, ?_⟩
  ·refine af (hp _ (aO pD) _ (mJ _).du) ?_
   rintro r G2 ⟨q, rfl, hq, hU, AB⟩
   have KC := (mJ _).call hD w hU AB
   have gp2 := KC.gp
   have An := fun es => KC.set (es' := es) hD w
   obtain ⟨q1, q2, q3, q4, q5, q6, q7, q8, q9⟩ := aX q
   obtain ⟨v1, v2, v3, v4, v5, v6⟩ := hZ (l0 ++ (qs ++ [q]))
   simp +contextual only [q1, q2, jn, CL _ _ hl, gp2, s3, List.append_assoc, sZ, Nat.reduceEqDiff, Nat.reduceAdd, Nat.reduceLT, ↓reduceIte]
   have el : AV.ap 4 (dU (l0 ++ (qs ++ [q]))) = oC (l0 ++ (qs ++ [q])) := by rw [← List.append_assoc]; exact qN _ _
   rw [el]
   exact ⟨iE _ _, fin q _ hq (An _)⟩
  ·refine af (hp _ (aO pD) _ kB.du) ?_
   rintro r G2 ⟨q, rfl, hq, hU, AB⟩
   have KC := kB.call hD w hU AB
   have gp2 := KC.gp
   have An := fun es => KC.set (es' := es) hD w
   have gp3 := fun es => (An es).gp
   have vP := fun es es' => (An es).set (es' := es') hD w
   obtain ⟨q1, q2, q3, q4, q5, q6, q7, q8, q9⟩ := aX q
   obtain ⟨v1, v2, v3, v4, v5, v6⟩ := hZ (l0 ++ (qs ++ [q]))
   simp +contextual only [q1, q2, jn, CL _ _ hl, gp2, gp3, d3, s3, List.append_assoc, sZ, Nat.reduceEqDiff, Nat.reduceAdd, Nat.reduceLT, ↓reduceIte]
   have el : AV.ap 4 (dU (l0 ++ (qs ++ [q]))) = oC (l0 ++ (qs ++ [q])) := by rw [← List.append_assoc]; exact qN _ _
   rw [el]
   exact ⟨iE _ _, fin q _ hq (vP _ _)⟩
 ·have e : j = b.length := by omega
  simp +contextual only [Ky, decide_false, sZ, Nat.reduceEqDiff, ↓reduceIte]
  refine ⟨qs, ⟨by rw [hlen, e, List.length_map], fun j' tS => ?_⟩, kB⟩
  rw [List.length_map] at tS
  rw [cc tS]; exact P6 j' (by omega)
end Go.aK
end
