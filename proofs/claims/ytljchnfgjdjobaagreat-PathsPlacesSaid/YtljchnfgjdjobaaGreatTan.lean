/- Part 14 of 18 of the proof. -/
import Derived.Test.YtljchnfgjdjobaaGreatTak
import Derived.Test.YtljchnfgjdjobaaGreatTam
import Derived.Test.YtljchnfgjdjobaaGreatTac
import Derived.Test.YtljchnfgjdjobaaGreatTag
import Derived.KernelRfl
set_option linter.unusedVariables false
set_option linter.unusedSimpArgs false
set_option linter.defProp false
set_option linter.unusedSectionVars false
section
namespace Go.fw
open Go.aL
inductive PP where
 | mk (r i : Int) (to : List Int) (l : List PP)
 deriving Inhabited
def PP.r : PP → Int | .mk r _ _ _ => r
def PP.i : PP → Int | .mk _ i _ _ => i
def PP.to : PP → List Int | .mk _ _ to _ => to
def PP.l : PP → List PP | .mk _ _ _ l => l
mutual
def pz : PP → Nat
 | .mk _ _ _ l => Wx l + 1
def Wx : List PP → Nat
 | [] => 0
 | x :: r => pz x + Wx r
end
theorem FJ {x : PP} : ∀ {l : List PP}, x ∈ l → pz x ≤ Wx l
 | y :: r, h => by
   rw [Wx]
   rcases List.mem_cons.1 h with rfl | h
   ·omega
   ·have := FJ h; omega
theorem Ad (p : PP) : 0 < pz p := by cases p; rw [pz]; omega
theorem Ae {p x : PP} (h : x ∈ p.l) : pz x < pz p := by
 obtain ⟨r, i, to, l⟩ := p
 have : pz x ≤ Wx l := FJ h
 rw [pz]; omega
theorem dQ {l : List PP} {i : Nat} (h : i < l.length) : l.getD i default ∈ l := by
 rw [List.getD_eq_getElem?_getD, List.getElem?_eq_getElem h]; exact List.getElem_mem h
theorem HE {l : List T} {i : Nat} (h : i < l.length) : l.getD i default ∈ l := by
 rw [List.getD_eq_getElem?_getD, List.getElem?_eq_getElem h]; exact List.getElem_mem h
def PP.nil (q : PP) : Prop := q.r = 0 ∧ q.i = 0 ∧ q.to = [] ∧ q.l = []
instance (q : PP) : Decidable q.nil := by
 unfold PP.nil
 have : Decidable (q.l = []) := by cases q.l with
  | nil => exact isTrue rfl
  | cons a b => exact isFalse (by simp)
 exact inferInstance
def dj (to : List Int) (x : Int) : Nat → Nat
 | 0 => 0
 | n + 1 => dj to x n + if to.getD n 0 = x then 1 else 0
def dd (to : List Int) (l : List PP) (x : Int) : Nat → Nat
 | 0 => 0
 | n + 1 => dd to l x n + if to.getD n 0 = x ∧ (l.getD n default).nil then 1 else 0
theorem yk {to : List Int} {x : Int} {j : Nat} : ∀ {n : Nat}, j < n → to.getD j 0 = x → 1 ≤ dj to x n
 | n + 1, h, e => by
   rw [dj]
   by_cases hj : j = n
   ·subst hj; rw [if_pos e]; omega
   ·have := yk (n := n) (by omega) e; omega
theorem rT {to : List Int} {x : Int} {j j' : Nat} (hj : j < j') (e : to.getD j 0 = x) (e' : to.getD j' 0 = x) : ∀ {n : Nat}, j' < n → 2 ≤ dj to x n
 | n + 1, h => by
   rw [dj]
   by_cases hn : j' = n
   ·subst hn; rw [if_pos e']; have := yk hj e; omega
   ·have := rT hj e e' (n := n) (by omega); omega
theorem yl {to : List Int} {x : Int} {j j' n : Nat} (h : dj to x n ≤ 1) (hj : j < n) (tV : j' < n) (e : to.getD j 0 = x) (e' : to.getD j' 0 = x) : j = j' := by
 rcases Nat.lt_trichotomy j j' with h1 | h1 | h1
 ·have := rT h1 e e' tV; omega
 ·exact h1
 ·have := rT h1 e' e hj; omega
theorem gW {to : List Int} {l : List PP} {x : Int} : ∀ {n : Nat}, 0 < dd to l x n ↔ ∃ j, j < n ∧ to.getD j 0 = x ∧ (l.getD j default).nil
 | 0 => by simp [dd]
 | n + 1 => by
   rw [dd]
   have ih := gW (to := to) (l := l) (x := x) (n := n)
   by_cases h : to.getD n 0 = x ∧ (l.getD n default).nil
   ·rw [if_pos h]
    exact ⟨fun _ => ⟨n, by omega, h⟩, fun _ => by omega⟩
   ·rw [if_neg h, Nat.add_zero, ih]
    constructor
    ·rintro ⟨j, h1, h2⟩; exact ⟨j, by omega, h2⟩
    ·rintro ⟨j, h1, h2⟩
     have : j ≠ n := fun e => h (e ▸ h2)
     exact ⟨j, by omega, h2⟩
theorem nz {to : List Int} {l : List PP} {x : Int} : ∀ n, dd to l x n ≤ dj to x n
 | 0 => Nat.le_refl _
 | n + 1 => by
   rw [dd, dj]
   have := nz (to := to) (l := l) (x := x) n
   by_cases h : to.getD n 0 = x ∧ (l.getD n default).nil
   ·rw [if_pos h, if_pos h.1]; omega
   ·rw [if_neg h]; omega
def kV (S : PP → T → T → Prop) (l : List PP) (a : T) (bs : List T) : Prop := l.length = bs.length ∧ ∀ j, j < bs.length → S (l.getD j default) a (bs.getD j default)
def Pv (Q : T → T → Prop) (S : PP → T → T → Prop) (to : List Int) (l : List PP) (az bs : List T) : Prop :=
 to.length = bs.length ∧ l.length = bs.length ∧
 (∀ j, j < bs.length → (0 ≤ to.getD j 0 ∧ to.getD j 0 < az.length) ∧
   (if (l.getD j default).nil then Q (az.getD (to.getD j 0).toNat default) (bs.getD j default) else S (l.getD j default) (az.getD (to.getD j 0).toNat default) (bs.getD j default))) ∧
 (∀ x : Nat, x < az.length → 0 < dd to l x bs.length → dj to x bs.length ≤ 1) ∧ ∃ x : Nat, x < az.length ∧ dd to l x bs.length = 0
def Ct (Q : T → T → Prop) (S : PP → T → T → Prop) (i : Int) (l : List PP) (a : T) (az bs : List T) (bl : List T) : Prop :=
 (0 ≤ i ∧ i < az.length ∧ i ≤ bs.length) ∧ (∀ j, j < i.toNat → Q (az.getD j default) (bs.getD j default)) ∧
 (if i = bs.length then kV S l a bl else ∃ q r, l = q :: r ∧ S q (az.getD i.toNat default) (bs.getD i.toNat default) ∧ kV S r a bl)
def Fs (O : Od) (S : PP → T → T → Prop) (p : PP) (a b : T) : Prop :=
 a.k = 2 ∧ (
  (p.r = 1 ∧ p.to = [] ∧ (0 ≤ p.i ∧ p.i < a.l.length) ∧ ((p.l = [] ∧ E O (a.l.getD p.i.toNat default) b) ∨ ∃ q, p.l = [q] ∧ S q (a.l.getD p.i.toNat default) b)) ∨
  (p.r = 2 ∧ p.to = [] ∧ p.i = 0 ∧ b.k = 2 ∧ O.pl b.n < O.pl a.n ∧ kV S p.l a b.l) ∨
  (p.r = 3 ∧ p.to = [] ∧ b.k = 2 ∧ O.pl a.n = O.pl b.n ∧ O.sp (O.pl a.n) ≠ 3 ∧ Ct (E O) S p.i p.l a (side (O.sp (O.pl a.n)) a.l) (side (O.sp (O.pl a.n)) b.l) b.l) ∨
  (p.r = 4 ∧ p.i = 0 ∧ b.k = 2 ∧ O.pl a.n = O.pl b.n ∧ O.sp (O.pl a.n) = 3 ∧ Pv (E O) S p.to p.l a.l b.l))
theorem lZ {S S' : PP → T → T → Prop} {l : List PP} {a : T} {bs : List T} (h : ∀ q ∈ l, ∀ a b, S q a b ↔ S' q a b) : kV S l a bs ↔ kV S' l a bs := by
 refine and_congr_right fun hl => ?_
 constructor
 ·exact fun k j hj => (h _ (dQ (by omega)) _ _).1 (k j hj)
 ·exact fun k j hj => (h _ (dQ (by omega)) _ _).2 (k j hj)
theorem HF {Q : T → T → Prop} {S S' : PP → T → T → Prop} {to : List Int} {l : List PP} {az bs : List T} (h : ∀ q ∈ l, ∀ a b, S q a b ↔ S' q a b) : Pv Q S to l az bs ↔ Pv Q S' to l az bs := by
 refine and_congr_right fun _ => and_congr_right fun hl => and_congr_left fun _ => ?_
 constructor
 ·intro k j hj
  refine ⟨(k j hj).1, ?_⟩
  have := (k j hj).2
  split at this
  ·rename_i e; rw [if_pos e]; exact this
  ·rename_i e; rw [if_neg e]; exact (h _ (dQ (by omega)) _ _).1 this
 ·intro k j hj
  refine ⟨(k j hj).1, ?_⟩
  have := (k j hj).2
  split at this
  ·rename_i e; rw [if_pos e]; exact this
  ·rename_i e; rw [if_neg e]; exact (h _ (dQ (by omega)) _ _).2 this
theorem Eu {Q : T → T → Prop} {S S' : PP → T → T → Prop} {i : Int} {l : List PP} {a : T} {az bs bl : List T} (h : ∀ q ∈ l, ∀ a b, S q a b ↔ S' q a b) : Ct Q S i l a az bs bl ↔ Ct Q S' i l a az bs bl := by
 refine and_congr_right fun _ => and_congr_right fun _ => ?_
 split
 ·exact lZ h
 ·constructor
  ·rintro ⟨q, r, rfl, h1, h2⟩
   exact ⟨q, r, rfl, (h q List.mem_cons_self _ _).1 h1, (lZ fun x hx => h x (List.mem_cons_of_mem _ hx)).1 h2⟩
  ·rintro ⟨q, r, rfl, h1, h2⟩
   exact ⟨q, r, rfl, (h q List.mem_cons_self _ _).2 h1, (lZ fun x hx => h x (List.mem_cons_of_mem _ hx)).2 h2⟩
theorem Cu {O : Od} {S S' : PP → T → T → Prop} {p : PP} {a b : T} (h : ∀ q ∈ p.l, ∀ a b, S q a b ↔ S' q a b) : Fs O S p a b ↔ Fs O S' p a b := by
 refine and_congr_right fun _ => or_congr ?_ (or_congr ?_ (or_congr ?_ ?_))
 ·refine and_congr_right fun _ => and_congr_right fun _ => and_congr_right fun _ => or_congr Iff.rfl ?_
  constructor
  ·rintro ⟨q, e, k⟩; exact ⟨q, e, (h q (by rw [e]; simp) _ _).1 k⟩
  ·rintro ⟨q, e, k⟩; exact ⟨q, e, (h q (by rw [e]; simp) _ _).2 k⟩
 ·rw [lZ h]
 ·rw [Eu h]
 ·rw [HF h]
def Pw (O : Od) : Nat → PP → T → T → Prop
 | 0 => fun _ _ _ => False
 | f + 1 => Fs O (Pw O f)
def Sh (O : Od) (p : PP) (a b : T) : Prop := Pw O (pz p) p a b
theorem pk (O : Od) : ∀ (f g : Nat) (p : PP) (a b : T), pz p ≤ f → pz p ≤ g → (Pw O f p a b ↔ Pw O g p a b)
 | 0, _, p, a, b, h, _ => by have := Ad p; omega
 | _ + 1, 0, p, a, b, _, h => by have := Ad p; omega
 | f + 1, g + 1, p, a, b, h1, h2 => by
   simp only [Pw]
   refine Cu fun q hq a b => ?_
   have := Ae hq
   exact pk O f g q a b (by omega) (by omega)
theorem pn {O : Od} {p : PP} {a b : T} : Sh O p a b ↔ Fs O (Sh O) p a b := by
 have e : Pw O (pz p) p a b ↔ Pw O (pz p + 1) p a b := pk O _ _ p a b (by omega) (by omega)
 unfold Sh
 rw [e]
 show Fs O (Pw O (pz p)) p a b ↔ _
 refine Cu fun q hq a b => ?_
 have := Ae hq
 exact pk O _ _ q a b (by omega) (by omega)
theorem Py {G : T → T → Prop} : ∀ (n : Nat) {l m : List T}, n < l.length → n ≤ m.length → (∀ j, j < n → l.getD j default = m.getD j default) → (n = m.length ∨ G (l.getD n default) (m.getD n default)) → Lx G l m
 | 0, x :: l, [], _, _, _, _ => trivial
 | 0, x :: l, y :: m, _, _, _, h => .inr (by simpa using h)
 | n + 1, x :: l, [], _, h, _, _ => by simp at h
 | n + 1, x :: l, y :: m, h1, h2, h3, h4 => by
   refine .inl ⟨h3 0 (by omega), Py n (by simpa using h1) (by simpa using h2) (fun j hj => h3 (j + 1) (by omega)) ?_⟩
   simpa using h4
theorem Ev {β : Type} (f : T → β) (a : List T) : a.map f = (List.range a.length).map fun i => f (a.getD i default) := by
 apply List.ext_getElem
 ·simp
 ·intro i h1 h2
  have : i < a.length := by simpa using h1
  simp [this]
theorem ym {β : Type} (f : T → β) (a : List T) (p : Nat → Bool) : (a.map f).Perm (((List.range a.length).filter p).map (fun i => f (a.getD i default)) ++ ((List.range a.length).filter fun i => !p i).map fun i => f (a.getD i default)) := by
 rw [Ev, ← List.map_append]
 exact (List.filter_append_perm p (List.range a.length)).symm.map _
theorem oN (n : Nat) (p : Nat → Bool) : ((List.range n).filter p).Nodup := List.Pairwise.filter p List.nodup_range
theorem SK {O : Od} {S : PP → T → T → Prop} {to : List Int} {l : List PP} {az bs : List T} (h : Pv (E O) S to l az bs) (hS : ∀ q ∈ l, ∀ a b, S q a b → R O a b) : Mu (Gt O.sp) (az.map (norm O)) (bs.map (norm O)) := by
 obtain ⟨h1, h2, h3, h4, x0, Io, h5⟩ := h
 let n := bs.length
 let U : Nat → Bool := fun i => decide (dd to l i n = 0)
 let Z : Nat → Bool := fun j => !decide (l.getD j default).nil
 have pu := ym (norm O) az U
 have pz := ym (norm O) bs Z
 refine V0 (X := ((List.range az.length).filter U).map fun i => norm O (az.getD i default)) (Y := ((List.range bs.length).filter Z).map fun i => norm O (bs.getD i default)) (C := ((List.range bs.length).filter fun i => !Z i).map fun i => norm O (bs.getD i default)) ?_ pz ?_ ?_
 ·refine pu.trans (List.Perm.append_left _ ?_)
  have hp : (((List.range bs.length).filter fun j => !Z j).map fun j => (to.getD j 0).toNat).Perm ((List.range az.length).filter fun i => !U i) := by
   rw [List.perm_ext_iff_of_nodup]
   ·intro i
    simp only [Z, U, n, List.mem_map, List.mem_filter, List.mem_range, Bool.not_not, Bool.not_eq_true', decide_eq_true_eq, decide_eq_false_iff_not]
    constructor
    ·rintro ⟨j, ⟨hj, hn⟩, rfl⟩
     have := (h3 j hj).1
     refine ⟨by omega, ?_⟩
     have : 0 < dd to l ((to.getD j 0).toNat : Int) bs.length := gW.2 ⟨j, hj, by omega, hn⟩
     omega
    ·rintro ⟨hi, hu⟩
     obtain ⟨j, k1, k2, k3⟩ := gW.1 (show 0 < dd to l (i : Int) bs.length by omega)
     exact ⟨j, ⟨k1, k3⟩, by omega⟩
   ·rw [List.Nodup, List.pairwise_map]
    refine List.Pairwise.imp_of_mem ?_ (oN _ _)
    intro j j' hj tV ep he
    simp only [Z, List.mem_filter, List.mem_range, Bool.not_not, decide_eq_true_eq] at hj tV
    have b1 := (h3 j hj.1).1
    have b2 := (h3 j' tV.1).1
    have e1 : to.getD j 0 = (((to.getD j 0).toNat : Nat) : Int) := by omega
    have e2 : to.getD j' 0 = (((to.getD j 0).toNat : Nat) : Int) := by omega
    have hp : 0 < dd to l (((to.getD j 0).toNat : Nat) : Int) bs.length := gW.2 ⟨j, hj.1, e1, hj.2⟩
    exact ep (yl (h4 _ (by omega) hp) hj.1 tV.1 e1 e2)
   ·exact oN _ _
  refine (hp.map fun i => norm O (az.getD i default)).symm.trans ?_
  rw [List.map_map]
  refine List.Perm.of_eq (List.map_congr_left fun j hj => ?_)
  simp only [Z, List.mem_filter, List.mem_range, Bool.not_not, decide_eq_true_eq] at hj
  have := (h3 j hj.1).2
  rw [if_pos hj.2] at this
  exact this
 ·intro e
  have : norm O (az.getD x0 default) ∈ ((List.range az.length).filter U).map fun i => norm O (az.getD i default) :=
   List.mem_map.2 ⟨x0, List.mem_filter.2 ⟨List.mem_range.2 Io, by simp [U, n, h5]⟩, rfl⟩
  rw [e] at this
  cases this
 ·intro y hy
  obtain ⟨j, hj, rfl⟩ := List.mem_map.1 hy
  simp only [Z, List.mem_filter, List.mem_range, Bool.not_eq_true', decide_eq_false_iff_not] at hj
  obtain ⟨hj, hn⟩ := hj
  have b1 := h3 j hj
  rw [if_neg hn] at b1
  refine ⟨norm O (az.getD (to.getD j 0).toNat default), List.mem_map.2 ⟨(to.getD j 0).toNat, List.mem_filter.2 ⟨List.mem_range.2 (by omega), ?_⟩, rfl⟩, hS _ (dQ (by omega)) _ _ b1.2⟩
  simp only [U, n, decide_eq_true_eq]
  by_cases hp : 0 < dd to l ((to.getD j 0).toNat : Int) bs.length
  ·have ht := h4 _ (by omega) hp
   obtain ⟨j', k1, k2, k3⟩ := gW.1 hp
   have := yl ht hj k1 (by omega) k2
   exact absurd (this ▸ k3) hn
  ·omega
theorem oh {f : T → T} {l : List T} {i : Nat} (h : i < l.length) : (l.map f).getD i default = f (l.getD i default) := by
 simp [h]
theorem ZT {O : Od} : ∀ (N : Nat) {p : PP} {a b : T}, pz p ≤ N → Sh O p a b → R O a b := by
 intro N
 induction N with
 | zero => intro p a b h; have := Ad p; omega
 | succ N ih =>
 intro p a b hN h
 have hm : ∀ q ∈ p.l, ∀ a b, Sh O q a b → R O a b := fun q hq a b hs => ih (by have := Ae hq; omega) hs
 have jo : ∀ {l : List PP} {bs : List T}, (∀ q ∈ l, q ∈ p.l) → kV (Sh O) l a bs → ∀ y ∈ bs, R O a y := by
  intro l bs hq hl y hy
  obtain ⟨j, hj, rfl⟩ := List.mem_iff_getElem.1 hy
  have := hl.2 j hj
  have e : bs.getD j default = bs[j] := by simp [hj]
  rw [e] at this
  exact hm _ (hq _ (dQ (by have := hl.1; omega))) _ _ this
 obtain ⟨ha, h⟩ := pn.1 h
 rcases h with ⟨_, _, hi, h⟩ | ⟨_, _, _, hb, hp, h⟩ | ⟨_, _, hb, hp, hs, h1, h2, h3⟩ | ⟨_, _, hb, hp, hs, h⟩
 ·refine V2 ha (HE (i := p.i.toNat) (by omega)) ?_
  rcases h with ⟨_, h⟩ | ⟨q, e, h⟩
  ·exact .inl h
  ·exact .inr (hm q (by rw [e]; simp) _ _ h)
 ·exact nl.2 ⟨ha, .inr ⟨hb, .inl ⟨hp, jo (fun _ h => h) h⟩⟩⟩
 ·refine nl.2 ⟨ha, .inr ⟨hb, .inr (.inl ⟨hp.symm, hs, ?_, ?_⟩)⟩⟩
  ·split at h3
   ·exact jo (fun _ h => h) h3
   ·obtain ⟨q, r, e, _, h3⟩ := h3
    exact jo (fun x hx => by rw [e]; exact List.mem_cons_of_mem _ hx) h3
  ·rw [qv, qv]
   have hla : p.i.toNat < (side (O.sp (O.pl a.n)) a.l).length := by omega
   refine Py p.i.toNat (by simpa using hla) (by simp; omega) (fun j hj => ?_) ?_
   ·rw [oh (by omega), oh (by omega)]
    exact h2 j hj
   ·by_cases hi : p.i = (side (O.sp (O.pl a.n)) b.l).length
    ·left; simp; omega
    ·rw [if_neg hi] at h3
     obtain ⟨q, r, e, h3, _⟩ := h3
     right
     rw [oh (by omega), oh (by omega)]
     exact hm q (by rw [e]; simp) _ _ h3
 ·exact nl.2 ⟨ha, .inr ⟨hb, .inr (.inr ⟨hp.symm, hs, SK h hm⟩)⟩⟩
theorem Sh.gt {O : Od} {p : PP} {a b : T} (h : Sh O p a b) : R O a b := ZT _ (Nat.le_refl _) h
end Go.fw
end
section
set_option maxRecDepth 100000
namespace Go.aL
open Go Go.Proofs Go.fw
mutual
def dS : PP → AV
 | .mk r i to l => .agg [.int .i64 r, .int .i64 i, .aq 0 (ints to), .aq 0 (dR l)]
def dR : List PP → List AV
 | [] => []
 | x :: r => dS x :: dR r
end
theorem nA (p : PP) : dS p = .agg [.int .i64 p.r, .int .i64 p.i, .aq 0 (ints p.to), .aq 0 (dR p.l)] := by cases p; rw [dS]; rfl
theorem kW : ∀ l, dR l = l.map dS
 | [] => rfl
 | x :: r => by simp [dR, kW r]
theorem eo (l : List PP) : (dR l).length = l.length := by simp [kW]
mutual
theorem fH (n : Nat) : ∀ p, (dS p).aZ n = true
 | .mk r i to l => by simp [dS, AV.aZ, ak, bj, iw n l]
theorem iw (n : Nat) : ∀ l, ak n (dR l) = true
 | [] => rfl
 | x :: r => by simp [dR, ak, fH n x, iw n r]
end
theorem aX (p : PP) : (dS p).val = true ∧ (dS p).cells.length = 4 ∧ (dS p).cells.all AV.one = true ∧ (dS p).ae = dS p ∧ (dS p).drop = dS p ∧ (∀ n, (dS p).aZ n = true) ∧ AV.agg (dS p).cells = dS p ∧ (dS p).cells.map AV.drop = (dS p).cells ∧ (dS p).cells.map AV.ae = (dS p).cells := by
 refine ⟨?_, ?_, ?_, ?_, ?_, fun n => fH n p, ?_, ?_, ?_⟩ <;> (rw [nA]; rfl)
theorem Cv (p : PP) (φ : AV → Prop) : al 0 none (.aj (dS p)) φ = φ (.aj (.int .i64 p.r)) := by rw [nA]; simp [al, apart, AV.cells, AV.one]
theorem C3 (p : PP) (φ : AV → Prop) : al 1 none (.aj (dS p)) φ = φ (.aj (.int .i64 p.i)) := by rw [nA]; simp [al, apart, AV.cells, AV.one]
theorem N2 (p : PP) (φ : AV → Prop) : al 2 none (.aj (dS p)) φ = φ (.aj (.aq 0 (ints p.to))) := by rw [nA]; simp [al, apart, AV.cells, AV.one]
theorem Kn (p : PP) (φ : AV → Prop) : al 3 none (.aj (dS p)) φ = φ (.aj (.aq 0 (dR p.l))) := by rw [nA]; simp [al, apart, AV.cells, AV.one]
theorem qF (o : Nat) (l : List PP) : (∀ (own : Nat) (xs : List AV), AV.aq o (dR l) = AV.aq own xs → ∀ z ∈ xs, z.cells.length = 4) = True := by
 simp only [eq_iff_iff, iff_true]
 intro own xs e z hz
 cases e
 rw [kW] at hz
 obtain ⟨y, _, rfl⟩ := List.mem_map.1 hz
 exact (aX y).2.1
theorem yn (l : List PP) (i : Nat) (h : i < l.length) : (dR l).getD i .any = dS (l.getD i default) := by
 simp [kW, h]
theorem Af (e o : Nat) (l : List PP) (k : IntKind) (i : Int) (φ : AV → Prop) : aA e (.aq o (dR l)) (.int k i) φ = ((0 ≤ i ∧ i < l.length) ∧ φ (.aj (dS (l.getD i.toNat default)))) := by
 simp only [aA, eo, eq_iff_iff]
 constructor
 ·rintro ⟨h0, h, h2⟩; rw [yn _ _ h] at h2; exact ⟨by omega, h2⟩
 ·rintro ⟨⟨h0, h⟩, h2⟩
  have h : i.toNat < l.length := by omega
  rw [yn _ _ h]; exact ⟨h0, h, h2⟩
theorem qG (p : PP) (H : List aa) (φ : AV → Prop) : aS (some 4) (.aj (dS p)) H φ = φ (dS p) := by
 obtain ⟨_, h2, _, _, _, _, h7, _⟩ := aX p
 simp [aS, h2, h7]
theorem SL (l : List PP) : tb 4 (dR l) = True := by
 simp only [eq_iff_iff, iff_true]
 intro z hz
 rw [kW] at hz
 obtain ⟨y, _, rfl⟩ := List.mem_map.1 hz
 obtain ⟨h1, h2, h3, h4, h5, _⟩ := aX y
 first | exact ⟨h1, h2, h3⟩ | exact ⟨h2, h1, h3⟩ | exact ⟨h1, h2⟩ | (constructor <;> first | assumption | simp [*])
def Ag (P : Px) (id : Nat) (xs : List AV) (H : List aa) (K : AV → List aa → Prop) : Prop := ∃ bP, xp xs bP ∧ lr P id bP H K
@[congr] theorem N3 {P : Px} {id : Nat} {xs xs' : List AV} {H H' : List aa} {K : AV → List aa → Prop} (h : fY xs = xs') (h2 : H = H') : Ag P id xs H K = Ag P id xs' H' K := by subst h; subst h2; rfl
theorem FK {P : Px} {env : Env} {H : List aa} (id : Nat) (args : List IX) (pass : Option Nat) (K : AV → Env → List aa → Prop) : oB P (.mE id) args pass env H K = Ag P id (aG env pass 0 args) H (fun r H' => K r (cD env (bf args pass)) H') := _root_.id rfl
theorem SM (id : Nat) : (AV.mE id).ae = .mE id := _root_.id rfl
theorem yo {P : Program} {id : Nat} {xs : List AV} {H : List aa} {R K : AV → List aa → Prop} (hc : jv P id xs H R) (hk : ∀ r H', R r H' → K r H') : Ag (P : Px) id xs H K := ⟨xs, ca _, fa.mono hc hk⟩
theorem rU {P : Program} (g : FuncId) (first cap : List AV) (lc : ig) (env : Env) (H : List aa) (K : Option Code → List aa → Prop) {R : AV → List aa → Prop} (he : ∀ (vs : Array Value) (w : World), (callFunc g vs).run P w = .ok (.enter g vs) w)
 (hc : au P g (first.map AV.ae ++ [.mE H.length] ++ cap.map AV.ae) (H ++ [.loop .ready lc (km lc.n env)]) R) (hk : ∀ r H', R r H' → behind H.length H' K) : vn (P : Px) (.fn (.func g) first cap) lc env H K :=
 ⟨he, _, ca _, dW.of (hc.mono hk)⟩
theorem ZU (n : Nat) (hn : n < 4611686018427387904) (id : Nat) (G : Nat → List aa) (hl : ∀ j, (G j).length = (G 0).length) (hy : ∀ j, j < n → jv Tryz.prog id [.int .i64 (j : Int)] (G j) fun r H' => r = .bool true ∧ H' = G (j + 1)) :
 au Tryz.prog 201 [.mE id, .aj (.int .i64 n)] (G 0) fun r H' => r = .tuple [] ∧ H' = G n := by
 refine U5.2.calls rfl ?_
 simp only [U5, aJ]
 simp +contextual only [sZ, Nat.reduceEqDiff, Nat.reduceAdd, ↓reduceIte, reduceCtorEq]
 refine aD n (fun j => True) (fun j => [(0, .mE id), (1, .aj (.int .i64 n)), (3, .int .i64 j)]) G ⟨trivial, aB _ _ _⟩ fun j hj _ => ?_
 by_cases hjn : (j : Int) < n
 ·simp +contextual only [hjn, decide_true, FK, SM, sZ, Nat.reduceEqDiff, Nat.reduceAdd, ↓reduceIte, reduceCtorEq]
  refine yo (hy j (by omega)) ?_
  rintro r H' ⟨rfl, rfl⟩
  simp +contextual only [sZ, Nat.reduceEqDiff, ↓reduceIte, reduceCtorEq]
  exact ⟨j + 1, by omega, by omega, aH (by rw [ax j (by omega)]) rfl⟩
 ·have e : j = n := by omega
  subst e
  simp +contextual only [hjn, decide_false, sZ, Nat.reduceEqDiff, ↓reduceIte, reduceCtorEq]
  exact qn (hl j).symm rfl
end Go.aL
end
section
set_option maxRecDepth 100000
namespace Go.aL
open Go Go.Proofs Go.fw
def upto (n : Nat) : List Int := (List.range n).map Int.ofNat
theorem yp (n : Nat) : upto (n + 1) = upto n ++ [(n : Int)] := by simp [upto, List.range_succ]
theorem Cw (n : Nat) : (upto n).length = n := by simp [upto]
theorem vL {n : Nat} {x : Int} : x ∈ upto n ↔ 0 ≤ x ∧ x < n := by
 simp only [upto, List.mem_map, List.mem_range]
 constructor
 ·rintro ⟨j, h, rfl⟩; exact ⟨Int.natCast_nonneg j, Int.ofNat_lt.2 h⟩
 ·intro h; exact ⟨x.toNat, by omega, by simp; omega⟩
def vM (j : Nat) : AV := match j with | 0 => .ah | j + 1 => .aq 1 (ints (upto (j + 1)))
theorem Ko (j : Nat) (h : j < 1000000000) (ψ : List AV → Prop) (hψ : ψ (ints (upto (j + 1)))) : bF 1 8 (vM j) (.aq 0 [.int .i64 (j : Int)]) ψ := by
 have e1 : ints (upto j) ++ [AV.int .i64 (j : Int)] = ints (upto (j + 1)) := by rw [yp]; simp [ints]
 have jN : tb 1 [AV.int .i64 (j : Int)] := of_eq_true (lQ [(j : Int)])
 cases j with
 | zero =>
   rw [vM, nX]
   exact ⟨by simp, jN, hψ⟩
 | succ j =>
   rw [vM, m9]
   exact ⟨by rw [aw, Cw]; simp; omega, jN, by rw [e1]; exact hψ⟩
theorem Kp (j : Nat) : (vM j).ae = bo (upto j) := by
 cases j with
 | zero => rfl
 | succ j => rw [vM, yp]; cases h : upto j <;> rfl
theorem Ah : bY.n = 13 := by kernel_rfl
theorem vN : bY.ps = [7] := by kernel_rfl
theorem rV {id : Nat} {H : List aa} {K : List aa → Prop} {lc : ig} {es : List AV} (h : H[id]? = some (.loop .ready lc es)) : jD id H K = K (H.set id (.loop .busy lc es)) := by
 unfold jD; rw [h]
theorem Ew {n0 id : Nat} {R : AV → List aa → Prop} {H : List aa} {lc : ig} {es : List AV} (h : H[id]? = some (.loop .busy lc es)) : pV n0 id R .normal H = Gy n0 true (H.set id (.loop .ready lc es)) R := by
 unfold pV; rw [h]
theorem vO {id : Nat} {H : List aa} {K : Option Code → List aa → Prop} {lc : ig} {es : List AV} (h : H[id]? = some (.loop .ready lc es)) : behind id H K = K none (H.set id (.loop .ew lc es)) := by
 unfold behind; rw [h]
theorem vP {P : Px} {n0 : Nat} {ia ib : IR} {env : Env} {H : List aa} {id : Nat} {R : AV → List aa → Prop}
 (h : k8 P n0 ia env H fun e env1 H1 => e = .normal ∧ jD id H1 fun H2 => k8 P n0 ib env1 H2 fun e _ H3 => pV n0 id R e H3) : me P n0 ia env H fun e env1 H1 => e = .normal ∧ jD id H1 fun H2 => me P n0 ib env1 H2 fun e _ H3 => pV n0 id R e H3 := by
 refine tQ h ?_
 rintro x e H' ⟨h1, h2⟩
 refine ⟨h1, ?_⟩
 unfold jD at *
 split at h2
 ·rename_i e'
  exact tQ h2 fun _ _ _ h => h
 ·exact h2.elim
theorem ZV (n : Nat) (hn : n < 1000000000) : Pure Tryz.prog 200 [.ah, .fn (.func 201) [] [.aj (.int .i64 n)]] (bo (upto n)) := by
 refine fun H => U4.calls rfl ?_
 simp only [OS, OR]
 simp +contextual only [lO, sZ, Nat.reduceEqDiff, Nat.reduceAdd, ↓reduceIte, reduceCtorEq]
 have el : ∀ X : List aa, (H ++ X).length = H.length + X.length := fun X => List.length_append
 obtain ⟨es, yO⟩ : ∃ es, es = km bY.n [(2, AV.ptr H.length 0), (6, AV.fn (.func 201) [] [.aj (.int .i64 n)])] := ⟨_, rfl⟩
 have ees : es = [.any, .any, .ptr H.length 0, .any, .any, .any, .fn (.func 201) [] [.aj (.int .i64 n)], .any, .any, .any, .any, .any, .any] := by rw [yO, Ah]; rfl
 let G : Nat → List aa := fun j => H ++ [.cells [vM j], .loop .ready bY es]
 have hG : ∀ j, (G j).length = H.length + 2 := fun j => by simp [G]
 have g1 : ∀ j, (G j)[H.length + 1]? = some (.loop .ready bY es) := fun j => by simp [G]
 refine rU (P := Tryz.prog) (R := fun r H' => r = .tuple [] ∧ H' = G n) 201 [] [.aj (.int .i64 n)] bY _ _ _ Tryz.call201 ?_ ?_
 ·rw [← yO]
  have e1 : (H ++ [aa.cells [AV.ah]]).length = H.length + 1 := by simp
  have e2 : (H ++ [aa.cells [AV.ah]] ++ [.loop .ready bY es]) = G 0 := by simp [G, vM]
  rw [e1, e2]
  refine ZU n (by omega) (H.length + 1) G (fun j => by rw [hG, hG]) fun j hj => ?_
  refine nP (lc := bY) (es := es) (g1 j) Ml Mm ⟨by rw [ees, Ah]; rfl, by rw [vN]; rfl, by rw [vN, Ah]; rfl, ?_, ?_⟩ (vP ?_)
  ·rw [ees]; intro x hx; simp only [List.mem_cons, List.not_mem_nil, or_false] at hx
   rcases hx with rfl | rfl | rfl | rfl | rfl | rfl | rfl | rfl | rfl | rfl | rfl | rfl | rfl <;> rfl
  ·intro x hx; simp only [List.mem_cons, List.not_mem_nil, or_false] at hx; subst hx; rfl
  ·have ez : (bY.ps.zip [AV.int .i64 (j : Int)]).reverse ++ bW 0 es = (7, .int .i64 (j : Int)) :: bW 0 es := by rw [vN]; rfl
   rw [ez, ees]
   simp only [Ff, Fg]
   have hb : ∀ K, jD (H.length + 1) (G j) K = K (H ++ [.cells [vM j], .loop .busy bY es]) := fun K => by rw [rV (g1 j)]; simp [G]
   simp +contextual only [hb, sZ, Nat.reduceEqDiff, Nat.reduceAdd, Nat.reduceLT, ↓reduceIte, reduceCtorEq]
   refine Ko j (by omega) _ ?_
   have hz : ∀ x : AV, (H ++ [aa.cells [x], .loop .busy bY es])[H.length + 1]? = some (.loop .busy bY es) := fun x => by simp
   have j5 : (AV.aq 1 (ints (upto (j + 1)))).aZ (H.length + 1) = true := by rw [cR]; exact bj _ _
   simp +contextual only [j5, sZ, Nat.reduceEqDiff, Nat.reduceAdd, Nat.reduceLT, ↓reduceIte]
   rw [Ew (hz _)]
   refine ⟨by simp [G], rfl, ?_⟩
   simp [G, vM]
   exact List.take_of_length_le (by simp)
 ·rintro r G' ⟨rfl, rfl⟩
  have e1 : (H ++ [aa.cells [AV.ah]]).length = H.length + 1 := by simp
  rw [e1, vO (g1 n)]
  have e3 : (G n).set (H.length + 1) (.loop .ew bY es) = H ++ [.cells [vM n], .loop .ew bY es] := by simp [G]
  rw [e3]
  simp +contextual only [oU, sZ, Nat.reduceAdd, Nat.reduceLT, ↓reduceIte, reduceCtorEq]
  have e4 : (vM n).ae.ae = bo (upto n) := by rw [Kp]; exact (aF _).2.1
  rw [e4]
  exact JP ((aF _).2.2.1 _) rfl
theorem ZW (n : Nat) (hn : n < 1000000000) : Pure Tryz.prog 152 [.fn (.func 201) [] [.aj (.int .i64 n)]] (bo (upto n)) := by
 refine fun H => UG.2.calls rfl ?_
 simp only [UG, aJ]
 simp +contextual only [sZ, Nat.reduceAdd, ↓reduceIte, reduceCtorEq]
 refine af (ZV n hn) ?_
 have e4 : (bo (upto n)).ae = bo (upto n) := (aF _).2.1
 simp +contextual only [e4, sZ, ↓reduceIte, reduceCtorEq]
 exact a9 ((aF _).2.2.1 _) rfl
theorem ZX (n : Int) : Pure Tryz.prog 153 [.int .i64 n] (.fn (.func 201) [] [.aj (.int .i64 n)]) := by
 refine fun H => UH.2.calls rfl ?_
 simp only [UH, aJ]
 simp +contextual only [sZ, Nat.reduceEqDiff, Nat.reduceAdd, ↓reduceIte, reduceCtorEq]
 exact a9 rfl rfl
end Go.aL
end
section
set_option maxRecDepth 100000
namespace Go.aL
open Go Go.Proofs Go.fw
def iV (c : Cx) (i k : Int) (p : PP) : Prop := ∀ H, Du c H → au Tryz.prog 87 [.ptr c.d 0, .int .i64 i, .int .i64 k, dS p] H (ic c (Sh c.O p (c.tm i) (c.tm k)) H)
theorem ZY {c : Cx} {b : List Int} {vb : AV} (hb : IL vb b) {q : Nat} {i j : Int} {l : List PP} (hj : 0 ≤ j ∧ j < b.length) (hl : l.length = b.length) (h : iV c i (b.getD j.toNat 0) (l.getD j.toNat default)) {G : List aa} (hD : Du c G) (gq : G[q]? = some (.cells [vb])) :
 au Tryz.prog 154 [.int .i64 j, .aj (.ptr c.d 0), .aj (.int .i64 i), .ptr q 0, .aj (.aq 0 (dR l))] G (ic c (¬ Sh c.O (l.getD j.toNat default) (c.tm i) (c.tm (b.getD j.toNat 0))) G) := by
 refine UI.2.calls rfl ?_
 simp only [UI, aJ]
 obtain ⟨b1, b2, b3, b4⟩ := hb.one
 obtain ⟨p1, p2, p3, p4, p5, p6, p7, p8, p9⟩ := aX (l.getD j.toNat default)
 simp +contextual only [gq, b2, hb.lens, hb.idx, Af, qF, qG, p4, sZ, Nat.reduceEqDiff, Nat.reduceAdd, Nat.reduceLT, ↓reduceIte, reduceCtorEq]
 refine ⟨hj, ⟨hj.1, by omega⟩, ag (h G hD) ?_⟩
 rintro r G' ⟨z, rfl, hz, hU, jb⟩
 simp +contextual only [sZ, ↓reduceIte, reduceCtorEq]
 refine dZ (b := !z) rfl ?_ hU jb
 rw [← hz]; cases z <;> simp
theorem cb {b : List Int} {f : Int → T} {j : Nat} (h : j < b.length) : (b.map f).getD j default = f (b.getD j 0) := by simp [h]
theorem SN {c : Cx} {b : List Int} {vb : AV} (hb : IL vb b) (lb : b.length < 1000000000) {q : Nat} (hq : q ≠ c.e ∧ q ≠ c.g) {i : Int} {l : List PP} (h : ∀ j, j < b.length → j < l.length → iV c i (b.getD j 0) (l.getD j default)) {G : List aa} (hD : Du c G) (gq : G[q]? = some (.cells [vb])) :
 au Tryz.prog 151 [.aq 0 (dR l), .ptr q 0, .aj (.ptr c.d 0), .aj (.int .i64 i)] G (ic c (kV (Sh c.O) l (c.tm i) (b.map c.tm)) G) := by
 refine UF.2.calls rfl ?_
 simp only [UF, aJ]
 obtain ⟨b1, b2, b3, b4⟩ := hb.one
 simp +contextual only [gq, b2, hb.aM, hb.len (by omega), eo, sZ, Nat.reduceEqDiff, Nat.reduceAdd, Nat.reduceLT, ↓reduceIte, reduceCtorEq]
 have e1 : kV (Sh c.O) l (c.tm i) (b.map c.tm) ↔ l.length = b.length ∧ ∀ j, j < b.length → Sh c.O (l.getD j default) (c.tm i) (c.tm (b.getD j 0)) := by
  unfold kV
  rw [List.length_map]
  refine and_congr_right fun _ => ⟨fun h j hj => ?_, fun h j hj => ?_⟩
  ·have := h j hj; rwa [cb hj] at this
  ·rw [cb hj]; exact h j hj
 refine fun Lf => ⟨fun he => ?_, fun ep => ?_⟩
 ·refine af (ZX _) ?_
  simp +contextual only [sZ, Nat.reduceEqDiff, Nat.reduceAdd, ↓reduceIte]
  refine af (ZW b.length lb) ?_
  have k2 : ∀ l, (bo l).ae = bo l := fun l => (aF l).2.1
  simp +contextual only [k2, sZ, Nat.reduceEqDiff, Nat.reduceAdd, ↓reduceIte, reduceCtorEq]
  refine ag (Ch (SD.z3 c G) (.inl rfl : IL (bo (upto b.length)) (upto b.length)) (by rw [Cw]; omega) 154 [] [.aj (.ptr c.d 0), .aj (.int .i64 i), .ptr q 0, .aj (.aq 0 (dR l))] rfl rfl (Q := fun j => ¬ Sh c.O (l.getD j.toNat default) (c.tm i) (c.tm (b.getD j.toNat 0)))
   (fun x hx G' dY => ?_) ⟨hD, Up.refl c G⟩) ?_
  ·have hx := vL.1 hx
   exact (ZY hb ⟨hx.1, hx.2⟩ (by omega) (h x.toNat (by omega) (by omega)) dY.1 (by rw [dY.2.get q hq.1 hq.2, gq])).mono fun r H' hr => hr.sb dY
  ·rintro r G' ⟨z, rfl, hz, dY⟩
   simp +contextual only [sZ, Nat.reduceEqDiff, ↓reduceIte, reduceCtorEq]
   refine dZ (b := !z) rfl ?_ dY.2 dY.1
   rw [e1]
   cases z with
   | true =>
     obtain ⟨x, hx, hn⟩ := hz.1 rfl
     have hx := vL.1 hx
     exact ⟨fun h => by simp at h, fun h => absurd (h.2 x.toNat (by omega)) hn⟩
   | false =>
     refine ⟨fun _ => ⟨by omega, fun j hj => ?_⟩, fun _ => rfl⟩
     by_cases hs : Sh c.O (l.getD j default) (c.tm i) (c.tm (b.getD j 0))
     ·exact hs
     ·exact absurd (hz.2 ⟨(j : Int), vL.2 ⟨by omega, by omega⟩, hs⟩) (by simp)
 ·refine dZ rfl ⟨fun h => by simp at h, fun h => ?_⟩ (Up.refl c G) hD
  have := (e1.1 h).1
  exact absurd (by omega) ep
end Go.aL
end
section
set_option maxRecDepth 100000
namespace Go.aL
open Go Go.Proofs Go.fw
theorem Ey {P : Px} {t : DT} {f : AV → Env} {v : AV} {H0 H : List aa} {K1 K2 : Env → List aa → Prop} (h : gM v H0 fun x => iQ P t (f x) H K1) (hk : ∀ e G, K1 e G → K2 e G) : gM v H0 fun x => iQ P t (f x) H K2 := by
 unfold gM at *
 split at h
 ·exact dw h hk
 ·unfold eW at *
  split at h <;> first | exact dw h hk | exact h.elim | (intro hl; exact dw (h hl) hk) | skip
  all_goals (split at h <;> first | exact dw h hk | exact h.elim)
structure CS (c : Cx) (H : List aa) (p q : Nat) (ts ps : List Int) (G : List aa) : Prop where
 du : Du c G
 gp : G[p]? = some (cN ts)
 gq : G[q]? = some (cN ps)
 len : G.length = H.length + 2
 up : ∀ j, j < H.length → j ≠ c.e → j ≠ c.g → G[j]? = H[j]?
structure PQ (H : List aa) (p q : Nat) : Prop where
 ne : p ≠ q
 p1 : H.length ≤ p
 q1 : H.length ≤ q
theorem CS.call {c : Cx} {H G G' : List aa} {p q : Nat} {ts ps : List Int} (hD : Du c H) (w : PQ H p q) (h : CS c H p q ts ps G) (hU : Up c G G') (jb : Du c G') : CS c H p q ts ps G' := by
 obtain ⟨l1, l2, l3⟩ := hD.lt
 obtain ⟨w1, w2, w3⟩ := w
 exact ⟨jb, by rw [hU.get p (by omega) (by omega), h.gp], by rw [hU.get q (by omega) (by omega), h.gq], by rw [hU.len, h.len], fun j h1 h2 h3 => by rw [hU.get j h2 h3, h.up j h1 h2 h3]⟩
theorem CS.ZZ {c : Cx} {H G : List aa} {p q : Nat} {ts ps ts' : List Int} (hD : Du c H) (w : PQ H p q) (h : CS c H p q ts ps G) : CS c H p q ts' ps (G.set p (cN ts')) := by
 obtain ⟨l1, l2, l3⟩ := hD.lt
 obtain ⟨w1, w2, w3⟩ := w
 have hp := aN h.gp
 exact ⟨h.du.set (by omega) (by omega) (by omega), by rw [List.getElem?_set_self hp], by rw [List.getElem?_set_ne w1, h.gq], by rw [List.length_set, h.len], fun j h1 h2 h3 => by rw [List.getElem?_set_ne (by omega), h.up j h1 h2 h3]⟩
theorem CS.Z0 {c : Cx} {H G : List aa} {p q : Nat} {ts ps ps' : List Int} (hD : Du c H) (w : PQ H p q) (h : CS c H p q ts ps G) : CS c H p q ts ps' (G.set q (cN ps')) := by
 obtain ⟨l1, l2, l3⟩ := hD.lt
 obtain ⟨w1, w2, w3⟩ := w
 have hq := aN h.gq
 exact ⟨h.du.set (by omega) (by omega) (by omega), by rw [List.getElem?_set_ne (Ne.symm w1), h.gp], by rw [List.getElem?_set_self hq], by rw [List.length_set, h.len], fun j h1 h2 h3 => by rw [List.getElem?_set_ne (by omega), h.up j h1 h2 h3]⟩
theorem CS.fin {c : Cx} {H G : List aa} {p q : Nat} {ts ps : List Int} (hD : Du c H) (h : CS c H p q ts ps G) {b : Bool} {Q : Prop} (hb : b = true ↔ Q) {s : Nat} : bV H.length [.t s] [(s, .bool b)] G (ic c Q H) := by
 obtain ⟨l1, l2, l3⟩ := hD.lt
 refine aW H.length (Nat.le_refl _) (by rw [ay, if_pos rfl]; rfl) ?_
 rw [ay, if_pos rfl]
 refine ⟨b, rfl, hb, ⟨by rw [List.length_take, h.len]; omega, fun j h1 h2 => ?_⟩, h.du.take l1 l2 l3⟩
 rw [List.getElem?_take]
 split
 ·rename_i hj; exact h.up j hj h1 h2
 ·rename_i hj; rw [List.getElem?_eq_none (by omega)]
def HG (c : Cx) (to : List Int) (l : List PP) (a b : List Int) : Prop :=
 to.length = b.length ∧ l.length = b.length ∧
 (∀ j, j < b.length → (0 ≤ to.getD j 0 ∧ to.getD j 0 < a.length) ∧
   (if (l.getD j default).nil then E c.O (c.tm (a.getD (to.getD j 0).toNat 0)) (c.tm (b.getD j 0)) else Sh c.O (l.getD j default) (c.tm (a.getD (to.getD j 0).toNat 0)) (c.tm (b.getD j 0)))) ∧
 (∀ x : Nat, x < a.length → 0 < dd to l x b.length → dj to x b.length ≤ 1) ∧ ∃ x : Nat, x < a.length ∧ dd to l x b.length = 0
theorem Cy {c : Cx} {to : List Int} {l : List PP} {a b : List Int} : HG c to l a b ↔ Pv (E c.O) (Sh c.O) to l (a.map c.tm) (b.map c.tm) := by
 unfold HG Pv
 simp only [List.length_map]
 refine and_congr_right fun _ => and_congr_right fun _ => and_congr_left fun _ => ⟨fun h j hj => ?_, fun h j hj => ?_⟩
 ·obtain ⟨h1, h2⟩ := h j hj
  refine ⟨h1, ?_⟩
  rw [cb (by omega), cb hj]; exact h2
 ·obtain ⟨h1, h2⟩ := h j hj
  rw [cb (by omega), cb hj] at h2
  exact ⟨h1, h2⟩
structure CI (c : Cx) (to : List Int) (l : List PP) (a b ts ps : List Int) (j : Nat) : Prop where
 lt : ts.length = a.length
 lp : ps.length = a.length
 t : ∀ x : Nat, x < a.length → ts.getD x 0 = dj to x j
 p : ∀ x : Nat, x < a.length → ps.getD x 0 = dd to l x j
 ok : ∀ j', j' < j → (0 ≤ to.getD j' 0 ∧ to.getD j' 0 < a.length) ∧
  (if (l.getD j' default).nil then E c.O (c.tm (a.getD (to.getD j' 0).toNat 0)) (c.tm (b.getD j' 0)) else Sh c.O (l.getD j' default) (c.tm (a.getD (to.getD j' 0).toNat 0)) (c.tm (b.getD j' 0)))
theorem CI.step {c : Cx} {to : List Int} {l : List PP} {a b ts ps ps' : List Int} {j z : Nat} (h : CI c to l a b ts ps j) (hz : z < a.length) (ht : to.getD j 0 = z) (hp : ps' = if (l.getD j default).nil then ps.set z (ps.getD z 0 + 1) else ps)
 (hq : if (l.getD j default).nil then E c.O (c.tm (a.getD z 0)) (c.tm (b.getD j 0)) else Sh c.O (l.getD j default) (c.tm (a.getD z 0)) (c.tm (b.getD j 0))) : CI c to l a b (ts.set z (ts.getD z 0 + 1)) ps' (j + 1) := by
 obtain ⟨h1, h2, h3, h4, h5⟩ := h
 refine ⟨by simp [h1], by rw [hp]; split <;> simp [h2], fun x hx => ?_, fun x hx => ?_, fun j' tV => ?_⟩
 ·rw [kP (by omega), dj, ht]
  by_cases e : x = z
  ·subst e; rw [if_pos rfl, if_pos rfl, h3 x hx]; omega
  ·rw [if_neg e, if_neg (by omega), h3 x hx]; omega
 ·rw [hp, dd, ht]
  by_cases hn : (l.getD j default).nil
  ·rw [if_pos hn, kP (by omega)]
   by_cases e : x = z
   ·subst e; rw [if_pos rfl, if_pos ⟨rfl, hn⟩, h4 x hx]; omega
   ·rw [if_neg e, if_neg (fun h => by have := h.1; omega), h4 x hx]; omega
  ·rw [if_neg hn, if_neg (fun h => hn h.2), h4 x hx]; omega
 ·by_cases e : j' = j
  ·subst e; rw [ht]; exact ⟨by omega, hq⟩
  ·exact h5 j' (by omega)
theorem rW (to : List Int) (x : Int) : ∀ n, dj to x n ≤ n
 | 0 => Nat.le_refl _
 | n + 1 => by rw [dj]; have := rW to x n; split <;> omega
theorem HH (to : List Int) (l : List PP) (x : Int) (n : Nat) : dd to l x n ≤ n := Nat.le_trans (nz n) (rW to x n)
theorem Cz {m n : Nat} (hm : m < 9223372036854775808) (hn : n < 9223372036854775808) : IntKind.i64.wrap ((m : Int) + (n : Int)) = 0 ↔ m = 0 ∧ n = 0 := by
 rw [IntKind.wrap_i64]
 omega
theorem yq (n x : Nat) : (dD 0 n 0).getD x 0 = 0 := by
 simp only [dD, List.replicate_zero, List.nil_append, Nat.sub_zero, List.getD_eq_getElem?_getD, List.getElem?_replicate]
 split <;> rfl
end Go.aL
end
section
set_option maxRecDepth 100000
namespace Go.aL
open Go Go.Proofs Go.fw
theorem Z1 {c : Cx} {a b : List Int} {va vb : AV} (ha : IL va a) (hb : IL vb b) (la : a.length ≤ 1000000000) (lb : b.length ≤ 1000000000) (p : PP) (hs : ∀ x ∈ a, ∀ y ∈ b, jY c x y) (hh : ∀ x ∈ a, ∀ y ∈ b, ∀ q ∈ p.l, iV c x y q) {H : List aa} (hD : Du c H) :
 au Tryz.prog 156 [.ptr c.d 0, va, vb, dS p] H (ic c (HG c p.to p.l a b) H) := by
 refine UK.2.calls rfl ?_
 simp only [UK, aJ]
 obtain ⟨a1, a2, a3, a4⟩ := ha.one
 obtain ⟨b1, b2, b3, b4⟩ := hb.one
 obtain ⟨p1, p2, p3, p4, p5, p6, p7, p8, p9⟩ := aX p
 have no : ¬ HG c p.to p.l a b → bV H.length [.t 8] [(8, .bool false)] H (ic c (HG c p.to p.l a b) H) := fun h => dZ rfl ⟨fun h => by simp at h, fun h' => absurd h' h⟩ (Up.refl c H) hD
 by_cases h1 : p.to.length = b.length
 ·by_cases h2 : p.l.length = b.length
  ·have d1 : decide ((p.to.length : Int) ≠ b.length) = false := decide_eq_false (by omega)
   have d2 : decide ((p.l.length : Int) ≠ b.length) = false := decide_eq_false (by omega)
   simp +contextual only [a2, b2, p1, N2, Kn, ha.aM, hb.aM, hb.len (by omega), aw, eo, h1, h2, not_true_eq_false, decide_false, sZ, Nat.reduceEqDiff, Nat.reduceAdd, ↓reduceIte, reduceCtorEq]
   intro _
   refine Ey (K1 := fun e G => get e 0 = .ptr c.d 0 ∧ get e 1 = va ∧ get e 2 = vb ∧ get e 7 = .aj (dS p) ∧ ∃ x y, get e 9 = .bg x 0 a.length a.length ∧ get e 10 = .bg y 0 a.length a.length ∧ PQ H x y ∧ CS c H x y (dD 0 a.length 0) (dD 0 a.length 0) G) ?_ ?_
   ·have key : ∀ G, G = H ++ [cN (dD 0 a.length 0), cN (dD 0 a.length 0)] → CS c H H.length (H.length + 1) (dD 0 a.length 0) (dD 0 a.length 0) G ∧ CS c H (H.length + 1) H.length (dD 0 a.length 0) (dD 0 a.length 0) G := by
     rintro G rfl
     exact ⟨⟨hD.rL _, by simp, by simp, by simp, fun j hj _ _ => List.getElem?_append_left hj⟩, ⟨hD.rL _, by simp, by simp, by simp, fun j hj _ _ => List.getElem?_append_left hj⟩⟩
    have A := key _ rfl
    simp +contextual only [a2, ha.vC, ha.aM, mkI _ _ _ la, sZ, Nat.reduceEqDiff, Nat.reduceAdd, ↓reduceIte, reduceCtorEq]
    refine ⟨⟨_, _, rfl, rfl, ⟨by omega, by omega, by omega⟩, ?_⟩, ⟨_, _, rfl, rfl, ⟨by omega, by omega, by omega⟩, ?_⟩⟩
    ·exact A.1
    ·exact A.2
   ·rintro e G ⟨e0, e1, e2, e7, x, y, e9, e10, hw, xh⟩
    simp +contextual only [e0, e1, e2, e7, e9, e10, N2, aw, h1, sZ, Nat.reduceEqDiff, ↓reduceIte, reduceCtorEq]
    intro _
    refine aO b.length (fun j (s : List aa × List Int × List Int) => CS c H x y s.2.1 s.2.2 s.1 ∧ CI c p.to p.l a b s.2.1 s.2.2 j)
     (fun j s => [(0, .ptr c.d 0), (1, va), (2, vb), (7, .aj (dS p)), (9, .bg x 0 a.length a.length), (10, .bg y 0 a.length a.length), (37, .aq 0 (ints p.to)), (38, .int .i64 b.length), (39, .int .i64 j)])
     (fun j s => s.1) (G, dD 0 a.length 0, dD 0 a.length 0) ⟨⟨xh, ?_⟩, aB _ _ _⟩ fun j s hj hI => ?_
    ·exact ⟨by simp [dD], by simp [dD], fun z _ => by rw [yq]; rfl, fun z _ => by rw [yq]; rfl, fun j h => by omega⟩
    ·obtain ⟨G, ts, ps⟩ := s
     obtain ⟨xh, EV⟩ := hI
     simp only at xh EV
     by_cases Kq : (j : Int) < b.length
     ·have py : j < b.length := by omega
      obtain ⟨to, AA⟩ : ∃ to, p.to.getD j 0 = to := ⟨_, rfl⟩
      by_cases r1 : to < 0
      ·simp +contextual only [Kq, decide_true, cw, Int.toNat_natCast, AA, r1, sZ, Nat.reduceEqDiff, ↓reduceIte, reduceCtorEq]
       refine ⟨by omega, xh.fin hD ⟨fun h => by simp at h, fun h => ?_⟩⟩
       have := (h.2.2.1 j py).1; omega
      ·by_cases r2 : (a.length : Int) ≤ to
       ·simp +contextual only [Kq, decide_true, decide_false, a2, ha.aM, ha.len (by omega), cw, Int.toNat_natCast, AA, r1, r2, sZ, Nat.reduceEqDiff, ↓reduceIte, reduceCtorEq]
        refine ⟨by omega, xh.fin hD ⟨fun h => by simp at h, fun h => ?_⟩⟩
        have := (h.2.2.1 j py).1; omega
       ·obtain ⟨z, rfl⟩ := Int.eq_ofNat_of_zero_le (show 0 ≤ to by omega)
        have hz : z < a.length := by omega
        have gt := xh.gp
        have gp := xh.gq
        have lt := EV.lt
        have lp := EV.lp
        have Wy : z < ts.length := by omega
        have TB : z < ps.length := by omega
        simp +contextual only [Kq, decide_true, decide_false, a2, ha.aM, ha.len (by omega), cw, Int.toNat_natCast, AA, r1, r2, kw, gt, z5 Wy, Kc Wy, sZ, Nat.reduceEqDiff, ↓reduceIte, reduceCtorEq]
        have HI := xh.ZZ (ts' := ts.set z (IntKind.i64.wrap (ts.getD z 0 + 1))) hD hw
        have tz := EV.t z hz
        have Ax := rW p.to z j
        rw [dG _ (by omega)] at HI ⊢
        generalize G.set x (cN (ts.set z (ts.getD z 0 + 1))) = G1 at HI ⊢
        have ql : p.l.getD j default ∈ p.l := dQ (by omega)
        obtain ⟨q, hq⟩ : ∃ q, p.l.getD j default = q := ⟨_, rfl⟩
        rw [hq] at ql
        obtain ⟨q1, q2, q3, q4, q5, q6, q7, q8, q9⟩ := aX q
        refine ⟨by omega, hz, hz, ?_⟩
        simp +contextual only [Kn, Af, qF, qG, hq, Int.toNat_natCast, q1, q2, q3, Cv, C3, N2, aw, eo, sZ, Nat.reduceEqDiff, ↓reduceIte, reduceCtorEq]
        refine ⟨by omega, fun hr => ⟨fun hi l1 l2 => ⟨fun Im => ?_, fun Im => ?_⟩, fun hi => ?_⟩, fun hr => ?_⟩
        ·have hwz := (Cz l1 l2).1 Im
         have td : (p.l.getD j default).nil := by rw [hq]; exact ⟨hr, hi, List.length_eq_zero_iff.1 hwz.1, List.length_eq_zero_iff.1 hwz.2⟩
         have gp1 := HI.gq
         have N4 := HI.Z0 (ps' := ps.set z (IntKind.i64.wrap (ps.getD z 0 + 1))) hD hw
         have tp := EV.p z hz
         have ple := HH p.to p.l z j
         simp +contextual only [kw, gp1, z5 TB, Kc TB, sZ, Nat.reduceEqDiff, ↓reduceIte, reduceCtorEq]
         rw [dG _ (by omega)] at N4 ⊢
         generalize G1.set y (cN (ps.set z (ps.getD z 0 + 1))) = G2 at N4 ⊢
         refine ⟨hz, hz, ?_⟩
         simp +contextual only [a2, b2, ha.lens, hb.lens, ha.idx, hb.idx, Int.toNat_natCast, sZ, Nat.reduceEqDiff, Nat.reduceAdd, ↓reduceIte, reduceCtorEq]
         refine ⟨by omega, by omega, ag (hs _ (aP hz) _ (aP py) G2 N4.du) ?_⟩
         rintro r G3 ⟨w, rfl, Wz, hU, Kb⟩
         have Kr := N4.call hD hw hU Kb
         cases w with
         | false =>
           simp +contextual only [Bool.not_false, sZ, Nat.reduceEqDiff, ↓reduceIte, reduceCtorEq]
           refine Kr.fin hD ⟨fun h => by simp at h, fun h => ?_⟩
           have := (h.2.2.1 j py).2
           rw [if_pos td, AA, Int.toNat_natCast] at this
           exact Wz.2 this
         | true =>
           simp +contextual only [Bool.not_true, sZ, Nat.reduceEqDiff, ↓reduceIte, reduceCtorEq]
           refine ⟨j + 1, (G3, _, _), ⟨py, Kr, EV.step hz AA (by rw [if_pos td]) (by rw [if_pos td]; exact Wz.1 rfl)⟩, by omega, aH (by rw [ax j (by omega)]) rfl⟩
        all_goals
         have td : ¬ (p.l.getD j default).nil := by
          rw [hq]
          rintro ⟨n1, n2, n3, n4⟩
          first | exact hr n1 | exact hi n2 | exact Im ((Cz l1 l2).2 ⟨by rw [n3]; rfl, by rw [n4]; rfl⟩)
         simp +contextual only [a2, b2, q4, ha.lens, hb.lens, ha.idx, hb.idx, Int.toNat_natCast, qG, sZ, Nat.reduceEqDiff, Nat.reduceAdd, ↓reduceIte, reduceCtorEq]
         refine ⟨by omega, by omega, ag (hh _ (aP hz) _ (aP py) q ql G1 HI.du) ?_⟩
         rintro r G3 ⟨w, rfl, Wz, hU, Kb⟩
         have Kr := HI.call hD hw hU Kb
         cases w with
         | false =>
           simp +contextual only [Bool.not_false, sZ, Nat.reduceEqDiff, ↓reduceIte, reduceCtorEq]
           refine Kr.fin hD ⟨fun h => by simp at h, fun h => ?_⟩
           have := (h.2.2.1 j py).2
           rw [if_neg td, AA, hq, Int.toNat_natCast] at this
           exact Wz.2 this
         | true =>
           simp +contextual only [Bool.not_true, sZ, Nat.reduceEqDiff, ↓reduceIte, reduceCtorEq]
           refine ⟨j + 1, (G3, _, _), ⟨py, Kr, EV.step hz AA (by rw [if_neg td]) (by rw [if_neg td, hq]; exact Wz.1 rfl)⟩, by omega, aH (by rw [ax j (by omega)]) rfl⟩
     ·have WA : j = b.length := by omega
      subst WA
      simp +contextual only [Kq, decide_false, a2, ha.aM, ha.len (by omega), sZ, Nat.reduceEqDiff, ↓reduceIte, reduceCtorEq]
      refine aO a.length (fun x' (f : Bool) => (∀ z : Nat, z < x' → 0 < dd p.to p.l z b.length → dj p.to z b.length ≤ 1) ∧ (f = true ↔ ∃ z : Nat, z < x' ∧ dd p.to p.l z b.length = 0))
       (fun x' f => [(9, .bg x 0 a.length a.length), (10, .bg y 0 a.length a.length), (14, .bool f), (112, .int .i64 a.length), (113, .int .i64 x')]) (fun _ _ => G) false
       ⟨⟨fun z h => by omega, ⟨fun h => by simp at h, fun ⟨z, h, _⟩ => by omega⟩⟩, aB _ _ _⟩ fun z f hz hI => ?_
      obtain ⟨jM, CY⟩ := hI
      by_cases Lb : (z : Int) < a.length
      ·have iI : z < a.length := by omega
       have gt := xh.gp
       have gp := xh.gq
       have lt := EV.lt
       have lp := EV.lp
       have Wy : z < ts.length := by omega
       have TB : z < ps.length := by omega
       have tz := EV.t z iI
       have pz := EV.p z iI
       by_cases k1 : dd p.to p.l z b.length = 0
       ·have p0 : ps.getD z 0 = 0 := by omega
        cases f <;>
         (simp +contextual only [Lb, decide_true, kw, gp, z5 TB, p0, Int.lt_irrefl, decide_false, sZ, Nat.reduceEqDiff, ↓reduceIte, reduceCtorEq]
          refine ⟨iI, ?_⟩
          first
           | refine ⟨iI, z + 1, true, ⟨iI, fun z' HZ => ?_, ⟨fun _ => ⟨z, by omega, k1⟩, fun _ => rfl⟩⟩, by omega, aH (by rw [ax z (by omega)]) rfl⟩
           | refine ⟨z + 1, true, ⟨iI, fun z' HZ => ?_, ⟨fun _ => ⟨z, by omega, k1⟩, fun _ => rfl⟩⟩, by omega, aH (by rw [ax z (by omega)]) rfl⟩
          by_cases e : z' = z
          ·subst e; intro h; omega
          ·exact jM z' (by omega))
       ·have p0 : (0 < ps.getD z 0) = True := eq_true (by omega)
        have p1' : (ps.getD z 0 = 0) = False := eq_false (by omega)
        by_cases k2 : dj p.to z b.length ≤ 1
        ·have t0 : (1 < ts.getD z 0) = False := eq_false (by omega)
         have nxt : (∀ z' : Nat, z' < z + 1 → 0 < dd p.to p.l z' b.length → dj p.to z' b.length ≤ 1) := by
          intro z' HZ
          by_cases e : z' = z
          ·subst e; intro _; exact k2
          ·exact jM z' (by omega)
         have nfr : (f = true ↔ ∃ z' : Nat, z' < z + 1 ∧ dd p.to p.l z' b.length = 0) := by
          rw [CY]
          constructor
          ·rintro ⟨z', h1, h2⟩; exact ⟨z', by omega, h2⟩
          ·rintro ⟨z', h1, h2⟩
           have : z' ≠ z := fun e => k1 (e ▸ h2)
           exact ⟨z', by omega, h2⟩
         cases f <;>
          (simp +contextual only [Lb, decide_true, kw, gt, gp, z5 Wy, z5 TB, p0, p1', t0, decide_false, sZ, Nat.reduceEqDiff, ↓reduceIte, reduceCtorEq]
           refine ⟨iI, iI, ?_⟩
           first
            | exact ⟨iI, z + 1, _, ⟨iI, nxt, nfr⟩, by omega, aH (by rw [ax z (by omega)]) rfl⟩
            | exact ⟨z + 1, _, ⟨iI, nxt, nfr⟩, by omega, aH (by rw [ax z (by omega)]) rfl⟩)
        ·have t0 : (1 < ts.getD z 0) = True := eq_true (by omega)
         simp +contextual only [Lb, decide_true, kw, gt, gp, z5 Wy, z5 TB, p0, t0, sZ, Nat.reduceEqDiff, ↓reduceIte, reduceCtorEq]
         refine ⟨iI, iI, xh.fin hD ⟨fun h => by simp at h, fun h => ?_⟩⟩
         exact absurd (h.2.2.2.1 z iI (by omega)) k2
      ·have hze : z = a.length := by omega
       subst hze
       simp +contextual only [Lb, decide_false, sZ, Nat.reduceEqDiff, ↓reduceIte, reduceCtorEq]
       refine xh.fin hD ?_
       rw [CY]
       exact ⟨fun h => ⟨h1, h2, EV.ok, jM, h⟩, fun h => h.2.2.2.2⟩
  ·have d1 : decide ((p.to.length : Int) ≠ b.length) = false := decide_eq_false (by omega)
   have d2 : ((p.l.length : Int) = b.length) = False := eq_false (by omega)
   simp +contextual only [b2, p1, N2, Kn, hb.aM, hb.len (by omega), aw, eo, h1, d2, not_true_eq_false, not_false_eq_true, decide_false, decide_true, sZ, Nat.reduceEqDiff, Nat.reduceAdd, ↓reduceIte, reduceCtorEq]
   intro _ _
   exact no fun h => h2 h.2.1
 ·have d1 : ((p.to.length : Int) = b.length) = False := eq_false (by omega)
  simp +contextual only [b2, p1, N2, hb.aM, hb.len (by omega), aw, d1, not_false_eq_true, decide_true, sZ, Nat.reduceEqDiff, Nat.reduceAdd, ↓reduceIte, reduceCtorEq]
  intro _
  exact no fun h => h1 h.1
end Go.aL
end
section
set_option maxRecDepth 100000
set_option maxHeartbeats 0
namespace Go.aL
open Go Go.Proofs
noncomputable def w6 := aJ Tryz.call87 Tryz.func87 Tryz.ntmps87 [(0,0,1),(0,1,1),(0,2,1),(12,7,2000),(13,11,2000),(17,10,2000),(20,36,2000),(23,3,2000),(24,20,2000),(24,27,2000),(26,10,2000)] [(0,[2,4,5,7]),(1,[2,4,5,7,9,10]),(2,[2,4,5,7,9,10,11]),(3,[2,4,5,7,9,10,11,14]),(4,[2,4,5,7,9,10,11,76]),(5,[8]),(6,[2,4,5,7,9,10,11,15,16]),(7,[2,4,5,7,9,10,11,15,16,85]),(8,[2,4,5,7,9,10,11,15,16,85,86]),(9,[2,4,7,9,103]),(10,[8]),(11,[2,4,7,9,107]),(12,[8]),(13,[8]),(14,[2,4,5,7,9,10,11,15,16,85,128]),(15,[2,4,7,11,17]),(16,[7,11,17,20,22]),(17,[8]),(18,[4,7,9,10,11,15,16,85,156]),(19,[4,7,11,15,16,23,24]),(20,[4,7,11,23,24,202]),(21,[8]),(22,[4,7,11,23,24,207]),(23,[8]),(24,[8]),(25,[4,7,9,10,15,16,241]),(26,[8]),(27,[8])] [(1,(.take 0 true (.take 1 true (.take 2 true (.take 3 true (.take 4 true (.take 5 true (.take 6 true (.take 7 true (.take 8 true (.take 9 true (.take 10 true (.take 11 true (.take 12 true (.take 13 true (.take 14 true (.take 15 true (.br 16 (.take 17 true (.br 18 .done .nil)) .nil)))))))))))))))))),(12,(.take 0 true (.take 1 true (.take 2 true (.take 3 true (.take 4 true (.take 5 true (.take 6 true (.br 7 (.take 8 true .done) .nil))))))))),(13,(.take 0 true (.take 1 true (.take 2 true (.take 3 true (.take 4 true (.take 5 true (.take 6 true (.take 7 true (.take 8 true (.take 9 true (.take 10 true (.br 11 (.take 12 true .done) .nil))))))))))))),(19,(.take 0 true (.take 1 true (.take 2 true (.take 3 true (.take 4 true (.take 5 true (.take 6 true (.take 7 true .done))))))))),(20,(.take 0 true (.take 1 true (.take 2 true (.take 3 true (.take 4 true (.take 5 true (.take 6 true (.take 7 true (.take 8 true (.take 9 true (.take 10 true (.take 11 true (.take 12 true (.take 13 true (.take 14 true (.take 15 true (.take 16 true (.take 17 true (.take 18 true (.take 19 true (.take 20 true (.take 21 true (.take 22 true (.take 23 true (.take 24 true (.take 25 true (.take 26 true (.take 27 true (.take 28 true (.take 29 true (.take 30 true (.take 31 true (.take 32 true (.take 33 true (.take 34 true (.take 35 true (.br 36 (.take 37 true (.take 38 true .done)) .nil)))))))))))))))))))))))))))))))))))))),(24,(.take 0 true (.take 1 true (.take 2 true (.take 3 true (.take 4 true (.take 5 true (.take 6 true (.take 7 true (.take 8 true (.take 9 true (.take 10 true (.take 11 true (.take 12 true (.take 13 true (.take 14 true (.take 15 true (.take 16 true (.take 17 true (.take 18 true (.take 19 true (.br 20 (.take 21 true (.take 22 true (.take 23 true (.take 24 true (.take 25 true (.take 26 true (.br 27 (.take 28 true (.take 29 true .done)) .nil))))))) .nil))))))))))))))))))))))]
end Go.aL
end
section
set_option maxRecDepth 100000
namespace Go.aL
open Go Go.Proofs Go.fw
theorem CA {O : Od} {p : PP} {a b : T} (h : Sh O p a b) : a.k = 2 := (pn.1 h).1
theorem Z2 {O : Od} {p : PP} {a b : T} (hr : p.r = 1) (ha : a.k = 2) : Sh O p a b ↔ p.to = [] ∧ (0 ≤ p.i ∧ p.i < a.l.length) ∧ ((p.l = [] ∧ E O (a.l.getD p.i.toNat default) b) ∨ ∃ q, p.l = [q] ∧ Sh O q (a.l.getD p.i.toNat default) b) := by
 rw [pn, Fs]; simp [hr, ha]
theorem Sh2 {O : Od} {p : PP} {a b : T} (hr : p.r = 2) (ha : a.k = 2) : Sh O p a b ↔ p.to = [] ∧ p.i = 0 ∧ b.k = 2 ∧ O.pl b.n < O.pl a.n ∧ kV (Sh O) p.l a b.l := by
 rw [pn, Fs]; simp [hr, ha]
theorem Sh3 {O : Od} {p : PP} {a b : T} (hr : p.r = 3) (ha : a.k = 2) : Sh O p a b ↔ p.to = [] ∧ b.k = 2 ∧ O.pl a.n = O.pl b.n ∧ O.sp (O.pl a.n) ≠ 3 ∧ Ct (E O) (Sh O) p.i p.l a (side (O.sp (O.pl a.n)) a.l) (side (O.sp (O.pl a.n)) b.l) b.l := by
 rw [pn, Fs]; simp [hr, ha]
theorem Sh4 {O : Od} {p : PP} {a b : T} (hr : p.r = 4) (ha : a.k = 2) : Sh O p a b ↔ p.i = 0 ∧ b.k = 2 ∧ O.pl a.n = O.pl b.n ∧ O.sp (O.pl a.n) = 3 ∧ Pv (E O) (Sh O) p.to p.l a.l b.l := by
 rw [pn, Fs]; simp [hr, ha]
theorem Sh0 {O : Od} {p : PP} {a b : T} (h1 : p.r ≠ 1) (h2 : p.r ≠ 2) (h3 : p.r ≠ 3) (h4 : p.r ≠ 4) : ¬ Sh O p a b := by
 rw [pn, Fs]; simp [h1, h2, h3, h4]
theorem slT (l : List Int) (n : Int) (h : 0 ≤ n ∧ n ≤ l.length) (φ : AV → Prop) : bB 1 (.aq 0 (ints l)) none (some (.int .i64 n)) none φ = φ (.aq 0 (ints (l.take n.toNat))) := by
 have er : dE (AV.aq 0 (ints l)) = some (ints l) := rfl
 have e2 : ((ints l).take n.toNat).drop 0 = ints (l.take n.toNat) := by rw [List.drop_zero, kQ]
 simp only [bB, fq, er, dL, e2, eq_iff_iff]
 constructor
 ·intro h; exact h.2.2.2.2
 ·intro h'
  refine ⟨fun own xs he z hz => ?_, by omega, by omega, by have := aw l; omega, h'⟩
  cases he
  obtain ⟨y, _, rfl⟩ := List.mem_map.1 hz
  rfl
theorem WB (x : PP) (r : List PP) (φ : AV → Prop) : bB 4 (.aq 0 (dR (x :: r))) (some (.int .i64 1)) none none φ = φ (.aq 0 (dR r)) := by
 have er : dE (AV.aq 0 (dR (x :: r))) = some (dR (x :: r)) := rfl
 have e1 : (1 : Int).toNat = 1 := rfl
 have e2 : ((dR (x :: r)).take (dR (x :: r)).length).drop 1 = dR r := by rw [List.take_length]; rfl
 simp only [bB, fq, er, dL, e1, e2, eq_iff_iff]
 constructor
 ·intro h; exact h.2.2.2.2
 ·intro h
  refine ⟨fun own xs he z hz => of_eq_true (qF 0 (x :: r)) own xs he z hz, by omega, by simp [eo], Nat.le_refl _, h⟩
theorem ol {s : Int} {l : List Int} {x : Int} : x ∈ bE s l ↔ x ∈ l := by unfold bE; split <;> simp
theorem WC {c : Cx} (hc : c.Ok) {p : PP} {i k : Int} (hi : c.dF i) (hk : c.dF k) (fJ : ∀ q ∈ p.l, ∀ x y, c.dF x → c.dF y → iV c x y q) (yV : p.r = 1) : iV c i k p := by
 intro H hD
 refine w6.2.calls rfl ?_
 simp only [w6, aJ]
 obtain ⟨p1, p2, p3, p4, p5, p6, p7, p8, p9⟩ := aX p
 have k2 : ∀ l, (bo l).ae = bo l := fun l => (aF l).2.1
 have ki := hc.kids i hi
 have kk := hc.kids k hk
 have l1 := hc.kl i hi
 have l2 := hc.kl k hk
 obtain ⟨a1, a2, a3, a4, a5⟩ := aF (c.kd i)
 obtain ⟨b1, b2, b3, b4, b5⟩ := aF (c.kd k)
 have ii : IL (bo (c.kd i)) (c.kd i) := .inl rfl
 have ik : IL (bo (c.kd k)) (c.kd k) := .inl rfl
 have ei : (c.nd.getD i.toNat default).snd = c.kd i := rfl
 have ek : (c.nd.getD k.toNat default).snd = c.kd k := rfl
 obtain ⟨m1, m2, m3⟩ := hD.lt
 have mA : Du c (H ++ [.cells [bo (c.kd k)]]) := hD.rL _
 have fin : ∀ G (b : Bool), Up c (H ++ [.cells [bo (c.kd k)]]) G → Du c G → (b = true ↔ Sh c.O p (c.tm i) (c.tm k)) → bV H.length [.t 8] [(8, .bool b)] G (ic c (Sh c.O p (c.tm i) (c.tm k)) H) := by
  intro G b u d hb
  refine aW H.length (Nat.le_refl _) (by rw [ay, if_pos rfl]; rfl) ?_
  rw [ay, if_pos rfl]
  exact ⟨b, rfl, hb, u.take, d.take m1 m2 m3⟩
 have fin0 : ¬ Sh c.O p (c.tm i) (c.tm k) → bV H.length [.t 8] [(8, .bool false)] (H ++ [.cells [bo (c.kd k)]]) (ic c (Sh c.O p (c.tm i) (c.tm k)) H) :=
  fun h => fin _ _ (Up.refl c _) mA ⟨fun h => by simp at h, fun h' => absurd h' h⟩
 have spv : ∀ x : AV, ai [AV.ah] 0 [x] = [x] := fun x => rfl
 simp +contextual only [p1, hD.d, lV, C1, cv, bT, k2, ei, ek, b1, b3, b4, b5, List.map_cons, List.map_nil, spv, List.all_cons, List.all_nil, Bool.and_true, bM, cW, sZ, Nat.reduceEqDiff, Nat.reduceAdd, Nat.reduceLT, ↓reduceIte, reduceCtorEq]
 refine ⟨hi, hk, ag (pi hc hi mA) ?_⟩
 rintro r H2 ⟨rfl, rfl⟩
 cases hb : qP c i with
 | false =>
   have ki2 : ¬ (c.tm i).k = 2 := of_decide_eq_false hb
   simp +contextual only [dr, fh, fj, fm, hb, Bool.not_false, sZ, Nat.reduceEqDiff, ↓reduceIte, reduceCtorEq]
   exact fin0 fun h => ki2 (CA h)
 | true =>
 have ki2 : (c.tm i).k = 2 := of_decide_eq_true hb
 have kid : ∀ (j : Int), (0 ≤ j ∧ j < (c.kd i).length) → (c.tm i).l.getD j.toNat default = c.tm ((c.kd i).getD j.toNat 0) := fun j hj => by rw [← ki.1, cb (by omega)]
 have klen : (c.tm i).l.length = (c.kd i).length := by rw [← ki.1]; simp
 have kn : ∀ (j : Int), (0 ≤ j ∧ j < (c.kd i).length) → c.dF ((c.kd i).getD j.toNat 0) := fun j hj => ki.2 _ (aP (by omega))
 have lvun : (AV.tuple [.int .i64 (dq c i), .bool (tv c i k)]).ae = .tuple [.int .i64 (dq c i), .bool (tv c i k)] := rfl
 have hS := Z2 (O := c.O) (b := c.tm k) yV ki2
 rw [klen] at hS
 simp +contextual only [dr, fh, fj, fm, hb, Bool.not_true, Cv, N2, yV, not_true_eq_false, not_false_eq_true, decide_true, decide_false, aw, sZ, Nat.reduceEqDiff, Nat.reduceAdd, ↓reduceIte, reduceCtorEq, Int.reduceEq]
 refine fun _ => ⟨fun h0 => ?_, fun h0 => fin0 fun h => ?_⟩
 ·have AA : p.to = [] := List.length_eq_zero_iff.1 (by omega)
  refine ag (En hc hi hk mA) ?_
  rintro r H2 ⟨rfl, rfl⟩
  by_cases hI : 0 ≤ p.i ∧ p.i < (c.kd i).length
  ·have n1 : (p.i < 0) = False := eq_false (by omega)
   have n2 : (((c.kd i).length : Int) ≤ p.i) = False := eq_false (by omega)
   have hkn := kn p.i hI
   rw [kid p.i hI] at hS
   by_cases hL : p.l.length ≤ 1
   ·have n3 : (1 < (p.l.length : Int)) = False := eq_false (by omega)
    by_cases hL0 : p.l.length = 0
    ·have n4 : ((p.l.length : Int) = 0) = True := eq_true (by omega)
     simp +contextual only [k2, ii.aM, ii.len (by omega), ii.lens, ii.idx, Cv, C3, Kn, eo, lvun, decide_true, decide_false, yV, n1, n2, n3, n4, sZ, Nat.reduceEqDiff, Nat.reduceAdd, Nat.reduceLT, ↓reduceIte, reduceCtorEq]
     refine fun _ => ⟨hI, ag (jI hc hkn hk _ mA) ?_⟩
     rintro r G ⟨x, rfl, hx, hU, jb⟩
     simp +contextual only [sZ, ↓reduceIte, reduceCtorEq]
     refine fin G x hU jb ?_
     rw [hx, hS]
     have : p.l = [] := List.length_eq_zero_iff.1 hL0
     simp [AA, hI, this]
    ·have n4 : ((p.l.length : Int) = 0) = False := eq_false (by omega)
     have hm : p.l.getD 0 default ∈ p.l := dQ (by omega)
     obtain ⟨q1, q2, q3, q4, q5, q6, q7, q8, q9⟩ := aX (p.l.getD 0 default)
     have t0 : (0 : Int).toNat = 0 := rfl
     simp +contextual only [k2, ii.aM, ii.len (by omega), ii.lens, ii.idx, Cv, C3, Kn, Af, qF, qG, eo, lvun, decide_true, decide_false, yV, n1, n2, n3, n4, t0, q4, sZ, Nat.reduceEqDiff, Nat.reduceAdd, Nat.reduceLT, ↓reduceIte, reduceCtorEq]
     refine fun _ => ⟨hI, ⟨by omega, by omega⟩, ag (fJ _ hm _ _ hkn hk _ mA) ?_⟩
     rintro r G ⟨x, rfl, hx, hU, jb⟩
     simp +contextual only [sZ, ↓reduceIte, reduceCtorEq]
     refine fin G x hU jb ?_
     rw [hx, hS]
     obtain ⟨q, hq⟩ : ∃ q, p.l = [q] := List.length_eq_one_iff.1 (by omega)
     simp [AA, hI, hq]
   ·have n3 : (1 < (p.l.length : Int)) = True := eq_true (by omega)
    simp +contextual only [k2, ii.aM, ii.len (by omega), Cv, C3, Kn, eo, lvun, decide_true, decide_false, yV, n1, n2, n3, sZ, Nat.reduceEqDiff, Nat.reduceAdd, Nat.reduceLT, ↓reduceIte, reduceCtorEq]
    refine fun _ => fin0 fun h => ?_
    rcases (hS.1 h).2.2 with h | ⟨q, h, _⟩
    ·rw [h.1] at hL; simp at hL
    ·rw [h] at hL; simp at hL
  ·by_cases hI0 : p.i < 0
   ·simp +contextual only [Cv, C3, lvun, decide_true, yV, hI0, sZ, Nat.reduceEqDiff, Nat.reduceAdd, Nat.reduceLT, ↓reduceIte, reduceCtorEq]
    exact fin0 fun h => hI (hS.1 h).2.1
   ·have n2 : (((c.kd i).length : Int) ≤ p.i) = True := eq_true (by omega)
    simp +contextual only [k2, ii.aM, ii.len (by omega), Cv, C3, lvun, decide_true, decide_false, yV, hI0, n2, sZ, Nat.reduceEqDiff, Nat.reduceAdd, Nat.reduceLT, ↓reduceIte, reduceCtorEq]
    exact fin0 fun h => hI (hS.1 h).2.1
 ·rw [(hS.1 h).1] at h0; simp at h0
theorem WD {c : Cx} (hc : c.Ok) {p : PP} {i k : Int} (hi : c.dF i) (hk : c.dF k) (fJ : ∀ q ∈ p.l, ∀ x y, c.dF x → c.dF y → iV c x y q) (qX : p.r = 2) : iV c i k p := by
 intro H hD
 refine w6.2.calls rfl ?_
 simp only [w6, aJ]
 obtain ⟨p1, p2, p3, p4, p5, p6, p7, p8, p9⟩ := aX p
 have k2 : ∀ l, (bo l).ae = bo l := fun l => (aF l).2.1
 have ki := hc.kids i hi
 have kk := hc.kids k hk
 have l1 := hc.kl i hi
 have l2 := hc.kl k hk
 obtain ⟨a1, a2, a3, a4, a5⟩ := aF (c.kd i)
 obtain ⟨b1, b2, b3, b4, b5⟩ := aF (c.kd k)
 have ii : IL (bo (c.kd i)) (c.kd i) := .inl rfl
 have ik : IL (bo (c.kd k)) (c.kd k) := .inl rfl
 have ei : (c.nd.getD i.toNat default).snd = c.kd i := rfl
 have ek : (c.nd.getD k.toNat default).snd = c.kd k := rfl
 obtain ⟨m1, m2, m3⟩ := hD.lt
 have mA : Du c (H ++ [.cells [bo (c.kd k)]]) := hD.rL _
 have fin : ∀ G (b : Bool), Up c (H ++ [.cells [bo (c.kd k)]]) G → Du c G → (b = true ↔ Sh c.O p (c.tm i) (c.tm k)) → bV H.length [.t 8] [(8, .bool b)] G (ic c (Sh c.O p (c.tm i) (c.tm k)) H) := by
  intro G b u d hb
  refine aW H.length (Nat.le_refl _) (by rw [ay, if_pos rfl]; rfl) ?_
  rw [ay, if_pos rfl]
  exact ⟨b, rfl, hb, u.take, d.take m1 m2 m3⟩
 have fin0 : ¬ Sh c.O p (c.tm i) (c.tm k) → bV H.length [.t 8] [(8, .bool false)] (H ++ [.cells [bo (c.kd k)]]) (ic c (Sh c.O p (c.tm i) (c.tm k)) H) :=
  fun h => fin _ _ (Up.refl c _) mA ⟨fun h => by simp at h, fun h' => absurd h' h⟩
 have spv : ∀ x : AV, ai [AV.ah] 0 [x] = [x] := fun x => rfl
 simp +contextual only [p1, hD.d, lV, C1, cv, bT, k2, ei, ek, b1, b3, b4, b5, List.map_cons, List.map_nil, spv, List.all_cons, List.all_nil, Bool.and_true, bM, cW, sZ, Nat.reduceEqDiff, Nat.reduceAdd, Nat.reduceLT, ↓reduceIte, reduceCtorEq]
 refine ⟨hi, hk, ag (pi hc hi mA) ?_⟩
 rintro r H2 ⟨rfl, rfl⟩
 cases hb : qP c i with
 | false =>
   have ki2 : ¬ (c.tm i).k = 2 := of_decide_eq_false hb
   simp +contextual only [dr, fh, fj, fm, hb, Bool.not_false, sZ, Nat.reduceEqDiff, ↓reduceIte, reduceCtorEq]
   exact fin0 fun h => ki2 (CA h)
 | true =>
 have ki2 : (c.tm i).k = 2 := of_decide_eq_true hb
 have kid : ∀ (j : Int), (0 ≤ j ∧ j < (c.kd i).length) → (c.tm i).l.getD j.toNat default = c.tm ((c.kd i).getD j.toNat 0) := fun j hj => by rw [← ki.1, cb (by omega)]
 have klen : (c.tm i).l.length = (c.kd i).length := by rw [← ki.1]; simp
 have kn : ∀ (j : Int), (0 ≤ j ∧ j < (c.kd i).length) → c.dF ((c.kd i).getD j.toNat 0) := fun j hj => ki.2 _ (aP (by omega))
 have lvun : (AV.tuple [.int .i64 (dq c i), .bool (tv c i k)]).ae = .tuple [.int .i64 (dq c i), .bool (tv c i k)] := rfl
 have hS := Sh2 (O := c.O) (b := c.tm k) qX ki2
 have e1 : ((2 : Int) = 1) = False := by simp
 simp +contextual only [dr, fh, fj, fm, hb, Bool.not_true, Cv, C3, N2, qX, not_true_eq_false, not_false_eq_true, decide_true, decide_false, aw, sZ, Nat.reduceEqDiff, Nat.reduceAdd, ↓reduceIte, reduceCtorEq, Int.reduceEq]
 have fAll : ∀ (G : List aa) (Q : Prop) (b0 : Bool), True := fun _ _ _ => trivial
 have hAS : kV (Sh c.O) p.l (c.tm i) ((c.kd k).map c.tm) ↔ kV (Sh c.O) p.l (c.tm i) (c.tm k).l := by rw [kk.1]
 refine fun _ => ⟨fun h0 => ⟨fun tD => fin0 fun h => tD (hS.1 h).2.1, fun tD => ?_⟩, fun h0 => fin0 fun h => ?_⟩
 ·have AA : p.to = [] := List.length_eq_zero_iff.1 (by omega)
  refine ag (En hc hi hk mA) ?_
  rintro r H2 ⟨rfl, rfl⟩
  simp +contextual only [Cv, lvun, decide_true, decide_false, qX, e1, sZ, Nat.reduceEqDiff, Nat.reduceAdd, Nat.reduceLT, ↓reduceIte]
  refine ag (pi hc hi mA) ?_
  rintro r H2 ⟨rfl, rfl⟩
  simp +contextual only [dr, fh, fj, fm, sZ, Nat.reduceEqDiff, Nat.reduceAdd, ↓reduceIte]
  refine ag (pi hc hk mA) ?_
  rintro r H2 ⟨rfl, rfl⟩
  have opi : ph c i = c.O.pl (c.tm i).n := by rw [ph, if_pos ki2]
  cases Ep : qP c k with
  | false =>
    have kk2 : ¬ (c.tm k).k = 2 := of_decide_eq_false Ep
    simp +contextual only [dr, fh, fj, fm, Ep, sZ, Nat.reduceEqDiff, ↓reduceIte, reduceCtorEq]
    exact fin0 fun h => kk2 (hS.1 h).2.2.1
  | true =>
    have kk2 : (c.tm k).k = 2 := of_decide_eq_true Ep
    have opk : ph c k = c.O.pl (c.tm k).n := by rw [ph, if_pos kk2]
    by_cases a8 : ph c k < ph c i
    ·simp +contextual only [Kn, decide_true, dr, fh, fj, fm, Ep, a8, sZ, Nat.reduceEqDiff, Nat.reduceAdd, ↓reduceIte, reduceCtorEq]
     refine ag (SN ik (by omega) (q := H.length) ⟨by omega, by omega⟩ (fun j h1 h2 => fJ _ (dQ h2) _ _ hi (kk.2 _ (aP h1))) mA (by simp)) ?_
     rintro r G ⟨x, rfl, hx, hU, jb⟩
     simp +contextual only [sZ, Nat.reduceEqDiff, ↓reduceIte, reduceCtorEq]
     refine fin G x hU jb ?_
     rw [hx, hS, hAS]
     rw [opi, opk] at a8
     simp [AA, tD, kk2, a8]
    ·simp +contextual only [decide_false, dr, fh, fj, fm, Ep, a8, sZ, Nat.reduceEqDiff, ↓reduceIte, reduceCtorEq]
     refine fin0 fun h => a8 ?_
     rw [opi, opk]
     exact (hS.1 h).2.2.2.1
 ·rw [(hS.1 h).1] at h0; simp at h0
theorem WE {c : Cx} (hc : c.Ok) {p : PP} {i k : Int} (hi : c.dF i) (hk : c.dF k) (fJ : ∀ q ∈ p.l, ∀ x y, c.dF x → c.dF y → iV c x y q) (N5 : p.r = 4) : iV c i k p := by
 intro H hD
 refine w6.2.calls rfl ?_
 simp only [w6, aJ]
 obtain ⟨p1, p2, p3, p4, p5, p6, p7, p8, p9⟩ := aX p
 have k2 : ∀ l, (bo l).ae = bo l := fun l => (aF l).2.1
 have ki := hc.kids i hi
 have kk := hc.kids k hk
 have l1 := hc.kl i hi
 have l2 := hc.kl k hk
 obtain ⟨a1, a2, a3, a4, a5⟩ := aF (c.kd i)
 obtain ⟨b1, b2, b3, b4, b5⟩ := aF (c.kd k)
 have ii : IL (bo (c.kd i)) (c.kd i) := .inl rfl
 have ik : IL (bo (c.kd k)) (c.kd k) := .inl rfl
 have ei : (c.nd.getD i.toNat default).snd = c.kd i := rfl
 have ek : (c.nd.getD k.toNat default).snd = c.kd k := rfl
 obtain ⟨m1, m2, m3⟩ := hD.lt
 have mA : Du c (H ++ [.cells [bo (c.kd k)]]) := hD.rL _
 have fin : ∀ G (b : Bool), Up c (H ++ [.cells [bo (c.kd k)]]) G → Du c G → (b = true ↔ Sh c.O p (c.tm i) (c.tm k)) → bV H.length [.t 8] [(8, .bool b)] G (ic c (Sh c.O p (c.tm i) (c.tm k)) H) := by
  intro G b u d hb
  refine aW H.length (Nat.le_refl _) (by rw [ay, if_pos rfl]; rfl) ?_
  rw [ay, if_pos rfl]
  exact ⟨b, rfl, hb, u.take, d.take m1 m2 m3⟩
 have fin0 : ¬ Sh c.O p (c.tm i) (c.tm k) → bV H.length [.t 8] [(8, .bool false)] (H ++ [.cells [bo (c.kd k)]]) (ic c (Sh c.O p (c.tm i) (c.tm k)) H) :=
  fun h => fin _ _ (Up.refl c _) mA ⟨fun h => by simp at h, fun h' => absurd h' h⟩
 have spv : ∀ x : AV, ai [AV.ah] 0 [x] = [x] := fun x => rfl
 simp +contextual only [p1, hD.d, lV, C1, cv, bT, k2, ei, ek, b1, b3, b4, b5, List.map_cons, List.map_nil, spv, List.all_cons, List.all_nil, Bool.and_true, bM, cW, sZ, Nat.reduceEqDiff, Nat.reduceAdd, Nat.reduceLT, ↓reduceIte, reduceCtorEq]
 refine ⟨hi, hk, ag (pi hc hi mA) ?_⟩
 rintro r H2 ⟨rfl, rfl⟩
 cases hb : qP c i with
 | false =>
   have ki2 : ¬ (c.tm i).k = 2 := of_decide_eq_false hb
   simp +contextual only [dr, fh, fj, fm, hb, Bool.not_false, sZ, Nat.reduceEqDiff, ↓reduceIte, reduceCtorEq]
   exact fin0 fun h => ki2 (CA h)
 | true =>
 have ki2 : (c.tm i).k = 2 := of_decide_eq_true hb
 have kid : ∀ (j : Int), (0 ≤ j ∧ j < (c.kd i).length) → (c.tm i).l.getD j.toNat default = c.tm ((c.kd i).getD j.toNat 0) := fun j hj => by rw [← ki.1, cb (by omega)]
 have klen : (c.tm i).l.length = (c.kd i).length := by rw [← ki.1]; simp
 have kn : ∀ (j : Int), (0 ≤ j ∧ j < (c.kd i).length) → c.dF ((c.kd i).getD j.toNat 0) := fun j hj => ki.2 _ (aP (by omega))
 have lvun : (AV.tuple [.int .i64 (dq c i), .bool (tv c i k)]).ae = .tuple [.int .i64 (dq c i), .bool (tv c i k)] := rfl
 have hS := Sh4 (O := c.O) (b := c.tm k) N5 ki2
 have e1 : ((4 : Int) = 1) = False := by simp
 simp +contextual only [dr, fh, fj, fm, hb, Bool.not_true, Cv, C3, N5, not_true_eq_false, not_false_eq_true, decide_true, decide_false, sZ, Nat.reduceEqDiff, Nat.reduceAdd, ↓reduceIte, reduceCtorEq, Int.reduceEq]
 refine ⟨fun tD => fin0 fun h => tD (hS.1 h).1, fun tD => ?_⟩
 refine ag (En hc hi hk mA) ?_
 rintro r H2 ⟨rfl, rfl⟩
 have opi : ph c i = c.O.pl (c.tm i).n := by rw [ph, if_pos ki2]
 have osi : dq c i = c.O.sp (c.O.pl (c.tm i).n) := by rw [dq, if_pos ki2]
 cases hl : tv c i k with
 | false =>
   simp +contextual only [Cv, decide_true, decide_false, N5, e1, sZ, Nat.reduceEqDiff, Nat.reduceAdd, Nat.reduceLT, ↓reduceIte, reduceCtorEq, Int.reduceEq]
   exact fin0 fun h => by
    have := hS.1 h
    rw [jZ.2 ⟨ki2, this.2.1, this.2.2.1⟩] at hl
    cases hl
 | true =>
   have Ks := jZ.1 hl
   by_cases Ai : dq c i = 3
   ·simp +contextual only [p4, k2, Cv, qG, decide_true, decide_false, N5, e1, Ai, sZ, Nat.reduceEqDiff, Nat.reduceAdd, Nat.reduceLT, ↓reduceIte, reduceCtorEq, Int.reduceEq]
    refine ag (Z1 ii ik (by omega) (by omega) p (fun x hx y hy => jI hc (ki.2 x hx) (kk.2 y hy)) (fun x hx y hy q hq => fJ q hq _ _ (ki.2 x hx) (kk.2 y hy)) mA) ?_
    rintro r G ⟨x, rfl, hx, hU, jb⟩
    simp +contextual only [sZ, Nat.reduceEqDiff, ↓reduceIte, reduceCtorEq]
    refine fin G x hU jb ?_
    rw [hx, hS, Cy, ki.1, kk.1]
    rw [osi] at Ai
    exact ⟨fun h => ⟨tD, Ks.2.1, Ks.2.2, Ai, h⟩, fun h => h.2.2.2.2⟩
   ·have HJ : (dq c i = 3) = False := eq_false Ai
    simp +contextual only [Cv, decide_true, decide_false, N5, e1, HJ, sZ, Nat.reduceEqDiff, Nat.reduceAdd, Nat.reduceLT, ↓reduceIte, reduceCtorEq, Int.reduceEq]
    refine fin0 fun h => Ai ?_
    rw [osi]; exact (hS.1 h).2.2.2.1
theorem WG {c : Cx} (hc : c.Ok) {p : PP} {i k : Int} (hi : c.dF i) (hk : c.dF k) (fJ : ∀ q ∈ p.l, ∀ x y, c.dF x → c.dF y → iV c x y q) (yV : p.r ≠ 1) (qX : p.r ≠ 2) (Lg : p.r ≠ 3) (N5 : p.r ≠ 4) : iV c i k p := by
 intro H hD
 refine w6.2.calls rfl ?_
 simp only [w6, aJ]
 obtain ⟨p1, p2, p3, p4, p5, p6, p7, p8, p9⟩ := aX p
 have k2 : ∀ l, (bo l).ae = bo l := fun l => (aF l).2.1
 have ki := hc.kids i hi
 have kk := hc.kids k hk
 have l1 := hc.kl i hi
 have l2 := hc.kl k hk
 obtain ⟨a1, a2, a3, a4, a5⟩ := aF (c.kd i)
 obtain ⟨b1, b2, b3, b4, b5⟩ := aF (c.kd k)
 have ii : IL (bo (c.kd i)) (c.kd i) := .inl rfl
 have ik : IL (bo (c.kd k)) (c.kd k) := .inl rfl
 have ei : (c.nd.getD i.toNat default).snd = c.kd i := rfl
 have ek : (c.nd.getD k.toNat default).snd = c.kd k := rfl
 obtain ⟨m1, m2, m3⟩ := hD.lt
 have mA : Du c (H ++ [.cells [bo (c.kd k)]]) := hD.rL _
 have fin : ∀ G (b : Bool), Up c (H ++ [.cells [bo (c.kd k)]]) G → Du c G → (b = true ↔ Sh c.O p (c.tm i) (c.tm k)) → bV H.length [.t 8] [(8, .bool b)] G (ic c (Sh c.O p (c.tm i) (c.tm k)) H) := by
  intro G b u d hb
  refine aW H.length (Nat.le_refl _) (by rw [ay, if_pos rfl]; rfl) ?_
  rw [ay, if_pos rfl]
  exact ⟨b, rfl, hb, u.take, d.take m1 m2 m3⟩
 have fin0 : ¬ Sh c.O p (c.tm i) (c.tm k) → bV H.length [.t 8] [(8, .bool false)] (H ++ [.cells [bo (c.kd k)]]) (ic c (Sh c.O p (c.tm i) (c.tm k)) H) :=
  fun h => fin _ _ (Up.refl c _) mA ⟨fun h => by simp at h, fun h' => absurd h' h⟩
 have spv : ∀ x : AV, ai [AV.ah] 0 [x] = [x] := fun x => rfl
 simp +contextual only [p1, hD.d, lV, C1, cv, bT, k2, ei, ek, b1, b3, b4, b5, List.map_cons, List.map_nil, spv, List.all_cons, List.all_nil, Bool.and_true, bM, cW, sZ, Nat.reduceEqDiff, Nat.reduceAdd, Nat.reduceLT, ↓reduceIte, reduceCtorEq]
 refine ⟨hi, hk, ag (pi hc hi mA) ?_⟩
 rintro r H2 ⟨rfl, rfl⟩
 cases hb : qP c i with
 | false =>
   have ki2 : ¬ (c.tm i).k = 2 := of_decide_eq_false hb
   simp +contextual only [dr, fh, fj, fm, hb, Bool.not_false, sZ, Nat.reduceEqDiff, ↓reduceIte, reduceCtorEq]
   exact fin0 fun h => ki2 (CA h)
 | true =>
 have ki2 : (c.tm i).k = 2 := of_decide_eq_true hb
 have kid : ∀ (j : Int), (0 ≤ j ∧ j < (c.kd i).length) → (c.tm i).l.getD j.toNat default = c.tm ((c.kd i).getD j.toNat 0) := fun j hj => by rw [← ki.1, cb (by omega)]
 have klen : (c.tm i).l.length = (c.kd i).length := by rw [← ki.1]; simp
 have kn : ∀ (j : Int), (0 ≤ j ∧ j < (c.kd i).length) → c.dF ((c.kd i).getD j.toNat 0) := fun j hj => ki.2 _ (aP (by omega))
 have lvun : (AV.tuple [.int .i64 (dq c i), .bool (tv c i k)]).ae = .tuple [.int .i64 (dq c i), .bool (tv c i k)] := rfl
 have hS := Sh0 (O := c.O) (a := c.tm i) (b := c.tm k) yV qX Lg N5
 simp +contextual only [dr, fh, fj, fm, hb, Bool.not_true, Cv, C3, N2, yV, Lg, N5, not_true_eq_false, not_false_eq_true, decide_true, decide_false, aw, sZ, Nat.reduceEqDiff, Nat.reduceAdd, ↓reduceIte, reduceCtorEq]
 refine fun _ => ⟨fun h0 => ⟨fun tD => fin0 hS, fun tD => ?_⟩, fun h0 => fin0 hS⟩
 refine ag (En hc hi hk mA) ?_
 rintro r H2 ⟨rfl, rfl⟩
 simp +contextual only [Cv, lvun, decide_false, yV, qX, Lg, N5, sZ, Nat.reduceEqDiff, Nat.reduceAdd, Nat.reduceLT, ↓reduceIte, reduceCtorEq]
 exact fin0 hS
end Go.aL
end
section
set_option maxRecDepth 100000
namespace Go.aL
open Go Go.Proofs Go.fw
theorem WH {O : Od} {f : Int → T} {at' : Int} {l : List PP} {a : T} {x y kd : List Int} {bl : List T} (hb : kd.map f = bl) : Ct (E O) (Sh O) at' l a (x.map f) (y.map f) bl ↔
 (0 ≤ at' ∧ at' < x.length ∧ at' ≤ y.length) ∧ (∀ j, j < at'.toNat → E O (f (x.getD j 0)) (f (y.getD j 0))) ∧
 (if at' = y.length then kV (Sh O) l a (kd.map f) else ∃ q r, l = q :: r ∧ Sh O q (f (x.getD at'.toNat 0)) (f (y.getD at'.toNat 0)) ∧ kV (Sh O) r a (kd.map f)) := by
 unfold Ct
 rw [hb]
 simp only [List.length_map]
 refine and_congr_right fun h => ?_
 have e : ∀ j, j < at'.toNat → ((x.map f).getD j default = f (x.getD j 0) ∧ (y.map f).getD j default = f (y.getD j 0)) := fun j hj => ⟨cb (by omega), cb (by omega)⟩
 refine and_congr ⟨fun k j hj => ?_, fun k j hj => ?_⟩ ?_
 ·have := k j hj; rwa [(e j hj).1, (e j hj).2] at this
 ·rw [(e j hj).1, (e j hj).2]; exact k j hj
 ·split
  ·exact Iff.rfl
  ·rw [cb (by omega), cb (by omega)]
theorem WI {c : Cx} (hc : c.Ok) {p : PP} {i k : Int} (hi : c.dF i) (hk : c.dF k) (fJ : ∀ q ∈ p.l, ∀ x y, c.dF x → c.dF y → iV c x y q) (Lg : p.r = 3) : iV c i k p := by
 intro H hD
 refine w6.2.calls rfl ?_
 simp only [w6, aJ]
 obtain ⟨p1, p2, p3, p4, p5, p6, p7, p8, p9⟩ := aX p
 have k2 : ∀ l, (bo l).ae = bo l := fun l => (aF l).2.1
 have ki := hc.kids i hi
 have kk := hc.kids k hk
 have l1 := hc.kl i hi
 have l2 := hc.kl k hk
 obtain ⟨a1, a2, a3, a4, a5⟩ := aF (c.kd i)
 obtain ⟨b1, b2, b3, b4, b5⟩ := aF (c.kd k)
 have ii : IL (bo (c.kd i)) (c.kd i) := .inl rfl
 have ik : IL (bo (c.kd k)) (c.kd k) := .inl rfl
 have ei : (c.nd.getD i.toNat default).snd = c.kd i := rfl
 have ek : (c.nd.getD k.toNat default).snd = c.kd k := rfl
 obtain ⟨m1, m2, m3⟩ := hD.lt
 have mA : Du c (H ++ [.cells [bo (c.kd k)]]) := hD.rL _
 have fin : ∀ G (b : Bool), Up c (H ++ [.cells [bo (c.kd k)]]) G → Du c G → (b = true ↔ Sh c.O p (c.tm i) (c.tm k)) → bV H.length [.t 8] [(8, .bool b)] G (ic c (Sh c.O p (c.tm i) (c.tm k)) H) := by
  intro G b u d hb
  refine aW H.length (Nat.le_refl _) (by rw [ay, if_pos rfl]; rfl) ?_
  rw [ay, if_pos rfl]
  exact ⟨b, rfl, hb, u.take, d.take m1 m2 m3⟩
 have fin0 : ¬ Sh c.O p (c.tm i) (c.tm k) → bV H.length [.t 8] [(8, .bool false)] (H ++ [.cells [bo (c.kd k)]]) (ic c (Sh c.O p (c.tm i) (c.tm k)) H) :=
  fun h => fin _ _ (Up.refl c _) mA ⟨fun h => by simp at h, fun h' => absurd h' h⟩
 have spv : ∀ x : AV, ai [AV.ah] 0 [x] = [x] := fun x => rfl
 simp +contextual only [p1, hD.d, lV, C1, cv, bT, k2, ei, ek, b1, b3, b4, b5, List.map_cons, List.map_nil, spv, List.all_cons, List.all_nil, Bool.and_true, bM, cW, sZ, Nat.reduceEqDiff, Nat.reduceAdd, Nat.reduceLT, ↓reduceIte, reduceCtorEq]
 refine ⟨hi, hk, ag (pi hc hi mA) ?_⟩
 rintro r H2 ⟨rfl, rfl⟩
 cases hb : qP c i with
 | false =>
   have ki2 : ¬ (c.tm i).k = 2 := of_decide_eq_false hb
   simp +contextual only [dr, fh, fj, fm, hb, Bool.not_false, sZ, Nat.reduceEqDiff, ↓reduceIte, reduceCtorEq]
   exact fin0 fun h => ki2 (CA h)
 | true =>
 have ki2 : (c.tm i).k = 2 := of_decide_eq_true hb
 have kid : ∀ (j : Int), (0 ≤ j ∧ j < (c.kd i).length) → (c.tm i).l.getD j.toNat default = c.tm ((c.kd i).getD j.toNat 0) := fun j hj => by rw [← ki.1, cb (by omega)]
 have klen : (c.tm i).l.length = (c.kd i).length := by rw [← ki.1]; simp
 have kn : ∀ (j : Int), (0 ≤ j ∧ j < (c.kd i).length) → c.dF ((c.kd i).getD j.toNat 0) := fun j hj => ki.2 _ (aP (by omega))
 have lvun : (AV.tuple [.int .i64 (dq c i), .bool (tv c i k)]).ae = .tuple [.int .i64 (dq c i), .bool (tv c i k)] := rfl
 have hS := Sh3 (O := c.O) (b := c.tm k) Lg ki2
 have e1 : ((3 : Int) = 1) = False := by simp
 simp +contextual only [dr, fh, fj, fm, hb, Bool.not_true, Cv, N2, Lg, not_true_eq_false, not_false_eq_true, decide_true, decide_false, aw, sZ, Nat.reduceEqDiff, Nat.reduceAdd, ↓reduceIte, reduceCtorEq, Int.reduceEq]
 refine fun _ => ⟨fun h0 => ?_, fun h0 => fin0 fun h => ?_⟩
 ·have AA : p.to = [] := List.length_eq_zero_iff.1 (by omega)
  refine ag (En hc hi hk mA) ?_
  rintro r H2 ⟨rfl, rfl⟩
  simp +contextual only [k2, Cv, lvun, decide_true, decide_false, Lg, e1, sZ, Nat.reduceEqDiff, Nat.reduceAdd, Nat.reduceLT, ↓reduceIte, Int.reduceEq]
  refine aI (Hr (c.kd i) (dq c i) (by omega)) ?_
  simp +contextual only [k2, sZ, Nat.reduceEqDiff, Nat.reduceAdd, Nat.reduceLT, ↓reduceIte]
  refine aI (Hr (c.kd k) (dq c i) (by omega)) ?_
  have opi : ph c i = c.O.pl (c.tm i).n := by rw [ph, if_pos ki2]
  have osi : dq c i = c.O.sp (c.O.pl (c.tm i).n) := by rw [dq, if_pos ki2]
  have hx : side (c.O.sp (c.O.pl (c.tm i).n)) (c.tm i).l = (bE (dq c i) (c.kd i)).map c.tm := by rw [← osi, ← ki.1, ji]
  have hy : side (c.O.sp (c.O.pl (c.tm i).n)) (c.tm k).l = (bE (dq c i) (c.kd k)).map c.tm := by rw [← osi, ← kk.1, ji]
  rw [hx, hy, WH (kd := c.kd k) kk.1] at hS
  have lx : (bE (dq c i) (c.kd i)).length = (c.kd i).length := jg
  have ly : (bE (dq c i) (c.kd k)).length = (c.kd k).length := jg
  have nx : ∀ z ∈ bE (dq c i) (c.kd i), c.dF z := fun z hz => ki.2 z (ol.1 hz)
  have ny : ∀ z ∈ bE (dq c i) (c.kd k), c.dF z := fun z hz => kk.2 z (ol.1 hz)
  generalize bE (dq c i) (c.kd i) = x at *
  generalize bE (dq c i) (c.kd k) = y at *
  have ix : IL (.aq 0 (ints x)) x := .inr rfl
  have iy : IL (.aq 0 (ints y)) y := .inr rfl
  cases hl : tv c i k with
  | false =>
    simp +contextual only [Bool.not_false, sZ, Nat.reduceEqDiff, ↓reduceIte, reduceCtorEq]
    exact fin0 fun h => by
     have := hS.1 h
     rw [jZ.2 ⟨ki2, this.2.1, this.2.2.1⟩] at hl
     cases hl
  | true =>
  have Ks := jZ.1 hl
  by_cases Ai : dq c i = 3
  ·have Z3 : (dq c i = 3) = True := eq_true Ai
   simp +contextual only [decide_true, Bool.not_true, Z3, sZ, Nat.reduceEqDiff, ↓reduceIte, reduceCtorEq]
   refine fin0 fun h => (hS.1 h).2.2.2.1 ?_
   rw [← osi]; exact Ai
  ·have HJ : (dq c i = 3) = False := eq_false Ai
   have lvun' : True := trivial
   by_cases hI : 0 ≤ p.i ∧ p.i < x.length ∧ p.i ≤ y.length
   ·have n1 : (p.i < 0) = False := eq_false (by omega)
    have n2 : ((x.length : Int) ≤ p.i) = False := eq_false (by omega)
    have n3 : ((y.length : Int) < p.i) = False := eq_false (by omega)
    simp +contextual only [Option.map_some, Option.map_none, C3, decide_false, Bool.not_true, HJ, n1, n2, n3, ix.aM, iy.aM, ix.vC, iy.vC, slT x p.i ⟨hI.1, by omega⟩, slT y p.i ⟨hI.1, by omega⟩, sZ, Nat.reduceEqDiff, Nat.reduceAdd, ↓reduceIte, reduceCtorEq]
    refine ag (Wa (SD.z3 c _) (.inr rfl : IL (.aq 0 (ints (x.take p.i.toNat))) (x.take p.i.toNat)) (.inr rfl : IL (.aq 0 (ints (y.take p.i.toNat))) (y.take p.i.toNat)) (by rw [List.length_take]; omega) (by rw [List.length_take]; omega) 79 [.ptr c.d 0] [] rfl rfl (Q := fun x y => E c.O (c.tm x) (c.tm y))
     (fun u hu v hv G hG => (jI hc (nx u (List.mem_of_mem_take hu)) (ny v (List.mem_of_mem_take hv)) G hG.1).mono fun r H' hr => hr.sb hG) ⟨mA, Up.refl c _⟩) ?_
    rintro r G ⟨z, rfl, hz, hG⟩
    have HZ : z = true ↔ ∀ j, j < p.i.toNat → E c.O (c.tm (x.getD j 0)) (c.tm (y.getD j 0)) := by
     rw [hz]
     have lt1 : (x.take p.i.toNat).length = p.i.toNat := by rw [List.length_take]; omega
     have lt2 : (y.take p.i.toNat).length = p.i.toNat := by rw [List.length_take]; omega
     rw [lt1, lt2]
     have et : ∀ (l : List Int) j, j < p.i.toNat → (l.take p.i.toNat).getD j 0 = l.getD j 0 := fun l j hj => by simp [List.getD_eq_getElem?_getD, hj]
     constructor
     ·rintro ⟨_, h⟩ j hj; have := h j hj; rwa [et _ _ hj, et _ _ hj] at this
     ·intro h; exact ⟨rfl, fun j hj => by rw [et _ _ hj, et _ _ hj]; exact h j hj⟩
    have finG : ∀ G' (b : Bool), Up c G G' → Du c G' → (b = true ↔ Sh c.O p (c.tm i) (c.tm k)) → bV H.length [.t 8] [(8, .bool b)] G' (ic c (Sh c.O p (c.tm i) (c.tm k)) H) := fun G' b u d hb => fin G' b (hG.2.trans u) d hb
    have finG0 : ¬ Sh c.O p (c.tm i) (c.tm k) → bV H.length [.t 8] [(8, .bool false)] G (ic c (Sh c.O p (c.tm i) (c.tm k)) H) :=
     fun h => finG _ _ (Up.refl c _) hG.1 ⟨fun h => by simp at h, fun h' => absurd h' h⟩
    have gq : G[H.length]? = some (.cells [bo (c.kd k)]) := by rw [hG.2.get H.length (by omega) (by omega)]; simp
    cases z with
    | false =>
      simp +contextual only [Bool.not_false, sZ, Nat.reduceEqDiff, ↓reduceIte, reduceCtorEq]
      exact finG0 fun h => absurd (HZ.2 (hS.1 h).2.2.2.2.2.1) (by simp)
    | true =>
      have hz1 := HZ.1 rfl
      by_cases he : p.i = y.length
      ·have n4 : (p.i = (y.length : Int)) = True := eq_true he
       simp +contextual only [C3, Kn, decide_true, Bool.not_true, iy.len (by omega), iy.aM, n4, sZ, Nat.reduceEqDiff, Nat.reduceAdd, ↓reduceIte, reduceCtorEq]
       refine ag (SN ik (by omega) (q := H.length) ⟨by omega, by omega⟩ (fun j h1 h2 => fJ _ (dQ h2) _ _ hi (kk.2 _ (aP h1))) hG.1 gq) ?_
       rintro r G' ⟨w, rfl, hw, hU, jb⟩
       simp +contextual only [sZ, ↓reduceIte, reduceCtorEq]
       refine finG G' w hU jb ?_
       rw [hw, hS]
       rw [if_pos he]
       rw [osi] at Ai
       exact ⟨fun h => ⟨AA, Ks.2.1, Ks.2.2, Ai, hI, hz1, h⟩, fun h => h.2.2.2.2.2.2⟩
      ·have n4 : (p.i = (y.length : Int)) = False := eq_false he
       rw [if_neg he] at hS
       cases uk : p.l with
       | nil =>
         have n5 : (0 < ((0 : Nat) : Int)) = False := eq_false (by simp)
         simp +contextual only [C3, Kn, eo, decide_false, Bool.not_true, iy.len (by omega), iy.aM, n4, uk, kK, n5, sZ, Nat.reduceEqDiff, ↓reduceIte, reduceCtorEq]
         exact finG0 fun h => by
          obtain ⟨q, r, e, _⟩ := (hS.1 h).2.2.2.2.2.2
          rw [uk] at e; cases e
       | cons q r =>
         have n5 : (0 < ((r.length + 1 : Nat) : Int)) = True := eq_true (by omega)
         have n6 : (q :: r).getD (0 : Int).toNat default = q := rfl
         obtain ⟨q1, q2, q3, q4, q5, q6, q7, q8, q9⟩ := aX q
         simp only [uk] at hS fJ
         simp +contextual only [C3, Kn, Af, qF, qG, eo, decide_true, decide_false, Bool.not_true, iy.len (by omega), iy.aM, n4, uk, kK, n5, n6, ix.idx, iy.idx, ix.lens, iy.lens, q4, sZ, Nat.reduceEqDiff, Nat.reduceAdd, ↓reduceIte, reduceCtorEq]
         refine ⟨by omega, by omega, by omega, ag (fJ q List.mem_cons_self _ _ (nx _ (aP (by omega))) (ny _ (aP (by omega))) G hG.1) ?_⟩
         rintro r' G2 ⟨w, rfl, hw, hU, Ay⟩
         cases w with
         | false =>
           simp +contextual only [sZ, Nat.reduceEqDiff, ↓reduceIte, reduceCtorEq]
           refine finG G2 false hU Ay ⟨fun h => by simp at h, fun h => ?_⟩
           obtain ⟨q', r', e, h', _⟩ := (hS.1 h).2.2.2.2.2.2
           cases e
           exact hw.2 h'
         | true =>
           have gq2 : G2[H.length]? = some (.cells [bo (c.kd k)]) := by rw [hU.get H.length (by omega) (by omega), gq]
           simp +contextual only [Option.map_some, Option.map_none, Kn, WB, uk, sZ, Nat.reduceEqDiff, Nat.reduceAdd, ↓reduceIte, reduceCtorEq]
           refine ag (SN ik (by omega) (q := H.length) ⟨by omega, by omega⟩ (fun j h1 h2 => fJ _ (List.mem_cons_of_mem _ (dQ h2)) _ _ hi (kk.2 _ (aP h1))) Ay gq2) ?_
           rintro r' G3 ⟨v, rfl, hv, Wf, Kb⟩
           simp +contextual only [sZ, Nat.reduceEqDiff, ↓reduceIte, reduceCtorEq]
           refine finG G3 v (hU.trans Wf) Kb ?_
           rw [hv, hS]
           rw [osi] at Ai
           constructor
           ·exact fun h => ⟨AA, Ks.2.1, Ks.2.2, Ai, hI, hz1, q, r, rfl, hw.1 rfl, h⟩
           ·rintro ⟨_, _, _, _, _, _, q', r', e, _, h⟩
            cases e
            exact h
   ·have bad : ¬ Sh c.O p (c.tm i) (c.tm k) := fun h => hI (hS.1 h).2.2.2.2.1
    by_cases m1' : p.i < 0
    ·have n1 : (p.i < 0) = True := eq_true m1'
     simp +contextual only [C3, decide_true, decide_false, Bool.not_true, HJ, n1, sZ, Nat.reduceEqDiff, ↓reduceIte, reduceCtorEq]
     exact fin0 bad
    ·have n1 : (p.i < 0) = False := eq_false m1'
     by_cases m2' : (x.length : Int) ≤ p.i
     ·have n2 : ((x.length : Int) ≤ p.i) = True := eq_true m2'
      simp +contextual only [C3, decide_true, decide_false, Bool.not_true, HJ, n1, n2, ix.aM, ix.vC, sZ, Nat.reduceEqDiff, ↓reduceIte, reduceCtorEq]
      exact fin0 bad
     ·have n2 : ((x.length : Int) ≤ p.i) = False := eq_false m2'
      have n3 : ((y.length : Int) < p.i) = True := eq_true (by omega)
      simp +contextual only [C3, decide_true, decide_false, Bool.not_true, HJ, n1, n2, n3, ix.aM, iy.aM, ix.vC, iy.vC, sZ, Nat.reduceEqDiff, ↓reduceIte, reduceCtorEq]
      exact fin0 bad
 ·rw [(hS.1 h).1] at h0; simp at h0
end Go.aL
end
section
set_option maxRecDepth 100000
namespace Go.aL
open Go Go.Proofs Go.fw
theorem c87 {c : Cx} (hc : c.Ok) : ∀ (N : Nat) (p : PP) (i k : Int), pz p ≤ N → c.dF i → c.dF k → iV c i k p := by
 intro N
 induction N with
 | zero => intro p i k h; have := Ad p; omega
 | succ N ih =>
 intro p i k hN hi hk
 have fJ : ∀ q ∈ p.l, ∀ x y, c.dF x → c.dF y → iV c x y q := fun q hq x y hx hy => ih q x y (by have := Ae hq; omega) hx hy
 by_cases h1 : p.r = 1
 ·exact WC hc hi hk fJ h1
 by_cases h2 : p.r = 2
 ·exact WD hc hi hk fJ h2
 by_cases h3 : p.r = 3
 ·exact WI hc hi hk fJ h3
 by_cases h4 : p.r = 4
 ·exact WE hc hi hk fJ h4
 exact WG hc hi hk fJ h1 h2 h3 h4
theorem SO {c : Cx} (hc : c.Ok) {p : PP} {i k : Int} (hi : c.dF i) (hk : c.dF k) : iV c i k p := c87 hc _ p i k (Nat.le_refl _) hi hk
open Classical in
noncomputable def CB (s : Sg) (ps ss : List Int) (a b : T) (p : PP) : Int := if gb s ps ss [a, b] = 0 then (if Sh (jO ps ss) p a b then 0 else 61) else gb s ps ss [a, b]
theorem c28 (s : Sg) (ps ss : List Int) (a b : T) (p : PP) : Pure Tryz.prog 28 [s.av, eE ps ss, a.av, b.av, dS p] (.int .i64 (CB s ps ss a b p)) := by
 refine fun H => k28.2.calls rfl ?_
 simp only [k28, aJ]
 obtain ⟨q1, q2, q3, q4, q5, q6⟩ := bh ps ss
 obtain ⟨p1, p2, p3, p4, p5, p6, p7, p8, p9⟩ := aX p
 simp +contextual only [aC, q1, q4, p1, cC, sZ, Nat.reduceEqDiff, Nat.reduceAdd, ↓reduceIte, reduceCtorEq]
 refine af (Wu s ps ss [a, b]) ?_
 by_cases h0 : gb s ps ss [a, b] = 0
 ·have hr := oe h0
  have hw := lY hr.tree
  have hc := hr.cx (by simp) (by simp) H.length
  have hd := yh ps ss (ts := [a, b]) (by simp) H
  simp +contextual only [q4, cC, h0, sZ, Nat.reduceEqDiff, Nat.reduceAdd, ↓reduceIte]
  refine ag (V5 ps ss [a, b] H (by simp at hw; omega)) ?_
  rintro r G ⟨rfl, rfl⟩
  have a0 := sW (ps := ps) (ss := ss) (ts := [a, b]) (n := H.length) (j := 0) (by simp)
  have a1 := sW (ps := ps) (ss := ss) (ts := [a, b]) (n := H.length) (j := 1) (by simp)
  have hl := cu [a, b] 0
  rw [NY]
  generalize aU [a, b] 0 = ks at a0 a1 hl ⊢
  have nJ : ks.length = 2 := hl
  simp +contextual only [cw, nJ, dx, qG, p4, sZ, Nat.reduceEqDiff, Nat.reduceAdd, Nat.reduceLT, ↓reduceIte, reduceCtorEq]
  refine ⟨by decide, by decide, ag (SO hc a0.1 a1.1 _ hd) ?_⟩
  rintro r G ⟨x, rfl, hx, hU, hD⟩
  rw [a0.2, a1.2] at hx
  have sk : x = true ↔ Sh (jO ps ss) p a b := hx
  have WJ := hU.low (by simp [fZ]) (by simp [fZ])
  cases x with
  | true =>
    simp +contextual only [Bool.not_true, sZ, ↓reduceIte, reduceCtorEq]
    exact NC WJ rfl rfl ⟨by rw [CB, if_pos h0, if_pos (sk.1 rfl)], rfl⟩
  | false =>
    simp +contextual only [Bool.not_false, sZ, ↓reduceIte, reduceCtorEq]
    exact NC WJ rfl rfl ⟨by rw [CB, if_pos h0, if_neg (fun h => absurd (sk.2 h) (by simp))], rfl⟩
 ·simp +contextual only [h0, sZ, Nat.reduceEqDiff, ↓reduceIte, reduceCtorEq]
  exact a9 rfl (by rw [CB, if_neg h0])
end Go.aL
end
section
set_option maxRecDepth 100000
set_option maxHeartbeats 0
namespace Go.aL
open Go Go.Proofs
noncomputable def CC := aJ Tryz.call86 Tryz.func86 Tryz.ntmps86 [(0,0,1),(0,1,1),(3,6,2000),(8,2,2000),(9,7,2000),(10,7,2000),(10,8,1),(10,10,1),(13,3,2000),(16,3,1000),(19,3,2000),(20,9,2000),(21,1,1),(21,6,1),(21,11,1),(21,13,1),(27,3,2000),(29,1,1),(29,13,2000),(29,17,1),(33,1,1),(33,5,2000),(33,9,1)] [(0,[1,3,5,6]),(1,[1,3,5,6,7,8]),(2,[1,3,5,6,7,8,9]),(3,[1,3,5,6,7,8,9,47]),(4,[1,3,5,6,7,8,9]),(5,[1,3,5,6,7,8,9,10]),(6,[1,3,5,6,7,8,10,52]),(7,[1,3,5,6,7,8,10,52,53]),(8,[3,5,6,7,10]),(9,[3,5,6,7,10,67]),(10,[6,10]),(11,[6]),(12,[1,3,6,7,8,10,52,79]),(13,[3,6,7,8,10,11,13]),(14,[3,6,7,8,10,11,89,90,91]),(15,[3,6,7,8,10,11,89,90,91,92]),(16,[3,6,7,8,10,11,14,15,89,90,91]),(17,[3,6,7,8,10,11,14,15,16,89,90,91]),(18,[3,6,7,8,10,11,14,15,16,89,90,91,97]),(19,[3,6,7,8,10,11,14,15,16,89,90,91]),(20,[3,6,7,8,10,11,15,16,89,90,91]),(21,[3,6,7,8,10,11,89,90,91]),(22,[3,6,7,8,10,11,89,90,91]),(23,[6]),(24,[1,3,6,7,8,10,128]),(25,[1,3,6,7,8,10,18]),(26,[1,3,6,8,10,20,21]),(27,[1,3,6,8,10,20,21]),(28,[1,3,6,8,10,20,21,152]),(29,[1,3,6,8,10]),(30,[1,3,6,10,170,171,172]),(31,[1,3,6,10,170,171,172,173]),(32,[1,3,6,10,23,170,171,172]),(33,[1,3,6,10,170,171,172]),(34,[1,3,6,10,170,171,172]),(35,[6])] [(1,(.take 0 true (.take 1 true (.take 2 true (.take 3 true (.take 4 true (.take 5 true (.take 6 true (.take 7 true (.take 8 false (.take 9 false (.take 10 false (.take 12 false (.br 11 (.take 13 false (.take 14 false (.take 15 false (.br 16 (.br 17 (.br 18 (.br 19 .done .nil) .nil) .nil) (.br 17 (.br 16 (.br 18 (.br 19 .done .nil) .nil) .nil) .nil))))) (.br 16 (.br 11 (.take 13 false (.take 14 false (.take 15 false (.br 17 (.br 18 (.br 19 .done .nil) .nil) .nil)))) (.br 17 (.br 11 (.take 13 false (.take 14 false (.take 15 false (.br 18 (.br 19 .done .nil) .nil)))) (.br 18 (.take 11 true (.take 13 true (.take 14 true (.take 15 true (.br 19 .done .nil))))) .nil)) .nil)) (.br 17 (.br 11 (.take 13 false (.take 14 false (.take 15 false (.br 16 (.br 18 (.br 19 .done .nil) .nil) .nil)))) (.br 16 (.br 11 (.take 13 false (.take 14 false (.take 15 false (.br 18 (.br 19 .done .nil) .nil)))) (.br 18 (.take 11 true (.take 13 true (.take 14 true (.take 15 true (.br 19 .done .nil))))) .nil)) .nil)) .nil)))))))))))))))),(3,(.take 0 true (.take 1 true (.take 2 true (.take 3 true (.take 4 true (.take 5 true (.br 6 (.take 7 true .done) .nil)))))))),(9,(.take 0 true (.take 1 true (.take 2 true (.take 3 true (.take 4 true (.take 5 true (.take 6 true (.br 7 (.take 8 true .done) .nil))))))))),(10,(.take 0 true (.take 1 true (.take 2 true (.take 3 true (.take 4 true (.take 5 true (.take 6 true (.br 7 (.take 8 true (.take 9 true (.br 10 .done .nil))) .nil))))))))),(20,(.take 0 true (.take 1 true (.take 2 true (.take 3 true (.take 4 true (.take 5 true (.take 6 true (.take 7 true (.take 8 true (.br 9 (.br 10 .done .nil) .nil))))))))))),(21,(.take 0 false (.take 2 false (.take 3 false (.take 5 false (.br 1 (.br 4 (.br 6 (.take 7 true (.take 8 true (.take 10 true (.br 9 (.br 11 (.take 12 true (.br 13 .done .nil)) .nil) .nil)))) (.br 7 (.take 8 false (.br 6 (.take 10 true (.br 9 (.br 11 (.take 12 true (.br 13 .done .nil)) .nil) .nil)) .nil)) .nil)) (.br 6 (.take 7 true (.take 8 true (.br 4 (.take 10 true (.br 9 (.br 11 (.take 12 true (.br 13 .done .nil)) .nil) .nil)) .nil))) (.br 7 (.take 8 false (.br 4 (.br 6 (.take 10 true (.br 9 (.br 11 (.take 12 true (.br 13 .done .nil)) .nil) .nil)) .nil) (.br 6 (.br 4 (.take 10 true (.br 9 (.br 11 (.take 12 true (.br 13 .done .nil)) .nil) .nil)) .nil) .nil))) .nil))) (.br 6 (.br 1 (.take 7 true (.take 8 true (.br 4 (.take 10 true (.br 9 (.br 11 (.take 12 true (.br 13 .done .nil)) .nil) .nil)) .nil))) (.br 7 (.take 8 false (.br 1 (.br 4 (.take 10 true (.br 9 (.br 11 (.take 12 true (.br 13 .done .nil)) .nil) .nil)) .nil) .nil)) .nil)) (.br 7 (.take 8 false (.br 1 (.br 4 (.br 6 (.take 10 true (.br 9 (.br 11 (.take 12 true (.br 13 .done .nil)) .nil) .nil)) .nil) (.br 6 (.br 4 (.take 10 true (.br 9 (.br 11 (.take 12 true (.br 13 .done .nil)) .nil) .nil)) .nil) .nil)) (.br 6 (.br 1 (.br 4 (.take 10 true (.br 9 (.br 11 (.take 12 true (.br 13 .done .nil)) .nil) .nil)) .nil) .nil) .nil))) .nil)))))))),(26,(.take 0 true (.take 1 true (.take 2 true (.take 3 true (.take 4 true (.take 5 true (.take 6 true (.take 7 true .done))))))))),(29,(.take 0 false (.take 2 false (.take 3 false (.take 4 false (.take 8 false (.take 9 false (.br 1 (.take 5 true (.take 6 true (.take 7 true (.take 10 true (.take 11 true (.take 12 true (.br 13 (.take 14 true (.br 15 (.take 16 true (.br 17 .done .nil)) .nil)) .nil))))))) (.br 5 (.take 6 false (.take 7 false (.br 1 (.take 10 true (.take 11 true (.take 12 true (.br 13 (.take 14 true (.br 15 (.take 16 true (.br 17 .done .nil)) .nil)) .nil)))) (.br 10 (.take 11 false (.take 12 false (.br 1 (.br 13 (.take 14 true (.br 15 (.take 16 true (.br 17 .done .nil)) .nil)) .nil) (.br 13 (.take 14 false (.br 1 (.br 15 (.take 16 true (.br 17 .done .nil)) .nil) .nil)) .nil)))) .nil)))) (.br 10 (.take 11 false (.take 12 false (.br 1 (.take 5 true (.take 6 true (.take 7 true (.br 13 (.take 14 true (.br 15 (.take 16 true (.br 17 .done .nil)) .nil)) .nil)))) (.br 5 (.take 6 false (.take 7 false (.br 1 (.br 13 (.take 14 true (.br 15 (.take 16 true (.br 17 .done .nil)) .nil)) .nil) (.br 13 (.take 14 false (.br 1 (.br 15 (.take 16 true (.br 17 .done .nil)) .nil) .nil)) .nil)))) .nil)))) .nil)))))))))),(33,(.take 0 false (.take 2 false (.take 3 false (.take 4 false (.br 1 (.br 5 (.take 6 true (.br 7 (.take 8 true (.br 9 .done .nil)) .nil)) .nil) (.br 5 (.take 6 false (.br 1 (.br 7 (.take 8 true (.br 9 .done .nil)) .nil) .nil)) .nil)))))))]
end Go.aL
end
section
set_option maxRecDepth 100000
namespace Go.aL
open Go Go.Proofs Go.fw
def ox (l : List PP) : AV := match l with | [] => .ah | _ :: _ => .aq 4 (dR l)
def sY (l : List Int) : AV := match l with | [] => .ah | _ :: _ => .aq 1 (ints l)
theorem gX (l : List PP) : (ox l).val = true ∧ (ox l).cells = [ox l] ∧ (ox l).one = true ∧ (∀ n, (ox l).aZ n = true) ∧ (ox l).drop = .aq 0 (dR l) ∧ ∀ n, (ox l).ae.aZ n = true := by
 cases l with
 | nil => exact ⟨rfl, rfl, rfl, fun _ => rfl, rfl, fun _ => rfl⟩
 | cons x r => exact ⟨rfl, rfl, rfl, fun n => by rw [ox, cR]; exact iw _ _, rfl, fun n => by rw [ox, vg, cR]; exact iw _ _⟩
theorem kX (l : List Int) : (sY l).val = true ∧ (sY l).cells = [sY l] ∧ (sY l).one = true ∧ (∀ n, (sY l).aZ n = true) ∧ (sY l).drop = .aq 0 (ints l) ∧ ∀ n, (sY l).ae.aZ n = true := by
 cases l with
 | nil => exact ⟨rfl, rfl, rfl, fun _ => rfl, rfl, fun _ => rfl⟩
 | cons x r => exact ⟨rfl, rfl, rfl, fun n => by rw [sY, cR]; exact bj _ _, rfl, fun n => by rw [sY, vg, cR]; exact bj _ _⟩
theorem Kt (a b : List PP) : dR (a ++ b) = dR a ++ dR b := by simp [kW]
theorem CD (l : List PP) (q : PP) (h : l.length < 1000000000) (o : Nat) (ψ : List AV → Prop) : bF 4 64 (ox l) (.aq o [dS q]) ψ = ψ (dR (l ++ [q])) := by
 have jN : tb 4 [dS q] := of_eq_true (SL [q])
 rw [Kt]
 cases l with
 | nil => rw [ox, nX]; simp [jN, dR]
 | cons x r =>
   rw [ox, m9, eo]
   have e : dR [q] = [dS q] := rfl
   rw [e]
   simp only [jN, List.length_cons, List.length_nil, true_and, eq_iff_iff]
   simp only [List.length_cons] at h
   exact ⟨fun h => h.2, fun k => ⟨by omega, k⟩⟩
theorem Pz (l : List Int) (q : Int) (h : l.length < 1000000000) (o : Nat) (ψ : List AV → Prop) : bF 1 8 (sY l) (.aq o [.int .i64 q]) ψ = ψ (ints (l ++ [q])) := by
 have jN : tb 1 [AV.int .i64 q] := of_eq_true (lQ [q])
 have e : ints [q] = [AV.int .i64 q] := rfl
 cases l with
 | nil => rw [sY, nX]; simp [jN, ints]
 | cons x r =>
   rw [sY, m9, aw, ← kR, e]
   simp only [jN, List.length_cons, List.length_nil, true_and, eq_iff_iff]
   simp only [List.length_cons] at h
   exact ⟨fun h => h.2, fun k => ⟨by omega, k⟩⟩
theorem jj (q : PP) : aT (dS q) = dS q := by rw [nA]; rfl
theorem qH (l : List PP) (q : PP) : AV.aq 4 (dR (l ++ [q])) = ox (l ++ [q]) := by cases l <;> rfl
theorem CE (l : List Int) (q : Int) : AV.aq 1 (ints (l ++ [q])) = sY (l ++ [q]) := by cases l <;> rfl
theorem d3 {α : Type} (x y z u d : α) (r : List α) : (x :: y :: z :: u :: r).getD 3 d = u := by simp
theorem s3 {α : Type} (x y z w u : α) (r : List α) : (x :: y :: z :: w :: r).set 3 u = x :: y :: z :: u :: r := by simp
theorem SP (a b c d y : AV) : ai [a, b, c, d] 1 [y] = [a, y, c, d] := by simp [ai]
theorem HK (a b c d x y z u : AV) : ai [a, b, c, d] 0 [x, y, z, u] = [x, y, z, u] := by simp [ai]
theorem PD (r i : Int) (to : List Int) (l : List PP) (φ : AV → Prop) : db (some (.cells [.int .i64 r, .int .i64 i, sY to, ox l])) (some 4) 0 φ = φ (dS (.mk r i to l)) := by
 have e : List.map AV.drop [AV.int .i64 r, .int .i64 i, sY to, ox l] = [.int .i64 r, .int .i64 i, .aq 0 (ints to), .aq 0 (dR l)] := by
  simp only [List.map_cons, List.map_nil, (gX l).2.2.2.2.1, (kX to).2.2.2.2.1]; rfl
 simp only [db, List.drop_zero, List.length_cons, List.length_nil, List.take_succ_cons, List.take_zero, e, dS]
 simp
def WK (c : Cx) (i k : Int) (H : List aa) (r : AV) (H' : List aa) : Prop := ∃ p, r = dS p ∧ Sh c.O p (c.tm i) (c.tm k) ∧ Up c H H' ∧ Du c H'
def oz (c : Cx) (i k : Int) : Prop := ∀ H, Du c H → au Tryz.prog 86 [.ptr c.d 0, .int .i64 i, .int .i64 k] H (WK c i k H)
structure PB (c : Cx) (H : List aa) (x y : Nat) (i k : Int) (es : List AV) (G : List aa) : Prop where
 du : Du c G
 gx : G[x]? = some (.cells [bo (c.kd i)])
 gy : G[y]? = some (.cells [bo (c.kd k)])
 g6 : G[H.length]? = some (.cells [.int .i64 0, .int .i64 0, .ah, .ah])
 gp : G[H.length + 3]? = some (.cells es)
 len : G.length = H.length + 4
 up : ∀ j, j < H.length → j ≠ c.e → j ≠ c.g → G[j]? = H[j]?
structure XY (H : List aa) (x y : Nat) : Prop where
 x1 : H.length < x
 x2 : x < H.length + 3
 y1 : H.length < y
 y2 : y < H.length + 3
theorem PB.call {c : Cx} {H G G' : List aa} {x y : Nat} {i k : Int} {es : List AV} (hD : Du c H) (w : XY H x y) (h : PB c H x y i k es G) (hU : Up c G G') (jb : Du c G') : PB c H x y i k es G' := by
 obtain ⟨l1, l2, l3⟩ := hD.lt
 obtain ⟨w1, w2, w3, w4⟩ := w
 exact ⟨jb, by rw [hU.get x (by omega) (by omega), h.gx], by rw [hU.get y (by omega) (by omega), h.gy], by rw [hU.get _ (by omega) (by omega), h.g6], by rw [hU.get _ (by omega) (by omega), h.gp], by rw [hU.len, h.len], fun j h1 h2 h3 => by rw [hU.get j h2 h3, h.up j h1 h2 h3]⟩
theorem PB.set {c : Cx} {H G : List aa} {x y : Nat} {i k : Int} {es es' : List AV} (hD : Du c H) (w : XY H x y) (h : PB c H x y i k es G) : PB c H x y i k es' (G.set (H.length + 3) (.cells es')) := by
 obtain ⟨l1, l2, l3⟩ := hD.lt
 obtain ⟨w1, w2, w3, w4⟩ := w
 have hp := aN h.gp
 exact ⟨h.du.set (by omega) (by omega) (by omega), by rw [List.getElem?_set_ne (by omega), h.gx], by rw [List.getElem?_set_ne (by omega), h.gy], by rw [List.getElem?_set_ne (by omega), h.g6], by rw [List.getElem?_set_self hp], by rw [List.length_set, h.len], fun j h1 h2 h3 => by rw [List.getElem?_set_ne (by omega), h.up j h1 h2 h3]⟩
theorem Z4 {c : Cx} {k x : Int} (h1 : jY c x k) (h2 : gN c x k) {H : List aa} (hD : Du c H) : au Tryz.prog 147 [.int .i64 x, .aj (.ptr c.d 0), .aj (.int .i64 k)] H (ic c (E c.O (c.tm x) (c.tm k) ∨ R c.O (c.tm x) (c.tm k)) H) := by
 refine UC.2.calls rfl ?_
 simp only [UC, aJ]
 simp +contextual only [sZ, Nat.reduceEqDiff, Nat.reduceAdd, ↓reduceIte, reduceCtorEq]
 refine ag (h1 H hD) ?_
 rintro r H' ⟨b, rfl, hb, hU, jb⟩
 cases b with
 | true =>
   simp +contextual only [sZ, Nat.reduceEqDiff, ↓reduceIte, reduceCtorEq]
   exact dZ rfl ⟨fun _ => .inl (hb.1 rfl), fun _ => rfl⟩ hU jb
 | false =>
   simp +contextual only [sZ, Nat.reduceEqDiff, Nat.reduceAdd, ↓reduceIte, reduceCtorEq]
   refine ag (h2 H' jb) ?_
   rintro r H2 ⟨z, rfl, hz, Pq, Ay⟩
   simp +contextual only [sZ, Nat.reduceEqDiff, ↓reduceIte, reduceCtorEq]
   refine dZ rfl ⟨fun h => .inr (hz.1 h), fun h => hz.2 (h.resolve_left fun h => absurd (hb.2 h) (by simp))⟩ (hU.trans Pq) Ay
theorem Z5 {c : Cx} {a b : List Int} {va vb : AV} (ha : IL va a) (hb : IL vb b) {p q : Nat} {x y : Int} (hx : 0 ≤ x ∧ x < a.length) (hy : 0 ≤ y ∧ y < b.length) (h : gN c (a.getD x.toNat 0) (b.getD y.toNat 0)) {G : List aa} (hD : Du c G) (gp : G[p]? = some (.cells [va])) (gq : G[q]? = some (.cells [vb])) :
 au Tryz.prog 148 [.int .i64 x, .aj (.ptr c.d 0), .ptr p 0, .ptr q 0, .aj (.int .i64 y)] G (ic c (R c.O (c.tm (a.getD x.toNat 0)) (c.tm (b.getD y.toNat 0))) G) := by
 refine UD.2.calls rfl ?_
 simp only [UD, aJ]
 obtain ⟨a1, a2, a3, a4⟩ := ha.one
 obtain ⟨b1, b2, b3, b4⟩ := hb.one
 simp +contextual only [gp, gq, a2, b2, ha.lens, hb.lens, ha.idx, hb.idx, sZ, Nat.reduceEqDiff, Nat.reduceAdd, Nat.reduceLT, ↓reduceIte, reduceCtorEq]
 refine ⟨hx, hy, ag (h G hD) ?_⟩
 rintro r G' ⟨z, rfl, hz, hU, jb⟩
 simp +contextual only [sZ, ↓reduceIte, reduceCtorEq]
 exact dZ rfl hz hU jb
def PE : IR := (.loop (.seq (.region [⟨none,some 173,(.bin .lss (.t 172) (.t 171))⟩] (.some [1,3,6,10,170,171,172,173])) (.seq (.cond (.t 173) .skip (.exit 5)) (.seq (.block 6 (.seq (.region [⟨none,some 174,(.indexAddr 1 (.t 170) (.t 172))⟩,⟨none,some 175,(.load .none (.t 174))⟩,⟨none,some 23,(.set (.t 175) false)⟩] (.some [1,3,6,10,23,170,171,172])) (.draw (.take .false ⟨none,some 176,(.fieldAddr 3 .none (.t 10))⟩ (.take .false ⟨none,some 178,(.load .none (.t 3))⟩ (.take .false ⟨none,some 179,(.set (.t 1) false)⟩ (.take .false ⟨none,some 180,(.set (.t 23) false)⟩ (.br ⟨none,some 177,(.ee (.t 176))⟩ (.br ⟨none,some 181,(.call (.c (.fn (.func 86) [] [])) [(.t 178),(.t 179),(.t 180)] (.some 1999))⟩ (.take .true ⟨none,some 182,(.buildSlice 0 4 (.agg [(.int .i64 0),(.int .i64 0),.ah,.ah]) 1 [(0,(.t 181))])⟩ (.br ⟨none,some 183,(.append 4 64 (.t 177) (.t 182))⟩ (.take .true ⟨none,some 184,(.fieldAddr 3 .none (.t 10))⟩ (.br ⟨none,none,(.eU (.t 184) 183)⟩ .done .nil)) .nil)) .nil) (.br ⟨none,some 181,(.call (.c (.fn (.func 86) [] [])) [(.t 178),(.t 179),(.t 180)] (.some 1999))⟩ (.take .false ⟨none,some 182,(.buildSlice 0 4 (.agg [(.int .i64 0),(.int .i64 0),.ah,.ah]) 1 [(0,(.t 181))])⟩ (.br ⟨none,some 177,(.ee (.t 176))⟩ (.br ⟨none,some 183,(.append 4 64 (.t 177) (.t 182))⟩ (.take .true ⟨none,some 184,(.fieldAddr 3 .none (.t 10))⟩ (.br ⟨none,none,(.eU (.t 184) 183)⟩ .done .nil)) .nil) .nil)) .nil)))))) (.some [1,3,6,10,170,171,172])))) (.region [⟨none,some 185,(.bin .add (.t 172) (.c (.int .i64 1)))⟩,⟨none,some 172,(.set (.t 185) false)⟩] (.some [1,3,6,10,170,171,172]))))))
theorem Ez {c : Cx} {H : List aa} (hD : Du c H) {x y : Nat} (w : XY H x y) {i k : Int} {rl at' : Int} {l0 : List PP} (ER : l0.length ≤ 1) {b : List Int} {vb : AV} (hb : IL vb b) (lb : b.length ≤ 100000000) (hp : ∀ z ∈ b, oz c i z) {G : List aa} (h : PB c H x y i k [.int .i64 rl, .int .i64 at', .ah, ox l0] G) :
 k8 ⟨Tryz.prog, none⟩ H.length PE [(1, .int .i64 i), (3, .aj (.ptr c.d 0)), (6, .ptr H.length 0), (10, .ptr (H.length + 3) 0), (170, vb), (171, .int .i64 b.length), (172, .int .i64 0)] G fun e aE G' =>
  e = .exit 5 ∧ get aE 6 = .ptr H.length 0 ∧ get aE 10 = .ptr (H.length + 3) 0 ∧ ∃ qs, kV (Sh c.O) qs (c.tm i) (b.map c.tm) ∧ PB c H x y i k [.int .i64 rl, .int .i64 at', .ah, ox (l0 ++ qs)] G' := by
 obtain ⟨b1, b2, b3, b4⟩ := hb.one
 unfold PE
 refine aO b.length (fun j (s : List aa × List PP) => PB c H x y i k [.int .i64 rl, .int .i64 at', .ah, ox (l0 ++ s.2)] s.1 ∧ s.2.length = j ∧ ∀ j', j' < j → Sh c.O (s.2.getD j' default) (c.tm i) (c.tm (b.getD j' 0)))
  (fun j s => [(1, .int .i64 i), (3, .aj (.ptr c.d 0)), (6, .ptr H.length 0), (10, .ptr (H.length + 3) 0), (170, vb), (171, .int .i64 b.length), (172, .int .i64 j)]) (fun j s => s.1) (G, []) ⟨⟨by rw [List.append_nil]; exact h, rfl, fun j h => by omega⟩, aB _ _ _⟩ fun j s hj hI => ?_
 obtain ⟨G, qs⟩ := s
 obtain ⟨kv, hlen, PW⟩ := hI
 simp only at kv hlen PW
 by_cases Kq : (j : Int) < b.length
 ·have py : j < b.length := by omega
  have gp := kv.gp
  have hl : (l0 ++ qs).length < 1000000000 := by rw [List.length_append]; omega
  have mB := fun es => kv.set (es' := es) hD w
  simp +contextual only [Kq, decide_true, hb.lens, hb.idx, Int.toNat_natCast, gp, d3, s3, sZ, Nat.reduceEqDiff, Nat.reduceAdd, Nat.reduceLT, ↓reduceIte, reduceCtorEq]
  have fin : ∀ (q : PP) (G' : List aa), Sh c.O q (c.tm i) (c.tm (b.getD j 0)) → PB c H x y i k [.int .i64 rl, .int .i64 at', .ah, ox (l0 ++ (qs ++ [q]))] G' → ∃ (j' : Nat) (t : List aa × List PP), (j' ≤ b.length ∧ PB c H x y i k [.int .i64 rl, .int .i64 at', .ah, ox (l0 ++ t.2)] t.1 ∧ t.2.length = j' ∧ ∀ j'', j'' < j' → Sh c.O (t.2.getD j'' default) (c.tm i) (c.tm (b.getD j'' 0))) ∧ b.length - j' < b.length - j ∧
   sle H.length [(1, .int .i64 i), (3, .aj (.ptr c.d 0)), (6, .ptr H.length 0), (10, .ptr (H.length + 3) 0), (170, vb), (171, .int .i64 b.length), (172, .int .i64 (IntKind.i64.wrap (j + 1)))] G' [(1, .int .i64 i), (3, .aj (.ptr c.d 0)), (6, .ptr H.length 0), (10, .ptr (H.length + 3) 0), (170, vb), (171, .int .i64 b.length), (172, .int .i64 j')] t.1 := by
   intro q G' hq Z6
   refine ⟨j + 1, (G', qs ++ [q]), ⟨py, Z6, by simp [hlen], fun j'' aeg => ?_⟩, by omega, aH (by rw [ax j (by omega)]) rfl⟩
   by_cases e : j'' = j
   ·subst e
    have : (qs ++ [q]).getD j'' default = q := by rw [← hlen]; simp
    rw [this]; exact hq
   ·have : (qs ++ [q]).getD j'' default = qs.getD j'' default := by
     rw [List.getD_eq_getElem?_getD, List.getD_eq_getElem?_getD, List.getElem?_append_left (by omega)]
    rw [this]; exact PW j'' (by omega)
  refine ⟨by omega, ?_, ?_⟩
  ·refine ag (hp _ (aP py) _ (mB _).du) ?_
   rintro r G2 ⟨q, rfl, hq, hU, Ay⟩
   have Ku := (mB _).call hD w hU Ay
   have gp2 := Ku.gp
   have Aj := fun es => Ku.set (es' := es) hD w
   obtain ⟨q1, q2, q3, q4, q5, q6, q7, q8, q9⟩ := aX q
   obtain ⟨v1, v2, v3, v4, v5, v6⟩ := gX (l0 ++ (qs ++ [q]))
   simp +contextual only [q1, q2, jj, CD _ _ hl, gp2, s3, List.append_assoc, sZ, Nat.reduceEqDiff, Nat.reduceAdd, Nat.reduceLT, ↓reduceIte]
   have el : AV.aq 4 (dR (l0 ++ (qs ++ [q]))) = ox (l0 ++ (qs ++ [q])) := by rw [← List.append_assoc]; exact qH _ _
   rw [el]
   exact ⟨iw _ _, fin q _ hq (Aj _)⟩
  ·refine ag (hp _ (aP py) _ kv.du) ?_
   rintro r G2 ⟨q, rfl, hq, hU, Ay⟩
   have Ku := kv.call hD w hU Ay
   have gp2 := Ku.gp
   have Aj := fun es => Ku.set (es' := es) hD w
   have gp3 := fun es => (Aj es).gp
   have vQ := fun es es' => (Aj es).set (es' := es') hD w
   obtain ⟨q1, q2, q3, q4, q5, q6, q7, q8, q9⟩ := aX q
   obtain ⟨v1, v2, v3, v4, v5, v6⟩ := gX (l0 ++ (qs ++ [q]))
   simp +contextual only [q1, q2, jj, CD _ _ hl, gp2, gp3, d3, s3, List.append_assoc, sZ, Nat.reduceEqDiff, Nat.reduceAdd, Nat.reduceLT, ↓reduceIte]
   have el : AV.aq 4 (dR (l0 ++ (qs ++ [q]))) = ox (l0 ++ (qs ++ [q])) := by rw [← List.append_assoc]; exact qH _ _
   rw [el]
   exact ⟨iw _ _, fin q _ hq (vQ _ _)⟩
 ·have e : j = b.length := by omega
  simp +contextual only [Kq, decide_false, sZ, Nat.reduceEqDiff, ↓reduceIte]
  refine ⟨qs, ⟨by rw [hlen, e, List.length_map], fun j' tV => ?_⟩, kv⟩
  rw [List.length_map] at tV
  rw [cb tV]; exact PW j' (by omega)
end Go.aL
end
