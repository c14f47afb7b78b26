/- SigOrder. -/
import Derived.Test.YtcfmgncmkbiknaaY04w
import Derived.Test.YtcfmgncmkbiknaaY04s
set_option maxRecDepth 100000
set_option linter.unusedSimpArgs false
namespace Go.Abs
open Go Go.Proofs

theorem icmp_anti (a b : Int) : icmp b a = - icmp a b := by unfold icmp; split <;> split <;> (try split) <;> omega
theorem icmp_range (a b : Int) : icmp a b = -1 ∨ icmp a b = 0 ∨ icmp a b = 1 := by unfold icmp; split <;> (try split) <;> omega
theorem icmp_zero (a b : Int) : icmp a b = 0 ↔ a = b := by unfold icmp; split <;> (try split) <;> omega
theorem icmp_trans {a b c : Int} (h1 : icmp a b ≤ 0) (h2 : icmp b c ≤ 0) : icmp a c ≤ 0 ∧ (icmp a c = 0 → icmp a b = 0 ∧ icmp b c = 0) := by
  unfold icmp at *; repeat' split at h1
  all_goals repeat' split at h2
  all_goals (first | omega | (repeat' split) <;> omega)
/-- One after the other. -/
def thn (a b : Int) : Int := if a ≠ 0 then a else b
theorem cmp_eq (a b : T) : a.cmp b = thn (icmp a.k b.k) (thn (icmp a.n b.n) (thn (icmp a.l.length b.l.length) (cmps a.l b.l))) := by
  cases a; cases b
  simp only [T.cmp, orL, T.k, T.n, T.l, thn]
  repeat' split
  all_goals first | rfl | simp_all
theorem cmps_cons (x y : T) (r s : List T) : cmps (x :: r) (y :: s) = thn (x.cmp y) (cmps r s) := by simp only [cmps, thn]
theorem thn_neg {a b c d : Int} (h1 : a = -c) (h2 : b = -d) : thn a b = - thn c d := by unfold thn; repeat' split <;> omega
theorem thn_range {a b : Int} (h1 : a = -1 ∨ a = 0 ∨ a = 1) (h2 : b = -1 ∨ b = 0 ∨ b = 1) : thn a b = -1 ∨ thn a b = 0 ∨ thn a b = 1 := by unfold thn; split <;> assumption
theorem thn_zero {a b : Int} : thn a b = 0 ↔ a = 0 ∧ b = 0 := by unfold thn; split <;> omega
/-- What three comparisons have to do with each other. -/
def tri (x y z : Int) : Prop := x ≤ 0 → y ≤ 0 → z ≤ 0 ∧ (z = 0 → x = 0 ∧ y = 0)
theorem tri_thn {x y z x' y' z' : Int} (h : tri x y z) (hz : x = 0 → y = 0 → z = 0) (h' : tri x' y' z') : tri (thn x x') (thn y y') (thn z z') := by
  unfold tri thn at *
  intro h1 h2
  repeat' split at h1
  all_goals repeat' split at h2
  all_goals repeat' split
  all_goals omega
mutual
theorem T.cmp_anti : ∀ a b : T, b.cmp a = - a.cmp b
  | .mk k n l, .mk k' n' l' => by
    rw [cmp_eq, cmp_eq]
    exact thn_neg (icmp_anti _ _) (thn_neg (icmp_anti _ _) (thn_neg (icmp_anti _ _) (cmps_anti l l')))
theorem cmps_anti : ∀ l m : List T, cmps m l = - cmps l m
  | [], [] => by simp [cmps]
  | [], _ :: _ => by simp [cmps]
  | _ :: _, [] => by simp [cmps]
  | x :: r, y :: s => by rw [cmps_cons, cmps_cons]; exact thn_neg (T.cmp_anti x y) (cmps_anti r s)
end
mutual
theorem T.cmp_range : ∀ a b : T, a.cmp b = -1 ∨ a.cmp b = 0 ∨ a.cmp b = 1
  | .mk k n l, .mk k' n' l' => by
    rw [cmp_eq]
    exact thn_range (icmp_range _ _) (thn_range (icmp_range _ _) (thn_range (icmp_range _ _) (cmps_range l l')))
theorem cmps_range : ∀ l m : List T, cmps l m = -1 ∨ cmps l m = 0 ∨ cmps l m = 1
  | [], [] => by simp [cmps]
  | [], _ :: _ => by simp [cmps]
  | _ :: _, [] => by simp [cmps]
  | x :: r, y :: s => by rw [cmps_cons]; exact thn_range (T.cmp_range x y) (cmps_range r s)
end
mutual
theorem T.cmp_zero : ∀ a b : T, a.cmp b = 0 ↔ a = b
  | .mk k n l, .mk k' n' l' => by
    rw [cmp_eq, thn_zero, thn_zero, thn_zero, icmp_zero, icmp_zero, icmp_zero]
    simp only [T.k, T.n, T.l, T.mk.injEq]
    rw [cmps_zero l l']
    constructor
    · rintro ⟨h1, h2, h3, h4⟩; exact ⟨h1, h2, h4⟩
    · rintro ⟨h1, h2, h4⟩; exact ⟨h1, h2, by rw [h4], h4⟩
theorem cmps_zero : ∀ l m : List T, cmps l m = 0 ↔ l = m
  | [], [] => by simp [cmps]
  | [], _ :: _ => by simp [cmps]
  | _ :: _, [] => by simp [cmps]
  | x :: r, y :: s => by rw [cmps_cons, thn_zero, T.cmp_zero x y, cmps_zero r s]; simp
end
mutual
theorem T.same_iff : ∀ a b : T, a.same b = true ↔ a = b
  | .mk k n l, .mk k' n' l' => by
    simp only [T.same, Bool.and_eq_true, beq_iff_eq, T.mk.injEq, sames_iff l l', and_assoc]
theorem sames_iff : ∀ l m : List T, sames l m = true ↔ l = m
  | [], [] => by simp [sames]
  | [], _ :: _ => by simp [sames]
  | _ :: _, [] => by simp [sames]
  | x :: r, y :: s => by simp only [sames, Bool.and_eq_true, T.same_iff x y, sames_iff r s, List.cons.injEq]
end
theorem tri_icmp (a b c : Int) : tri (icmp a b) (icmp b c) (icmp a c) := fun h1 h2 => icmp_trans h1 h2
theorem zicmp {a b c : Int} : icmp a b = 0 → icmp b c = 0 → icmp a c = 0 := by simp only [icmp_zero]; intro h1 h2; rw [h1, h2]
mutual
theorem T.cmp_tri : ∀ a b c : T, tri (a.cmp b) (b.cmp c) (a.cmp c)
  | .mk k n l, .mk k' n' l', .mk k2 n2 l2 => by
    rw [cmp_eq, cmp_eq, cmp_eq]
    exact tri_thn (tri_icmp _ _ _) zicmp (tri_thn (tri_icmp _ _ _) zicmp (tri_thn (tri_icmp _ _ _) zicmp (cmps_tri l l' l2)))
theorem cmps_tri : ∀ l m n : List T, tri (cmps l m) (cmps m n) (cmps l n)
  | [], [], [] => by simp [cmps, tri]
  | [], [], _ :: _ => by simp [cmps, tri]
  | [], _ :: _, [] => by simp [cmps, tri]
  | [], _ :: _, _ :: _ => by simp [cmps, tri]
  | _ :: _, [], [] => by simp [cmps, tri]
  | _ :: _, [], _ :: _ => by simp [cmps, tri]
  | _ :: _, _ :: _, [] => by simp [cmps, tri]
  | x :: r, y :: s, z :: t => by
    rw [cmps_cons, cmps_cons, cmps_cons]
    exact tri_thn (T.cmp_tri x y z) (by rw [T.cmp_zero, T.cmp_zero, T.cmp_zero]; intro h1 h2; rw [h1, h2]) (cmps_tri r s t)
end
theorem c13 : Pure Try.prog 13 [] (.bool true) := Pure.mk rfl (callE_s tab_ok (execE_s tab_ok 100000) _ _ _ _ _ sane_run)
end Go.Abs
