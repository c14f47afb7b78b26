/- Objects that are known by what stands in one of them: a family of lists of objects. -/
import Derived.Test.YtcfmgncmkbiknaaAbs28
set_option linter.unusedVariables false
set_option linter.defProp false
namespace Go.Abs
open Go
/-- Lists of objects, told by what stands at one place p; n are there. -/
structure Fam {σ : Type} (S : σ → List AObj) (p : Nat) (obj : σ → AObj) (n : Nat) : Prop where
  get : ∀ s, (S s)[p]? = some (obj s)
  set : ∀ s s', (S s).set p (obj s') = S s'
  len : ∀ s, (S s).length = n
namespace Fam
variable {σ : Type} {S : σ → List AObj} {p : Nat} {obj : σ → AObj} {n : Nat} (F : Fam S p obj n)
include F
theorem lt (s : σ) : p < n := by
  have := F.get s
  rw [← F.len s]
  exact (List.getElem?_eq_some_iff.1 this).1
theorem get' (s : σ) (e : List AObj) : (S s ++ e)[p]? = some (obj s) := by
  rw [List.getElem?_append_left (by rw [F.len]; exact F.lt s)]; exact F.get s
theorem set' (s s' : σ) (e : List AObj) : (S s ++ e).set p (obj s') = S s' ++ e := by
  rw [List.set_append_left _ _ (by rw [F.len]; exact F.lt s), F.set]
theorem get0 (s : σ) (e : List AObj) : (S s ++ e)[n]? = e[0]? := by rw [← F.len s]; exact ga0 _ _
theorem get1 (s : σ) (e : List AObj) (i : Nat) : (S s ++ e)[n + i]? = e[i]? := by rw [← F.len s]; exact ga _ _ _
theorem set0 (s : σ) (e : List AObj) (x : AObj) : (S s ++ e).set n x = S s ++ e.set 0 x := by rw [← F.len s]; exact sa0 _ _ _
theorem set1 (s : σ) (e : List AObj) (i : Nat) (x : AObj) : (S s ++ e).set (n + i) x = S s ++ e.set i x := by rw [← F.len s]; exact sa _ _ _ _
theorem app (e : List AObj) : Fam (fun s => S s ++ e) p obj (n + e.length) :=
  ⟨fun s => F.get' s e, fun s s' => F.set' s s' e, fun s => by simp [F.len]⟩
theorem take (s : σ) (e : List AObj) : (S s ++ e).take n = S s := by
  rw [← F.len s]; simp
end Fam
/-- Of one object behind others, with objects behind it. -/
theorem Fam.mk1 (H : List AObj) {σ : Type} (obj : σ → AObj) (e : List AObj) : Fam (fun s => H ++ obj s :: e) H.length obj (H.length + (e.length + 1)) :=
  ⟨fun s => by simp, fun s s' => by simp, fun s => by simp⟩
theorem Fam.mk2 (H : List AObj) {σ : Type} (obj : σ → AObj) (x : AObj) (e : List AObj) : Fam (fun s => H ++ x :: obj s :: e) (H.length + 1) obj (H.length + (e.length + 1 + 1)) :=
  ⟨fun s => by simp, fun s s' => by simp, fun s => by simp⟩
theorem ret2w {Hs G : List AObj} {n0 : Nat} {v w x y : AV} {R : AV → List AObj → Prop} (hH : Hs.take n0 = G) (hb : x.blw n0 = true) (hb' : y.blw n0 = true) (hx : v.unown = x) (hy : w.unown = y) (hR : R (.tuple [x, y]) G) :
    aret2 n0 [v, w] Hs R := by
  subst hx hy hH
  exact ⟨n0, Nat.le_refl _, [v.unown, w.unown], LeL_refl _, by simp only [belowL, hb, hb', Bool.and_self], hR⟩
theorem ret1w {Hs G : List AObj} {n0 : Nat} {v x : AV} {R : AV → List AObj → Prop} (hH : Hs.take n0 = G) (hb : x.blw n0 = true) (hx : v = x) (hR : R x G) : aret1 n0 v Hs R := by
  subst hx hH
  exact ⟨n0, Nat.le_refl _, v, le_refl _, hb, hR⟩
theorem retw {Hs G : List AObj} {n0 s : Nat} {v x : AV} {R : AV → List AObj → Prop} (hH : Hs.take n0 = G) (hb : x.blw n0 = true) (hx : v = x) (hR : R x G) : aret n0 [.t s] [(s, v)] Hs R := by
  subst hx hH
  exact aret_one _ (Nat.le_refl _) (by rw [gt_cons, if_pos rfl]; exact hb) (by rw [gt_cons, if_pos rfl]; exact hR)
end Go.Abs
