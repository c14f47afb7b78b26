/- Part 13 of 18 of the proof. -/
import Derived.Test.YtljchnfgjdjobaaGreatPal
import Derived.Test.YtljchnfgjdjobaaGreatPak
import Derived.Test.YtljchnfgjdjobaaGreatPai
import Derived.Test.YtljchnfgjdjobaaGreatPag
import Derived.KernelRfl
import Derived.Test.YtljchnfgjdjobaaGreatPac
set_option linter.unusedVariables false
set_option linter.unusedSimpArgs false
set_option linter.defProp false
set_option linter.unusedSectionVars false
section
set_option maxRecDepth 100000
namespace Go.Abs
open Go Go.Proofs Go.Rpo
def EmT (nd : List Nd) (t : T) (i : Nat) : Prop := ∀ j, j < wt t → nd[i + j]? = (layT t i)[j]?
def EmL (nd : List Nd) (l : List T) (i : Nat) : Prop := ∀ j, j < wts l → nd[i + j]? = (layL l i)[j]?
theorem EmT.head {nd : List Nd} {t : T} {i : Nat} (h : EmT nd t i) : nd[i]? = some (t, kidsOf t.l (i + 1)) ∧ EmL nd t.l (i + 1) := by
 have hw := wt_eq t
 constructor
 ·have := h 0 (wt_pos t)
  rw [layT_eq] at this
  simpa using this
 ·intro j hj
  have := h (j + 1) (by omega)
  rw [layT_eq, List.getElem?_cons_succ] at this
  rw [← this]; congr 1; omega
theorem EmL.cons {nd : List Nd} {x : T} {r : List T} {i : Nat} (h : EmL nd (x :: r) i) : EmT nd x i ∧ EmL nd r (i + wt x) := by
 constructor
 ·intro j hj
  have := h j (by rw [wts]; omega)
  rw [layL, List.getElem?_append_left (by rw [layT_len]; exact hj)] at this
  exact this
 ·intro j hj
  have := h (wt x + j) (by rw [wts]; omega)
  rw [layL, List.getElem?_append_right (by rw [layT_len]; omega), layT_len] at this
  rw [show wt x + j - wt x = j by omega] at this
  rw [← this]; congr 1; omega
theorem EmL.kids {nd : List Nd} : ∀ {l : List T} {i : Nat}, EmL nd l i → (kidsOf l i).map (fun k => (nd.getD k.toNat default).1) = l ∧ ∀ k ∈ kidsOf l i, 0 ≤ k ∧ k < nd.length
 | [], i, _ => ⟨rfl, fun k h => by simp [kidsOf] at h⟩
 | x :: r, i, h => by
   obtain ⟨h1, h2⟩ := h.cons
   obtain ⟨h3, h4⟩ := EmL.kids h2
   have h5 := h1.head.1
   have h6 := (List.getElem?_eq_some_iff.1 h5).1
   refine ⟨?_, ?_⟩
   ·rw [kidsOf, List.map_cons, h3]
    congr 1
    rw [List.getD_eq_getElem?_getD, Int.toNat_natCast, h5]; rfl
   ·intro k hk
    rw [kidsOf] at hk
    rcases List.mem_cons.1 hk with rfl | hk
    ·omega
    ·exact h4 k hk
def Gd (nd : List Nd) (p : Int → Prop) (i : Nat) : Prop := ∃ t, nd[i]? = some (t, kidsOf t.l (i + 1)) ∧ EmL nd t.l (i + 1) ∧ All p t
mutual
theorem gdT {nd : List Nd} {p : Int → Prop} : ∀ (t : T) (i : Nat), EmT nd t i → All p t → ∀ j, j < wt t → Gd nd p (i + j)
 | .mk k n l, i, h, ha, j, hj => by
   obtain ⟨h1, h2⟩ := h.head
   cases j with
   | zero => exact ⟨_, h1, h2, ha⟩
   | succ j =>
     have := gdL l (i + 1) h2 (fun x hx => ha.mem hx) j (by rw [wt] at hj; omega)
     rw [show i + (j + 1) = i + 1 + j by omega]; exact this
theorem gdL {nd : List Nd} {p : Int → Prop} : ∀ (l : List T) (i : Nat), EmL nd l i → (∀ x ∈ l, All p x) → ∀ j, j < wts l → Gd nd p (i + j)
 | [], i, h, ha, j, hj => by simp [wts] at hj
 | x :: r, i, h, ha, j, hj => by
   obtain ⟨h1, h2⟩ := h.cons
   by_cases hx : j < wt x
   ·exact gdT x i h1 (ha x List.mem_cons_self) j hx
   ·have := gdL r (i + wt x) h2 (fun y hy => ha y (List.mem_cons_of_mem _ hy)) (j - wt x) (by rw [wts] at hj; omega)
    rw [show i + j = i + wt x + (j - wt x) by omega]; exact this
end
def cxOf (ps ss : List Int) (ts : List T) (n : Nat) : Cx := ⟨ps, ss, layL ts 0, n + 2, n, n + 1⟩
theorem emL0 (ts : List T) : EmL (layL ts 0) ts 0 := fun j _ => by rw [Nat.zero_add]
theorem cx_ok {ps ss : List Int} (hv : Va ps ss) {ts : List T} (hne : ts ≠ []) (hw : wts ts ≤ 100000000) (ha : ∀ t ∈ ts, All (fun n => 0 ≤ n ∧ n < ps.length) t) (n : Nat) : (cxOf ps ss ts n).Ok := by
 have hl : (layL ts 0).length = wts ts := layL_len ts 0
 have gd : ∀ i, (cxOf ps ss ts n).isN i → ∃ t, (layL ts 0).getD i.toNat default = (t, kidsOf t.l (i.toNat + 1)) ∧ EmL (layL ts 0) t.l (i.toNat + 1) ∧ All (fun n => 0 ≤ n ∧ n < ps.length) t := by
  intro i hi
  have hi' : i.toNat < wts ts := by have := hi.1; have := hi.2; simp only [cxOf] at *; omega
  obtain ⟨t, h1, h2, h3⟩ := gdL ts 0 (emL0 ts) ha i.toNat hi'
  rw [Nat.zero_add] at h1 h2
  exact ⟨t, by rw [List.getD_eq_getElem?_getD, h1]; rfl, h2, h3⟩
 refine ⟨hv, ?_, by simp [cxOf], by simp [cxOf], by simp [cxOf], fun i hi => ?_, fun i hi => ?_, fun i hi hk => ?_⟩
 ·intro e
  have e : layL ts 0 = [] := e
  rw [e] at hl
  have := len_wts ts
  have h0 : ts.length = 0 := by simp at hl; omega
  exact hne (List.length_eq_zero_iff.1 h0)
 ·obtain ⟨t, h1, h2, h3⟩ := gd i hi
  show ((layL ts 0).getD i.toNat default).2.length ≤ _
  rw [h1, kidsOf_len]
  by_cases h0 : t.l = []
  ·rw [h0]; simp
  ·have : wts t.l ≤ (layL ts 0).length := by
    have hp : 0 < wts t.l := by
     have := len_wts t.l
     have := List.length_pos_iff.2 h0
     omega
    have := h2 (wts t.l - 1) (by omega)
    have h4 : (layL t.l (i.toNat + 1))[wts t.l - 1]? ≠ none := by rw [List.getElem?_eq_getElem (by rw [layL_len]; omega)]; simp
    rw [← this] at h4
    have h5 : i.toNat + 1 + (wts t.l - 1) < (layL ts 0).length := by
     apply Decidable.byContradiction
     intro hc
     exact h4 (List.getElem?_eq_none (by omega))
    omega
   have := len_wts t.l
   omega
 ·obtain ⟨t, h1, h2, h3⟩ := gd i hi
  have hk := h2.kids
  have e1 : (cxOf ps ss ts n).kd i = kidsOf t.l (i.toNat + 1) := by show ((layL ts 0).getD i.toNat default).2 = _; rw [h1]
  have e2 : (cxOf ps ss ts n).tm i = t := by show ((layL ts 0).getD i.toNat default).1 = _; rw [h1]
  rw [e1, e2]
  exact hk
 ·obtain ⟨t, h1, h2, h3⟩ := gd i hi
  have e2 : (cxOf ps ss ts n).tm i = t := by show ((layL ts 0).getD i.toNat default).1 = _; rw [h1]
  rw [e2] at hk ⊢
  exact h3.op hk
theorem cx_du (ps ss : List Int) {ts : List T} (hne : ts ≠ []) (H : List AObj) : Du (cxOf ps ss ts H.length) (H ++ [.map [], .map [], duelO ps ss (layL ts 0) H.length (H.length + 1)]) := by
 have hn : layL ts 0 ≠ [] := by
  intro e
  have hl : (layL ts 0).length = wts ts := layL_len ts 0
  have := len_wts ts
  rw [e] at hl
  have h0 : ts.length = 0 := by simp at hl; omega
  exact hne (List.length_eq_zero_iff.1 h0)
 refine ⟨?_, ⟨[], ?_, fun p hp => by simp at hp⟩, ⟨[], ?_, fun p hp => by simp at hp⟩⟩
 ·show (H ++ [AObj.map [], .map [], duelO ps ss (layL ts 0) H.length (H.length + 1)])[H.length + 2]? = _
  rw [duelO, nodesA, if_neg hn]
  simp [cxOf]
 ·show (H ++ [AObj.map [], .map [], duelO ps ss (layL ts 0) H.length (H.length + 1)])[H.length]? = _
  simp [memA]
 ·show (H ++ [AObj.map [], .map [], duelO ps ss (layL ts 0) H.length (H.length + 1)])[H.length + 1]? = _
  simp [memA]
theorem cx_at {ps ss : List Int} {ts : List T} {n j : Nat} (hj : j < ts.length) : (cxOf ps ss ts n).isN ((kidsOf ts 0).getD j 0) ∧ (cxOf ps ss ts n).tm ((kidsOf ts 0).getD j 0) = ts.getD j default := by
 obtain ⟨h1, h2⟩ := (emL0 ts).kids
 have hl := kidsOf_len ts 0
 refine ⟨h2 _ (getD_mem (by omega)), ?_⟩
 have := congrArg (fun l => l[j]?) h1
 have hj' : j < (kidsOf ts 0).length := by omega
 simp only [List.getElem?_map, List.getElem?_eq_getElem hj', List.getElem?_eq_getElem hj, Option.map_some, Option.some.injEq] at this
 have e1 : (kidsOf ts 0).getD j 0 = (kidsOf ts 0)[j] := by simp [hj']
 have e2 : ts.getD j default = ts[j] := by simp [hj]
 rw [e1, e2]
 exact this
end Go.Abs
end
section
set_option maxRecDepth 100000
namespace Go.Abs
open Go Go.Proofs
theorem ixs (s : ByteArray) (k : IntKind) (i : Nat) (φ : AV → Prop) : aindexStr (.str s) (.int k (i : Int)) φ = (i < s.size ∧ φ (.int .u8 (s.data.toList.getD i 0).toNat)) := by
 simp only [aindexStr, Int.toNat_natCast, eq_iff_iff]
 exact ⟨fun h => h.2, fun h => ⟨by omega, h⟩⟩
theorem bn_eqS (a b : ByteArray) (φ : AV → Prop) : abin .eql (.str a) (.str b) φ = φ (.bool (decide (a = b))) := by
 simp [abin]
theorem entPure {g : Nat} {f : List AV → Option AV} (h : EntOk Tryz.prog g (.prim f)) {xs : List AV} {r : AV} (hr : f xs = some r) : Pure Tryz.prog g xs r := fun H => h xs r H hr
theorem c238 (s : ByteArray) (c : Int) : Pure Tryz.prog 238 [.str s, .int .u8 c] (.int .i64 (firstIdx s c.toNat.toUInt8)) := entPure e238 rfl
def cntB (s : ByteArray) (c : Int) : Int := s.foldl (fun (n : Int) x => if x == c.toNat.toUInt8 then n + 1 else n) ((0 : Nat) : Int)
theorem c231 (s : ByteArray) (c : Int) : Pure Tryz.prog 231 [.str s, .int .u8 c] (.int .i64 (cntB s c)) := entPure e231 (by simp only [countP, cntB])
theorem c228 (s : ByteArray) (c : Int) : Pure Tryz.prog 228 [.str s, .int .u8 c] (.int .i64 (firstIdx s c.toNat.toUInt8)) := by
 refine fun H => k228.2.calls rfl ?_
 simp only [k228, mkF]
 simp +contextual only [un_str, sZ, Nat.reduceEqDiff, Nat.reduceAdd, ↓reduceIte, reduceCtorEq]
 refine scall_pure (c238 s c) ?_
 simp +contextual only [sZ, ↓reduceIte, reduceCtorEq]
 exact ret0 rfl rfl
theorem c190 (s : ByteArray) (c : Int) : Pure Tryz.prog 190 [.str s, .int .u8 c] (.int .i64 (firstIdx s c.toNat.toUInt8)) := by
 refine fun H => k190.2.calls rfl ?_
 simp only [k190, mkF]
 simp +contextual only [un_str, sZ, Nat.reduceEqDiff, Nat.reduceAdd, ↓reduceIte, reduceCtorEq]
 refine scall_pure (c228 s c) ?_
 simp +contextual only [sZ, ↓reduceIte, reduceCtorEq]
 exact ret0 rfl rfl
def us : ByteArray := ⟨#[95]⟩
theorem ix0 (k : IntKind) (φ : AV → Prop) : aindexStr (.str us) (.int k 0) φ = φ (.int .u8 95) := by
 simp only [aindexStr, eq_iff_iff]
 exact ⟨fun h => h.2.2, fun h => ⟨by omega, by decide, h⟩⟩
def usI (s : ByteArray) : Int := if s = us then 0 else firstIdx s 95
theorem c229 (s : ByteArray) : Pure Tryz.prog 229 [.str s, .str us] (.int .i64 (usI s)) := by
 refine fun H => k229.2.calls rfl ?_
 simp only [k229, mkF]
 unfold usI
 have hsz : ((us.size : Nat) : Int) = 1 := rfl
 by_cases hs : s = us
 ·rw [if_pos hs]
  simp +contextual only [bn_eqS, hsz, hs, Int.reduceEq, sZ, Nat.reduceEqDiff, Nat.reduceAdd, ↓reduceIte, reduceCtorEq, Int.reduceEq]
  exact ret0 rfl rfl
 ·rw [if_neg hs]
  have hs' : ¬ us = s := fun e => hs e.symm
  simp +contextual only [bn_eqS, hsz, hs', ix0, Int.reduceEq, sZ, Nat.reduceEqDiff, Nat.reduceAdd, ↓reduceIte, reduceCtorEq, Int.reduceEq]
  refine scall_pure (c228 s 95) ?_
  simp +contextual only [sZ, ↓reduceIte, reduceCtorEq]
  exact ret0 rfl rfl
theorem c191 (s : ByteArray) : Pure Tryz.prog 191 [.str s, .str us] (.int .i64 (usI s)) := by
 refine fun H => k191.2.calls rfl ?_
 simp only [k191, mkF]
 simp +contextual only [sZ, Nat.reduceEqDiff, Nat.reduceAdd, ↓reduceIte, reduceCtorEq]
 refine scall_pure (c229 s) ?_
 simp +contextual only [sZ, ↓reduceIte, reduceCtorEq]
 exact ret0 rfl rfl
theorem c142 (s : ByteArray) : Pure Tryz.prog 142 [.str s, .str us] (.bool (decide (0 ≤ usI s))) := by
 refine fun H => k142.2.calls rfl ?_
 simp only [k142, mkF]
 simp +contextual only [sZ, Nat.reduceEqDiff, Nat.reduceAdd, ↓reduceIte, reduceCtorEq]
 refine scall_pure (c191 s) ?_
 simp +contextual only [sZ, ↓reduceIte, reduceCtorEq]
 exact ret0 rfl rfl
theorem c193 (s : ByteArray) : Pure Tryz.prog 193 [.str s, .str us] (.int .i64 (cntB s 95)) := by
 refine fun H => k193.2.calls rfl ?_
 simp only [k193, mkF]
 have hsz : ((us.size : Nat) : Int) = 1 := rfl
 simp +contextual only [hsz, ix0, Int.reduceEq, sZ, Nat.reduceEqDiff, Nat.reduceAdd, ↓reduceIte, reduceCtorEq, Int.reduceEq]
 refine scall_pure (c231 s 95) ?_
 simp +contextual only [sZ, ↓reduceIte, reduceCtorEq]
 exact ret0 rfl rfl
def badC (c : UInt8) : Bool := decide (((c.toNat : Nat) : Int) < 33) || decide ((126 : Int) < ((c.toNat : Nat) : Int)) || decide (0 ≤ firstIdx ⟨#[40, 41, 44]⟩ ((c.toNat : Nat) : Int).toNat.toUInt8)
def nameB (s : ByteArray) : Bool := !decide (((s.size : Nat) : Int) < 1) && !decide ((32 : Int) < ((s.size : Nat) : Int)) && s.data.toList.all fun c => !badC c
theorem allB_drop {p : UInt8 → Bool} {l : List UInt8} {i : Nat} (h : i < l.length) : (l.drop i).all p = (p (l.getD i 0) && (l.drop (i + 1)).all p) := by
 rw [List.drop_eq_getElem_cons h, List.all_cons]
 simp [h]
theorem c141 (s : ByteArray) : Pure Tryz.prog 141 [.str s] (.bool (nameB s)) := by
 refine fun H => ok141.calls rfl ?_
 simp only [fi141, ir141]
 have hl : s.data.toList.length = s.size := rfl
 unfold nameB
 simp +contextual only [sZ, Nat.reduceEqDiff, Nat.reduceAdd, ↓reduceIte, reduceCtorEq]
 refine ⟨fun h1 => ⟨fun h2 => ?_, fun h2 => ?_⟩, fun h1 => ?_⟩
 ·exact ret0 rfl (by simp [h2])
 ·refine swp_loop_nat s.size (fun i => ((s.data.toList.drop i).all fun c => !badC c) = (s.data.toList.all fun c => !badC c))
   (fun i => [(0, .str s), (13, .int .i64 s.size), (14, .int .i64 i)]) (fun i => H) ⟨rfl, sle_refl _ _ _⟩ fun i hi hI => ?_
  simp +contextual only [ixs, sZ, Nat.reduceEqDiff, Nat.reduceAdd, ↓reduceIte, reduceCtorEq]
  have fin : ∀ (hlt : i < s.size), badC (s.data.toList.getD i 0) = true → (s.data.toList.all fun c => !badC c) = false := fun hlt hb => by
   rw [← hI, allB_drop (by omega), hb]; rfl
  refine ⟨fun hlt => ?_, fun hge => ?_⟩
  ·have hlt := len_lt hlt
   have fin := fin hlt
   rw [allB_drop (by omega)] at hI
   have hbc : badC (s.data.toList.getD i 0) = (decide ((((s.data.toList.getD i 0).toNat : Nat) : Int) < 33) || decide ((126 : Int) < (((s.data.toList.getD i 0).toNat : Nat) : Int)) || decide (0 ≤ firstIdx ⟨#[40, 41, 44]⟩ (((s.data.toList.getD i 0).toNat : Nat) : Int).toNat.toUInt8)) := rfl
   generalize s.data.toList.getD i 0 = c at *
   refine ⟨hlt, fun a => ⟨hlt, fun b => ⟨hlt, scall_pure (c190 _ _) ?_⟩, fun b => ?_⟩, fun a => ?_⟩
   ·simp +contextual only [sZ, Nat.reduceEqDiff, ↓reduceIte, reduceCtorEq]
    refine ⟨fun d => ?_, fun d => ?_⟩
    ·exact ret0 rfl (by rw [fin (by rw [hbc]; simp only [decide_eq_true d, Bool.or_true])]; simp)
    ·refine ⟨i + 1, ⟨hlt, ?_⟩, by omega, sle_eq (by rw [wrap_nat i (by omega)]) rfl⟩
     rw [← hI]
     have : badC c = false := by
      rw [hbc]
      simp only [Bool.or_eq_false_iff, decide_eq_false_iff_not]
      omega
     rw [this]; simp
   ·exact ret0 rfl (by rw [fin (by rw [hbc]; simp only [decide_eq_true b, Bool.or_true, Bool.true_or])]; simp)
   ·exact ret0 rfl (by rw [fin (by rw [hbc]; simp only [decide_eq_true a, Bool.true_or])]; simp)
  ·rw [List.drop_of_length_le (by have := len_nlt hge; omega)] at hI
   exact ret0 rfl (by rw [← hI]; simp; omega)
 ·exact ret0 rfl (by simp [h1])
end Go.Abs
end
section
set_option maxRecDepth 100000
namespace Go.Abs
open Go Go.Proofs
structure Opn where
 name : ByteArray
 args : List Int
 res : Int
 deriving Inhabited
structure Sg where
 sorts : List ByteArray
 ops : List Opn
 deriving Inhabited
def Opn.av (o : Opn) : AV := .agg [.str o.name, .lst 0 (ints o.args), .int .i64 o.res]
def opas (l : List Opn) : List AV := l.map Opn.av
def strs (l : List ByteArray) : List AV := l.map AV.str
def Sg.av (s : Sg) : AV := .agg [.lst 0 (strs s.sorts), .lst 0 (opas s.ops)]
theorem opas_len (l : List Opn) : (opas l).length = l.length := by simp [opas]
theorem strs_len (l : List ByteArray) : (strs l).length = l.length := by simp [strs]
theorem opas_blw (n : Nat) (l : List Opn) : belowL n (opas l) = true := by
 rw [belowL_iff]; intro x hx; obtain ⟨y, _, rfl⟩ := List.mem_map.1 hx
 simp [Opn.av, AV.blw, belowL, ints_blw]
theorem strs_blw (n : Nat) (l : List ByteArray) : belowL n (strs l) = true := by
 rw [belowL_iff]; intro x hx; obtain ⟨y, _, rfl⟩ := List.mem_map.1 hx; rfl
theorem Opn.av_blw (n : Nat) (o : Opn) : o.av.blw n = true := by simp [Opn.av, AV.blw, belowL, ints_blw]
theorem Opn.av_val (o : Opn) : o.av.val = true := rfl
theorem Opn.av_one (o : Opn) : o.av.cells.all AV.one = true := rfl
theorem Opn.av_unown (o : Opn) : o.av.unown = o.av := rfl
theorem Opn.av_drop (o : Opn) : o.av.drop = o.av := rfl
theorem Opn.av_clen (o : Opn) : o.av.cells.length = 3 := rfl
theorem Sg.av_blw (n : Nat) (o : Sg) : o.av.blw n = true := by simp [Sg.av, AV.blw, belowL, strs_blw, opas_blw]
theorem Sg.av_val (o : Sg) : o.av.val = true := rfl
theorem Sg.av_one (o : Sg) : o.av.cells.all AV.one = true := rfl
theorem Sg.av_unown (o : Sg) : o.av.unown = o.av := rfl
theorem Sg.av_drop (o : Sg) : o.av.drop = o.av := rfl
theorem Sg.av_clen (o : Sg) : o.av.cells.length = 2 := rfl
theorem lens_opas (o : Nat) (l : List Opn) : (∀ (own : Nat) (xs : List AV), AV.lst o (opas l) = AV.lst own xs → ∀ z ∈ xs, z.cells.length = 3) = True := by
 simp only [eq_iff_iff, iff_true]
 intro own xs e z hz
 cases e
 obtain ⟨y, _, rfl⟩ := List.mem_map.1 hz
 rfl
theorem lens_strs (o : Nat) (l : List ByteArray) : (∀ (own : Nat) (xs : List AV), AV.lst o (strs l) = AV.lst own xs → ∀ z ∈ xs, z.cells.length = 1) = True := by
 simp only [eq_iff_iff, iff_true]
 intro own xs e z hz
 cases e
 obtain ⟨y, _, rfl⟩ := List.mem_map.1 hz
 rfl
theorem idx_opas (e o : Nat) (l : List Opn) (k : IntKind) (i : Nat) (φ : AV → Prop) : aindexAddr e (.lst o (opas l)) (.int k (i : Int)) φ = (i < l.length ∧ φ (.iptr (l.getD i default).av)) := by
 simp only [aindexAddr, opas_len, Int.toNat_natCast, eq_iff_iff]
 constructor
 ·rintro ⟨_, h, h2⟩; refine ⟨h, ?_⟩; simpa [opas, h] using h2
 ·rintro ⟨h, h2⟩; refine ⟨by omega, h, ?_⟩; simpa [opas, h] using h2
theorem idx_strs (e o : Nat) (l : List ByteArray) (k : IntKind) (i : Nat) (φ : AV → Prop) : aindexAddr e (.lst o (strs l)) (.int k (i : Int)) φ = (i < l.length ∧ φ (.iptr (.str (l.getD i default)))) := by
 simp only [aindexAddr, strs_len, Int.toNat_natCast, eq_iff_iff]
 constructor
 ·rintro ⟨_, h, h2⟩; refine ⟨h, ?_⟩; simpa [strs, h] using h2
 ·rintro ⟨h, h2⟩; refine ⟨by omega, h, ?_⟩; simpa [strs, h] using h2
theorem li_op (o : Opn) (H : List AObj) (φ : AV → Prop) : aload (some 3) (.iptr o.av) H φ = φ o.av := by simp [aload, Opn.av, AV.cells]
theorem li_sg (o : Sg) (H : List AObj) (φ : AV → Prop) : aload (some 2) (.iptr o.av) H φ = φ o.av := by simp [aload, Sg.av, AV.cells]
theorem fo0 (x : Opn) (φ : AV → Prop) : afieldAddr 0 none (.iptr x.av) φ = φ (.iptr (.str x.name)) := by simp [afieldAddr, apart, Opn.av, AV.cells, AV.one]
theorem fo1 (x : Opn) (φ : AV → Prop) : afieldAddr 1 none (.iptr x.av) φ = φ (.iptr (.lst 0 (ints x.args))) := by simp [afieldAddr, apart, Opn.av, AV.cells, AV.one]
theorem fo2 (x : Opn) (φ : AV → Prop) : afieldAddr 2 none (.iptr x.av) φ = φ (.iptr (.int .i64 x.res)) := by simp [afieldAddr, apart, Opn.av, AV.cells, AV.one]
theorem fs0 (x : Sg) (φ : AV → Prop) : afieldAddr 0 none (.iptr x.av) φ = φ (.iptr (.lst 0 (strs x.sorts))) := by simp [afieldAddr, apart, Sg.av, AV.cells, AV.one]
theorem fs1 (x : Sg) (φ : AV → Prop) : afieldAddr 1 none (.iptr x.av) φ = φ (.iptr (.lst 0 (opas x.ops))) := by simp [afieldAddr, apart, Sg.av, AV.cells, AV.one]
def stepsO := (And.intro (And.intro (And.intro (And.intro @opas_len @strs_len) (And.intro @opas_blw @strs_blw)) (And.intro (And.intro @Opn.av_blw @Opn.av_val) (And.intro (And.intro @Opn.av_one @Opn.av_unown) (And.intro @Opn.av_drop @Opn.av_clen)))) (And.intro (And.intro (And.intro (And.intro @Sg.av_blw @Sg.av_val) (And.intro (And.intro @Sg.av_one @Sg.av_unown) (And.intro @Sg.av_drop @Sg.av_clen))) (And.intro (And.intro @lens_opas @lens_strs) (And.intro @idx_opas @idx_strs))) (And.intro (And.intro @li_op @li_sg) (And.intro (And.intro @fo0 @fo1) (And.intro @fo2 (And.intro @fs0 @fs1))))))
def idxI (p : Int → Bool) : List Int → Int → Int
 | [], _ => -1
 | x :: r, k => if p x = true then k else idxI p r (k + 1)
theorem idxI_any (p : Int → Bool) : ∀ (l : List Int) (k : Int), 0 ≤ k → (decide (0 ≤ idxI p l k) = l.any p)
 | [], k, _ => by simp [idxI]
 | x :: r, k, h => by
   simp only [idxI, List.any_cons]
   split
   ·rename_i hp; simp [hp, h]
   ·rename_i hp; simp [hp, idxI_any p r (k + 1) (by omega)]
theorem idxI_drop {p : Int → Bool} {l : List Int} {i : Nat} {k : Int} (h : i < l.length) : idxI p (l.drop i) k = if p (l.getD i 0) = true then k else idxI p (l.drop (i + 1)) (k + 1) := by
 rw [List.drop_eq_getElem_cons h]
 simp [idxI, h]
theorem c100 (g : Nat) (cap : List AV) (hcap : cap.map AV.unown = cap) (hb : belowL 0 cap = true) (p : Int → Bool) (l : List Int) (hf : ∀ x ∈ l, Pure Tryz.prog g ([.int .i64 x] ++ cap) (.bool (p x))) :
 Pure Tryz.prog 100 [.lst 0 (ints l), .fn (.func g) [] cap] (.int .i64 (idxI p l 0)) := by
 refine fun H => k100.2.calls rfl ?_
 simp only [k100, mkF]
 simp +contextual only [sZ, Nat.reduceEqDiff, Nat.reduceAdd, ↓reduceIte, reduceCtorEq]
 intro hl
 refine swp_loop_nat l.length (fun i => idxI p (l.drop i) i = idxI p l 0) (fun i => [(0, .lst 0 (ints l)), (1, .fn (.func g) [] cap), (7, .int .i64 l.length), (8, .int .i64 i)]) (fun _ => H) ⟨rfl, sle_refl _ _ _⟩ fun i hi hI => ?_
 simp +contextual only [hcap, sZ, Nat.reduceEqDiff, Nat.reduceAdd, ↓reduceIte, reduceCtorEq]
 refine ⟨fun hlt => ?_, fun hge => ?_⟩
 ·have hlt := len_lt hlt
  rw [idxI_drop hlt] at hI
  refine ⟨hlt, scall_pure (hf _ ?_) ?_⟩
  ·simp [hlt]
  simp +contextual only [sZ, Nat.reduceEqDiff, ↓reduceIte, reduceCtorEq]
  refine scond_b (fun hb => ?_) (fun hb => ?_) <;> simp +contextual only [sZ, Nat.reduceEqDiff, ↓reduceIte, reduceCtorEq]
  ·rw [if_pos hb] at hI
   exact ret0 rfl (by rw [← hI])
  ·rw [if_neg (by rw [hb]; simp)] at hI
   exact ⟨i + 1, ⟨hlt, hI⟩, by omega, sle_eq (by rw [wrap_nat i (by omega)]) rfl⟩
 ·rw [List.drop_of_length_le (len_nlt hge)] at hI
  exact ret0 rfl (by rw [← hI]; rfl)
theorem c102 (g : Nat) (cap : List AV) (hcap : cap.map AV.unown = cap) (hb : belowL 0 cap = true) (p : Int → Bool) (l : List Int) (hf : ∀ x ∈ l, Pure Tryz.prog g ([.int .i64 x] ++ cap) (.bool (p x))) :
 Pure Tryz.prog 102 [.lst 0 (ints l), .fn (.func g) [] cap] (.bool (l.any p)) := by
 refine fun H => k102.2.calls rfl ?_
 simp only [k102, mkF]
 simp +contextual only [sZ, Nat.reduceEqDiff, Nat.reduceAdd, ↓reduceIte, reduceCtorEq]
 refine scall_pure (c100 g cap hcap hb p l hf) ?_
 simp +contextual only [sZ, ↓reduceIte, reduceCtorEq]
 exact ret0 rfl (by rw [idxI_any p l 0 (by omega)])
end Go.Abs
end
section
set_option maxRecDepth 100000
namespace Go.Abs
open Go Go.Proofs
def isS (n a : Int) : Bool := decide (0 ≤ a) && decide (a < n)
theorem c192 (n a : Int) : Pure Tryz.prog 192 [.int .i64 a, .iptr (.int .i64 n)] (.bool (isS n a)) := by
 refine fun H => k192.2.calls rfl ?_
 simp only [k192, mkF]
 unfold isS
 simp +contextual only [sZ, Nat.reduceEqDiff, Nat.reduceAdd, ↓reduceIte, reduceCtorEq]
 refine ⟨fun h => ret0 rfl (by simp [h]), fun h => ret0 rfl (by simp; omega)⟩
theorem c194 (n a : Int) : Pure Tryz.prog 194 [.int .i64 a, .iptr (.fn (.func 192) [] [.iptr (.int .i64 n)])] (.bool (!isS n a)) := by
 refine fun H => k194.2.calls rfl ?_
 simp only [k194, mkF]
 simp +contextual only [sZ, Nat.reduceEqDiff, Nat.reduceAdd, ↓reduceIte, reduceCtorEq]
 refine scall_pure (c192 n a) ?_
 simp +contextual only [sZ, ↓reduceIte, reduceCtorEq]
 exact ret0 rfl rfl
def goodB (o : Opn) (n : Int) : Bool :=
 nameB o.name && (decide (cntB o.name 95 < o.name.size) && ((decide (cntB o.name 95 = 0) || decide (cntB o.name 95 = o.args.length)) && (decide ((o.args.length : Int) ≤ 8) && (isS n o.res && !o.args.any fun a => !isS n a))))
theorem c143 (o : Opn) (n : Int) : Pure Tryz.prog 143 [o.av, .int .i64 n] (.bool (goodB o n)) := by
 refine fun H => ok143.calls rfl ?_
 simp only [fi143, ir143]
 unfold goodB
 simp +contextual only [stepsO, sZ, Nat.reduceEqDiff, Nat.reduceAdd, ↓reduceIte, reduceCtorEq]
 refine scall_pure (c193 o.name) ?_
 simp +contextual only [stepsO, sZ, Nat.reduceEqDiff, Nat.reduceAdd, ↓reduceIte]
 refine scall_pure (c141 o.name) ?_
 cases hn : nameB o.name with
 | false =>
   simp +contextual only [sZ, Nat.reduceEqDiff, ↓reduceIte, reduceCtorEq]
   exact ret0 rfl rfl
 | true =>
   have h66 := c102 194 [.iptr (.fn (.func 192) [] [.iptr (.int .i64 n)])] rfl rfl (fun a => !isS n a) o.args (fun a _ => c194 n a)
   have h105 := c192 n o.res
   generalize isS n o.res = q at h105 ⊢
   generalize (o.args.any fun a => !isS n a) = z at h66 ⊢
   by_cases h1 : cntB o.name 95 < o.name.size
   ·have e1 : decide (cntB o.name 95 < o.name.size) = true := decide_eq_true h1
    simp +contextual only [stepsO, h1, sZ, Nat.reduceEqDiff, Nat.reduceAdd, ↓reduceIte, reduceCtorEq]
    refine ⟨fun h20 _ => ⟨fun h21 => ?_, fun h21 => ?_⟩, fun h20 _ => ?_⟩
    ·have e2 : (decide (cntB o.name 95 = 0) || decide (cntB o.name 95 = (o.args.length : Int))) = true := by simp [h21]
     refine ⟨fun h3 => scall_pure h105 ?_, fun h3 => ?_⟩
     ·have e903 : decide ((o.args.length : Int) ≤ 8) = true := decide_eq_true h3
      rw [e1, e2, e903]
      cases q with
      | false =>
        simp +contextual only [sZ, Nat.reduceEqDiff, ↓reduceIte, reduceCtorEq]
        exact ret0 rfl (by simp)
      | true =>
        simp +contextual only [stepsO, sZ, Nat.reduceEqDiff, Nat.reduceAdd, ↓reduceIte, reduceCtorEq]
        refine scall_pure h66 ?_
        simp +contextual only [sZ, Nat.reduceEqDiff, ↓reduceIte, reduceCtorEq]
        exact ret0 rfl (by simp)
     ·have e903 : decide ((o.args.length : Int) ≤ 8) = false := decide_eq_false (by omega)
      exact ret0 rfl (by rw [e903]; simp)
    ·have e2 : (decide (cntB o.name 95 = 0) || decide (cntB o.name 95 = (o.args.length : Int))) = false := by simp [h20, h21]
     exact ret0 rfl (by rw [e2]; simp)
    ·have e2 : (decide (cntB o.name 95 = 0) || decide (cntB o.name 95 = (o.args.length : Int))) = true := by simp [h20]
     refine ⟨fun h3 => scall_pure h105 ?_, fun h3 => ?_⟩
     ·have e903 : decide ((o.args.length : Int) ≤ 8) = true := decide_eq_true h3
      rw [e1, e2, e903]
      cases q with
      | false =>
        simp +contextual only [sZ, Nat.reduceEqDiff, ↓reduceIte, reduceCtorEq]
        exact ret0 rfl (by simp)
      | true =>
        simp +contextual only [stepsO, sZ, Nat.reduceEqDiff, Nat.reduceAdd, ↓reduceIte, reduceCtorEq]
        refine scall_pure h66 ?_
        simp +contextual only [sZ, Nat.reduceEqDiff, ↓reduceIte, reduceCtorEq]
        exact ret0 rfl (by simp)
     ·have e903 : decide ((o.args.length : Int) ≤ 8) = false := decide_eq_false (by omega)
      exact ret0 rfl (by rw [e903]; simp)
   ·have e1 : decide (cntB o.name 95 < o.name.size) = false := decide_eq_false h1
    rw [e1]
    simp +contextual only [stepsO, h1, sZ, Nat.reduceEqDiff, ↓reduceIte, reduceCtorEq]
    exact ret0 rfl (by simp)
end Go.Abs
end
section
set_option maxRecDepth 100000
namespace Go.Abs
open Go Go.Proofs
theorem c118i (l : List Int) (hl : l.length * 8 ≤ 140737488355328) : Pure Tryz.prog 118 [.lst 0 (ints l)] (.lst 1 (ints l)) := fun H =>
 clone118 0 (ints l) H (of_eq_true (ok_ints l)) (by rw [ints_len]; exact hl) (ints_blw _ _)
def byt (a : Int) : UInt8 := UInt8.ofNat (IntKind.u8.wrap a).toNat
theorem byt_av (a : Int) : AV.int .u8 (IntKind.u8.wrap a) = .int .u8 (byt a).toNat := by
 have h : 0 ≤ IntKind.u8.wrap a ∧ IntKind.u8.wrap a < 256 := by
  simp only [IntKind.wrap]
  have h1 : IntKind.u8.bits = 8 := rfl
  have h2 : IntKind.u8.signed = false := rfl
  rw [h1, h2]
  simp
  omega
 congr 1
 unfold byt
 rw [UInt8.toNat_ofNat']
 omega
def keyL (o : Opn) : List UInt8 := (o.name ++ ⟨#[40]⟩).data.toList ++ (o.args ++ [o.res]).map byt
def keyS (o : Opn) : ByteArray := ⟨(keyL o).toArray⟩
theorem bytes_snoc (l : List UInt8) (a : Int) : byteAVs l ++ [.int .u8 (IntKind.u8.wrap a)] = byteAVs (l ++ [byt a]) := by
 rw [byt_av]; simp [byteAVs]
theorem bytes_len (l : List UInt8) : (byteAVs l).length = l.length := by simp [byteAVs]
theorem bo_str (s : ByteArray) (φ : AV → Prop) : abytesOf 1 (.str s) φ = (s.size < 9223372036854775808 ∧ φ (.lst 1 (byteAVs s.data.toList))) := _root_.id rfl
theorem so_lst (o : Nat) (l : List UInt8) (φ : AV → Prop) (h : φ (.str ⟨l.toArray⟩)) : astrOf (.lst o (byteAVs l)) φ := ⟨l, rfl, h⟩
theorem ci_int (k k' : IntKind) (n : Int) (φ : AV → Prop) : aconvInt k (.int k' n) φ = φ (.int k (k.wrap n)) := _root_.id rfl
theorem c144 (o : Opn) (h1 : o.name.size ≤ 32) (h2 : o.args.length ≤ 8) : Pure Tryz.prog 144 [o.av] (.str (keyS o)) := by
 refine fun H => ok144.calls rfl ?_
 simp only [fi144, ir144]
 have hsz : (⟨#[40]⟩ : ByteArray).size = 1 := rfl
 have hs2 : (o.name ++ ⟨#[40]⟩ : ByteArray).size = o.name.size + 1 := by rw [ByteArray.size_append, hsz]
 have hln : (o.name ++ ⟨#[40]⟩ : ByteArray).data.toList.length = o.name.size + 1 := hs2
 simp +contextual only [stepsO, bo_str, hsz, hs2, sZ, Nat.reduceEqDiff, Nat.reduceAdd, ↓reduceIte]
 refine ⟨by omega, by omega, dcall_pure (c118i o.args (by omega)) ?_⟩
 simp +contextual only [stepsO, ap_lst, ok_int, ints_snoc, sZ, Nat.reduceEqDiff, Nat.reduceAdd, ↓reduceIte]
 refine ⟨by omega, ?_⟩
 generalize hv : o.args ++ [o.res] = vs
 have hvl : vs.length ≤ 9 := by rw [← hv]; simp; omega
 have hk : keyS o = ⟨((o.name ++ ⟨#[40]⟩ : ByteArray).data.toList ++ vs.map byt).toArray⟩ := by rw [keyS, keyL, hv]
 rw [hk]
 generalize (o.name ++ ⟨#[40]⟩ : ByteArray).data.toList = nm at *
 refine swp_loop_nat vs.length (fun _ => True)
  (fun i => [(3, .lst 1 (byteAVs (nm ++ (vs.take i).map byt))), (16, .lst 1 (ints vs)), (17, .int .i64 vs.length), (18, .int .i64 i)]) (fun _ => H) ⟨trivial, sle_eq (by simp) rfl⟩ fun i hi hI => ?_
 simp +contextual only [sZ, Nat.reduceEqDiff, ↓reduceIte, reduceCtorEq]
 refine ⟨fun hlt => ⟨len_lt hlt, ?_⟩, fun hge => ?_⟩
 ·have hlt := len_lt hlt
  simp +contextual only [ci_int, ap_lst, ok_int, bytes_snoc, bytes_len, sZ, Nat.reduceEqDiff, Nat.reduceAdd, ↓reduceIte]
  refine ⟨by simp; omega, i + 1, hlt, by omega, sle_eq ?_ rfl⟩
  rw [wrap_nat i (by omega), List.take_add_one, List.map_append, ← List.append_assoc]
  simp [hlt]
 ·rw [List.take_of_length_le (len_nlt hge)]
  refine so_lst 0 _ _ ?_
  simp +contextual only [sZ]
  exact ret0 rfl rfl
instance : LawfulBEq ByteArray where
 rfl := by intro a; rw [ba_beq]; simp
 eq_of_beq := by intro a b h; rw [ba_beq] at h; exact of_decide_eq_true h
def entsS (vs : List ByteArray) : List (AV × AV) := vs.map fun v => (.str v, .bool true)
theorem afind_entsS (n : ByteArray) : ∀ (vs : List ByteArray) (i : Nat), (n ∈ vs → ∃ j, afind 1 (.str n) (entsS vs) i = some (some (j, .bool true))) ∧ (n ∉ vs → afind 1 (.str n) (entsS vs) i = some none)
 | [], i => ⟨fun h => (by cases h), fun _ => rfl⟩
 | v :: r, i => by
   have ih := afind_entsS n r (i + 1)
   simp only [entsS, List.map_cons, afind, keyEq]
   by_cases hv : n = v
   ·subst hv
    simp
   ·simp only [List.mem_cons, hv, false_or]
    exact ih
theorem lk_entsS (n : ByteArray) (vs : List ByteArray) (φ : AV → Prop) : lookupC (some (.map (entsS vs))) 1 (.bool false) (.str n) false φ = φ (.bool (decide (n ∈ vs))) := by
 have h := afind_entsS n vs 0
 unfold lookupC
 by_cases hn : n ∈ vs
 ·obtain ⟨j, hj⟩ := h.1 hn
  simp [hj, hn, dr_bool]
 ·simp [h.2 hn, hn, keyEq, canon, abslice.canon, dr_bool]
theorem ms_entsS {n : ByteArray} {vs : List ByteArray} (hn : n ∉ vs) (id : Nat) (H : List AObj) (K : List AObj → Prop) : mapsetC (some (.map (entsS vs))) 1 id (.str n) (.bool true) H K = K (H.set id (.map (entsS (vs ++ [n])))) := by
 have h := (afind_entsS n vs 0).2 hn
 unfold mapsetC
 simp only [h]
 simp [keyEq, bw_str, bw_bool, va_bool, entsS, canon, abslice.canon, dr_bool]
def sortsB : List ByteArray → List ByteArray → Bool
 | [], _ => true
 | s :: r, seen => if nameB s = true ∧ ¬ 0 ≤ usI s ∧ s ∉ seen then sortsB r (seen ++ [s]) else false
def opsB (n : Int) : List Opn → List ByteArray → Bool
 | [], _ => true
 | o :: r, seen => if goodB o n = true ∧ keyS o ∉ seen then opsB n r (seen ++ [keyS o]) else false
def chkB (s : Sg) : Bool := decide ((s.sorts.length : Int) ≤ 64) && decide ((s.ops.length : Int) ≤ 256) && sortsB s.sorts [] && opsB s.sorts.length s.ops []
theorem sortsB_drop {l : List ByteArray} {i : Nat} (h : i < l.length) (seen : List ByteArray) : sortsB (l.drop i) seen = if nameB (l.getD i default) = true ∧ ¬ 0 ≤ usI (l.getD i default) ∧ l.getD i default ∉ seen then sortsB (l.drop (i + 1)) (seen ++ [l.getD i default]) else false := by
 rw [List.drop_eq_getElem_cons h, sortsB]
 have e : l.getD i default = l[i] := by simp [h]
 rw [e]
theorem opsB_drop {n : Int} {l : List Opn} {i : Nat} (h : i < l.length) (seen : List ByteArray) : opsB n (l.drop i) seen = if goodB (l.getD i default) n = true ∧ keyS (l.getD i default) ∉ seen then opsB n (l.drop (i + 1)) (seen ++ [keyS (l.getD i default)]) else false := by
 rw [List.drop_eq_getElem_cons h, opsB]
 have e : l.getD i default = l[i] := by simp [h]
 rw [e]
theorem good_small {o : Opn} {n : Int} (h : goodB o n = true) : o.name.size ≤ 32 ∧ o.args.length ≤ 8 ∧ isS n o.res = true ∧ ∀ a ∈ o.args, isS n a = true := by
 simp only [goodB, nameB, Bool.and_eq_true, Bool.not_eq_true', decide_eq_false_iff_not, decide_eq_true_eq] at h
 obtain ⟨⟨⟨_, h1⟩, _⟩, _, _, h2, h3, h4⟩ := h
 refine ⟨by omega, by omega, h3, fun a ha => ?_⟩
 cases hx : isS n a with
 | true => rfl
 | false =>
   rw [Bool.eq_false_iff] at h4
   exact absurd (List.any_eq_true.2 ⟨a, ha, by rw [hx]; rfl⟩) h4
theorem c81 (s : Sg) : Pure Tryz.prog 81 [s.av] (.int .i64 (if chkB s = true then 0 else 40)) := by
 refine fun H => ok81.calls rfl ?_
 simp only [fi81, ir81]
 have bad : ∀ {G : List AObj} {e : Bool}, e = false → G.take H.length = H → chkB s = e → aret H.length [RX.t 2] [(2, AV.int IntKind.i64 40)] G fun r H' => r = AV.int IntKind.i64 (if chkB s = true then 0 else 40) ∧ H' = H := by
  intro G e he hG hc
  rw [hc, he]
  exact retw hG rfl rfl ⟨rfl, rfl⟩
 simp +contextual only [stepsO, sZ, Nat.reduceEqDiff, Nat.reduceAdd, ↓reduceIte, reduceCtorEq]
 refine fun _ => ⟨fun h1 _ => ⟨fun h2 => ?_, fun h2 => ?_⟩, fun h1 => ?_⟩
 ·have h2' : ¬ (s.ops.length : Int) ≤ 256 := by omega
  exact bad rfl (by simp) (by rw [chkB, decide_eq_false h2']; simp)
 ·refine swp_loop_st s.sorts.length (fun i (seen : List ByteArray) => sortsB (s.sorts.drop i) seen = sortsB s.sorts [])
   (fun i seen => [(1, .iptr s.av), (3, .map H.length), (21, .lst 0 (strs s.sorts)), (22, .int .i64 s.sorts.length), (23, .int .i64 i)]) (fun i seen => H ++ [.map (entsS seen)]) [] ⟨rfl, sle_refl _ _ _⟩ fun i seen hi hI => ?_
  simp +contextual only [stepsO, sZ, Nat.reduceEqDiff, Nat.reduceAdd, ↓reduceIte]
  refine ⟨fun hlt => ⟨len_lt hlt, ?_⟩, fun hge => ?_⟩
  ·have hlt := len_lt hlt
   rw [sortsB_drop hlt] at hI
   generalize s.sorts.getD i default = x at *
   refine scall_pure (c141 x) ?_
   cases hn : nameB x with
   | false =>
     rw [hn, if_neg (by simp)] at hI
     simp +contextual only [sZ, Nat.reduceEqDiff, ↓reduceIte, reduceCtorEq]
     exact bad rfl (by simp) (by simp [chkB, ← hI])
   | true =>
     rw [hn] at hI
     simp +contextual only [sZ, Nat.reduceEqDiff, Nat.reduceAdd, ↓reduceIte]
     refine scall_pure (c142 x) ?_
     by_cases hu : 0 ≤ usI x
     ·rw [if_neg (fun h => h.2.1 hu)] at hI
      simp +contextual only [hu, sZ, Nat.reduceEqDiff, ↓reduceIte, reduceCtorEq]
      exact bad rfl (by simp) (by simp [chkB, ← hI])
     ·by_cases hm : x ∈ seen
      ·rw [if_neg (fun h => h.2.2 hm)] at hI
       simp +contextual only [hu, lk_entsS, hm, sZ, Nat.reduceEqDiff, ↓reduceIte, reduceCtorEq]
       exact bad rfl (by simp) (by simp [chkB, ← hI])
      ·rw [if_pos ⟨rfl, hu, hm⟩] at hI
       simp +contextual only [hu, lk_entsS, hm, ms_entsS hm, sZ, Nat.reduceEqDiff, ↓reduceIte]
       exact ⟨i + 1, seen ++ [x], ⟨hlt, hI⟩, by omega, sle_eq (by rw [wrap_nat i (by omega)]) rfl⟩
  ·have hs : sortsB s.sorts [] = true := by
    rw [← hI, List.drop_of_length_le (len_nlt hge)]; rfl
   have hc : chkB s = opsB s.sorts.length s.ops [] := by simp [chkB, h1, h2, hs]
   clear hI
   simp +contextual only [sZ]
   refine fun _ => swp_loop_st s.ops.length (fun i (seen2 : List ByteArray) => opsB s.sorts.length (s.ops.drop i) seen2 = opsB s.sorts.length s.ops [])
    (fun i seen2 => [(1, .iptr s.av), (6, .map (H.length + 1)), (44, .lst 0 (opas s.ops)), (45, .int .i64 s.ops.length), (46, .int .i64 i)]) (fun i seen2 => H ++ [.map (entsS seen), .map (entsS seen2)]) [] ⟨rfl, sle_refl _ _ _⟩ fun i seen2 hi hI => ?_
   simp +contextual only [stepsO, sZ, Nat.reduceEqDiff, Nat.reduceAdd, ↓reduceIte, reduceCtorEq]
   refine ⟨fun hlt => ⟨len_lt hlt, ?_⟩, fun hge => ?_⟩
   ·have hlt := len_lt hlt
    rw [opsB_drop hlt] at hI
    generalize s.ops.getD i default = x at *
    refine fun _ => scall_pure (c143 x _) ?_
    cases hg : goodB x s.sorts.length with
    | false =>
      rw [hg, if_neg (by simp)] at hI
      simp +contextual only [sZ, Nat.reduceEqDiff, ↓reduceIte, reduceCtorEq]
      exact bad rfl (by simp) (by rw [hc, ← hI])
    | true =>
      rw [hg] at hI
      have hsm := good_small hg
      simp +contextual only [stepsO, sZ, Nat.reduceEqDiff, Nat.reduceAdd, ↓reduceIte]
      refine scall_pure (c144 x hsm.1 hsm.2.1) ?_
      by_cases hm : keyS x ∈ seen2
      ·rw [if_neg (fun h => h.2 hm)] at hI
       simp +contextual only [lk_entsS, hm, sZ, Nat.reduceEqDiff, ↓reduceIte, reduceCtorEq]
       exact bad rfl (by simp) (by rw [hc, ← hI])
      ·rw [if_pos ⟨rfl, hm⟩] at hI
       simp +contextual only [stepsO, lk_entsS, hm, sZ, Nat.reduceEqDiff, Nat.reduceAdd, ↓reduceIte]
       refine scall_pure (c144 x hsm.1 hsm.2.1) ?_
       simp +contextual only [ms_entsS hm, sZ, Nat.reduceEqDiff, ↓reduceIte]
       exact ⟨i + 1, seen2 ++ [keyS x], ⟨hlt, hI⟩, by omega, sle_eq (by rw [wrap_nat i (by omega)]) rfl⟩
   ·rw [List.drop_of_length_le (len_nlt hge)] at hI
    exact retw (by simp) rfl rfl ⟨by rw [hc, ← hI]; rfl, rfl⟩
 ·have h1' : ¬ (s.sorts.length : Int) ≤ 64 := by omega
  exact bad rfl (by simp) (by rw [chkB, decide_eq_false h1']; simp)
end Go.Abs
end
section
set_option maxRecDepth 100000
namespace Go.Abs
open Go Go.Proofs Go.Rpo
def entsW (w : List (Int × Int)) : List (AV × AV) := w.map fun p => (.int .i64 p.1, .int .i64 p.2)
theorem afindW (n : Int) : ∀ (w : List (Int × Int)) (i : Nat), (∃ j s, w[j]? = some (n, s) ∧ afind 0 (.int .i64 n) (entsW w) i = some (some (i + j, .int .i64 s))) ∨ ((∀ p ∈ w, p.1 ≠ n) ∧ afind 0 (.int .i64 n) (entsW w) i = some none)
 | [], i => .inr ⟨(fun p h => by cases h), rfl⟩
 | (a, b) :: r, i => by
   have ih := afindW n r (i + 1)
   simp only [entsW, List.map_cons, afind, keyEq, if_true]
   by_cases h : n = a
   ·subst h
    exact .inl ⟨0, b, rfl, by simp⟩
   ·simp only [decide_eq_false h]
    rcases ih with ⟨j, s, h1, h2⟩ | ⟨h1, h2⟩
    ·exact .inl ⟨j + 1, s, h1, by rw [show i + (j + 1) = i + 1 + j by omega]; exact h2⟩
    ·refine .inr ⟨fun p hp => ?_, h2⟩
     rcases List.mem_cons.1 hp with rfl | hp
     ·exact fun e => h e.symm
     ·exact h1 p hp
theorem lkW {n : Int} {w : List (Int × Int)} {φ : AV → Prop} (h1 : ∀ s, (n, s) ∈ w → φ (.tuple [.int .i64 s, .bool true])) (h2 : (∀ p ∈ w, p.1 ≠ n) → φ (.tuple [.int .i64 0, .bool false])) : lookupC (some (.map (entsW w))) 0 (.int .i64 0) (.int .i64 n) true φ := by
 unfold lookupC
 rcases afindW n w 0 with ⟨j, s, h3, h4⟩ | ⟨h3, h4⟩
 ·simp only [h4]; exact h1 s (List.mem_of_getElem? h3)
 ·simp only [h4]; exact ⟨by simp [keyEq], h2 h3⟩
theorem msW {n s : Int} {w : List (Int × Int)} {id : Nat} {H : List AObj} {K : List AObj → Prop} (h : ∀ w', (∀ p ∈ w', p ∈ w ∨ p = (n, s)) → (∀ p ∈ w, ∃ q ∈ w', q.1 = p.1) → (n, s) ∈ w' → K (H.set id (.map (entsW w')))) : mapsetC (some (.map (entsW w))) 0 id (.int .i64 n) (.int .i64 s) H K := by
 unfold mapsetC
 refine ⟨rfl, rfl, rfl, ?_⟩
 have ec : canon (.int .i64 s) = .int .i64 s := rfl
 rcases afindW n w 0 with ⟨j, x, h3, h4⟩ | ⟨h3, h4⟩
 ·simp only [h4, ec, Nat.zero_add]
  have e : (entsW w).set j (.int .i64 n, .int .i64 s) = entsW (w.set j (n, s)) := by simp [entsW, List.map_set]
  rw [e]
  have hj := (List.getElem?_eq_some_iff.1 h3).1
  refine h _ (fun p hp => List.mem_or_eq_of_mem_set hp) (fun p hp => ?_) (List.mem_iff_getElem?.2 ⟨j, by rw [List.getElem?_set_self hj]⟩)
  obtain ⟨m, hm⟩ := List.mem_iff_getElem?.1 hp
  by_cases e : j = m
  ·subst e
   rw [h3] at hm; cases hm
   exact ⟨(n, s), List.mem_iff_getElem?.2 ⟨j, by rw [List.getElem?_set_self hj]⟩, rfl⟩
  ·exact ⟨p, List.mem_iff_getElem?.2 ⟨m, by rw [List.getElem?_set_ne e]; exact hm⟩, rfl⟩
 ·simp only [h4, ec]
  refine ⟨by simp [keyEq], ?_⟩
  have e : entsW w ++ [(AV.int .i64 n, AV.int .i64 s)] = entsW (w ++ [(n, s)]) := by simp [entsW]
  rw [e]
  exact h _ (fun p hp => by simpa using hp) (fun p hp => ⟨p, List.mem_append.2 (.inl hp), rfl⟩) (by simp)
structure OrdU (ps ss : List Int) (i : Nat) : Prop where
 rng : ∀ j, j < i → 0 ≤ ps.getD j 0 ∧ ps.getD j 0 ≤ 255 ∧ 1 ≤ ss.getD j 0 ∧ ss.getD j 0 ≤ 3
 st : ∀ j k, j < i → k < i → ps.getD j 0 = ps.getD k 0 → ss.getD j 0 = ss.getD k 0
def OrdOk (s : Sg) (ps ss : List Int) : Prop := ps.length = s.ops.length ∧ ss.length = s.ops.length ∧ OrdU ps ss ps.length
theorem OrdOk.va {s : Sg} {ps ss : List Int} (h : OrdOk s ps ss) : Va ps ss := ⟨by rw [h.2.1, h.1], h.2.2.st⟩
open Classical in
noncomputable def chkO (s : Sg) (ps ss : List Int) : Int := if chkB s = true then (if OrdOk s ps ss then 0 else 60) else 40
theorem fo20 (ps ss : List Int) (φ : AV → Prop) : afieldAddr 0 none (.iptr (odA ps ss)) φ = φ (.iptr (.lst 0 (ints ps))) := by simp [afieldAddr, apart, odA, AV.cells, AV.one]
theorem fo21 (ps ss : List Int) (φ : AV → Prop) : afieldAddr 1 none (.iptr (odA ps ss)) φ = φ (.iptr (.lst 0 (ints ss))) := by simp [afieldAddr, apart, odA, AV.cells, AV.one]
theorem odA_facts (ps ss : List Int) : (odA ps ss).val = true ∧ (odA ps ss).cells.length = 2 ∧ (odA ps ss).cells.all AV.one = true ∧ (odA ps ss).unown = odA ps ss ∧ (odA ps ss).drop = odA ps ss ∧ ∀ n, (odA ps ss).blw n = true :=
 ⟨rfl, rfl, rfl, rfl, rfl, fun n => by simp [odA, bw_agg, bl_cons, bl_nil, bw_lst, ints_blw]⟩
theorem li_od (ps ss : List Int) (H : List AObj) (φ : AV → Prop) : aload (some 2) (.iptr (odA ps ss)) H φ = φ (odA ps ss) := ldi2 _ _ _ _
theorem c24 (s : Sg) (ps ss : List Int) : Pure Tryz.prog 24 [s.av, odA ps ss] (.int .i64 (chkO s ps ss)) := by
 refine fun H => k24.2.calls rfl ?_
 simp only [k24, mkF]
 obtain ⟨q1, q2, q3, q4, q5, q6⟩ := odA_facts ps ss
 simp +contextual only [stepsO, q1, sZ, Nat.reduceEqDiff, Nat.reduceAdd, ↓reduceIte, reduceCtorEq]
 refine scall_pure (c81 s) ?_
 cases hs : chkB s with
 | false =>
   have e : chkO s ps ss = 40 := by rw [chkO, if_neg (by rw [hs]; simp)]
   rw [e]
   simp +contextual only [Bool.false_eq_true, sZ, Nat.reduceEqDiff, ↓reduceIte, reduceCtorEq, Int.reduceEq]
   exact ret0 rfl rfl
 | true =>
   simp +contextual only [stepsO, fo20, fo21, ints_len, sZ, Nat.reduceEqDiff, ↓reduceIte, reduceCtorEq]
   have bad : ¬ OrdOk s ps ss → chkO s ps ss = 60 := fun h => by rw [chkO, if_pos hs, if_neg h]
   have good : OrdOk s ps ss → chkO s ps ss = 0 := fun h => by rw [chkO, if_pos hs, if_pos h]
   have ret60 : ∀ (X : List AObj), ¬ OrdOk s ps ss → aret H.length [.t 4] [(4, .int .i64 60)] (H ++ X) fun r H' => r = .int .i64 (chkO s ps ss) ∧ H' = H := fun X h => by rw [bad h]; exact ret1 rfl rfl
   have ret60' : ¬ OrdOk s ps ss → aret H.length [.t 4] [(4, .int .i64 60)] H fun r H' => r = .int .i64 (chkO s ps ss) ∧ H' = H := fun h => by rw [bad h]; exact ret0 rfl rfl
   refine fun _ _ => ⟨fun hl => ?_, fun hl => ?_⟩
   rotate_left
   ·first | exact ret60' fun h => hl (by omega) | (refine ret60' fun h => ?_; have := h.1; omega)
   refine fun _ => ⟨fun hl2 => ret60' fun h => hl2 (by have := h.2.1; omega), fun hl2 => ?_⟩
   have g0 : ∀ w, (H ++ [AObj.map (entsW w)])[H.length]? = some (.map (entsW w)) := fun w => by simp
   have gs : ∀ w w', (H ++ [AObj.map (entsW w)]).set H.length (.map (entsW w')) = H ++ [.map (entsW w')] := fun w w' => by simp
   refine swp_loop_st ps.length (fun i (w : List (Int × Int)) => OrdU ps ss i ∧ (∀ p ∈ w, ∃ j, j < i ∧ ps.getD j 0 = p.1 ∧ ss.getD j 0 = p.2) ∧ ∀ j, j < i → ∃ p ∈ w, p.1 = ps.getD j 0)
    (fun i w => [(3, .iptr (odA ps ss)), (6, .map H.length), (35, .lst 0 (ints ps)), (36, .int .i64 s.ops.length), (37, .int .i64 i)]) (fun i w => H ++ [.map (entsW w)]) []
    ⟨⟨⟨fun j h => by omega, fun j k h => by omega⟩, (fun p h => by cases h), fun j h => by omega⟩, sle_refl _ _ _⟩ fun i w hi hI => ?_
   ·obtain ⟨hu, hw1, hw2⟩ := hI
    have nbad : ∀ j, j < ps.length → ¬ (0 ≤ ps.getD j 0 ∧ ps.getD j 0 ≤ 255 ∧ 1 ≤ ss.getD j 0 ∧ ss.getD j 0 ≤ 3) → ¬ OrdOk s ps ss := fun j hj h h' => h (h'.2.2.rng j hj)
    by_cases hia : (i : Int) < s.ops.length
    ·have hip : i < ps.length := by omega
     simp +contextual only [fo21, idx_intsI, Int.toNat_natCast, g0, hia, decide_true, sZ, Nat.reduceEqDiff, ↓reduceIte]
     generalize hp : ps.getD i 0 = p
     generalize hq : ss.getD i 0 = q
     refine ⟨by omega, ⟨by omega, by omega⟩, ?_⟩
     by_cases r1 : p < 0
     ·refine lkW (fun o _ => ?_) (fun _ => ?_)
      all_goals
       simp +contextual only [r1, decide_true, sZ, Nat.reduceEqDiff, Nat.reduceAdd, Nat.reduceLT, ↓reduceIte, reduceCtorEq]
       exact ret60 _ (nbad i hip (by rw [hp]; omega))
     ·by_cases r2 : 255 < p
      ·refine lkW (fun o _ => ?_) (fun _ => ?_)
       all_goals
        simp +contextual only [r1, r2, decide_true, decide_false, sZ, Nat.reduceEqDiff, Nat.reduceAdd, Nat.reduceLT, ↓reduceIte, reduceCtorEq]
        exact ret60 _ (nbad i hip (by rw [hp]; omega))
      ·by_cases r3 : q < 1
       ·refine lkW (fun o _ => ?_) (fun _ => ?_)
        all_goals
         simp +contextual only [r1, r2, r3, decide_true, decide_false, sZ, Nat.reduceEqDiff, Nat.reduceAdd, Nat.reduceLT, ↓reduceIte, reduceCtorEq]
         exact ret60 _ (nbad i hip (by rw [hq]; omega))
       ·by_cases r4 : 3 < q
        ·refine lkW (fun o _ => ?_) (fun _ => ?_)
         all_goals
          simp +contextual only [r1, r2, r3, r4, decide_true, decide_false, sZ, Nat.reduceEqDiff, Nat.reduceAdd, Nat.reduceLT, ↓reduceIte, reduceCtorEq]
          exact ret60 _ (nbad i hip (by rw [hq]; omega))
        ·have hrng : 0 ≤ p ∧ p ≤ 255 ∧ 1 ≤ q ∧ q ≤ 3 := ⟨by omega, by omega, by omega, by omega⟩
         have next : (∀ j, j < i → ps.getD j 0 = p → ss.getD j 0 = q) → ∀ w' : List (Int × Int), (∀ x ∈ w', x ∈ w ∨ x = (p, q)) → (∀ x ∈ w, ∃ y ∈ w', y.1 = x.1) → (p, q) ∈ w' → OrdU ps ss (i + 1) ∧ (∀ x ∈ w', ∃ j, j < i + 1 ∧ ps.getD j 0 = x.1 ∧ ss.getD j 0 = x.2) ∧ ∀ j, j < i + 1 → ∃ x ∈ w', x.1 = ps.getD j 0 := by
          intro hsame w' m1 m2 m3
          refine ⟨⟨fun j hj => ?_, fun j k hj hk he => ?_⟩, fun x hx => ?_, fun j hj => ?_⟩
          ·by_cases e : j = i
           ·subst e; rw [hp, hq]; exact hrng
           ·exact hu.rng j (by omega)
          ·by_cases e : j = i
           ·by_cases e' : k = i
            ·rw [e, e']
            ·subst e; rw [hp] at he; rw [hq]; exact (hsame k (by omega) he.symm).symm
           ·by_cases e' : k = i
            ·subst e'; rw [hp] at he; rw [hq]; exact hsame j (by omega) he
            ·exact hu.st j k (by omega) (by omega) he
          ·rcases m1 x hx with h | rfl
           ·obtain ⟨j, h1, h2, h3⟩ := hw1 x h; exact ⟨j, by omega, h2, h3⟩
           ·exact ⟨i, by omega, hp, hq⟩
          ·by_cases e : j = i
           ·subst e; rw [hp]; exact ⟨_, m3, rfl⟩
           ·obtain ⟨x, h1, h2⟩ := hw2 j (by omega)
            obtain ⟨y, h3, h4⟩ := m2 x h1
            exact ⟨y, h3, h4.trans h2⟩
         refine lkW (fun o ho => ?_) (fun hno => ?_)
         ·obtain ⟨j0, hj1, hj2, hj3⟩ := hw1 _ ho
          simp only at hj2 hj3
          by_cases ho2 : o = q
          ·subst ho2
           have d0 : decide (¬ o = o) = false := by simp
           simp +contextual only [r1, r2, r3, r4, decide_false, g0, sZ, Nat.reduceEqDiff, Nat.reduceAdd, Nat.reduceLT, ↓reduceIte]
           refine msW fun w' m1 m2 m3 => ?_
           simp +contextual only [gs, sZ, Nat.reduceEqDiff, ↓reduceIte]
           refine ⟨i + 1, w', ⟨hip, next (fun j hj he => ?_) w' m1 m2 m3⟩, by omega, sle_eq (by rw [wrap_nat i (by omega)]) rfl⟩
           rw [hu.st j j0 hj hj1 (he.trans hj2.symm), hj3]
          ·have d0 : decide (¬ o = q) = true := by simp [ho2]
           simp +contextual only [r1, r2, r3, r4, decide_false, d0, sZ, Nat.reduceEqDiff, Nat.reduceAdd, Nat.reduceLT, ↓reduceIte, reduceCtorEq]
           exact ret60 _ fun h => ho2 (by rw [← hj3, ← hq]; exact h.2.2.st j0 i (by omega) hip (hj2.trans hp.symm))
         ·simp +contextual only [r1, r2, r3, r4, decide_false, g0, sZ, Nat.reduceEqDiff, Nat.reduceAdd, Nat.reduceLT, ↓reduceIte]
          refine msW fun w' m1 m2 m3 => ?_
          simp +contextual only [gs, sZ, Nat.reduceEqDiff, ↓reduceIte]
          refine ⟨i + 1, w', ⟨hip, next (fun j hj he => ?_) w' m1 m2 m3⟩, by omega, sle_eq (by rw [wrap_nat i (by omega)]) rfl⟩
          obtain ⟨x, h1, h2⟩ := hw2 j hj
          exact absurd (h2.trans he) (hno x h1)
    ·have hii : i = ps.length := by omega
     subst hii
     rw [good ⟨by omega, by omega, hu⟩]
     simp +contextual only [hia, decide_false, sZ, Nat.reduceEqDiff, ↓reduceIte, reduceCtorEq]
     exact ret1 rfl rfl
end Go.Abs
end
section
set_option maxRecDepth 100000
namespace Go.Abs
open Go Go.Proofs Go.Rpo
theorem c114g (g : Nat) (caps : List AV) (hcap : caps.map AV.unown = caps) (p : T → Bool) (l : List T) (hf : ∀ x ∈ l, Pure Tryz.prog g ([x.av] ++ caps) (.bool (p x))) :
 Pure Tryz.prog 114 [.lst 0 (avs l), .fn (.func g) [] caps] (.int .i64 (idxT p l 0)) := by
 refine fun H => k114.2.calls rfl ?_
 simp only [k114, mkF]
 simp +contextual only [sZ, Nat.reduceEqDiff, Nat.reduceAdd, ↓reduceIte, reduceCtorEq]
 intro hl
 refine swp_loop_nat l.length (fun i => idxT p (l.drop i) i = idxT p l 0) (fun i => [(0, .lst 0 (avs l)), (1, .fn (.func g) [] caps), (7, .int .i64 l.length), (8, .int .i64 i)]) (fun _ => H) ⟨rfl, sle_refl _ _ _⟩ fun i hi hI => ?_
 simp +contextual only [hcap, sZ, Nat.reduceEqDiff, Nat.reduceAdd, ↓reduceIte, reduceCtorEq]
 refine ⟨fun hlt => ?_, fun hge => ?_⟩
 ·have hlt := len_lt hlt
  rw [idxT_drop hlt] at hI
  refine ⟨hlt, scall_pure (hf _ (mem_getD hlt)) ?_⟩
  cases hb : p (l.getD i default) with
  | true =>
    rw [if_pos hb] at hI
    simp +contextual only [sZ, Nat.reduceEqDiff, ↓reduceIte, reduceCtorEq]
    exact ret0 rfl (by rw [← hI])
  | false =>
    rw [if_neg (by rw [hb]; simp)] at hI
    simp +contextual only [sZ, Nat.reduceEqDiff, ↓reduceIte, reduceCtorEq]
    exact ⟨i + 1, ⟨hlt, hI⟩, by omega, sle_eq (by rw [wrap_nat i (by omega)]) rfl⟩
 ·rw [List.drop_of_length_le (len_nlt hge)] at hI
  exact ret0 rfl (by rw [← hI]; rfl)
theorem c53g (g : Nat) (caps : List AV) (hcap : caps.map AV.unown = caps) (p : T → Bool) (l : List T) (hf : ∀ x ∈ l, Pure Tryz.prog g ([x.av] ++ caps) (.bool (p x))) :
 Pure Tryz.prog 53 [.lst 0 (avs l), .fn (.func g) [] caps] (.bool (l.any p)) := by
 refine fun H => k53.2.calls rfl ?_
 simp only [k53, mkF]
 simp +contextual only [sZ, Nat.reduceEqDiff, Nat.reduceAdd, ↓reduceIte, reduceCtorEq]
 refine scall_pure (c114g g caps hcap p l hf) ?_
 simp +contextual only [sZ, ↓reduceIte, reduceCtorEq]
 exact ret0 rfl (by rw [idxT_any p l 0 (by omega)])
theorem c130 (x : T) : Pure Tryz.prog 130 [x.av] (.int .i64 (if x.tree = true then 0 else 4)) := by
 refine fun H => k130.2.calls rfl ?_
 simp only [k130, mkF]
 simp +contextual only [sZ, Nat.reduceEqDiff, Nat.reduceAdd, ↓reduceIte]
 refine scall_pure (c108 x) ?_
 cases h : x.tree with
 | true => simp +contextual only [Bool.not_true, sZ, ↓reduceIte, reduceCtorEq]; exact ret0 rfl rfl
 | false => simp +contextual only [Bool.not_false, sZ, ↓reduceIte, reduceCtorEq]; exact ret0 rfl rfl
mutual
def ovT (s : Sg) : T → Bool
 | .mk k n l => !(decide (k = 2) && (decide ((s.ops.length : Int) ≤ n) || !decide ((l.length : Int) = ((s.ops.getD n.toNat default).args.length : Nat)))) && ovL s l
def ovL (s : Sg) : List T → Bool
 | [] => true
 | x :: r => ovT s x && ovL s r
end
theorem ovL_all (s : Sg) : ∀ l, ovL s l = !(l.any fun x => !ovT s x)
 | [] => rfl
 | x :: r => by rw [ovL, ovL_all s r, List.any_cons]; cases ovT s x <;> simp
theorem c131 (s : Sg) : ∀ t : T, t.shaped = true → Pure Tryz.prog 131 [s.av, t.av] (.bool (ovT s t)) := by
 suffices h : ∀ N t, wt t ≤ N → t.shaped = true → Pure Tryz.prog 131 [s.av, t.av] (.bool (ovT s t)) from fun t ht => h _ t (Nat.le_refl _) ht
 intro N
 induction N with
 | zero => intro t h; have := wt_pos t; omega
 | succ N ih =>
 intro t hN hs H
 have hk := shaped_kids hs
 have c182 : ∀ x ∈ t.l, Pure Tryz.prog 182 ([x.av] ++ [.iptr s.av]) (.bool (!ovT s x)) := by
  intro x hx H
  refine k182.2.calls rfl ?_
  simp only [k182, mkF]
  simp +contextual only [stepsO, sZ, Nat.reduceEqDiff, Nat.reduceAdd, ↓reduceIte, reduceCtorEq]
  refine scall_pure (ih x (by have := wt_mem hx; omega) (hk.2 x hx)) ?_
  simp +contextual only [sZ, ↓reduceIte, reduceCtorEq]
  exact ret0 rfl rfl
 have hn : 0 ≤ t.n := by
  rw [T.shaped_eq] at hs
  simp only [Bool.and_eq_true, Bool.not_eq_true', Bool.or_eq_false_iff, decide_eq_false_iff_not] at hs
  have := hs.1.1.1.1
  omega
 obtain ⟨m, hm⟩ := Int.eq_ofNat_of_zero_le hn
 refine k131.2.calls rfl ?_
 simp only [k131, mkF]
 have e : ovT s t = (!(decide (t.k = 2) && (decide ((s.ops.length : Int) ≤ t.n) || !decide ((t.l.length : Int) = ((s.ops.getD t.n.toNat default).args.length : Nat)))) && !(t.l.any fun x => !ovT s x)) := by
  rw [← ovL_all]; cases t; rfl
 have fin : (!(decide (t.k = 2) && (decide ((s.ops.length : Int) ≤ t.n) || !decide ((t.l.length : Int) = ((s.ops.getD t.n.toNat default).args.length : Nat))))) = false → aret H.length [.t 4] [(4, .bool false)] H fun r H' => r = .bool (ovT s t) ∧ H' = H := by
  intro h
  rw [e, h]; exact ret0 rfl rfl
 by_cases h2 : t.k = 2
 ·by_cases h3 : (s.ops.length : Int) ≤ t.n
  ·simp +contextual only [stepsO, h2, h3, decide_true, sZ, Nat.reduceEqDiff, Nat.reduceAdd, ↓reduceIte, reduceCtorEq]
   exact fin (by simp [h2, h3])
  ·have hml : m < s.ops.length := by omega
   have h3' : ¬ (s.ops.length : Int) ≤ (m : Int) := by omega
   have em : t.n.toNat = m := by omega
   by_cases h4 : (t.l.length : Int) = ((s.ops.getD m default).args.length : Nat)
   ·simp +contextual only [stepsO, h2, h3', h4, hm, hml, ints_len, decide_true, decide_false, sZ, Nat.reduceEqDiff, Nat.reduceAdd, ↓reduceIte, reduceCtorEq]
    refine scall_pure (c53g 182 [.iptr s.av] rfl _ t.l c182) ?_
    simp +contextual only [sZ, ↓reduceIte, reduceCtorEq]
    refine ret0 rfl ?_
    rw [e, em, h4]
    simp [h2, h3]
   ·simp +contextual only [stepsO, h2, h3', h4, hm, hml, ints_len, decide_true, decide_false, sZ, Nat.reduceEqDiff, Nat.reduceAdd, ↓reduceIte, reduceCtorEq]
    exact fin (by rw [em, decide_eq_true h2, decide_eq_false h3, decide_eq_false h4]; rfl)
 ·simp +contextual only [stepsO, h2, decide_false, sZ, Nat.reduceEqDiff, Nat.reduceAdd, ↓reduceIte, reduceCtorEq]
  refine scall_pure (c53g 182 [.iptr s.av] rfl _ t.l c182) ?_
  simp +contextual only [sZ, ↓reduceIte, reduceCtorEq]
  refine ret0 rfl ?_
  rw [e]
  simp [h2]
noncomputable def askS (s : Sg) (ps ss : List Int) (l : List T) : Int := if chkO s ps ss = 0 then (if (l.all fun t => t.tree && ovT s t) = true then 0 else 4) else chkO s ps ss
theorem all_dropT {p : T → Bool} {l : List T} {i : Nat} (h : i < l.length) : (l.drop i).all p = (p (l.getD i default) && (l.drop (i + 1)).all p) := by
 have e : l.getD i default = l[i] := by simp [h]
 rw [List.drop_eq_getElem_cons h, List.all_cons, e]
theorem c74 (s : Sg) (ps ss : List Int) (l : List T) : Pure Tryz.prog 74 [s.av, odA ps ss, .lst 0 (avs l)] (.int .i64 (askS s ps ss l)) := by
 refine fun H => k74.2.calls rfl ?_
 simp only [k74, mkF]
 obtain ⟨q1, q2, q3, q4, q5, q6⟩ := odA_facts ps ss
 simp +contextual only [stepsO, q1, q4, li_od, sZ, Nat.reduceEqDiff, Nat.reduceAdd, ↓reduceIte, reduceCtorEq]
 refine scall_pure (c24 s ps ss) ?_
 by_cases h0 : chkO s ps ss = 0
 ·simp +contextual only [h0, sZ, Nat.reduceEqDiff, ↓reduceIte]
  intro _
  refine swp_loop_nat l.length (fun i => l.all (fun t => t.tree && ovT s t) = (l.drop i).all fun t => t.tree && ovT s t) (fun i => [(3, .iptr s.av), (16, .lst 0 (avs l)), (17, .int .i64 l.length), (18, .int .i64 i)]) (fun _ => H) ⟨rfl, sle_refl _ _ _⟩ fun i hi hI => ?_
  by_cases hil : (i : Int) < l.length
  ·have hlt : i < l.length := by omega
   rw [all_dropT hlt] at hI
   simp +contextual only [hil, decide_true, sZ, Nat.reduceEqDiff, Nat.reduceAdd, ↓reduceIte]
   refine ⟨hlt, scall_pure (c130 _) ?_⟩
   cases ht : (l.getD i default).tree with
   | false =>
     rw [ht, Bool.false_and, Bool.false_and] at hI
     simp +contextual only [sZ, Nat.reduceEqDiff, ↓reduceIte, reduceCtorEq, Int.reduceEq]
     refine ret0 rfl ?_
     rw [askS, if_pos h0, hI, if_neg (by simp)]
   | true =>
     rw [ht, Bool.true_and] at hI
     simp +contextual only [stepsO, sZ, Nat.reduceEqDiff, Nat.reduceAdd, ↓reduceIte]
     refine scall_pure (c131 s _ ((T.tree_iff _).1 ht).2.2) ?_
     cases ho : ovT s (l.getD i default) with
     | false =>
       rw [ho, Bool.false_and] at hI
       simp +contextual only [Bool.not_false, sZ, Nat.reduceEqDiff, ↓reduceIte, reduceCtorEq]
       refine ret0 rfl ?_
       rw [askS, if_pos h0, hI, if_neg (by simp)]
     | true =>
       rw [ho, Bool.true_and] at hI
       simp +contextual only [Bool.not_true, sZ, Nat.reduceEqDiff, ↓reduceIte]
       exact ⟨i + 1, ⟨hlt, hI⟩, by omega, sle_eq (by rw [wrap_nat i (by omega)]) rfl⟩
  ·simp +contextual only [hil, decide_false, sZ, Nat.reduceEqDiff, ↓reduceIte, reduceCtorEq]
   rw [List.drop_of_length_le (by omega)] at hI
   refine ret0 rfl ?_
   rw [askS, if_pos h0, hI]; rfl
 ·simp +contextual only [h0, sZ, Nat.reduceEqDiff, ↓reduceIte, reduceCtorEq]
  refine ret0 rfl ?_
  rw [askS, if_neg h0]
theorem ov_all {s : Sg} : ∀ t : T, t.shaped = true → ovT s t = true → All (fun n => 0 ≤ n ∧ n < s.ops.length) t := by
 suffices h : ∀ N t, wt t ≤ N → t.shaped = true → ovT s t = true → All (fun n => 0 ≤ n ∧ n < s.ops.length) t from fun t => h _ t (Nat.le_refl _)
 intro N
 induction N with
 | zero => intro t h; have := wt_pos t; omega
 | succ N ih =>
 intro t hN hs ho
 have hn : 0 ≤ t.n := by
  rw [T.shaped_eq] at hs
  simp only [Bool.and_eq_true, Bool.not_eq_true', Bool.or_eq_false_iff, decide_eq_false_iff_not] at hs
  have := hs.1.1.1.1
  omega
 have hk := (shaped_kids hs).2
 obtain ⟨k, n, l⟩ := t
 rw [ovT, ovL_all] at ho
 simp only [Bool.and_eq_true, Bool.not_eq_true', Bool.and_eq_false_iff, Bool.or_eq_false_iff, decide_eq_false_iff_not, List.any_eq_false, Bool.not_eq_false'] at ho
 refine All.mk k n l (fun hk2 => ?_) fun x hx => ih x (by have := wt_mem (a := .mk k n l) hx; omega) (hk x hx) ?_
 ·rcases ho.1 with h | h
  ·exact absurd hk2 h
  ·exact ⟨hn, by omega⟩
 ·have := ho.2 x hx
  simpa using this
end Go.Abs
end
section
set_option maxRecDepth 100000
namespace Go.Abs
open Go Go.Proofs Go.Rpo
mutual
theorem wt_sz : ∀ t : T, (wt t : Int) = t.sz
 | .mk k n l => by rw [wt, T.sz]; have := wts_szs l; omega
theorem wts_szs : ∀ l : List T, (wts l : Int) = szs l
 | [] => rfl
 | x :: r => by rw [wts, szs]; have := wt_sz x; have := wts_szs r; omega
end
theorem wts_all {l : List T} (h : ∀ t ∈ l, t.tree = true) : wts l ≤ 2000 * l.length := by
 induction l with
 | nil => simp [wts]
 | cons x r ih =>
   have := ih fun t ht => h t (List.mem_cons_of_mem _ ht)
   have h1 := ((T.tree_iff x).1 (h x List.mem_cons_self)).1
   have h2 := wt_sz x
   rw [wts, List.length_cons]; omega
structure Rt0 (s : Sg) (ps ss : List Int) (l : List T) : Prop where
 ord : OrdOk s ps ss
 tree : ∀ t ∈ l, t.tree = true
 all : ∀ t ∈ l, All (fun n => 0 ≤ n ∧ n < ps.length) t
theorem chkO_iff {s : Sg} {ps ss : List Int} : chkO s ps ss = 0 ↔ chkB s = true ∧ OrdOk s ps ss := by
 unfold chkO
 by_cases h : chkB s = true
 ·by_cases h2 : OrdOk s ps ss
  ·rw [if_pos h, if_pos h2]; simp [h, h2]
  ·rw [if_pos h, if_neg h2]; simp [h2]
 ·rw [if_neg h]; simp [h]
theorem askS_ok {s : Sg} {ps ss : List Int} {l : List T} (h : askS s ps ss l = 0) : Rt0 s ps ss l := by
 unfold askS at h
 split at h
 ·rename_i h0
  have h1 := (chkO_iff.1 h0).2
  split at h
  ·rename_i h2
   have h3 := List.all_eq_true.1 h2
   refine ⟨h1, fun t ht => ?_, fun t ht => ?_⟩
   ·have := h3 t ht; simp only [Bool.and_eq_true] at this; exact this.1
   ·have := h3 t ht
    simp only [Bool.and_eq_true] at this
    rw [h1.1]
    exact ov_all t ((T.tree_iff t).1 this.1).2.2 this.2
  ·cases h
 ·rename_i h0; exact absurd h h0
theorem Rt0.cx {s : Sg} {ps ss : List Int} {l : List T} (h : Rt0 s ps ss l) (hne : l ≠ []) (hl : l.length ≤ 10000) (n : Nat) : (cxOf ps ss l n).Ok :=
 cx_ok h.ord.va hne (by have := wts_all h.tree; omega) h.all n
open Classical in
noncomputable def grB (ps ss : List Int) (a b : T) : Bool := decide (R (odOf ps ss) a b)
open Classical in
noncomputable def eqB (ps ss : List Int) (a b : T) : Bool := decide (E (odOf ps ss) a b)
theorem grB_iff {ps ss : List Int} {a b : T} : grB ps ss a b = true ↔ R (odOf ps ss) a b := by simp [grB]
theorem eqB_iff {ps ss : List Int} {a b : T} : eqB ps ss a b = true ↔ E (odOf ps ss) a b := by simp [eqB]
theorem kav2 (a b : T) : kav (kidsOf [a, b] 0) = .lst 0 (ints (kidsOf [a, b] 0)) := rfl
theorem ret2g {Hs G : List AObj} {n0 a b : Nat} {u v x y : AV} {R : AV → List AObj → Prop} (hab : b ≠ a) (hH : Hs.take n0 = G) (hb : x.blw n0 = true ∧ y.blw n0 = true) (hx : u.unown = x) (hy : v.unown = y) (hR : R (.tuple [x, y]) G) : aret n0 [.t a, .t b] [(a, u), (b, v)] Hs R := by
 subst hH; subst hx; subst hy
 refine ⟨n0, Nat.le_refl _, [u.unown, v.unown], ?_, by simp only [belowL, hb.1, hb.2, Bool.and_self], hR⟩
 simp only [gt_cons, if_neg hab, if_true, List.map]
 exact LeL_refl _
theorem Up.low {c : Cx} {H X G : List AObj} (h : Up c (H ++ X) G) (he : H.length ≤ c.e) (hg : H.length ≤ c.g) : G.take H.length = H := by
 apply List.ext_getElem?
 intro j
 rw [List.getElem?_take]
 split
 ·rename_i hj
  rw [h.get j (by omega) (by omega), List.getElem?_append_left hj]
 ·rename_i hj
  rw [List.getElem?_eq_none (by omega)]
theorem c20 (s : Sg) (ps ss : List Int) (a b : T) : Pure Tryz.prog 20 [s.av, odA ps ss, a.av, b.av] (.tuple [.bool (if askS s ps ss [a, b] = 0 then grB ps ss a b else false), .int .i64 (askS s ps ss [a, b])]) := by
 refine fun H => k20.2.calls rfl ?_
 simp only [k20, mkF]
 obtain ⟨q1, q2, q3, q4, q5, q6⟩ := odA_facts ps ss
 simp +contextual only [stepsO, q1, q4, li_od, sZ, Nat.reduceEqDiff, Nat.reduceAdd, ↓reduceIte, reduceCtorEq]
 refine scall_pure (c74 s ps ss [a, b]) ?_
 by_cases h0 : askS s ps ss [a, b] = 0
 ·rw [if_pos h0]
  have hr := askS_ok h0
  have hw := wts_all hr.tree
  have hc := hr.cx (by simp) (by simp) H.length
  have hd := cx_du ps ss (ts := [a, b]) (by simp) H
  simp +contextual only [q4, li_od, h0, sZ, Nat.reduceEqDiff, Nat.reduceAdd, ↓reduceIte]
  refine scall_to (c75 ps ss [a, b] H (by simp at hw; omega)) ?_
  rintro r G ⟨rfl, rfl⟩
  have a0 := cx_at (ps := ps) (ss := ss) (ts := [a, b]) (n := H.length) (j := 0) (by simp)
  have a1 := cx_at (ps := ps) (ss := ss) (ts := [a, b]) (n := H.length) (j := 1) (by simp)
  have hl := kidsOf_len [a, b] 0
  rw [kav2]
  generalize kidsOf [a, b] 0 = ks at a0 a1 hl ⊢
  have hl2 : ks.length = 2 := hl
  simp +contextual only [idx_intsI, hl2, lens_ints, sZ, Nat.reduceEqDiff, Nat.reduceAdd, Nat.reduceLT, ↓reduceIte, reduceCtorEq]
  refine ⟨by decide, by decide, scall_to (more_c hc a0.1 a1.1 _ hd) ?_⟩
  rintro r G ⟨x, rfl, hx, hU, hD⟩
  rw [a0.2, a1.2] at hx
  simp +contextual only [sZ, Nat.reduceEqDiff, ↓reduceIte, reduceCtorEq]
  have ex : x = grB ps ss a b := by rw [Bool.eq_iff_iff, grB_iff]; exact hx
  rw [ex]
  exact ret2g (by decide) (hU.low (by simp [cxOf]) (by simp [cxOf])) ⟨rfl, rfl⟩ rfl rfl ⟨by rw [h0]; rfl, rfl⟩
 ·rw [if_neg h0]
  simp +contextual only [h0, sZ, Nat.reduceEqDiff, ↓reduceIte, reduceCtorEq]
  exact ret2g (by decide) List.take_length ⟨rfl, rfl⟩ rfl rfl ⟨rfl, rfl⟩
theorem c22 (s : Sg) (ps ss : List Int) (a b : T) : Pure Tryz.prog 22 [s.av, odA ps ss, a.av, b.av] (.tuple [.bool (if askS s ps ss [a, b] = 0 then eqB ps ss a b else false), .int .i64 (askS s ps ss [a, b])]) := by
 refine fun H => k22.2.calls rfl ?_
 simp only [k22, mkF]
 obtain ⟨q1, q2, q3, q4, q5, q6⟩ := odA_facts ps ss
 simp +contextual only [stepsO, q1, q4, li_od, sZ, Nat.reduceEqDiff, Nat.reduceAdd, ↓reduceIte, reduceCtorEq]
 refine scall_pure (c74 s ps ss [a, b]) ?_
 by_cases h0 : askS s ps ss [a, b] = 0
 ·rw [if_pos h0]
  have hr := askS_ok h0
  have hw := wts_all hr.tree
  have hc := hr.cx (by simp) (by simp) H.length
  have hd := cx_du ps ss (ts := [a, b]) (by simp) H
  simp +contextual only [q4, li_od, h0, sZ, Nat.reduceEqDiff, Nat.reduceAdd, ↓reduceIte]
  refine scall_to (c75 ps ss [a, b] H (by simp at hw; omega)) ?_
  rintro r G ⟨rfl, rfl⟩
  have a0 := cx_at (ps := ps) (ss := ss) (ts := [a, b]) (n := H.length) (j := 0) (by simp)
  have a1 := cx_at (ps := ps) (ss := ss) (ts := [a, b]) (n := H.length) (j := 1) (by simp)
  have hl := kidsOf_len [a, b] 0
  rw [kav2]
  generalize kidsOf [a, b] 0 = ks at a0 a1 hl ⊢
  have hl2 : ks.length = 2 := hl
  simp +contextual only [idx_intsI, hl2, lens_ints, sZ, Nat.reduceEqDiff, Nat.reduceAdd, Nat.reduceLT, ↓reduceIte, reduceCtorEq]
  refine ⟨by decide, by decide, scall_to (same_c hc a0.1 a1.1 _ hd) ?_⟩
  rintro r G ⟨x, rfl, hx, hU, hD⟩
  rw [a0.2, a1.2] at hx
  simp +contextual only [sZ, Nat.reduceEqDiff, ↓reduceIte, reduceCtorEq]
  have ex : x = eqB ps ss a b := by rw [Bool.eq_iff_iff, eqB_iff]; exact hx
  rw [ex]
  exact ret2g (by decide) (hU.low (by simp [cxOf]) (by simp [cxOf])) ⟨rfl, rfl⟩ rfl rfl ⟨by rw [h0]; rfl, rfl⟩
 ·rw [if_neg h0]
  simp +contextual only [h0, sZ, Nat.reduceEqDiff, ↓reduceIte, reduceCtorEq]
  exact ret2g (by decide) List.take_length ⟨rfl, rfl⟩ rfl rfl ⟨rfl, rfl⟩
end Go.Abs
end
section
set_option maxRecDepth 100000
set_option maxHeartbeats 0
namespace Go.Abs
open Go Go.Proofs
noncomputable def k163v := mkF Tryz.call163 Tryz.func163 Tryz.ntmps163 [(0,0,1),(0,1,1),(1,4,1),(1,5,1),(4,2,1000),(5,0,1),(5,7,1),(8,6,2000)] [(0,[2,3]),(1,[2,3,5]),(2,[2,5,16,17,18]),(3,[2,5,16,17,18,19]),(4,[2,5,7,16,17,18]),(5,[2,5,16,17,18]),(6,[2,5,16,17,18]),(7,[8,9]),(8,[4])] [(8,(.take 0 true (.take 1 true (.take 2 true (.take 3 true (.take 4 true (.take 5 true (.br 6 (.take 7 true .done) .nil))))))))]
end Go.Abs
end
section
set_option maxRecDepth 100000
namespace Go.Abs
open Go Go.Proofs Go.Rpo
structure Cn where
 a : T
 b : T
deriving Inhabited
def Cn.av (c : Cn) : AV := .agg [.int .i64 c.a.k, .int .i64 c.a.n, .lst 0 (avs c.a.l), .int .i64 c.b.k, .int .i64 c.b.n, .lst 0 (avs c.b.l)]
def cnas (l : List Cn) : List AV := l.map Cn.av
structure Eqt where
 vs : List Int
 cs : List Cn
 a : T
 b : T
deriving Inhabited
def Eqt.av (e : Eqt) : AV := .agg [.lst 0 (ints e.vs), .lst 0 (cnas e.cs), .int .i64 e.a.k, .int .i64 e.a.n, .lst 0 (avs e.a.l), .int .i64 e.b.k, .int .i64 e.b.n, .lst 0 (avs e.b.l)]
def Eqt.rest (e : Eqt) : List T := e.b :: e.cs.flatMap fun c => [c.a, c.b]
theorem cnas_len (l : List Cn) : (cnas l).length = l.length := by simp [cnas]
theorem cnas_blw (n : Nat) (l : List Cn) : belowL n (cnas l) = true := by
 rw [belowL_iff]; intro x hx; obtain ⟨y, _, rfl⟩ := List.mem_map.1 hx
 simp [Cn.av, AV.blw, belowL, avs_blw]
theorem Eqt.facts (e : Eqt) : e.av.val = true ∧ e.av.cells.length = 8 ∧ e.av.cells.all AV.one = true ∧ e.av.unown = e.av ∧ e.av.drop = e.av ∧ ∀ n, e.av.blw n = true :=
 ⟨rfl, rfl, rfl, rfl, rfl, fun n => by simp [Eqt.av, AV.blw, belowL, avs_blw, ints_blw, cnas_blw]⟩
theorem Cn.facts (e : Cn) : e.av.val = true ∧ e.av.cells.length = 6 ∧ e.av.cells.all AV.one = true ∧ e.av.unown = e.av ∧ e.av.drop = e.av ∧ ∀ n, e.av.blw n = true :=
 ⟨rfl, rfl, rfl, rfl, rfl, fun n => by simp [Cn.av, AV.blw, belowL, avs_blw]⟩
theorem T.eq_agg (t : T) : AV.agg [.int .i64 t.k, .int .i64 t.n, .lst 0 (avs t.l)] = t.av := by cases t; rfl
theorem feA (e : Eqt) (φ : AV → Prop) : afieldAddr 2 (some 3) (.iptr e.av) φ = φ (.iptr e.a.av) := by simp [afieldAddr, apart, Eqt.av, AV.cells, ← T.eq_agg]
theorem feB (e : Eqt) (φ : AV → Prop) : afieldAddr 5 (some 3) (.iptr e.av) φ = φ (.iptr e.b.av) := by simp [afieldAddr, apart, Eqt.av, AV.cells, ← T.eq_agg]
theorem feC (e : Eqt) (φ : AV → Prop) : afieldAddr 1 none (.iptr e.av) φ = φ (.iptr (.lst 0 (cnas e.cs))) := by simp [afieldAddr, apart, Eqt.av, AV.cells, AV.one]
theorem fcA (e : Cn) (φ : AV → Prop) : afieldAddr 0 (some 3) (.iptr e.av) φ = φ (.iptr e.a.av) := by simp [afieldAddr, apart, Cn.av, AV.cells, ← T.eq_agg]
theorem fcB (e : Cn) (φ : AV → Prop) : afieldAddr 3 (some 3) (.iptr e.av) φ = φ (.iptr e.b.av) := by simp [afieldAddr, apart, Cn.av, AV.cells, ← T.eq_agg]
theorem lens_cn (o : Nat) (l : List Cn) : (∀ (own : Nat) (xs : List AV), AV.lst o (cnas l) = AV.lst own xs → ∀ z ∈ xs, z.cells.length = 6) = True := by
 simp only [eq_iff_iff, iff_true]
 intro own xs e z hz
 cases e
 obtain ⟨y, _, rfl⟩ := List.mem_map.1 hz; rfl
theorem idx_cn (e o : Nat) (l : List Cn) (k : IntKind) (i : Nat) (φ : AV → Prop) : aindexAddr e (.lst o (cnas l)) (.int k (i : Int)) φ = (i < l.length ∧ φ (.iptr (l.getD i default).av)) := by
 simp only [aindexAddr, cnas_len, Int.toNat_natCast, eq_iff_iff]
 constructor
 ·rintro ⟨_, h, h2⟩; refine ⟨h, ?_⟩; simpa [cnas, h] using h2
 ·rintro ⟨h, h2⟩; refine ⟨by omega, h, ?_⟩; simpa [cnas, h] using h2
theorem li_cn (e : Cn) (H : List AObj) (φ : AV → Prop) : aload (some 6) (.iptr e.av) H φ = φ e.av := by simp [aload, Cn.av, AV.cells]
def DecQ (ps ss : List Int) (e : Eqt) : Prop := ∀ y ∈ e.rest, R (odOf ps ss) e.a y
def cnT (l : List Cn) : List T := l.flatMap fun c => [c.a, c.b]
theorem cnT_take {l : List Cn} {i : Nat} (h : i < l.length) : cnT (l.take (i + 1)) = cnT (l.take i) ++ [(l.getD i default).a, (l.getD i default).b] := by
 have e : l.getD i default = l[i] := by simp [h]
 rw [List.take_succ_eq_append_getElem h, e]
 unfold cnT
 rw [List.flatMap_append]
 rfl
theorem cnT_len (l : List Cn) : (cnT l).length = 2 * l.length := by
 induction l with
 | nil => rfl
 | cons x r ih => simp only [cnT, List.flatMap_cons, List.length_append, List.length_cons, List.length_nil] at ih ⊢; omega
theorem avs_app (a b : List T) : avs (a ++ b) = avs a ++ avs b := by
 induction a with
 | nil => rfl
 | cons x r ih => rw [List.cons_append, avs, avs, ih]; rfl
theorem tailI (x : Int) (r : List Int) (φ : AV → Prop) : asliceX 1 (.lst 0 (ints (x :: r))) (some (.int .i64 1)) none none φ = φ (.lst 0 (ints r)) := by
 have er : rlist (AV.lst 0 (ints (x :: r))) = some (ints (x :: r)) := rfl
 have e1 : (1 : Int).toNat = 1 := rfl
 have e2 : ((ints (x :: r)).take (ints (x :: r)).length).drop 1 = ints r := by rw [List.take_length]; rfl
 simp only [asliceX, aslice, er, aidx, e1, e2, eq_iff_iff]
 constructor
 ·intro h; exact h.2.2.2.2
 ·intro h
  refine ⟨fun own xs he z hz => ?_, by omega, by simp [ints_len], Nat.le_refl _, h⟩
  cases he
  obtain ⟨y, _, rfl⟩ := List.mem_map.1 hz
  rfl
theorem c163 (ps ss : List Int) (e : Eqt) (hv : Va ps ss) (hlen : e.cs.length ≤ 1000) (ht : ∀ t ∈ e.a :: e.rest, t.tree = true) (hop : ∀ t ∈ e.a :: e.rest, All (fun n => 0 ≤ n ∧ n < ps.length) t) (H : List AObj) :
 ACalls Tryz.prog 163 [odA ps ss, e.av] H fun r H' => (∃ b : Bool, r = .bool b ∧ (b = true ↔ DecQ ps ss e)) ∧ H' = H := by
 refine k163v.2.calls rfl ?_
 simp only [k163v, mkF]
 obtain ⟨q1, q2, q3, q4, q5, q6⟩ := odA_facts ps ss
 obtain ⟨e1, e2, e3, e4, e5, e6⟩ := Eqt.facts e
 have cf := Cn.facts
 simp +contextual only [q1, e1, feA, feB, feC, cnas_len, sZ, Nat.reduceEqDiff, Nat.reduceAdd, ↓reduceIte, reduceCtorEq]
 intro _
 have rest : e.rest = e.b :: cnT e.cs := rfl
 refine swp_loop_nat e.cs.length (fun i => True) (fun i => [(2, .iptr (odA ps ss)), (5, .lst 3 (avs (e.a :: e.b :: cnT (e.cs.take i)))), (16, .lst 0 (cnas e.cs)), (17, .int .i64 e.cs.length), (18, .int .i64 i)]) (fun _ => H) ⟨trivial, sle_refl _ _ _⟩ fun i hi _ => ?_
 by_cases hil : (i : Int) < e.cs.length
 ·have hlt : i < e.cs.length := by omega
  obtain ⟨f1, f2, f3, f4, f5, f6⟩ := cf (e.cs.getD i default)
  have hl : (cnT (e.cs.take i)).length ≤ 2000 := by rw [cnT_len]; simp; omega
  have hal := avs_len (e.a :: e.b :: cnT (e.cs.take i))
  have hok : okE 3 [(e.cs.getD i default).a.av, (e.cs.getD i default).b.av] := of_eq_true (ok_avs [_, _])
  simp +contextual only [hil, decide_true, lens_cn, idx_cn, li_cn, f1, f2, f3, fcA, fcB, sZ, Nat.reduceEqDiff, Nat.reduceAdd, ↓reduceIte]
  have e7 : avs (e.a :: e.b :: cnT (e.cs.take i)) ++ [(e.cs.getD i default).a.av, (e.cs.getD i default).b.av] = avs (e.a :: e.b :: cnT (e.cs.take (i + 1))) := by
   rw [cnT_take hlt, ← List.cons_append, ← List.cons_append, avs_app]; rfl
  exact ⟨hlt, by omega, hok, i + 1, hlt, by omega, sle_eq (by rw [wrap_nat i (by omega), e7]) rfl⟩
 ·have hie : i = e.cs.length := by omega
  subst hie
  rw [List.take_length]
  have hne : e.a :: e.b :: cnT e.cs ≠ [] := by simp
  have hl : (e.a :: e.b :: cnT e.cs).length ≤ 10000 := by simp [cnT_len]; omega
  have hw := wts_all (l := e.a :: e.b :: cnT e.cs) ht
  have hc := cx_ok hv hne (by omega) hop H.length
  have hd := cx_du ps ss hne H
  simp +contextual only [hil, decide_false, li_od, q4, sZ, Nat.reduceEqDiff, Nat.reduceAdd, ↓reduceIte]
  refine scall_to (c75 ps ss (e.a :: e.b :: cnT e.cs) H (by omega)) ?_
  rintro r G ⟨rfl, rfl⟩
  have hk := (emL0 (e.a :: e.b :: cnT e.cs)).kids
  have ek : kidsOf (e.a :: e.b :: cnT e.cs) 0 = 0 :: kidsOf (e.b :: cnT e.cs) (0 + wt e.a) := by rw [kidsOf]; rfl
  have hkl := kidsOf_len (e.b :: cnT e.cs) (0 + wt e.a)
  rw [ek] at hk ⊢
  generalize kidsOf (e.b :: cnT e.cs) (0 + wt e.a) = tl at hk hkl ⊢
  obtain ⟨hk1, hk2⟩ := hk
  simp only [List.map_cons, List.cons.injEq] at hk1
  obtain ⟨ha, hb⟩ := hk1
  have e0 : ([(0 : Int)] ++ tl).getD 0 0 = 0 := rfl
  have ix0 : ∀ φ : AV → Prop, aindexAddr 1 (.lst 0 (ints (0 :: tl))) (.int .i64 0) φ = φ (.iptr (.int .i64 0)) := fun φ => by
   have := idx_intsI 1 0 (0 :: tl) .i64 0 φ
   rw [this]
   simp
  simp +contextual only [kav, ix0, lens_ints, Option.map_some, Option.map_none, tailI, sZ, Nat.reduceEqDiff, Nat.reduceAdd, Nat.reduceLT, ↓reduceIte, reduceCtorEq]
  have itl : IL (.lst 0 (ints tl)) tl := .inr rfl
  refine scall_to (c204 (c := cxOf ps ss (e.a :: e.b :: cnT e.cs) H.length) (i := 0) itl (by rw [hkl]; simp [cnT_len]; omega) (fun x hx => more_c hc (hk2 0 List.mem_cons_self) (hk2 x (List.mem_cons_of_mem _ hx))) hd) ?_
  rintro r G ⟨b, rfl, hbb, hU, hD⟩
  simp +contextual only [sZ, ↓reduceIte, reduceCtorEq]
  refine aret_one H.length (Nat.le_refl _) (by rw [gt_cons, if_pos rfl]; rfl) ?_
  rw [gt_cons, if_pos rfl]
  refine ⟨⟨b, rfl, ?_⟩, hU.low (by simp [cxOf]) (by simp [cxOf])⟩
  rw [hbb, DecQ, rest]
  have ha' : (cxOf ps ss (e.a :: e.b :: cnT e.cs) H.length).tm 0 = e.a := ha
  have hb' : tl.map (cxOf ps ss (e.a :: e.b :: cnT e.cs) H.length).tm = e.b :: cnT e.cs := hb
  rw [ha']
  generalize (cxOf ps ss (e.a :: e.b :: cnT e.cs) H.length).tm = f at hb'
  rw [← hb']
  constructor
  ·intro h y hy
   obtain ⟨x, hx, rfl⟩ := List.mem_map.1 hy
   exact h x hx
  ·intro h x hx
   exact h _ (List.mem_map.2 ⟨x, hx, rfl⟩)
end Go.Abs
end
section
namespace Go.Rpo
open Go.Abs
inductive PP where
 | mk (r i : Int) (to : List Int) (l : List PP)
 deriving Inhabited
def PP.r : PP → Int | .mk r _ _ _ => r
def PP.i : PP → Int | .mk _ i _ _ => i
def PP.to : PP → List Int | .mk _ _ to _ => to
def PP.l : PP → List PP | .mk _ _ _ l => l
mutual
def pz : PP → Nat
 | .mk _ _ _ l => pzs l + 1
def pzs : List PP → Nat
 | [] => 0
 | x :: r => pz x + pzs r
end
theorem pzs_mem {x : PP} : ∀ {l : List PP}, x ∈ l → pz x ≤ pzs l
 | y :: r, h => by
   rw [pzs]
   rcases List.mem_cons.1 h with rfl | h
   ·omega
   ·have := pzs_mem h; omega
theorem pz_pos (p : PP) : 0 < pz p := by cases p; rw [pz]; omega
theorem pz_mem {p x : PP} (h : x ∈ p.l) : pz x < pz p := by
 obtain ⟨r, i, to, l⟩ := p
 have : pz x ≤ pzs l := pzs_mem h
 rw [pz]; omega
theorem mem_getDP {l : List PP} {i : Nat} (h : i < l.length) : l.getD i default ∈ l := by
 rw [List.getD_eq_getElem?_getD, List.getElem?_eq_getElem h]; exact List.getElem_mem h
theorem mem_getDT {l : List T} {i : Nat} (h : i < l.length) : l.getD i default ∈ l := by
 rw [List.getD_eq_getElem?_getD, List.getElem?_eq_getElem h]; exact List.getElem_mem h
def PP.nil (q : PP) : Prop := q.r = 0 ∧ q.i = 0 ∧ q.to = [] ∧ q.l = []
instance (q : PP) : Decidable q.nil := by
 unfold PP.nil
 have : Decidable (q.l = []) := by cases q.l with
  | nil => exact isTrue rfl
  | cons a b => exact isFalse (by simp)
 exact inferInstance
def timesN (to : List Int) (x : Int) : Nat → Nat
 | 0 => 0
 | n + 1 => timesN to x n + if to.getD n 0 = x then 1 else 0
def pairsN (to : List Int) (l : List PP) (x : Int) : Nat → Nat
 | 0 => 0
 | n + 1 => pairsN to l x n + if to.getD n 0 = x ∧ (l.getD n default).nil then 1 else 0
theorem times_pos {to : List Int} {x : Int} {j : Nat} : ∀ {n : Nat}, j < n → to.getD j 0 = x → 1 ≤ timesN to x n
 | n + 1, h, e => by
   rw [timesN]
   by_cases hj : j = n
   ·subst hj; rw [if_pos e]; omega
   ·have := times_pos (n := n) (by omega) e; omega
theorem times_two {to : List Int} {x : Int} {j j' : Nat} (hj : j < j') (e : to.getD j 0 = x) (e' : to.getD j' 0 = x) : ∀ {n : Nat}, j' < n → 2 ≤ timesN to x n
 | n + 1, h => by
   rw [timesN]
   by_cases hn : j' = n
   ·subst hn; rw [if_pos e']; have := times_pos hj e; omega
   ·have := times_two hj e e' (n := n) (by omega); omega
theorem times_one {to : List Int} {x : Int} {j j' n : Nat} (h : timesN to x n ≤ 1) (hj : j < n) (hj' : j' < n) (e : to.getD j 0 = x) (e' : to.getD j' 0 = x) : j = j' := by
 rcases Nat.lt_trichotomy j j' with h1 | h1 | h1
 ·have := times_two h1 e e' hj'; omega
 ·exact h1
 ·have := times_two h1 e' e hj; omega
theorem pairs_pos {to : List Int} {l : List PP} {x : Int} : ∀ {n : Nat}, 0 < pairsN to l x n ↔ ∃ j, j < n ∧ to.getD j 0 = x ∧ (l.getD j default).nil
 | 0 => by simp [pairsN]
 | n + 1 => by
   rw [pairsN]
   have ih := pairs_pos (to := to) (l := l) (x := x) (n := n)
   by_cases h : to.getD n 0 = x ∧ (l.getD n default).nil
   ·rw [if_pos h]
    exact ⟨fun _ => ⟨n, by omega, h⟩, fun _ => by omega⟩
   ·rw [if_neg h, Nat.add_zero, ih]
    constructor
    ·rintro ⟨j, h1, h2⟩; exact ⟨j, by omega, h2⟩
    ·rintro ⟨j, h1, h2⟩
     have : j ≠ n := fun e => h (e ▸ h2)
     exact ⟨j, by omega, h2⟩
theorem pairs_le_times {to : List Int} {l : List PP} {x : Int} : ∀ n, pairsN to l x n ≤ timesN to x n
 | 0 => Nat.le_refl _
 | n + 1 => by
   rw [pairsN, timesN]
   have := pairs_le_times (to := to) (l := l) (x := x) n
   by_cases h : to.getD n 0 = x ∧ (l.getD n default).nil
   ·rw [if_pos h, if_pos h.1]; omega
   ·rw [if_neg h]; omega
def AllS (S : PP → T → T → Prop) (l : List PP) (a : T) (bs : List T) : Prop := l.length = bs.length ∧ ∀ j, j < bs.length → S (l.getD j default) a (bs.getD j default)
def Cov (Q : T → T → Prop) (S : PP → T → T → Prop) (to : List Int) (l : List PP) (az bs : List T) : Prop :=
 to.length = bs.length ∧ l.length = bs.length ∧
 (∀ j, j < bs.length → (0 ≤ to.getD j 0 ∧ to.getD j 0 < az.length) ∧
   (if (l.getD j default).nil then Q (az.getD (to.getD j 0).toNat default) (bs.getD j default) else S (l.getD j default) (az.getD (to.getD j 0).toNat default) (bs.getD j default))) ∧
 (∀ x : Nat, x < az.length → 0 < pairsN to l x bs.length → timesN to x bs.length ≤ 1) ∧ ∃ x : Nat, x < az.length ∧ pairsN to l x bs.length = 0
def LexS (Q : T → T → Prop) (S : PP → T → T → Prop) (i : Int) (l : List PP) (a : T) (az bs : List T) (bl : List T) : Prop :=
 (0 ≤ i ∧ i < az.length ∧ i ≤ bs.length) ∧ (∀ j, j < i.toNat → Q (az.getD j default) (bs.getD j default)) ∧
 (if i = bs.length then AllS S l a bl else ∃ q r, l = q :: r ∧ S q (az.getD i.toNat default) (bs.getD i.toNat default) ∧ AllS S r a bl)
def Fs (O : Od) (S : PP → T → T → Prop) (p : PP) (a b : T) : Prop :=
 a.k = 2 ∧ (
  (p.r = 1 ∧ p.to = [] ∧ (0 ≤ p.i ∧ p.i < a.l.length) ∧ ((p.l = [] ∧ E O (a.l.getD p.i.toNat default) b) ∨ ∃ q, p.l = [q] ∧ S q (a.l.getD p.i.toNat default) b)) ∨
  (p.r = 2 ∧ p.to = [] ∧ p.i = 0 ∧ b.k = 2 ∧ O.pl b.n < O.pl a.n ∧ AllS S p.l a b.l) ∨
  (p.r = 3 ∧ p.to = [] ∧ b.k = 2 ∧ O.pl a.n = O.pl b.n ∧ O.sp (O.pl a.n) ≠ 3 ∧ LexS (E O) S p.i p.l a (side (O.sp (O.pl a.n)) a.l) (side (O.sp (O.pl a.n)) b.l) b.l) ∨
  (p.r = 4 ∧ p.i = 0 ∧ b.k = 2 ∧ O.pl a.n = O.pl b.n ∧ O.sp (O.pl a.n) = 3 ∧ Cov (E O) S p.to p.l a.l b.l))
theorem AllS_congr {S S' : PP → T → T → Prop} {l : List PP} {a : T} {bs : List T} (h : ∀ q ∈ l, ∀ a b, S q a b ↔ S' q a b) : AllS S l a bs ↔ AllS S' l a bs := by
 refine and_congr_right fun hl => ?_
 constructor
 ·exact fun k j hj => (h _ (mem_getDP (by omega)) _ _).1 (k j hj)
 ·exact fun k j hj => (h _ (mem_getDP (by omega)) _ _).2 (k j hj)
theorem Cov_congr {Q : T → T → Prop} {S S' : PP → T → T → Prop} {to : List Int} {l : List PP} {az bs : List T} (h : ∀ q ∈ l, ∀ a b, S q a b ↔ S' q a b) : Cov Q S to l az bs ↔ Cov Q S' to l az bs := by
 refine and_congr_right fun _ => and_congr_right fun hl => and_congr_left fun _ => ?_
 constructor
 ·intro k j hj
  refine ⟨(k j hj).1, ?_⟩
  have := (k j hj).2
  split at this
  ·rename_i e; rw [if_pos e]; exact this
  ·rename_i e; rw [if_neg e]; exact (h _ (mem_getDP (by omega)) _ _).1 this
 ·intro k j hj
  refine ⟨(k j hj).1, ?_⟩
  have := (k j hj).2
  split at this
  ·rename_i e; rw [if_pos e]; exact this
  ·rename_i e; rw [if_neg e]; exact (h _ (mem_getDP (by omega)) _ _).2 this
theorem LexS_congr {Q : T → T → Prop} {S S' : PP → T → T → Prop} {i : Int} {l : List PP} {a : T} {az bs bl : List T} (h : ∀ q ∈ l, ∀ a b, S q a b ↔ S' q a b) : LexS Q S i l a az bs bl ↔ LexS Q S' i l a az bs bl := by
 refine and_congr_right fun _ => and_congr_right fun _ => ?_
 split
 ·exact AllS_congr h
 ·constructor
  ·rintro ⟨q, r, rfl, h1, h2⟩
   exact ⟨q, r, rfl, (h q List.mem_cons_self _ _).1 h1, (AllS_congr fun x hx => h x (List.mem_cons_of_mem _ hx)).1 h2⟩
  ·rintro ⟨q, r, rfl, h1, h2⟩
   exact ⟨q, r, rfl, (h q List.mem_cons_self _ _).2 h1, (AllS_congr fun x hx => h x (List.mem_cons_of_mem _ hx)).2 h2⟩
theorem Fs_congr {O : Od} {S S' : PP → T → T → Prop} {p : PP} {a b : T} (h : ∀ q ∈ p.l, ∀ a b, S q a b ↔ S' q a b) : Fs O S p a b ↔ Fs O S' p a b := by
 refine and_congr_right fun _ => or_congr ?_ (or_congr ?_ (or_congr ?_ ?_))
 ·refine and_congr_right fun _ => and_congr_right fun _ => and_congr_right fun _ => or_congr Iff.rfl ?_
  constructor
  ·rintro ⟨q, e, k⟩; exact ⟨q, e, (h q (by rw [e]; simp) _ _).1 k⟩
  ·rintro ⟨q, e, k⟩; exact ⟨q, e, (h q (by rw [e]; simp) _ _).2 k⟩
 ·rw [AllS_congr h]
 ·rw [LexS_congr h]
 ·rw [Cov_congr h]
def ShF (O : Od) : Nat → PP → T → T → Prop
 | 0 => fun _ _ _ => False
 | f + 1 => Fs O (ShF O f)
def Sh (O : Od) (p : PP) (a b : T) : Prop := ShF O (pz p) p a b
theorem ShF_stable (O : Od) : ∀ (f g : Nat) (p : PP) (a b : T), pz p ≤ f → pz p ≤ g → (ShF O f p a b ↔ ShF O g p a b)
 | 0, _, p, a, b, h, _ => by have := pz_pos p; omega
 | _ + 1, 0, p, a, b, _, h => by have := pz_pos p; omega
 | f + 1, g + 1, p, a, b, h1, h2 => by
   simp only [ShF]
   refine Fs_congr fun q hq a b => ?_
   have := pz_mem hq
   exact ShF_stable O f g q a b (by omega) (by omega)
theorem Sh_iff {O : Od} {p : PP} {a b : T} : Sh O p a b ↔ Fs O (Sh O) p a b := by
 have e : ShF O (pz p) p a b ↔ ShF O (pz p + 1) p a b := ShF_stable O _ _ p a b (by omega) (by omega)
 unfold Sh
 rw [e]
 show Fs O (ShF O (pz p)) p a b ↔ _
 refine Fs_congr fun q hq a b => ?_
 have := pz_mem hq
 exact ShF_stable O _ _ q a b (by omega) (by omega)
theorem Lx_of {G : T → T → Prop} : ∀ (n : Nat) {l m : List T}, n < l.length → n ≤ m.length → (∀ j, j < n → l.getD j default = m.getD j default) → (n = m.length ∨ G (l.getD n default) (m.getD n default)) → Lx G l m
 | 0, x :: l, [], _, _, _, _ => trivial
 | 0, x :: l, y :: m, _, _, _, h => .inr (by simpa using h)
 | n + 1, x :: l, [], _, h, _, _ => by simp at h
 | n + 1, x :: l, y :: m, h1, h2, h3, h4 => by
   refine .inl ⟨h3 0 (by omega), Lx_of n (by simpa using h1) (by simpa using h2) (fun j hj => h3 (j + 1) (by omega)) ?_⟩
   simpa using h4
theorem map_rangeT {β : Type} (f : T → β) (a : List T) : a.map f = (List.range a.length).map fun i => f (a.getD i default) := by
 apply List.ext_getElem
 ·simp
 ·intro i h1 h2
  have : i < a.length := by simpa using h1
  simp [this]
theorem map_partT {β : Type} (f : T → β) (a : List T) (p : Nat → Bool) : (a.map f).Perm (((List.range a.length).filter p).map (fun i => f (a.getD i default)) ++ ((List.range a.length).filter fun i => !p i).map fun i => f (a.getD i default)) := by
 rw [map_rangeT, ← List.map_append]
 exact (List.filter_append_perm p (List.range a.length)).symm.map _
theorem filter_nodupR (n : Nat) (p : Nat → Bool) : ((List.range n).filter p).Nodup := List.Pairwise.filter p List.nodup_range
theorem Cov_mu {O : Od} {S : PP → T → T → Prop} {to : List Int} {l : List PP} {az bs : List T} (h : Cov (E O) S to l az bs) (hS : ∀ q ∈ l, ∀ a b, S q a b → R O a b) : Mu (Gt O.sp) (az.map (norm O)) (bs.map (norm O)) := by
 obtain ⟨h1, h2, h3, h4, x0, hx0, h5⟩ := h
 let n := bs.length
 let U : Nat → Bool := fun i => decide (pairsN to l i n = 0)
 let Z : Nat → Bool := fun j => !decide (l.getD j default).nil
 have pu := map_partT (norm O) az U
 have pz := map_partT (norm O) bs Z
 refine mu_of (X := ((List.range az.length).filter U).map fun i => norm O (az.getD i default)) (Y := ((List.range bs.length).filter Z).map fun i => norm O (bs.getD i default)) (C := ((List.range bs.length).filter fun i => !Z i).map fun i => norm O (bs.getD i default)) ?_ pz ?_ ?_
 ·refine pu.trans (List.Perm.append_left _ ?_)
  have hp : (((List.range bs.length).filter fun j => !Z j).map fun j => (to.getD j 0).toNat).Perm ((List.range az.length).filter fun i => !U i) := by
   rw [List.perm_ext_iff_of_nodup]
   ·intro i
    simp only [Z, U, n, List.mem_map, List.mem_filter, List.mem_range, Bool.not_not, Bool.not_eq_true', decide_eq_true_eq, decide_eq_false_iff_not]
    constructor
    ·rintro ⟨j, ⟨hj, hn⟩, rfl⟩
     have := (h3 j hj).1
     refine ⟨by omega, ?_⟩
     have : 0 < pairsN to l ((to.getD j 0).toNat : Int) bs.length := pairs_pos.2 ⟨j, hj, by omega, hn⟩
     omega
    ·rintro ⟨hi, hu⟩
     obtain ⟨j, k1, k2, k3⟩ := pairs_pos.1 (show 0 < pairsN to l (i : Int) bs.length by omega)
     exact ⟨j, ⟨k1, k3⟩, by omega⟩
   ·rw [List.Nodup, List.pairwise_map]
    refine List.Pairwise.imp_of_mem ?_ (filter_nodupR _ _)
    intro j j' hj hj' hne he
    simp only [Z, List.mem_filter, List.mem_range, Bool.not_not, decide_eq_true_eq] at hj hj'
    have b1 := (h3 j hj.1).1
    have b2 := (h3 j' hj'.1).1
    have e1 : to.getD j 0 = (((to.getD j 0).toNat : Nat) : Int) := by omega
    have e2 : to.getD j' 0 = (((to.getD j 0).toNat : Nat) : Int) := by omega
    have hp : 0 < pairsN to l (((to.getD j 0).toNat : Nat) : Int) bs.length := pairs_pos.2 ⟨j, hj.1, e1, hj.2⟩
    exact hne (times_one (h4 _ (by omega) hp) hj.1 hj'.1 e1 e2)
   ·exact filter_nodupR _ _
  refine (hp.map fun i => norm O (az.getD i default)).symm.trans ?_
  rw [List.map_map]
  refine List.Perm.of_eq (List.map_congr_left fun j hj => ?_)
  simp only [Z, List.mem_filter, List.mem_range, Bool.not_not, decide_eq_true_eq] at hj
  have := (h3 j hj.1).2
  rw [if_pos hj.2] at this
  exact this
 ·intro e
  have : norm O (az.getD x0 default) ∈ ((List.range az.length).filter U).map fun i => norm O (az.getD i default) :=
   List.mem_map.2 ⟨x0, List.mem_filter.2 ⟨List.mem_range.2 hx0, by simp [U, n, h5]⟩, rfl⟩
  rw [e] at this
  cases this
 ·intro y hy
  obtain ⟨j, hj, rfl⟩ := List.mem_map.1 hy
  simp only [Z, List.mem_filter, List.mem_range, Bool.not_eq_true', decide_eq_false_iff_not] at hj
  obtain ⟨hj, hn⟩ := hj
  have b1 := h3 j hj
  rw [if_neg hn] at b1
  refine ⟨norm O (az.getD (to.getD j 0).toNat default), List.mem_map.2 ⟨(to.getD j 0).toNat, List.mem_filter.2 ⟨List.mem_range.2 (by omega), ?_⟩, rfl⟩, hS _ (mem_getDP (by omega)) _ _ b1.2⟩
  simp only [U, n, decide_eq_true_eq]
  by_cases hp : 0 < pairsN to l ((to.getD j 0).toNat : Int) bs.length
  ·have ht := h4 _ (by omega) hp
   obtain ⟨j', k1, k2, k3⟩ := pairs_pos.1 hp
   have := times_one ht hj k1 (by omega) k2
   exact absurd (this ▸ k3) hn
  ·omega
theorem map_getDT {f : T → T} {l : List T} {i : Nat} (h : i < l.length) : (l.map f).getD i default = f (l.getD i default) := by
 simp [h]
theorem Sh_R {O : Od} : ∀ (N : Nat) {p : PP} {a b : T}, pz p ≤ N → Sh O p a b → R O a b := by
 intro N
 induction N with
 | zero => intro p a b h; have := pz_pos p; omega
 | succ N ih =>
 intro p a b hN h
 have hm : ∀ q ∈ p.l, ∀ a b, Sh O q a b → R O a b := fun q hq a b hs => ih (by have := pz_mem hq; omega) hs
 have hall : ∀ {l : List PP} {bs : List T}, (∀ q ∈ l, q ∈ p.l) → AllS (Sh O) l a bs → ∀ y ∈ bs, R O a y := by
  intro l bs hq hl y hy
  obtain ⟨j, hj, rfl⟩ := List.mem_iff_getElem.1 hy
  have := hl.2 j hj
  have e : bs.getD j default = bs[j] := by simp [hj]
  rw [e] at this
  exact hm _ (hq _ (mem_getDP (by have := hl.1; omega))) _ _ this
 obtain ⟨ha, h⟩ := Sh_iff.1 h
 rcases h with ⟨_, _, hi, h⟩ | ⟨_, _, _, hb, hp, h⟩ | ⟨_, _, hb, hp, hs, h1, h2, h3⟩ | ⟨_, _, hb, hp, hs, h⟩
 ·refine R_sub ha (mem_getDT (i := p.i.toNat) (by omega)) ?_
  rcases h with ⟨_, h⟩ | ⟨q, e, h⟩
  ·exact .inl h
  ·exact .inr (hm q (by rw [e]; simp) _ _ h)
 ·exact R_iff.2 ⟨ha, .inr ⟨hb, .inl ⟨hp, hall (fun _ h => h) h⟩⟩⟩
 ·refine R_iff.2 ⟨ha, .inr ⟨hb, .inr (.inl ⟨hp.symm, hs, ?_, ?_⟩)⟩⟩
  ·split at h3
   ·exact hall (fun _ h => h) h3
   ·obtain ⟨q, r, e, _, h3⟩ := h3
    exact hall (fun x hx => by rw [e]; exact List.mem_cons_of_mem _ hx) h3
  ·rw [side_map, side_map]
   have hla : p.i.toNat < (side (O.sp (O.pl a.n)) a.l).length := by omega
   refine Lx_of p.i.toNat (by simpa using hla) (by simp; omega) (fun j hj => ?_) ?_
   ·rw [map_getDT (by omega), map_getDT (by omega)]
    exact h2 j hj
   ·by_cases hi : p.i = (side (O.sp (O.pl a.n)) b.l).length
    ·left; simp; omega
    ·rw [if_neg hi] at h3
     obtain ⟨q, r, e, h3, _⟩ := h3
     right
     rw [map_getDT (by omega), map_getDT (by omega)]
     exact hm q (by rw [e]; simp) _ _ h3
 ·exact R_iff.2 ⟨ha, .inr ⟨hb, .inr (.inr ⟨hp.symm, hs, Cov_mu h hm⟩)⟩⟩
theorem Sh.gt {O : Od} {p : PP} {a b : T} (h : Sh O p a b) : R O a b := Sh_R _ (Nat.le_refl _) h
end Go.Rpo
end
section
set_option maxRecDepth 100000
namespace Go.Abs
open Go Go.Proofs Go.Rpo
mutual
def ppA : PP → AV
 | .mk r i to l => .agg [.int .i64 r, .int .i64 i, .lst 0 (ints to), .lst 0 (ppAs l)]
def ppAs : List PP → List AV
 | [] => []
 | x :: r => ppA x :: ppAs r
end
theorem ppA_eq (p : PP) : ppA p = .agg [.int .i64 p.r, .int .i64 p.i, .lst 0 (ints p.to), .lst 0 (ppAs p.l)] := by cases p; rw [ppA]; rfl
theorem ppAs_map : ∀ l, ppAs l = l.map ppA
 | [] => rfl
 | x :: r => by simp [ppAs, ppAs_map r]
theorem ppAs_len (l : List PP) : (ppAs l).length = l.length := by simp [ppAs_map]
mutual
theorem ppA_blw (n : Nat) : ∀ p, (ppA p).blw n = true
 | .mk r i to l => by simp [ppA, AV.blw, belowL, ints_blw, ppAs_blw n l]
theorem ppAs_blw (n : Nat) : ∀ l, belowL n (ppAs l) = true
 | [] => rfl
 | x :: r => by simp [ppAs, belowL, ppA_blw n x, ppAs_blw n r]
end
theorem ppA_facts (p : PP) : (ppA p).val = true ∧ (ppA p).cells.length = 4 ∧ (ppA p).cells.all AV.one = true ∧ (ppA p).unown = ppA p ∧ (ppA p).drop = ppA p ∧ (∀ n, (ppA p).blw n = true) ∧ AV.agg (ppA p).cells = ppA p ∧ (ppA p).cells.map AV.drop = (ppA p).cells ∧ (ppA p).cells.map AV.unown = (ppA p).cells := by
 refine ⟨?_, ?_, ?_, ?_, ?_, fun n => ppA_blw n p, ?_, ?_, ?_⟩ <;> (rw [ppA_eq]; rfl)
theorem fP0 (p : PP) (φ : AV → Prop) : afieldAddr 0 none (.iptr (ppA p)) φ = φ (.iptr (.int .i64 p.r)) := by rw [ppA_eq]; simp [afieldAddr, apart, AV.cells, AV.one]
theorem fP1 (p : PP) (φ : AV → Prop) : afieldAddr 1 none (.iptr (ppA p)) φ = φ (.iptr (.int .i64 p.i)) := by rw [ppA_eq]; simp [afieldAddr, apart, AV.cells, AV.one]
theorem fP2 (p : PP) (φ : AV → Prop) : afieldAddr 2 none (.iptr (ppA p)) φ = φ (.iptr (.lst 0 (ints p.to))) := by rw [ppA_eq]; simp [afieldAddr, apart, AV.cells, AV.one]
theorem fP3 (p : PP) (φ : AV → Prop) : afieldAddr 3 none (.iptr (ppA p)) φ = φ (.iptr (.lst 0 (ppAs p.l))) := by rw [ppA_eq]; simp [afieldAddr, apart, AV.cells, AV.one]
theorem lens_pp (o : Nat) (l : List PP) : (∀ (own : Nat) (xs : List AV), AV.lst o (ppAs l) = AV.lst own xs → ∀ z ∈ xs, z.cells.length = 4) = True := by
 simp only [eq_iff_iff, iff_true]
 intro own xs e z hz
 cases e
 rw [ppAs_map] at hz
 obtain ⟨y, _, rfl⟩ := List.mem_map.1 hz
 exact (ppA_facts y).2.1
theorem ppAs_getD (l : List PP) (i : Nat) (h : i < l.length) : (ppAs l).getD i .any = ppA (l.getD i default) := by
 simp [ppAs_map, h]
theorem idx_pp (e o : Nat) (l : List PP) (k : IntKind) (i : Int) (φ : AV → Prop) : aindexAddr e (.lst o (ppAs l)) (.int k i) φ = ((0 ≤ i ∧ i < l.length) ∧ φ (.iptr (ppA (l.getD i.toNat default)))) := by
 simp only [aindexAddr, ppAs_len, eq_iff_iff]
 constructor
 ·rintro ⟨h0, h, h2⟩; rw [ppAs_getD _ _ h] at h2; exact ⟨by omega, h2⟩
 ·rintro ⟨⟨h0, h⟩, h2⟩
  have h : i.toNat < l.length := by omega
  rw [ppAs_getD _ _ h]; exact ⟨h0, h, h2⟩
theorem li_pp (p : PP) (H : List AObj) (φ : AV → Prop) : aload (some 4) (.iptr (ppA p)) H φ = φ (ppA p) := by
 obtain ⟨_, h2, _, _, _, _, h7, _⟩ := ppA_facts p
 simp [aload, h2, h7]
theorem ok_pps (l : List PP) : okE 4 (ppAs l) = True := by
 simp only [eq_iff_iff, iff_true]
 intro z hz
 rw [ppAs_map] at hz
 obtain ⟨y, _, rfl⟩ := List.mem_map.1 hz
 obtain ⟨h1, h2, h3, h4, h5, _⟩ := ppA_facts y
 first | exact ⟨h1, h2, h3⟩ | exact ⟨h2, h1, h3⟩ | exact ⟨h1, h2⟩ | (constructor <;> first | assumption | simp [*])
def sycall (P : Px) (id : Nat) (xs : List AV) (H : List AObj) (K : AV → List AObj → Prop) : Prop := ∃ args', LeL xs args' ∧ XYCalls P id args' H K
@[congr] theorem sycall_congr {P : Px} {id : Nat} {xs xs' : List AV} {H H' : List AObj} {K : AV → List AObj → Prop} (h : nrm xs = xs') (h2 : H = H') : sycall P id xs H K = sycall P id xs' H' K := by subst h; subst h2; rfl
theorem acall_y {P : Px} {env : Env} {H : List AObj} (id : Nat) (args : List IX) (pass : Option Nat) (K : AV → Env → List AObj → Prop) : acall P (.yld id) args pass env H K = sycall P id (baseArgs env pass 0 args) H (fun r H' => K r (unslotE env (passSlot args pass)) H') := _root_.id rfl
theorem un_yld (id : Nat) : (AV.yld id).unown = .yld id := _root_.id rfl
theorem sycall_to {P : Program} {id : Nat} {xs : List AV} {H : List AObj} {R K : AV → List AObj → Prop} (hc : YCalls P id xs H R) (hk : ∀ r H', R r H' → K r H') : sycall (P : Px) id xs H K := ⟨xs, LeL_refl _, YCallsX.mono hc hk⟩
theorem srange_fn {P : Program} (g : FuncId) (first cap : List AV) (lc : LCode) (env : Env) (H : List AObj) (K : Option Code → List AObj → Prop) {R : AV → List AObj → Prop} (he : ∀ (vs : Array Value) (w : World), (callFunc g vs).run P w = .ok (.enter g vs) w)
 (hc : ACalls P g (first.map AV.unown ++ [.yld H.length] ++ cap.map AV.unown) (H ++ [.loop .ready lc (envL lc.n env)]) R) (hk : ∀ r H', R r H' → behind H.length H' K) : srange (P : Px) (.fn (.func g) first cap) lc env H K :=
 ⟨he, _, LeL_refl _, XCalls.of (hc.mono hk)⟩
theorem c201 (n : Nat) (hn : n < 4611686018427387904) (id : Nat) (G : Nat → List AObj) (hl : ∀ j, (G j).length = (G 0).length) (hy : ∀ j, j < n → YCalls Tryz.prog id [.int .i64 (j : Int)] (G j) fun r H' => r = .bool true ∧ H' = G (j + 1)) :
 ACalls Tryz.prog 201 [.yld id, .iptr (.int .i64 n)] (G 0) fun r H' => r = .tuple [] ∧ H' = G n := by
 refine k201.2.calls rfl ?_
 simp only [k201, mkF]
 simp +contextual only [sZ, Nat.reduceEqDiff, Nat.reduceAdd, ↓reduceIte, reduceCtorEq]
 refine swp_loop_nat n (fun j => True) (fun j => [(0, .yld id), (1, .iptr (.int .i64 n)), (3, .int .i64 j)]) G ⟨trivial, sle_refl _ _ _⟩ fun j hj _ => ?_
 by_cases hjn : (j : Int) < n
 ·simp +contextual only [hjn, decide_true, acall_y, un_yld, sZ, Nat.reduceEqDiff, Nat.reduceAdd, ↓reduceIte, reduceCtorEq]
  refine sycall_to (hy j (by omega)) ?_
  rintro r H' ⟨rfl, rfl⟩
  simp +contextual only [sZ, Nat.reduceEqDiff, ↓reduceIte, reduceCtorEq]
  exact ⟨j + 1, by omega, by omega, sle_eq (by rw [wrap_nat j (by omega)]) rfl⟩
 ·have e : j = n := by omega
  subst e
  simp +contextual only [hjn, decide_false, sZ, Nat.reduceEqDiff, ↓reduceIte, reduceCtorEq]
  exact ret_none (hl j).symm rfl
end Go.Abs
end
section
set_option maxRecDepth 100000
namespace Go.Abs
open Go Go.Proofs Go.Rpo
def upto (n : Nat) : List Int := (List.range n).map Int.ofNat
theorem upto_succ (n : Nat) : upto (n + 1) = upto n ++ [(n : Int)] := by simp [upto, List.range_succ]
theorem upto_len (n : Nat) : (upto n).length = n := by simp [upto]
theorem mem_upto {n : Nat} {x : Int} : x ∈ upto n ↔ 0 ≤ x ∧ x < n := by
 simp only [upto, List.mem_map, List.mem_range]
 constructor
 ·rintro ⟨j, h, rfl⟩; exact ⟨Int.natCast_nonneg j, Int.ofNat_lt.2 h⟩
 ·intro h; exact ⟨x.toNat, by omega, by simp; omega⟩
def colA (j : Nat) : AV := match j with | 0 => .nils | j + 1 => .lst 1 (ints (upto (j + 1)))
theorem colA_app (j : Nat) (h : j < 1000000000) (ψ : List AV → Prop) (hψ : ψ (ints (upto (j + 1)))) : aappend 1 8 (colA j) (.lst 0 [.int .i64 (j : Int)]) ψ := by
 have e1 : ints (upto j) ++ [AV.int .i64 (j : Int)] = ints (upto (j + 1)) := by rw [upto_succ]; simp [ints]
 have hok : okE 1 [AV.int .i64 (j : Int)] := of_eq_true (ok_ints [(j : Int)])
 cases j with
 | zero =>
   rw [colA, ap_nils]
   exact ⟨by simp, hok, hψ⟩
 | succ j =>
   rw [colA, ap_lst]
   exact ⟨by rw [ints_len, upto_len]; simp; omega, hok, by rw [e1]; exact hψ⟩
theorem colA_kav (j : Nat) : (colA j).unown = kav (upto j) := by
 cases j with
 | zero => rfl
 | succ j => rw [colA, upto_succ]; cases h : upto j <;> rfl
theorem lc200_n : lc200_0.n = 13 := by kernel_rfl
theorem lc200_ps : lc200_0.ps = [7] := by kernel_rfl
theorem beginY_at {id : Nat} {H : List AObj} {K : List AObj → Prop} {lc : LCode} {es : List AV} (h : H[id]? = some (.loop .ready lc es)) : beginY id H K = K (H.set id (.loop .busy lc es)) := by
 unfold beginY; rw [h]
theorem endY_n {n0 id : Nat} {R : AV → List AObj → Prop} {H : List AObj} {lc : LCode} {es : List AV} (h : H[id]? = some (.loop .busy lc es)) : endY n0 id R .normal H = retY n0 true (H.set id (.loop .ready lc es)) R := by
 unfold endY; rw [h]
theorem behind_r {id : Nat} {H : List AObj} {K : Option Code → List AObj → Prop} {lc : LCode} {es : List AV} (h : H[id]? = some (.loop .ready lc es)) : behind id H K = K none (H.set id (.loop .over lc es)) := by
 unfold behind; rw [h]
theorem swp_awp2 {P : Px} {n0 : Nat} {ia ib : IR} {env : Env} {H : List AObj} {id : Nat} {R : AV → List AObj → Prop}
 (h : swp P n0 ia env H fun e env1 H1 => e = .normal ∧ beginY id H1 fun H2 => swp P n0 ib env1 H2 fun e _ H3 => endY n0 id R e H3) : awp P n0 ia env H fun e env1 H1 => e = .normal ∧ beginY id H1 fun H2 => awp P n0 ib env1 H2 fun e _ H3 => endY n0 id R e H3 := by
 refine swp_awp h ?_
 rintro x e H' ⟨h1, h2⟩
 refine ⟨h1, ?_⟩
 unfold beginY at *
 split at h2
 ·rename_i e'
  exact swp_awp h2 fun _ _ _ h => h
 ·exact h2.elim
theorem c200 (n : Nat) (hn : n < 1000000000) : Pure Tryz.prog 200 [.nils, .fn (.func 201) [] [.iptr (.int .i64 n)]] (kav (upto n)) := by
 refine fun H => ok200.calls rfl ?_
 simp only [fi200, ir200]
 simp +contextual only [stepsA, sZ, Nat.reduceEqDiff, Nat.reduceAdd, ↓reduceIte, reduceCtorEq]
 have el : ∀ X : List AObj, (H ++ X).length = H.length + X.length := fun X => List.length_append
 obtain ⟨es, hes⟩ : ∃ es, es = envL lc200_0.n [(2, AV.ptr H.length 0), (6, AV.fn (.func 201) [] [.iptr (.int .i64 n)])] := ⟨_, rfl⟩
 have ees : es = [.any, .any, .ptr H.length 0, .any, .any, .any, .fn (.func 201) [] [.iptr (.int .i64 n)], .any, .any, .any, .any, .any, .any] := by rw [hes, lc200_n]; rfl
 let G : Nat → List AObj := fun j => H ++ [.cells [colA j], .loop .ready lc200_0 es]
 have hG : ∀ j, (G j).length = H.length + 2 := fun j => by simp [G]
 have g1 : ∀ j, (G j)[H.length + 1]? = some (.loop .ready lc200_0 es) := fun j => by simp [G]
 refine srange_fn (P := Tryz.prog) (R := fun r H' => r = .tuple [] ∧ H' = G n) 201 [] [.iptr (.int .i64 n)] lc200_0 _ _ _ Tryz.call201 ?_ ?_
 ·rw [← hes]
  have e1 : (H ++ [AObj.cells [AV.nils]]).length = H.length + 1 := by simp
  have e2 : (H ++ [AObj.cells [AV.nils]] ++ [.loop .ready lc200_0 es]) = G 0 := by simp [G, colA]
  rw [e1, e2]
  refine c201 n (by omega) (H.length + 1) G (fun j => by rw [hG, hG]) fun j hj => ?_
  refine ycalls_of (lc := lc200_0) (es := es) (g1 j) ca200_0 cb200_0 ⟨by rw [ees, lc200_n]; rfl, by rw [lc200_ps]; rfl, by rw [lc200_ps, lc200_n]; rfl, ?_, ?_⟩ (swp_awp2 ?_)
  ·rw [ees]; intro x hx; simp only [List.mem_cons, List.not_mem_nil, or_false] at hx
   rcases hx with rfl | rfl | rfl | rfl | rfl | rfl | rfl | rfl | rfl | rfl | rfl | rfl | rfl <;> rfl
  ·intro x hx; simp only [List.mem_cons, List.not_mem_nil, or_false] at hx; subst hx; rfl
  ·have ez : (lc200_0.ps.zip [AV.int .i64 (j : Int)]).reverse ++ argEnv 0 es = (7, .int .i64 (j : Int)) :: argEnv 0 es := by rw [lc200_ps]; rfl
   rw [ez, ees]
   simp only [ia200_0, ib200_0]
   have hb : ∀ K, beginY (H.length + 1) (G j) K = K (H ++ [.cells [colA j], .loop .busy lc200_0 es]) := fun K => by rw [beginY_at (g1 j)]; simp [G]
   simp +contextual only [hb, sZ, Nat.reduceEqDiff, Nat.reduceAdd, Nat.reduceLT, ↓reduceIte, reduceCtorEq]
   refine colA_app j (by omega) _ ?_
   have hz : ∀ x : AV, (H ++ [AObj.cells [x], .loop .busy lc200_0 es])[H.length + 1]? = some (.loop .busy lc200_0 es) := fun x => by simp
   have hone : (AV.lst 1 (ints (upto (j + 1)))).blw (H.length + 1) = true := by rw [bw_lst]; exact ints_blw _ _
   simp +contextual only [hone, sZ, Nat.reduceEqDiff, Nat.reduceAdd, Nat.reduceLT, ↓reduceIte]
   rw [endY_n (hz _)]
   refine ⟨by simp [G], rfl, ?_⟩
   simp [G, colA]
   exact List.take_of_length_le (by simp)
 ·rintro r G' ⟨rfl, rfl⟩
  have e1 : (H ++ [AObj.cells [AV.nils]]).length = H.length + 1 := by simp
  rw [e1, behind_r (g1 n)]
  have e3 : (G n).set (H.length + 1) (.loop .over lc200_0 es) = H ++ [.cells [colA n], .loop .over lc200_0 es] := by simp [G]
  rw [e3]
  simp +contextual only [goOn, sZ, Nat.reduceAdd, Nat.reduceLT, ↓reduceIte, reduceCtorEq]
  have e4 : (colA n).unown.unown = kav (upto n) := by rw [colA_kav]; exact (kav_one _).2.1
  rw [e4]
  exact ret1 ((kav_one _).2.2.1 _) rfl
theorem c152 (n : Nat) (hn : n < 1000000000) : Pure Tryz.prog 152 [.fn (.func 201) [] [.iptr (.int .i64 n)]] (kav (upto n)) := by
 refine fun H => k152.2.calls rfl ?_
 simp only [k152, mkF]
 simp +contextual only [sZ, Nat.reduceAdd, ↓reduceIte, reduceCtorEq]
 refine scall_pure (c200 n hn) ?_
 have e4 : (kav (upto n)).unown = kav (upto n) := (kav_one _).2.1
 simp +contextual only [e4, sZ, ↓reduceIte, reduceCtorEq]
 exact ret0 ((kav_one _).2.2.1 _) rfl
theorem c153 (n : Int) : Pure Tryz.prog 153 [.int .i64 n] (.fn (.func 201) [] [.iptr (.int .i64 n)]) := by
 refine fun H => k153.2.calls rfl ?_
 simp only [k153, mkF]
 simp +contextual only [sZ, Nat.reduceEqDiff, Nat.reduceAdd, ↓reduceIte, reduceCtorEq]
 exact ret0 rfl rfl
end Go.Abs
end
section
set_option maxRecDepth 100000
namespace Go.Abs
open Go Go.Proofs Go.Rpo
def HoldC (c : Cx) (i k : Int) (p : PP) : Prop := ∀ H, Du c H → ACalls Tryz.prog 87 [.ptr c.d 0, .int .i64 i, .int .i64 k, ppA p] H (DuR c (Sh c.O p (c.tm i) (c.tm k)) H)
theorem c154 {c : Cx} {b : List Int} {vb : AV} (hb : IL vb b) {q : Nat} {i j : Int} {l : List PP} (hj : 0 ≤ j ∧ j < b.length) (hl : l.length = b.length) (h : HoldC c i (b.getD j.toNat 0) (l.getD j.toNat default)) {G : List AObj} (hD : Du c G) (gq : G[q]? = some (.cells [vb])) :
 ACalls Tryz.prog 154 [.int .i64 j, .iptr (.ptr c.d 0), .iptr (.int .i64 i), .ptr q 0, .iptr (.lst 0 (ppAs l))] G (DuR c (¬ Sh c.O (l.getD j.toNat default) (c.tm i) (c.tm (b.getD j.toNat 0))) G) := by
 refine k154.2.calls rfl ?_
 simp only [k154, mkF]
 obtain ⟨b1, b2, b3, b4⟩ := hb.one
 obtain ⟨p1, p2, p3, p4, p5, p6, p7, p8, p9⟩ := ppA_facts (l.getD j.toNat default)
 simp +contextual only [gq, b2, hb.lens, hb.idx, idx_pp, lens_pp, li_pp, p4, sZ, Nat.reduceEqDiff, Nat.reduceAdd, Nat.reduceLT, ↓reduceIte, reduceCtorEq]
 refine ⟨hj, ⟨hj.1, by omega⟩, scall_to (h G hD) ?_⟩
 rintro r G' ⟨z, rfl, hz, hU, hD'⟩
 simp +contextual only [sZ, ↓reduceIte, reduceCtorEq]
 refine retB (b := !z) rfl ?_ hU hD'
 rw [← hz]; cases z <;> simp
theorem getD_map0 {b : List Int} {f : Int → T} {j : Nat} (h : j < b.length) : (b.map f).getD j default = f (b.getD j 0) := by simp [h]
theorem c151 {c : Cx} {b : List Int} {vb : AV} (hb : IL vb b) (lb : b.length < 1000000000) {q : Nat} (hq : q ≠ c.e ∧ q ≠ c.g) {i : Int} {l : List PP} (h : ∀ j, j < b.length → j < l.length → HoldC c i (b.getD j 0) (l.getD j default)) {G : List AObj} (hD : Du c G) (gq : G[q]? = some (.cells [vb])) :
 ACalls Tryz.prog 151 [.lst 0 (ppAs l), .ptr q 0, .iptr (.ptr c.d 0), .iptr (.int .i64 i)] G (DuR c (AllS (Sh c.O) l (c.tm i) (b.map c.tm)) G) := by
 refine k151.2.calls rfl ?_
 simp only [k151, mkF]
 obtain ⟨b1, b2, b3, b4⟩ := hb.one
 simp +contextual only [gq, b2, hb.lenOk, hb.len (by omega), ppAs_len, sZ, Nat.reduceEqDiff, Nat.reduceAdd, Nat.reduceLT, ↓reduceIte, reduceCtorEq]
 have e1 : AllS (Sh c.O) l (c.tm i) (b.map c.tm) ↔ l.length = b.length ∧ ∀ j, j < b.length → Sh c.O (l.getD j default) (c.tm i) (c.tm (b.getD j 0)) := by
  unfold AllS
  rw [List.length_map]
  refine and_congr_right fun _ => ⟨fun h j hj => ?_, fun h j hj => ?_⟩
  ·have := h j hj; rwa [getD_map0 hj] at this
  ·rw [getD_map0 hj]; exact h j hj
 refine fun hll => ⟨fun he => ?_, fun hne => ?_⟩
 ·refine scall_pure (c153 _) ?_
  simp +contextual only [sZ, Nat.reduceEqDiff, Nat.reduceAdd, ↓reduceIte]
  refine scall_pure (c152 b.length lb) ?_
  have k2 : ∀ l, (kav l).unown = kav l := fun l => (kav_one l).2.1
  simp +contextual only [k2, sZ, Nat.reduceEqDiff, Nat.reduceAdd, ↓reduceIte, reduceCtorEq]
  refine scall_to (c102s (SD.lenS c G) (.inl rfl : IL (kav (upto b.length)) (upto b.length)) (by rw [upto_len]; omega) 154 [] [.iptr (.ptr c.d 0), .iptr (.int .i64 i), .ptr q 0, .iptr (.lst 0 (ppAs l))] rfl rfl (Q := fun j => ¬ Sh c.O (l.getD j.toNat default) (c.tm i) (c.tm (b.getD j.toNat 0)))
   (fun x hx G' hG' => ?_) ⟨hD, Up.refl c G⟩) ?_
  ·have hx := mem_upto.1 hx
   exact (c154 hb ⟨hx.1, hx.2⟩ (by omega) (h x.toNat (by omega) (by omega)) hG'.1 (by rw [hG'.2.get q hq.1 hq.2, gq])).mono fun r H' hr => hr.sb hG'
  ·rintro r G' ⟨z, rfl, hz, hG'⟩
   simp +contextual only [sZ, Nat.reduceEqDiff, ↓reduceIte, reduceCtorEq]
   refine retB (b := !z) rfl ?_ hG'.2 hG'.1
   rw [e1]
   cases z with
   | true =>
     obtain ⟨x, hx, hn⟩ := hz.1 rfl
     have hx := mem_upto.1 hx
     exact ⟨fun h => by simp at h, fun h => absurd (h.2 x.toNat (by omega)) hn⟩
   | false =>
     refine ⟨fun _ => ⟨by omega, fun j hj => ?_⟩, fun _ => rfl⟩
     by_cases hs : Sh c.O (l.getD j default) (c.tm i) (c.tm (b.getD j 0))
     ·exact hs
     ·exact absurd (hz.2 ⟨(j : Int), mem_upto.2 ⟨by omega, by omega⟩, hs⟩) (by simp)
 ·refine retB rfl ⟨fun h => by simp at h, fun h => ?_⟩ (Up.refl c G) hD
  have := (e1.1 h).1
  exact absurd (by omega) hne
end Go.Abs
end
