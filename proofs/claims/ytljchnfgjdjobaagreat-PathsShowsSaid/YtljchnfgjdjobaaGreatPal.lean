/- Part 12 of 18 of the proof. -/
import Derived.Test.YtljchnfgjdjobaaGreatPak
import Derived.Test.YtljchnfgjdjobaaGreatPag
import Derived.KernelRfl
set_option linter.unusedVariables false
set_option linter.unusedSimpArgs false
set_option linter.defProp false
set_option linter.unusedSectionVars false
section
set_option maxRecDepth 100000
namespace Go.Abs
open Go Go.Proofs Go.Rpo
structure Cx where
 ps : List Int
 ss : List Int
 nd : List Nd
 d : Nat
 e : Nat
 g : Nat
def Cx.tm (c : Cx) (i : Int) : T := (c.nd.getD i.toNat default).1
def Cx.kd (c : Cx) (i : Int) : List Int := (c.nd.getD i.toNat default).2
def Cx.isN (c : Cx) (i : Int) : Prop := 0 ≤ i ∧ i < c.nd.length
def spOf (ps ss : List Int) (p : Int) : Int := ss.getD (ps.findIdx fun q => decide (q = p)) 0
def odOf (ps ss : List Int) : Od := ⟨fun n => ps.getD n.toNat 0, spOf ps ss⟩
def Cx.O (c : Cx) : Od := odOf c.ps c.ss
structure Va (ps ss : List Int) : Prop where
 len : ss.length = ps.length
 st : ∀ i j, i < ps.length → j < ps.length → ps.getD i 0 = ps.getD j 0 → ss.getD i 0 = ss.getD j 0
theorem Va.sp {ps ss : List Int} (h : Va ps ss) {i : Nat} (hi : i < ps.length) : spOf ps ss (ps.getD i 0) = ss.getD i 0 := by
 unfold spOf
 have hx : ps.getD i 0 ∈ ps := by rw [List.getD_eq_getElem?_getD, List.getElem?_eq_getElem hi]; exact List.getElem_mem hi
 have h1 : ps.findIdx (fun q => decide (q = ps.getD i 0)) < ps.length := List.findIdx_lt_length_of_exists ⟨_, hx, by simp⟩
 have h2 := List.findIdx_getElem (xs := ps) (p := fun q => decide (q = ps.getD i 0)) (w := h1)
 refine h.st _ _ h1 hi ?_
 rw [List.getD_eq_getElem?_getD, List.getElem?_eq_getElem h1]
 exact of_decide_eq_true h2
structure Cx.Ok (c : Cx) : Prop where
 va : Va c.ps c.ss
 nd : c.nd ≠ []
 ne1 : c.d ≠ c.e
 ne2 : c.d ≠ c.g
 ne3 : c.e ≠ c.g
 kl : ∀ i, c.isN i → (c.kd i).length ≤ 100000000
 kids : ∀ i, c.isN i → (c.kd i).map c.tm = (c.tm i).l ∧ ∀ k ∈ c.kd i, c.isN k
 op : ∀ i, c.isN i → (c.tm i).k = 2 → 0 ≤ (c.tm i).n ∧ (c.tm i).n < c.ps.length
def memA (m : List ((Int × Int) × Bool)) : List (AV × AV) := m.map fun p => (.agg [.int .i64 p.1.1, .int .i64 p.1.2], .bool p.2)
def Rt (c : Cx) (P : T → T → Prop) (m : List ((Int × Int) × Bool)) : Prop := ∀ p ∈ m, p.2 = true ↔ P (c.tm p.1.1) (c.tm p.1.2)
structure Du (c : Cx) (H : List AObj) : Prop where
 d : H[c.d]? = some (.cells [.lst 0 (ints c.ps), .lst 0 (ints c.ss), .lst 0 (navs c.nd), .map c.e, .map c.g])
 e : ∃ m, H[c.e]? = some (.map (memA m)) ∧ Rt c (E c.O) m
 g : ∃ m, H[c.g]? = some (.map (memA m)) ∧ Rt c (R c.O) m
structure Up (c : Cx) (H H' : List AObj) : Prop where
 len : H'.length = H.length
 get : ∀ j, j ≠ c.e → j ≠ c.g → H'[j]? = H[j]?
theorem Up.refl (c : Cx) (H : List AObj) : Up c H H := ⟨rfl, fun _ _ _ => rfl⟩
theorem Up.trans {c : Cx} {H H' H'' : List AObj} (h : Up c H H') (k : Up c H' H'') : Up c H H'' := ⟨k.len.trans h.len, fun j h1 h2 => (k.get j h1 h2).trans (h.get j h1 h2)⟩
theorem Du.lt {c : Cx} {H : List AObj} (h : Du c H) : c.d < H.length ∧ c.e < H.length ∧ c.g < H.length := by
 obtain ⟨m, h1, _⟩ := h.e
 obtain ⟨m', h2, _⟩ := h.g
 exact ⟨(List.getElem?_eq_some_iff.1 h.d).1, (List.getElem?_eq_some_iff.1 h1).1, (List.getElem?_eq_some_iff.1 h2).1⟩
theorem Du.app {c : Cx} {H : List AObj} (h : Du c H) (X : List AObj) : Du c (H ++ X) := by
 obtain ⟨l1, l2, l3⟩ := h.lt
 exact ⟨by rw [List.getElem?_append_left l1]; exact h.d, by rw [List.getElem?_append_left l2]; exact h.e, by rw [List.getElem?_append_left l3]; exact h.g⟩
theorem Du.take {c : Cx} {H : List AObj} {n : Nat} (h : Du c H) (h1 : c.d < n) (h2 : c.e < n) (h3 : c.g < n) : Du c (H.take n) := by
 exact ⟨by rw [List.getElem?_take, if_pos h1]; exact h.d, by rw [List.getElem?_take, if_pos h2]; exact h.e, by rw [List.getElem?_take, if_pos h3]; exact h.g⟩
theorem Du.set {c : Cx} {H : List AObj} {j : Nat} {o : AObj} (h : Du c H) (h1 : j ≠ c.d) (h2 : j ≠ c.e) (h3 : j ≠ c.g) : Du c (H.set j o) := by
 exact ⟨by rw [List.getElem?_set_ne h1]; exact h.d, by rw [List.getElem?_set_ne h2]; exact h.e, by rw [List.getElem?_set_ne h3]; exact h.g⟩
theorem Up.take {c : Cx} {H X H' : List AObj} (h : Up c (H ++ X) H') : Up c H (H'.take H.length) :=
 ⟨by have := h.len; simp at this ⊢; omega, fun j h1 h2 => by
   rw [List.getElem?_take]
   split
   ·rename_i hj; rw [h.get j h1 h2, List.getElem?_append_left hj]
   ·rename_i hj; rw [List.getElem?_eq_none (by omega)]⟩
def DuR (c : Cx) (Q : Prop) (H : List AObj) (r : AV) (H' : List AObj) : Prop := ∃ b : Bool, r = .bool b ∧ (b = true ↔ Q) ∧ Up c H H' ∧ Du c H'
theorem aload_kav (l : List Int) (H : List AObj) (φ : AV → Prop) : aload none (.iptr (kav l)) H φ = φ (kav l) := by
 obtain ⟨k1, k2, _⟩ := kav_one l
 simp [aload, k1, k2]
theorem fN0 (p : Nd) (φ : AV → Prop) : afieldAddr 0 (some 3) (.iptr (nav p)) φ = φ (.iptr p.1.av) := by
 obtain ⟨⟨k, n, l⟩, ks⟩ := p
 simp [afieldAddr, nav, apart, AV.cells, T.av, T.k, T.n, T.l]
theorem fN3 (p : Nd) (φ : AV → Prop) : afieldAddr 3 none (.iptr (nav p)) φ = φ (.iptr (kav p.2)) := by
 obtain ⟨k1, _⟩ := kav_one p.2
 simp [afieldAddr, nav, apart, AV.cells, k1]
theorem idxN (e o : Nat) (l : List Nd) (k : IntKind) (i : Int) (φ : AV → Prop) : aindexAddr e (.lst o (navs l)) (.int k i) φ = ((0 ≤ i ∧ i < l.length) ∧ φ (.iptr (nav (l.getD i.toNat default)))) := by
 simp only [aindexAddr, navs_len, eq_iff_iff]
 constructor
 ·rintro ⟨h0, h, h2⟩; refine ⟨by omega, ?_⟩; simpa [navs, h] using h2
 ·rintro ⟨⟨h0, h⟩, h2⟩; have h : i.toNat < l.length := by omega
  refine ⟨h0, h, ?_⟩; simpa [navs, h] using h2
theorem len_navs (o : Nat) (l : List Nd) : (∀ (own : Nat) (xs : List AV), AV.lst o (navs l) = AV.lst own xs → ∀ z ∈ xs, z.cells.length = 4) = True := by
 simp only [eq_iff_iff, iff_true]
 intro own xs e z hz
 cases e
 exact (okO_navs l z hz).len
theorem idx_intsI (e o : Nat) (l : List Int) (k : IntKind) (i : Int) (φ : AV → Prop) : aindexAddr e (.lst o (ints l)) (.int k i) φ = ((0 ≤ i ∧ i < l.length) ∧ φ (.iptr (.int .i64 (l.getD i.toNat 0)))) := by
 simp only [aindexAddr, ints_len, eq_iff_iff]
 constructor
 ·rintro ⟨h0, h, h2⟩; refine ⟨by omega, ?_⟩; simpa [ints, h] using h2
 ·rintro ⟨⟨h0, h⟩, h2⟩; have h : i.toNat < l.length := by omega
  refine ⟨h0, h, ?_⟩; simpa [ints, h] using h2
def opP (c : Cx) (i : Int) : Int := if (c.tm i).k = 2 then c.O.pl (c.tm i).n else 0
def opS (c : Cx) (i : Int) : Int := if (c.tm i).k = 2 then c.O.sp (c.O.pl (c.tm i).n) else 0
def opB (c : Cx) (i : Int) : Bool := decide ((c.tm i).k = 2)
def opA (c : Cx) (i : Int) : AV := .tuple [.int .i64 (opP c i), .int .i64 (opS c i), .bool (opB c i)]
theorem fieldT0 (t : T) (φ : AV → Prop) : afieldAddr 0 none (.iptr t.av) φ = φ (.iptr (.int .i64 t.k)) := by cases t; simp [afieldAddr, T.av, apart, AV.cells, AV.one, T.k]
theorem ret3d {Hs G : List AObj} {n0 a b c : Nat} {u v w x y z : AV} {R : AV → List AObj → Prop} (hab : b ≠ a ∧ c ≠ a ∧ c ≠ b) (hH : Hs.take n0 = G) (hb : x.blw n0 = true ∧ y.blw n0 = true ∧ z.blw n0 = true)
 (hx : u.unown = x) (hy : v.unown = y) (hz : w.unown = z) (hR : R (.tuple [x, y, z]) G) : aret n0 [.t a, .t b, .t c] [(a, u), (b, v), (c, w)] Hs R := by
 subst hH; subst hx; subst hy; subst hz
 refine ⟨n0, Nat.le_refl _, [u.unown, v.unown, w.unown], ?_, by simp only [belowL, hb.1, hb.2.1, hb.2.2, Bool.and_self], hR⟩
 simp only [gt_cons, if_neg hab.1, if_neg hab.2.1, if_neg hab.2.2, if_true, List.map]
 exact LeL_refl _
theorem c135 {c : Cx} (hc : c.Ok) {i : Int} (hi : c.isN i) {H : List AObj} (hD : Du c H) : ACalls Tryz.prog 135 [.ptr c.d 0, .int .i64 i] H fun r H' => r = opA c i ∧ H' = H := by
 refine k135.2.calls rfl ?_
 simp only [k135, mkF]
 simp +contextual only [hD.d, idxN, fN0, len_navs, idx_intsI, sZ, Nat.reduceEqDiff, Nat.reduceAdd, Nat.reduceLT, ↓reduceIte, reduceCtorEq]
 refine ⟨hi, fun hk => ?_, fun hk => ?_⟩
 ·exact ret3d (by decide) (List.take_length) ⟨rfl, rfl, rfl⟩ rfl rfl rfl ⟨by rw [opA, opP, opS, opB, if_neg (show ¬(c.tm i).k = 2 from hk), if_neg (show ¬(c.tm i).k = 2 from hk), decide_eq_false (show ¬(c.tm i).k = 2 from hk)]; rfl, rfl⟩
 ·obtain ⟨o1, o2⟩ := hc.op i hi hk
  have hl := hc.va.len
  refine ⟨⟨o1, o2⟩, ⟨o1, by rw [hl]; exact o2⟩, ?_⟩
  refine ret3d (by decide) (List.take_length) ⟨rfl, rfl, rfl⟩ rfl rfl rfl ⟨?_, rfl⟩
  have e := hc.va.sp (i := (c.tm i).n.toNat) (by omega)
  rw [opA, opP, opS, opB, if_pos (show (c.tm i).k = 2 from hk), if_pos (show (c.tm i).k = 2 from hk), decide_eq_true (show (c.tm i).k = 2 from hk)]
  have e2 : c.O.sp (c.O.pl (c.tm i).n) = c.ss.getD (c.tm i).n.toNat 0 := e
  rw [e2]; rfl
def keyA (i k : Int) : AV := .agg [.int .i64 i, .int .i64 k]
theorem afind_mem (i k : Int) : ∀ (m : List ((Int × Int) × Bool)) (n : Nat), (∃ j b, m[j]? = some ((i, k), b) ∧ afind 2 (keyA i k) (memA m) n = some (some (n + j, .bool b))) ∨ afind 2 (keyA i k) (memA m) n = some none
 | [], n => .inr rfl
 | ((a, b), v) :: r, n => by
   have ih := afind_mem i k r (n + 1)
   have e : keyEq 2 (keyA i k) (.agg [.int .i64 a, .int .i64 b]) = some (decide (i = a ∧ k = b)) := by simp [keyEq, keyA]
   simp only [memA, List.map_cons, afind, e]
   by_cases h : i = a ∧ k = b
   ·obtain ⟨rfl, rfl⟩ := h
    exact .inl ⟨0, v, rfl, by simp⟩
   ·simp only [decide_eq_false h]
    rcases ih with ⟨j, x, h1, h2⟩ | h2
    ·exact .inl ⟨j + 1, x, h1, by rw [show n + (j + 1) = n + 1 + j by omega]; exact h2⟩
    ·exact .inr h2
theorem lkM {i k : Int} {m : List ((Int × Int) × Bool)} {φ : AV → Prop} (h1 : ∀ b, ((i, k), b) ∈ m → φ (.tuple [.bool b, .bool true])) (h2 : φ (.tuple [.bool false, .bool false])) : lookupC (some (.map (memA m))) 2 (.bool false) (keyA i k) true φ := by
 unfold lookupC
 rcases afind_mem i k m 0 with ⟨j, b, h3, h4⟩ | h4
 ·simp only [h4]; exact h1 b (List.mem_of_getElem? h3)
 ·simp only [h4]; exact ⟨by simp [keyEq, keyA], h2⟩
theorem memA_set (m : List ((Int × Int) × Bool)) (j : Nat) (i k : Int) (b : Bool) : (memA m).set j (keyA i k, .bool b) = memA (m.set j ((i, k), b)) := by simp [memA, keyA, List.map_set]
theorem msM {i k : Int} {b : Bool} {m : List ((Int × Int) × Bool)} {id : Nat} {H : List AObj} {K : List AObj → Prop} (h : ∀ m', (∀ p ∈ m', p ∈ m ∨ p = ((i, k), b)) → K (H.set id (.map (memA m')))) : mapsetC (some (.map (memA m))) 2 id (keyA i k) (.bool b) H K := by
 unfold mapsetC
 refine ⟨by simp [keyA, bw_agg, bl_cons, bl_nil, bw_int], rfl, rfl, ?_⟩
 have ec : canon (.bool b) = .bool b := rfl
 rcases afind_mem i k m 0 with ⟨j, x, h3, h4⟩ | h4
 ·simp only [h4, ec, Nat.zero_add, memA_set]
  refine h _ fun p hp => ?_
  rcases List.mem_or_eq_of_mem_set hp with h | h
  ·exact .inl h
  ·exact .inr h
 ·simp only [h4, ec]
  refine ⟨by simp [keyEq, keyA], ?_⟩
  have e : memA m ++ [(keyA i k, .bool b)] = memA (m ++ [((i, k), b)]) := by simp [memA, keyA]
  rw [e]
  refine h _ fun p hp => ?_
  rcases List.mem_append.1 hp with h | h
  ·exact .inl h
  ·exact .inr (by simpa using h)
theorem bdK (i k : Int) (φ : AV → Prop) : abuild [.int .i64 0, .int .i64 0] [(0, 1, .int .i64 i), (1, 1, .int .i64 k)] φ = φ (keyA i k) := by
 simp only [abuild, afill, eq_iff_iff]
 constructor
 ·rintro ⟨_, _, _, _, _, _, h⟩; exact h
 ·exact fun h => ⟨rfl, rfl, by simp, rfl, rfl, by simp [asplice, AV.cells], h⟩
theorem keyA_facts (i k : Int) : (keyA i k).val = true ∧ (keyA i k).cells.length = 2 ∧ (keyA i k).cells.all AV.one = true := ⟨rfl, rfl, rfl⟩
theorem ldK (i k : Int) (H : List AObj) (φ : AV → Prop) : aload (some 2) (.iptr (keyA i k)) H φ = φ (keyA i k) := ldi2 _ _ _ _
def Mp (c : Cx) (w : Nat) (Q : T → T → Prop) : Prop := (w = c.e ∧ Q = E c.O) ∨ (w = c.g ∧ Q = R c.O)
theorem Mp.at {c : Cx} {w : Nat} {Q : T → T → Prop} (h : Mp c w Q) {H : List AObj} (hD : Du c H) : ∃ m, H[w]? = some (.map (memA m)) ∧ Rt c Q m := by
 rcases h with ⟨rfl, rfl⟩ | ⟨rfl, rfl⟩
 ·exact hD.e
 ·exact hD.g
theorem Mp.set {c : Cx} (hc : c.Ok) {w : Nat} {Q : T → T → Prop} (h : Mp c w Q) {H : List AObj} (hD : Du c H) {m : List ((Int × Int) × Bool)} (hm : Rt c Q m) : Du c (H.set w (.map (memA m))) ∧ Up c H (H.set w (.map (memA m))) := by
 obtain ⟨l1, l2, l3⟩ := hD.lt
 obtain ⟨_, _, n1, n2, n3, _, _, _⟩ := hc
 rcases h with ⟨rfl, rfl⟩ | ⟨rfl, rfl⟩
 ·exact ⟨⟨by rw [List.getElem?_set_ne (fun e => n1 e.symm)]; exact hD.d, ⟨m, by rw [List.getElem?_set_self l2], hm⟩, by rw [List.getElem?_set_ne n3]; exact hD.g⟩, by simp, fun j h1 h2 => by rw [List.getElem?_set_ne (fun e => h1 e.symm)]⟩
 ·exact ⟨⟨by rw [List.getElem?_set_ne (fun e => n2 e.symm)]; exact hD.d, by rw [List.getElem?_set_ne (fun e => n3 e.symm)]; exact hD.e, ⟨m, by rw [List.getElem?_set_self l3], hm⟩⟩, by simp, fun j h1 h2 => by rw [List.getElem?_set_ne (fun e => h2 e.symm)]⟩
theorem retB {c : Cx} {s : Nat} {b : Bool} {Q : Prop} {H H' : List AObj} {x : AV} (hx : x = .bool b) (hb : b = true ↔ Q) (hU : Up c H H') (hD : Du c H') : aret H.length [.t s] [(s, x)] H' (DuR c Q H) := by
 subst hx
 refine aret_one H.length (Nat.le_refl _) (by rw [gt_cons, if_pos rfl]; rfl) ?_
 rw [gt_cons, if_pos rfl, List.take_of_length_le (by rw [hU.len]; exact Nat.le_refl _)]
 exact ⟨b, rfl, hb, hU, hD⟩
theorem c133 {c : Cx} (hc : c.Ok) {w : Nat} {Q : T → T → Prop} (hw : Mp c w Q) (i k : Int) (fn : Nat) (caps : List AV) {H : List AObj} (hD : Du c H) (hcap : caps.map AV.unown = caps)
 (hf : ACalls Tryz.prog fn caps H (DuR c (Q (c.tm i) (c.tm k)) H)) : ACalls Tryz.prog 133 [.map w, .int .i64 i, .int .i64 k, .fn (.func fn) [] caps] H (DuR c (Q (c.tm i) (c.tm k)) H) := by
 refine k133.2.calls rfl ?_
 simp only [k133, mkF]
 obtain ⟨m, hm, hr⟩ := hw.at hD
 have kf := keyA_facts i k
 simp +contextual only [bdK, ldK, kf.1, kf.2.1, kf.2.2, hm, sZ, Nat.reduceEqDiff, Nat.reduceAdd, ↓reduceIte, reduceCtorEq]
 refine lkM (fun b hb => ?_) ?_
 ·have hq := hr _ hb
  cases b with
  | true =>
    simp +contextual only [sZ, Nat.reduceEqDiff, Nat.reduceAdd, Nat.reduceLT, ↓reduceIte, reduceCtorEq]
    exact retB rfl hq (Up.refl c H) hD
  | false =>
    simp +contextual only [sZ, Nat.reduceEqDiff, Nat.reduceAdd, Nat.reduceLT, ↓reduceIte, reduceCtorEq]
    exact retB rfl hq (Up.refl c H) hD
 ·simp +contextual only [hcap, sZ, Nat.reduceEqDiff, Nat.reduceAdd, Nat.reduceLT, ↓reduceIte, reduceCtorEq]
  refine scall_to hf ?_
  rintro r H' ⟨b, rfl, hb, hU, hD'⟩
  obtain ⟨m', hm', hr'⟩ := hw.at hD'
  simp +contextual only [ldK, hm', sZ, Nat.reduceEqDiff, ↓reduceIte, reduceCtorEq]
  refine msM fun m2 h2 => ?_
  have hr2 : Rt c Q m2 := by
   intro p hp
   rcases h2 p hp with h | rfl
   ·exact hr' p h
   ·exact hb
  obtain ⟨s1, s2⟩ := hw.set hc hD' hr2
  simp +contextual only [sZ, Nat.reduceEqDiff, ↓reduceIte, reduceCtorEq]
  exact retB rfl hb (hU.trans s2) s1
def SameC (c : Cx) (i k : Int) : Prop := ∀ H, Du c H → ACalls Tryz.prog 79 [.ptr c.d 0, .int .i64 i, .int .i64 k] H (DuR c (E c.O (c.tm i) (c.tm k)) H)
def MoreC (c : Cx) (i k : Int) : Prop := ∀ H, Du c H → ACalls Tryz.prog 76 [.ptr c.d 0, .int .i64 i, .int .i64 k] H (DuR c (R c.O (c.tm i) (c.tm k)) H)
def capD (c : Cx) (i k : Int) : List AV := [.iptr (.ptr c.d 0), .iptr (.int .i64 i), .iptr (.int .i64 k)]
theorem g53 (a b c d e z : AV) : [a, b, c, d, e].getD 3 z = d := rfl
theorem g54 (a b c d e z : AV) : [a, b, c, d, e].getD 4 z = e := rfl
theorem c79 {c : Cx} (hc : c.Ok) {i k : Int} (h : ∀ H, Du c H → ACalls Tryz.prog 138 (capD c i k) H (DuR c (E c.O (c.tm i) (c.tm k)) H)) : SameC c i k := by
 intro H hD
 refine k79.2.calls rfl ?_
 simp only [k79, mkF]
 simp +contextual only [hD.d, g53, sZ, Nat.reduceEqDiff, Nat.reduceAdd, Nat.reduceLT, ↓reduceIte, reduceCtorEq]
 refine scall_to (c133 hc (.inl ⟨rfl, rfl⟩) i k 138 (capD c i k) hD rfl (h H hD)) ?_
 rintro r H' ⟨b, rfl, hb, hU, hD'⟩
 simp +contextual only [sZ, ↓reduceIte, reduceCtorEq]
 exact retB rfl hb hU hD'
theorem c76 {c : Cx} (hc : c.Ok) {i k : Int} (h : ∀ H, Du c H → ACalls Tryz.prog 134 (capD c i k) H (DuR c (R c.O (c.tm i) (c.tm k)) H)) : MoreC c i k := by
 intro H hD
 refine k76.2.calls rfl ?_
 simp only [k76, mkF]
 simp +contextual only [hD.d, g54, sZ, Nat.reduceEqDiff, Nat.reduceAdd, Nat.reduceLT, ↓reduceIte, reduceCtorEq]
 refine scall_to (c133 hc (.inr ⟨rfl, rfl⟩) i k 134 (capD c i k) hD rfl (h H hD)) ?_
 rintro r H' ⟨b, rfl, hb, hU, hD'⟩
 simp +contextual only [sZ, ↓reduceIte, reduceCtorEq]
 exact retB rfl hb hU hD'
theorem opA_un (c : Cx) (i : Int) : (opA c i).unown = opA c i := rfl
theorem opA_0 (c : Cx) (i : Int) (φ : AV → Prop) : aextract (opA c i) 0 φ = φ (.int .i64 (opP c i)) := by simp [opA, aextract, un_int]
theorem opA_1 (c : Cx) (i : Int) (φ : AV → Prop) : aextract (opA c i) 1 φ = φ (.int .i64 (opS c i)) := by simp [opA, aextract, un_int]
theorem opA_2 (c : Cx) (i : Int) (φ : AV → Prop) : aextract (opA c i) 2 φ = φ (.bool (opB c i)) := by simp [opA, aextract, un_bool]
def lvB (c : Cx) (i k : Int) : Bool := opB c i && (opB c k && decide (opP c i = opP c k))
theorem lvB_iff {c : Cx} {i k : Int} : lvB c i k = true ↔ (c.tm i).k = 2 ∧ (c.tm k).k = 2 ∧ c.O.pl (c.tm i).n = c.O.pl (c.tm k).n := by
 simp only [lvB, opB, Bool.and_eq_true, decide_eq_true_eq]
 unfold opP
 constructor
 ·rintro ⟨h1, h2, h3⟩; rw [if_pos h1, if_pos h2] at h3; exact ⟨h1, h2, h3⟩
 ·rintro ⟨h1, h2, h3⟩; refine ⟨h1, h2, ?_⟩; rw [if_pos h1, if_pos h2]; exact h3
theorem c155 {c : Cx} (hc : c.Ok) {i k : Int} (hi : c.isN i) (hk : c.isN k) {H : List AObj} (hD : Du c H) : ACalls Tryz.prog 155 [.ptr c.d 0, .int .i64 i, .int .i64 k] H fun r H' => r = .tuple [.int .i64 (opS c i), .bool (lvB c i k)] ∧ H' = H := by
 refine k155.2.calls rfl ?_
 simp only [k155, mkF]
 simp +contextual only [sZ, Nat.reduceEqDiff, Nat.reduceAdd, ↓reduceIte, reduceCtorEq]
 refine scall_to (c135 hc hi hD) ?_
 rintro r H1 ⟨rfl, rfl⟩
 simp +contextual only [opA_un, opA_0, opA_1, opA_2, sZ, Nat.reduceEqDiff, Nat.reduceAdd, ↓reduceIte, reduceCtorEq]
 refine scall_to (c135 hc hk hD) ?_
 rintro r H1 ⟨rfl, rfl⟩
 simp +contextual only [opA_un, opA_0, opA_1, opA_2, sZ, Nat.reduceEqDiff, ↓reduceIte, reduceCtorEq]
 have fin : ∀ (s : Int) (b : Bool), s = opS c i → b = lvB c i k → aret H1.length [.t 6, .t 7] [(6, .int .i64 s), (7, .bool b)] H1 fun r H' => r = .tuple [.int .i64 (opS c i), .bool (lvB c i k)] ∧ H' = H1 := by
  rintro s b rfl rfl
  have := ret22 (H := H1) (e := []) (s := 6) (s' := 7) (v := .int .i64 (opS c i)) (v' := .bool (lvB c i k)) (by decide) rfl rfl rfl rfl
  rwa [List.append_nil] at this
 cases h1 : opB c i with
 | false =>
   simp +contextual only [sZ, Nat.reduceEqDiff, ↓reduceIte, reduceCtorEq]
   exact fin _ _ rfl (by rw [lvB, h1]; rfl)
 | true =>
   cases h2 : opB c k with
   | false =>
     simp +contextual only [sZ, Nat.reduceEqDiff, ↓reduceIte, reduceCtorEq]
     exact fin _ _ rfl (by rw [lvB, h1, h2]; rfl)
   | true =>
     simp +contextual only [sZ, Nat.reduceEqDiff, ↓reduceIte, reduceCtorEq]
     exact fin _ _ rfl (by rw [lvB, h1, h2]; rfl)
end Go.Abs
end
section
set_option maxRecDepth 100000
namespace Go.Abs
open Go Go.Proofs Go.Rpo
def IL (v : AV) (l : List Int) : Prop := v = kav l ∨ v = .lst 0 (ints l)
theorem IL.one {v : AV} {l : List Int} (h : IL v l) : v.one = true ∧ v.unown = v ∧ v.val = true ∧ v.cells = [v] := by
 rcases h with rfl | rfl
 ·obtain ⟨k1, k2, _, k4, k5⟩ := kav_one l; exact ⟨k1, k2, k4, k5⟩
 ·exact ⟨rfl, rfl, rfl, rfl⟩
theorem IL.len {v : AV} {l : List Int} (h : IL v l) (hs : l.length < 9223372036854775808) (H : List AObj) (φ : AV → Prop) : alen v H φ = φ (.int .i64 l.length) := by
 have hl : ∀ l : List Int, l.length < 9223372036854775808 → alen (.lst 0 (ints l)) H φ = φ (.int .i64 l.length) := by
  intro l hs; simp [alen, ints_len, hs]
 rcases h with rfl | rfl
 ·cases l with
  | nil => rfl
  | cons x r => exact hl _ hs
 ·exact hl _ hs
theorem IL.lenD {v : AV} {l : List Int} (h : IL v l) (H : List AObj) (φ : AV → Prop) : alenD v H φ = φ (.int .i64 l.length) := by
 rcases h with rfl | rfl
 ·cases l with
  | nil => rfl
  | cons x r => rw [kav, alenD_lst, ints_len]
 ·rw [alenD_lst, ints_len]
theorem IL.lenOk {v : AV} {l : List Int} (h : IL v l) : lenOk 1 v = True := by
 rcases h with rfl | rfl
 ·cases l <;> simp [kav, Go.Abs.lenOk]
 ·simp [Go.Abs.lenOk]
theorem IL.idx {v : AV} {l : List Int} (h : IL v l) (k : IntKind) (i : Int) (φ : AV → Prop) : aindexAddr 1 v (.int k i) φ = ((0 ≤ i ∧ i < l.length) ∧ φ (.iptr (.int .i64 (l.getD i.toNat 0)))) := by
 rcases h with rfl | rfl
 ·cases l with
  | nil => simp [kav, aindexAddr]; omega
  | cons x r => exact idx_intsI 1 0 (x :: r) k i φ
 ·exact idx_intsI 1 0 l k i φ
theorem IL.lens {v : AV} {l : List Int} (h : IL v l) : (∀ (own : Nat) (xs : List AV), v = AV.lst own xs → ∀ z ∈ xs, z.cells.length = 1) = True := by
 rcases h with rfl | rfl
 ·cases l with
  | nil => simp [kav]
  | cons x r => exact lens_ints 0 (x :: r)
 ·exact lens_ints 0 l
def Len (S : List AObj → Prop) : Prop := ∀ H H', S H → S H' → H'.length = H.length
def SB (S : List AObj → Prop) (Q : Prop) (r : AV) (H' : List AObj) : Prop := ∃ b : Bool, r = .bool b ∧ (b = true ↔ Q) ∧ S H'
def SI (S : List AObj → Prop) (Q : Int → Prop) (l : List Int) (r : AV) (H' : List AObj) : Prop :=
 S H' ∧ ((r = .int .i64 (-1) ∧ ∀ x ∈ l, ¬ Q x) ∨ ∃ n : Nat, r = .int .i64 n ∧ n < l.length ∧ Q (l.getD n 0) ∧ ∀ j, j < n → ¬ Q (l.getD j 0))
theorem retS {S : List AObj → Prop} (hl : Len S) {s : Nat} {b : Bool} {Q : Prop} {H H' : List AObj} {x : AV} (hx : x = .bool b) (hb : b = true ↔ Q) (hS : S H) (hS' : S H') : aret H.length [.t s] [(s, x)] H' (SB S Q) := by
 subst hx
 refine aret_one H.length (Nat.le_refl _) (by rw [gt_cons, if_pos rfl]; rfl) ?_
 rw [gt_cons, if_pos rfl, List.take_of_length_le (by rw [hl H H' hS hS']; exact Nat.le_refl _)]
 exact ⟨b, rfl, hb, hS'⟩
theorem getD_mem {l : List Int} {i : Nat} (h : i < l.length) : l.getD i 0 ∈ l := by rw [List.getD_eq_getElem?_getD, List.getElem?_eq_getElem h]; exact List.getElem_mem h
theorem c140 {S : List AObj → Prop} (hS : Len S) {Q : Int → Int → Prop} {a b : List Int} {va vb : AV} (ha : IL va a) (hb : IL vb b) (la : a.length ≤ 1000000000) (lb : b.length ≤ 1000000000) (g : Nat) (pre caps : List AV) (hcap : caps.map AV.unown = caps) (hpre : pre.map AV.unown = pre)
 (hf : ∀ x ∈ a, ∀ y ∈ b, ∀ H, S H → ACalls Tryz.prog g (pre ++ [.int .i64 x, .int .i64 y] ++ caps) H (SB S (Q x y))) {H : List AObj} (hH : S H) :
 ACalls Tryz.prog 140 [va, vb, .fn (.func g) pre caps] H (SB S (a.length = b.length ∧ ∀ j, j < a.length → Q (a.getD j 0) (b.getD j 0))) := by
 refine k140.2.calls rfl ?_
 simp only [k140, mkF]
 obtain ⟨a1, a2, a3, a4⟩ := ha.one
 obtain ⟨b1, b2, b3, b4⟩ := hb.one
 simp +contextual only [a2, b2, ha.lenOk, hb.lenOk, ha.len (by omega), hb.len (by omega), sZ, Nat.reduceEqDiff, Nat.reduceAdd, ↓reduceIte, reduceCtorEq]
 refine ⟨fun hne => retS hS rfl ⟨fun h => by simp at h, fun h => absurd (by omega) hne⟩ hH hH, fun heq => ?_⟩
 refine swp_loop_st a.length (fun i (G : List AObj) => S G ∧ ∀ j, j < i → Q (a.getD j 0) (b.getD j 0))
  (fun i G => [(1, vb), (2, .fn (.func g) pre caps), (15, va), (16, .int .i64 b.length), (17, .int .i64 i)]) (fun i G => G) H ⟨⟨hH, fun j hj => by omega⟩, sle_refl _ _ _⟩ fun i G hi hI => ?_
 obtain ⟨hG, hq⟩ := hI
 simp +contextual only [b2, ha.lens, hb.lens, ha.idx, hb.idx, Int.toNat_natCast, hcap, hpre, sZ, Nat.reduceEqDiff, Nat.reduceAdd, ↓reduceIte, reduceCtorEq]
 refine ⟨fun hlt => ⟨by omega, by omega, ?_⟩, fun hge => ?_⟩
 ·refine scall_to (hf _ (getD_mem (by omega)) _ (getD_mem (by omega)) G hG) ?_
  rintro r G' ⟨x, rfl, hx, hG'⟩
  cases x with
  | true =>
    simp +contextual only [sZ, Nat.reduceEqDiff, ↓reduceIte]
    refine ⟨i + 1, G', ⟨by omega, hG', fun j hj => ?_⟩, by omega, sle_eq (by rw [wrap_nat i (by omega)]) rfl⟩
    by_cases h : j = i
    ·subst h; exact hx.1 rfl
    ·exact hq j (by omega)
  | false =>
    simp +contextual only [sZ, Nat.reduceEqDiff, ↓reduceIte, reduceCtorEq]
    refine retS hS rfl ⟨fun h => by simp at h, fun h => ?_⟩ hH hG'
    exact absurd (hx.2 (h.2 i (by omega))) (by simp)
 ·refine retS hS rfl ⟨fun _ => ⟨by omega, fun j hj => hq j (by omega)⟩, fun _ => rfl⟩ hH hG
theorem c100s {S : List AObj → Prop} (hS : Len S) {Q : Int → Prop} {a : List Int} {va : AV} (ha : IL va a) (la : a.length ≤ 1000000000) (g : Nat) (pre caps : List AV) (hcap : caps.map AV.unown = caps) (hpre : pre.map AV.unown = pre)
 (hf : ∀ x ∈ a, ∀ H, S H → ACalls Tryz.prog g (pre ++ [.int .i64 x] ++ caps) H (SB S (Q x))) {H : List AObj} (hH : S H) :
 ACalls Tryz.prog 100 [va, .fn (.func g) pre caps] H (SI S Q a) := by
 refine k100.2.calls rfl ?_
 simp only [k100, mkF]
 obtain ⟨a1, a2, a3, a4⟩ := ha.one
 simp +contextual only [a2, ha.lenOk, ha.len (by omega), sZ, Nat.reduceEqDiff, Nat.reduceAdd, ↓reduceIte, reduceCtorEq]
 have fin : ∀ (n : Int) (G : List AObj), S G → ((n = -1 ∧ ∀ x ∈ a, ¬ Q x) ∨ ∃ m : Nat, n = m ∧ m < a.length ∧ Q (a.getD m 0) ∧ ∀ j, j < m → ¬ Q (a.getD j 0)) → aret H.length [.t 4] [(4, .int .i64 n)] G (SI S Q a) := by
  intro n G hG hn
  refine aret_one H.length (Nat.le_refl _) (by rw [gt_cons, if_pos rfl]; rfl) ?_
  rw [gt_cons, if_pos rfl, List.take_of_length_le (by rw [hS H G hH hG]; exact Nat.le_refl _)]
  refine ⟨hG, ?_⟩
  rcases hn with ⟨rfl, h⟩ | ⟨m, rfl, h⟩
  ·exact .inl ⟨rfl, h⟩
  ·exact .inr ⟨m, rfl, h⟩
 refine swp_loop_st a.length (fun i (G : List AObj) => S G ∧ ∀ j, j < i → ¬ Q (a.getD j 0))
  (fun i G => [(0, va), (1, .fn (.func g) pre caps), (7, .int .i64 a.length), (8, .int .i64 i)]) (fun i G => G) H ⟨⟨hH, fun j hj => by omega⟩, sle_refl _ _ _⟩ fun i G hi hI => ?_
 obtain ⟨hG, hq⟩ := hI
 simp +contextual only [a2, ha.lens, ha.idx, Int.toNat_natCast, hcap, hpre, sZ, Nat.reduceEqDiff, Nat.reduceAdd, ↓reduceIte, reduceCtorEq]
 refine ⟨fun hlt => ⟨by omega, ?_⟩, fun hge => ?_⟩
 ·refine scall_to (hf _ (getD_mem (by omega)) G hG) ?_
  rintro r G' ⟨x, rfl, hx, hG'⟩
  cases x with
  | false =>
    simp +contextual only [sZ, Nat.reduceEqDiff, ↓reduceIte, reduceCtorEq]
    refine ⟨i + 1, G', ⟨by omega, hG', fun j hj => ?_⟩, by omega, sle_eq (by rw [wrap_nat i (by omega)]) rfl⟩
    by_cases h : j = i
    ·subst h; exact fun h => absurd (hx.2 h) (by simp)
    ·exact hq j (by omega)
  | true =>
    simp +contextual only [sZ, Nat.reduceEqDiff, ↓reduceIte, reduceCtorEq]
    exact fin _ _ hG' (.inr ⟨i, rfl, by omega, hx.1 rfl, hq⟩)
 ·refine fin _ _ hG (.inl ⟨rfl, fun x hx => ?_⟩)
  obtain ⟨j, hj, rfl⟩ := List.getElem_of_mem hx
  have := hq j (by omega)
  simpa [hj] using this
theorem c102s {S : List AObj → Prop} (hS : Len S) {Q : Int → Prop} {a : List Int} {va : AV} (ha : IL va a) (la : a.length ≤ 1000000000) (g : Nat) (pre caps : List AV) (hcap : caps.map AV.unown = caps) (hpre : pre.map AV.unown = pre)
 (hf : ∀ x ∈ a, ∀ H, S H → ACalls Tryz.prog g (pre ++ [.int .i64 x] ++ caps) H (SB S (Q x))) {H : List AObj} (hH : S H) :
 ACalls Tryz.prog 102 [va, .fn (.func g) pre caps] H (SB S (∃ x ∈ a, Q x)) := by
 refine k102.2.calls rfl ?_
 simp only [k102, mkF]
 obtain ⟨a1, a2, a3, a4⟩ := ha.one
 simp +contextual only [a2, sZ, Nat.reduceEqDiff, Nat.reduceAdd, ↓reduceIte, reduceCtorEq]
 refine scall_to (c100s hS ha la g pre caps hcap hpre hf hH) ?_
 rintro r G ⟨hG, ⟨rfl, h⟩ | ⟨n, rfl, h1, h2, _⟩⟩
 ·simp +contextual only [sZ, ↓reduceIte, reduceCtorEq]
  exact retS hS (b := false) (by simp) ⟨fun h => by simp at h, fun ⟨x, hx, h'⟩ => absurd h' (h x hx)⟩ hH hG
 ·simp +contextual only [sZ, ↓reduceIte, reduceCtorEq]
  exact retS hS (b := true) (by simp) ⟨fun _ => ⟨_, getD_mem h1, h2⟩, fun _ => rfl⟩ hH hG
end Go.Abs
end
section
set_option maxRecDepth 100000
namespace Go.Abs
open Go Go.Proofs Go.Rpo
def SD (c : Cx) (H0 H : List AObj) : Prop := Du c H ∧ Up c H0 H
theorem SD.lenS (c : Cx) (H0 : List AObj) : Len (SD c H0) := fun H H' h h' => by rw [h'.2.len, h.2.len]
theorem DuR.sb {c : Cx} {Q : Prop} {H0 H H' : List AObj} {r : AV} (h : DuR c Q H r H') (hS : SD c H0 H) : SB (SD c H0) Q r H' := by
 obtain ⟨b, h1, h2, h3, h4⟩ := h; exact ⟨b, h1, h2, h4, hS.2.trans h3⟩
theorem c233 {c : Cx} {i x : Int} (h : MoreC c i x) {H : List AObj} (hD : Du c H) : ACalls Tryz.prog 233 [.int .i64 x, .iptr (.ptr c.d 0), .iptr (.int .i64 i)] H (DuR c (¬ R c.O (c.tm i) (c.tm x)) H) := by
 refine k233.2.calls rfl ?_
 simp only [k233, mkF]
 simp +contextual only [sZ, Nat.reduceEqDiff, Nat.reduceAdd, ↓reduceIte, reduceCtorEq]
 refine scall_to (h H hD) ?_
 rintro r H' ⟨b, rfl, hb, hU, hD'⟩
 simp +contextual only [sZ, ↓reduceIte, reduceCtorEq]
 refine retB (b := !b) rfl ?_ hU hD'
 rw [← hb]; cases b <;> simp
theorem c204 {c : Cx} {i : Int} {l : List Int} {v : AV} (hv : IL v l) (hl : l.length ≤ 1000000000) (h : ∀ x ∈ l, MoreC c i x) {H : List AObj} (hD : Du c H) : ACalls Tryz.prog 204 [.ptr c.d 0, .int .i64 i, v] H (DuR c (∀ x ∈ l, R c.O (c.tm i) (c.tm x)) H) := by
 refine k204.2.calls rfl ?_
 simp only [k204, mkF]
 obtain ⟨a1, a2, a3, a4⟩ := hv.one
 simp +contextual only [a2, sZ, Nat.reduceEqDiff, Nat.reduceAdd, ↓reduceIte, reduceCtorEq]
 refine scall_to (c102s (SD.lenS c H) hv hl 233 [] [.iptr (.ptr c.d 0), .iptr (.int .i64 i)] rfl rfl (Q := fun x => ¬ R c.O (c.tm i) (c.tm x)) (fun x hx G hG => (c233 (h x hx) hG.1).mono fun r H' hr => hr.sb hG) ⟨hD, Up.refl c H⟩) ?_
 rintro r G ⟨b, rfl, hb, hG⟩
 simp +contextual only [sZ, ↓reduceIte, reduceCtorEq]
 refine retB (b := !b) rfl ?_ hG.2 hG.1
 cases b with
 | true =>
   obtain ⟨x, hx, hr⟩ := hb.1 rfl
   exact ⟨fun h => by simp at h, fun h => absurd (h x hx) hr⟩
 | false =>
   refine ⟨fun _ x hx => ?_, fun _ => rfl⟩
   by_cases hr : R c.O (c.tm i) (c.tm x)
   ·exact hr
   ·exact absurd (hb.2 ⟨x, hx, hr⟩) (by simp)
theorem c220 {c : Cx} {x k : Int} (h1 : SameC c x k) (h2 : MoreC c x k) {H : List AObj} (hD : Du c H) : ACalls Tryz.prog 220 [.int .i64 x, .iptr (.ptr c.d 0), .iptr (.int .i64 k)] H (DuR c (E c.O (c.tm x) (c.tm k) ∨ R c.O (c.tm x) (c.tm k)) H) := by
 refine k220.2.calls rfl ?_
 simp only [k220, mkF]
 simp +contextual only [sZ, Nat.reduceEqDiff, Nat.reduceAdd, ↓reduceIte, reduceCtorEq]
 refine scall_to (h1 H hD) ?_
 rintro r H' ⟨b, rfl, hb, hU, hD'⟩
 cases b with
 | true =>
   simp +contextual only [sZ, Nat.reduceEqDiff, ↓reduceIte, reduceCtorEq]
   exact retB rfl ⟨fun _ => .inl (hb.1 rfl), fun _ => rfl⟩ hU hD'
 | false =>
   simp +contextual only [sZ, Nat.reduceEqDiff, Nat.reduceAdd, ↓reduceIte, reduceCtorEq]
   refine scall_to (h2 H' hD') ?_
   rintro r H2 ⟨b, rfl, hb2, hU2, hD2⟩
   simp +contextual only [sZ, Nat.reduceEqDiff, ↓reduceIte, reduceCtorEq]
   refine retB rfl ⟨fun h => .inr (hb2.1 h), fun h => ?_⟩ (hU.trans hU2) hD2
   rcases h with h | h
   ·exact absurd (hb.2 h) (by simp)
   ·exact hb2.2 h
theorem c183 {c : Cx} (hc : c.Ok) {i k : Int} (hi : c.isN i) (h1 : ∀ x ∈ c.kd i, SameC c x k) (h2 : ∀ x ∈ c.kd i, MoreC c x k) {H : List AObj} (hD : Du c H) : ACalls Tryz.prog 183 [.ptr c.d 0, .int .i64 i, .int .i64 k] H (DuR c (∃ x ∈ c.kd i, E c.O (c.tm x) (c.tm k) ∨ R c.O (c.tm x) (c.tm k)) H) := by
 refine k183.2.calls rfl ?_
 simp only [k183, mkF]
 have k2 : ∀ l, (kav l).unown = kav l := fun l => (kav_one l).2.1
 simp +contextual only [hD.d, idxN, fN3, len_navs, aload_kav, k2, sZ, Nat.reduceEqDiff, Nat.reduceAdd, Nat.reduceLT, ↓reduceIte, reduceCtorEq]
 refine ⟨hi, ?_⟩
 refine scall_to (c102s (SD.lenS c H) (.inl rfl : IL (kav (c.kd i)) (c.kd i)) (by have := hc.kl i hi; omega) 220 [] [.iptr (.ptr c.d 0), .iptr (.int .i64 k)] rfl rfl (Q := fun x => E c.O (c.tm x) (c.tm k) ∨ R c.O (c.tm x) (c.tm k)) (fun x hx G hG => (c220 (h1 x hx) (h2 x hx) hG.1).mono fun r H' hr => hr.sb hG) ⟨hD, Up.refl c H⟩) ?_
 rintro r G ⟨b, rfl, hb, hG⟩
 simp +contextual only [sZ, ↓reduceIte, reduceCtorEq]
 exact retB rfl hb hG.2 hG.1
theorem c184 {c : Cx} (hc : c.Ok) {i k : Int} (hi : c.isN i) (hk : c.isN k) (h : ∀ x ∈ c.kd k, MoreC c i x) {H : List AObj} (hD : Du c H) : ACalls Tryz.prog 184 [.ptr c.d 0, .int .i64 i, .int .i64 k] H
 (DuR c (opB c k = true ∧ opP c k < opP c i ∧ ∀ x ∈ c.kd k, R c.O (c.tm i) (c.tm x)) H) := by
 refine k184.2.calls rfl ?_
 simp only [k184, mkF]
 have k2 : ∀ l, (kav l).unown = kav l := fun l => (kav_one l).2.1
 simp +contextual only [sZ, Nat.reduceEqDiff, Nat.reduceAdd, ↓reduceIte, reduceCtorEq]
 refine scall_to (c135 hc hi hD) ?_
 rintro r H1 ⟨rfl, rfl⟩
 simp +contextual only [opA_un, opA_0, opA_1, opA_2, sZ, Nat.reduceEqDiff, Nat.reduceAdd, ↓reduceIte, reduceCtorEq]
 refine scall_to (c135 hc hk hD) ?_
 rintro r H1 ⟨rfl, rfl⟩
 simp +contextual only [opA_un, opA_0, opA_1, opA_2, sZ, Nat.reduceEqDiff, ↓reduceIte, reduceCtorEq]
 cases hb : opB c k with
 | false =>
   simp +contextual only [sZ, Nat.reduceEqDiff, ↓reduceIte, reduceCtorEq]
   exact retB rfl ⟨fun h => by simp at h, fun h => by simp at h⟩ (Up.refl c _) hD
 | true =>
   by_cases hp : opP c k < opP c i
   ·simp +contextual only [hp, hD.d, idxN, fN3, len_navs, aload_kav, k2, sZ, Nat.reduceEqDiff, Nat.reduceAdd, Nat.reduceLT, ↓reduceIte, reduceCtorEq]
    refine ⟨hk, scall_to (c204 (.inl rfl : IL (kav (c.kd k)) (c.kd k)) (by have := hc.kl k hk; omega) h hD) ?_⟩
    rintro r H2 ⟨b, rfl, hb2, hU, hD'⟩
    simp +contextual only [sZ, Nat.reduceEqDiff, ↓reduceIte, reduceCtorEq]
    exact retB rfl ⟨fun h => ⟨rfl, hp, hb2.1 h⟩, fun h => hb2.2 h.2.2⟩ hU hD'
   ·simp +contextual only [hp, sZ, Nat.reduceEqDiff, ↓reduceIte, reduceCtorEq]
    exact retB rfl ⟨fun h => by simp at h, fun h => absurd h.2.1 hp⟩ (Up.refl c _) hD
structure Pas (Q : Int → Int → Prop) (a b : List Int) (n : Nat) : Prop where
 la : n ≤ a.length
 lb : n ≤ b.length
 eq : ∀ j, j < n → Q (a.getD j 0) (b.getD j 0)
 no : n < a.length → n < b.length → ¬ Q (a.getD n 0) (b.getD n 0)
theorem c150 {c : Cx} {a b : List Int} {va vb : AV} (ha : IL va a) (hb : IL vb b) (la : a.length ≤ 1000000000) (lb : b.length ≤ 1000000000) (h : ∀ x ∈ a, ∀ y ∈ b, SameC c x y) {H : List AObj} (hD : Du c H) :
 ACalls Tryz.prog 150 [.ptr c.d 0, va, vb] H fun r H' => ∃ n : Nat, r = .int .i64 n ∧ Pas (fun x y => E c.O (c.tm x) (c.tm y)) a b n ∧ Up c H H' ∧ Du c H' := by
 refine k150.2.calls rfl ?_
 simp only [k150, mkF]
 obtain ⟨a1, a2, a3, a4⟩ := ha.one
 obtain ⟨b1, b2, b3, b4⟩ := hb.one
 simp +contextual only [sZ, Nat.reduceEqDiff, Nat.reduceAdd, ↓reduceIte, reduceCtorEq]
 refine swp_loop_st a.length (fun i (G : List AObj) => SD c H G ∧ i ≤ b.length ∧ ∀ j, j < i → E c.O (c.tm (a.getD j 0)) (c.tm (b.getD j 0)))
  (fun i G => [(0, .ptr c.d 0), (1, va), (2, vb), (7, .int .i64 i)]) (fun i G => G) H ⟨⟨⟨hD, Up.refl c H⟩, Nat.zero_le _, fun j hj => by omega⟩, sle_refl _ _ _⟩ fun i G hi hI => ?_
 obtain ⟨hG, hib, hq⟩ := hI
 have fin : ∀ G', SD c H G' → Pas (fun x y => E c.O (c.tm x) (c.tm y)) a b i → aret H.length [.t 6] [(6, .int .i64 (i : Int))] G' fun r H' => ∃ n : Nat, r = .int .i64 n ∧ Pas (fun x y => E c.O (c.tm x) (c.tm y)) a b n ∧ Up c H H' ∧ Du c H' := by
  intro G' hG' hp
  refine aret_one H.length (Nat.le_refl _) (by rw [gt_cons, if_pos rfl]; rfl) ?_
  rw [gt_cons, if_pos rfl, List.take_of_length_le (by rw [hG'.2.len]; exact Nat.le_refl _)]
  exact ⟨i, rfl, hp, hG'.2, hG'.1⟩
 by_cases h1 : (i : Int) < a.length
 ·by_cases h2 : (i : Int) < b.length
  ·simp +contextual only [a2, b2, ha.lenOk, hb.lenOk, ha.lenD, hb.lenD, ha.lens, hb.lens, ha.idx, hb.idx, Int.toNat_natCast, h1, h2, decide_true, sZ, Nat.reduceEqDiff, Nat.reduceAdd, ↓reduceIte, reduceCtorEq]
   refine ⟨by omega, by omega, ?_⟩
   refine scall_to (h _ (getD_mem (by omega)) _ (getD_mem (by omega)) G hG.1) ?_
   rintro r G' ⟨x, rfl, hx, hU, hD'⟩
   have hG' : SD c H G' := ⟨hD', hG.2.trans hU⟩
   cases x with
   | true =>
     simp +contextual only [sZ, Nat.reduceEqDiff, ↓reduceIte, reduceCtorEq]
     refine ⟨i + 1, G', ⟨by omega, hG', by omega, fun j hj => ?_⟩, by omega, sle_eq (by rw [wrap_nat i (by omega)]) rfl⟩
     by_cases h : j = i
     ·subst h; exact hx.1 rfl
     ·exact hq j (by omega)
   | false =>
     simp +contextual only [sZ, Nat.reduceEqDiff, ↓reduceIte, reduceCtorEq]
     exact fin G' hG' ⟨hi, hib, hq, fun _ _ he => absurd (hx.2 he) (by simp)⟩
  ·simp +contextual only [a2, b2, ha.lenOk, hb.lenOk, ha.lenD, hb.lenD, h1, h2, decide_true, decide_false, sZ, Nat.reduceEqDiff, ↓reduceIte, reduceCtorEq]
   exact fin G hG ⟨hi, hib, hq, fun _ h' => absurd h' (by omega)⟩
 ·simp +contextual only [a2, ha.lenOk, ha.lenD, h1, decide_false, sZ, Nat.reduceEqDiff, ↓reduceIte, reduceCtorEq]
  exact fin G hG ⟨hi, hib, hq, fun h' _ => absurd h' (by omega)⟩
def LexQ (c : Cx) (i k : Int) : Prop :=
 lvB c i k = true ∧ opS c i ≠ 3 ∧ (∀ x ∈ c.kd k, R c.O (c.tm i) (c.tm x)) ∧
 ∃ n, Pas (fun x y => E c.O (c.tm x) (c.tm y)) (sideI (opS c i) (c.kd i)) (sideI (opS c i) (c.kd k)) n ∧ n < (sideI (opS c i) (c.kd i)).length ∧
  (n = (sideI (opS c i) (c.kd k)).length ∨ R c.O (c.tm ((sideI (opS c i) (c.kd i)).getD n 0)) (c.tm ((sideI (opS c i) (c.kd k)).getD n 0)))
theorem sideI_mem {s x : Int} {l : List Int} : x ∈ sideI s l ↔ x ∈ l := by unfold sideI; split <;> simp
theorem sideI_len {s : Int} {l : List Int} : (sideI s l).length = l.length := by unfold sideI; split <;> simp
theorem Pas.uniq {Q : Int → Int → Prop} {a b : List Int} {n m : Nat} (h : Pas Q a b n) (k : Pas Q a b m) : n = m := by
 rcases Nat.lt_trichotomy n m with h1 | h1 | h1
 ·exact absurd (k.eq n h1) (h.no (by have := k.la; omega) (by have := k.lb; omega))
 ·exact h1
 ·exact absurd (h.eq m h1) (k.no (by have := h.la; omega) (by have := h.lb; omega))
theorem c185 {c : Cx} (hc : c.Ok) {i k : Int} (hi : c.isN i) (hk : c.isN k) (h1 : ∀ x ∈ c.kd k, MoreC c i x) (h2 : ∀ x ∈ c.kd i, ∀ y ∈ c.kd k, SameC c x y) (h3 : ∀ x ∈ c.kd i, ∀ y ∈ c.kd k, MoreC c x y) {H : List AObj} (hD : Du c H) :
 ACalls Tryz.prog 185 [.ptr c.d 0, .int .i64 i, .int .i64 k] H (DuR c (LexQ c i k) H) := by
 refine k185v.2.calls rfl ?_
 simp only [k185v, mkF]
 have k2 : ∀ l, (kav l).unown = kav l := fun l => (kav_one l).2.1
 have l1 := hc.kl i hi
 have l2 := hc.kl k hk
 simp +contextual only [sZ, Nat.reduceEqDiff, Nat.reduceAdd, ↓reduceIte, reduceCtorEq]
 refine scall_to (c155 hc hi hk hD) ?_
 rintro r H1 ⟨rfl, rfl⟩
 simp +contextual only [sZ, Nat.reduceEqDiff, Nat.reduceAdd, Nat.reduceLT, ↓reduceIte, reduceCtorEq]
 cases hl : lvB c i k with
 | false =>
   simp +contextual only [Bool.not_false, sZ, Nat.reduceEqDiff, ↓reduceIte, reduceCtorEq]
   exact retB rfl ⟨fun h => by simp at h, fun h => by have := h.1; rw [hl] at this; simp at this⟩ (Up.refl c _) hD
 | true =>
   by_cases hs : opS c i = 3
   ·simp +contextual only [Bool.not_true, hs, decide_true, sZ, Nat.reduceEqDiff, ↓reduceIte, reduceCtorEq]
    exact retB rfl ⟨fun h => by simp at h, fun h => absurd hs h.2.1⟩ (Up.refl c _) hD
   ·simp +contextual only [Bool.not_true, hs, decide_false, hD.d, idxN, fN3, len_navs, aload_kav, k2, sZ, Nat.reduceEqDiff, Nat.reduceAdd, Nat.reduceLT, ↓reduceIte, reduceCtorEq]
    refine ⟨hk, scall_to (c204 (.inl rfl : IL (kav (c.kd k)) (c.kd k)) (by omega) h1 hD) ?_⟩
    rintro r H2 ⟨b, rfl, hb2, hU, hD2⟩
    cases b with
    | false =>
      simp +contextual only [Bool.not_false, sZ, Nat.reduceEqDiff, ↓reduceIte, reduceCtorEq]
      exact retB rfl ⟨fun h => by simp at h, fun h => absurd (hb2.2 h.2.2.1) (by simp)⟩ hU hD2
    | true =>
      have hab := hb2.1 rfl
      simp +contextual only [Bool.not_true, hD2.d, idxN, fN3, len_navs, aload_kav, k2, sZ, Nat.reduceEqDiff, Nat.reduceAdd, Nat.reduceLT, ↓reduceIte, reduceCtorEq]
      refine ⟨hi, dcall_pure (c149 (c.kd i) (opS c i) (by omega)) ?_⟩
      simp +contextual only [hD2.d, idxN, fN3, len_navs, aload_kav, k2, sZ, Nat.reduceEqDiff, Nat.reduceAdd, Nat.reduceLT, ↓reduceIte, reduceCtorEq]
      refine ⟨hk, dcall_pure (c149 (c.kd k) (opS c i) (by omega)) ?_⟩
      have la : (sideI (opS c i) (c.kd i)).length ≤ 1000000000 := by rw [sideI_len]; omega
      have lb : (sideI (opS c i) (c.kd k)).length ≤ 1000000000 := by rw [sideI_len]; omega
      have ia : IL (.lst 0 (ints (sideI (opS c i) (c.kd i)))) (sideI (opS c i) (c.kd i)) := .inr rfl
      have ib : IL (.lst 0 (ints (sideI (opS c i) (c.kd k)))) (sideI (opS c i) (c.kd k)) := .inr rfl
      simp +contextual only [sZ, Nat.reduceEqDiff, Nat.reduceAdd, ↓reduceIte, reduceCtorEq]
      refine scall_to (c150 ia ib la lb (fun x hx y hy => h2 x (sideI_mem.1 hx) y (sideI_mem.1 hy)) hD2) ?_
      rintro r H3 ⟨n, rfl, hp, hU3, hD3⟩
      have U3 := hU.trans hU3
      have yes : ∀ (Hx : List AObj), Up c H1 Hx → Du c Hx → n < (sideI (opS c i) (c.kd i)).length → (n = (sideI (opS c i) (c.kd k)).length ∨ R c.O (c.tm ((sideI (opS c i) (c.kd i)).getD n 0)) (c.tm ((sideI (opS c i) (c.kd k)).getD n 0))) →
       aret H1.length [.t 6] [(6, .bool true)] Hx (DuR c (LexQ c i k) H1) := fun Hx u d hn hx => retB rfl ⟨fun _ => ⟨hl, hs, hab, n, hp, hn, hx⟩, fun _ => rfl⟩ u d
      have no : ∀ (Hx : List AObj), Up c H1 Hx → Du c Hx → ¬ (n < (sideI (opS c i) (c.kd i)).length ∧ (n = (sideI (opS c i) (c.kd k)).length ∨ R c.O (c.tm ((sideI (opS c i) (c.kd i)).getD n 0)) (c.tm ((sideI (opS c i) (c.kd k)).getD n 0)))) →
       aret H1.length [.t 6] [(6, .bool false)] Hx (DuR c (LexQ c i k) H1) := fun Hx u d hx => retB rfl ⟨fun h => by simp at h, fun ⟨_, _, _, m, hm, hx'⟩ => absurd (hm.uniq hp ▸ hx') hx⟩ u d
      by_cases h4 : (n : Int) < (sideI (opS c i) (c.kd i)).length
      ·have d4 : decide ((n : Int) < (sideI (opS c i) (c.kd i)).length) = true := decide_eq_true h4
       by_cases h5 : (n : Int) = (sideI (opS c i) (c.kd k)).length
       ·have d5 : decide ((n : Int) = (sideI (opS c i) (c.kd k)).length) = true := decide_eq_true h5
        simp +contextual only [ints_len, d4, d5, sZ, Nat.reduceEqDiff, ↓reduceIte, reduceCtorEq]
        exact yes H3 U3 hD3 (by omega) (.inl (by omega))
       ·have hlb := hp.lb
        simp +contextual only [ints_len, lens_ints, idx_intsI, Int.toNat_natCast, h4, h5, decide_true, decide_false, sZ, Nat.reduceEqDiff, Nat.reduceAdd, ↓reduceIte, reduceCtorEq]
        refine ⟨by omega, ⟨by omega, by omega⟩, scall_to (h3 _ (sideI_mem.1 (getD_mem (by omega))) _ (sideI_mem.1 (getD_mem (by omega))) H3 hD3) ?_⟩
        rintro r H4 ⟨b, rfl, hb, hU4, hD4⟩
        cases b with
        | true =>
          simp +contextual only [sZ, Nat.reduceEqDiff, ↓reduceIte, reduceCtorEq]
          exact yes H4 (U3.trans hU4) hD4 (by omega) (.inr (hb.1 rfl))
        | false =>
          simp +contextual only [sZ, Nat.reduceEqDiff, ↓reduceIte, reduceCtorEq]
          refine no H4 (U3.trans hU4) hD4 fun ⟨_, hx⟩ => ?_
          rcases hx with hx | hx
          ·omega
          ·exact absurd (hb.2 hx) (by simp)
      ·simp +contextual only [ints_len, h4, decide_false, sZ, Nat.reduceEqDiff, ↓reduceIte, reduceCtorEq]
       exact no H3 U3 hD3 fun ⟨hx, _⟩ => by omega
end Go.Abs
end
section
set_option maxRecDepth 100000
namespace Go.Abs
open Go Go.Proofs Go.Rpo
theorem wrapU (n : Int) (h : 0 ≤ n ∧ n < 18446744073709551616) : IntKind.u64.wrap n = n := by
 have : IntKind.u64.bits = 64 := rfl
 have : IntKind.u64.signed = false := rfl
 simp only [IntKind.wrap, *]
 have e : n % 2 ^ 64 = n := Int.emod_eq_of_lt h.1 (by omega)
 rw [e]
 simp
theorem an_U {n : Nat} (h : n < 4294967296) (φ : AV → Prop) : abin .and (.int .u64 (n : Int)) (.int .u64 4294967295) φ = φ (.int .u64 (n : Int)) := by
 have e : (BitVec.ofInt IntKind.u64.bits (n : Int) &&& BitVec.ofInt IntKind.u64.bits 4294967295).toNat = n := by
  show (BitVec.ofInt 64 (n : Int) &&& BitVec.ofInt 64 4294967295).toNat = n
  rw [BitVec.toNat_and]
  have e1 : (BitVec.ofInt 64 (n : Int)).toNat = n := by rw [BitVec.toNat_ofInt]; omega
  have e2 : (BitVec.ofInt 64 4294967295).toNat = 2 ^ 32 - 1 := rfl
  rw [e1, e2, Nat.and_two_pow_sub_one_eq_mod, Nat.mod_eq_of_lt h]
 simp only [abin, e, true_and]
 rw [wrapU _ (by omega)]
theorem sh_U {n : Nat} (h : n < 4294967296) (φ : AV → Prop) : ashift .shr (.int .u64 (n : Int)) (.int .u64 32) φ = φ (.int .u64 0) := by
 have e : Int.fdiv (n : Int) (2 ^ min (32 : Int).toNat IntKind.u64.bits) = 0 := by
  show Int.fdiv (n : Int) (2 ^ 32) = 0
  rw [Int.fdiv_eq_ediv_of_nonneg _ (by decide)]
  omega
 simp only [ashift, e]
 simp
theorem c213 {n : Nat} (h : n < 4294967296) : Pure Tryz.prog 213 [.int .u64 1, .int .u64 (n : Int)] (.tuple [.int .u64 0, .int .u64 (n : Int)]) := by
 refine fun H => k213.2.calls rfl ?_
 simp only [k213, mkF]
 have a1 : ∀ φ : AV → Prop, abin .and (.int .u64 1) (.int .u64 4294967295) φ = φ (.int .u64 1) := fun φ => an_U (n := 1) (by decide) φ
 have s1 : ∀ φ : AV → Prop, ashift .shr (.int .u64 1) (.int .u64 32) φ = φ (.int .u64 0) := fun φ => sh_U (n := 1) (by decide) φ
 have a0 : ∀ φ : AV → Prop, abin .and (.int .u64 0) (.int .u64 4294967295) φ = φ (.int .u64 0) := fun φ => an_U (n := 0) (by decide) φ
 have s0 : ∀ φ : AV → Prop, ashift .shr (.int .u64 0) (.int .u64 32) φ = φ (.int .u64 0) := fun φ => sh_U (n := 0) (by decide) φ
 have w1 : IntKind.u64.wrap (1 * (n : Int)) = n := by rw [Int.one_mul]; exact wrapU _ (by omega)
 have w0 : IntKind.u64.wrap 0 = 0 := wrapU _ (by omega)
 simp +contextual only [a1, s1, a0, s0, an_U h, sh_U h, w1, w0, Int.zero_mul, Int.mul_zero, Int.add_zero, sZ, Nat.reduceEqDiff, Nat.reduceAdd, ↓reduceIte, reduceCtorEq]
 have := ret22 (H := H) (e := []) (s := 4) (s' := 5) (v := .int .u64 0) (v' := .int .u64 (n : Int)) (by decide) rfl rfl rfl rfl
 rwa [List.append_nil] at this
theorem c174 {n : Nat} (h : n < 4294967296) : Pure Tryz.prog 174 [.int .u64 1, .int .u64 (n : Int)] (.tuple [.int .u64 0, .int .u64 (n : Int)]) := by
 refine fun H => k174.2.calls rfl ?_
 simp only [k174, mkF]
 simp +contextual only [sZ, Nat.reduceEqDiff, Nat.reduceAdd, ↓reduceIte, reduceCtorEq]
 refine scall_pure (c213 h) ?_
 simp +contextual only [sZ, Nat.reduceEqDiff, Nat.reduceAdd, Nat.reduceLT, ↓reduceIte, reduceCtorEq]
 have := ret22 (H := H) (e := []) (s := 4) (s' := 5) (v := .int .u64 0) (v' := .int .u64 (n : Int)) (by decide) rfl rfl rfl rfl
 rwa [List.append_nil] at this
def objI (l : List Int) : AObj := .cells (ints l)
def repI (i n : Nat) (x : Int) : List Int := List.replicate i x ++ List.replicate (n - i) 0
theorem mkI (n : Nat) (H : List AObj) (K : AV → List AObj → Prop) (h : n ≤ 1000000000) : amkarr 1 8 (.int .i64 0) (.int .i64 (n : Int)) H K = K (.arr H.length 0 n n) (H ++ [objI (repI 0 n 0)]) := by
 have e : flat (List.replicate n (zcanon (.int .i64 0))) = ints (repI 0 n 0) := by
  rw [← flat_ints]; simp [repI, ints, zcanon]
 simp only [amkarr, Int.toNat_natCast, e, ints_blw, objI, true_and, eq_iff_iff]
 constructor
 ·rintro ⟨_, _, h⟩; exact h
 ·exact fun k => ⟨by omega, by omega, k⟩
theorem ints_take (l : List Int) (k : Nat) : (ints l).take k = ints (l.take k) := by simp [ints, List.map_take]
theorem ints_drop (l : List Int) (k : Nat) : (ints l).drop k = ints (l.drop k) := by simp [ints, List.map_drop]
theorem ints_app (l m : List Int) : ints l ++ ints m = ints (l ++ m) := by simp [ints]
theorem ints_un (l : List Int) : (ints l).map AV.unown = ints l := by simp [ints, AV.unown]
theorem ints_all1 (l : List Int) : (ints l).all AV.one = true := by simp [ints, AV.one]
theorem splice_rep (x : Int) {i m n : Nat} (h : i + m ≤ n) : asplice (ints (repI i n x)) i (ints (List.replicate m x)) = ints (repI (i + m) n x) := by
 unfold asplice
 rw [ints_take, ints_len, ints_drop, ints_app, ints_app, List.length_replicate]
 congr 1
 unfold repI
 rw [List.take_append_of_le_length (by simp), List.take_of_length_le (by simp), List.drop_append, List.drop_of_length_le (by simp), List.nil_append, List.length_replicate, List.drop_replicate, ← List.append_assoc, List.replicate_append_replicate]
 congr 2; omega
theorem copy0 (x : Int) {id n : Nat} {H : List AObj} (hg : H[id]? = some (objI (repI 0 n 0))) (K : AV → List AObj → Prop) (hK : K (.int .i64 (min 1 n : Nat)) (H.set id (objI (repI (min 1 n) n x)))) : acopy 1 (.arr id 0 n n) (.lst 0 (ints [x])) H K := by
 have e0 : repI 0 n 0 = repI 0 n x := by simp [repI]
 rw [e0] at hg
 have ec : csrc 1 (.lst 0 (ints [x])) H = some (1, ints [x]) := rfl
 have et : (ints [x]).take (min 1 n * 1) = ints (List.replicate (min 1 n) x) := by
  rcases Nat.eq_zero_or_pos n with rfl | h
  ·rfl
  ·rw [show min 1 n = 1 by omega]; rfl
 have := splice_rep x (i := 0) (m := min 1 n) (n := n) (by omega)
 rw [Nat.zero_add] at this
 simp only [acopy, ec, hg, objI, et, ints_un, ints_all1, ints_blw, this, ints_len]
 exact ⟨trivial, by simp [repI]; omega, trivial, hK⟩
theorem copy1 (x : Int) {id i n : Nat} (h0 : 0 < i) (h1 : i < n) {H : List AObj} (hg : H[id]? = some (objI (repI i n x))) (K : AV → List AObj → Prop) (hK : K (.int .i64 (min i (n - i) : Nat)) (H.set id (objI (repI (i + min i (n - i)) n x)))) : acopy 1 (.arr id i (n - i) (n - i)) (.arr id 0 i n) H K := by
 have hl : (repI i n x).length = n := by simp [repI]; omega
 have ec : csrc 1 (.arr id 0 i n) H = some (i, ints (repI i n x)) := by
  simp only [csrc, hg, objI, ints_len, hl, List.drop_zero]
  rw [if_pos (by omega)]
 have et : (ints (repI i n x)).take (min i (n - i) * 1) = ints (List.replicate (min i (n - i)) x) := by
  rw [Nat.mul_one, ints_take]
  congr 1
  unfold repI
  rw [List.take_append_of_le_length (by simp; omega), List.take_replicate]
  congr 1; omega
 have := splice_rep x (i := i) (m := min i (n - i)) (n := n) (by omega)
 simp only [acopy, ec, hg, objI, et, ints_un, ints_all1, ints_blw, this, ints_len, hl]
 exact ⟨trivial, by omega, trivial, hK⟩
theorem slA {id i n : Nat} (h : i < n) (φ : AV → Prop) : asliceX 1 (.arr id 0 n n) (some (.int .i64 (i : Int))) none none φ = φ (.arr id i (n - i) (n - i)) := by
 simp only [asliceX, aslicea, aidx, Int.toNat_natCast, eq_iff_iff]
 rw [if_neg (by omega)]
 constructor
 ·intro h; simpa using h.2.2.2
 ·intro k; exact ⟨by omega, by omega, Nat.le_refl _, by simpa using k⟩
theorem slB {id i n : Nat} (h : i < n) (φ : AV → Prop) : asliceX 1 (.arr id 0 n n) none (some (.int .i64 (i : Int))) none φ = φ (.arr id 0 i n) := by
 simp only [asliceX, aslicea, aidx, Int.toNat_natCast, eq_iff_iff]
 rw [if_neg (by omega)]
 constructor
 ·intro h; simpa using h.2.2.2
 ·intro k; exact ⟨by omega, by omega, by omega, by simpa using k⟩
theorem c113 (o : Nat) (x : Int) (n : Nat) (hn : n ≤ 1000000000) (H : List AObj) : ACalls Tryz.prog 113 [.lst o (ints [x]), .int .i64 (n : Int)] H fun r H' => r = .arr H.length 0 n n ∧ H' = H ++ [objI (List.replicate n x)] := by
 refine k113.2.calls rfl ?_
 simp only [k113, mkF]
 have w1 : IntKind.u64.wrap 1 = 1 := wrapU _ (by omega)
 have w2 : IntKind.u64.wrap (n : Int) = n := wrapU _ (by omega)
 have w3 : IntKind.i64.wrap (n : Int) = n := wrap_in _ (by omega)
 have e1 : (ints [x]).length = 1 := rfl
 have nn : decide ((n : Int) < 0) = false := decide_eq_false (by omega)
 have ng : decide ((9223372036854775807 : Int) < n) = false := decide_eq_false (by omega)
 have z0 : decide ((0 : Int) < 0) = false := rfl
 have ci : ∀ (k k' : IntKind) (n : Int) (φ : AV → Prop), aconvInt k (.int k' n) φ = φ (.int k (k.wrap n)) := fun _ _ _ _ => rfl
 simp +contextual only [e1, w2, ci, nn, sZ, Nat.reduceEqDiff, Nat.reduceAdd, Nat.reduceLT, ↓reduceIte, reduceCtorEq]
 refine scall_pure (c174 (n := n) (by omega)) ?_
 simp +contextual only [w3, ci, ng, mkI n _ _ hn, sZ, Nat.reduceEqDiff, Nat.reduceAdd, Nat.reduceLT, ↓reduceIte, reduceCtorEq, Int.reduceLT]
 have g0 : (H ++ [objI (repI 0 n 0)])[H.length]? = some (objI (repI 0 n 0)) := by simp
 refine copy0 x g0 _ ?_
 simp +contextual only [sZ, Nat.reduceEqDiff, ↓reduceIte, reduceCtorEq]
 have es : ∀ i j, (H ++ [objI (repI i n x)]).set H.length (objI (repI j n x)) = H ++ [objI (repI j n x)] := by intro i j; simp
 refine swp_loop Nat (fun i => i ≤ n ∧ (0 < n → 0 < i)) (fun i => [(7, .arr H.length 0 n n), (8, .int .i64 i)]) (fun i => H ++ [objI (repI i n x)]) (fun i => n - i) (min 1 n) ⟨by omega, by omega⟩ (sle_eq rfl ?_) ?_
 ·simp
 ·intro i hI
  have gi : (H ++ [objI (repI i n x)])[H.length]? = some (objI (repI i n x)) := by simp
  by_cases hlt : (i : Int) < n
  ·have hin : i < n := by omega
   simp +contextual only [hlt, decide_true, Option.map_some, Option.map_none, slA hin, slB hin, sZ, Nat.reduceEqDiff, ↓reduceIte]
   refine copy1 x (by omega) hin gi _ ?_
   simp +contextual only [es, sZ, Nat.reduceEqDiff, ↓reduceIte]
   refine ⟨i + min i (n - i), ⟨by omega, by omega⟩, by omega, sle_eq ?_ rfl⟩
   rw [wrap_in _ (by omega)]
   rw [Int.natCast_add]
  ·have e : i = n := by omega
   subst e
   simp +contextual only [hlt, decide_false, sZ, Nat.reduceEqDiff, ↓reduceIte, reduceCtorEq]
   have e3 : repI i i x = List.replicate i x := by simp [repI]
   rw [e3]
   refine aret_one (H.length + 1) (by omega) (by rw [gt_cons, if_pos rfl, bw_arr]; simp) ?_
   rw [gt_cons, if_pos rfl, List.take_of_length_le (by simp)]
   exact ⟨rfl, rfl⟩
end Go.Abs
end
section
set_option maxRecDepth 100000
namespace Go.Abs
open Go Go.Proofs Go.Rpo
def bools (l : List Bool) : List AV := l.map .bool
def objB (l : List Bool) : AObj := .cells (bools l)
theorem bools_len (l : List Bool) : (bools l).length = l.length := by simp [bools]
def below (n : Nat) (p : Nat → Bool) : List Int := ((List.range n).filter p).map Int.ofNat
theorem below_succ (n : Nat) (p : Nat → Bool) : below (n + 1) p = if p n = true then below n p ++ [(n : Int)] else below n p := by
 unfold below
 rw [List.range_succ, List.filter_append, List.map_append]
 by_cases h : p n = true
 ·simp [h]
 ·simp [h]
theorem below_len (n : Nat) (p : Nat → Bool) : (below n p).length ≤ n := by
 unfold below
 rw [List.length_map]
 have := List.length_filter_le p (List.range n)
 simpa using this
theorem mem_below {n : Nat} {p : Nat → Bool} {x : Int} : x ∈ below n p ↔ ∃ j : Nat, x = j ∧ j < n ∧ p j = true := by
 unfold below
 simp only [List.mem_map, List.mem_filter, List.mem_range]
 constructor
 ·rintro ⟨j, h, rfl⟩; exact ⟨j, rfl, h⟩
 ·rintro ⟨j, rfl, h⟩; exact ⟨j, h, rfl⟩
structure Pr (Q : Int → Int → Prop) (a b : List Int) (k : Nat) (us : List Bool) (to : List Int) : Prop where
 lu : us.length = a.length
 lt : to.length = b.length
 rest : ∀ j, k ≤ j → j < b.length → to.getD j 0 = -1
 t1 : ∀ j, j < k → to.getD j 0 = -1 ∨ ∃ i : Nat, to.getD j 0 = i ∧ i < a.length ∧ us.getD i false = true ∧ Q (a.getD i 0) (b.getD j 0)
 inj : ∀ j j', j < k → j' < k → to.getD j 0 = to.getD j' 0 → to.getD j 0 ≠ -1 → j = j'
 uu : ∀ i, i < a.length → us.getD i false = true → ∃ j, j < k ∧ to.getD j 0 = i
 free : ∀ j, j < k → to.getD j 0 = -1 → ∀ i, i < a.length → us.getD i false = false → ¬ Q (a.getD i 0) (b.getD j 0)
theorem getD_setB {l : List Bool} {i j : Nat} {x : Bool} (hi : i < l.length) : (l.set i x).getD j false = if j = i then x else l.getD j false := by
 simp only [List.getD_eq_getElem?_getD, List.getElem?_set]
 by_cases h : i = j
 ·subst h; simp [hi]
 ·rw [if_neg h, if_neg (fun e => h e.symm)]
theorem Pr.start {Q : Int → Int → Prop} {a b : List Int} : Pr Q a b 0 (List.replicate a.length false) (List.replicate b.length (-1)) :=
 ⟨by simp, by simp, fun j _ hj => by simp [hj], fun j h => by omega, fun j j' h => by omega, fun i hi h => by simp [hi] at h, fun j h => by omega⟩
theorem Pr.pair {Q : Int → Int → Prop} {a b : List Int} {k i : Nat} {us : List Bool} {to : List Int} (h : Pr Q a b k us to) (hk : k < b.length) (hi : i < a.length) (hu : us.getD i false = false) (hq : Q (a.getD i 0) (b.getD k 0)) :
 Pr Q a b (k + 1) (us.set i true) (to.set k i) := by
 have hl := h.lt
 have hl2 := h.lu
 have gt : ∀ j, (to.set k (i : Int)).getD j 0 = if j = k then (i : Int) else to.getD j 0 := fun j => getD_set (by omega)
 have gu : ∀ j, (us.set i true).getD j false = if j = i then true else us.getD j false := fun j => getD_setB (by omega)
 refine ⟨by simp [hl2], by simp [hl], fun j h1 h2 => ?_, fun j hj => ?_, fun j j' hj hj' he hn => ?_, fun i' hi' hu' => ?_, fun j hj hn i' hi' hu' => ?_⟩
 ·rw [gt, if_neg (by omega)]; exact h.rest j (by omega) h2
 ·rw [gt]
  by_cases e : j = k
  ·subst e; rw [if_pos rfl]; exact .inr ⟨i, rfl, hi, by rw [gu, if_pos rfl], hq⟩
  ·rw [if_neg e]
   rcases h.t1 j (by omega) with h1 | ⟨i', h1, h2, h3, h4⟩
   ·exact .inl h1
   ·exact .inr ⟨i', h1, h2, by rw [gu]; split; rfl; exact h3, h4⟩
 ·rw [gt] at he hn
  rw [gt] at he
  by_cases e : j = k
  ·by_cases e' : j' = k
   ·omega
   ·rw [if_pos e, if_neg e'] at he
    rcases h.t1 j' (by omega) with h1 | ⟨i', h1, h2, h3, h4⟩
    ·omega
    ·have : i' = i := by omega
     subst this; rw [hu] at h3; cases h3
  ·rw [if_neg e] at he hn
   by_cases e' : j' = k
   ·rw [if_pos e'] at he
    rcases h.t1 j (by omega) with h1 | ⟨i', h1, h2, h3, h4⟩
    ·omega
    ·have : i' = i := by omega
     subst this; rw [hu] at h3; cases h3
   ·rw [if_neg e'] at he
    exact h.inj j j' (by omega) (by omega) he hn
 ·rw [gu] at hu'
  by_cases e : i' = i
  ·subst e; exact ⟨k, by omega, by rw [gt, if_pos rfl]⟩
  ·rw [if_neg e] at hu'
   obtain ⟨j, h1, h2⟩ := h.uu i' hi' hu'
   exact ⟨j, by omega, by rw [gt, if_neg (by omega)]; exact h2⟩
 ·rw [gt] at hn
  rw [gu] at hu'
  by_cases e : j = k
  ·rw [if_pos e] at hn; omega
  ·rw [if_neg e] at hn
   by_cases e' : i' = i
   ·rw [if_pos e'] at hu'; cases hu'
   ·rw [if_neg e'] at hu'
    exact h.free j (by omega) hn i' hi' hu'
theorem Pr.over {Q : Int → Int → Prop} {a b : List Int} {k : Nat} {us : List Bool} {to : List Int} (h : Pr Q a b k us to) (hk : k < b.length) (hq : ∀ i, i < a.length → us.getD i false = false → ¬ Q (a.getD i 0) (b.getD k 0)) : Pr Q a b (k + 1) us to := by
 have hr := h.rest k (Nat.le_refl _) hk
 refine ⟨h.lu, h.lt, fun j h1 h2 => h.rest j (by omega) h2, fun j hj => ?_, fun j j' hj hj' he hn => ?_, fun i hi hu => ?_, fun j hj hn i hi hu => ?_⟩
 ·by_cases e : j = k
  ·subst e; exact .inl hr
  ·exact h.t1 j (by omega)
 ·have h1 : j ≠ k := fun e => by subst e; exact hn hr
  have h2 : j' ≠ k := fun e => by subst e; exact hn (he.trans hr)
  exact h.inj j j' (by omega) (by omega) he hn
 ·obtain ⟨j, h1, h2⟩ := h.uu i hi hu; exact ⟨j, by omega, h2⟩
 ·by_cases e : j = k
  ·subst e; exact hq i hi hu
  ·exact h.free j (by omega) hn i hi hu
def PairR (c : Cx) (a b : List Int) (H : List AObj) (r : AV) (H' : List AObj) : Prop :=
 ∃ us to, Pr (fun x y => E c.O (c.tm x) (c.tm y)) a b b.length us to ∧ r = .tuple [kav (below a.length fun i => !us.getD i false), kav (below b.length fun j => decide (to.getD j 0 < 0)), .lst 0 (ints to)] ∧ Up c H H' ∧ Du c H'
theorem mkB (n : Nat) (H : List AObj) (K : AV → List AObj → Prop) (h : n ≤ 1000000000) : amkarr 1 1 (.bool false) (.int .i64 (n : Int)) H K = K (.arr H.length 0 n n) (H ++ [objB (List.replicate n false)]) := by
 have e : flat (List.replicate n (zcanon (.bool false))) = bools (List.replicate n false) := by
  induction n with
  | zero => rfl
  | succ n ih => rw [List.replicate_succ, List.replicate_succ]; exact congrArg (AV.bool false :: ·) (ih (by omega))
 have eb : ∀ m, belowL m (bools (List.replicate n false)) = true := fun m => (belowL_iff _ _).2 fun x hx => by
  obtain ⟨y, _, rfl⟩ := List.mem_map.1 hx; rfl
 simp only [amkarr, Int.toNat_natCast, e, eb, objB, true_and, eq_iff_iff]
 constructor
 ·rintro ⟨_, _, h⟩; exact h
 ·exact fun k => ⟨by omega, by omega, k⟩
theorem below_congr {n : Nat} {p q : Nat → Bool} (h : ∀ j, j < n → p j = q j) : below n p = below n q := by
 unfold below
 congr 1
 apply List.filter_congr
 intro j hj
 exact h j (List.mem_range.1 hj)
structure PS (c : Cx) (H : List AObj) (us : List Bool) (to : List Int) (G : List AObj) : Prop where
 du : Du c G
 up : Up c (H ++ [objB us, objI to]) G
theorem PS.u {c : Cx} {H : List AObj} {us : List Bool} {to : List Int} {G : List AObj} (hD : Du c H) (h : PS c H us to G) : G[H.length]? = some (objB us) := by
 obtain ⟨l1, l2, l3⟩ := hD.lt
 rw [h.up.get _ (by omega) (by omega)]; simp
theorem PS.t {c : Cx} {H : List AObj} {us : List Bool} {to : List Int} {G : List AObj} (hD : Du c H) (h : PS c H us to G) : G[H.length + 1]? = some (objI to) := by
 obtain ⟨l1, l2, l3⟩ := hD.lt
 rw [h.up.get _ (by omega) (by omega)]; simp
theorem PS.call {c : Cx} {H : List AObj} {us : List Bool} {to : List Int} {G G' : List AObj} (h : PS c H us to G) (hU : Up c G G') (hD : Du c G') : PS c H us to G' := ⟨hD, h.up.trans hU⟩
theorem PS.len {c : Cx} {H : List AObj} {us : List Bool} {to : List Int} {G : List AObj} (h : PS c H us to G) : G.length = H.length + 2 := by have := h.up.len; simpa using this
theorem PS.setU {c : Cx} {H : List AObj} {us us' : List Bool} {to : List Int} {G : List AObj} (hD : Du c H) (h : PS c H us to G) : PS c H us' to (G.set H.length (objB us')) := by
 obtain ⟨l1, l2, l3⟩ := hD.lt
 have hl := h.len
 refine ⟨h.du.set (by omega) (by omega) (by omega), by simp [hl], fun j h1 h2 => ?_⟩
 rw [List.getElem?_set]
 by_cases e : H.length = j
 ·subst e; rw [if_pos rfl, if_pos (by omega)]; simp
 ·rw [if_neg e, h.up.get j h1 h2]
  by_cases e2 : j < H.length
  ·rw [List.getElem?_append_left e2, List.getElem?_append_left e2]
  ·rw [List.getElem?_append_right (by omega), List.getElem?_append_right (by omega)]
   obtain ⟨m, rfl⟩ : ∃ m, j = H.length + (m + 1) := ⟨j - H.length - 1, by omega⟩
   simp
theorem PS.setT {c : Cx} {H : List AObj} {us : List Bool} {to to' : List Int} {G : List AObj} (hD : Du c H) (h : PS c H us to G) : PS c H us to' (G.set (H.length + 1) (objI to')) := by
 obtain ⟨l1, l2, l3⟩ := hD.lt
 have hl := h.len
 refine ⟨h.du.set (by omega) (by omega) (by omega), by simp [hl], fun j h1 h2 => ?_⟩
 rw [List.getElem?_set]
 by_cases e : H.length + 1 = j
 ·subst e; rw [if_pos rfl, if_pos (by omega)]; simp
 ·rw [if_neg e, h.up.get j h1 h2]
  by_cases e2 : j < H.length
  ·rw [List.getElem?_append_left e2, List.getElem?_append_left e2]
  ·rw [List.getElem?_append_right (by omega), List.getElem?_append_right (by omega)]
   obtain ⟨m, rfl⟩ : ∃ m, j = H.length + m := ⟨j - H.length, by omega⟩
   rcases m with _ | m
   ·simp
   ·rcases m with _ | m
    ·omega
    ·simp
theorem ldB {us : List Bool} {i : Nat} (h : i < us.length) (φ : AV → Prop) : loadC (some (objB us)) none (i * 1) φ = φ (.bool (us.getD i false)) := by
 have e : (bools us).getD (i * 1) .any = .bool (us.getD i false) := by
  rw [Nat.mul_one]; simp [bools, h]
 simp only [objB, loadC, e, un_bool, bools_len, eq_iff_iff]
 constructor
 ·exact fun h => h.2
 ·exact fun h2 => ⟨by omega, h2⟩
theorem ldIo {l : List Int} {i : Nat} (h : i < l.length) (φ : AV → Prop) : loadC (some (objI l)) none (i * 1) φ = φ (.int .i64 (l.getD i 0)) := by
 have e : (ints l).getD (i * 1) .any = .int .i64 (l.getD i 0) := by
  rw [Nat.mul_one]; simp [ints, h]
 simp only [objI, loadC, e, un_int, ints_len, eq_iff_iff]
 constructor
 ·exact fun h => h.2
 ·exact fun h2 => ⟨by omega, h2⟩
theorem stB {us : List Bool} {i : Nat} (h : i < us.length) (x : Bool) (id : Nat) (H : List AObj) (K : List AObj → Prop) : storeC (some (objB us)) 1 id (i * 1) (.bool x) H K = K (H.set id (objB (us.set i x))) := by
 have e : asplice (bools us) (i * 1) [AV.bool x] = bools (us.set i x) := by
  rw [Nat.mul_one, asplice_one _ _ _ (by rw [bools_len]; exact h)]; simp [bools, List.map_set]
 have e2 : (AV.bool x).cells.map AV.unown = [.bool x] := rfl
 simp only [objB, storeC, e2, e, bools_len, eq_iff_iff]
 constructor
 ·exact fun h => h.2.2.2.2.2
 ·exact fun h2 => ⟨rfl, rfl, by omega, rfl, rfl, h2⟩
theorem stIo {l : List Int} {i : Nat} (h : i < l.length) (x : Int) (id : Nat) (H : List AObj) (K : List AObj → Prop) : storeC (some (objI l)) 1 id (i * 1) (.int .i64 x) H K = K (H.set id (objI (l.set i x))) := by
 have e : asplice (ints l) (i * 1) [AV.int .i64 x] = ints (l.set i x) := by
  rw [Nat.mul_one, asplice_one _ _ _ (by rw [ints_len]; exact h)]; simp [ints, List.map_set]
 have e2 : (AV.int .i64 x).cells.map AV.unown = [.int .i64 x] := rfl
 simp only [objI, storeC, e2, e, ints_len, eq_iff_iff]
 constructor
 ·exact fun h => h.2.2.2.2.2
 ·exact fun h2 => ⟨rfl, rfl, by omega, rfl, rfl, h2⟩
theorem freezeIo {id : Nat} {l : List Int} {H : List AObj} (h : H[id]? = some (objI l)) {K : AV → List AObj → Prop} (hK : K (.lst 0 (ints l)) (H.set id .dead)) : asetf1 1 (.arr id 0 l.length l.length) H K := by
 have hc : ∀ (l : List Int), chunks 1 l.length (ints l) = ints l := by
  intro l
  induction l with
  | nil => rfl
  | cons x q ih => exact congrArg (AV.int .i64 x :: ·) ih
 simp only [asetf1, h, objI, List.drop_zero, hc, ints_all1]
 exact ⟨by omega, Nat.le_refl _, by simp [ints_len], trivial, hK⟩
theorem freezeIs {id n : Nat} {l : List Int} {H : List AObj} (h : H[id]? = some (objI l)) (hn : l.length = n) {K : AV → List AObj → Prop} (hK : K (.lst 0 (ints l)) (H.set id .dead)) : asetf 1 (.arr id 0 n n) H K := by
 subst hn; exact freezeIo h hK
theorem c139 {c : Cx} {a b : List Int} {va vb : AV} (ha : IL va a) (hb : IL vb b) (la : a.length ≤ 1000000000) (lb : b.length ≤ 1000000000) (h : ∀ x ∈ a, ∀ y ∈ b, SameC c x y) {H : List AObj} (hD : Du c H) :
 ACalls Tryz.prog 139 [.ptr c.d 0, va, vb] H (PairR c a b H) := by
 refine k139v.2.calls rfl ?_
 simp only [k139v, mkF]
 obtain ⟨a1, a2, a3, a4⟩ := ha.one
 obtain ⟨b1, b2, b3, b4⟩ := hb.one
 simp +contextual only [a2, b2, ha.lenOk, hb.lenOk, ha.len (by omega), hb.len (by omega), mkB _ _ _ la, sZ, Nat.reduceEqDiff, Nat.reduceAdd, ↓reduceIte, reduceCtorEq]
 refine scall_to (c113 0 (-1) b.length lb _) ?_
 rintro r G0 ⟨rfl, rfl⟩
 have el : (H ++ [objB (List.replicate a.length false)]).length = H.length + 1 := by simp
 rw [el]
 simp +contextual only [b2, hb.lenOk, hb.len (by omega), sZ, Nat.reduceEqDiff, ↓reduceIte, reduceCtorEq]
 have ps0 : PS c H (List.replicate a.length false) (List.replicate b.length (-1)) (H ++ [objB (List.replicate a.length false), objI (List.replicate b.length (-1))]) := ⟨hD.app _, Up.refl c _⟩
 generalize H ++ [objB (List.replicate a.length false), objI (List.replicate b.length (-1))] = G0 at ps0 ⊢
 refine swp_loop_st b.length (fun k (p : List AObj × List Bool × List Int) => PS c H p.2.1 p.2.2 p.1 ∧ Pr (fun x y => E c.O (c.tm x) (c.tm y)) a b k p.2.1 p.2.2)
  (fun k p => [(0, .ptr c.d 0), (1, va), (9, .arr H.length 0 a.length a.length), (10, .arr (H.length + 1) 0 b.length b.length), (11, .nils), (12, outC (below k fun j => decide (p.2.2.getD j 0 < 0))), (26, vb), (27, .int .i64 b.length), (28, .int .i64 k)])
  (fun k p => p.1) (G0, List.replicate a.length false, List.replicate b.length (-1)) ⟨⟨ps0, Pr.start⟩, sle_refl _ _ _⟩ fun k p hk hI => ?_
 obtain ⟨G, us, to⟩ := p
 obtain ⟨hps, hpr⟩ := hI
 simp only at hps hpr
 simp +contextual only [a2, ha.lenOk, hb.lens, hb.idx, Int.toNat_natCast, ha.len (by omega), sZ, Nat.reduceEqDiff, ↓reduceIte, reduceCtorEq]
 refine ⟨fun hlt => ⟨by omega, ?_⟩, fun hge => ?_⟩
 ·have hlt := len_lt hlt
  refine swp_mono (Q1 := fun x e G' => x = .exit 2 ∧ ∃ us' to', PS c H us' to' G' ∧ Pr (fun x y => E c.O (c.tm x) (c.tm y)) a b (k + 1) us' to' ∧ (∀ j, j < k → to'.getD j 0 = to.getD j 0) ∧
   get e 0 = .ptr c.d 0 ∧ get e 1 = va ∧ get e 9 = .arr H.length 0 a.length a.length ∧ get e 10 = .arr (H.length + 1) 0 b.length b.length ∧ get e 11 = .nils ∧ get e 12 = outC (below k fun j => decide (to.getD j 0 < 0)) ∧ get e 13 = .int .i64 (k : Int) ∧ get e 26 = vb ∧ get e 27 = .int .i64 (b.length : Int) ∧ get e 28 = .int .i64 (k : Int)) ?_ ?_
  ·refine swp_loop_st a.length (fun i (G' : List AObj) => PS c H us to G' ∧ ∀ i', i' < i → us.getD i' false = false → ¬ E c.O (c.tm (a.getD i' 0)) (c.tm (b.getD k 0)))
    (fun i G' => [(0, .ptr c.d 0), (1, va), (9, .arr H.length 0 a.length a.length), (10, .arr (H.length + 1) 0 b.length b.length), (11, .nils), (12, outC (below k fun j => decide (to.getD j 0 < 0))), (13, .int .i64 (k : Int)), (14, .int .i64 (b.getD k 0)), (26, vb), (27, .int .i64 b.length), (28, .int .i64 k), (33, va), (34, .int .i64 a.length), (35, .int .i64 i)])
    (fun i G' => G') G ⟨⟨hps, fun i' hi' => by omega⟩, sle_refl _ _ _⟩ fun i G' hi hI => ?_
   obtain ⟨hps', hno⟩ := hI
   have hlu := hpr.lu
   have hlt' := hpr.lt
   have gu := hps'.u hD
   by_cases hia : (i : Int) < a.length
   ·have hia' : i < a.length := by omega
    have hiu : i < us.length := by omega
    cases hu : us.getD i false with
    | true =>
      simp +contextual only [hia, decide_true, ha.lens, ha.idx, Int.toNat_natCast, idxO, gu, ldB hiu, hu, Bool.not_true, sZ, Nat.reduceEqDiff, ↓reduceIte, reduceCtorEq]
      refine ⟨by omega, by omega, ⟨i + 1, G', ⟨by omega, hps', fun i' hi' h0 => ?_⟩, by omega, sle_eq (by rw [wrap_nat i (by omega)]) rfl⟩⟩
      by_cases e : i' = i
      ·subst e; rw [hu] at h0; cases h0
      ·exact hno i' (by omega) h0
    | false =>
      simp +contextual only [hia, decide_true, ha.lens, ha.idx, Int.toNat_natCast, idxO, gu, ldB hiu, hu, Bool.not_false, sZ, Nat.reduceEqDiff, Nat.reduceAdd, ↓reduceIte, reduceCtorEq]
      refine ⟨by omega, by omega, ?_⟩
      refine scall_to (h _ (getD_mem hia') _ (getD_mem hlt) G' hps'.du) ?_
      rintro r G2 ⟨x, rfl, hx, hU, hD2⟩
      have ps2 := hps'.call hU hD2
      cases x with
      | false =>
        simp +contextual only [sZ, Nat.reduceEqDiff, ↓reduceIte, reduceCtorEq]
        refine ⟨i + 1, G2, ⟨by omega, ps2, fun i' hi' h0 => ?_⟩, by omega, sle_eq (by rw [wrap_nat i (by omega)]) rfl⟩
        by_cases e : i' = i
        ·subst e; exact fun hh => absurd (hx.2 hh) (by simp)
        ·exact hno i' (by omega) h0
      | true =>
        have gu2 := ps2.u hD
        have ps3 := ps2.setU (us' := us.set i true) hD
        have gt3 := ps3.t hD
        have hkt : k < to.length := by omega
        simp +contextual only [idxO, gu2, gt3, stB hiu, stIo hkt, sZ, Nat.reduceEqDiff, ↓reduceIte, reduceCtorEq]
        refine ⟨by omega, by omega, us.set i true, to.set k i, ps3.setT hD, hpr.pair hlt hia' hu (hx.1 rfl), fun j hj => ?_⟩
        rw [getD_set hkt, if_neg (by omega)]
   ·simp +contextual only [hia, decide_false, sZ, Nat.reduceEqDiff, ↓reduceIte, reduceCtorEq]
    exact ⟨us, to, hps', hpr.over hlt fun i' hi' h0 => hno i' (by omega) h0, fun _ _ => rfl⟩
  ·rintro x e G' ⟨rfl, us', to', hps', hpr', hsame, e0, e1, e9, e10, e11, e12, e13, e26, e27, e28⟩
   have hlu := hpr'.lu
   have hlt' := hpr'.lt
   have gt := hps'.t hD
   have hkt : k < to'.length := by omega
   have ebl : (below k fun j => decide (to'.getD j 0 < 0)) = below k fun j => decide (to.getD j 0 < 0) := below_congr fun j hj => by rw [hsame j hj]
   have ebs := below_succ k fun j => decide (to'.getD j 0 < 0)
   have ebn := below_len k fun j => decide (to.getD j 0 < 0)
   by_cases hneg : to'.getD k 0 < 0
   ·rw [if_pos (by simpa using hneg), ebl] at ebs
    simp +contextual only [e0, e1, e9, e10, e11, e12, e13, e26, e27, e28, idxO, gt, ldIo hkt, hneg, decide_true, (outC_facts _).2.1, ap_out, outC_snoc, sZ, Nat.reduceEqDiff, Nat.reduceAdd, ↓reduceIte, reduceCtorEq]
    refine ⟨by omega, by omega, k + 1, (G', us', to'), ⟨hlt, hps', hpr'⟩, by omega, sle_eq (by rw [wrap_nat k (by omega), ebs]) rfl⟩
   ·rw [if_neg (by simpa using hneg), ebl] at ebs
    simp +contextual only [e0, e1, e9, e10, e11, e12, e13, e26, e27, e28, idxO, gt, ldIo hkt, hneg, decide_false, sZ, Nat.reduceEqDiff, ↓reduceIte, reduceCtorEq]
    refine ⟨by omega, k + 1, (G', us', to'), ⟨hlt, hps', hpr'⟩, by omega, sle_eq (by rw [wrap_nat k (by omega), ebs]) rfl⟩
 ·have hkk : k = b.length := by omega
  subst hkk
  have hlu := hpr.lu
  have hlt' := hpr.lt
  have gu := hps.u hD
  have gt := hps.t hD
  refine swp_loop_nat a.length (fun i => True) (fun i => [(10, .arr (H.length + 1) 0 b.length b.length), (11, outC (below i fun j => !us.getD j false)), (12, outC (below b.length fun j => decide (to.getD j 0 < 0))), (69, .arr H.length 0 a.length a.length), (70, .int .i64 a.length), (71, .int .i64 i)])
   (fun i => G) ⟨trivial, sle_refl _ _ _⟩ fun i hi _ => ?_
  have ebs := below_succ i fun j => !us.getD j false
  have ebn := below_len i fun j => !us.getD j false
  by_cases hia : (i : Int) < a.length
  ·have hiu : i < us.length := by omega
   cases hu : us.getD i false with
   | true =>
     rw [hu, if_neg (by simp)] at ebs
     simp +contextual only [hia, decide_true, idxO, gu, ldB hiu, hu, Bool.not_true, sZ, Nat.reduceEqDiff, ↓reduceIte, reduceCtorEq]
     refine ⟨by omega, i + 1, by omega, by omega, sle_eq (by rw [wrap_nat i (by omega), ebs]) rfl⟩
   | false =>
     rw [hu, if_pos (by simp)] at ebs
     simp +contextual only [hia, decide_true, idxO, gu, ldB hiu, hu, Bool.not_false, (outC_facts _).2.1, ap_out, outC_snoc, sZ, Nat.reduceEqDiff, Nat.reduceAdd, ↓reduceIte, reduceCtorEq]
     refine ⟨by omega, by omega, i + 1, by omega, by omega, sle_eq (by rw [wrap_nat i (by omega), ebs]) rfl⟩
  ·have hii : i = a.length := by omega
   subst hii
   simp +contextual only [hia, decide_false, (outC_facts _).2.1, sZ, Nat.reduceEqDiff, ↓reduceIte]
   refine freezeIs gt hlt' ?_
   simp +contextual only [(kav_one _).2.1, sZ, Nat.reduceEqDiff, ↓reduceIte, reduceCtorEq]
   obtain ⟨l1, l2, l3⟩ := hD.lt
   refine ret3d (by decide) rfl ⟨(kav_one _).2.2.1 _, (kav_one _).2.2.1 _, ?_⟩ (kav_one _).2.1 (kav_one _).2.1 rfl ⟨us, to, hpr, rfl, ?_, ?_⟩
   ·rw [un_lst, bw_lst]; exact ints_blw _ _
   ·rw [List.take_set_of_le (by omega)]; exact hps.up.take
   ·rw [List.take_set_of_le (by omega)]; exact hps.du.take l1 l2 l3
end Go.Abs
end
section
namespace Go.Abs
open Go Go.Proofs Go.Rpo
theorem map_range {β : Type} (f : Int → β) (a : List Int) : a.map f = (List.range a.length).map fun i => f (a.getD i 0) := by
 apply List.ext_getElem
 ·simp
 ·intro i h1 h2
  have : i < a.length := by simpa using h1
  simp [this]
theorem map_part {β : Type} (f : Int → β) (a : List Int) (p : Nat → Bool) : (a.map f).Perm (((List.range a.length).filter p).map (fun i => f (a.getD i 0)) ++ ((List.range a.length).filter fun i => !p i).map fun i => f (a.getD i 0)) := by
 rw [map_range, ← List.map_append]
 exact (List.filter_append_perm p (List.range a.length)).symm.map _
theorem filter_nodup (n : Nat) (p : Nat → Bool) : ((List.range n).filter p).Nodup := List.Pairwise.filter p List.nodup_range
def leftT (f : Int → T) (a : List Int) (us : List Bool) : List T := ((List.range a.length).filter fun i => !us.getD i false).map fun i => f (a.getD i 0)
def overT (f : Int → T) (b to : List Int) : List T := ((List.range b.length).filter fun j => decide (to.getD j 0 < 0)).map fun j => f (b.getD j 0)
theorem Pr.parts {f : Int → T} {a b : List Int} {us : List Bool} {to : List Int} (h : Pr (fun x y => f x = f y) a b b.length us to) :
 ∃ C, (a.map f).Perm (leftT f a us ++ C) ∧ (b.map f).Perm (overT f b to ++ C) ∧ Disj (leftT f a us) (overT f b to) := by
 refine ⟨((List.range b.length).filter fun j => !decide (to.getD j 0 < 0)).map fun j => f (b.getD j 0), ?_, map_part f b _, ?_⟩
 ·have h1 := map_part f a (fun i => !us.getD i false)
  refine h1.trans (List.Perm.append_left _ ?_)
  have hp : (((List.range b.length).filter fun j => !decide (to.getD j 0 < 0)).map fun j => (to.getD j 0).toNat).Perm ((List.range a.length).filter fun i => !!us.getD i false) := by
   rw [List.perm_ext_iff_of_nodup]
   ·intro i
    simp only [List.mem_map, List.mem_filter, List.mem_range, Bool.not_eq_true', decide_eq_false_iff_not, Bool.not_not]
    constructor
    ·rintro ⟨j, ⟨hj, hn⟩, rfl⟩
     rcases h.t1 j hj with h2 | ⟨i, h2, h3, h4, _⟩
     ·omega
     ·rw [h2]; exact ⟨by simpa using h3, by simpa using h4⟩
    ·rintro ⟨hi, hu⟩
     obtain ⟨j, h2, h3⟩ := h.uu i hi hu
     exact ⟨j, ⟨h2, by omega⟩, by omega⟩
   ·rw [List.Nodup, List.pairwise_map]
    refine List.Pairwise.imp_of_mem ?_ (filter_nodup _ _)
    intro j j' hj hj' hne he
    simp only [List.mem_filter, List.mem_range, Bool.not_eq_true', decide_eq_false_iff_not] at hj hj'
    exact hne (h.inj j j' hj.1 hj'.1 (by omega) (by omega))
   ·exact filter_nodup _ _
  refine (hp.map fun i => f (a.getD i 0)).symm.trans ?_
  rw [List.map_map]
  refine List.Perm.of_eq (List.map_congr_left fun j hj => ?_)
  simp only [List.mem_filter, List.mem_range, Bool.not_eq_true', decide_eq_false_iff_not] at hj
  rcases h.t1 j hj.1 with h2 | ⟨i, h2, h3, h4, h5⟩
  ·omega
  ·show f (a.getD (to.getD j 0).toNat 0) = f (b.getD j 0)
   rw [h2]; exact h5
 ·intro z hz hz'
  simp only [leftT, overT, List.mem_map, List.mem_filter, List.mem_range, decide_eq_true_eq, Bool.not_eq_true'] at hz hz'
  obtain ⟨i, ⟨hi, hu⟩, rfl⟩ := hz
  obtain ⟨j, ⟨hj, hn⟩, he⟩ := hz'
  refine h.free j hj ?_ i hi hu he.symm
  rcases h.t1 j hj with h2 | ⟨i', h2, _⟩
  ·exact h2
  ·omega
theorem leftT_nil {f : Int → T} {a : List Int} {us : List Bool} : leftT f a us = [] ↔ below a.length (fun i => !us.getD i false) = [] := by
 simp [leftT, below]
theorem Pr.mu {f : Int → T} {G : T → T → Prop} {a b : List Int} {us : List Bool} {to : List Int} (h : Pr (fun x y => f x = f y) a b b.length us to) :
 Mu G (a.map f) (b.map f) ↔ below a.length (fun i => !us.getD i false) ≠ [] ∧ ∀ y ∈ below b.length (fun j => decide (to.getD j 0 < 0)), ∃ x ∈ below a.length (fun i => !us.getD i false), G (f (a.getD x.toNat 0)) (f (b.getD y.toNat 0)) := by
 obtain ⟨C, h1, h2, h3⟩ := h.parts
 rw [mu_iff h1 h2 h3, Ne, leftT_nil]
 refine and_congr Iff.rfl ⟨fun hh y hy => ?_, fun hh y hy => ?_⟩
 ·obtain ⟨j, rfl, hj, hn⟩ := mem_below.1 hy
  obtain ⟨x, hx, hg⟩ := hh (f (b.getD j 0)) (by simp only [overT, List.mem_map, List.mem_filter, List.mem_range]; exact ⟨j, ⟨hj, hn⟩, rfl⟩)
  simp only [leftT, List.mem_map, List.mem_filter, List.mem_range] at hx
  obtain ⟨i, ⟨hi, hu⟩, rfl⟩ := hx
  exact ⟨i, mem_below.2 ⟨i, rfl, hi, hu⟩, hg⟩
 ·simp only [overT, List.mem_map, List.mem_filter, List.mem_range] at hy
  obtain ⟨j, ⟨hj, hn⟩, rfl⟩ := hy
  obtain ⟨x, hx, hg⟩ := hh j (mem_below.2 ⟨j, rfl, hj, hn⟩)
  obtain ⟨i, rfl, hi, hu⟩ := mem_below.1 hx
  refine ⟨f (a.getD i 0), ?_, hg⟩
  simp only [leftT, List.mem_map, List.mem_filter, List.mem_range]
  exact ⟨i, ⟨hi, hu⟩, rfl⟩
theorem Pr.perm {f : Int → T} {a b : List Int} {us : List Bool} {to : List Int} (h : Pr (fun x y => f x = f y) a b b.length us to) (hl : a.length = b.length) :
 (a.map f).Perm (b.map f) ↔ below a.length (fun i => !us.getD i false) = [] := by
 obtain ⟨C, h1, h2, h3⟩ := h.parts
 rw [perm_iff_left h1 h2 h3, leftT_nil (f := f)]
 constructor
 ·exact fun h => h.1
 ·intro h0
  refine ⟨h0, ?_⟩
  have e1 := h1.length_eq
  have e2 := h2.length_eq
  have e3 : (leftT f a us).length = 0 := by rw [(leftT_nil (f := f)).2 h0]; rfl
  simp only [List.length_append, List.length_map] at e1 e2
  exact List.length_eq_zero_iff.1 (by omega)
end Go.Abs
end
section
set_option maxRecDepth 100000
set_option maxHeartbeats 0
namespace Go.Abs
open Go Go.Proofs
noncomputable def k186v := mkF Tryz.call186 Tryz.func186 Tryz.ntmps186 [(0,0,1),(5,3,2000),(5,8,1000),(6,6,2000)] [(0,[1,2,3]),(1,[1,2,3,7,8]),(2,[1,2,3,26]),(3,[6]),(4,[3,9,10]),(5,[3,9,10,11,12]),(6,[6])] [(4,(.take 0 true (.take 1 true (.take 2 true (.take 3 true (.take 4 true (.take 5 true (.take 6 true (.take 7 true (.take 8 false (.take 9 false (.take 10 false (.take 12 false (.br 11 (.take 13 false (.take 14 false (.take 15 false (.br 16 (.br 17 (.br 18 (.br 19 .done .nil) .nil) .nil) (.br 17 (.br 16 (.br 18 (.br 19 .done .nil) .nil) .nil) .nil))))) (.br 16 (.br 11 (.take 13 false (.take 14 false (.take 15 false (.br 17 (.br 18 (.br 19 .done .nil) .nil) .nil)))) (.br 17 (.br 11 (.take 13 false (.take 14 false (.take 15 false (.br 18 (.br 19 .done .nil) .nil)))) (.br 18 (.take 11 true (.take 13 true (.take 14 true (.take 15 true (.br 19 .done .nil))))) .nil)) .nil)) (.br 17 (.br 11 (.take 13 false (.take 14 false (.take 15 false (.br 16 (.br 18 (.br 19 .done .nil) .nil) .nil)))) (.br 16 (.br 11 (.take 13 false (.take 14 false (.take 15 false (.br 18 (.br 19 .done .nil) .nil)))) (.br 18 (.take 11 true (.take 13 true (.take 14 true (.take 15 true (.br 19 .done .nil))))) .nil)) .nil)) .nil))))))))))))))))]
end Go.Abs
end
section
set_option maxRecDepth 100000
namespace Go.Abs
open Go Go.Proofs Go.Rpo
def nf (c : Cx) (x : Int) : T := norm c.O (c.tm x)
def MulQ (c : Cx) (i k : Int) : Prop := lvB c i k = true ∧ opS c i = 3 ∧ Mu (Gt c.O.sp) ((c.kd i).map (nf c)) ((c.kd k).map (nf c))
theorem c222 {c : Cx} {a b : List Int} {va vb : AV} (ha : IL va a) (hb : IL vb b) {p q : Nat} {x y : Int} (hx : 0 ≤ x ∧ x < a.length) (hy : 0 ≤ y ∧ y < b.length) (h : MoreC c (a.getD x.toNat 0) (b.getD y.toNat 0)) {G : List AObj} (hD : Du c G) (gp : G[p]? = some (.cells [va])) (gq : G[q]? = some (.cells [vb])) :
 ACalls Tryz.prog 222 [.int .i64 x, .iptr (.ptr c.d 0), .ptr p 0, .ptr q 0, .iptr (.int .i64 y)] G (DuR c (R c.O (c.tm (a.getD x.toNat 0)) (c.tm (b.getD y.toNat 0))) G) := by
 refine k222.2.calls rfl ?_
 simp only [k222, mkF]
 obtain ⟨a1, a2, a3, a4⟩ := ha.one
 obtain ⟨b1, b2, b3, b4⟩ := hb.one
 simp +contextual only [gp, gq, a2, b2, ha.lens, hb.lens, ha.idx, hb.idx, sZ, Nat.reduceEqDiff, Nat.reduceAdd, Nat.reduceLT, ↓reduceIte, reduceCtorEq]
 refine ⟨hx, hy, scall_to (h G hD) ?_⟩
 rintro r G' ⟨z, rfl, hz, hU, hD'⟩
 simp +contextual only [sZ, ↓reduceIte, reduceCtorEq]
 exact retB rfl hz hU hD'
theorem c221 {c : Cx} {a b l : List Int} {va vb vl : AV} (ha : IL va a) (hb : IL vb b) (hl : IL vl l) (ll : l.length ≤ 1000000000) {p q : Nat} {y : Int} (hx : ∀ x ∈ l, 0 ≤ x ∧ x < a.length) (hy : 0 ≤ y ∧ y < b.length) (h : ∀ x ∈ l, MoreC c (a.getD x.toNat 0) (b.getD y.toNat 0)) {G : List AObj} (hD : Du c G)
 (gp : G[p]? = some (.cells [va])) (gq : G[q]? = some (.cells [vb])) (np : p ≠ c.e ∧ p ≠ c.g) (nq : q ≠ c.e ∧ q ≠ c.g) :
 ACalls Tryz.prog 221 [.int .i64 y, .iptr vl, .iptr (.ptr c.d 0), .ptr p 0, .ptr q 0] G (DuR c (¬ ∃ x ∈ l, R c.O (c.tm (a.getD x.toNat 0)) (c.tm (b.getD y.toNat 0))) G) := by
 refine k221.2.calls rfl ?_
 simp only [k221, mkF]
 obtain ⟨a1, a2, a3, a4⟩ := hl.one
 have ld : ∀ (H : List AObj) (φ : AV → Prop), aload none (.iptr vl) H φ = φ vl := fun H φ => by simp [aload, a1, a2]
 simp +contextual only [ld, a2, sZ, Nat.reduceEqDiff, Nat.reduceAdd, ↓reduceIte, reduceCtorEq]
 refine scall_to (c102s (SD.lenS c G) hl ll 222 [] [.iptr (.ptr c.d 0), .ptr p 0, .ptr q 0, .iptr (.int .i64 y)] rfl rfl (Q := fun x => R c.O (c.tm (a.getD x.toNat 0)) (c.tm (b.getD y.toNat 0)))
  (fun x hx' G' hG' => (c222 ha hb (hx x hx') hy (h x hx') hG'.1 (by rw [hG'.2.get p np.1 np.2, gp]) (by rw [hG'.2.get q nq.1 nq.2, gq])).mono fun r H' hr => hr.sb hG') ⟨hD, Up.refl c G⟩) ?_
 rintro r G' ⟨z, rfl, hz, hG'⟩
 simp +contextual only [sZ, ↓reduceIte, reduceCtorEq]
 refine retB (b := !z) rfl ?_ hG'.2 hG'.1
 rw [← hz]; cases z <;> simp
theorem ldad_mono {P : Px} {t : DT} {f : AV → Env} {H : List AObj} {o : Option AObj} {off : Nat} {K1 K2 : Env → List AObj → Prop} (h : loadC o none off fun x => adtS P t (f x) H K1) (hk : ∀ e G, K1 e G → K2 e G) : loadC o none off fun x => adtS P t (f x) H K2 := by
 unfold loadC at *
 split at h
 ·exact ⟨h.1, adtS_mono h.2 hk⟩
 ·exact h.elim
theorem c186 {c : Cx} (hc : c.Ok) {i k : Int} (hi : c.isN i) (hk : c.isN k) (h2 : ∀ x ∈ c.kd i, ∀ y ∈ c.kd k, SameC c x y) (h3 : ∀ x ∈ c.kd i, ∀ y ∈ c.kd k, MoreC c x y) {H : List AObj} (hD : Du c H) :
 ACalls Tryz.prog 186 [.ptr c.d 0, .int .i64 i, .int .i64 k] H (DuR c (MulQ c i k) H) := by
 refine k186v.2.calls rfl ?_
 simp only [k186v, mkF]
 have k2 : ∀ l, (kav l).unown = kav l := fun l => (kav_one l).2.1
 have l1 := hc.kl i hi
 have l2 := hc.kl k hk
 simp +contextual only [sZ, Nat.reduceEqDiff, Nat.reduceAdd, ↓reduceIte, reduceCtorEq]
 refine scall_to (c155 hc hi hk hD) ?_
 rintro r H1 ⟨rfl, rfl⟩
 simp +contextual only [sZ, Nat.reduceEqDiff, Nat.reduceAdd, Nat.reduceLT, ↓reduceIte]
 cases hl : lvB c i k with
 | false =>
   simp +contextual only [Bool.not_false, sZ, Nat.reduceEqDiff, ↓reduceIte, reduceCtorEq]
   exact retB rfl ⟨fun h => by simp at h, fun h => by have := h.1; rw [hl] at this; simp at this⟩ (Up.refl c _) hD
 | true =>
   by_cases hs : opS c i = 3
   ·have d3 : decide (opS c i = 3) = true := decide_eq_true hs
    have d3' : decide (¬opS c i = 3) = false := decide_eq_false (fun h => h hs)
    simp +contextual only [Bool.not_true, hs, not_true_eq_false, decide_false, sZ, Nat.reduceEqDiff, Nat.reduceAdd, ↓reduceIte]
    obtain ⟨l4, l5, l6⟩ := hD.lt
    have ed : ∀ X : List AObj, (H1 ++ X)[c.d]? = H1[c.d]? := fun X => List.getElem?_append_left l4
    refine ldad_mono (K1 := fun e G => get e 3 = .iptr (.ptr c.d 0) ∧ ∃ p q X, get e 9 = .ptr p 0 ∧ get e 10 = .ptr q 0 ∧ H1.length ≤ p ∧ H1.length ≤ q ∧ G = H1 ++ X ∧ G[p]? = some (.cells [kav (c.kd i)]) ∧ G[q]? = some (.cells [kav (c.kd k)])) ?_ ?_
    ·obtain ⟨k1, k3, k4, k5, k6⟩ := kav_one (c.kd i)
     obtain ⟨m1, m3, m4, m5, m6⟩ := kav_one (c.kd k)
     have g0 : ∀ (x : AObj) (l : List AObj), (H1 ++ x :: l)[H1.length]? = some x := fun x l => by simp
     have g1 : ∀ (x y : AObj), (H1 ++ [x, y])[H1.length + 1]? = some y := fun x y => by simp
     have ei : (c.nd.getD i.toNat default).snd = c.kd i := rfl
     have ek : (c.nd.getD k.toNat default).snd = c.kd k := rfl
     have sp : ∀ x : AV, asplice [AV.nils] 0 [x] = [x] := fun x => rfl
     have A : ∃ p q X, AV.ptr H1.length 0 = AV.ptr p 0 ∧ AV.ptr (H1.length + 1) 0 = AV.ptr q 0 ∧ H1.length ≤ p ∧ H1.length ≤ q ∧ H1 ++ [.cells [kav (c.kd i)], .cells [kav (c.kd k)]] = H1 ++ X ∧ (H1 ++ [AObj.cells [kav (c.kd i)], .cells [kav (c.kd k)]])[p]? = some (.cells [kav (c.kd i)]) ∧ (H1 ++ [AObj.cells [kav (c.kd i)], .cells [kav (c.kd k)]])[q]? = some (.cells [kav (c.kd k)]) :=
      ⟨_, _, _, rfl, rfl, Nat.le_refl _, Nat.le_succ _, rfl, g0 _ _, g1 _ _⟩
     have B : ∃ p q X, AV.ptr (H1.length + 1) 0 = AV.ptr p 0 ∧ AV.ptr H1.length 0 = AV.ptr q 0 ∧ H1.length ≤ p ∧ H1.length ≤ q ∧ H1 ++ [.cells [kav (c.kd k)], .cells [kav (c.kd i)]] = H1 ++ X ∧ (H1 ++ [AObj.cells [kav (c.kd k)], .cells [kav (c.kd i)]])[p]? = some (.cells [kav (c.kd i)]) ∧ (H1 ++ [AObj.cells [kav (c.kd k)], .cells [kav (c.kd i)]])[q]? = some (.cells [kav (c.kd k)]) :=
      ⟨_, _, _, rfl, rfl, Nat.le_succ _, Nat.le_refl _, rfl, g1 _ _, g0 _ _⟩
     simp +contextual only [ed, hD.d, idxN, fN3, len_navs, aload_kav, k2, ei, ek, k1, k4, k5, k6, m1, m4, m5, m6, List.map_cons, List.map_nil, sp, List.all_cons, List.all_nil, Bool.and_true, bl_cons, bl_nil, sZ, Nat.reduceEqDiff, Nat.reduceAdd, Nat.reduceLT, ↓reduceIte]
     refine ⟨hi, ?_⟩
     repeat' apply And.intro
     all_goals first | exact hk.1 | exact hk.2 | exact A | exact B
    ·rintro e G ⟨e3, p, q, X, e9, e10, hp, hq, rfl, gp, gq⟩
     simp +contextual only [e3, e9, e10, gp, gq, k2, sZ, Nat.reduceEqDiff, Nat.reduceAdd, Nat.reduceLT, ↓reduceIte, reduceCtorEq]
     refine scall_to (c139 (.inl rfl : IL (kav (c.kd i)) (c.kd i)) (.inl rfl : IL (kav (c.kd k)) (c.kd k)) (by omega) (by omega) h2 (hD.app X)) ?_
     rintro r G' ⟨us, to, hpr, rfl, hU, hD'⟩
     have hmu := Pr.mu (f := nf c) (G := Gt c.O.sp) hpr
     have lbl := below_len (c.kd i).length fun i => !us.getD i false
     have lbo := below_len (c.kd k).length fun j => decide (to.getD j 0 < 0)
     have il : IL (kav (below (c.kd i).length fun i => !us.getD i false)) (below (c.kd i).length fun i => !us.getD i false) := .inl rfl
     have io : IL (kav (below (c.kd k).length fun j => decide (to.getD j 0 < 0))) (below (c.kd k).length fun j => decide (to.getD j 0 < 0)) := .inl rfl
     have ml : ∀ x ∈ below (c.kd i).length (fun i => !us.getD i false), 0 ≤ x ∧ x < (c.kd i).length := by
      intro x hx; obtain ⟨j, rfl, hj, _⟩ := mem_below.1 hx; omega
     have mo : ∀ x ∈ below (c.kd k).length (fun j => decide (to.getD j 0 < 0)), 0 ≤ x ∧ x < (c.kd k).length := by
      intro x hx; obtain ⟨j, rfl, hj, _⟩ := mem_below.1 hx; omega
     generalize (below (c.kd i).length fun i => !us.getD i false) = L at *
     generalize (below (c.kd k).length fun j => decide (to.getD j 0 < 0)) = V at *
     obtain ⟨a1, a2, a3, a4⟩ := il.one
     obtain ⟨b1, b2, b3, b4⟩ := io.one
     have hG1 : ∀ G2, Up c (H1 ++ X) G2 → Du c G2 → Up c H1 (G2.take H1.length) ∧ Du c (G2.take H1.length) := fun G2 u d => ⟨u.take, d.take l4 l5 l6⟩
     have fin : ∀ G2 (b : Bool), Up c (H1 ++ X) G2 → Du c G2 → (b = true ↔ MulQ c i k) → aret H1.length [.t 6] [(6, .bool b)] G2 (DuR c (MulQ c i k) H1) := by
      intro G2 b u d hb
      refine aret_one H1.length (Nat.le_refl _) (by rw [gt_cons, if_pos rfl]; rfl) ?_
      rw [gt_cons, if_pos rfl]
      exact ⟨b, rfl, hb, (hG1 G2 u d).1, (hG1 G2 u d).2⟩
     simp +contextual only [List.map_cons, List.map_nil, k2, a1, a3, a4, il.lenOk, il.len (by omega), aload_kav, sZ, Nat.reduceEqDiff, Nat.reduceAdd, Nat.reduceLT, ↓reduceIte, reduceCtorEq]
     refine ⟨fun hL => ?_, fun hL => ?_⟩
     ·have gp' : G'[p]? = some (.cells [kav (c.kd i)]) := by rw [hU.get p (by omega) (by omega), gp]
      have gq' : G'[q]? = some (.cells [kav (c.kd k)]) := by rw [hU.get q (by omega) (by omega), gq]
      have gm : ∀ {x : Int} {l : List Int}, 0 ≤ x ∧ x < l.length → l.getD x.toNat 0 ∈ l := fun h => getD_mem (by omega)
      refine scall_to (c102s (SD.lenS c G') io (by omega) 221 [] [.iptr (kav L), .iptr (.ptr c.d 0), .ptr p 0, .ptr q 0] rfl rfl (Q := fun y => ¬ ∃ x ∈ L, R c.O (c.tm ((c.kd i).getD x.toNat 0)) (c.tm ((c.kd k).getD y.toNat 0)))
       (fun y hy G2 hG2 => (c221 (.inl rfl) (.inl rfl) il (by omega) ml (mo y hy) (fun x hx => h3 _ (gm (ml x hx)) _ (gm (mo y hy))) hG2.1 (by rw [hG2.2.get p (by omega) (by omega), gp']) (by rw [hG2.2.get q (by omega) (by omega), gq']) ⟨by omega, by omega⟩ ⟨by omega, by omega⟩).mono fun r H' hr => hr.sb hG2) ⟨hD', Up.refl c G'⟩) ?_
      rintro r G2 ⟨z, rfl, hz, hG2⟩
      simp +contextual only [sZ, Nat.reduceEqDiff, ↓reduceIte, reduceCtorEq]
      refine fin G2 (!z) (hU.trans hG2.2) hG2.1 ?_
      have hLn : L ≠ [] := by intro e; rw [e] at hL; simp at hL
      rw [MulQ, hmu]
      cases z with
      | true =>
        obtain ⟨y, hy, hn⟩ := hz.1 rfl
        exact ⟨fun h => by simp at h, fun ⟨_, _, _, h⟩ => absurd (h y hy) hn⟩
      | false =>
        refine ⟨fun _ => ⟨hl, hs, hLn, fun y hy => ?_⟩, fun _ => rfl⟩
        by_cases hc' : ∃ x ∈ L, R c.O (c.tm ((c.kd i).getD x.toNat 0)) (c.tm ((c.kd k).getD y.toNat 0))
        ·exact hc'
        ·exact absurd (hz.2 ⟨y, hy, hc'⟩) (by simp)
     ·refine fin G' false hU hD' ⟨fun h => by simp at h, fun h => ?_⟩
      have := (hmu.1 h.2.2).1
      exact absurd (List.length_eq_zero_iff.1 (by omega)) this
   ·have d3' : decide (¬opS c i = 3) = true := decide_eq_true hs
    simp +contextual only [Bool.not_true, hs, decide_true, not_false_eq_true, sZ, Nat.reduceEqDiff, ↓reduceIte, reduceCtorEq]
    exact retB rfl ⟨fun h => by simp at h, fun h => absurd h.2.1 hs⟩ (Up.refl c _) hD
theorem kd_norm {c : Cx} (hc : c.Ok) {i : Int} (hi : c.isN i) : (c.tm i).l.map (norm c.O) = (c.kd i).map (nf c) := by
 rw [← (hc.kids i hi).1, List.map_map]; rfl
theorem map_eq_get {f : Int → T} {a b : List Int} : a.map f = b.map f ↔ a.length = b.length ∧ ∀ j, j < a.length → f (a.getD j 0) = f (b.getD j 0) := by
 constructor
 ·intro h
  have hl : a.length = b.length := by simpa using congrArg List.length h
  refine ⟨hl, fun j hj => ?_⟩
  have := congrArg (fun l => l[j]?) h
  have hb : j < b.length := by omega
  simpa [hj, hb] using this
 ·rintro ⟨hl, h⟩
  apply List.ext_getElem
  ·simpa using hl
  ·intro j h1 h2
   have h3 : j < a.length := by simpa using h1
   have h4 : j < b.length := by simpa using h2
   simpa [h3, h4] using h j h3
theorem c138 {c : Cx} (hc : c.Ok) {i k : Int} (hi : c.isN i) (hk : c.isN k) (h2 : ∀ x ∈ c.kd i, ∀ y ∈ c.kd k, SameC c x y) {H : List AObj} (hD : Du c H) : ACalls Tryz.prog 138 (capD c i k) H (DuR c (E c.O (c.tm i) (c.tm k)) H) := by
 refine k138.2.calls rfl ?_
 simp only [k138, mkF, capD]
 have k2 : ∀ l, (kav l).unown = kav l := fun l => (kav_one l).2.1
 have l1 := hc.kl i hi
 have l2 := hc.kl k hk
 simp +contextual only [sZ, Nat.reduceEqDiff, Nat.reduceAdd, ↓reduceIte, reduceCtorEq]
 refine scall_to (c135 hc hi hD) ?_
 rintro r H1 ⟨rfl, rfl⟩
 simp +contextual only [opA_un, opA_0, opA_1, opA_2, sZ, Nat.reduceEqDiff, Nat.reduceAdd, ↓reduceIte, reduceCtorEq]
 refine scall_to (c135 hc hk hD) ?_
 rintro r H1 ⟨rfl, rfl⟩
 simp +contextual only [opA_un, opA_0, opA_1, opA_2, sZ, Nat.reduceEqDiff, ↓reduceIte, reduceCtorEq]
 have eqf : ∀ b : Bool, aeqBool false (.bool b) (.bool b) = fun φ => φ (.bool true) := fun b => by funext φ; cases b <;> simp [aeqBool]
 have fT0 := fieldT0
 have fT1 : ∀ (t : T) (φ : AV → Prop), afieldAddr 1 none (.iptr t.av) φ = φ (.iptr (.int .i64 t.n)) := fun t φ => by cases t; simp [afieldAddr, T.av, apart, AV.cells, AV.one, T.n]
 have ei : (c.nd.getD i.toNat default).fst = c.tm i := rfl
 have ek : (c.nd.getD k.toNat default).fst = c.tm k := rfl
 have hE := E_iff (O := c.O) (a := c.tm i) (b := c.tm k)
 rw [kd_norm hc hi, kd_norm hc hk] at hE
 cases hbi : opB c i with
 | false =>
   have ki : (c.tm i).k ≠ 2 := of_decide_eq_false hbi
   cases hbk : opB c k with
   | false =>
     have kk : (c.tm k).k ≠ 2 := of_decide_eq_false hbk
     simp +contextual only [Bool.not_false, hD.d, idxN, fN0, fT1, len_navs, ei, ek, sZ, Nat.reduceEqDiff, Nat.reduceAdd, Nat.reduceLT, ↓reduceIte, reduceCtorEq]
     refine ⟨hi, hk, retB rfl ?_ (Up.refl c _) hD⟩
     rw [hE, decide_eq_true_eq]
     exact ⟨fun h => .inr ⟨ki, kk, h⟩, fun h => by rcases h with h | h; exact absurd h.1 ki; exact h.2.2⟩
   | true =>
     have kk : (c.tm k).k = 2 := of_decide_eq_true hbk
     simp +contextual only [Bool.not_false, sZ, Nat.reduceEqDiff, ↓reduceIte, reduceCtorEq]
     refine retB rfl ?_ (Up.refl c _) hD
     rw [hE]
     exact ⟨fun h => by simp at h, fun h => by rcases h with h | h; exact absurd h.1 ki; exact absurd kk h.2.1⟩
 | true =>
   have ki : (c.tm i).k = 2 := of_decide_eq_true hbi
   cases hbk : opB c k with
   | false =>
     have kk : (c.tm k).k ≠ 2 := of_decide_eq_false hbk
     simp +contextual only [Bool.not_false, Bool.not_true, sZ, Nat.reduceEqDiff, ↓reduceIte, reduceCtorEq]
     refine retB rfl ?_ (Up.refl c _) hD
     rw [hE]
     exact ⟨fun h => by simp at h, fun h => by rcases h with h | h; exact absurd h.2.1 kk; exact absurd ki h.1⟩
   | true =>
     have kk : (c.tm k).k = 2 := of_decide_eq_true hbk
     have epi : opP c i = c.O.pl (c.tm i).n := if_pos ki
     have epk : opP c k = c.O.pl (c.tm k).n := if_pos kk
     have esi : opS c i = c.O.sp (c.O.pl (c.tm i).n) := if_pos ki
     have hE2 : E c.O (c.tm i) (c.tm k) ↔ opP c i = opP c k ∧ (if opS c i = 3 then ((c.kd i).map (nf c)).Perm ((c.kd k).map (nf c)) else (c.kd i).map (nf c) = (c.kd k).map (nf c)) := by
      rw [hE, epi, epk, esi]
      exact ⟨fun h => by rcases h with h | h; exact h.2.2; exact absurd ki h.1, fun h => .inl ⟨ki, kk, h⟩⟩
     have eki : (c.nd.getD i.toNat default).snd = c.kd i := rfl
     have ekk : (c.nd.getD k.toNat default).snd = c.kd k := rfl
     have ii : IL (kav (c.kd i)) (c.kd i) := .inl rfl
     have ik : IL (kav (c.kd k)) (c.kd k) := .inl rfl
     have hlen : E c.O (c.tm i) (c.tm k) → (c.kd i).length = (c.kd k).length := by
      intro h
      have h := (hE2.1 h).2
      split at h
      ·simpa using h.length_eq
      ·simpa using congrArg List.length h
     simp +contextual only [Bool.not_true, hD.d, idxN, fN3, len_navs, aload_kav, k2, eki, ekk, ii.lenOk, ik.lenOk, ii.len (by omega), ik.len (by omega), sZ, Nat.reduceEqDiff, Nat.reduceAdd, Nat.reduceLT, ↓reduceIte, reduceCtorEq]
     refine ⟨hi, hk, fun hp => ⟨fun hn => ?_, fun hlk => ⟨fun h3 => ?_, fun h3 => ?_⟩⟩, fun hp => ?_⟩
     ·refine retB rfl ⟨fun h => by simp at h, fun h => absurd (hlen h) (by omega)⟩ (Up.refl c _) hD
     ·refine scall_to (c139 ii ik (by omega) (by omega) h2 hD) ?_
      rintro r G ⟨us, to, hpr, rfl, hU, hD'⟩
      have hpm := Pr.perm (f := nf c) hpr (by omega)
      have lbl := below_len (c.kd i).length fun i => !us.getD i false
      have il : IL (kav (below (c.kd i).length fun i => !us.getD i false)) (below (c.kd i).length fun i => !us.getD i false) := .inl rfl
      generalize (below (c.kd i).length fun i => !us.getD i false) = L at *
      simp +contextual only [k2, il.lenOk, il.len (by omega), sZ, Nat.reduceEqDiff, Nat.reduceAdd, Nat.reduceLT, ↓reduceIte, reduceCtorEq]
      refine retB rfl ?_ hU hD'
      rw [hE2, if_pos h3, hpm, decide_eq_true_eq]
      exact ⟨fun h => ⟨hp, List.length_eq_zero_iff.1 (by omega)⟩, fun h => by rw [h.2]; rfl⟩
     ·refine scall_to (c140 (SD.lenS c _) ii ik (by omega) (by omega) 79 [.ptr c.d 0] [] rfl rfl (Q := fun x y => E c.O (c.tm x) (c.tm y)) (fun x hx y hy G hG => (h2 x hx y hy G hG.1).mono fun r H' hr => hr.sb hG) ⟨hD, Up.refl c _⟩) ?_
      rintro r G ⟨b, rfl, hb, hG⟩
      simp +contextual only [sZ, ↓reduceIte, reduceCtorEq]
      refine retB rfl ?_ hG.2 hG.1
      rw [hE2, if_neg h3, hb]
      have := map_eq_get (f := nf c) (a := c.kd i) (b := c.kd k)
      exact ⟨fun h => ⟨hp, this.2 h⟩, fun h => this.1 h.2⟩
     ·exact retB rfl ⟨fun h => by simp at h, fun h => absurd (hE2.1 h).1 hp⟩ (Up.refl c _) hD
end Go.Abs
end
section
set_option maxRecDepth 100000
namespace Go.Abs
open Go Go.Proofs Go.Rpo
def rulesA : AV := .agg [.nilf, .fn (.func 183) [] [], .fn (.func 184) [] [], .fn (.func 185) [] [], .fn (.func 186) [] []]
theorem bdRu (φ : AV → Prop) : abuild [.nilf, .nilf, .nilf, .nilf, .nilf] [(1, 1, .fn (.func 183) [] []), (2, 1, .fn (.func 184) [] []), (3, 1, .fn (.func 185) [] []), (4, 1, .fn (.func 186) [] [])] φ = φ rulesA := by
 simp only [abuild, afill, eq_iff_iff]
 constructor
 ·rintro ⟨_, _, _, _, _, _, _, _, _, _, _, _, h⟩; exact h
 ·exact fun h => ⟨rfl, rfl, by decide, rfl, rfl, by decide, rfl, rfl, by decide, rfl, rfl, by decide, h⟩
theorem rulesA_facts : rulesA.val = true ∧ rulesA.cells.length = 5 ∧ rulesA.cells.all AV.one = true ∧ (∀ n, belowL n (rulesA.cells.map AV.unown) = true) ∧ asplice [AV.nilf, .nilf, .nilf, .nilf, .nilf] 0 (rulesA.cells.map AV.unown) = rulesA.cells := ⟨rfl, rfl, rfl, fun _ => rfl, rfl⟩
theorem c136 : Pure Tryz.prog 136 [] rulesA := by
 refine fun H => k136.2.calls rfl ?_
 simp only [k136, mkF]
 obtain ⟨r1, r2, r3, r4, r5⟩ := rulesA_facts
 simp +contextual only [bdRu, r1, r2, r3, r4, r5, sZ, Nat.reduceAdd, ↓reduceIte, reduceCtorEq]
 have e : loadC (some (AObj.cells rulesA.cells)) (some 5) 0 = fun φ => (5 ≤ 5 ∧ φ rulesA) := rfl
 rw [e]
 exact ⟨Nat.le_refl _, ret1w (n0 := H.length) (by simp) rfl rfl ⟨rfl, rfl⟩⟩
theorem ixR (j : Nat) (f : AV) (h : rulesA.cells[j]? = some f) (hj : j < 5) (φ : AV → Prop) (hd : f.drop = f) : aindexArr 5 rulesA (.int .i64 (j : Int)) φ = φ f := by
 simp only [aindexArr, rulesA, Int.toNat_natCast, eq_iff_iff]
 have e : [AV.nilf, .fn (.func 183) [] [], .fn (.func 184) [] [], .fn (.func 185) [] [], .fn (.func 186) [] []].getD j .any = f := by
  rw [List.getD_eq_getElem?_getD]; show (rulesA.cells[j]?).getD .any = f; rw [h]; rfl
 rw [e, hd]
 exact ⟨fun h => h.2.2.2, fun h => ⟨rfl, by omega, hj, h⟩⟩
def SubQ (c : Cx) (i k : Int) : Prop := ∃ x ∈ c.kd i, E c.O (c.tm x) (c.tm k) ∨ R c.O (c.tm x) (c.tm k)
def PlaceQ (c : Cx) (i k : Int) : Prop := opB c k = true ∧ opP c k < opP c i ∧ ∀ x ∈ c.kd k, R c.O (c.tm i) (c.tm x)
def RuleQ (c : Cx) (i k : Int) (n : Nat) : Prop := (n = 1 ∧ SubQ c i k) ∨ (n = 2 ∧ PlaceQ c i k) ∨ (n = 3 ∧ LexQ c i k) ∨ (n = 4 ∧ MulQ c i k)
structure Rules (c : Cx) (i k : Int) : Prop where
 r1 : ∀ H, Du c H → ACalls Tryz.prog 183 [.ptr c.d 0, .int .i64 i, .int .i64 k] H (DuR c (SubQ c i k) H)
 r2 : ∀ H, Du c H → ACalls Tryz.prog 184 [.ptr c.d 0, .int .i64 i, .int .i64 k] H (DuR c (PlaceQ c i k) H)
 r3 : ∀ H, Du c H → ACalls Tryz.prog 185 [.ptr c.d 0, .int .i64 i, .int .i64 k] H (DuR c (LexQ c i k) H)
 r4 : ∀ H, Du c H → ACalls Tryz.prog 186 [.ptr c.d 0, .int .i64 i, .int .i64 k] H (DuR c (MulQ c i k) H)
theorem Rules.at {c : Cx} {i k : Int} (h : Rules c i k) {n : Nat} (h1 : 0 < n) (h2 : n < 5) {H : List AObj} (hD : Du c H) : ACalls Tryz.prog (182 + n) [.ptr c.d 0, .int .i64 i, .int .i64 k] H (DuR c (RuleQ c i k n) H) := by
 have : n = 1 ∨ n = 2 ∨ n = 3 ∨ n = 4 := by omega
 have key : ∀ {Q Q' : Prop} {f : Nat}, ACalls Tryz.prog f [.ptr c.d 0, .int .i64 i, .int .i64 k] H (DuR c Q H) → (Q ↔ Q') → ACalls Tryz.prog f [.ptr c.d 0, .int .i64 i, .int .i64 k] H (DuR c Q' H) := by
  intro Q Q' f h e
  refine h.mono ?_
  rintro r H' ⟨b, h1, h2, h3, h4⟩
  exact ⟨b, h1, h2.trans e, h3, h4⟩
 rcases this with rfl | rfl | rfl | rfl
 ·exact key (h.r1 H hD) (by simp [RuleQ])
 ·exact key (h.r2 H hD) (by simp [RuleQ])
 ·exact key (h.r3 H hD) (by simp [RuleQ])
 ·exact key (h.r4 H hD) (by simp [RuleQ])
theorem c134 {c : Cx} (hc : c.Ok) {i k : Int} (hi : c.isN i) (hr : Rules c i k) {H : List AObj} (hD : Du c H) : ACalls Tryz.prog 134 (capD c i k) H (DuR c (opB c i = true ∧ ∃ n, n < 5 ∧ RuleQ c i k n) H) := by
 refine k134.2.calls rfl ?_
 simp only [k134, mkF, capD]
 simp +contextual only [sZ, Nat.reduceEqDiff, Nat.reduceAdd, ↓reduceIte, reduceCtorEq]
 refine scall_to (c135 hc hi hD) ?_
 rintro r H1 ⟨rfl, rfl⟩
 simp +contextual only [opA_un, opA_0, opA_1, opA_2, sZ, Nat.reduceEqDiff, ↓reduceIte, reduceCtorEq]
 cases hb : opB c i with
 | false =>
   simp +contextual only [Bool.not_false, sZ, ↓reduceIte, reduceCtorEq]
   exact retB rfl ⟨fun h => by simp at h, fun h => absurd h.1 (by simp)⟩ (Up.refl c _) hD
 | true =>
   simp +contextual only [Bool.not_true, sZ]
   refine scall_pure c136 ?_
   simp +contextual only [sZ, Nat.reduceEqDiff, ↓reduceIte, reduceCtorEq]
   refine swp_loop_st 5 (fun n (G : List AObj) => SD c H1 G ∧ ∀ m, m < n → ¬ RuleQ c i k m)
    (fun n G => [(0, .iptr (.ptr c.d 0)), (1, .iptr (.int .i64 i)), (2, .iptr (.int .i64 k)), (18, rulesA), (19, .int .i64 n)]) (fun n G => G) H1 ⟨⟨⟨hD, Up.refl c _⟩, fun m hm => by omega⟩, sle_refl _ _ _⟩ fun n G hn hI => ?_
   obtain ⟨hG, hno⟩ := hI
   by_cases h0 : n = 0
   ·subst h0
    have e0 := ixR 0 .nilf rfl (by decide)
    have d1 : decide (((0 : Nat) : Int) < 5) = true := rfl
    have d2 : decide ((0 : Int) < ((0 : Nat) : Int)) = false := rfl
    simp +contextual only [stepsA, e0 _ rfl, d1, d2, sZ, Nat.reduceEqDiff, ↓reduceIte, reduceCtorEq]
    refine ⟨1, G, ⟨by omega, hG, fun m hm => ?_⟩, by omega, sle_eq rfl rfl⟩
    intro h
    simp only [RuleQ] at h
    omega
   ·by_cases h5 : n < 5
    ·have hf : rulesA.cells[n]? = some (.fn (.func (182 + n)) [] []) := by
      have : n = 1 ∨ n = 2 ∨ n = 3 ∨ n = 4 := by omega
      rcases this with rfl | rfl | rfl | rfl <;> rfl
     have en := ixR n _ hf h5
     have d1 : decide ((n : Int) < 5) = true := decide_eq_true (by omega)
     have d2 : decide ((0 : Int) < n) = true := decide_eq_true (by omega)
     simp +contextual only [stepsA, en _ rfl, d1, d2, sZ, Nat.reduceEqDiff, Nat.reduceAdd, ↓reduceIte, reduceCtorEq]
     refine scall_to (hr.at (by omega) h5 hG.1) ?_
     rintro r G' ⟨b, rfl, hb', hU, hD'⟩
     have hG' : SD c H1 G' := ⟨hD', hG.2.trans hU⟩
     cases b with
     | true =>
       simp +contextual only [sZ, Nat.reduceEqDiff, ↓reduceIte, reduceCtorEq]
       exact retB rfl ⟨fun _ => ⟨rfl, n, h5, hb'.1 rfl⟩, fun _ => rfl⟩ hG'.2 hG'.1
     | false =>
       simp +contextual only [sZ, Nat.reduceEqDiff, ↓reduceIte, reduceCtorEq]
       refine ⟨n + 1, G', ⟨by omega, hG', fun m hm => ?_⟩, by omega, sle_eq (by rw [wrap_nat n (by omega)]) rfl⟩
       by_cases e : m = n
       ·subst e; exact fun h => absurd (hb'.2 h) (by simp)
       ·exact hno m (by omega)
    ·have d1 : decide ((n : Int) < 5) = false := decide_eq_false (by omega)
     simp +contextual only [d1, sZ, Nat.reduceEqDiff, ↓reduceIte, reduceCtorEq]
     exact retB rfl ⟨fun h => by simp at h, fun ⟨_, m, hm, h⟩ => absurd h (hno m (by omega))⟩ hG.2 hG.1
theorem side_map' {f : Int → T} {s : Int} {l : List Int} : side s (l.map f) = (sideI s l).map f := by unfold side sideI; split <;> simp
theorem Pas.lx {f : Int → T} {G : T → T → Prop} (irr : ∀ x, ¬ G x x) : ∀ {a b : List Int} {n : Nat}, Pas (fun x y => f x = f y) a b n → (Lx G (a.map f) (b.map f) ↔ n < a.length ∧ (n = b.length ∨ G (f (a.getD n 0)) (f (b.getD n 0))))
 | [], b, n, h => by simp [Lx]
 | x :: r, [], n, h => by
   have := h.lb
   simp at this
   subst this
   simp [Lx]
 | x :: r, y :: s, 0, h => by
   have hne : ¬ f x = f y := h.no (by simp) (by simp)
   simp [Lx, hne]
 | x :: r, y :: s, m + 1, h => by
   have heq : f x = f y := h.eq 0 (by omega)
   have ih := Pas.lx irr (a := r) (b := s) (n := m) ⟨by have := h.la; simp at this; omega, by have := h.lb; simp at this; omega, fun j hj => h.eq (j + 1) (by omega), fun h1 h2 => h.no (by simpa using h1) (by simpa using h2)⟩
   simp only [List.map_cons, Lx, heq, true_and, List.length_cons, List.getD_cons_succ, Nat.add_lt_add_iff_right, Nat.add_right_cancel_iff]
   rw [ih]
   exact ⟨fun h => by rcases h with h | h; exact h; exact absurd h (irr _), fun h => .inl h⟩
theorem pas_exists {Q : Int → Int → Prop} : ∀ (a b : List Int), ∃ n, Pas Q a b n
 | [], b => ⟨0, by simp, by simp, fun j h => by omega, fun h => by simp at h⟩
 | x :: r, [] => ⟨0, by simp, by simp, fun j h => by omega, fun _ h => by simp at h⟩
 | x :: r, y :: s => by
   by_cases hq : Q x y
   ·obtain ⟨n, h⟩ := pas_exists (Q := Q) r s
    refine ⟨n + 1, by have := h.la; simp; omega, by have := h.lb; simp; omega, fun j hj => ?_, fun h1 h2 => h.no (by simpa using h1) (by simpa using h2)⟩
    cases j with
    | zero => exact hq
    | succ j => exact h.eq j (by omega)
   ·exact ⟨0, by simp, by simp, fun j h => by omega, fun _ _ => hq⟩
theorem rules_iff {c : Cx} (hc : c.Ok) {i k : Int} (hi : c.isN i) (hk : c.isN k) : (opB c i = true ∧ ∃ n, n < 5 ∧ RuleQ c i k n) ↔ R c.O (c.tm i) (c.tm k) := by
 rw [R_iff, kd_norm hc hi, kd_norm hc hk]
 have hbi : opB c i = true ↔ (c.tm i).k = 2 := by simp [opB]
 have hbk : opB c k = true ↔ (c.tm k).k = 2 := by simp [opB]
 rw [hbi]
 refine and_congr_right fun hki => ?_
 have epi : opP c i = c.O.pl (c.tm i).n := if_pos hki
 have esi : opS c i = c.O.sp (c.O.pl (c.tm i).n) := if_pos hki
 have lk := (hc.kids k hk).1
 have li := (hc.kids i hi).1
 have all : (∀ x ∈ c.kd k, R c.O (c.tm i) (c.tm x)) ↔ ∀ y ∈ (c.tm k).l, R c.O (c.tm i) y := by rw [← lk]; simp
 have sub : SubQ c i k ↔ ∃ x ∈ (c.tm i).l, E c.O x (c.tm k) ∨ R c.O x (c.tm k) := by
  rw [← li]; unfold SubQ
  constructor
  ·rintro ⟨x, hx, h⟩; exact ⟨_, List.mem_map.2 ⟨x, hx, rfl⟩, h⟩
  ·rintro ⟨y, hy, h⟩; obtain ⟨x, hx, rfl⟩ := List.mem_map.1 hy; exact ⟨x, hx, h⟩
 have lex : LexQ c i k ↔ (c.tm k).k = 2 ∧ c.O.pl (c.tm k).n = c.O.pl (c.tm i).n ∧ c.O.sp (c.O.pl (c.tm i).n) ≠ 3 ∧ (∀ y ∈ (c.tm k).l, R c.O (c.tm i) y) ∧ Lx (Gt c.O.sp) (side (c.O.sp (c.O.pl (c.tm i).n)) ((c.kd i).map (nf c))) (side (c.O.sp (c.O.pl (c.tm i).n)) ((c.kd k).map (nf c))) := by
  unfold LexQ
  rw [lvB_iff, all, ← esi, side_map', side_map']
  obtain ⟨n, hn⟩ := pas_exists (Q := fun x y => nf c x = nf c y) (sideI (opS c i) (c.kd i)) (sideI (opS c i) (c.kd k))
  have hlx := Pas.lx (G := Gt c.O.sp) (fun x => gt_irr x) hn
  rw [hlx]
  constructor
  ·rintro ⟨⟨_, h1, h2⟩, h3, h4, m, hm, h5⟩
   have := hm.uniq hn
   subst this
   exact ⟨h1, h2.symm, h3, h4, h5⟩
  ·rintro ⟨h1, h2, h3, h4, h5⟩
   exact ⟨⟨hki, h1, h2.symm⟩, h3, h4, n, hn, h5⟩
 have mul : MulQ c i k ↔ (c.tm k).k = 2 ∧ c.O.pl (c.tm k).n = c.O.pl (c.tm i).n ∧ c.O.sp (c.O.pl (c.tm i).n) = 3 ∧ Mu (Gt c.O.sp) ((c.kd i).map (nf c)) ((c.kd k).map (nf c)) := by
  unfold MulQ
  rw [lvB_iff, ← esi]
  exact ⟨fun ⟨⟨_, h1, h2⟩, h3⟩ => ⟨h1, h2.symm, h3⟩, fun ⟨h1, h2, h3⟩ => ⟨⟨hki, h1, h2.symm⟩, h3⟩⟩
 have pla : PlaceQ c i k ↔ (c.tm k).k = 2 ∧ c.O.pl (c.tm k).n < c.O.pl (c.tm i).n ∧ ∀ y ∈ (c.tm k).l, R c.O (c.tm i) y := by
  unfold PlaceQ
  rw [all, hbk, epi]
  refine and_congr_right fun h => ?_
  rw [show opP c k = c.O.pl (c.tm k).n from if_pos h]
 have e : (∃ n, n < 5 ∧ RuleQ c i k n) ↔ SubQ c i k ∨ PlaceQ c i k ∨ LexQ c i k ∨ MulQ c i k := by
  constructor
  ·rintro ⟨n, _, h | h | h | h⟩
   ·exact .inl h.2
   ·exact .inr (.inl h.2)
   ·exact .inr (.inr (.inl h.2))
   ·exact .inr (.inr (.inr h.2))
  ·rintro (h | h | h | h)
   ·exact ⟨1, by omega, .inl ⟨rfl, h⟩⟩
   ·exact ⟨2, by omega, .inr (.inl ⟨rfl, h⟩)⟩
   ·exact ⟨3, by omega, .inr (.inr (.inl ⟨rfl, h⟩))⟩
   ·exact ⟨4, by omega, .inr (.inr (.inr ⟨rfl, h⟩))⟩
 rw [e, sub, pla, lex, mul]
 refine or_congr_right ?_
 constructor
 ·rintro (⟨h1, h2⟩ | ⟨h1, h2⟩ | ⟨h1, h2⟩)
  ·exact ⟨h1, .inl h2⟩
  ·exact ⟨h1, .inr (.inl h2)⟩
  ·exact ⟨h1, .inr (.inr h2)⟩
 ·rintro ⟨h1, h2 | h2 | h2⟩
  ·exact .inl ⟨h1, h2⟩
  ·exact .inr (.inl ⟨h1, h2⟩)
  ·exact .inr (.inr ⟨h1, h2⟩)
theorem DuR.iff {c : Cx} {Q Q' : Prop} {f : Nat} {args : List AV} {H : List AObj} (h : ACalls Tryz.prog f args H (DuR c Q H)) (e : Q ↔ Q') : ACalls Tryz.prog f args H (DuR c Q' H) := by
 refine h.mono ?_
 rintro r H' ⟨b, h1, h2, h3, h4⟩
 exact ⟨b, h1, h2.trans e, h3, h4⟩
theorem duel_all {c : Cx} (hc : c.Ok) : ∀ (N : Nat) (i k : Int), c.isN i → c.isN k → wt (c.tm i) + wt (c.tm k) ≤ N → SameC c i k ∧ MoreC c i k := by
 intro N
 induction N with
 | zero => intro i k _ _ h; have := wt_pos (c.tm i); omega
 | succ N ih =>
 intro i k hi hk hN
 have hx : ∀ {j : Int}, c.isN j → ∀ x ∈ c.kd j, c.isN x ∧ wt (c.tm x) < wt (c.tm j) := fun {j} hj x hx => by
  have h1 := hc.kids j hj
  exact ⟨h1.2 x hx, wt_mem (by rw [← h1.1]; exact List.mem_map.2 ⟨x, hx, rfl⟩)⟩
 have s1 : ∀ x ∈ c.kd i, ∀ y ∈ c.kd k, SameC c x y := fun x h y h' => (ih x y (hx hi x h).1 (hx hk y h').1 (by have := (hx hi x h).2; have := (hx hk y h').2; omega)).1
 have m1 : ∀ x ∈ c.kd i, ∀ y ∈ c.kd k, MoreC c x y := fun x h y h' => (ih x y (hx hi x h).1 (hx hk y h').1 (by have := (hx hi x h).2; have := (hx hk y h').2; omega)).2
 have s2 : ∀ x ∈ c.kd i, SameC c x k := fun x h => (ih x k (hx hi x h).1 hk (by have := (hx hi x h).2; omega)).1
 have m2 : ∀ x ∈ c.kd i, MoreC c x k := fun x h => (ih x k (hx hi x h).1 hk (by have := (hx hi x h).2; omega)).2
 have m3 : ∀ y ∈ c.kd k, MoreC c i y := fun y h => (ih i y hi (hx hk y h).1 (by have := (hx hk y h).2; omega)).2
 refine ⟨c79 hc fun H hD => c138 hc hi hk s1 hD, c76 hc fun H hD => DuR.iff (c134 hc hi ⟨fun H hD => c183 hc hi s2 m2 hD, fun H hD => c184 hc hi hk m3 hD, fun H hD => c185 hc hi hk m3 s1 m1 hD, fun H hD => c186 hc hi hk s1 m1 hD⟩ hD) (rules_iff hc hi hk)⟩
theorem same_c {c : Cx} (hc : c.Ok) {i k : Int} (hi : c.isN i) (hk : c.isN k) : SameC c i k := (duel_all hc _ i k hi hk (Nat.le_refl _)).1
theorem more_c {c : Cx} (hc : c.Ok) {i k : Int} (hi : c.isN i) (hk : c.isN k) : MoreC c i k := (duel_all hc _ i k hi hk (Nat.le_refl _)).2
end Go.Abs
end
