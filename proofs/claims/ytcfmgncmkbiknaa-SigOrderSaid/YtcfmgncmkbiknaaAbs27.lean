/- A memory-free reading of the model's values (part 27): objects behind others. -/
import Derived.Test.YtcfmgncmkbiknaaAbs26
set_option linter.unusedVariables false
set_option linter.unusedSimpArgs false
namespace Go.Abs
open Go

theorem ga0 (H e : List AObj) : (H ++ e)[H.length]? = e[0]? := by
  rw [List.getElem?_append_right (Nat.le_refl _), Nat.sub_self]
theorem ga (H e : List AObj) (i : Nat) : (H ++ e)[H.length + i]? = e[i]? := by
  rw [List.getElem?_append_right (Nat.le_add_right _ _), Nat.add_sub_cancel_left]
theorem sa0 (H e : List AObj) (x : AObj) : (H ++ e).set H.length x = H ++ e.set 0 x := by
  rw [List.set_append_right _ _ (Nat.le_refl _), Nat.sub_self]
theorem sa (H e : List AObj) (i : Nat) (x : AObj) : (H ++ e).set (H.length + i) x = H ++ e.set i x := by
  rw [List.set_append_right _ _ (Nat.le_add_right _ _), Nat.add_sub_cancel_left]
theorem app2 (H e f : List AObj) : (H ++ e) ++ f = H ++ (e ++ f) := List.append_assoc _ _ _
theorem len2 (H e : List AObj) : (H ++ e).length = H.length + e.length := List.length_append
theorem g0 {α : Type} (x : α) (r : List α) : (x :: r)[0]? = some x := by simp
theorem g1 {α : Type} (x y : α) (r : List α) : (x :: y :: r)[1]? = some y := by simp
theorem g2 {α : Type} (x y z : α) (r : List α) : (x :: y :: z :: r)[2]? = some z := by simp
theorem s0 {α : Type} (x u : α) (r : List α) : (x :: r).set 0 u = u :: r := by simp
theorem s1 {α : Type} (x y u : α) (r : List α) : (x :: y :: r).set 1 u = x :: u :: r := by simp
theorem s2 {α : Type} (x y z u : α) (r : List α) : (x :: y :: z :: r).set 2 u = x :: y :: u :: r := by simp
theorem d0 {α : Type} (x d : α) (r : List α) : (x :: r).getD 0 d = x := by simp
theorem d1 {α : Type} (x y d : α) (r : List α) : (x :: y :: r).getD 1 d = y := by simp
theorem d2 {α : Type} (x y z d : α) (r : List α) : (x :: y :: z :: r).getD 2 d = z := by simp
theorem sp1 (x y : AV) : asplice [x] 0 [y] = [y] := by simp [asplice]
theorem alenD_mono {x : AV} {H : List AObj} {φ ψ : AV → Prop} (hm : ∀ z, φ z → ψ z) (h : alenD x H φ) : alenD x H ψ := by
  unfold alenD at *
  split at h
  · exact hm _ h
  · exact alen_mono hm h
theorem dvalC_mono {o : IOp} {ρ : IX → AV} {H : List AObj} {K K' : AV → Prop} (h : dvalC o ρ H K) (hK : ∀ x, K x → K' x) : dvalC o ρ H K' := by
  unfold dvalC at *
  split at h
  · exact hK _ h
  · unfold scond boolP at *
    split at h
    · exact ⟨fun e => hK _ (h.1 e), fun e => hK _ (h.2 e)⟩
    · exact h.elim
  · exact abin_mono hK h
  · exact ashift_mono hK h
  · exact aeqBool_mono hK h
  · unfold aeqNilD at *
    split at h
    · exact hK _ h
    · exact h.elim
  · exact aun_mono hK h
  · exact ⟨h.1, hK _ h.2⟩
  · exact afill_mono (fun _ h => hK _ h) h
  · exact abslice_mono (fun _ h => hK _ h) h
  · exact aload_mono hK h
  · exact anilCheck_mono hK h
  · exact afieldAddr_mono hK h
  · exact afield_mono hK h
  · exact ⟨h.1, aindexAddr_mono hK h.2⟩
  · exact aindexStr_mono hK h
  · exact asliceX_mono hK h
  · exact asliceStr_mono hK h
  · exact ⟨h.1, alenD_mono hK h.2⟩
  · exact alookup_mono hK h
  · exact hK _ h
  · exact aextract_mono hK h
  · exact aconvInt_mono hK h
  · exact amx_mono hK h
  · exact h.elim
theorem adtS_mono {P : Program} : ∀ {t : DT} {env : Env} {H : List AObj} {K1 K2 : Env → List AObj → Prop}, adtS P t env H K1 → (∀ e H', K1 e H' → K2 e H') → adtS P t env H K2
  | .done, _, _, _, _, h, hK => hK _ _ h
  | .take st o r, _, _, _, _, h, hK => by
    unfold adtS stake at *
    have key : ∀ {env : Env} {H : List AObj} {K : AV → Prop} {K' : AV → Prop}, sdv P st o.op (aval env) H K → (∀ x, K x → K' x) → sdv P st o.op (aval env) H K' := by
      intro env H K K' h hK
      unfold sdv at *
      split at h
      · unfold scallD at *
        split at h
        · obtain ⟨x, h1, h2⟩ := h; exact ⟨x, h1, hK _ h2⟩
        · exact h.elim
      · exact dvalC_mono h hK
    split at h
    · exact key h fun _ h => adtS_mono h hK
    · unfold sguard at *
      split at h
      · exact ⟨fun e => key (h.1 e) fun _ h => adtS_mono h hK, fun e => adtS_mono (h.2 e) hK⟩
      · exact adtS_mono h hK
      · exact h.elim
  | .br o t rest, _, _, _, _, h, hK => ⟨agd_mono2 h.1 fun _ _ h => adtS_mono h hK, adtS_mono h.2 hK⟩
  | .nil, _, _, _, _, h, hK => trivial
theorem swp_mono {P : Program} {n0 : Nat} : ∀ {ir : IR} {env : Env} {H : List AObj} {Q1 Q2 : Exit → Env → List AObj → Prop}, swp P n0 ir env H Q1 → (∀ x e H', Q1 x e H' → Q2 x e H') → swp P n0 ir env H Q2 := by
  intro ir
  induction ir with
  | skip => exact fun h hQ => hQ _ _ _ h
  | region ops live => exact fun h hQ => aops_mono h fun _ _ h => hQ _ _ _ h
  | draw t live => exact fun h hQ => adtS_mono h fun _ _ h => hQ _ _ _ h
  | seq a b iha ihb =>
    exact fun h hQ => iha h fun x e H' h => by
      cases x with
      | normal => exact ihb h hQ
      | _ => exact hQ _ _ _ h
  | cond x a b iha ihb =>
    intro env H Q1 Q2 h hQ
    rw [swp_cond] at *
    unfold scond boolP at *
    split at h
    · exact ⟨fun e => iha (h.1 e) hQ, fun e => ihb (h.2 e) hQ⟩
    · exact h.elim
  | block id a iha =>
    exact fun h hQ => iha h fun x e H' h => by
      cases x with
      | exit id' =>
        dsimp only at h ⊢
        split
        · rename_i hid; rw [if_pos hid] at h; exact hQ _ _ _ h
        · rename_i hid; rw [if_neg hid] at h; exact hQ _ _ _ h
      | _ => exact hQ _ _ _ h
  | loop a iha =>
    intro env H Q1 Q2 h hQ
    obtain ⟨ι, I, se, sh, μ, h0, hs⟩ := h
    exact ⟨ι, I, se, sh, μ, h0, fun i hi => iha (hs i hi) fun x e H' h => by
      cases x with
      | normal => exact h
      | _ => exact hQ _ _ _ h⟩
  | exit id => exact fun h hQ => hQ _ _ _ h
  | ret => exact fun h hQ => hQ _ _ _ h
  | never => exact fun h _ => h.elim
/-- What stands in an object. -/
def loadC (o : Option AObj) (sz : Option Nat) (off : Nat) (φ : AV → Prop) : Prop :=
  match o with
  | some (.cells es) => match sz with
    | some m => off + m ≤ es.length ∧ φ (.agg (((es.drop off).take m).map AV.drop))
    | none => off < es.length ∧ φ (es.getD off .any).unown
  | _ => False
@[congr] theorem loadC_congr {o o' : Option AObj} {sz : Option Nat} {off : Nat} {φ : AV → Prop} (h : nrm o = o') : loadC o sz off φ = loadC o' sz off φ := by subst h; rfl
theorem load_ptr (sz : Option Nat) (id off : Nat) (H : List AObj) (φ : AV → Prop) : aload sz (.ptr id off) H φ = loadC H[id]? sz off φ := by
  unfold aload loadC; rfl
theorem loadC_1 (es : List AV) (off : Nat) (φ : AV → Prop) : loadC (some (.cells es)) none off φ = (off < es.length ∧ φ (es.getD off .any).unown) := _root_.id rfl
def storeC (o : Option AObj) (m id off : Nat) (x : AV) (H : List AObj) (K : List AObj → Prop) : Prop :=
  match o with
  | some (.cells es) => x.val = true ∧ x.cells.length = m ∧ off + m ≤ es.length ∧ x.cells.all AV.one = true ∧ belowL (id + 1) (x.cells.map AV.unown) = true ∧
        K (H.set id (.cells (asplice es off (x.cells.map AV.unown))))
  | _ => False
@[congr] theorem storeC_congr {o o' : Option AObj} {m id off : Nat} {x : AV} {H : List AObj} {K : List AObj → Prop} (h : nrm o = o') {x' : AV} (h2 : x = x') : storeC o m id off x H K = storeC o' m id off x' H K := by subst h; subst h2; rfl
theorem store_ptr (m id off : Nat) (x : AV) (H : List AObj) (K : List AObj → Prop) : astore m (.ptr id off) x H K = storeC H[id]? m id off x H K := by
  unfold astore storeC; rfl
theorem storeC_1 (es : List AV) (m id off : Nat) (x : AV) (H : List AObj) (K : List AObj → Prop) : storeC (some (.cells es)) m id off x H K = (x.val = true ∧ x.cells.length = m ∧ off + m ≤ es.length ∧ x.cells.all AV.one = true ∧ belowL (id + 1) (x.cells.map AV.unown) = true ∧
        K (H.set id (.cells (asplice es off (x.cells.map AV.unown))))) := _root_.id rfl
theorem on_bool (b : Bool) : (AV.bool b).one = true := _root_.id rfl
theorem on_int (k : IntKind) (n : Int) : (AV.int k n).one = true := _root_.id rfl
theorem on_str (s : ByteArray) : (AV.str s).one = true := _root_.id rfl
theorem on_lst (o : Nat) (xs : List AV) : (AV.lst o xs).one = true := _root_.id rfl
theorem on_nils : AV.nils.one = true := _root_.id rfl
theorem on_fn (f : Fn) (a b : List AV) : (AV.fn f a b).one = true := _root_.id rfl
theorem on_ptr (a b : Nat) : (AV.ptr a b).one = true := _root_.id rfl
theorem on_iptr (x : AV) : (AV.iptr x).one = true := _root_.id rfl
theorem on_map (a : Nat) : (AV.map a).one = true := _root_.id rfl
theorem all1 {α : Type} (p : α → Bool) (x : α) (r : List α) : (x :: r).all p = (p x && r.all p) := _root_.id rfl
theorem all0 {α : Type} (p : α → Bool) : ([] : List α).all p = true := _root_.id rfl
theorem wrap_in (n : Int) (h : -9223372036854775808 ≤ n ∧ n ≤ 9223372036854775807) : IntKind.i64.wrap n = n := by
  rw [show IntKind.i64.wrap n = (n + 9223372036854775808) % 18446744073709551616 - 9223372036854775808 from IntKind.wrap_i64 n]; omega
/-- A loop over numbers up to N, and a state. -/
theorem swp_loop_st {P : Program} {n0 : Nat} {env : Env} {H : List AObj} {Q : Exit → Env → List AObj → Prop} {a : IR} {ι : Type} (N : Nat) (I : Nat → ι → Prop) (se : Nat → ι → Env) (sh : Nat → ι → List AObj) (s0 : ι) (h0 : I 0 s0 ∧ sle n0 env H (se 0 s0) (sh 0 s0))
    (hs : ∀ i s, i ≤ N → I i s → swp P n0 a (se i s) (sh i s) fun e env' H' => match e with
      | .normal => ∃ j t, (j ≤ N ∧ I j t) ∧ N - j < N - i ∧ sle n0 env' H' (se j t) (sh j t)
      | e => Q e env' H') : swp P n0 (.loop a) env H Q :=
  ⟨Nat × ι, fun p => p.1 ≤ N ∧ I p.1 p.2, fun p => se p.1 p.2, fun p => sh p.1 p.2, fun p => N - p.1, ⟨(0, s0), ⟨Nat.zero_le _, h0.1⟩, h0.2⟩, fun p hp => swp_mono (hs p.1 p.2 hp.1 hp.2) fun x e H' h => by
    cases x with
    | normal => obtain ⟨j, t, h1, h2, h3⟩ := h; exact ⟨(j, t), h1, h2, h3⟩
    | _ => exact h⟩
/-! ### What is handed back -/
theorem ret0 {H : List AObj} {s : Nat} {v v' : AV} (hb : v.blw H.length = true) (hv : v = v') : aret H.length [.t s] [(s, v)] H fun r H' => r = v' ∧ H' = H :=
  aret_one _ (Nat.le_refl _) (by rw [gt_cons, if_pos rfl]; exact hb) ⟨by rw [gt_cons, if_pos rfl]; exact hv, by simp⟩
theorem ret1 {H e : List AObj} {s : Nat} {v v' : AV} (hb : v.blw H.length = true) (hv : v = v') : aret H.length [.t s] [(s, v)] (H ++ e) fun r H' => r = v' ∧ H' = H :=
  aret_one _ (Nat.le_refl _) (by rw [gt_cons, if_pos rfl]; exact hb) ⟨by rw [gt_cons, if_pos rfl]; exact hv, by simp⟩
/-- With objects that were there, and turned. -/
theorem ret2 {H H' : List AObj} {n0 s : Nat} {v v' : AV} (hn : n0 = H.length) (hb : v.blw n0 = true) (hv : v = v') (hl : H = H') : aret n0 [.t s] [(s, v)] H fun r H'' => r = v' ∧ H'' = H' := by
  subst hn hl; exact ret0 hb hv
theorem len_lt {i n : Nat} (h : (i : Int) < (n : Int)) : i < n := by omega
theorem len_nlt {i n : Nat} (h : ¬ (i : Int) < (n : Int)) : n ≤ i := by omega
end Go.Abs
