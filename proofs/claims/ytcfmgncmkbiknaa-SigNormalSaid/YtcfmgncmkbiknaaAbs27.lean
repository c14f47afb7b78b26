/- A memory-free reading of the model's values (part 27): objects behind others. -/
import Derived.Test.YtcfmgncmkbiknaaAbs26
set_option linter.unusedVariables false
set_option linter.defProp false
set_option linter.unusedSimpArgs false
namespace Go.Abs
open Go

theorem ga0 (H e : List AObj) : (H ++ e)[H.length]? = e[0]? := by
  rw [List.getElem?_append_right (Nat.le_refl _), Nat.sub_self]
theorem ga (H e : List AObj) (i : Nat) : (H ++ e)[H.length + i]? = e[i]? := by
  rw [List.getElem?_append_right (Nat.le_add_right _ _), Nat.add_sub_cancel_left]
theorem sa0 (H e : List AObj) (x : AObj) : (H ++ e).set H.length x = H ++ e.set 0 x := by
  rw [List.set_append_right _ _ (Nat.le_refl _), Nat.sub_self]
theorem sa (H e : List AObj) (i : Nat) (x : AObj) : (H ++ e).set (H.length + i) x = H ++ e.set i x := by
  rw [List.set_append_right _ _ (Nat.le_add_right _ _), Nat.add_sub_cancel_left]
theorem app2 (H e f : List AObj) : (H ++ e) ++ f = H ++ (e ++ f) := List.append_assoc _ _ _
theorem len2 (H e : List AObj) : (H ++ e).length = H.length + e.length := List.length_append
theorem g0 {α : Type} (x : α) (r : List α) : (x :: r)[0]? = some x := by simp
theorem g1 {α : Type} (x y : α) (r : List α) : (x :: y :: r)[1]? = some y := by simp
theorem g2 {α : Type} (x y z : α) (r : List α) : (x :: y :: z :: r)[2]? = some z := by simp
theorem s0 {α : Type} (x u : α) (r : List α) : (x :: r).set 0 u = u :: r := by simp
theorem s1 {α : Type} (x y u : α) (r : List α) : (x :: y :: r).set 1 u = x :: u :: r := by simp
theorem s2 {α : Type} (x y z u : α) (r : List α) : (x :: y :: z :: r).set 2 u = x :: y :: u :: r := by simp
theorem d0 {α : Type} (x d : α) (r : List α) : (x :: r).getD 0 d = x := by simp
theorem d1 {α : Type} (x y d : α) (r : List α) : (x :: y :: r).getD 1 d = y := by simp
theorem d2 {α : Type} (x y z d : α) (r : List α) : (x :: y :: z :: r).getD 2 d = z := by simp
theorem sp1 (x y : AV) : asplice [x] 0 [y] = [y] := by simp [asplice]
theorem alenD_mono {x : AV} {H : List AObj} {φ ψ : AV → Prop} (hm : ∀ z, φ z → ψ z) (h : alenD x H φ) : alenD x H ψ := by
  unfold alenD at *
  split at h
  · exact hm _ h
  · exact alen_mono hm h
theorem dvalC_mono {o : IOp} {ρ : IX → AV} {H : List AObj} {K K' : AV → Prop} (h : dvalC o ρ H K) (hK : ∀ x, K x → K' x) : dvalC o ρ H K' := by
  unfold dvalC at *
  split at h
  · exact hK _ h
  · unfold scond boolP at *
    split at h
    · exact ⟨fun e => hK _ (h.1 e), fun e => hK _ (h.2 e)⟩
    · exact h.elim
  · exact abin_mono hK h
  · exact ashift_mono hK h
  · exact aeqBool_mono hK h
  · unfold aeqNilD at *
    split at h
    · exact hK _ h
    · exact h.elim
  · exact aun_mono hK h
  · exact ⟨h.1, hK _ h.2⟩
  · exact afill_mono (fun _ h => hK _ h) h
  · exact abslice_mono (fun _ h => hK _ h) h
  · exact aload_mono hK h
  · exact anilCheck_mono hK h
  · exact afieldAddr_mono hK h
  · exact afield_mono hK h
  · exact ⟨h.1, aindexAddr_mono hK h.2⟩
  · exact aindexStr_mono hK h
  · exact asliceX_mono hK h
  · exact asliceStr_mono hK h
  · exact ⟨h.1, alenD_mono hK h.2⟩
  · exact alookup_mono hK h
  · exact hK _ h
  · exact aextract_mono hK h
  · exact aconvInt_mono hK h
  · exact amx_mono hK h
  · exact h.elim
theorem adtS_mono {P : Program} : ∀ {t : DT} {env : Env} {H : List AObj} {K1 K2 : Env → List AObj → Prop}, adtS P t env H K1 → (∀ e H', K1 e H' → K2 e H') → adtS P t env H K2
  | .done, _, _, _, _, h, hK => hK _ _ h
  | .take st o r, _, _, _, _, h, hK => by
    unfold adtS stake at *
    have key : ∀ {env : Env} {H : List AObj} {K : AV → Prop} {K' : AV → Prop}, sdv P st o.op (aval env) H K → (∀ x, K x → K' x) → sdv P st o.op (aval env) H K' := by
      intro env H K K' h hK
      unfold sdv at *
      split at h
      · unfold scallD at *
        split at h
        · obtain ⟨x, h1, h2⟩ := h; exact ⟨x, h1, hK _ h2⟩
        · exact h.elim
      · exact dvalC_mono h hK
    split at h
    · exact key h fun _ h => adtS_mono h hK
    · unfold sguard at *
      split at h
      · exact ⟨fun e => key (h.1 e) fun _ h => adtS_mono h hK, fun e => adtS_mono (h.2 e) hK⟩
      · exact adtS_mono h hK
      · exact h.elim
  | .br o t rest, _, _, _, _, h, hK => ⟨agd_mono2 h.1 fun _ _ h => adtS_mono h hK, adtS_mono h.2 hK⟩
  | .nil, _, _, _, _, h, hK => trivial
theorem swp_mono {P : Program} {n0 : Nat} : ∀ {ir : IR} {env : Env} {H : List AObj} {Q1 Q2 : Exit → Env → List AObj → Prop}, swp P n0 ir env H Q1 → (∀ x e H', Q1 x e H' → Q2 x e H') → swp P n0 ir env H Q2 := by
  intro ir
  induction ir with
  | skip => exact fun h hQ => hQ _ _ _ h
  | region ops live => exact fun h hQ => aops_mono h fun _ _ h => hQ _ _ _ h
  | draw t live => exact fun h hQ => adtS_mono h fun _ _ h => hQ _ _ _ h
  | seq a b iha ihb =>
    exact fun h hQ => iha h fun x e H' h => by
      cases x with
      | normal => exact ihb h hQ
      | _ => exact hQ _ _ _ h
  | cond x a b iha ihb =>
    intro env H Q1 Q2 h hQ
    rw [swp_cond] at *
    unfold scond boolP at *
    split at h
    · exact ⟨fun e => iha (h.1 e) hQ, fun e => ihb (h.2 e) hQ⟩
    · exact h.elim
  | block id a iha =>
    exact fun h hQ => iha h fun x e H' h => by
      cases x with
      | exit id' =>
        dsimp only at h ⊢
        split
        · rename_i hid; rw [if_pos hid] at h; exact hQ _ _ _ h
        · rename_i hid; rw [if_neg hid] at h; exact hQ _ _ _ h
      | _ => exact hQ _ _ _ h
  | loop a iha =>
    intro env H Q1 Q2 h hQ
    obtain ⟨ι, I, se, sh, μ, h0, hs⟩ := h
    exact ⟨ι, I, se, sh, μ, h0, fun i hi => iha (hs i hi) fun x e H' h => by
      cases x with
      | normal => exact h
      | _ => exact hQ _ _ _ h⟩
  | exit id => exact fun h hQ => hQ _ _ _ h
  | ret => exact fun h hQ => hQ _ _ _ h
  | never => exact fun h _ => h.elim
theorem sp20 (a b y : AV) : asplice [a, b] 0 [y] = [y, b] := by simp [asplice]
theorem sp21 (a b y : AV) : asplice [a, b] 1 [y] = [a, y] := by simp [asplice]
theorem sp30 (a b c y : AV) : asplice [a, b, c] 0 [y] = [y, b, c] := by simp [asplice]
theorem sp31 (a b c y : AV) : asplice [a, b, c] 1 [y] = [a, y, c] := by simp [asplice]
theorem sp32 (a b c y : AV) : asplice [a, b, c] 2 [y] = [a, b, y] := by simp [asplice]
theorem sp33 (a b c x y z : AV) : asplice [a, b, c] 0 [x, y, z] = [x, y, z] := by simp [asplice]
theorem mx_max (k k' : IntKind) (a b : Int) (φ : AV → Prop) : amx true (.int k a) (.int k' b) φ = φ (.int k (max a b)) := by
  have : (if a < b then b else a) = max a b := by rw [Int.max_def]; split <;> split <;> omega
  simp [amx, this]
theorem mx_min (k k' : IntKind) (a b : Int) (φ : AV → Prop) : amx false (.int k a) (.int k' b) φ = φ (.int k (min a b)) := by
  have : (if b < a then b else a) = min a b := by rw [Int.min_def]; split <;> split <;> omega
  simp [amx, this]
theorem zero_add1 (n : Nat) : 0 + n = n := Nat.zero_add n
/-- What stands in an object. -/
def loadC (o : Option AObj) (sz : Option Nat) (off : Nat) (φ : AV → Prop) : Prop :=
  match o with
  | some (.cells es) => match sz with
    | some m => off + m ≤ es.length ∧ φ (.agg (((es.drop off).take m).map AV.drop))
    | none => off < es.length ∧ φ (es.getD off .any).unown
  | _ => False
@[congr] theorem loadC_congr {o o' : Option AObj} {sz : Option Nat} {off : Nat} {φ : AV → Prop} (h : nrm o = o') : loadC o sz off φ = loadC o' sz off φ := by subst h; rfl
theorem load_ptr (sz : Option Nat) (id off : Nat) (H : List AObj) (φ : AV → Prop) : aload sz (.ptr id off) H φ = loadC H[id]? sz off φ := by
  unfold aload loadC; rfl
theorem loadC_1 (es : List AV) (off : Nat) (φ : AV → Prop) : loadC (some (.cells es)) none off φ = (off < es.length ∧ φ (es.getD off .any).unown) := _root_.id rfl
theorem loadC_3 (a b c : AV) (φ : AV → Prop) : loadC (some (.cells [a, b, c])) (some 3) 0 φ = φ (.agg [a.drop, b.drop, c.drop]) := by simp [loadC]
theorem loadC_2 (a b : AV) (φ : AV → Prop) : loadC (some (.cells [a, b])) (some 2) 0 φ = φ (.agg [a.drop, b.drop]) := by simp [loadC]
def storeC (o : Option AObj) (m id off : Nat) (x : AV) (H : List AObj) (K : List AObj → Prop) : Prop :=
  match o with
  | some (.cells es) => x.val = true ∧ x.cells.length = m ∧ off + m ≤ es.length ∧ x.cells.all AV.one = true ∧ belowL (id + 1) (x.cells.map AV.unown) = true ∧
        K (H.set id (.cells (asplice es off (x.cells.map AV.unown))))
  | _ => False
@[congr] theorem storeC_congr {o o' : Option AObj} {m id off : Nat} {x : AV} {H : List AObj} {K : List AObj → Prop} (h : nrm o = o') {x' : AV} (h2 : x = x') : storeC o m id off x H K = storeC o' m id off x' H K := by subst h; subst h2; rfl
theorem store_ptr (m id off : Nat) (x : AV) (H : List AObj) (K : List AObj → Prop) : astore m (.ptr id off) x H K = storeC H[id]? m id off x H K := by
  unfold astore storeC; rfl
theorem storeC_1 (es : List AV) (m id off : Nat) (x : AV) (H : List AObj) (K : List AObj → Prop) : storeC (some (.cells es)) m id off x H K = (x.val = true ∧ x.cells.length = m ∧ off + m ≤ es.length ∧ x.cells.all AV.one = true ∧ belowL (id + 1) (x.cells.map AV.unown) = true ∧
        K (H.set id (.cells (asplice es off (x.cells.map AV.unown))))) := _root_.id rfl
def lookupC (o : Option AObj) (kd : Nat) (zero k : AV) (ok : Bool) (φ : AV → Prop) : Prop :=
  match o with
  | some (.map es) => match afind kd k es 0 with
    | some (some (_, v)) => φ (if ok then .tuple [v.drop, .bool true] else v.drop)
    | some none => keyEq kd k k = some true ∧ φ (if ok then .tuple [canon zero, .bool false] else canon zero)
    | none => False
  | _ => False
@[congr] theorem lookupC_congr {o o' : Option AObj} {kd : Nat} {z k k' : AV} {ok : Bool} {φ : AV → Prop} (h : nrm o = o') (h2 : k = k') : lookupC o kd z k ok φ = lookupC o' kd z k' ok φ := by subst h; subst h2; rfl
theorem lookup_map (kd id : Nat) (z k : AV) (ok : Bool) (H : List AObj) (φ : AV → Prop) : alookup kd z (.map id) k ok H φ = lookupC H[id]? kd z k ok φ := by
  unfold alookup lookupC; rfl
def mapsetC (o : Option AObj) (kd id : Nat) (k x : AV) (H : List AObj) (K : List AObj → Prop) : Prop :=
  match o with
  | some (.map es) => k.blw (id + 1) = true ∧ x.blw (id + 1) = true ∧ x.val = true ∧ match afind kd k es 0 with
      | some (some (i, _)) => K (H.set id (.map (es.set i (k, canon x))))
      | some none => keyEq kd k k = some true ∧ K (H.set id (.map (es ++ [(k, canon x)])))
      | none => False
  | _ => False
@[congr] theorem mapsetC_congr {o o' : Option AObj} {kd id : Nat} {k k' x x' : AV} {H : List AObj} {K : List AObj → Prop} (h : nrm o = o') (h2 : k = k') (h3 : x = x') : mapsetC o kd id k x H K = mapsetC o' kd id k' x' H K := by subst h; subst h2; subst h3; rfl
theorem mapset_map (kd id : Nat) (k x : AV) (H : List AObj) (K : List AObj → Prop) : amapset kd (.map id) k x H K = mapsetC H[id]? kd id k x H K := by
  unfold amapset mapsetC; rfl
/-- A cell's list is taken out, to be put back. -/
def takeC (o : Option AObj) (d id off : Nat) (env : Env) (H : List AObj) (K : Env → List AObj → Prop) : Prop :=
  match o with
  | some (.cells es) => off < es.length ∧ K ((d, es.getD off .any) :: env) (H.set id (.cells (es.set off (es.getD off .any).unown)))
  | _ => False
@[congr] theorem takeC_congr {o o' : Option AObj} {d id off : Nat} {env : Env} {H : List AObj} {K : Env → List AObj → Prop} (h : nrm o = o') : takeC o d id off env H K = takeC o' d id off env H K := by subst h; rfl
theorem takeC_1 (es : List AV) (d id off : Nat) (env : Env) (H : List AObj) (K : Env → List AObj → Prop) : takeC (some (.cells es)) d id off env H K = (off < es.length ∧ K ((d, es.getD off .any) :: env) (H.set id (.cells (es.set off (es.getD off .any).unown)))) := _root_.id rfl
def takeV (v : AV) (d : Nat) (env : Env) (H : List AObj) (K : Env → List AObj → Prop) : Prop :=
  match v with
  | .ptr id off => takeC H[id]? d id off env H K
  | _ => False
@[congr] theorem takeV_congr {v v' : AV} {d : Nat} {env : Env} {H : List AObj} {K : Env → List AObj → Prop} (h : nrm v = v') : takeV v d env H K = takeV v' d env H K := by subst h; rfl
theorem takeV_p (id off d : Nat) (env : Env) (H : List AObj) (K : Env → List AObj → Prop) : takeV (.ptr id off) d env H K = takeC H[id]? d id off env H K := _root_.id rfl
theorem op_takeC {P : Program} (a : IX) (d : Nat) (env : Env) (H : List AObj) (K : Env → List AObj → Prop) : aop P (.takeCell a) (some d) env H K = takeV (aval env a) d env H K := by
  simp only [aop, takeV, takeC]
  cases aval env a <;> rfl
def putC (o : Option AObj) (id off : Nat) (x : AV) (H : List AObj) (K : List AObj → Prop) : Prop :=
  match o with
  | some (.cells es) => off < es.length ∧ x.one = true ∧ x.blw (id + 1) = true ∧ K (H.set id (.cells (es.set off x)))
  | _ => False
@[congr] theorem putC_congr {o o' : Option AObj} {id off : Nat} {x x' : AV} {H : List AObj} {K : List AObj → Prop} (h : nrm o = o') (h2 : x = x') : putC o id off x H K = putC o' id off x' H K := by subst h; subst h2; rfl
theorem put_ptr (id off : Nat) (x : AV) (H : List AObj) (K : List AObj → Prop) : aputCell (.ptr id off) x H K = putC H[id]? id off x H K := by
  unfold aputCell putC; rfl
theorem putC_1 (es : List AV) (id off : Nat) (x : AV) (H : List AObj) (K : List AObj → Prop) : putC (some (.cells es)) id off x H K = (off < es.length ∧ x.one = true ∧ x.blw (id + 1) = true ∧ K (H.set id (.cells (es.set off x)))) := _root_.id rfl
theorem bd2 (x y : AV) (φ : AV → Prop) : abuild [.int .i64 0, .int .i64 0, .nils] [(0, 1, x), (1, 1, y)] φ = (x.val = true ∧ x.cells.length = 1 ∧ y.val = true ∧ y.cells.length = 1 ∧ φ (.agg (asplice (asplice [.int .i64 0, .int .i64 0, .nils] 0 (x.cells.map AV.unown)) 1 (y.cells.map AV.unown)))) := by
  simp only [abuild, afill, eq_iff_iff]
  constructor
  · rintro ⟨h1, h2, h3, h4, h5, h6, h7⟩; exact ⟨h1, h2, h4, h5, h7⟩
  · rintro ⟨h1, h2, h4, h5, h7⟩
    have e1 : (x.cells.map AV.unown).length = 1 := by simpa using h2
    refine ⟨h1, h2, by simp, h4, h5, ?_, h7⟩
    simp [asplice, h2]
theorem bd0 (cs : List AV) (φ : AV → Prop) : abuild cs [] φ = φ (.agg cs) := _root_.id rfl
theorem ap_nils (e b : Nat) (ys : List AV) (o : Nat) (ψ : List AV → Prop) : aappend e b .nils (.lst o ys) ψ = (ys.length * b ≤ 140737488355328 ∧ okE e ys ∧ ψ ys) := by
  simp [aappend, alist, rlist]
theorem ap_lst (e b : Nat) (xs ys : List AV) (o : Nat) (ψ : List AV → Prop) : aappend e b (.lst e xs) (.lst o ys) ψ = ((xs.length + ys.length) * b ≤ 140737488355328 ∧ okE e ys ∧ ψ (xs ++ ys)) := by
  simp [aappend, alist, rlist]
theorem sl_t (n : Nat) : (IX.t n).slot = some n := _root_.id rfl
theorem sl_c (v : AV) : (IX.c v).slot = none := _root_.id rfl
theorem li_map (id : Nat) (H : List AObj) (φ : AV → Prop) : aload none (.iptr (.map id)) H φ = φ (.map id) := by simp [aload, AV.one, un_map]
theorem li_ptr (id off : Nat) (H : List AObj) (φ : AV → Prop) : aload none (.iptr (.ptr id off)) H φ = φ (.ptr id off) := by simp [aload, AV.one, un_ptr]
theorem on_bool (b : Bool) : (AV.bool b).one = true := _root_.id rfl
theorem on_int (k : IntKind) (n : Int) : (AV.int k n).one = true := _root_.id rfl
theorem on_str (s : ByteArray) : (AV.str s).one = true := _root_.id rfl
theorem on_lst (o : Nat) (xs : List AV) : (AV.lst o xs).one = true := _root_.id rfl
theorem on_nils : AV.nils.one = true := _root_.id rfl
theorem on_fn (f : Fn) (a b : List AV) : (AV.fn f a b).one = true := _root_.id rfl
theorem on_ptr (a b : Nat) : (AV.ptr a b).one = true := _root_.id rfl
theorem on_iptr (x : AV) : (AV.iptr x).one = true := _root_.id rfl
theorem on_map (a : Nat) : (AV.map a).one = true := _root_.id rfl
theorem all1 {α : Type} (p : α → Bool) (x : α) (r : List α) : (x :: r).all p = (p x && r.all p) := _root_.id rfl
theorem all0 {α : Type} (p : α → Bool) : ([] : List α).all p = true := _root_.id rfl
theorem wrap_in (n : Int) (h : -9223372036854775808 ≤ n ∧ n ≤ 9223372036854775807) : IntKind.i64.wrap n = n := by
  rw [show IntKind.i64.wrap n = (n + 9223372036854775808) % 18446744073709551616 - 9223372036854775808 from IntKind.wrap_i64 n]; omega
/-- A loop over numbers up to N, and a state. -/
theorem swp_loop_st {P : Program} {n0 : Nat} {env : Env} {H : List AObj} {Q : Exit → Env → List AObj → Prop} {a : IR} {ι : Type} (N : Nat) (I : Nat → ι → Prop) (se : Nat → ι → Env) (sh : Nat → ι → List AObj) (s0 : ι) (h0 : I 0 s0 ∧ sle n0 env H (se 0 s0) (sh 0 s0))
    (hs : ∀ i s, i ≤ N → I i s → swp P n0 a (se i s) (sh i s) fun e env' H' => match e with
      | .normal => ∃ j t, (j ≤ N ∧ I j t) ∧ N - j < N - i ∧ sle n0 env' H' (se j t) (sh j t)
      | e => Q e env' H') : swp P n0 (.loop a) env H Q :=
  ⟨Nat × ι, fun p => p.1 ≤ N ∧ I p.1 p.2, fun p => se p.1 p.2, fun p => sh p.1 p.2, fun p => N - p.1, ⟨(0, s0), ⟨Nat.zero_le _, h0.1⟩, h0.2⟩, fun p hp => swp_mono (hs p.1 p.2 hp.1 hp.2) fun x e H' h => by
    cases x with
    | normal => obtain ⟨j, t, h1, h2, h3⟩ := h; exact ⟨(j, t), h1, h2, h3⟩
    | _ => exact h⟩
/-! ### What is handed back -/
theorem ret0 {H : List AObj} {s : Nat} {v v' : AV} (hb : v.blw H.length = true) (hv : v = v') : aret H.length [.t s] [(s, v)] H fun r H' => r = v' ∧ H' = H :=
  aret_one _ (Nat.le_refl _) (by rw [gt_cons, if_pos rfl]; exact hb) ⟨by rw [gt_cons, if_pos rfl]; exact hv, by simp⟩
theorem ret1 {H e : List AObj} {s : Nat} {v v' : AV} (hb : v.blw H.length = true) (hv : v = v') : aret H.length [.t s] [(s, v)] (H ++ e) fun r H' => r = v' ∧ H' = H :=
  aret_one _ (Nat.le_refl _) (by rw [gt_cons, if_pos rfl]; exact hb) ⟨by rw [gt_cons, if_pos rfl]; exact hv, by simp⟩
/-- Told less of. -/
theorem ret0l {H : List AObj} {s : Nat} {v v' : AV} (hl : v.le v') (hb : v'.blw H.length = true) : aret H.length [.t s] [(s, v)] H fun r H' => r = v' ∧ H' = H :=
  ⟨H.length, Nat.le_refl _, _, by rw [gt_cons, if_pos rfl]; exact hl, hb, rfl, by simp⟩
theorem ret1l {H e : List AObj} {s : Nat} {v v' : AV} (hl : v.le v') (hb : v'.blw H.length = true) : aret H.length [.t s] [(s, v)] (H ++ e) fun r H' => r = v' ∧ H' = H :=
  ⟨H.length, Nat.le_refl _, _, by rw [gt_cons, if_pos rfl]; exact hl, hb, rfl, by simp⟩
/-- With objects that were there, and turned. -/
theorem ret2 {H H' : List AObj} {n0 s : Nat} {v v' : AV} (hn : n0 = H.length) (hb : v.blw n0 = true) (hv : v = v') (hl : H = H') : aret n0 [.t s] [(s, v)] H fun r H'' => r = v' ∧ H'' = H' := by
  subst hn hl; exact ret0 hb hv
/-- Of a function without results. -/
theorem ret_none {H H' : List AObj} {n0 : Nat} {env : Env} (hn : n0 = H.length) (hl : H = H') : aret n0 [] env H fun r H'' => r = .tuple [] ∧ H'' = H' := by
  subst hn hl
  exact ⟨H.length, Nat.le_refl _, [], trivial, rfl, rfl, by simp⟩
/-- Two results. -/
theorem ret22 {H e : List AObj} {s s' : Nat} {v v' x y : AV} (hs : s' ≠ s) (hb : x.blw H.length = true) (hb' : y.blw H.length = true) (hx : v.unown = x) (hy : v'.unown = y) :
    aret H.length [.t s, .t s'] [(s, v), (s', v')] (H ++ e) fun r H' => r = .tuple [x, y] ∧ H' = H := by
  subst hx hy
  refine ⟨H.length, Nat.le_refl _, [v.unown, v'.unown], ?_, ?_, rfl, by simp⟩
  · simp only [gt_cons, if_neg hs, if_true, List.map]
    exact LeL_refl _
  · simp only [belowL, hb, hb', Bool.and_self]
theorem ret20 {H : List AObj} {s s' : Nat} {v v' x y : AV} (hs : s' ≠ s) (hb : x.blw H.length = true) (hb' : y.blw H.length = true) (hx : v.unown = x) (hy : v'.unown = y) :
    aret H.length [.t s, .t s'] [(s, v), (s', v')] H fun r H' => r = .tuple [x, y] ∧ H' = H := by
  have := ret22 (e := []) hs hb hb' hx hy
  rw [List.append_nil] at this
  exact this
/-- What is handed back, out of a variable's cell. -/
def aret1 (n0 : Nat) (x : AV) (H : List AObj) (R : AV → List AObj → Prop) : Prop := ∃ m, n0 ≤ m ∧ ∃ r, x.le r ∧ r.blw m = true ∧ R r (H.take m)
@[congr] theorem aret1_congr {n0 : Nat} {x x' : AV} {H H' : List AObj} {R : AV → List AObj → Prop} (h : nrm x = x') (h2 : H = H') : aret1 n0 x H R = aret1 n0 x' H' R := by subst h; subst h2; rfl
def aret2 (n0 : Nat) (xs : List AV) (H : List AObj) (R : AV → List AObj → Prop) : Prop := ∃ m, n0 ≤ m ∧ ∃ ys, LeL (xs.map AV.unown) ys ∧ belowL m ys = true ∧ R (.tuple ys) (H.take m)
@[congr] theorem aret2_congr {n0 : Nat} {x x' : List AV} {H H' : List AObj} {R : AV → List AObj → Prop} (h : nrm x = x') (h2 : H = H') : aret2 n0 x H R = aret2 n0 x' H' R := by subst h; subst h2; rfl
theorem aret_c (n0 s : Nat) (sz : Option Nat) (env : Env) (H : List AObj) (R : AV → List AObj → Prop) : aret n0 [.c s sz] env H R = aload sz (get env s) H fun x => aret1 n0 x H R := _root_.id rfl
theorem aret_ct (n0 s s' : Nat) (sz : Option Nat) (env : Env) (H : List AObj) (R : AV → List AObj → Prop) : aret n0 [.c s sz, .t s'] env H R = aload sz (get env s) H fun x => aret2 n0 [x, get env s'] H R := _root_.id rfl
theorem ret1v {H e : List AObj} {v v' : AV} (hb : v.blw H.length = true) (hv : v = v') : aret1 H.length v (H ++ e) fun r H' => r = v' ∧ H' = H := by
  subst hv; exact ⟨H.length, Nat.le_refl _, v, le_refl _, hb, rfl, by simp⟩
theorem ret2v {H e : List AObj} {v w x y : AV} (hb : x.blw H.length = true) (hb' : y.blw H.length = true) (hx : v.unown = x) (hy : w.unown = y) : aret2 H.length [v, w] (H ++ e) fun r H' => r = .tuple [x, y] ∧ H' = H := by
  subst hx hy
  exact ⟨H.length, Nat.le_refl _, [v.unown, w.unown], LeL_refl _, by simp only [belowL, hb, hb', Bool.and_self], rfl, by simp⟩
theorem len_lt {i n : Nat} (h : (i : Int) < (n : Int)) : i < n := by omega
theorem len_nlt {i n : Nat} (h : (n : Int) ≤ (i : Int)) : n ≤ i := by omega
theorem nne {α : Type} {a b : α} (h : a = b) : ¬ a ≠ b := fun k => k h
/-- All steps, for simp. -/
def stepsS := (And.intro (And.intro (And.intro (And.intro (And.intro (And.intro (And.intro (And.intro @nrm_eq @swp_skip) (And.intro @swp_region @swp_draw)) (And.intro (And.intro @swp_seq @swp_cond) (And.intro @swp_block (And.intro @swp_exit @swp_ret)))) (And.intro (And.intro (And.intro @aops_nil @aops_n) (And.intro @aops_g @agd_n)) (And.intro (And.intro @agd_g @adtS_done) (And.intro @adtS_nil (And.intro @adtS_n @adtS_g))))) (And.intro (And.intro (And.intro (And.intro @adtS_br @put_none) (And.intro @put_some @gt_cons)) (And.intro (And.intro @gt_nil @op_bin) (And.intro @op_shift (And.intro @op_eqBool @op_eqNil)))) (And.intro (And.intro (And.intro @op_un @op_box) (And.intro @op_boxi (And.intro @op_boxs @op_alloc))) (And.intro (And.intro @op_build @op_buildSlice) (And.intro @op_load (And.intro @op_takeC @takeV_p)))))) (And.intro (And.intro (And.intro (And.intro (And.intro @takeC_1 @put_ptr) (And.intro @putC_1 @lookup_map)) (And.intro (And.intro @mapset_map @ap_nils) (And.intro @ap_lst (And.intro @li_map @li_ptr)))) (And.intro (And.intro (And.intro @sl_t @sl_c) (And.intro @aret_c (And.intro @aret_ct @bd0))) (And.intro (And.intro @bd2 @op_store) (And.intro @op_putCell (And.intro @op_nilCheck @op_fieldAddr))))) (And.intro (And.intro (And.intro (And.intro @op_field @op_indexAddr) (And.intro @op_indexStr @op_slice)) (And.intro (And.intro @op_copy @op_sliceStr) (And.intro @op_len (And.intro @op_append @op_mkarr)))) (And.intro (And.intro (And.intro @op_mkbuf @op_mkmap) (And.intro @op_lookup (And.intro @op_mapset @op_fn))) (And.intro (And.intro @op_extract @op_convInt) (And.intro @op_convStr (And.intro @op_bytesOf @op_strOf))))))) (And.intro (And.intro (And.intro (And.intro (And.intro (And.intro @op_mx @op_setf) (And.intro @op_set_n @op_set)) (And.intro (And.intro @op_take @op_takec) (And.intro @op_pick (And.intro @op_call @dv_set)))) (And.intro (And.intro (And.intro @dv_pick @dv_bin) (And.intro @dv_shift @dv_eqBool)) (And.intro (And.intro @dv_eqNil @dv_un) (And.intro @dv_boxi (And.intro @dv_build @dv_buildSlice))))) (And.intro (And.intro (And.intro (And.intro @dv_load_true @dv_load_false) (And.intro @dv_nilCheck @dv_fieldAddr)) (And.intro (And.intro @dv_field @dv_indexAddr) (And.intro @dv_indexStr (And.intro @dv_slice @dv_sliceStr)))) (And.intro (And.intro (And.intro @dv_len_true @dv_len_false) (And.intro @dv_lookup_true (And.intro @dv_lookup_false @dv_fn))) (And.intro (And.intro @dv_extract @dv_convInt) (And.intro @dv_mx (And.intro @dv_call @prune_none)))))) (And.intro (And.intro (And.intro (And.intro (And.intro @prune_nil @prune_cons) (And.intro @argEnv_nil @argEnv_cons)) (And.intro (And.intro @aval_t @aval_c) (And.intro @alenD_lst (And.intro @alenD_nils @alenD_str)))) (And.intro (And.intro (And.intro @alenD_arr @map_nil') (And.intro @map_cons' (And.intro @scond_t @scond_f))) (And.intro (And.intro @scond_n @scond_d) (And.intro @sg_tt (And.intro @sg_tf @sg_ft))))) (And.intro (And.intro (And.intro (And.intro @sg_ff @sg_u) (And.intro @sg_dt @sg_df)) (And.intro (And.intro @acall_s @scallD_fn) (And.intro @un_any (And.intro @un_bool @un_int)))) (And.intro (And.intro (And.intro @un_str @un_nils) (And.intro @un_lst (And.intro @un_arr @un_agg))) (And.intro (And.intro @un_tuple @un_ptr) (And.intro @un_iptr (And.intro @un_nilp @un_map)))))))) (And.intro (And.intro (And.intro (And.intro (And.intro (And.intro (And.intro @un_nilm @un_fn) (And.intro @un_nilf @ce_bool)) (And.intro (And.intro @ce_int @ce_str) (And.intro @ce_nils (And.intro @ce_lst @ce_agg)))) (And.intro (And.intro (And.intro @ce_fn @ce_nilf) (And.intro @ce_ptr @ce_iptr)) (And.intro (And.intro @ce_map @dr_bool) (And.intro @dr_int (And.intro @dr_str @dr_nils))))) (And.intro (And.intro (And.intro (And.intro @dr_lst @dr_agg) (And.intro @dr_fn @dr_nilf)) (And.intro (And.intro @dr_ptr @dr_iptr) (And.intro @dr_map (And.intro @va_bool @va_int)))) (And.intro (And.intro (And.intro @va_str @va_nils) (And.intro @va_lst (And.intro @va_agg @va_fn))) (And.intro (And.intro @va_nilf @va_ptr) (And.intro @va_iptr (And.intro @va_map @bw_bool)))))) (And.intro (And.intro (And.intro (And.intro (And.intro @bw_int @bw_str) (And.intro @bw_nils @bw_lst)) (And.intro (And.intro @bw_agg @bw_tuple) (And.intro @bw_ptr (And.intro @bw_map @bw_arr)))) (And.intro (And.intro (And.intro @bw_iptr @bw_fn) (And.intro @bw_nilf (And.intro @bl_nil @bl_cons))) (And.intro (And.intro @eb_nil @eb_cons) (And.intro @ab_add (And.intro @ab_sub @ab_mul))))) (And.intro (And.intro (And.intro (And.intro @ab_rem @ab_quo) (And.intro @ab_eql @ab_neq)) (And.intro (And.intro @ab_lss @ab_leq) (And.intro @ab_gtr (And.intro @ab_geq @as_eql)))) (And.intro (And.intro (And.intro @as_neq @as_add) (And.intro @au_not (And.intro @au_neg @ae_neq))) (And.intro (And.intro @ae_eql @bp_b) (And.intro @al_str (And.intro @al_nils @al_lst))))))) (And.intro (And.intro (And.intro (And.intro (And.intro (And.intro @al_arr @al_nilm) (And.intro @lo_str @lo_nils)) (And.intro (And.intro @lo_lst @lo_arr) (And.intro @lo_nilm (And.intro @lo_map @li_bool)))) (And.intro (And.intro (And.intro @li_int @li_str) (And.intro @li_lst @li_nils)) (And.intro (And.intro @li_fn @nc_ptr) (And.intro @nc_iptr (And.intro @ex_tuple @fa_ptr))))) (And.intro (And.intro (And.intro (And.intro @base_nil @base_c) (And.intro @base_t @base_f)) (And.intro (And.intro @base_p @pass_none) (And.intro @pass_c0 (And.intro @pass_c1 @pass_c2)))) (And.intro (And.intro (And.intro @pass_big0 @pass_big1) (And.intro @pass_big2 (And.intro @pass_big3 @pass_big4))) (And.intro (And.intro @unslot_none @unslot_some) (And.intro @ga0 (And.intro @ga @sa0)))))) (And.intro (And.intro (And.intro (And.intro (And.intro @sa @app2) (And.intro @len2 @g0)) (And.intro (And.intro @g1 @g2) (And.intro @s0 (And.intro @s1 @s2)))) (And.intro (And.intro (And.intro @d0 @d1) (And.intro @d2 (And.intro @sp1 @sp20))) (And.intro (And.intro @sp21 @sp30) (And.intro @sp31 (And.intro @sp32 @sp33))))) (And.intro (And.intro (And.intro (And.intro @mx_max @mx_min) (And.intro @loadC_3 @loadC_2)) (And.intro (And.intro @load_ptr @loadC_1) (And.intro @store_ptr (And.intro @storeC_1 @on_bool)))) (And.intro (And.intro (And.intro @on_int @on_str) (And.intro @on_lst (And.intro @on_nils @on_fn))) (And.intro (And.intro @on_ptr @on_iptr) (And.intro @on_map (And.intro @all1 @all0)))))))))
end Go.Abs
