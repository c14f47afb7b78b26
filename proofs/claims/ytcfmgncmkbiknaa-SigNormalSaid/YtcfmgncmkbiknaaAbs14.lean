/- A memory-free reading of the model's values (part 14): statements whose order is open are right. -/
import Derived.Test.YtcfmgncmkbiknaaAbs13
set_option linter.unusedVariables false
set_option linter.unusedSimpArgs false
namespace Go.Abs
open Go

section
variable {φ ψ : AV → Prop} (hm : ∀ z, φ z → ψ z)
include hm
theorem abin_mono {op : BinOp} {x y : AV} (h : abin op x y φ) : abin op x y ψ := by
  unfold abin at *
  split at h <;> (try exact h.elim)
  · obtain ⟨h0, h⟩ := h
    refine ⟨h0, ?_⟩
    split at h <;> first | exact hm _ h | exact ⟨h.1, hm _ h.2⟩ | exact h.elim
  · split at h <;> first | exact hm _ h | exact ⟨h.1, hm _ h.2⟩ | exact h.elim
theorem ashift_mono {op : BinOp} {x y : AV} (h : ashift op x y φ) : ashift op x y ψ := by
  unfold ashift at *
  split at h <;> (try exact h.elim)
  obtain ⟨h0, h⟩ := h
  refine ⟨h0, ?_⟩
  split at h <;> first | exact hm _ h | exact h.elim
theorem aeqBool_mono {neq : Bool} {x y : AV} (h : aeqBool neq x y φ) : aeqBool neq x y ψ := by
  unfold aeqBool at *
  split at h <;> first | exact hm _ h | exact h.elim
theorem aeqNil_mono {kd : Nat} {neq : Bool} {x : AV} (h : aeqNil kd neq x φ) : aeqNil kd neq x ψ := by
  unfold aeqNil at *
  split at h
  · exact hm _ h
  · split at h
    · exact ⟨hm _ h.1, hm _ h.2⟩
    · exact h.elim
theorem aun_mono {op : UnOp} {x : AV} (h : aun op x φ) : aun op x ψ := by
  unfold aun at *
  split at h <;> first | exact hm _ h | exact h.elim
theorem aload_mono {sz : Option Nat} {x : AV} {H : List AObj} (h : aload sz x H φ) : aload sz x H ψ := by
  unfold aload at *
  split at h <;> (try exact h.elim) <;> (split at h <;> (try exact h.elim)) <;> first | exact ⟨h.1, hm _ h.2⟩ | (split at h <;> exact ⟨h.1, hm _ h.2⟩)
theorem apart_mono {off : Nat} {sz : Option Nat} {xs : List AV} (h : apart off sz xs φ) : apart off sz xs ψ := by
  unfold apart at *
  split at h <;> first | exact ⟨h.1, hm _ h.2⟩ | exact ⟨h.1, h.2.1, hm _ h.2.2⟩
theorem afield_mono {off : Nat} {sz : Option Nat} {x : AV} (h : afield off sz x φ) : afield off sz x ψ := by
  unfold afield apart at *
  split at h <;> (try exact h.elim)
  split at h <;> first | exact ⟨h.1, hm _ h.2⟩ | exact ⟨h.1, h.2.1, hm _ h.2.2⟩
theorem afieldAddr_mono {off : Nat} {sz : Option Nat} {x : AV} (h : afieldAddr off sz x φ) : afieldAddr off sz x ψ := by
  unfold afieldAddr apart at *
  split at h <;> (try exact h.elim)
  · exact hm _ h
  · split at h <;> first | exact ⟨h.1, hm _ h.2⟩ | exact ⟨h.1, h.2.1, hm _ h.2.2⟩
theorem aindexAddr_mono {esz : Nat} {x i : AV} (h : aindexAddr esz x i φ) : aindexAddr esz x i ψ := by
  unfold aindexAddr at *
  split at h <;> first | exact ⟨h.1, h.2.1, hm _ h.2.2⟩ | exact h.elim
theorem aindexStr_mono {x i : AV} (h : aindexStr x i φ) : aindexStr x i ψ := by
  unfold aindexStr at *
  split at h <;> first | exact ⟨h.1, h.2.1, hm _ h.2.2⟩ | exact h.elim
theorem alen_mono {x : AV} {H : List AObj} (h : alen x H φ) : alen x H ψ := by
  unfold alen at *
  split at h <;> (try exact h.elim) <;> (try exact hm _ h)
  · exact fun hl => hm _ (h hl)
  · split at h <;> first | exact hm _ h | exact h.elim
theorem aextract_mono {x : AV} {i : Nat} (h : aextract x i φ) : aextract x i ψ := by
  unfold aextract at *
  split at h <;> first | exact ⟨h.1, hm _ h.2⟩ | exact h.elim
theorem anilCheck_mono {x : AV} (h : anilCheck x φ) : anilCheck x ψ := by
  unfold anilCheck at *
  split at h <;> first | exact hm _ h | exact h.elim
theorem aconvInt_mono {k : IntKind} {x : AV} (h : aconvInt k x φ) : aconvInt k x ψ := by
  unfold aconvInt at *
  split at h <;> first | exact hm _ h | exact h.elim
theorem amx_mono {big : Bool} {x y : AV} (h : amx big x y φ) : amx big x y ψ := by
  unfold amx at *
  split at h <;> first | exact hm _ h | exact h.elim
theorem aconvStr_mono {x : AV} (h : aconvStr x φ) : aconvStr x ψ := by
  unfold aconvStr at *
  split at h <;> first | exact hm _ h | exact h.elim
theorem abytesOf_mono {own : Nat} {x : AV} (h : abytesOf own x φ) : abytesOf own x ψ := by
  unfold abytesOf at *
  split at h <;> first | exact ⟨h.1, hm _ h.2⟩ | exact h.elim
theorem astrOf_mono {x : AV} (h : astrOf x φ) : astrOf x ψ := by
  unfold astrOf at *
  split at h <;> first | exact hm _ h | exact ⟨_, h.choose_spec.1, hm _ h.choose_spec.2⟩ | (obtain ⟨l, h1, h2⟩ := h; exact ⟨l, h1, hm _ h2⟩) | exact ⟨h.1, hm _ h.2⟩ | exact h.elim
theorem amkbuf_mono {esz bytes : Nat} {n : AV} (h : amkbuf esz bytes n φ) : amkbuf esz bytes n ψ := by
  unfold amkbuf at *
  split at h <;> first | exact ⟨h.1, h.2.1, hm _ h.2.2⟩ | exact h.elim
theorem alookup_mono {kd : Nat} {z m k : AV} {ok : Bool} {H : List AObj} (h : alookup kd z m k ok H φ) : alookup kd z m k ok H ψ := by
  unfold alookup at *
  split at h <;> (try exact h.elim) <;> first | exact hm _ h | exact ⟨h.1, hm _ h.2⟩ | (split at h <;> (try exact h.elim) <;> first | exact hm _ h | exact ⟨h.1, hm _ h.2⟩ | (split at h <;> (try exact h.elim) <;> first | exact hm _ h | exact ⟨h.1, hm _ h.2⟩))
end
theorem aidx_mono {x : Option AV} {d : Nat} {φ ψ : Nat → Prop} (hm : ∀ k, φ k → ψ k) (h : aidx x d φ) : aidx x d ψ := by
  unfold aidx at *
  split at h <;> first | exact hm _ h | exact ⟨h.1, hm _ h.2⟩ | exact h.elim
theorem aslice_mono {esz : Nat} {x : AV} {lo hi mx : Option AV} {φ ψ : AV → Prop} (hm : ∀ z, φ z → ψ z) (h : aslice esz x lo hi mx φ) : aslice esz x lo hi mx ψ := by
  unfold aslice at *
  split at h <;> (try exact h.elim)
  refine aidx_mono (fun k h => aidx_mono (fun l h => ⟨h.1, h.2.1, ?_⟩) h) h
  obtain ⟨_, _, h⟩ := h
  split at h
  · exact hm _ h
  · exact ⟨h.1, aidx_mono (fun m h => ⟨h.1, h.2.1, hm _ h.2.2⟩) h.2⟩
theorem asliceX_mono {esz : Nat} {x : AV} {lo hi mx : Option AV} {φ ψ : AV → Prop} (hm : ∀ z, φ z → ψ z) (h : asliceX esz x lo hi mx φ) : asliceX esz x lo hi mx ψ := by
  unfold asliceX aslicea at *
  split at h
  · exact ⟨h.1, aidx_mono (fun k h => aidx_mono (fun l h => ⟨h.1, h.2.1, hm _ h.2.2⟩) h) h.2⟩
  · exact ⟨h.1, aslice_mono hm h.2⟩
theorem asliceStr_mono {x : AV} {lo hi : Option AV} {φ ψ : AV → Prop} (hm : ∀ z, φ z → ψ z) (h : asliceStr x lo hi φ) : asliceStr x lo hi ψ := by
  unfold asliceStr at *
  split at h <;> (try exact h.elim)
  exact aidx_mono (fun k h => aidx_mono (fun l h => ⟨h.1, h.2.1, hm _ h.2.2⟩) h) h
theorem afill_mono {φ ψ : List AV → Prop} (hm : ∀ z, φ z → ψ z) : ∀ {ps : List (Nat × Nat × AV)} {zs : List AV}, afill zs ps φ → afill zs ps ψ
  | [], zs, h => hm _ h
  | (off, sz, x) :: r, zs, h => ⟨h.1, h.2.1, h.2.2.1, afill_mono hm h.2.2.2⟩
theorem abslice_mono {esz : Nat} {φ ψ : List AV → Prop} (hm : ∀ z, φ z → ψ z) : ∀ {ps : List (Nat × AV)} {zs : List AV}, abslice zs esz ps φ → abslice zs esz ps ψ
  | [], zs, h => hm _ h
  | (i, x) :: r, zs, h => ⟨h.1, h.2.1, h.2.2.1, abslice_mono hm h.2.2.2⟩

def updO (τ : Nat → AV) (dst : Option Nat) (x : AV) : Nat → AV := match dst with | some d => upd τ d x | none => τ
theorem get_put (env : Env) (dst : Option Nat) (x : AV) : get (put dst x env) = updO (get env) dst x := by cases dst <;> rfl

theorem opt_look {lo : Option IX} {env : Env} {ρ : IX → AV} (h : ∀ i ∈ lo.toList, aval env i = ρ i) : lo.map ρ = optX env lo := by
  cases lo with
  | none => rfl
  | some i => simp [optX, h i (by simp)]

theorem map_look {is : List IX} {env : Env} {ρ : IX → AV} (h : ∀ i ∈ is, aval env i = ρ i) (g : AV → AV) : (is.map fun x => g (aval env x)) = is.map fun x => g (ρ x) := by
  apply List.map_congr_left
  intro i hi
  rw [h i hi]

theorem baseArgs_no (env : Env) : ∀ (is : List IX) (j : Nat), baseArgs env none j is = is.map fun x => (aval env x).unown
  | [], _ => rfl
  | .t s :: r, j => by simp [baseArgs, baseArgs_no env r, aval]
  | .c v :: r, j => by simp [baseArgs, baseArgs_no env r, aval]

theorem le_unown (z : AV) : z.le z.unown := by
  cases z <;> first | exact le_refl _ | exact .inr (.inr (.inl ⟨_, _, rfl, rfl⟩))

theorem dval_aop {P : Program} {o : IOp} {dst : Option Nat} {ρ : IX → AV} {env : Env} {H : List AObj} {x : AV} (h : dval P o ρ H x) (hρ : ∀ i ∈ o.all, aval env i = ρ i) :
    aop P o dst env H fun e h => h = H ∧ get e = get (put dst x env) := by
  have key : ∀ z, z = x → (H = H ∧ get (put dst z env) = get (put dst x env)) := fun z e => ⟨rfl, e ▸ rfl⟩
  cases o with
  | set i take =>
    cases take with
    | true => exact h.elim
    | false =>
      simp only [dval, IOp.all, List.mem_singleton, forall_eq] at h hρ
      rw [← hρ] at h
      unfold aop
      cases dst with
      | none => exact ⟨rfl, rfl⟩
      | some d =>
        subst h
        refine ⟨rfl, ?_⟩
        cases i <;> rfl
  | pick c a b =>
    simp only [dval, IOp.all, List.mem_cons, List.not_mem_nil, or_false, forall_eq_or_imp, forall_eq] at h hρ
    obtain ⟨h1, h2, h3⟩ := hρ
    rw [← h1, ← h2, ← h3] at h
    obtain ⟨q, hq, h⟩ := boolP_inv h
    show boolP (aval env c) _
    rw [hq]
    exact ⟨fun e => key _ (h.1 e), fun e => key _ (h.2 e)⟩
  | bin op i j =>
    simp only [dval, IOp.all, List.mem_cons, List.not_mem_nil, or_false, forall_eq_or_imp, forall_eq] at h hρ
    obtain ⟨h1, h2⟩ := hρ
    rw [← h1, ← h2] at h
    exact abin_mono key h
  | shift op i j =>
    simp only [dval, IOp.all, List.mem_cons, List.not_mem_nil, or_false, forall_eq_or_imp, forall_eq] at h hρ
    obtain ⟨h1, h2⟩ := hρ
    rw [← h1, ← h2] at h
    exact ashift_mono key h
  | eqBool neq i j =>
    simp only [dval, IOp.all, List.mem_cons, List.not_mem_nil, or_false, forall_eq_or_imp, forall_eq] at h hρ
    obtain ⟨h1, h2⟩ := hρ
    rw [← h1, ← h2] at h
    exact aeqBool_mono key h
  | mx big i j =>
    simp only [dval, IOp.all, List.mem_cons, List.not_mem_nil, or_false, forall_eq_or_imp, forall_eq] at h hρ
    obtain ⟨h1, h2⟩ := hρ
    rw [← h1, ← h2] at h
    exact amx_mono key h
  | indexAddr esz i j =>
    simp only [dval, IOp.all, List.mem_cons, List.not_mem_nil, or_false, forall_eq_or_imp, forall_eq] at h hρ
    obtain ⟨h1, h2⟩ := hρ
    rw [← h1, ← h2] at h
    exact ⟨h.1, aindexAddr_mono key h.2⟩
  | indexStr i j =>
    simp only [dval, IOp.all, List.mem_cons, List.not_mem_nil, or_false, forall_eq_or_imp, forall_eq] at h hρ
    obtain ⟨h1, h2⟩ := hρ
    rw [← h1, ← h2] at h
    exact aindexStr_mono key h
  | lookup kd z i j ok =>
    simp only [dval, IOp.all, List.mem_cons, List.not_mem_nil, or_false, forall_eq_or_imp, forall_eq] at h hρ
    obtain ⟨h1, h2⟩ := hρ
    rw [← h1, ← h2] at h
    exact alookup_mono key h
  | eqNil kd neq i =>
    simp only [dval, IOp.all, List.mem_singleton, forall_eq] at h hρ
    rw [← hρ] at h
    exact aeqNil_mono key h
  | un op i =>
    simp only [dval, IOp.all, List.mem_singleton, forall_eq] at h hρ
    rw [← hρ] at h
    exact aun_mono key h
  | boxi i =>
    simp only [dval, IOp.all, List.mem_singleton, forall_eq] at h hρ
    rw [← hρ] at h
    exact ⟨h.1, key _ h.2⟩
  | load sz i =>
    simp only [dval, IOp.all, List.mem_singleton, forall_eq] at h hρ
    rw [← hρ] at h
    exact aload_mono key h
  | nilCheck i =>
    simp only [dval, IOp.all, List.mem_singleton, forall_eq] at h hρ
    rw [← hρ] at h
    exact anilCheck_mono key h
  | fieldAddr off sz i =>
    simp only [dval, IOp.all, List.mem_singleton, forall_eq] at h hρ
    rw [← hρ] at h
    exact afieldAddr_mono key h
  | field off sz i =>
    simp only [dval, IOp.all, List.mem_singleton, forall_eq] at h hρ
    rw [← hρ] at h
    exact afield_mono key h
  | len kd i =>
    simp only [dval, IOp.all, List.mem_singleton, forall_eq] at h hρ
    rw [← hρ] at h
    exact ⟨h.1, alen_mono key h.2⟩
  | extract i k =>
    simp only [dval, IOp.all, List.mem_singleton, forall_eq] at h hρ
    rw [← hρ] at h
    exact aextract_mono key h
  | convInt k i =>
    simp only [dval, IOp.all, List.mem_singleton, forall_eq] at h hρ
    rw [← hρ] at h
    exact aconvInt_mono key h
  | convStr i =>
    simp only [dval, IOp.all, List.mem_singleton, forall_eq] at h hρ
    rw [← hρ] at h
    exact aconvStr_mono key h
  | bytesOf i =>
    simp only [dval, IOp.all, List.mem_singleton, forall_eq] at h hρ
    rw [← hρ] at h
    exact abytesOf_mono key h
  | mkbuf esz bytes i =>
    simp only [dval, IOp.all, List.mem_singleton, forall_eq] at h hρ
    rw [← hρ] at h
    exact amkbuf_mono key h
  | strOf i =>
    simp only [dval, IOp.all, List.mem_singleton, forall_eq] at h hρ
    rw [← hρ] at h
    exact astrOf_mono key h
  | build z ps =>
    simp only [dval, IOp.all] at h hρ
    have : (ps.map fun q => (q.1, q.2.1, aval env q.2.2)) = ps.map fun q => (q.1, q.2.1, ρ q.2.2) :=
      List.map_congr_left fun q hq => by rw [hρ _ (List.mem_map.2 ⟨q, hq, rfl⟩)]
    show abuild z.cells (ps.map fun q => (q.1, q.2.1, aval env q.2.2)) (fun v => H = H ∧ get (put dst v env) = get (put dst x env))
    rw [this]
    exact afill_mono (fun v h => key _ h) h
  | buildSlice own esz z len ps =>
    simp only [dval, IOp.all] at h hρ
    have : (ps.map fun q => (q.1, aval env q.2)) = ps.map fun q => (q.1, ρ q.2) :=
      List.map_congr_left fun q hq => by rw [hρ _ (List.mem_map.2 ⟨q, hq, rfl⟩)]
    show abslice _ _ (ps.map fun q => (q.1, aval env q.2)) _
    rw [this]
    exact abslice_mono (fun v h => key (.lst own v) h) h
  | slice esz i lo hi mx =>
    simp only [dval, IOp.all, List.mem_cons, List.mem_append, forall_eq_or_imp] at h hρ
    obtain ⟨h1, h2⟩ := hρ
    rw [← h1, opt_look (fun i hi => h2 i (.inl (.inl hi))), opt_look (fun i hi => h2 i (.inl (.inr hi))), opt_look (fun i hi => h2 i (.inr hi))] at h
    exact asliceX_mono key h
  | sliceStr i lo hi =>
    simp only [dval, IOp.all, List.mem_cons, List.mem_append, forall_eq_or_imp] at h hρ
    obtain ⟨h1, h2⟩ := hρ
    rw [← h1, opt_look (fun i hi => h2 i (.inl hi)), opt_look (fun i hi => h2 i (.inr hi))] at h
    exact asliceStr_mono key h
  | fn f first cap =>
    simp only [dval, IOp.all, List.mem_append] at h hρ
    refine key _ ?_
    rw [map_look (fun i hi => hρ i (.inl hi)) AV.unown, map_look (fun i hi => hρ i (.inr hi)) AV.unown]
    exact h
  | call f args pass =>
    cases pass with
    | some _ => exact h.elim
    | none =>
      simp only [dval, IOp.all, List.mem_cons, forall_eq_or_imp] at h hρ
      obtain ⟨h1, h2⟩ := hρ
      rw [← h1] at h
      split at h <;> try exact h.elim
      rename_i g first cap hg
      show acall P (aval env f) args none env H (fun r env' H' => H' = H ∧ get (put dst r env') = get (put dst x env))
      rw [hg]
      obtain ⟨args', hl, hcall⟩ := h
      refine ⟨args', ?_, hcall.mono ?_⟩
      · rw [baseArgs_no, map_look h2 AV.unown]; exact hl
      · rintro r H' ⟨hr, rfl⟩
        exact key r hr
  | _ => exact h.elim

end Go.Abs
