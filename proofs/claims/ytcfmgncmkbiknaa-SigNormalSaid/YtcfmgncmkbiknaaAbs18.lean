/- A memory-free reading of the model's values (part 18): functions. -/
import Derived.Test.YtcfmgncmkbiknaaAbs17
set_option linter.unusedVariables false
set_option linter.unusedSimpArgs false
namespace Go.Abs
open Go

inductive RX where
  | t (s : Nat)
  | c (s : Nat) (sz : Option Nat)
  deriving Inhabited

def compR (P : Program) : ResultVar → Option RX
  | .tmp t => some (.t t)
  | .cell a t => (tsz P t).map (.c a)
def compRs (P : Program) : List ResultVar → Option (List RX)
  | [] => some []
  | r :: rs => match compR P r, compRs P rs with
    | some x, some xs => some (x :: xs)
    | _, _ => none

def ares : List RX → Env → List AObj → (List AV → Prop) → Prop
  | [], _, _, φ => φ []
  | .t s :: r, env, H, φ => ares r env H fun xs => φ (get env s :: xs)
  | .c s sz :: r, env, H, φ => aload sz (get env s) H fun x => ares r env H fun xs => φ (x :: xs)

/-- What a function hands back: objects that nothing speaks of are forgotten. -/
def aret (n0 : Nat) (rs : List RX) (env : Env) (H : List AObj) (R : AV → List AObj → Prop) : Prop :=
  ares rs env H fun xs => ∃ m, n0 ≤ m ∧ match xs with
    | [x] => ∃ r, x.le r ∧ r.blw m = true ∧ R r (H.take m)
    | xs => ∃ ys, LeL (xs.map AV.unown) ys ∧ belowL m ys = true ∧ R (.tuple ys) (H.take m)

def argEnv : Nat → List AV → Env
  | _, [] => []
  | k, x :: xs => (k, x) :: argEnv (k + 1) xs

theorem get_argEnv : ∀ (xs : List AV) (k t : Nat), get (argEnv k xs) t = if k ≤ t then xs.getD (t - k) .any else .any
  | [], k, t => by simp [argEnv, get]
  | x :: xs, k, t => by
    simp only [argEnv, get]
    split
    · rename_i e; subst e; simp
    · rename_i e
      rw [get_argEnv xs (k + 1) t]
      by_cases h : k + 1 ≤ t
      · have : t - k = (t - (k + 1)) + 1 := by omega
        rw [if_pos h, if_pos (by omega), this]; simp
      · rw [if_neg h, if_neg (by omega)]

section
variable {P : Program} {A : Nat → Prop} {n : Nat} {M : Mem} {L : List Nat} {w : World} {H : List AObj} {env : Env} {O : Pos → Option Nat} {a : Act}

def resG (tmps : Array Value) : ResultVar → Sem Value := fun
    | .tmp t => pure (tmps.getD t undef)
    | .cell a t => do loadVar t (← asAddr (tmps.getD a undef))

theorem run_results {fn : Func} {tmps : Array Value} {vs : List Value} (h : (fn.results.toList.mapM (resG tmps)).run P w = .ok vs w) :
    (results fn tmps).run P w = .ok (if h : vs.toArray.size = 1 then vs.toArray[0] else .tuple vs.toArray) w := by
  have e : (results fn tmps) = (do
    let vs ← fn.results.mapM (resG tmps)
    pure (if h : vs.size = 1 then vs[0] else .tuple vs)) := rfl
  rw [e, Array.mapM_eq_mapM_toList]
  simp only [Sem.run_bind, Sem.run_map, h]
  rfl

theorem run_res (hf : Fr A n M L w H env O a) : ∀ (rs : List ResultVar) (is : List RX), compRs P rs = some is → ∀ {φ : List AV → Prop}, ares is env H φ →
    ∃ vs xs, (rs.mapM (resG a.tmps)).run P w = .ok vs w ∧ φ xs ∧ RepL M L vs xs ∧ (∀ s, is = [.t s] → xs = [get env s] ∧ vs = [a.tmps.getD s undef]) ∧ (∀ s sz, is = [.c s sz] → ∀ x, xs = [x] → ∀ own ys, x = .lst own ys → own = 0)
  | [], is, hc, φ, h => by
    simp only [compRs] at hc; cases hc
    exact ⟨[], [], by simp, h, .nil, (by intro s e; cases e), (by intro s sz e; cases e)⟩
  | r :: rs, is, hc, φ, h => by
    unfold compRs at hc
    split at hc <;> cases hc
    rename_i x xs hx hxs
    cases r with
    | tmp t =>
      simp only [compR] at hx; cases hx
      simp only [ares] at h
      obtain ⟨vs, ys, h1, h2, h3, _⟩ := run_res hf rs xs hxs h
      refine ⟨a.tmps.getD t undef :: vs, get env t :: ys, ?_, h2, .cons _ _ _ _ (hf.st.env t) h3, ?_, ?_⟩
      · simp only [List.mapM_cons, Sem.run_bind, resG, Sem.run_pure, Result.andThen_ok, h1]
      · intro s e
        cases e
        cases rs with
        | nil =>
          cases h3 with
          | nil => exact ⟨rfl, rfl⟩
          | cons v x vs xs hh tt =>
            simp at h1
        | cons r rs =>
          unfold compRs at hxs
          split at hxs <;> cases hxs
      · intro s sz e; cases e
    | cell p t =>
      simp only [compR, Option.map_eq_some_iff] at hx
      obtain ⟨sz, hsz, rfl⟩ := hx
      simp only [ares] at h
      obtain ⟨r, z, k1, k2, k3, k4⟩ := aload_run (P := P) hsz hf.st h (hf.st.env p)
      obtain ⟨vs, ys, h1, h2, h3, _⟩ := run_res hf rs xs hxs k3
      refine ⟨r :: vs, z :: ys, ?_, h2, .cons _ _ _ _ k2 h3, ?_, ?_⟩
      · have hl : (do loadVar t (← asAddr (a.tmps.getD p undef)) : Sem Value).run P w = .ok r w := by
          have hrep := hf.st.env p
          revert k1 hrep
          generalize a.tmps.getD p undef = u
          intro k1 hrep
          unfold aload at h
          split at h
          · rename_i id off e
            rw [e] at hrep
            cases hrep
            exact k1
          · rename_i y e
            rw [e] at hrep
            cases hrep
            exact k1
          · exact h.elim
        have h1' : (List.mapM (resG a.tmps) rs).run P w = .ok vs w := h1
        simp only [List.mapM_cons, Sem.run_bind, resG] at hl ⊢
        rw [hl]
        simp only [Result.andThen_ok, h1']
        rfl
      · intro s e; cases e
      · intro s sz e x hx
        cases hx
        exact k4

theorem Spare.le' {v : Value} {x y : AV} {ob : Option Nat} (h : Rep M L v x) (hs : Spare M w v x ob) (hl : x.le y) : ∃ ob', Spare M w v y ob' ∧ (ob' = none ∨ ob' = ob) := hs.le h hl

/-- What is handed back, alone. -/
theorem St.ret0 {ev : Nat → Value} {ea : Nat → AV} (h : St A M L w H ev ea O) {v : Value} {x : AV} (hr : Rep M L v x) (ob : Option Nat) (hs : Spare M w v x ob)
    (h1 : ∀ id j b, ob = some b → O (.c id j) ≠ some b) (h2 : ∀ b, ob = some b → b ∉ L ∧ b < w.heap.size ∧ A b) {m : Nat} (hb : x.blw m = true) :
    ∃ O', St A M (L.take m) w (H.take m) (upd (fun _ => undef) 0 v) (upd (fun _ => .any) 0 x) O' := by
  have k1 := h.forArgs (fun _ => undef) (fun _ => .any) (fun _ => .any _) (fun _ _ _ e => by cases e)
  have k2 := k1.put 0 hr ob hs (fun p b hob hp => by
    cases p with
    | t t => cases hp
    | c id j => exact absurd hp (h1 id j b hob)) h2
  exact k2.cut m (fun t => by
    simp only [upd]
    split
    · exact hb
    · rfl)

theorem leL_rep : ∀ {vs : List Value} {xs ys : List AV}, RepL M L vs xs → LeL (xs.map AV.unown) ys → RepL M L vs ys
  | _, _, [], .nil, h => .nil
  | _, _, y :: ys, .nil, h => by simp [LeL] at h
  | _, _, [], .cons _ _ _ _ _ _, h => by simp [LeL] at h
  | _, _, y :: ys, .cons _ _ _ _ h1 h2, h => by
    simp only [List.map_cons, LeL] at h
    exact .cons _ _ _ _ (h1.unown.le h.1) (leL_rep h2 h.2)

/-- A contract out of a function's body. -/
theorem acalls_of {f : FuncId} {fn : Func} {c : Code} {an : Ann} {lv : Lives} {pl : Plans} {ir : IR} {rs : List RX} {args : List AV} {R : AV → List AObj → Prop}
    (hf : P.funcs[f]? = some fn) (hcall : ∀ (as : Array Value) (w : World), (callFunc f as).run P w = .ok (.enter f as) w) (hb : fn.body = some c) (hc : comp P an lv pl fn.ntmps c = some ir) (hrs : compRs P fn.results.toList = some rs)
    (hn : args.length ≤ fn.ntmps) (h : awp P H.length ir (argEnv 0 args) H fun e env H' => (e = .normal ∨ e = .ret) ∧ aret H.length rs env H' R) : ACalls P f args H R := by
  refine fun A M L w vs O hs hst => .inl ⟨hcall _ _, calls_of_wp hf hb ?_⟩
  have hfr : Fr A fn.ntmps M L w H (argEnv 0 args) O { tmps := vs ++ Array.replicate (fn.ntmps - vs.size) undef, defers := [] } := by
    refine ⟨hst.congr ?_ ?_, by simp; omega, rfl⟩
    · intro t
      simp only [Array.getD_eq_getD_getElem?]
      by_cases ht : t < vs.size
      · rw [Array.getElem?_append_left ht]
      · rw [Array.getElem?_append_right (by omega), Array.getElem?_eq_none (xs := vs) (by omega), Array.getElem?_replicate]
        split <;> rfl
    · intro t
      rw [get_argEnv]; simp
  rw [← hst.len] at h
  refine Go.wp_mono (sound' (L0 := L) c ir hc h hfr (Ext.refl A M w) (List.prefix_refl L)) ?_
  rintro e a w' ⟨M', L', H', env, O', ⟨he, hret⟩, hfr', hext, hL⟩
  have goal : a.defers = [] ∧ ∃ v, (results fn a.tmps).run P w' = .ok v w' ∧ ∃ v' r H'' M'' L'' O'', Ending.returned v = .returned v' ∧ R r H'' ∧ St A M'' L'' w' H'' (upd (fun _ => undef) 0 v') (upd (fun _ => .any) 0 r) O'' ∧ Ext A M w M'' w' ∧ L <+: L'' := by
    refine ⟨hfr'.defers, ?_⟩
    unfold aret at hret
    obtain ⟨us, xs, k1, ⟨m, hm, k2⟩, k3, k4, k5⟩ := run_res (P := P) hfr' _ _ hrs hret
    have hpre : L <+: L'.take m := by
      obtain ⟨r, rfl⟩ := hL
      exact ⟨r.take (m - L.length), by rw [List.take_append, List.take_of_length_le hm]⟩
    have hrun := run_results k1
    split at k2
    · rename_i x
      obtain ⟨r, hle, hb, hR⟩ := k2
      cases k3 with
      | cons v _ _ _ hv ht =>
      cases ht
      refine ⟨v, by simpa using hrun, v, r, H'.take m, M', L'.take m, ?_⟩
      have hown : ∃ ob, Spare M' w' v x ob ∧ (∀ id j b, ob = some b → O' (.c id j) ≠ some b) ∧ (∀ b, ob = some b → b ∉ L' ∧ b < w'.heap.size ∧ A b) := by
        match rs, hrs, k4, k5 with
        | [], hrs, _, _ =>
          unfold compRs at hrs
          split at hrs
          · rename_i e
            rw [e] at k1
            simp at k1
          · split at hrs <;> cases hrs
        | [.t s], _, k4, _ =>
          obtain ⟨e1, e2⟩ := k4 s rfl
          cases e1; cases e2
          refine ⟨O' (.t s), hfr'.st.spt s, fun id j b hb hc => ?_, fun b hb => ⟨hfr'.st.osep _ b hb, hfr'.st.olt _ b hb, hfr'.st.Oa _ b hb⟩⟩
          exact absurd (hfr'.st.oinj _ _ b hb hc) (by intro e; cases e)
        | [.c s sz], _, _, k5 =>
          exact ⟨none, Spare.free (k5 s sz rfl x rfl), (fun _ _ _ e => by cases e), (fun _ e => by cases e)⟩
        | r1 :: r2 :: rs, hrs, _, _ =>
          unfold compRs at hrs
          split at hrs
          · cases hrs
          · split at hrs <;> cases hrs
            rename_i h1 h2
            unfold compRs at h2
            split at h2
            · cases h2
            · rename_i e
              rw [e] at k1
              simp only [List.mapM_cons, Sem.run_bind] at k1
              revert k1
              generalize hg1 : (resG a.tmps _).run P w' = g1
              cases g1 <;> simp
              generalize hg2 : (resG a.tmps _).run P _ = g2
              cases g2 <;> simp
              generalize hg3 : (List.mapM (resG a.tmps) _).run P _ = g3
              cases g3 <;> simp
      obtain ⟨ob, o1, o2, o3⟩ := hown
      obtain ⟨ob', p1, p2⟩ := o1.le hv hle
      obtain ⟨O'', hst'⟩ := hfr'.st.ret0 (hv.le hle) ob' p1 (fun id j b hb => by
        rcases p2 with rfl | rfl
        · cases hb
        · exact o2 id j b hb) (fun b hb => by
        rcases p2 with rfl | rfl
        · cases hb
        · exact o3 b hb) hb
      exact ⟨O'', rfl, hR, hst', hext, hpre⟩
    · rename_i hne
      obtain ⟨ys, hle, hb, hR⟩ := k2
      have hlen : us.toArray.size ≠ 1 := by
        have := k3.length
        intro e
        simp at e
        rw [e] at this
        match xs, this with
        | [x], _ => exact hne x rfl
      rw [dif_neg hlen] at hrun
      refine ⟨.tuple us.toArray, hrun, .tuple us.toArray, .tuple ys, H'.take m, M', L'.take m, ?_⟩
      obtain ⟨O'', hst'⟩ := hfr'.st.ret0 (.tuple _ _ (leL_rep k3 hle)) none (Spare.free (by intro _ _ e; cases e)) (fun _ _ _ e => by cases e) (fun _ e => by cases e) (m := m) hb
      exact ⟨O'', rfl, hR, hst', hext, hpre⟩
  rcases he with rfl | rfl
  · exact goal
  · exact goal
end
end Go.Abs
