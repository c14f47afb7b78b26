/- A memory-free reading of the model's values (part 21): code that is run. -/
import Derived.Test.YtcfmgncmkbiknaaAbs20
set_option linter.unusedVariables false
set_option linter.unusedSimpArgs false
namespace Go.Abs
open Go

structure FunI where
  n : Nat
  ir : IR
  rs : List RX
  deriving Inhabited
inductive Ent where
  | ir (fi : FunI)
  | prim (g : List AV → Option AV)

/-- What is known of a function. -/
structure FunOk (P : Program) (f : FuncId) (fi : FunI) : Prop where
  call : ∀ (as : Array Value) (w : World), (callFunc f as).run P w = .ok (.enter f as) w
  code : ∃ fn c an lv pl, P.funcs[f]? = some fn ∧ fn.body = some c ∧ fn.ntmps = fi.n ∧ comp P an lv pl fn.ntmps c = some fi.ir ∧ compRs P fn.results.toList = some fi.rs

theorem FunOk.acalls {P : Program} {f : FuncId} {fi : FunI} (h : FunOk P f fi) {args : List AV} {H : List AObj} {R : AV → List AObj → Prop} (hn : args.length ≤ fi.n)
    (hw : awp P H.length fi.ir (argEnv 0 args) H fun e env H' => (e = .normal ∨ e = .ret) ∧ aret H.length fi.rs env H' R) : ACalls P f args H R := by
  obtain ⟨fn, c, an, lv, pl, h1, h2, h3, h4, h5⟩ := h.code
  exact acalls_of h1 h.call h2 h4 h5 (by omega) hw

def EntOk (P : Program) (f : FuncId) : Ent → Prop
  | .ir fi => FunOk P f fi
  | .prim g => ∀ args r H, g args = some r → ACalls P f args H fun r' H' => r' = r ∧ H' = H

abbrev Tab := List (Nat × Ent)
def Tab.find : Tab → Nat → Option Ent
  | [], _ => none
  | (k, e) :: r, f => match Nat.beq k f with | true => some e | false => Tab.find r f
def TabOk (P : Program) : Tab → Prop
  | [] => True
  | (k, e) :: r => EntOk P k e ∧ TabOk P r
theorem Tab.find_ok {P : Program} : ∀ {T : Tab} {f : Nat} {e : Ent}, TabOk P T → T.find f = some e → EntOk P f e
  | [], _, _, _, h => by simp [Tab.find] at h
  | (k, e') :: r, f, e, hT, h => by
    simp only [Tab.find] at h
    split at h
    · rename_i hk
      cases h
      rw [← Nat.eq_of_beq_eq_true hk]
      exact hT.1
    · exact Tab.find_ok hT.2 h

def aresE : List RX → Env → List AObj → Option (List AV)
  | [], _, _ => some []
  | .t s :: r, env, H => match aresE r env H with | some xs => some (get env s :: xs) | none => none
  | .c s sz :: r, env, H => match aloadE sz (get env s) H, aresE r env H with | some x, some xs => some (x :: xs) | _, _ => none

theorem aresE_s : ∀ {rs : List RX} {env : Env} {H : List AObj} {xs : List AV} {φ : List AV → Prop}, aresE rs env H = some xs → φ xs → ares rs env H φ
  | [], env, H, xs, φ, h, hφ => by simp only [aresE] at h; cases h; exact hφ
  | .t s :: r, env, H, xs, φ, h, hφ => by
    simp only [aresE] at h
    split at h <;> cases h
    rename_i ys hy
    exact aresE_s (φ := fun xs => φ (get env s :: xs)) hy hφ
  | .c s sz :: r, env, H, xs, φ, h, hφ => by
    simp only [aresE] at h
    split at h <;> cases h
    rename_i x ys hx hy
    exact aloadE_s (φ := fun x => ares r env H fun xs => φ (x :: xs)) hx (aresE_s (φ := fun xs => φ (x :: xs)) hy hφ)

def retCut (n0 n : Nat) (b : Bool) : Nat := if b = true then n0 else n
def retE (n0 : Nat) (rs : List RX) (env : Env) (H : List AObj) : Option (AV × List AObj) :=
  match aresE rs env H with
  | some [x] => if n0 ≤ H.length ∧ x.blw (retCut n0 H.length (x.blw n0)) = true then some (x, H.take (retCut n0 H.length (x.blw n0))) else none
  | some xs => if n0 ≤ H.length ∧ belowL (retCut n0 H.length (belowL n0 (xs.map AV.unown))) (xs.map AV.unown) = true then some (.tuple (xs.map AV.unown), H.take (retCut n0 H.length (belowL n0 (xs.map AV.unown)))) else none
  | none => none

theorem retCut_le {n0 n : Nat} {b : Bool} (h : n0 ≤ n) : n0 ≤ retCut n0 n b := by
  unfold retCut; split <;> omega

theorem retE_s {n0 : Nat} {rs : List RX} {env : Env} {H H' : List AObj} {r : AV} {R : AV → List AObj → Prop} (h : retE n0 rs env H = some (r, H')) (hR : R r H') : aret n0 rs env H R := by
  unfold retE at h
  unfold aret
  split at h <;> try cases h
  · rename_i x hx
    split at h <;> cases h
    rename_i hc
    exact aresE_s hx ⟨_, retCut_le hc.1, _, le_refl _, hc.2, hR⟩
  · rename_i xs hne hx
    split at h <;> cases h
    rename_i hc
    refine aresE_s hx ⟨_, retCut_le (b := belowL n0 (xs.map AV.unown)) hc.1, ?_⟩
    split
    · rename_i x; exact absurd rfl (hne x)
    · exact ⟨_, LeL_refl _, hc.2, hR⟩

abbrev Ex := IR → Env → List AObj → Option (Exit × Env × List AObj)
def callE (T : Tab) (ex : Ex) : CallE := fun g args H =>
  match T.find g with
  | some (.ir fi) => if args.length ≤ fi.n then
      match ex fi.ir (argEnv 0 args) H with
      | some (.normal, env', H') => retE H.length fi.rs env' H'
      | some (.ret, env', H') => retE H.length fi.rs env' H'
      | _ => none
    else none
  | some (.prim p) => match p args with | some r => some (r, H) | none => none
  | none => none

def execE (T : Tab) : Nat → Ex
  | 0, _, _, _ => none
  | f + 1, ir, env, H => match ir with
    | .skip => some (.normal, env, H)
    | .region ops live => match opsE (callE T (execE T f)) ops env H with
      | some (env', H') => some (.normal, prune live env', H')
      | none => none
    | .draw t live => match dtE (callE T (execE T f)) live t env H with
      | some (env', H') => some (.normal, env', H')
      | none => none
    | .seq a b => match execE T f a env H with
      | some (.normal, env', H') => execE T f b env' H'
      | r => r
    | .cond x a b => match aval env x with
      | .bool true => execE T f a env H
      | .bool false => execE T f b env H
      | _ => none
    | .block id a => match execE T f a env H with
      | some (.exit id', env', H') => if id' = id then some (.normal, env', H') else some (.exit id', env', H')
      | r => r
    | .loop a => match execE T f a env H with
      | some (.normal, env', H') => execE T f (.loop a) env' H'
      | r => r
    | .exit id => some (.exit id, env, H)
    | .ret => some (.ret, env, H)
    | .never => none

theorem callE_s {P : Program} {T : Tab} (hT : TabOk P T) {ex : Ex} (hex : ∀ {ir env H e env' H'}, ex ir env H = some (e, env', H') → ∀ {n0 : Nat} {Q : Exit → Env → List AObj → Prop}, Q e env' H' → awp P n0 ir env H Q) : CallOk P (callE T ex) := by
  intro g args H r H' h
  unfold callE at h
  split at h
  · rename_i fi hfi
    have hok := Tab.find_ok hT hfi
    split at h <;> try cases h
    rename_i hn
    split at h <;> try cases h
    · rename_i env' H2 hx
      exact hok.acalls hn (hex hx ⟨.inl rfl, retE_s h ⟨rfl, rfl⟩⟩)
    · rename_i env' H2 hx
      exact hok.acalls hn (hex hx ⟨.inr rfl, retE_s h ⟨rfl, rfl⟩⟩)
  · rename_i p hp
    have hok := Tab.find_ok hT hp
    split at h <;> cases h
    rename_i hr
    exact hok _ _ _ hr
  · cases h

theorem execE_s {P : Program} {T : Tab} (hT : TabOk P T) : ∀ (f : Nat) {ir : IR} {env : Env} {H : List AObj} {e : Exit} {env' : Env} {H' : List AObj}, execE T f ir env H = some (e, env', H') → ∀ {n0 : Nat} {Q : Exit → Env → List AObj → Prop}, Q e env' H' → awp P n0 ir env H Q := by
  intro f
  induction f using Nat.strongRecOn with
  | _ f ih =>
  intro ir env H e env' H' h n0 Q hQ
  cases f with
  | zero => simp [execE] at h
  | succ f =>
  have ihf := fun {ir : IR} {env : Env} {H : List AObj} {e : Exit} {env' : Env} {H' : List AObj} (h : execE T f ir env H = some (e, env', H')) {n0 : Nat} {Q : Exit → Env → List AObj → Prop} (hQ : Q e env' H') => ih f (Nat.lt_succ_self f) h (n0 := n0) (Q := Q) hQ
  have hC : CallOk P (callE T (execE T f)) := callE_s hT (fun {_ _ _ _ _ _} h {n0 Q} hQ => ihf h hQ)
  cases ir with
  | skip => simp only [execE] at h; cases h; exact hQ
  | exit id => simp only [execE] at h; cases h; exact hQ
  | ret => simp only [execE] at h; cases h; exact hQ
  | never => simp [execE] at h
  | region ops live =>
    simp only [execE] at h
    split at h <;> cases h
    rename_i env2 hx
    exact opsE_s (K := fun env' H' => Q .normal (prune live env') H') hC hx hQ
  | draw t live =>
    simp only [execE] at h
    split at h <;> cases h
    rename_i hx
    exact dtE_s (K := fun env' H' => Q .normal env' H') hC hx hQ
  | seq a b =>
    simp only [execE] at h
    simp only [awp]
    split at h
    · rename_i env2 H2 hx
      exact ihf hx (ihf h hQ)
    · rename_i hne
      refine ihf h ?_
      split
      · exact absurd h (hne _ _)
      · exact hQ
  | cond x a b =>
    simp only [execE] at h
    simp only [awp]
    split at h
    · rename_i e; rw [e]; exact ⟨fun _ => ihf h hQ, fun e => by cases e⟩
    · rename_i e; rw [e]; exact ⟨fun e => (by cases e), fun _ => ihf h hQ⟩
    · cases h
  | block id a =>
    simp only [execE] at h
    simp only [awp]
    split at h
    · rename_i id' env2 H2 hx
      refine ihf hx ?_
      simp only
      split at h <;> cases h
      · rename_i hid; rw [if_pos hid]; exact hQ
      · rename_i hid; rw [if_neg hid]; exact hQ
    · rename_i hne
      refine ihf h ?_
      split
      · exact absurd h (hne _ _ _)
      · exact hQ
  | loop a =>
    simp only [awp]
    refine ⟨Nat × Env × List AObj, fun i => i.1 ≤ f ∧ execE T (i.1 + 1) (.loop a) i.2.1 i.2.2 = some (e, env', H'), fun i => i.2.1, fun i => i.2.2, fun i => i.1, ⟨(f, env, H), ⟨Nat.le_refl _, h⟩, sle_refl _ _ _⟩, ?_⟩
    rintro ⟨k, env1, H1⟩ ⟨hk, h1⟩
    simp only at hk h1 ⊢
    simp only [execE] at h1
    split at h1
    · rename_i env2 H2 hx
      refine ih k (Nat.lt_succ_of_le hk) hx ?_
      simp only
      cases k with
      | zero => simp [execE] at h1
      | succ k => exact ⟨(k, env2, H2), ⟨by omega, h1⟩, Nat.lt_succ_self k, sle_refl _ _ _⟩
    · rename_i hne
      refine ih k (Nat.lt_succ_of_le hk) h1 ?_
      split
      · exact absurd h1 (hne _ _)
      · exact hQ
end Go.Abs
