/- Part 6 of 18 of the proof. -/
import Derived.Test.YtljchnfgjdjobaaGreatPae
set_option linter.unusedVariables false
set_option linter.unusedSimpArgs false
set_option linter.defProp false
set_option linter.unusedSectionVars false
section
namespace Go.Abs
open Go
structure FunI where
 n : Nat
 ir : IR
 rs : List RX
 deriving Inhabited
inductive Ent where
 | ir (fi : FunI)
 | prim (g : List AV → Option AV)
 | primH (g : List AV → List AObj → Option (AV × List AObj))
def ranges : Code → List (List Nat × Code × Code)
 | .seq a b => ranges a ++ ranges b
 | .cond _ a b => ranges a ++ ranges b
 | .block _ a => ranges a
 | .loop a => ranges a
 | .rangeFunc _ ps a b => (ps.toList, a, b) :: (ranges a ++ ranges b)
 | _ => []
def mkLC (f : Func) (k : Nat) (an : Ann) (lv : Lives) (pl : Plans) : LCode :=
 match f.body with
 | some c => match (ranges c).getD k ([], .skip, .skip) with
   | (ps, a, b) => ⟨f.ntmps, ps, a, b, an, lv, pl⟩
 | none => ⟨0, [], .skip, .skip, an, lv, pl⟩
structure FunOk (P : Program) (f : FuncId) (fi : FunI) : Prop where
 call : ∀ (as : Array Value) (w : World), (callFunc f as).run P w = .ok (.enter f as) w
 code : ∃ fn c an lv pl, P.funcs[f]? = some fn ∧ fn.body = some c ∧ fn.ntmps = fi.n ∧ comp P an lv pl fn.ntmps c = some fi.ir ∧ compRs P fn.results.toList = some fi.rs
theorem FunOk.acalls {P : Program} {f : FuncId} {fi : FunI} (h : FunOk P f fi) {args : List AV} {H : List AObj} {R : AV → List AObj → Prop} (hn : args.length ≤ fi.n)
 (hw : awp P H.length fi.ir (argEnv 0 args) H fun e env H' => (e = .normal ∨ e = .ret) ∧ aret H.length fi.rs env H' R) : ACalls P f args H R := by
 obtain ⟨fn, c, an, lv, pl, h1, h2, h3, h4, h5⟩ := h.code
 exact acalls_of h1 h.call h2 h4 h5 (by omega) hw
theorem FunOk.acallsS {P : Program} {f : FuncId} {fi : FunI} (h : FunOk P f fi) {args : List AV} {H : List AObj} {R : AV → List AObj → Prop} (hn : args.length ≤ fi.n)
 (hw : awp ⟨P, some H.length⟩ H.length fi.ir (argEnv 0 args) H fun e env H' => (e = .normal ∨ e = .ret) ∧ aretC (sealS H.length) H.length fi.rs env H' R) : ACalls P f args H R := by
 obtain ⟨fn, c, an, lv, pl, h1, h2, h3, h4, h5⟩ := h.code
 exact acallsS_of h1 h.call h2 h4 h5 (by omega) hw
def EntOk (P : Program) (f : FuncId) : Ent → Prop
 | .ir fi => FunOk P f fi
 | .prim g => ∀ args r H, g args = some r → ACalls P f args H fun r' H' => r' = r ∧ H' = H
 | .primH g => ∀ args H r H', g args H = some (r, H') → ACalls P f args H fun r' H'' => r' = r ∧ H'' = H'
abbrev Tab := List (Nat × Ent)
def Tab.find : Tab → Nat → Option Ent
 | [], _ => none
 | (k, e) :: r, f => match Nat.beq k f with | true => some e | false => Tab.find r f
def TabOk (P : Program) : Tab → Prop
 | [] => True
 | (k, e) :: r => EntOk P k e ∧ TabOk P r
theorem Tab.find_ok {P : Program} : ∀ {T : Tab} {f : Nat} {e : Ent}, TabOk P T → T.find f = some e → EntOk P f e
 | [], _, _, _, h => by simp [Tab.find] at h
 | (k, e') :: r, f, e, hT, h => by
   simp only [Tab.find] at h
   split at h
   ·rename_i hk
    cases h
    rw [← Nat.eq_of_beq_eq_true hk]
    exact hT.1
   ·exact Tab.find_ok hT.2 h
def aresE : List RX → Env → List AObj → Option (List AV)
 | [], _, _ => some []
 | .t s :: r, env, H => match aresE r env H with | some xs => some (get env s :: xs) | none => none
 | .c s sz :: r, env, H => match aloadE sz (get env s) H, aresE r env H with | some x, some xs => some (x :: xs) | _, _ => none
theorem aresE_s : ∀ {rs : List RX} {env : Env} {H : List AObj} {xs : List AV} {φ : List AV → Prop}, aresE rs env H = some xs → φ xs → ares rs env H φ
 | [], env, H, xs, φ, h, hφ => by simp only [aresE] at h; cases h; exact hφ
 | .t s :: r, env, H, xs, φ, h, hφ => by
   simp only [aresE] at h
   split at h <;> cases h
   rename_i ys hy
   exact aresE_s (φ := fun xs => φ (get env s :: xs)) hy hφ
 | .c s sz :: r, env, H, xs, φ, h, hφ => by
   simp only [aresE] at h
   split at h <;> cases h
   rename_i x ys hx hy
   exact aloadE_s (φ := fun x => ares r env H fun xs => φ (x :: xs)) hx (aresE_s (φ := fun xs => φ (x :: xs)) hy hφ)
def retCut (n0 n : Nat) (b : Bool) : Nat := if b = true then n0 else n
def retE (n0 : Nat) (rs : List RX) (env : Env) (H : List AObj) : Option (AV × List AObj) :=
 match aresE rs env H with
 | some [x] => if n0 ≤ H.length ∧ x.blw (retCut n0 H.length (x.blw n0)) = true then some (x, H.take (retCut n0 H.length (x.blw n0))) else none
 | some xs => if n0 ≤ H.length ∧ belowL (retCut n0 H.length (belowL n0 (xs.map AV.unown))) (xs.map AV.unown) = true then some (.tuple (xs.map AV.unown), H.take (retCut n0 H.length (belowL n0 (xs.map AV.unown)))) else none
 | none => none
theorem retCut_le {n0 n : Nat} {b : Bool} (h : n0 ≤ n) : n0 ≤ retCut n0 n b := by
 unfold retCut; split <;> omega
theorem retE_s {n0 : Nat} {rs : List RX} {env : Env} {H H' : List AObj} {r : AV} {R : AV → List AObj → Prop} (h : retE n0 rs env H = some (r, H')) (hR : R r H') : aret n0 rs env H R := by
 unfold retE at h
 unfold aret
 split at h <;> try cases h
 ·rename_i x hx
  split at h <;> cases h
  rename_i hc
  exact aresE_s hx ⟨_, retCut_le hc.1, _, le_refl _, hc.2, hR⟩
 ·rename_i xs hne hx
  split at h <;> cases h
  rename_i hc
  refine aresE_s hx ⟨_, retCut_le (b := belowL n0 (xs.map AV.unown)) hc.1, ?_⟩
  split
  ·rename_i x; exact absurd rfl (hne x)
  ·exact ⟨_, LeL_refl _, hc.2, hR⟩
abbrev Rs := List (Exit × Env × List AObj)
abbrev Ex := IR → Env → List AObj → Option Rs
def retO (n0 : Nat) (rs : List RX) (o : Exit × Env × List AObj) : Option (AV × List AObj) :=
 match o.1 with
 | .normal => retE n0 rs o.2.1 o.2.2
 | .ret => retE n0 rs o.2.1 o.2.2
 | _ => none
def retL (n0 : Nat) (rs : List RX) : Rs → Option (AV × List AObj)
 | [] => none
 | [o] => retO n0 rs o
 | o :: r => match retO n0 rs o, retL n0 rs r with
   | some x, some y => if x.1.beq y.1 = true ∧ beqH x.2 y.2 = true then some x else none
   | _, _ => none
theorem retL_s {n0 : Nat} {rs : List RX} : ∀ {l : Rs} {r : AV × List AObj}, retL n0 rs l = some r → ∀ o ∈ l, retO n0 rs o = some r
 | [], _, h => by cases h
 | [o], r, h => fun o' ho => by rw [List.mem_singleton.1 ho]; exact h
 | o :: o2 :: r, x, h => fun o' ho => by
   simp only [retL] at h
   split at h <;> try cases h
   rename_i x1 y1 h1 h2
   split at h <;> cases h
   rename_i hb
   have e1 := AV.beq_s hb.1
   have e2 := beqH_s hb.2
   have e : x = y1 := by cases x; cases y1; simp only at e1 e2; rw [e1, e2]
   rcases List.mem_cons.1 ho with rfl | ho
   ·exact h1
   ·rw [e]; exact retL_s h2 o' ho
def seqL (k : Env → List AObj → Option Rs) : Rs → Option Rs
 | [] => some []
 | (.normal, e, H) :: r => match k e H, seqL k r with
   | some a, some b => some (a ++ b)
   | _, _ => none
 | o :: r => match seqL k r with
   | some b => some (o :: b)
   | none => none
theorem seqL_s {k : Env → List AObj → Option Rs} {Q : Exit → Env → List AObj → Prop} : ∀ {l l' : Rs}, seqL k l = some l' → (∀ o ∈ l', Q o.1 o.2.1 o.2.2) →
 ∀ o ∈ l, match o.1 with | .normal => ∃ l2, k o.2.1 o.2.2 = some l2 ∧ ∀ o2 ∈ l2, Q o2.1 o2.2.1 o2.2.2 | e => Q e o.2.1 o.2.2
 | [], l', h, hQ => fun o ho => by cases ho
 | (e, env, H) :: r, l', h, hQ => fun o ho => by
   cases e with
   | normal =>
     simp only [seqL] at h
     split at h <;> cases h
     rename_i a b h1 h2
     rcases List.mem_cons.1 ho with rfl | ho
     ·exact ⟨a, h1, fun o2 h => hQ o2 (List.mem_append.2 (.inl h))⟩
     ·exact seqL_s h2 (fun o2 h => hQ o2 (List.mem_append.2 (.inr h))) o ho
   | ret =>
     simp only [seqL] at h
     split at h <;> cases h
     rename_i b h2
     rcases List.mem_cons.1 ho with rfl | ho
     ·exact hQ _ List.mem_cons_self
     ·exact seqL_s h2 (fun o2 h => hQ o2 (List.mem_cons_of_mem _ h)) o ho
   | exit i =>
     simp only [seqL] at h
     split at h <;> cases h
     rename_i b h2
     rcases List.mem_cons.1 ho with rfl | ho
     ·exact hQ _ List.mem_cons_self
     ·exact seqL_s h2 (fun o2 h => hQ o2 (List.mem_cons_of_mem _ h)) o ho
   | _ =>
     simp only [seqL] at h
     split at h <;> cases h
     rename_i b h2
     rcases List.mem_cons.1 ho with rfl | ho
     ·exact hQ _ List.mem_cons_self
     ·exact seqL_s h2 (fun o2 h => hQ o2 (List.mem_cons_of_mem _ h)) o ho
def exitB (id : Nat) (o : Exit × Env × List AObj) : Exit × Env × List AObj :=
 match o.1 with
 | .exit i => if i = id then (.normal, o.2) else o
 | _ => o
def freeB : AV → Bool
 | .lst own _ => own == 0
 | _ => true
theorem freeB_s {x : AV} (h : freeB x = true) : x.unown = x := by
 cases x with
 | lst own xs => simp only [freeB, beq_iff_eq] at h; subst h; rfl
 | _ => rfl
def endE (n0 id : Nat) (e : Exit) (H : List AObj) : Option (AV × List AObj) :=
 match H[id]? with
 | some (.loop .busy lc es) => if n0 ≤ H.length then (match e with
   | .normal => some (.bool true, (H.set id (.loop .ready lc es)).take n0)
   | .ret => some (.bool false, (H.set id (.loop (.jump .ret) lc es)).take n0)
   | .exit k => some (.bool false, (H.set id (.loop (.jump (.exit k)) lc es)).take n0)
   | _ => none) else none
 | _ => none
theorem endE_s {n0 id : Nat} {e : Exit} {H H' : List AObj} {r : AV} {R : AV → List AObj → Prop} (h : endE n0 id e H = some (r, H')) (hR : R r H') : endY n0 id R e H := by
 unfold endE at h
 unfold endY
 split at h <;> try cases h
 rename_i lc es hid
 rw [hid]
 split at h <;> try cases h
 rename_i hn
 split at h <;> cases h
 ·exact ⟨by simpa using hn, hR⟩
 ·exact ⟨by simpa using hn, hR⟩
 ·exact ⟨by simpa using hn, hR⟩
def roundE (P : Program) (ex : Ex) (id : Nat) (args : List AV) (H : List AObj) : Option (AV × List AObj) :=
 match H[id]? with
 | some (.loop .ready lc es) => match comp P lc.an lc.lv lc.pl lc.n lc.as, comp P lc.an lc.lv lc.pl lc.n lc.bd with
   | some ia, some ib => if es.length = lc.n ∧ args.length = lc.ps.length ∧ lc.ps.all (· < lc.n) = true ∧ es.all freeB = true ∧ args.all freeB = true then
      match ex ia ((lc.ps.zip args).reverse ++ argEnv 0 es) H with
      | some [(.normal, env1, H1)] => match H1[id]? with
        | some (.loop .ready lc1 es1) => match ex ib env1 (H1.set id (.loop .busy lc1 es1)) with
          | some [(e, _, H3)] => endE H.length id e H3
          | _ => none
        | _ => none
      | _ => none
     else none
   | _, _ => none
 | _ => none
def callE (P : Program) (T : Tab) (ex : Ex) : CallE := fun y g args H =>
 match y with
 | true => roundE P ex g args H
 | false => match T.find g with
   | some (.ir fi) => if args.length ≤ fi.n then
      match ex fi.ir (argEnv 0 args) H with
      | some l => retL H.length fi.rs l
      | none => none
     else none
   | some (.prim p) => match p args with | some r => some (r, H) | none => none
   | some (.primH p) => p args H
   | none => none
def isIr (T : Tab) (g : Nat) : Bool := match T.find g with | some (.ir _) => true | _ => false
def behindE (id : Nat) (env : Env) (H : List AObj) : Option Rs :=
 match H[id]? with
 | some (.loop .ready lc es) => some [(.normal, env, H.set id (.loop .over lc es))]
 | some (.loop (.jump .ret) lc es) => some [(.ret, env, H.set id (.loop .over lc es))]
 | some (.loop (.jump (.exit k)) lc es) => some [(.exit k, env, H.set id (.loop .over lc es))]
 | _ => none
theorem behindE_s {id : Nat} {env : Env} {H : List AObj} {l : Rs} {Q : Exit → Env → List AObj → Prop} (h : behindE id env H = some l) (hQ : ∀ o ∈ l, Q o.1 o.2.1 o.2.2) : behind id H fun j H'' => goOn j Q env H'' := by
 unfold behindE at h
 unfold behind
 split at h <;> try cases h
 all_goals
  rename_i hid
  rw [hid]
  exact hQ _ List.mem_cons_self
def execE (P : Program) (T : Tab) : Nat → Ex
 | 0, _, _, _ => none
 | f + 1, ir, env, H => match ir with
   | .skip => some [(.normal, env, H)]
   | .region ops live => match opsE (callE P T (execE P T f)) ops env H with
     | some (env', H') => some [(.normal, prune live env', H')]
     | none => none
   | .draw t live => match dtE (callE P T (execE P T f)) live t env H with
     | some l => some (l.map fun o => (.normal, o.1, o.2))
     | none => none
   | .seq a b => match execE P T f a env H with
     | some l => seqL (execE P T f b) l
     | none => none
   | .cond x a b => match aval env x with
     | .bool true => execE P T f a env H
     | .bool false => execE P T f b env H
     | _ => none
   | .block id a => match execE P T f a env H with
     | some l => some (l.map (exitB id))
     | none => none
   | .loop a => match execE P T f a env H with
     | some l => seqL (execE P T f (.loop a)) l
     | none => none
   | .exit id => some [(.exit id, env, H)]
   | .ret => some [(.ret, env, H)]
   | .never => none
   | .rangeF g lc => match aval env g with
     | .fn (.func g) first cap => if isIr T g = true then (match callE P T (execE P T f) false g (first.map AV.unown ++ [.yld H.length] ++ cap.map AV.unown) (H ++ [.loop .ready lc (envL lc.n env)]) with
       | some (_, H') => behindE H.length env H'
       | none => none) else none
     | _ => none
theorem callE_s {P : Program} {T : Tab} (hT : TabOk P T) {ex : Ex} (hex : ∀ {ir env H l}, ex ir env H = some l → ∀ {n0 : Nat} {Q : Exit → Env → List AObj → Prop}, (∀ o ∈ l, Q o.1 o.2.1 o.2.2) → awp P n0 ir env H Q) : CallOk P (callE P T ex) := by
 refine ⟨fun g args H r H' h => ?_, fun id args H r H' h => ?_⟩
 ·simp only [callE] at h
  split at h
  ·rename_i fi hfi
   have hok := Tab.find_ok hT hfi
   split at h <;> try cases h
   rename_i hn
   split at h <;> try cases h
   rename_i l hx
   refine hok.acalls hn (hex hx fun o ho => ?_)
   have h1 := retL_s h o ho
   unfold retO at h1
   split at h1 <;> try cases h1
   ·rename_i e; exact ⟨.inl e, retE_s h1 ⟨rfl, rfl⟩⟩
   ·rename_i e; exact ⟨.inr e, retE_s h1 ⟨rfl, rfl⟩⟩
  ·rename_i p hp
   have hok := Tab.find_ok hT hp
   split at h <;> cases h
   rename_i hr
   exact hok _ _ _ hr
  ·rename_i p hp
   exact Tab.find_ok hT hp _ _ _ _ h
  ·cases h
 ·simp only [callE, roundE] at h
  split at h <;> try cases h
  rename_i lc es hid
  split at h <;> try cases h
  rename_i ia ib ha hb
  split at h <;> try cases h
  rename_i hc
  split at h <;> try cases h
  rename_i env1 H1 hx1
  split at h <;> try cases h
  rename_i lc1 es1 hid1
  split at h <;> try cases h
  rename_i e env3 H3 hx3
  obtain ⟨c1, c2, c3, c4, c5⟩ := hc
  refine ycalls_of hid ha hb ⟨c1, c2, c3, fun x hx => freeB_s (List.all_eq_true.1 c4 x hx), fun x hx => freeB_s (List.all_eq_true.1 c5 x hx)⟩ (hex hx1 fun o ho => ?_)
  rw [List.mem_singleton.1 ho]
  refine ⟨rfl, ?_⟩
  unfold beginY
  rw [hid1]
  refine hex hx3 fun o ho => ?_
  rw [List.mem_singleton.1 ho]
  exact endE_s h ⟨rfl, rfl⟩
theorem isIr_s {P : Program} {T : Tab} (hT : TabOk P T) {g : Nat} (h : isIr T g = true) : ∀ (as : Array Value) (w : World), (callFunc g as).run P w = .ok (.enter g as) w := by
 unfold isIr at h
 split at h
 ·rename_i fi hfi
  exact (Tab.find_ok hT hfi).call
 ·cases h
theorem execE_s {P : Program} {T : Tab} (hT : TabOk P T) : ∀ (f : Nat) {ir : IR} {env : Env} {H : List AObj} {l : Rs}, execE P T f ir env H = some l → ∀ {n0 : Nat} {Q : Exit → Env → List AObj → Prop}, (∀ o ∈ l, Q o.1 o.2.1 o.2.2) → awp P n0 ir env H Q := by
 intro f
 induction f using Nat.strongRecOn with
 | _ f ih =>
 intro ir env H l h n0 Q hQ
 cases f with
 | zero => simp [execE] at h
 | succ f =>
 have ihf := fun {ir : IR} {env : Env} {H : List AObj} {l : Rs} (h : execE P T f ir env H = some l) {n0 : Nat} {Q : Exit → Env → List AObj → Prop} (hQ : ∀ o ∈ l, Q o.1 o.2.1 o.2.2) => ih f (Nat.lt_succ_self f) h (n0 := n0) (Q := Q) hQ
 have hC : CallOk P (callE P T (execE P T f)) := callE_s hT (fun {_ _ _ _} h {n0 Q} hQ => ihf h hQ)
 cases ir with
 | skip => simp only [execE] at h; cases h; exact hQ _ List.mem_cons_self
 | exit id => simp only [execE] at h; cases h; exact hQ _ List.mem_cons_self
 | ret => simp only [execE] at h; cases h; exact hQ _ List.mem_cons_self
 | never => simp [execE] at h
 | rangeF g lc =>
   simp only [execE] at h
   simp only [awp]
   split at h <;> try cases h
   rename_i g' first cap hg
   split at h <;> try cases h
   rename_i hir
   split at h <;> try cases h
   rename_i r H2 hr
   rw [hg]
   refine ⟨isIr_s hT hir, _, LeL_refl _, XCalls.of <| (hC.1 _ _ _ _ _ hr).mono ?_⟩
   rintro r' H'' ⟨rfl, rfl⟩
   exact behindE_s h hQ
 | region ops live =>
   simp only [execE] at h
   split at h <;> cases h
   rename_i env2 H2 hx
   exact opsE_s (K := fun env' H' => Q .normal (prune live env') H') hC hx (hQ _ List.mem_cons_self)
 | draw t live =>
   simp only [execE] at h
   split at h <;> cases h
   rename_i l2 hx
   exact dtE_s (K := fun env' H' => Q .normal env' H') hC hx fun o ho => hQ _ (List.mem_map.2 ⟨o, ho, rfl⟩)
 | seq a b =>
   simp only [execE] at h
   simp only [awp]
   split at h <;> try cases h
   rename_i l2 hx
   have hs := seqL_s h hQ
   refine ihf hx fun o ho => ?_
   have := hs o ho
   obtain ⟨e, env2, H2⟩ := o
   cases e with
   | normal => obtain ⟨l3, h3, hq⟩ := this; exact ihf h3 hq
   | _ => exact this
 | cond x a b =>
   simp only [execE] at h
   simp only [awp]
   split at h
   ·rename_i e; rw [e]; exact ⟨fun _ => ihf h hQ, fun e => by cases e⟩
   ·rename_i e; rw [e]; exact ⟨fun e => (by cases e), fun _ => ihf h hQ⟩
   ·cases h
 | block id a =>
   simp only [execE] at h
   simp only [awp]
   split at h <;> cases h
   rename_i l2 hx
   refine ihf hx fun o ho => ?_
   have := hQ _ (List.mem_map.2 ⟨o, ho, rfl⟩)
   obtain ⟨e, env2, H2⟩ := o
   cases e with
   | exit id' =>
     simp only [exitB] at this ⊢
     split at this
     ·rename_i hid; rw [if_pos hid]; exact this
     ·rename_i hid; rw [if_neg hid]; exact this
   | _ => exact this
 | loop a =>
   simp only [awp]
   refine ⟨Nat × Env × List AObj, fun i => i.1 ≤ f ∧ ∃ l', execE P T (i.1 + 1) (.loop a) i.2.1 i.2.2 = some l' ∧ ∀ o ∈ l', Q o.1 o.2.1 o.2.2, fun i => i.2.1, fun i => i.2.2, fun i => i.1, ⟨(f, env, H), ⟨Nat.le_refl _, l, h, hQ⟩, sle_refl _ _ _⟩, ?_⟩
   rintro ⟨k, env1, H1⟩ ⟨hk, l1, h1, hQ1⟩
   simp only at hk h1 ⊢
   simp only [execE] at h1
   split at h1 <;> try cases h1
   rename_i l2 hx
   have hs := seqL_s h1 hQ1
   refine ih k (Nat.lt_succ_of_le hk) hx fun o ho => ?_
   have := hs o ho
   obtain ⟨e, env2, H2⟩ := o
   cases e with
   | normal =>
     obtain ⟨l3, h3, hq⟩ := this
     cases k with
     | zero => simp [execE] at h3
     | succ k => exact ⟨(k, env2, H2), ⟨by omega, l3, h3, hq⟩, Nat.lt_succ_self k, sle_refl _ _ _⟩
   | _ => exact this
end Go.Abs
end
section
namespace Go.Abs
open Go
theorem ion (n : Nat) : Int.ofNat (no_index (OfNat.ofNat n)) = (OfNat.ofNat n : Int) := rfl
theorem ineg : Int.negSucc 0 = -1 := rfl
@[reducible] def mkF {P : Program} {g : FuncId} {fn : Func} {n : Nat} {i : IR} {rs : List RX} (hc : ∀ (as : Array Value) (w : World), (callFunc g as).run P w = .ok (.enter g as) w)
 (hf : P.funcs[g]? = some fn) (hn : fn.ntmps = n) (an : Ann) (lv : Lives) (pl : Plans)
 (h : (fn.body.bind fun c => comp P an lv pl n c) = some i := by conv =>
   lhs
   reduce
   try simp only [ion, ineg])
 (hr : compRs P fn.results.toList = some rs := by conv =>
   lhs
   reduce
   try simp only [ion, ineg]) : {fi : FunI // FunOk P g fi} :=
 ⟨⟨n, i, rs⟩, by
   subst hn
   cases hb : fn.body with
   | none => rw [hb] at h; cases h
   | some c => exact ⟨hc, fn, c, an, lv, pl, hf, hb, rfl, by rw [hb] at h; exact h, hr⟩⟩
end Go.Abs
end
