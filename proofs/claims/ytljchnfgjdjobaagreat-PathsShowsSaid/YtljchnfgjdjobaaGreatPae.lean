/- A memory-free reading of the model's values (part 20): code that is run. -/
import Derived.Test.YtljchnfgjdjobaaGreatPad
set_option linter.unusedVariables false
set_option linter.unusedSimpArgs false
set_option linter.defProp false
set_option linter.unusedSectionVars false
namespace Go.Abs
open Go
def fnEq : Fn → Fn → Bool
 | .func a, .func b => a == b
 | _, _ => false
mutual
def AV.beq : AV → AV → Bool
 | .any, .any => true
 | .bool a, .bool b => a == b
 | .int k a, .int l b => decide (k = l) && decide (a = b)
 | .str a, .str b => decide (a = b)
 | .nils, .nils => true
 | .lst o xs, .lst p ys => decide (o = p) && beqL xs ys
 | .arr a b c d, .arr e f g h => decide (a = e) && decide (b = f) && decide (c = g) && decide (d = h)
 | .agg xs, .agg ys => beqL xs ys
 | .tuple xs, .tuple ys => beqL xs ys
 | .ptr a b, .ptr c d => decide (a = c) && decide (b = d)
 | .iptr x, .iptr y => x.beq y
 | .nilp, .nilp => true
 | .map a, .map b => decide (a = b)
 | .nilm, .nilm => true
 | .fn f xs ys, .fn g us vs => fnEq f g && beqL xs us && beqL ys vs
 | .nilf, .nilf => true
 | .iface t x, .iface u y => decide (t = u) && x.beq y
 | .nili, .nili => true
 | _, _ => false
def beqL : List AV → List AV → Bool
 | [], [] => true
 | x :: xs, y :: ys => x.beq y && beqL xs ys
 | _, _ => false
end
theorem fnEq_s {f g : Fn} (h : fnEq f g = true) : f = g := by
 unfold fnEq at h
 split at h
 ·simp at h; rw [h]
 ·cases h
mutual
theorem AV.beq_s : ∀ {x y : AV}, x.beq y = true → x = y := by
 intro x y h
 cases x <;> cases y <;> simp only [AV.beq, Bool.and_eq_true, decide_eq_true_eq, Bool.false_eq_true, beq_iff_eq] at h <;> first
  | rfl
  | (subst h; rfl)
  | (obtain ⟨rfl, rfl⟩ := h; rfl)
  | (obtain ⟨⟨⟨rfl, rfl⟩, rfl⟩, rfl⟩ := h; rfl)
  | (rw [beqL_s h])
  | (rw [AV.beq_s h])
  | (obtain ⟨rfl, h⟩ := h; rw [beqL_s h])
  | (obtain ⟨rfl, h⟩ := h; rw [AV.beq_s h])
  | (obtain ⟨⟨h1, h2⟩, h3⟩ := h; rw [fnEq_s h1, beqL_s h2, beqL_s h3])
theorem beqL_s : ∀ {xs ys : List AV}, beqL xs ys = true → xs = ys
 | [], [], _ => rfl
 | x :: xs, y :: ys, h => by
   simp only [beqL, Bool.and_eq_true] at h
   rw [AV.beq_s h.1, beqL_s h.2]
 | [], _ :: _, h => by simp [beqL] at h
 | _ :: _, [], h => by simp [beqL] at h
end
def beqP : List (AV × AV) → List (AV × AV) → Bool
 | [], [] => true
 | (a, b) :: xs, (c, d) :: ys => a.beq c && b.beq d && beqP xs ys
 | _, _ => false
theorem beqP_s : ∀ {xs ys : List (AV × AV)}, beqP xs ys = true → xs = ys
 | [], [], _ => rfl
 | (a, b) :: xs, (c, d) :: ys, h => by
   simp only [beqP, Bool.and_eq_true] at h
   rw [AV.beq_s h.1.1, AV.beq_s h.1.2, beqP_s h.2]
 | [], _ :: _, h => by simp [beqP] at h
 | _ :: _, [], h => by simp [beqP] at h
def AObj.beq : AObj → AObj → Bool
 | .dead, .dead => true
 | .cells a, .cells b => beqL a b
 | .map a, .map b => beqP a b
 | _, _ => false
theorem AObj.beq_s {x y : AObj} (h : x.beq y = true) : x = y := by
 unfold AObj.beq at h
 split at h
 ·rfl
 ·rw [beqL_s h]
 ·rw [beqP_s h]
 ·cases h
def beqH : List AObj → List AObj → Bool
 | [], [] => true
 | x :: xs, y :: ys => x.beq y && beqH xs ys
 | _, _ => false
theorem beqH_s : ∀ {xs ys : List AObj}, beqH xs ys = true → xs = ys
 | [], [], _ => rfl
 | x :: xs, y :: ys, h => by
   simp only [beqH, Bool.and_eq_true] at h
   rw [AObj.beq_s h.1, beqH_s h.2]
 | [], _ :: _, h => by simp [beqH] at h
 | _ :: _, [], h => by simp [beqH] at h
abbrev CallE := Bool → Nat → List AV → List AObj → Option (AV × List AObj)
def callB (C : CallE) (g : Nat) (args : List AV) (H : List AObj) : Option (AV × List AObj) :=
 match belowL 0 args with
 | true => match C false g args [] with
   | some (r, []) => some (r, H)
   | _ => C false g args H
 | false => C false g args H
def pureE (H : List AObj) (dst : Option Nat) (env : Env) (z : Option AV) : Option (Env × List AObj) := match z with | some z => some (put dst z env, H) | none => none
def aopE (C : CallE) (o : IOp) (dst : Option Nat) (env : Env) (H : List AObj) : Option (Env × List AObj) :=
 match o with
 | .set x take => match dst with | some d => some (setE env d x take, H) | none => some (env, H)
 | .pick c a b => match aval env c with
   | .bool true => some (put dst (aval env a).unown env, H)
   | .bool false => some (put dst (aval env b).unown env, H)
   | _ => none
 | .bin op x y => pureE H dst env (abinE op (aval env x) (aval env y))
 | .shift op x y => pureE H dst env (ashiftE op (aval env x) (aval env y))
 | .eqBool neq x y => pureE H dst env (aeqBoolE neq (aval env x) (aval env y))
 | .eqNil kd neq x => pureE H dst env (aeqNilE kd neq (aval env x))
 | .un op x => pureE H dst env (aunE op (aval env x))
 | .box x => if (aval env x).val = true ∧ belowL (H.length + 1) ((aval env x).cells.map AV.unown) = true then some (put dst (.ptr H.length 0) env, H ++ [.cells ((aval env x).cells.map AV.unown)]) else none
 | .boxi x => if (aval env x).val = true then some (put dst (.iptr (aval env x)) env, H) else none
 | .boxs m x => if (aval env x).val = true ∧ (aval env x).cells.length = m ∧ (aval env x).cells.all AV.one = true then some (put dst (.iptr (aval env x)) env, H) else none
 | .alloc z => if belowL (H.length + 1) (z.cells.map AV.unown) = true then some (put dst (.ptr H.length 0) env, H ++ [.cells (z.cells.map AV.unown)]) else none
 | .build z ps => pureE H dst env ((afillE z.cells (ps.map fun q => (q.1, q.2.1, aval env q.2.2))).map .agg)
 | .buildSlice own esz z len ps => pureE H dst env ((absliceE (List.replicate len (canon z)) esz (ps.map fun q => (q.1, aval env q.2))).map (.lst own))
 | .load sz a => pureE H dst env (aloadE sz (aval env a) H)
 | .takeCell a => match dst, aval env a with
   | some d, .ptr id off => match H[id]? with
     | some (.cells es) => if off < es.length then some ((d, es.getD off .any) :: env, H.set id (.cells (es.set off (es.getD off .any).unown))) else none
     | _ => none
   | _, _ => none
 | .store m a x => match astoreE m (aval env a) (aval env x) H with | some H' => some (env, H') | none => none
 | .storeW _ _ _ => none
 | .loadf sz esz a => match aloadE sz (aval env a) H with
   | some z => match asetfXE esz z H with
     | some (v, H') => some (put dst v env, H')
     | none => none
   | none => none
 | .putCell a s => match aputCellE (aval env a) (get env s) H with | some H' => some ((s, (get env s).unown) :: env, H') | none => none
 | .nilCheck x => pureE H dst env (anilCheckE (aval env x))
 | .fieldAddr off sz x => pureE H dst env (afieldAddrE off sz (aval env x))
 | .field off sz x => pureE H dst env (afieldE off sz (aval env x))
 | .indexAddr esz x i => if lensOk esz (aval env x) = true then pureE H dst env (aindexAddrE esz (aval env x) (aval env i)) else none
 | .indexStr x i => pureE H dst env (aindexStrE (aval env x) (aval env i))
 | .indexArr n x i => pureE H dst env (aindexArrE n (aval env x) (aval env i))
 | .slice esz x lo hi m => pureE H dst env (asliceXE esz (aval env x) (optX env lo) (optX env hi) (optX env m))
 | .sliceStr x lo hi => pureE H dst env (asliceStrE (aval env x) (optX env lo) (optX env hi))
 | .len kd x => if lenOkB kd (aval env x) = true then pureE H dst env (alenE (aval env x) H) else none
 | .append esz bytes s x => match aappendE esz bytes (aval env s) (aval env x) with | some zs => some (put dst (.lst esz zs) (unslotE env s.slot), H) | none => none
 | .mkarr esz bytes z n => match amkarrE bytes z (aval env n) H with | some (v, H') => some (put dst v env, H') | none => none
 | .mkbuf esz bytes n => pureE H dst env (amkbufE esz bytes (aval env n))
 | .mkmap => some (put dst (.map H.length) env, H ++ [.map []])
 | .litA .. => none
 | .appendA .. => none
 | .clearA .. => none
 | .sliceZ .. => none
 | .lookup kd z m k ok => pureE H dst env (alookupE kd z (aval env m) (aval env k) ok H)
 | .mapset kd m k x => match amapsetE kd (aval env m) (aval env k) (aval env x) H with | some H' => some (env, H') | none => none
 | .fn f first cap => some (put dst (.fn f (first.map fun x => (aval env x).unown) (cap.map fun x => (aval env x).unown)) env, H)
 | .extract x i => pureE H dst env (aextractE (aval env x) i)
 | .call f args pass => match aval env f with
   | .fn (.func g) first cap => match callB C g (first.map AV.unown ++ baseArgs env pass 0 args ++ cap.map AV.unown) H with
     | some (r, H') => some (put dst r (unslotE env (passSlot args pass)), H')
     | none => none
   | .yld id => match C true id (baseArgs env pass 0 args) H with
     | some (r, H') => some (put dst r (unslotE env (passSlot args pass)), H')
     | none => none
   | _ => none
 | .convInt k x => pureE H dst env (aconvIntE k (aval env x))
 | .convStr x => pureE H dst env (aconvStrE (aval env x))
 | .bytesOf x => pureE H dst env (abytesOfE 1 (aval env x))
 | .strOf x => pureE H dst env (astrOfE (aval env x))
 | .mx big a b => pureE H dst env (amxE big (aval env a) (aval env b))
 | .copy esz d s => match acopyE esz (aval env d) (aval env s) H with | some (v, H') => some (put dst v env, H') | none => none
 | .setf esz x => match asetfE esz (aval env x) H with | some (v, H') => some (put dst v env, H') | none => none
 | .never => none
def CallOk (P : Program) (C : CallE) : Prop := (∀ g args H r H', C false g args H = some (r, H') → ACalls P g args H fun r' H'' => r' = r ∧ H'' = H') ∧
 ∀ id args H r H', C true id args H = some (r, H') → YCalls P id args H fun r' H'' => r' = r ∧ H'' = H'
theorem callB_s {P : Program} {C : CallE} (hC : CallOk P C) {g : Nat} {args : List AV} {H H' : List AObj} {r : AV} (h : callB C g args H = some (r, H')) : ACalls P g args H fun r' H'' => r' = r ∧ H'' = H' := by
 unfold callB at h
 split at h
 ·rename_i hb
  split at h
  ·rename_i hr
   cases h
   exact ACalls.frame (R := fun r' => r' = r) (fun x hx => (belowL_iff 0 _).1 hb x hx) (hC.1 _ _ _ _ _ hr) H
  ·exact hC.1 _ _ _ _ _ h
 ·exact hC.1 _ _ _ _ _ h
theorem LeL_refl : ∀ xs, LeL xs xs
 | [] => trivial
 | x :: xs => ⟨le_refl _, LeL_refl xs⟩
theorem pureE_some {H H' : List AObj} {dst : Option Nat} {env env' : Env} {z : Option AV} (h : pureE H dst env z = some (env', H')) : ∃ v, z = some v ∧ env' = put dst v env ∧ H' = H := by
 unfold pureE at h
 split at h <;> cases h
 exact ⟨_, rfl, rfl, rfl⟩
theorem aopE_s {P : Program} {C : CallE} (hC : CallOk P C) {o : IOp} {dst : Option Nat} {env env' : Env} {H H' : List AObj} {K : Env → List AObj → Prop} (h : aopE C o dst env H = some (env', H')) (hK : K env' H') : aop P o dst env H K := by
 cases o with
 | set x take =>
   simp only [aopE] at h
   simp only [aop]
   split at h <;> cases h <;> exact hK
 | pick c a b =>
   simp only [aopE] at h
   simp only [aop]
   split at h <;> cases h
   ·rename_i e; rw [e]; exact ⟨fun _ => hK, fun e => by cases e⟩
   ·rename_i e; rw [e]; exact ⟨fun e => (by cases e), fun _ => hK⟩
 | bin op x y => obtain ⟨v, hv, rfl, rfl⟩ := pureE_some h; exact abinE_s (φ := fun z => K (put dst z env) _) hv hK
 | shift op x y => obtain ⟨v, hv, rfl, rfl⟩ := pureE_some h; exact ashiftE_s (φ := fun z => K (put dst z env) _) hv hK
 | eqBool op x y => obtain ⟨v, hv, rfl, rfl⟩ := pureE_some h; exact aeqBoolE_s (φ := fun z => K (put dst z env) _) hv hK
 | eqNil kd neq x => obtain ⟨v, hv, rfl, rfl⟩ := pureE_some h; exact aeqNilE_s (φ := fun z => K (put dst z env) _) hv hK
 | un op x => obtain ⟨v, hv, rfl, rfl⟩ := pureE_some h; exact aunE_s (φ := fun z => K (put dst z env) _) hv hK
 | box x =>
   simp only [aopE] at h
   split at h <;> cases h
   rename_i hc
   exact ⟨hc.1, hc.2, hK⟩
 | boxi x =>
   simp only [aopE] at h
   split at h <;> cases h
   rename_i hc
   exact ⟨hc, hK⟩
 | boxs m x =>
   simp only [aopE] at h
   split at h <;> cases h
   rename_i hc
   exact ⟨hc.1, hc.2.1, hc.2.2, hK⟩
 | alloc z =>
   simp only [aopE] at h
   split at h <;> cases h
   rename_i hc
   exact ⟨hc, hK⟩
 | build z ps =>
   obtain ⟨v, hv, rfl, rfl⟩ := pureE_some h
   obtain ⟨u, hu, rfl⟩ := Option.map_eq_some_iff.1 hv
   exact afillE_s (φ := fun xs => K (put dst (.agg xs) env) H') hK hu
 | buildSlice own esz z len ps =>
   obtain ⟨v, hv, rfl, rfl⟩ := pureE_some h
   obtain ⟨u, hu, rfl⟩ := Option.map_eq_some_iff.1 hv
   exact absliceE_s (φ := fun xs => K (put dst (.lst own xs) env) H') hK hu
 | load sz a => obtain ⟨v, hv, rfl, rfl⟩ := pureE_some h; exact aloadE_s (φ := fun z => K (put dst z env) _) hv hK
 | takeCell a =>
   simp only [aopE] at h
   simp only [aop]
   split at h <;> try cases h
   rename_i e
   simp only [e]
   split at h <;> try cases h
   rename_i hid
   simp only [hid]
   split at h <;> cases h
   exact ⟨by assumption, hK⟩
 | store m a x =>
   simp only [aopE] at h
   split at h <;> cases h
   rename_i hs
   exact astoreE_s hs hK
 | putCell a s =>
   simp only [aopE] at h
   split at h <;> cases h
   rename_i hs
   exact aputCellE_s hs hK
 | nilCheck x => obtain ⟨v, hv, rfl, rfl⟩ := pureE_some h; exact anilCheckE_s (φ := fun z => K (put dst z env) _) hv hK
 | fieldAddr off sz x => obtain ⟨v, hv, rfl, rfl⟩ := pureE_some h; exact afieldAddrE_s (φ := fun z => K (put dst z env) _) hv hK
 | field off sz x => obtain ⟨v, hv, rfl, rfl⟩ := pureE_some h; exact afieldE_s (φ := fun z => K (put dst z env) _) hv hK
 | indexAddr esz x i =>
   simp only [aopE] at h
   split at h <;> try cases h
   rename_i hl
   obtain ⟨v, hv, rfl, rfl⟩ := pureE_some h
   exact ⟨lensOk_s hl, aindexAddrE_s (φ := fun z => K (put dst z env) _) hv hK⟩
 | indexStr x i => obtain ⟨v, hv, rfl, rfl⟩ := pureE_some h; exact aindexStrE_s (φ := fun z => K (put dst z env) _) hv hK
 | indexArr n x i => obtain ⟨v, hv, rfl, rfl⟩ := pureE_some h; exact aindexArrE_s (φ := fun z => K (put dst z env) _) hv hK
 | slice esz x lo hi m => obtain ⟨v, hv, rfl, rfl⟩ := pureE_some h; exact asliceXE_s (φ := fun z => K (put dst z env) _) hv hK
 | sliceStr x lo hi => obtain ⟨v, hv, rfl, rfl⟩ := pureE_some h; exact asliceStrE_s (φ := fun z => K (put dst z env) _) hv hK
 | len kd x =>
   simp only [aopE] at h
   split at h <;> try cases h
   rename_i hl
   obtain ⟨v, hv, rfl, rfl⟩ := pureE_some h
   exact ⟨lenOkB_s hl, alenE_s (φ := fun z => K (put dst z env) _) hv hK⟩
 | append esz bytes s x =>
   simp only [aopE] at h
   split at h <;> cases h
   rename_i hs
   exact aappendE_s (φ := fun zs => K (put dst (.lst esz zs) (unslotE env s.slot)) _) hs hK
 | mkarr esz bytes z n =>
   simp only [aopE] at h
   split at h <;> cases h
   rename_i hs
   exact amkarrE_s (esz := esz) (K := fun v H' => K (put dst v env) H') hs hK
 | mkbuf esz bytes n => obtain ⟨v, hv, rfl, rfl⟩ := pureE_some h; exact amkbufE_s (φ := fun z => K (put dst z env) _) hv hK
 | mkmap => simp only [aopE] at h; cases h; exact hK
 | storeW m a x => simp only [aopE] at h; cases h
 | loadf sz esz a =>
   simp only [aopE] at h
   split at h <;> try cases h
   rename_i z hz
   split at h <;> cases h
   rename_i v H2 hs
   exact aloadE_s (φ := fun z => asetf esz z H fun y H' => K (put dst y env) H') hz (asetfXE_s (K := fun v H' => K (put dst v env) H') hs hK)
 | litA esz z len ps => simp only [aopE] at h; cases h
 | appendA esz bytes z s x => simp only [aopE] at h; cases h
 | clearA esz z x => simp only [aopE] at h; cases h
 | sliceZ esz x lo hi mx => simp only [aopE] at h; cases h
 | lookup kd z m k ok => obtain ⟨v, hv, rfl, rfl⟩ := pureE_some h; exact alookupE_s (φ := fun z => K (put dst z env) _) hv hK
 | mapset kd m k x =>
   simp only [aopE] at h
   split at h <;> cases h
   rename_i hs
   exact amapsetE_s hs hK
 | fn f first cap => simp only [aopE] at h; cases h; exact hK
 | extract x i => obtain ⟨v, hv, rfl, rfl⟩ := pureE_some h; exact aextractE_s (φ := fun z => K (put dst z env) _) hv hK
 | call f args pass =>
   simp only [aopE] at h
   simp only [aop, acall]
   split at h <;> try cases h
   ·rename_i g first cap e
    split at h <;> cases h
    rename_i r hr
    rw [e]
    refine ⟨_, LeL_refl _, XCalls.of <| (callB_s hC hr).mono ?_⟩
    rintro r' H'' ⟨rfl, rfl⟩
    exact hK
   ·rename_i id e
    split at h <;> cases h
    rename_i r hr
    rw [e]
    refine ⟨_, LeL_refl _, YCallsX.mono (hC.2 _ _ _ _ _ hr) ?_⟩
    rintro r' H'' ⟨rfl, rfl⟩
    exact hK
 | convInt k x => obtain ⟨v, hv, rfl, rfl⟩ := pureE_some h; exact aconvIntE_s (φ := fun z => K (put dst z env) _) hv hK
 | convStr x => obtain ⟨v, hv, rfl, rfl⟩ := pureE_some h; exact aconvStrE_s (φ := fun z => K (put dst z env) _) hv hK
 | bytesOf x => obtain ⟨v, hv, rfl, rfl⟩ := pureE_some h; exact abytesOfE_s (φ := fun z => K (put dst z env) _) hv hK
 | strOf x => obtain ⟨v, hv, rfl, rfl⟩ := pureE_some h; exact astrOfE_s (φ := fun z => K (put dst z env) _) hv hK
 | mx big a b => obtain ⟨v, hv, rfl, rfl⟩ := pureE_some h; exact amxE_s (φ := fun z => K (put dst z env) _) hv hK
 | copy esz d s =>
   simp only [aopE] at h
   split at h <;> cases h
   rename_i hs
   exact acopyE_s (K := fun v H' => K (put dst v env) H') hs hK
 | setf esz x =>
   simp only [aopE] at h
   split at h <;> cases h
   rename_i hs
   exact asetfE_s (K := fun v H' => K (put dst v env) H') hs hK
 | never => cases h
def dvalE (C : CallE) (o : IOp) (ρ : IX → AV) (H : List AObj) : Option AV :=
 match o with
 | .set i false => some (ρ i).unown
 | .pick c a b => match ρ c with | .bool true => some (ρ a).unown | .bool false => some (ρ b).unown | _ => none
 | .bin op i j => abinE op (ρ i) (ρ j)
 | .shift op i j => ashiftE op (ρ i) (ρ j)
 | .eqBool neq i j => aeqBoolE neq (ρ i) (ρ j)
 | .eqNil kd neq i => aeqNilE kd neq (ρ i)
 | .un op i => aunE op (ρ i)
 | .boxi i => if (ρ i).val = true then some (.iptr (ρ i)) else none
 | .build z ps => (afillE z.cells (ps.map fun q => (q.1, q.2.1, ρ q.2.2))).map .agg
 | .buildSlice own esz z len ps => (absliceE (List.replicate len (canon z)) esz (ps.map fun q => (q.1, ρ q.2))).map (.lst own)
 | .load sz i => aloadE sz (ρ i) H
 | .nilCheck i => anilCheckE (ρ i)
 | .fieldAddr off sz i => afieldAddrE off sz (ρ i)
 | .field off sz i => afieldE off sz (ρ i)
 | .indexAddr esz i j => if lensOk esz (ρ i) = true then aindexAddrE esz (ρ i) (ρ j) else none
 | .indexStr i j => aindexStrE (ρ i) (ρ j)
 | .indexArr n i j => aindexArrE n (ρ i) (ρ j)
 | .slice esz i lo hi m => asliceXE esz (ρ i) (lo.map ρ) (hi.map ρ) (m.map ρ)
 | .sliceStr i lo hi => asliceStrE (ρ i) (lo.map ρ) (hi.map ρ)
 | .len kd i => if lenOkB kd (ρ i) = true then alenE (ρ i) H else none
 | .lookup kd z m k ok => alookupE kd z (ρ m) (ρ k) ok H
 | .fn f first cap => some (.fn f (first.map fun x => (ρ x).unown) (cap.map fun x => (ρ x).unown))
 | .extract i k => aextractE (ρ i) k
 | .call f args none => match ρ f with
   | .fn (.func g) first cap => match callB C g (first.map AV.unown ++ (args.map fun x => (ρ x).unown) ++ cap.map AV.unown) H with
     | some (r, H') => if beqH H' H = true then some r else none
     | none => none
   | _ => none
 | .convInt k i => aconvIntE k (ρ i)
 | .convStr i => aconvStrE (ρ i)
 | .bytesOf i => abytesOfE 1 (ρ i)
 | .mkbuf esz bytes i => amkbufE esz bytes (ρ i)
 | .strOf i => astrOfE (ρ i)
 | .mx big i j => amxE big (ρ i) (ρ j)
 | _ => none
theorem dvalE_s {P : Program} {C : CallE} (hC : CallOk P C) {o : IOp} {ρ : IX → AV} {H : List AObj} {v : AV} (h : dvalE C o ρ H = some v) : dval P o ρ H v := by
 cases o with
 | set i take =>
   cases take with
   | true => cases h
   | false => simp only [dvalE] at h; cases h; rfl
 | pick c a b =>
   simp only [dvalE] at h
   simp only [dval]
   split at h <;> cases h
   ·rename_i e; rw [e]; exact ⟨fun _ => rfl, fun e => by cases e⟩
   ·rename_i e; rw [e]; exact ⟨fun e => (by cases e), fun _ => rfl⟩
 | bin op x y => exact abinE_s (φ := fun z => z = v) h rfl
 | shift op x y => exact ashiftE_s (φ := fun z => z = v) h rfl
 | eqBool op x y => exact aeqBoolE_s (φ := fun z => z = v) h rfl
 | eqNil kd neq x => exact aeqNilE_s (φ := fun z => z = v) h rfl
 | un op x => exact aunE_s (φ := fun z => z = v) h rfl
 | boxi x =>
   simp only [dvalE] at h
   split at h <;> cases h
   rename_i hc
   exact ⟨hc, rfl⟩
 | build z ps =>
   obtain ⟨u, hu, rfl⟩ := Option.map_eq_some_iff.1 h
   exact afillE_s (φ := fun xs => AV.agg xs = .agg u) rfl hu
 | buildSlice own esz z len ps =>
   obtain ⟨u, hu, rfl⟩ := Option.map_eq_some_iff.1 h
   exact absliceE_s (φ := fun xs => AV.lst own xs = .lst own u) rfl hu
 | load sz a => exact aloadE_s (φ := fun z => z = v) h rfl
 | nilCheck x => exact anilCheckE_s (φ := fun z => z = v) h rfl
 | fieldAddr off sz x => exact afieldAddrE_s (φ := fun z => z = v) h rfl
 | field off sz x => exact afieldE_s (φ := fun z => z = v) h rfl
 | indexAddr esz x i =>
   simp only [dvalE] at h
   split at h <;> try cases h
   rename_i hl
   exact ⟨lensOk_s hl, aindexAddrE_s (φ := fun z => z = v) h rfl⟩
 | indexStr x i => exact aindexStrE_s (φ := fun z => z = v) h rfl
 | indexArr n x i => exact aindexArrE_s (φ := fun z => z = v) h rfl
 | slice esz x lo hi m => exact asliceXE_s (φ := fun z => z = v) h rfl
 | mkbuf esz bytes n => exact amkbufE_s (φ := fun z => z = v) h rfl
 | sliceStr x lo hi => exact asliceStrE_s (φ := fun z => z = v) h rfl
 | len kd x =>
   simp only [dvalE] at h
   split at h <;> try cases h
   rename_i hl
   exact ⟨lenOkB_s hl, alenE_s (φ := fun z => z = v) h rfl⟩
 | lookup kd z m k ok => exact alookupE_s (φ := fun z => z = v) h rfl
 | fn f first cap => simp only [dvalE] at h; cases h; rfl
 | extract x i => exact aextractE_s (φ := fun z => z = v) h rfl
 | call f args pass =>
   cases pass with
   | some _ => cases h
   | none =>
     simp only [dvalE] at h
     simp only [dval]
     split at h <;> try cases h
     rename_i g first cap e
     split at h <;> try cases h
     rename_i r H' hr
     split at h <;> cases h
     rename_i hb
     rw [e]
     refine ⟨_, LeL_refl _, (callB_s hC hr).mono ?_⟩
     rintro r' H'' ⟨rfl, rfl⟩
     exact ⟨rfl, beqH_s hb⟩
 | convInt k x => exact aconvIntE_s (φ := fun z => z = v) h rfl
 | convStr x => exact aconvStrE_s (φ := fun z => z = v) h rfl
 | bytesOf x => exact abytesOfE_s (φ := fun z => z = v) h rfl
 | strOf x => exact astrOfE_s (φ := fun z => z = v) h rfl
 | mx big a b => exact amxE_s (φ := fun z => z = v) h rfl
 | _ => cases h
def opsE (C : CallE) : List IOper → Env → List AObj → Option (Env × List AObj)
 | [], env, H => some (env, H)
 | o :: r, env, H => match o.g with
   | none => match aopE C o.op o.dst env H with
     | some (env, H) => opsE C r env H
     | none => none
   | some (g, want) => match get env g with
     | .bool b => if b = want then (match aopE C o.op o.dst ((g, .bool want) :: env) H with
        | some (env, H) => opsE C r env H
        | none => none) else opsE C r (put o.dst (.tuple []) ((g, .bool (!want)) :: env)) H
     | .tuple [] => opsE C r (put o.dst (.tuple []) env) H
     | _ => none
theorem opsE_s {P : Program} {C : CallE} (hC : CallOk P C) : ∀ {l : List IOper} {env env' : Env} {H H' : List AObj} {K : Env → List AObj → Prop}, opsE C l env H = some (env', H') → K env' H' → aops P l env H K
 | [], env, env', H, H', K, h, hK => by simp only [opsE] at h; cases h; exact hK
 | o :: r, env, env', H, H', K, h, hK => by
   simp only [opsE] at h
   simp only [aops, agd]
   cases hg : o.g with
   | none =>
     simp only [hg] at h ⊢
     split at h <;> try cases h
     rename_i e2 H2 h2
     exact aopE_s (K := fun env H => aops P r env H K) hC h2 (opsE_s hC h hK)
   | some p =>
     obtain ⟨g, want⟩ := p
     simp only [hg] at h ⊢
     simp only [aguard]
     split at h
     rotate_left
     ·rename_i hb
      simp only [hb]
      exact opsE_s hC h hK
     ·cases h
     rename_i b hb
     simp only [hb]
     split at h
     ·rename_i hbw
      subst hbw
      split at h <;> try cases h
      rename_i e2 H2 h2
      exact ⟨fun _ => aopE_s (K := fun env H => aops P r env H K) hC h2 (opsE_s hC h hK), fun e => by cases b <;> cases e⟩
     ·rename_i hbw
      exact ⟨fun e => absurd e hbw, fun _ => opsE_s hC h hK⟩
def dvE (C : CallE) (st : Bool) (o : IOp) (ρ : IX → AV) (H : List AObj) : Option AV :=
 match st with
 | true => dvalE C o ρ H
 | false => match o with
   | .load sz i => (match ρ i with | .iptr y => aloadE sz (.iptr y) [] | _ => none)
   | .call f args none => (match ρ f with
     | .fn (.func g) first cap => if belowL 0 (first.map AV.unown ++ (args.map fun x => (ρ x).unown) ++ cap.map AV.unown) = true then (match C false g (first.map AV.unown ++ (args.map fun x => (ρ x).unown) ++ cap.map AV.unown) [] with
       | some (r, []) => some r
       | _ => none) else none
     | _ => none)
   | .call _ _ _ => none
   | .len kd i => (match ρ i with | .map _ => none | _ => dvalE C o ρ [])
   | .lookup kd z m k ok => (match ρ m with | .nilm => dvalE C o ρ [] | _ => none)
   | o => dvalE C o ρ []
theorem alen_any {x : AV} {H H' : List AObj} {φ : AV → Prop} (h : alen x H φ) (hm : ∀ id, x ≠ .map id) : alen x H' φ := by
 unfold alen at *
 split at h <;> first | exact h | exact h.elim | exact absurd rfl (hm _)
theorem dvE_s {P : Program} {C : CallE} (hC : CallOk P C) {st : Bool} {o : IOp} {ρ : IX → AV} {H : List AObj} {v : AV} (h : dvE C st o ρ H = some v) : dv P st o ρ H v := by
 cases st with
 | true => exact dvalE_s hC h
 | false =>
   intro H'
   simp only [dvE] at h
   split at h
   ·split at h <;> try cases h
    rename_i sz i y hy
    simp only [dval]
    rw [hy]
    have := aloadE_s (φ := fun z => z = v) h rfl
    unfold aload at this ⊢
    exact this
   ·rename_i f args
    split at h <;> try cases h
    rename_i g first cap hf
    split at h <;> try cases h
    rename_i hb
    split at h <;> cases h
    rename_i hr
    simp only [dval, hf]
    exact ⟨_, LeL_refl _, ACalls.frame (R := fun r => r = v) (fun x hx => (belowL_iff 0 _).1 hb x hx) (hC.1 _ _ _ _ _ hr) H'⟩
   ·cases h
   ·rename_i kd i
    split at h
    ·cases h
    ·rename_i hne
     have := dvalE_s hC h
     simp only [dval] at this ⊢
     exact ⟨this.1, alen_any this.2 hne⟩
   ·rename_i kd z m k ok
    split at h <;> try cases h
    rename_i hm
    have := dvalE_s hC h
    simp only [dval, hm, alookup] at this ⊢
    exact this
   ·rename_i _ h1 h0 h2 h3 h4
    have := dvalE_s hC h
    cases o <;> first | exact this | exact (h1 _ _ rfl).elim | exact (h2 _ _ _ rfl).elim | exact (h3 _ _ rfl).elim | exact (h4 _ _ _ _ _ rfl).elim | (rename_i take; cases take <;> exact this)
def beqE : Env → Env → Bool
 | [], [] => true
 | (a, x) :: r, (b, y) :: s => a == b && x.beq y && beqE r s
 | _, _ => false
theorem beqE_s : ∀ {xs ys : Env}, beqE xs ys = true → xs = ys
 | [], [], _ => rfl
 | (a, x) :: r, (b, y) :: s, h => by
   simp only [beqE, Bool.and_eq_true, beq_iff_eq] at h
   rw [h.1.1, AV.beq_s h.1.2, beqE_s h.2]
 | [], _ :: _, h => by simp [beqE] at h
 | _ :: _, [], h => by simp [beqE] at h
def agdE (C : CallE) (o : IOper) (env : Env) (H : List AObj) : Option (Env × List AObj) := opsE C [o] env H
theorem agdE_s {P : Program} {C : CallE} (hC : CallOk P C) {o : IOper} {env env' : Env} {H H' : List AObj} {K : Env → List AObj → Prop} (h : agdE C o env H = some (env', H')) (hK : K env' H') : agd P o env H K := opsE_s hC h hK
def takeE (C : CallE) (st : Bool) (o : IOper) (env : Env) (H : List AObj) : Option Env :=
 match o.g with
 | none => match dvE C st o.op (aval env) H with
   | some x => some (put o.dst x env)
   | none => none
 | some (g, want) => match get env g with
   | .bool b => if b = want then (match dvE C st o.op (aval env) H with
      | some x => some (put o.dst x env)
      | none => none) else some (put o.dst (.tuple []) env)
   | .tuple [] => some (put o.dst (.tuple []) env)
   | _ => none
theorem takeE_s {P : Program} {C : CallE} (hC : CallOk P C) {st : Bool} {o : IOper} {env env' : Env} {H : List AObj} {K : Env → Prop} (h : takeE C st o env H = some env') (hK : K env') : atake P st o env H K := by
 unfold takeE at h
 unfold atake
 cases hg : o.g with
 | none =>
   simp only [hg] at h ⊢
   split at h <;> cases h
   rename_i x hx
   exact ⟨x, dvE_s hC hx, hK⟩
 | some p =>
   obtain ⟨g, want⟩ := p
   simp only [hg] at h ⊢
   simp only [aguard]
   split at h
   rotate_left
   ·rename_i hb
    simp only [hb]
    cases h
    exact hK
   ·cases h
   rename_i b hb
   simp only [hb]
   split at h
   ·rename_i hbw
    subst hbw
    split at h <;> cases h
    rename_i x hx
    exact ⟨fun _ => ⟨x, dvE_s hC hx, hK⟩, fun e => by cases b <;> cases e⟩
   ·rename_i hbw
    cases h
    exact ⟨fun e => absurd e hbw, fun _ => hK⟩
abbrev Outs := List (Env × List AObj)
def memD (x : Env × List AObj) : Outs → Bool
 | [] => false
 | y :: r => match beqE x.1 y.1 && beqH x.2 y.2 with | true => true | false => memD x r
def unionD (l : Outs) : Outs → Outs
 | [] => l
 | x :: r => match memD x l with | true => unionD l r | false => x :: unionD l r
theorem memD_s {x : Env × List AObj} : ∀ {l : Outs}, memD x l = true → x ∈ l
 | [], h => by cases h
 | y :: r, h => by
   unfold memD at h
   split at h
   ·rename_i e
    simp only [Bool.and_eq_true] at e
    have e1 := beqE_s e.1
    have e2 := beqH_s e.2
    have : x = y := by cases x; cases y; simp only at e1 e2; rw [e1, e2]
    rw [this]; exact List.mem_cons_self
   ·exact List.mem_cons_of_mem _ (memD_s h)
theorem unionD_s {l : Outs} : ∀ {m : Outs}, (∀ x ∈ l, x ∈ unionD l m) ∧ ∀ x ∈ m, x ∈ unionD l m
 | [] => ⟨fun x h => h, fun x h => by cases h⟩
 | y :: r => by
   obtain ⟨h1, h2⟩ := unionD_s (l := l) (m := r)
   unfold unionD
   split
   ·rename_i e
    refine ⟨h1, fun x hx => ?_⟩
    rcases List.mem_cons.1 hx with rfl | hx
    ·exact h1 _ (memD_s e)
    ·exact h2 x hx
   ·refine ⟨fun x hx => List.mem_cons_of_mem _ (h1 x hx), fun x hx => ?_⟩
    rcases List.mem_cons.1 hx with rfl | hx
    ·exact List.mem_cons_self
    ·exact List.mem_cons_of_mem _ (h2 x hx)
def dtE (C : CallE) (live : Option (List Nat)) : DT → Env → List AObj → Option Outs
 | .done, env, H => some [(prune live env, H)]
 | .take st o r, env, H => match takeE C st o env H with
   | some env' => dtE C live r env' H
   | none => none
 | .br o t .nil, env, H => match agdE C o env H with
   | some (env', H') => dtE C live t env' H'
   | none => none
 | .br o t rest, env, H => match agdE C o env H with
   | some (env', H') => match dtE C live t env' H', dtE C live rest env H with
     | some l1, some l2 => some (unionD l1 l2)
     | _, _ => none
   | none => none
 | .nil, _, _ => none
theorem dtE_s {P : Program} {C : CallE} (hC : CallOk P C) {live : Option (List Nat)} : ∀ {t : DT} {env : Env} {H : List AObj} {l : Outs} {K : Env → List AObj → Prop}, dtE C live t env H = some l → (∀ o ∈ l, K o.1 o.2) → adt P t env H fun e H => K (prune live e) H := by
 intro t
 induction t with
 | done => intro env H l K h hK; simp only [dtE] at h; cases h; exact hK _ List.mem_cons_self
 | nil => intro env H l K h hK; simp [dtE] at h
 | take st o r ih =>
   intro env H l K h hK
   simp only [dtE] at h
   split at h <;> try cases h
   rename_i e2 he
   exact takeE_s (K := fun env => adt P r env H fun e H => K (prune live e) H) hC he (ih h hK)
 | br o t rest iht ihr =>
   intro env H l K h hK
   have key : ∀ rest', (∀ {env : Env} {H : List AObj} {l : Outs} {K : Env → List AObj → Prop}, dtE C live rest' env H = some l → (∀ o ∈ l, K o.1 o.2) → adt P rest' env H fun e H => K (prune live e) H) → rest' = rest →
    ((match agdE C o env H with
    | some (env', H') => match dtE C live t env' H', dtE C live rest' env H with
      | some l1, some l2 => some (unionD l1 l2)
      | _, _ => none
    | none => none) = some l) → adt P (.br o t rest') env H fun e H => K (prune live e) H := by
    intro rest' ihr' _ h
    split at h <;> try cases h
    rename_i e2 H2 h2
    split at h <;> try cases h
    rename_i l1 l2 h3 h4
    obtain ⟨u1, u2⟩ := unionD_s (l := l1) (m := l2)
    exact ⟨agdE_s (K := fun env H => adt P t env H fun e H => K (prune live e) H) hC h2 (iht h3 fun o ho => hK o (u1 o ho)), ihr' h4 fun o ho => hK o (u2 o ho)⟩
   cases rest with
   | nil =>
     simp only [dtE] at h
     split at h <;> try cases h
     rename_i e2 H2 h2
     exact ⟨agdE_s (K := fun env H => adt P t env H fun e H => K (prune live e) H) hC h2 (iht h hK), trivial⟩
   | done => exact key _ (fun h hK => ihr h hK) rfl (by simpa only [dtE] using h)
   | take st o' r => exact key _ (fun h hK => ihr h hK) rfl (by simpa only [dtE] using h)
   | br o' t' r => exact key _ (fun h hK => ihr h hK) rfl (by simpa only [dtE] using h)
end Go.Abs
