/- A memory-free reading of the model's values (part 20): code that is run. -/
import Derived.Test.YtljchnfgjdjobaaGreatQad
set_option linter.unusedVariables false
set_option linter.unusedSimpArgs false
set_option linter.defProp false
set_option linter.unusedSectionVars false
namespace Go.aK
open Go
def PY : Fn → Fn → Bool
 | .func a, .func b => a == b
 | _, _ => false
mutual
def AV.beq : AV → AV → Bool
 | .any, .any => true
 | .bool a, .bool b => a == b
 | .int k a, .int l b => decide (k = l) && decide (a = b)
 | .str a, .str b => decide (a = b)
 | .ah, .ah => true
 | .ap o xs, .ap p ys => decide (o = p) && uM xs ys
 | .bg a b c d, .bg e f g h => decide (a = e) && decide (b = f) && decide (c = g) && decide (d = h)
 | .agg xs, .agg ys => uM xs ys
 | .tuple xs, .tuple ys => uM xs ys
 | .ptr a b, .ptr c d => decide (a = c) && decide (b = d)
 | .ai x, .ai y => x.beq y
 | .qO, .qO => true
 | .map a, .map b => decide (a = b)
 | .iA, .iA => true
 | .fn f xs ys, .fn g us vs => PY f g && uM xs us && uM ys vs
 | .fq, .fq => true
 | .iface t x, .iface u y => decide (t = u) && x.beq y
 | .wb, .wb => true
 | _, _ => false
def uM : List AV → List AV → Bool
 | [], [] => true
 | x :: xs, y :: ys => x.beq y && uM xs ys
 | _, _ => false
end
theorem PZ {f g : Fn} (h : PY f g = true) : f = g := by
 unfold PY at h
 split at h
 ·simp at h; rw [h]
 ·cases h
mutual
theorem AV.qf : ∀ {x y : AV}, x.beq y = true → x = y := by
 intro x y h
 cases x <;> cases y <;> simp only [AV.beq, Bool.and_eq_true, decide_eq_true_eq, Bool.false_eq_true, beq_iff_eq] at h <;> first
  | rfl
  | (subst h; rfl)
  | (obtain ⟨rfl, rfl⟩ := h; rfl)
  | (obtain ⟨⟨⟨rfl, rfl⟩, rfl⟩, rfl⟩ := h; rfl)
  | (rw [rk h])
  | (rw [AV.qf h])
  | (obtain ⟨rfl, h⟩ := h; rw [rk h])
  | (obtain ⟨rfl, h⟩ := h; rw [AV.qf h])
  | (obtain ⟨⟨h1, h2⟩, h3⟩ := h; rw [PZ h1, rk h2, rk h3])
theorem rk : ∀ {xs ys : List AV}, uM xs ys = true → xs = ys
 | [], [], _ => rfl
 | x :: xs, y :: ys, h => by
   simp only [uM, Bool.and_eq_true] at h
   rw [AV.qf h.1, rk h.2]
 | [], _ :: _, h => by simp [uM] at h
 | _ :: _, [], h => by simp [uM] at h
end
def Gm : List (AV × AV) → List (AV × AV) → Bool
 | [], [] => true
 | (a, b) :: xs, (c, d) :: ys => a.beq c && b.beq d && Gm xs ys
 | _, _ => false
theorem Iu : ∀ {xs ys : List (AV × AV)}, Gm xs ys = true → xs = ys
 | [], [], _ => rfl
 | (a, b) :: xs, (c, d) :: ys, h => by
   simp only [Gm, Bool.and_eq_true] at h
   rw [AV.qf h.1.1, AV.qf h.1.2, Iu h.2]
 | [], _ :: _, h => by simp [Gm] at h
 | _ :: _, [], h => by simp [Gm] at h
def aa.beq : aa → aa → Bool
 | .dead, .dead => true
 | .cells a, .cells b => uM a b
 | .map a, .map b => Gm a b
 | _, _ => false
theorem aa.qf {x y : aa} (h : x.beq y = true) : x = y := by
 unfold aa.beq at h
 split at h
 ·rfl
 ·rw [rk h]
 ·rw [Iu h]
 ·cases h
def Bg : List aa → List aa → Bool
 | [], [] => true
 | x :: xs, y :: ys => x.beq y && Bg xs ys
 | _, _ => false
theorem ze : ∀ {xs ys : List aa}, Bg xs ys = true → xs = ys
 | [], [], _ => rfl
 | x :: xs, y :: ys, h => by
   simp only [Bg, Bool.and_eq_true] at h
   rw [aa.qf h.1, ze h.2]
 | [], _ :: _, h => by simp [Bg] at h
 | _ :: _, [], h => by simp [Bg] at h
abbrev gI := Bool → Nat → List AV → List aa → Option (AV × List aa)
def EV (C : gI) (g : Nat) (args : List AV) (H : List aa) : Option (AV × List aa) :=
 match aj 0 args with
 | true => match C false g args [] with
   | some (r, []) => some (r, H)
   | _ => C false g args H
 | false => C false g args H
def dM (H : List aa) (dst : Option Nat) (env : Env) (z : Option AV) : Option (Env × List aa) := match z with | some z => some (put dst z env, H) | none => none
def gD (C : gI) (o : bV) (dst : Option Nat) (env : Env) (H : List aa) : Option (Env × List aa) :=
 match o with
 | .set x take => match dst with | some d => some (sU env d x take, H) | none => some (env, H)
 | .pick c a b => match al env c with
   | .bool true => some (put dst (al env a).ab env, H)
   | .bool false => some (put dst (al env b).ab env, H)
   | _ => none
 | .bin op x y => dM H dst env (ER op (al env x) (al env y))
 | .shift op x y => dM H dst env (tv op (al env x) (al env y))
 | .gM neq x y => dM H dst env (pV neq (al env x) (al env y))
 | .iQ kd neq x => dM H dst env (tw kd neq (al env x))
 | .un op x => dM H dst env (LB op (al env x))
 | .box x => if (al env x).val = true ∧ aj (H.length + 1) ((al env x).cells.map AV.ab) = true then some (put dst (.ptr H.length 0) env, H ++ [.cells ((al env x).cells.map AV.ab)]) else none
 | .k9 x => if (al env x).val = true then some (put dst (.ai (al env x)) env, H) else none
 | .qQ m x => if (al env x).val = true ∧ (al env x).cells.length = m ∧ (al env x).cells.all AV.one = true then some (put dst (.ai (al env x)) env, H) else none
 | .alloc z => if aj (H.length + 1) (z.cells.map AV.ab) = true then some (put dst (.ptr H.length 0) env, H ++ [.cells (z.cells.map AV.ab)]) else none
 | .build z ps => dM H dst env ((ri z.cells (ps.map fun q => (q.1, q.2.1, al env q.2.2))).map .agg)
 | .buildSlice own esz z len ps => dM H dst env ((kF (List.replicate len (aS z)) esz (ps.map fun q => (q.1, al env q.2))).map (.ap own))
 | .load sz a => dM H dst env (oY sz (al env a) H)
 | .dZ a => match dst, al env a with
   | some d, .ptr id off => match H[id]? with
     | some (.cells es) => if off < es.length then some ((d, es.getD off .any) :: env, H.set id (.cells (es.set off (es.getD off .any).ab))) else none
     | _ => none
   | _, _ => none
 | .store m a x => match y9 m (al env a) (al env x) H with | some H' => some (env, H') | none => none
 | .mH _ _ _ => none
 | .rY sz esz a => match oY sz (al env a) H with
   | some z => match zd esz z H with
     | some (v, H') => some (put dst v env, H')
     | none => none
   | none => none
 | .eT a s => match rj (al env a) (get env s) H with | some H' => some ((s, (get env s).ab) :: env, H') | none => none
 | .nilCheck x => dM H dst env (lG (al env x))
 | .fieldAddr off sz x => dM H dst env (jQ off sz (al env x))
 | .field off sz x => dM H dst env (tx off sz (al env x))
 | .indexAddr esz x i => if uC esz (al env x) = true then dM H dst env (jR esz (al env x) (al env i)) else none
 | .cZ x i => dM H dst env (lF (al env x) (al env i))
 | .dG n x i => dM H dst env (lE n (al env x) (al env i))
 | .slice esz x lo hi m => dM H dst env (pX esz (al env x) (gg env lo) (gg env hi) (gg env m))
 | .dH x lo hi => dM H dst env (lI (al env x) (gg env lo) (gg env hi))
 | .len kd x => if y8 kd (al env x) = true then dM H dst env (ES (al env x) H) else none
 | .append esz bytes s x => match uD esz bytes (al env s) (al env x) with | some zs => some (put dst (.ap esz zs) (cC env s.slot), H) | none => none
 | .rZ esz bytes z n => match za bytes z (al env n) H with | some (v, H') => some (put dst v env, H') | none => none
 | .mI esz bytes n => dM H dst env (tA esz bytes (al env n))
 | .mJ => some (put dst (.map H.length) env, H ++ [.map []])
 | .Ax .. => none
 | .iS .. => none
 | .mK .. => none
 | .oN .. => none
 | .lookup kd z m k ok => dM H dst env (pY kd z (al env m) (al env k) ok H)
 | .jW kd m k x => match uF kd (al env m) (al env k) (al env x) H with | some H' => some (env, H') | none => none
 | .fn f first cap => some (put dst (.fn f (first.map fun x => (al env x).ab) (cap.map fun x => (al env x).ab)) env, H)
 | .extract x i => dM H dst env (nQ (al env x) i)
 | .call f args pass => match al env f with
   | .fn (.func g) first cap => match EV C g (first.map AV.ab ++ aE env pass 0 args ++ cap.map AV.ab) H with
     | some (r, H') => some (put dst r (cC env (bc args pass)), H')
     | none => none
   | .mF id => match C true id (aE env pass 0 args) H with
     | some (r, H') => some (put dst r (cC env (bc args pass)), H')
     | none => none
   | _ => none
 | .eB k x => dM H dst env (nR k (al env x))
 | .fZ x => dM H dst env (nS (al env x))
 | .bytesOf x => dM H dst env (nT 1 (al env x))
 | .strOf x => dM H dst env (tB (al env x))
 | .mx big a b => dM H dst env (LC big (al env a) (al env b))
 | .copy esz d s => match Dr esz (al env d) (al env s) H with | some (v, H') => some (put dst v env, H') | none => none
 | .yv esz x => match oZ esz (al env x) H with | some (v, H') => some (put dst v env, H') | none => none
 | .never => none
def km (P : Program) (C : gI) : Prop := (∀ g args H r H', C false g args H = some (r, H') → aq P g args H fun r' H'' => r' = r ∧ H'' = H') ∧
 ∀ id args H r H', C true id args H = some (r, H') → jn P id args H fun r' H'' => r' = r ∧ H'' = H'
theorem EW {P : Program} {C : gI} (hC : km P C) {g : Nat} {args : List AV} {H H' : List aa} {r : AV} (h : EV C g args H = some (r, H')) : aq P g args H fun r' H'' => r' = r ∧ H'' = H' := by
 unfold EV at h
 split at h
 ·rename_i hb
  split at h
  ·rename_i hr
   cases h
   exact aq.frame (R := fun r' => r' = r) (fun x hx => (a9 0 _).1 hb x hx) (hC.1 _ _ _ _ _ hr) H
  ·exact hC.1 _ _ _ _ _ h
 ·exact hC.1 _ _ _ _ _ h
theorem b8 : ∀ xs, xh xs xs
 | [] => trivial
 | x :: xs => ⟨le_refl _, b8 xs⟩
theorem ba {H H' : List aa} {dst : Option Nat} {env aC : Env} {z : Option AV} (h : dM H dst env z = some (aC, H')) : ∃ v, z = some v ∧ aC = put dst v env ∧ H' = H := by
 unfold dM at h
 split at h <;> cases h
 exact ⟨_, rfl, rfl, rfl⟩
theorem Iv {P : Program} {C : gI} (hC : km P C) {o : bV} {dst : Option Nat} {env aC : Env} {H H' : List aa} {K : Env → List aa → Prop} (h : gD C o dst env H = some (aC, H')) (hK : K aC H') : bp P o dst env H K := by
 cases o with
 | set x take =>
   simp only [gD] at h
   simp only [bp]
   split at h <;> cases h <;> exact hK
 | pick c a b =>
   simp only [gD] at h
   simp only [bp]
   split at h <;> cases h
   ·rename_i e; rw [e]; exact ⟨fun _ => hK, fun e => by cases e⟩
   ·rename_i e; rw [e]; exact ⟨fun e => (by cases e), fun _ => hK⟩
 | bin op x y => obtain ⟨v, hv, rfl, rfl⟩ := ba h; exact ET (φ := fun z => K (put dst z env) _) hv hK
 | shift op x y => obtain ⟨v, hv, rfl, rfl⟩ := ba h; exact xp (φ := fun z => K (put dst z env) _) hv hK
 | gM op x y => obtain ⟨v, hv, rfl, rfl⟩ := ba h; exact uG (φ := fun z => K (put dst z env) _) hv hK
 | iQ kd neq x => obtain ⟨v, hv, rfl, rfl⟩ := ba h; exact xq (φ := fun z => K (put dst z env) _) hv hK
 | un op x => obtain ⟨v, hv, rfl, rfl⟩ := ba h; exact Ir (φ := fun z => K (put dst z env) _) hv hK
 | box x =>
   simp only [gD] at h
   split at h <;> cases h
   rename_i hc
   exact ⟨hc.1, hc.2, hK⟩
 | k9 x =>
   simp only [gD] at h
   split at h <;> cases h
   rename_i hc
   exact ⟨hc, hK⟩
 | qQ m x =>
   simp only [gD] at h
   split at h <;> cases h
   rename_i hc
   exact ⟨hc.1, hc.2.1, hc.2.2, hK⟩
 | alloc z =>
   simp only [gD] at h
   split at h <;> cases h
   rename_i hc
   exact ⟨hc, hK⟩
 | build z ps =>
   obtain ⟨v, hv, rfl, rfl⟩ := ba h
   obtain ⟨u, hu, rfl⟩ := Option.map_eq_some_iff.1 hv
   exact uH (φ := fun xs => K (put dst (.agg xs) env) H') hK hu
 | buildSlice own esz z len ps =>
   obtain ⟨v, hv, rfl, rfl⟩ := ba h
   obtain ⟨u, hu, rfl⟩ := Option.map_eq_some_iff.1 hv
   exact o6 (φ := fun xs => K (put dst (.ap own xs) env) H') hK hu
 | load sz a => obtain ⟨v, hv, rfl, rfl⟩ := ba h; exact m8 (φ := fun z => K (put dst z env) _) hv hK
 | dZ a =>
   simp only [gD] at h
   simp only [bp]
   split at h <;> try cases h
   rename_i e
   simp only [e]
   split at h <;> try cases h
   rename_i bm
   simp only [bm]
   split at h <;> cases h
   exact ⟨by assumption, hK⟩
 | store m a x =>
   simp only [gD] at h
   split at h <;> cases h
   rename_i hs
   exact Gh hs hK
 | eT a s =>
   simp only [gD] at h
   split at h <;> cases h
   rename_i hs
   exact Be hs hK
 | nilCheck x => obtain ⟨v, hv, rfl, rfl⟩ := ba h; exact qd (φ := fun z => K (put dst z env) _) hv hK
 | fieldAddr off sz x => obtain ⟨v, hv, rfl, rfl⟩ := ba h; exact oE (φ := fun z => K (put dst z env) _) hv hK
 | field off sz x => obtain ⟨v, hv, rfl, rfl⟩ := ba h; exact xr (φ := fun z => K (put dst z env) _) hv hK
 | indexAddr esz x i =>
   simp only [gD] at h
   split at h <;> try cases h
   rename_i hl
   obtain ⟨v, hv, rfl, rfl⟩ := ba h
   exact ⟨uI hl, oF (φ := fun z => K (put dst z env) _) hv hK⟩
 | cZ x i => obtain ⟨v, hv, rfl, rfl⟩ := ba h; exact pZ (φ := fun z => K (put dst z env) _) hv hK
 | dG n x i => obtain ⟨v, hv, rfl, rfl⟩ := ba h; exact qc (φ := fun z => K (put dst z env) _) hv hK
 | slice esz x lo hi m => obtain ⟨v, hv, rfl, rfl⟩ := ba h; exact uK (φ := fun z => K (put dst z env) _) hv hK
 | dH x lo hi => obtain ⟨v, hv, rfl, rfl⟩ := ba h; exact qe (φ := fun z => K (put dst z env) _) hv hK
 | len kd x =>
   simp only [gD] at h
   split at h <;> try cases h
   rename_i hl
   obtain ⟨v, hv, rfl, rfl⟩ := ba h
   exact ⟨Bd hl, EU (φ := fun z => K (put dst z env) _) hv hK⟩
 | append esz bytes s x =>
   simp only [gD] at h
   split at h <;> cases h
   rename_i hs
   exact Ds (φ := fun zs => K (put dst (.ap esz zs) (cC env s.slot)) _) hs hK
 | rZ esz bytes z n =>
   simp only [gD] at h
   split at h <;> cases h
   rename_i hs
   exact Gi (esz := esz) (K := fun v H' => K (put dst v env) H') hs hK
 | mI esz bytes n => obtain ⟨v, hv, rfl, rfl⟩ := ba h; exact xt (φ := fun z => K (put dst z env) _) hv hK
 | mJ => simp only [gD] at h; cases h; exact hK
 | mH m a x => simp only [gD] at h; cases h
 | rY sz esz a =>
   simp only [gD] at h
   split at h <;> try cases h
   rename_i z hz
   split at h <;> cases h
   rename_i v H2 hs
   exact m8 (φ := fun z => fc esz z H fun y H' => K (put dst y env) H') hz (Gl (K := fun v H' => K (put dst v env) H') hs hK)
 | Ax esz z len ps => simp only [gD] at h; cases h
 | iS esz bytes z s x => simp only [gD] at h; cases h
 | mK esz z x => simp only [gD] at h; cases h
 | oN esz x lo hi mx => simp only [gD] at h; cases h
 | lookup kd z m k ok => obtain ⟨v, hv, rfl, rfl⟩ := ba h; exact uL (φ := fun z => K (put dst z env) _) hv hK
 | jW kd m k x =>
   simp only [gD] at h
   split at h <;> cases h
   rename_i hs
   exact Dt hs hK
 | fn f first cap => simp only [gD] at h; cases h; exact hK
 | extract x i => obtain ⟨v, hv, rfl, rfl⟩ := ba h; exact sE (φ := fun z => K (put dst z env) _) hv hK
 | call f args pass =>
   simp only [gD] at h
   simp only [bp, oA]
   split at h <;> try cases h
   ·rename_i g first cap e
    split at h <;> cases h
    rename_i r hr
    rw [e]
    refine ⟨_, b8 _, dU.of <| (EW hC hr).mono ?_⟩
    rintro r' H'' ⟨rfl, rfl⟩
    exact hK
   ·rename_i id e
    split at h <;> cases h
    rename_i r hr
    rw [e]
    refine ⟨_, b8 _, eY.mono (hC.2 _ _ _ _ _ hr) ?_⟩
    rintro r' H'' ⟨rfl, rfl⟩
    exact hK
 | eB k x => obtain ⟨v, hv, rfl, rfl⟩ := ba h; exact sF (φ := fun z => K (put dst z env) _) hv hK
 | fZ x => obtain ⟨v, hv, rfl, rfl⟩ := ba h; exact sG (φ := fun z => K (put dst z env) _) hv hK
 | bytesOf x => obtain ⟨v, hv, rfl, rfl⟩ := ba h; exact sH (φ := fun z => K (put dst z env) _) hv hK
 | strOf x => obtain ⟨v, hv, rfl, rfl⟩ := ba h; exact xv (φ := fun z => K (put dst z env) _) hv hK
 | mx big a b => obtain ⟨v, hv, rfl, rfl⟩ := ba h; exact Is (φ := fun z => K (put dst z env) _) hv hK
 | copy esz d s =>
   simp only [gD] at h
   split at h <;> cases h
   rename_i hs
   exact It (K := fun v H' => K (put dst v env) H') hs hK
 | yv esz x =>
   simp only [gD] at h
   split at h <;> cases h
   rename_i hs
   exact uJ (K := fun v H' => K (put dst v env) H') hs hK
 | never => cases h
def mh (C : gI) (o : bV) (ρ : IX → AV) (H : List aa) : Option AV :=
 match o with
 | .set i false => some (ρ i).ab
 | .pick c a b => match ρ c with | .bool true => some (ρ a).ab | .bool false => some (ρ b).ab | _ => none
 | .bin op i j => ER op (ρ i) (ρ j)
 | .shift op i j => tv op (ρ i) (ρ j)
 | .gM neq i j => pV neq (ρ i) (ρ j)
 | .iQ kd neq i => tw kd neq (ρ i)
 | .un op i => LB op (ρ i)
 | .k9 i => if (ρ i).val = true then some (.ai (ρ i)) else none
 | .build z ps => (ri z.cells (ps.map fun q => (q.1, q.2.1, ρ q.2.2))).map .agg
 | .buildSlice own esz z len ps => (kF (List.replicate len (aS z)) esz (ps.map fun q => (q.1, ρ q.2))).map (.ap own)
 | .load sz i => oY sz (ρ i) H
 | .nilCheck i => lG (ρ i)
 | .fieldAddr off sz i => jQ off sz (ρ i)
 | .field off sz i => tx off sz (ρ i)
 | .indexAddr esz i j => if uC esz (ρ i) = true then jR esz (ρ i) (ρ j) else none
 | .cZ i j => lF (ρ i) (ρ j)
 | .dG n i j => lE n (ρ i) (ρ j)
 | .slice esz i lo hi m => pX esz (ρ i) (lo.map ρ) (hi.map ρ) (m.map ρ)
 | .dH i lo hi => lI (ρ i) (lo.map ρ) (hi.map ρ)
 | .len kd i => if y8 kd (ρ i) = true then ES (ρ i) H else none
 | .lookup kd z m k ok => pY kd z (ρ m) (ρ k) ok H
 | .fn f first cap => some (.fn f (first.map fun x => (ρ x).ab) (cap.map fun x => (ρ x).ab))
 | .extract i k => nQ (ρ i) k
 | .call f args none => match ρ f with
   | .fn (.func g) first cap => match EV C g (first.map AV.ab ++ (args.map fun x => (ρ x).ab) ++ cap.map AV.ab) H with
     | some (r, H') => if Bg H' H = true then some r else none
     | none => none
   | _ => none
 | .eB k i => nR k (ρ i)
 | .fZ i => nS (ρ i)
 | .bytesOf i => nT 1 (ρ i)
 | .mI esz bytes i => tA esz bytes (ρ i)
 | .strOf i => tB (ρ i)
 | .mx big i j => LC big (ρ i) (ρ j)
 | _ => none
theorem tC {P : Program} {C : gI} (hC : km P C) {o : bV} {ρ : IX → AV} {H : List aa} {v : AV} (h : mh C o ρ H = some v) : cR P o ρ H v := by
 cases o with
 | set i take =>
   cases take with
   | true => cases h
   | false => simp only [mh] at h; cases h; rfl
 | pick c a b =>
   simp only [mh] at h
   simp only [cR]
   split at h <;> cases h
   ·rename_i e; rw [e]; exact ⟨fun _ => rfl, fun e => by cases e⟩
   ·rename_i e; rw [e]; exact ⟨fun e => (by cases e), fun _ => rfl⟩
 | bin op x y => exact ET (φ := fun z => z = v) h rfl
 | shift op x y => exact xp (φ := fun z => z = v) h rfl
 | gM op x y => exact uG (φ := fun z => z = v) h rfl
 | iQ kd neq x => exact xq (φ := fun z => z = v) h rfl
 | un op x => exact Ir (φ := fun z => z = v) h rfl
 | k9 x =>
   simp only [mh] at h
   split at h <;> cases h
   rename_i hc
   exact ⟨hc, rfl⟩
 | build z ps =>
   obtain ⟨u, hu, rfl⟩ := Option.map_eq_some_iff.1 h
   exact uH (φ := fun xs => AV.agg xs = .agg u) rfl hu
 | buildSlice own esz z len ps =>
   obtain ⟨u, hu, rfl⟩ := Option.map_eq_some_iff.1 h
   exact o6 (φ := fun xs => AV.ap own xs = .ap own u) rfl hu
 | load sz a => exact m8 (φ := fun z => z = v) h rfl
 | nilCheck x => exact qd (φ := fun z => z = v) h rfl
 | fieldAddr off sz x => exact oE (φ := fun z => z = v) h rfl
 | field off sz x => exact xr (φ := fun z => z = v) h rfl
 | indexAddr esz x i =>
   simp only [mh] at h
   split at h <;> try cases h
   rename_i hl
   exact ⟨uI hl, oF (φ := fun z => z = v) h rfl⟩
 | cZ x i => exact pZ (φ := fun z => z = v) h rfl
 | dG n x i => exact qc (φ := fun z => z = v) h rfl
 | slice esz x lo hi m => exact uK (φ := fun z => z = v) h rfl
 | mI esz bytes n => exact xt (φ := fun z => z = v) h rfl
 | dH x lo hi => exact qe (φ := fun z => z = v) h rfl
 | len kd x =>
   simp only [mh] at h
   split at h <;> try cases h
   rename_i hl
   exact ⟨Bd hl, EU (φ := fun z => z = v) h rfl⟩
 | lookup kd z m k ok => exact uL (φ := fun z => z = v) h rfl
 | fn f first cap => simp only [mh] at h; cases h; rfl
 | extract x i => exact sE (φ := fun z => z = v) h rfl
 | call f args pass =>
   cases pass with
   | some _ => cases h
   | none =>
     simp only [mh] at h
     simp only [cR]
     split at h <;> try cases h
     rename_i g first cap e
     split at h <;> try cases h
     rename_i r H' hr
     split at h <;> cases h
     rename_i hb
     rw [e]
     refine ⟨_, b8 _, (EW hC hr).mono ?_⟩
     rintro r' H'' ⟨rfl, rfl⟩
     exact ⟨rfl, ze hb⟩
 | eB k x => exact sF (φ := fun z => z = v) h rfl
 | fZ x => exact sG (φ := fun z => z = v) h rfl
 | bytesOf x => exact sH (φ := fun z => z = v) h rfl
 | strOf x => exact xv (φ := fun z => z = v) h rfl
 | mx big a b => exact Is (φ := fun z => z = v) h rfl
 | _ => cases h
def zg (C : gI) : List bt → Env → List aa → Option (Env × List aa)
 | [], env, H => some (env, H)
 | o :: r, env, H => match o.g with
   | none => match gD C o.op o.dst env H with
     | some (env, H) => zg C r env H
     | none => none
   | some (g, want) => match get env g with
     | .bool b => if b = want then (match gD C o.op o.dst ((g, .bool want) :: env) H with
        | some (env, H) => zg C r env H
        | none => none) else zg C r (put o.dst (.tuple []) ((g, .bool (!want)) :: env)) H
     | .tuple [] => zg C r (put o.dst (.tuple []) env) H
     | _ => none
theorem rn {P : Program} {C : gI} (hC : km P C) : ∀ {l : List bt} {env aC : Env} {H H' : List aa} {K : Env → List aa → Prop}, zg C l env H = some (aC, H') → K aC H' → iV P l env H K
 | [], env, aC, H, H', K, h, hK => by simp only [zg] at h; cases h; exact hK
 | o :: r, env, aC, H, H', K, h, hK => by
   simp only [zg] at h
   simp only [iV, qY]
   cases hg : o.g with
   | none =>
     simp only [hg] at h ⊢
     split at h <;> try cases h
     rename_i e2 H2 h2
     exact Iv (K := fun env H => iV P r env H K) hC h2 (rn hC h hK)
   | some p =>
     obtain ⟨g, want⟩ := p
     simp only [hg] at h ⊢
     simp only [gP]
     split at h
     rotate_left
     ·rename_i hb
      simp only [hb]
      exact rn hC h hK
     ·cases h
     rename_i b hb
     simp only [hb]
     split at h
     ·rename_i EL
      subst EL
      split at h <;> try cases h
      rename_i e2 H2 h2
      exact ⟨fun _ => Iv (K := fun env H => iV P r env H K) hC h2 (rn hC h hK), fun e => by cases b <;> cases e⟩
     ·rename_i EL
      exact ⟨fun e => absurd e EL, fun _ => rn hC h hK⟩
def Xt (C : gI) (st : Bool) (o : bV) (ρ : IX → AV) (H : List aa) : Option AV :=
 match st with
 | true => mh C o ρ H
 | false => match o with
   | .load sz i => (match ρ i with | .ai y => oY sz (.ai y) [] | _ => none)
   | .call f args none => (match ρ f with
     | .fn (.func g) first cap => if aj 0 (first.map AV.ab ++ (args.map fun x => (ρ x).ab) ++ cap.map AV.ab) = true then (match C false g (first.map AV.ab ++ (args.map fun x => (ρ x).ab) ++ cap.map AV.ab) [] with
       | some (r, []) => some r
       | _ => none) else none
     | _ => none)
   | .call _ _ _ => none
   | .len kd i => (match ρ i with | .map _ => none | _ => mh C o ρ [])
   | .lookup kd z m k ok => (match ρ m with | .iA => mh C o ρ [] | _ => none)
   | o => mh C o ρ []
theorem Iw {x : AV} {H H' : List aa} {φ : AV → Prop} (h : eU x H φ) (hm : ∀ id, x ≠ .map id) : eU x H' φ := by
 unfold eU at *
 split at h <;> first | exact h | exact h.elim | exact absurd rfl (hm _)
theorem Oi {P : Program} {C : gI} (hC : km P C) {st : Bool} {o : bV} {ρ : IX → AV} {H : List aa} {v : AV} (h : Xt C st o ρ H = some v) : dv P st o ρ H v := by
 cases st with
 | true => exact tC hC h
 | false =>
   intro H'
   simp only [Xt] at h
   split at h
   ·split at h <;> try cases h
    rename_i sz i y hy
    simp only [cR]
    rw [hy]
    have := m8 (φ := fun z => z = v) h rfl
    unfold aR at this ⊢
    exact this
   ·rename_i f args
    split at h <;> try cases h
    rename_i g first cap hf
    split at h <;> try cases h
    rename_i hb
    split at h <;> cases h
    rename_i hr
    simp only [cR, hf]
    exact ⟨_, b8 _, aq.frame (R := fun r => r = v) (fun x hx => (a9 0 _).1 hb x hx) (hC.1 _ _ _ _ _ hr) H'⟩
   ·cases h
   ·rename_i kd i
    split at h
    ·cases h
    ·rename_i eo
     have := tC hC h
     simp only [cR] at this ⊢
     exact ⟨this.1, Iw this.2 eo⟩
   ·rename_i kd z m k ok
    split at h <;> try cases h
    rename_i hm
    have := tC hC h
    simp only [cR, hm, ca] at this ⊢
    exact this
   ·rename_i _ h1 h0 h2 h3 h4
    have := tC hC h
    cases o <;> first | exact this | exact (h1 _ _ rfl).elim | exact (h2 _ _ _ rfl).elim | exact (h3 _ _ rfl).elim | exact (h4 _ _ _ _ _ rfl).elim | (rename_i take; cases take <;> exact this)
def Gn : Env → Env → Bool
 | [], [] => true
 | (a, x) :: r, (b, y) :: s => a == b && x.beq y && Gn r s
 | _, _ => false
theorem Ix : ∀ {xs ys : Env}, Gn xs ys = true → xs = ys
 | [], [], _ => rfl
 | (a, x) :: r, (b, y) :: s, h => by
   simp only [Gn, Bool.and_eq_true, beq_iff_eq] at h
   rw [h.1.1, AV.qf h.1.2, Ix h.2]
 | [], _ :: _, h => by simp [Gn] at h
 | _ :: _, [], h => by simp [Gn] at h
def LD (C : gI) (o : bt) (env : Env) (H : List aa) : Option (Env × List aa) := zg C [o] env H
theorem Iy {P : Program} {C : gI} (hC : km P C) {o : bt} {env aC : Env} {H H' : List aa} {K : Env → List aa → Prop} (h : LD C o env H = some (aC, H')) (hK : K aC H') : qY P o env H K := rn hC h hK
def Iz (C : gI) (st : Bool) (o : bt) (env : Env) (H : List aa) : Option Env :=
 match o.g with
 | none => match Xt C st o.op (al env) H with
   | some x => some (put o.dst x env)
   | none => none
 | some (g, want) => match get env g with
   | .bool b => if b = want then (match Xt C st o.op (al env) H with
      | some x => some (put o.dst x env)
      | none => none) else some (put o.dst (.tuple []) env)
   | .tuple [] => some (put o.dst (.tuple []) env)
   | _ => none
theorem LF {P : Program} {C : gI} (hC : km P C) {st : Bool} {o : bt} {env aC : Env} {H : List aa} {K : Env → Prop} (h : Iz C st o env H = some aC) (hK : K aC) : sr P st o env H K := by
 unfold Iz at h
 unfold sr
 cases hg : o.g with
 | none =>
   simp only [hg] at h ⊢
   split at h <;> cases h
   rename_i x hx
   exact ⟨x, Oi hC hx, hK⟩
 | some p =>
   obtain ⟨g, want⟩ := p
   simp only [hg] at h ⊢
   simp only [gP]
   split at h
   rotate_left
   ·rename_i hb
    simp only [hb]
    cases h
    exact hK
   ·cases h
   rename_i b hb
   simp only [hb]
   split at h
   ·rename_i EL
    subst EL
    split at h <;> cases h
    rename_i x hx
    exact ⟨fun _ => ⟨x, Oi hC hx, hK⟩, fun e => by cases b <;> cases e⟩
   ·rename_i EL
    cases h
    exact ⟨fun e => absurd e EL, fun _ => hK⟩
abbrev wF := List (Env × List aa)
def LG (x : Env × List aa) : wF → Bool
 | [] => false
 | y :: r => match Gn x.1 y.1 && Bg x.2 y.2 with | true => true | false => LG x r
def o7 (l : wF) : wF → wF
 | [] => l
 | x :: r => match LG x l with | true => o7 l r | false => x :: o7 l r
theorem IA {x : Env × List aa} : ∀ {l : wF}, LG x l = true → x ∈ l
 | [], h => by cases h
 | y :: r, h => by
   unfold LG at h
   split at h
   ·rename_i e
    simp only [Bool.and_eq_true] at e
    have e1 := Ix e.1
    have e2 := ze e.2
    have : x = y := by cases x; cases y; simp only at e1 e2; rw [e1, e2]
    rw [this]; exact List.mem_cons_self
   ·exact List.mem_cons_of_mem _ (IA h)
theorem Bh {l : wF} : ∀ {m : wF}, (∀ x ∈ l, x ∈ o7 l m) ∧ ∀ x ∈ m, x ∈ o7 l m
 | [] => ⟨fun x h => h, fun x h => by cases h⟩
 | y :: r => by
   obtain ⟨h1, h2⟩ := Bh (l := l) (m := r)
   unfold o7
   split
   ·rename_i e
    refine ⟨h1, fun x hx => ?_⟩
    rcases List.mem_cons.1 hx with rfl | hx
    ·exact h1 _ (IA e)
    ·exact h2 x hx
   ·refine ⟨fun x hx => List.mem_cons_of_mem _ (h1 x hx), fun x hx => ?_⟩
    rcases List.mem_cons.1 hx with rfl | hx
    ·exact List.mem_cons_self
    ·exact List.mem_cons_of_mem _ (h2 x hx)
def CL (C : gI) (live : Option (List Nat)) : DT → Env → List aa → Option wF
 | .done, env, H => some [(eh live env, H)]
 | .take st o r, env, H => match Iz C st o env H with
   | some aC => CL C live r aC H
   | none => none
 | .br o t .nil, env, H => match LD C o env H with
   | some (aC, H') => CL C live t aC H'
   | none => none
 | .br o t rest, env, H => match LD C o env H with
   | some (aC, H') => match CL C live t aC H', CL C live rest env H with
     | some l1, some l2 => some (o7 l1 l2)
     | _, _ => none
   | none => none
 | .nil, _, _ => none
theorem TP {P : Program} {C : gI} (hC : km P C) {live : Option (List Nat)} : ∀ {t : DT} {env : Env} {H : List aa} {l : wF} {K : Env → List aa → Prop}, CL C live t env H = some l → (∀ o ∈ l, K o.1 o.2) → tu P t env H fun e H => K (eh live e) H := by
 intro t
 induction t with
 | done => intro env H l K h hK; simp only [CL] at h; cases h; exact hK _ List.mem_cons_self
 | nil => intro env H l K h hK; simp [CL] at h
 | take st o r ih =>
   intro env H l K h hK
   simp only [CL] at h
   split at h <;> try cases h
   rename_i e2 he
   exact LF (K := fun env => tu P r env H fun e H => K (eh live e) H) hC he (ih h hK)
 | br o t rest Il HB =>
   intro env H l K h hK
   have key : ∀ rest', (∀ {env : Env} {H : List aa} {l : wF} {K : Env → List aa → Prop}, CL C live rest' env H = some l → (∀ o ∈ l, K o.1 o.2) → tu P rest' env H fun e H => K (eh live e) H) → rest' = rest →
    ((match LD C o env H with
    | some (aC, H') => match CL C live t aC H', CL C live rest' env H with
      | some l1, some l2 => some (o7 l1 l2)
      | _, _ => none
    | none => none) = some l) → tu P (.br o t rest') env H fun e H => K (eh live e) H := by
    intro rest' ihr' _ h
    split at h <;> try cases h
    rename_i e2 H2 h2
    split at h <;> try cases h
    rename_i l1 l2 h3 h4
    obtain ⟨u1, u2⟩ := Bh (l := l1) (m := l2)
    exact ⟨Iy (K := fun env H => tu P t env H fun e H => K (eh live e) H) hC h2 (Il h3 fun o ho => hK o (u1 o ho)), ihr' h4 fun o ho => hK o (u2 o ho)⟩
   cases rest with
   | nil =>
     simp only [CL] at h
     split at h <;> try cases h
     rename_i e2 H2 h2
     exact ⟨Iy (K := fun env H => tu P t env H fun e H => K (eh live e) H) hC h2 (Il h hK), trivial⟩
   | done => exact key _ (fun h hK => HB h hK) rfl (by simpa only [CL] using h)
   | take st o' r => exact key _ (fun h hK => HB h hK) rfl (by simpa only [CL] using h)
   | br o' t' r => exact key _ (fun h hK => HB h hK) rfl (by simpa only [CL] using h)
end Go.aK
