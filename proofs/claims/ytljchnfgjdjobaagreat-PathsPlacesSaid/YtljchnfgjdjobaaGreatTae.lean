/- A memory-free reading of the model's values (part 20): code that is run. -/
import Derived.Test.YtljchnfgjdjobaaGreatTad
set_option linter.unusedVariables false
set_option linter.unusedSimpArgs false
set_option linter.defProp false
set_option linter.unusedSectionVars false
namespace Go.aL
open Go
def Qk : Fn → Fn → Bool
 | .func a, .func b => a == b
 | _, _ => false
mutual
def AV.beq : AV → AV → Bool
 | .any, .any => true
 | .bool a, .bool b => a == b
 | .int k a, .int l b => decide (k = l) && decide (a = b)
 | .str a, .str b => decide (a = b)
 | .ah, .ah => true
 | .aq o xs, .aq p ys => decide (o = p) && uY xs ys
 | .bg a b c d, .bg e f g h => decide (a = e) && decide (b = f) && decide (c = g) && decide (d = h)
 | .agg xs, .agg ys => uY xs ys
 | .tuple xs, .tuple ys => uY xs ys
 | .ptr a b, .ptr c d => decide (a = c) && decide (b = d)
 | .aj x, .aj y => x.beq y
 | .qQ, .qQ => true
 | .map a, .map b => decide (a = b)
 | .iE, .iE => true
 | .fn f xs ys, .fn g us vs => Qk f g && uY xs us && uY ys vs
 | .fx, .fx => true
 | .iface t x, .iface u y => decide (t = u) && x.beq y
 | .wo, .wo => true
 | _, _ => false
def uY : List AV → List AV → Bool
 | [], [] => true
 | x :: xs, y :: ys => x.beq y && uY xs ys
 | _, _ => false
end
theorem Ql {f g : Fn} (h : Qk f g = true) : f = g := by
 unfold Qk at h
 split at h
 ·simp at h; rw [h]
 ·cases h
mutual
theorem AV.qh : ∀ {x y : AV}, x.beq y = true → x = y := by
 intro x y h
 cases x <;> cases y <;> simp only [AV.beq, Bool.and_eq_true, decide_eq_true_eq, Bool.false_eq_true, beq_iff_eq] at h <;> first
  | rfl
  | (subst h; rfl)
  | (obtain ⟨rfl, rfl⟩ := h; rfl)
  | (obtain ⟨⟨⟨rfl, rfl⟩, rfl⟩, rfl⟩ := h; rfl)
  | (rw [rp h])
  | (rw [AV.qh h])
  | (obtain ⟨rfl, h⟩ := h; rw [rp h])
  | (obtain ⟨rfl, h⟩ := h; rw [AV.qh h])
  | (obtain ⟨⟨h1, h2⟩, h3⟩ := h; rw [Ql h1, rp h2, rp h3])
theorem rp : ∀ {xs ys : List AV}, uY xs ys = true → xs = ys
 | [], [], _ => rfl
 | x :: xs, y :: ys, h => by
   simp only [uY, Bool.and_eq_true] at h
   rw [AV.qh h.1, rp h.2]
 | [], _ :: _, h => by simp [uY] at h
 | _ :: _, [], h => by simp [uY] at h
end
def GF : List (AV × AV) → List (AV × AV) → Bool
 | [], [] => true
 | (a, b) :: xs, (c, d) :: ys => a.beq c && b.beq d && GF xs ys
 | _, _ => false
theorem IJ : ∀ {xs ys : List (AV × AV)}, GF xs ys = true → xs = ys
 | [], [], _ => rfl
 | (a, b) :: xs, (c, d) :: ys, h => by
   simp only [GF, Bool.and_eq_true] at h
   rw [AV.qh h.1.1, AV.qh h.1.2, IJ h.2]
 | [], _ :: _, h => by simp [GF] at h
 | _ :: _, [], h => by simp [GF] at h
def aa.beq : aa → aa → Bool
 | .dead, .dead => true
 | .cells a, .cells b => uY a b
 | .map a, .map b => GF a b
 | _, _ => false
theorem aa.qh {x y : aa} (h : x.beq y = true) : x = y := by
 unfold aa.beq at h
 split at h
 ·rfl
 ·rw [rp h]
 ·rw [IJ h]
 ·cases h
def Bo : List aa → List aa → Bool
 | [], [] => true
 | x :: xs, y :: ys => x.beq y && Bo xs ys
 | _, _ => false
theorem zn : ∀ {xs ys : List aa}, Bo xs ys = true → xs = ys
 | [], [], _ => rfl
 | x :: xs, y :: ys, h => by
   simp only [Bo, Bool.and_eq_true] at h
   rw [aa.qh h.1, zn h.2]
 | [], _ :: _, h => by simp [Bo] at h
 | _ :: _, [], h => by simp [Bo] at h
abbrev gL := Bool → Nat → List AV → List aa → Option (AV × List aa)
def Fa (C : gL) (g : Nat) (args : List AV) (H : List aa) : Option (AV × List aa) :=
 match ak 0 args with
 | true => match C false g args [] with
   | some (r, []) => some (r, H)
   | _ => C false g args H
 | false => C false g args H
def dN (H : List aa) (dst : Option Nat) (env : Env) (z : Option AV) : Option (Env × List aa) := match z with | some z => some (put dst z env, H) | none => none
def gH (C : gL) (o : bX) (dst : Option Nat) (env : Env) (H : List aa) : Option (Env × List aa) :=
 match o with
 | .set x take => match dst with | some d => some (s8 env d x take, H) | none => some (env, H)
 | .pick c a b => match ap env c with
   | .bool true => some (put dst (ap env a).ae env, H)
   | .bool false => some (put dst (ap env b).ae env, H)
   | _ => none
 | .bin op x y => dN H dst env (E6 op (ap env x) (ap env y))
 | .shift op x y => dN H dst env (tG op (ap env x) (ap env y))
 | .gP neq x y => dN H dst env (pX neq (ap env x) (ap env y))
 | .iU kd neq x => dN H dst env (tH kd neq (ap env x))
 | .un op x => dN H dst env (LW op (ap env x))
 | .box x => if (ap env x).val = true ∧ ak (H.length + 1) ((ap env x).cells.map AV.ae) = true then some (put dst (.ptr H.length 0) env, H ++ [.cells ((ap env x).cells.map AV.ae)]) else none
 | .lg x => if (ap env x).val = true then some (put dst (.aj (ap env x)) env, H) else none
 | .qS m x => if (ap env x).val = true ∧ (ap env x).cells.length = m ∧ (ap env x).cells.all AV.one = true then some (put dst (.aj (ap env x)) env, H) else none
 | .alloc z => if ak (H.length + 1) (z.cells.map AV.ae) = true then some (put dst (.ptr H.length 0) env, H ++ [.cells (z.cells.map AV.ae)]) else none
 | .build z ps => dN H dst env ((rk z.cells (ps.map fun q => (q.1, q.2.1, ap env q.2.2))).map .agg)
 | .buildSlice own esz z len ps => dN H dst env ((kJ (List.replicate len (aT z)) esz (ps.map fun q => (q.1, ap env q.2))).map (.aq own))
 | .load sz a => dN H dst env (oZ sz (ap env a) H)
 | .ee a => match dst, ap env a with
   | some d, .ptr id off => match H[id]? with
     | some (.cells es) => if off < es.length then some ((d, es.getD off .any) :: env, H.set id (.cells (es.set off (es.getD off .any).ae))) else none
     | _ => none
   | _, _ => none
 | .store m a x => match zi m (ap env a) (ap env x) H with | some H' => some (env, H') | none => none
 | .mG _ _ _ => none
 | .sd sz esz a => match oZ sz (ap env a) H with
   | some z => match zm esz z H with
     | some (v, H') => some (put dst v env, H')
     | none => none
   | none => none
 | .eU a s => match rn (ap env a) (get env s) H with | some H' => some ((s, (get env s).ae) :: env, H') | none => none
 | .nilCheck x => dN H dst env (lI (ap env x))
 | .fieldAddr off sz x => dN H dst env (jW off sz (ap env x))
 | .field off sz x => dN H dst env (tI off sz (ap env x))
 | .indexAddr esz x i => if uO esz (ap env x) = true then dN H dst env (jX esz (ap env x) (ap env i)) else none
 | .c8 x i => dN H dst env (lH (ap env x) (ap env i))
 | .dH n x i => dN H dst env (lG n (ap env x) (ap env i))
 | .slice esz x lo hi m => dN H dst env (pZ esz (ap env x) (gr env lo) (gr env hi) (gr env m))
 | .dI x lo hi => dN H dst env (lK (ap env x) (gr env lo) (gr env hi))
 | .len kd x => if zh kd (ap env x) = true then dN H dst env (E7 (ap env x) H) else none
 | .append esz bytes s x => match uP esz bytes (ap env s) (ap env x) with | some zs => some (put dst (.aq esz zs) (cD env s.slot), H) | none => none
 | .sf esz bytes z n => match zj bytes z (ap env n) H with | some (v, H') => some (put dst v env, H') | none => none
 | .mH esz bytes n => dN H dst env (tJ esz bytes (ap env n))
 | .mI => some (put dst (.map H.length) env, H ++ [.map []])
 | .AG .. => none
 | .iW .. => none
 | .mJ .. => none
 | .oO .. => none
 | .lookup kd z m k ok => dN H dst env (qc kd z (ap env m) (ap env k) ok H)
 | .j4 kd m k x => match uR kd (ap env m) (ap env k) (ap env x) H with | some H' => some (env, H') | none => none
 | .fn f first cap => some (put dst (.fn f (first.map fun x => (ap env x).ae) (cap.map fun x => (ap env x).ae)) env, H)
 | .extract x i => dN H dst env (nQ (ap env x) i)
 | .call f args pass => match ap env f with
   | .fn (.func g) first cap => match Fa C g (first.map AV.ae ++ aG env pass 0 args ++ cap.map AV.ae) H with
     | some (r, H') => some (put dst r (cD env (bf args pass)), H')
     | none => none
   | .mE id => match C true id (aG env pass 0 args) H with
     | some (r, H') => some (put dst r (cD env (bf args pass)), H')
     | none => none
   | _ => none
 | .eC k x => dN H dst env (nR k (ap env x))
 | .gh x => dN H dst env (nS (ap env x))
 | .bytesOf x => dN H dst env (nT 1 (ap env x))
 | .strOf x => dN H dst env (tK (ap env x))
 | .mx big a b => dN H dst env (LX big (ap env a) (ap env b))
 | .copy esz d s => match DG esz (ap env d) (ap env s) H with | some (v, H') => some (put dst v env, H') | none => none
 | .yC esz x => match o6 esz (ap env x) H with | some (v, H') => some (put dst v env, H') | none => none
 | .never => none
def ku (P : Program) (C : gL) : Prop := (∀ g args H r H', C false g args H = some (r, H') → au P g args H fun r' H'' => r' = r ∧ H'' = H') ∧
 ∀ id args H r H', C true id args H = some (r, H') → jv P id args H fun r' H'' => r' = r ∧ H'' = H'
theorem Fb {P : Program} {C : gL} (hC : ku P C) {g : Nat} {args : List AV} {H H' : List aa} {r : AV} (h : Fa C g args H = some (r, H')) : au P g args H fun r' H'' => r' = r ∧ H'' = H' := by
 unfold Fa at h
 split at h
 ·rename_i hb
  split at h
  ·rename_i hr
   cases h
   exact au.frame (R := fun r' => r' = r) (fun x hx => (ba 0 _).1 hb x hx) (hC.1 _ _ _ _ _ hr) H
  ·exact hC.1 _ _ _ _ _ h
 ·exact hC.1 _ _ _ _ _ h
theorem ca : ∀ xs, xp xs xs
 | [] => trivial
 | x :: xs => ⟨le_refl _, ca xs⟩
theorem bb {H H' : List aa} {dst : Option Nat} {env aE : Env} {z : Option AV} (h : dN H dst env z = some (aE, H')) : ∃ v, z = some v ∧ aE = put dst v env ∧ H' = H := by
 unfold dN at h
 split at h <;> cases h
 exact ⟨_, rfl, rfl, rfl⟩
theorem IK {P : Program} {C : gL} (hC : ku P C) {o : bX} {dst : Option Nat} {env aE : Env} {H H' : List aa} {K : Env → List aa → Prop} (h : gH C o dst env H = some (aE, H')) (hK : K aE H') : bt P o dst env H K := by
 cases o with
 | set x take =>
   simp only [gH] at h
   simp only [bt]
   split at h <;> cases h <;> exact hK
 | pick c a b =>
   simp only [gH] at h
   simp only [bt]
   split at h <;> cases h
   ·rename_i e; rw [e]; exact ⟨fun _ => hK, fun e => by cases e⟩
   ·rename_i e; rw [e]; exact ⟨fun e => (by cases e), fun _ => hK⟩
 | bin op x y => obtain ⟨v, hv, rfl, rfl⟩ := bb h; exact E8 (φ := fun z => K (put dst z env) _) hv hK
 | shift op x y => obtain ⟨v, hv, rfl, rfl⟩ := bb h; exact xy (φ := fun z => K (put dst z env) _) hv hK
 | gP op x y => obtain ⟨v, hv, rfl, rfl⟩ := bb h; exact uS (φ := fun z => K (put dst z env) _) hv hK
 | iU kd neq x => obtain ⟨v, hv, rfl, rfl⟩ := bb h; exact xz (φ := fun z => K (put dst z env) _) hv hK
 | un op x => obtain ⟨v, hv, rfl, rfl⟩ := bb h; exact IG (φ := fun z => K (put dst z env) _) hv hK
 | box x =>
   simp only [gH] at h
   split at h <;> cases h
   rename_i hc
   exact ⟨hc.1, hc.2, hK⟩
 | lg x =>
   simp only [gH] at h
   split at h <;> cases h
   rename_i hc
   exact ⟨hc, hK⟩
 | qS m x =>
   simp only [gH] at h
   split at h <;> cases h
   rename_i hc
   exact ⟨hc.1, hc.2.1, hc.2.2, hK⟩
 | alloc z =>
   simp only [gH] at h
   split at h <;> cases h
   rename_i hc
   exact ⟨hc, hK⟩
 | build z ps =>
   obtain ⟨v, hv, rfl, rfl⟩ := bb h
   obtain ⟨u, hu, rfl⟩ := Option.map_eq_some_iff.1 hv
   exact uT (φ := fun xs => K (put dst (.agg xs) env) H') hK hu
 | buildSlice own esz z len ps =>
   obtain ⟨v, hv, rfl, rfl⟩ := bb h
   obtain ⟨u, hu, rfl⟩ := Option.map_eq_some_iff.1 hv
   exact o7 (φ := fun xs => K (put dst (.aq own xs) env) H') hK hu
 | load sz a => obtain ⟨v, hv, rfl, rfl⟩ := bb h; exact mZ (φ := fun z => K (put dst z env) _) hv hK
 | ee a =>
   simp only [gH] at h
   simp only [bt]
   split at h <;> try cases h
   rename_i e
   simp only [e]
   split at h <;> try cases h
   rename_i bn
   simp only [bn]
   split at h <;> cases h
   exact ⟨by assumption, hK⟩
 | store m a x =>
   simp only [gH] at h
   split at h <;> cases h
   rename_i hs
   exact Gz hs hK
 | eU a s =>
   simp only [gH] at h
   split at h <;> cases h
   rename_i hs
   exact Bm hs hK
 | nilCheck x => obtain ⟨v, hv, rfl, rfl⟩ := bb h; exact qf (φ := fun z => K (put dst z env) _) hv hK
 | fieldAddr off sz x => obtain ⟨v, hv, rfl, rfl⟩ := bb h; exact oF (φ := fun z => K (put dst z env) _) hv hK
 | field off sz x => obtain ⟨v, hv, rfl, rfl⟩ := bb h; exact xA (φ := fun z => K (put dst z env) _) hv hK
 | indexAddr esz x i =>
   simp only [gH] at h
   split at h <;> try cases h
   rename_i hl
   obtain ⟨v, hv, rfl, rfl⟩ := bb h
   exact ⟨uU hl, oG (φ := fun z => K (put dst z env) _) hv hK⟩
 | c8 x i => obtain ⟨v, hv, rfl, rfl⟩ := bb h; exact qd (φ := fun z => K (put dst z env) _) hv hK
 | dH n x i => obtain ⟨v, hv, rfl, rfl⟩ := bb h; exact qe (φ := fun z => K (put dst z env) _) hv hK
 | slice esz x lo hi m => obtain ⟨v, hv, rfl, rfl⟩ := bb h; exact uW (φ := fun z => K (put dst z env) _) hv hK
 | dI x lo hi => obtain ⟨v, hv, rfl, rfl⟩ := bb h; exact qg (φ := fun z => K (put dst z env) _) hv hK
 | len kd x =>
   simp only [gH] at h
   split at h <;> try cases h
   rename_i hl
   obtain ⟨v, hv, rfl, rfl⟩ := bb h
   exact ⟨Bl hl, E9 (φ := fun z => K (put dst z env) _) hv hK⟩
 | append esz bytes s x =>
   simp only [gH] at h
   split at h <;> cases h
   rename_i hs
   exact DH (φ := fun zs => K (put dst (.aq esz zs) (cD env s.slot)) _) hs hK
 | sf esz bytes z n =>
   simp only [gH] at h
   split at h <;> cases h
   rename_i hs
   exact GA (esz := esz) (K := fun v H' => K (put dst v env) H') hs hK
 | mH esz bytes n => obtain ⟨v, hv, rfl, rfl⟩ := bb h; exact xB (φ := fun z => K (put dst z env) _) hv hK
 | mI => simp only [gH] at h; cases h; exact hK
 | mG m a x => simp only [gH] at h; cases h
 | sd sz esz a =>
   simp only [gH] at h
   split at h <;> try cases h
   rename_i z hz
   split at h <;> cases h
   rename_i v H2 hs
   exact mZ (φ := fun z => ff esz z H fun y H' => K (put dst y env) H') hz (GD (K := fun v H' => K (put dst v env) H') hs hK)
 | AG esz z len ps => simp only [gH] at h; cases h
 | iW esz bytes z s x => simp only [gH] at h; cases h
 | mJ esz z x => simp only [gH] at h; cases h
 | oO esz x lo hi mx => simp only [gH] at h; cases h
 | lookup kd z m k ok => obtain ⟨v, hv, rfl, rfl⟩ := bb h; exact uX (φ := fun z => K (put dst z env) _) hv hK
 | j4 kd m k x =>
   simp only [gH] at h
   split at h <;> cases h
   rename_i hs
   exact DI hs hK
 | fn f first cap => simp only [gH] at h; cases h; exact hK
 | extract x i => obtain ⟨v, hv, rfl, rfl⟩ := bb h; exact sI (φ := fun z => K (put dst z env) _) hv hK
 | call f args pass =>
   simp only [gH] at h
   simp only [bt, oB]
   split at h <;> try cases h
   ·rename_i g first cap e
    split at h <;> cases h
    rename_i r hr
    rw [e]
    refine ⟨_, ca _, dW.of <| (Fb hC hr).mono ?_⟩
    rintro r' H'' ⟨rfl, rfl⟩
    exact hK
   ·rename_i id e
    split at h <;> cases h
    rename_i r hr
    rw [e]
    refine ⟨_, ca _, fa.mono (hC.2 _ _ _ _ _ hr) ?_⟩
    rintro r' H'' ⟨rfl, rfl⟩
    exact hK
 | eC k x => obtain ⟨v, hv, rfl, rfl⟩ := bb h; exact sJ (φ := fun z => K (put dst z env) _) hv hK
 | gh x => obtain ⟨v, hv, rfl, rfl⟩ := bb h; exact sK (φ := fun z => K (put dst z env) _) hv hK
 | bytesOf x => obtain ⟨v, hv, rfl, rfl⟩ := bb h; exact sL (φ := fun z => K (put dst z env) _) hv hK
 | strOf x => obtain ⟨v, hv, rfl, rfl⟩ := bb h; exact xD (φ := fun z => K (put dst z env) _) hv hK
 | mx big a b => obtain ⟨v, hv, rfl, rfl⟩ := bb h; exact IH (φ := fun z => K (put dst z env) _) hv hK
 | copy esz d s =>
   simp only [gH] at h
   split at h <;> cases h
   rename_i hs
   exact II (K := fun v H' => K (put dst v env) H') hs hK
 | yC esz x =>
   simp only [gH] at h
   split at h <;> cases h
   rename_i hs
   exact uV (K := fun v H' => K (put dst v env) H') hs hK
 | never => cases h
def mg (C : gL) (o : bX) (ρ : IX → AV) (H : List aa) : Option AV :=
 match o with
 | .set i false => some (ρ i).ae
 | .pick c a b => match ρ c with | .bool true => some (ρ a).ae | .bool false => some (ρ b).ae | _ => none
 | .bin op i j => E6 op (ρ i) (ρ j)
 | .shift op i j => tG op (ρ i) (ρ j)
 | .gP neq i j => pX neq (ρ i) (ρ j)
 | .iU kd neq i => tH kd neq (ρ i)
 | .un op i => LW op (ρ i)
 | .lg i => if (ρ i).val = true then some (.aj (ρ i)) else none
 | .build z ps => (rk z.cells (ps.map fun q => (q.1, q.2.1, ρ q.2.2))).map .agg
 | .buildSlice own esz z len ps => (kJ (List.replicate len (aT z)) esz (ps.map fun q => (q.1, ρ q.2))).map (.aq own)
 | .load sz i => oZ sz (ρ i) H
 | .nilCheck i => lI (ρ i)
 | .fieldAddr off sz i => jW off sz (ρ i)
 | .field off sz i => tI off sz (ρ i)
 | .indexAddr esz i j => if uO esz (ρ i) = true then jX esz (ρ i) (ρ j) else none
 | .c8 i j => lH (ρ i) (ρ j)
 | .dH n i j => lG n (ρ i) (ρ j)
 | .slice esz i lo hi m => pZ esz (ρ i) (lo.map ρ) (hi.map ρ) (m.map ρ)
 | .dI i lo hi => lK (ρ i) (lo.map ρ) (hi.map ρ)
 | .len kd i => if zh kd (ρ i) = true then E7 (ρ i) H else none
 | .lookup kd z m k ok => qc kd z (ρ m) (ρ k) ok H
 | .fn f first cap => some (.fn f (first.map fun x => (ρ x).ae) (cap.map fun x => (ρ x).ae))
 | .extract i k => nQ (ρ i) k
 | .call f args none => match ρ f with
   | .fn (.func g) first cap => match Fa C g (first.map AV.ae ++ (args.map fun x => (ρ x).ae) ++ cap.map AV.ae) H with
     | some (r, H') => if Bo H' H = true then some r else none
     | none => none
   | _ => none
 | .eC k i => nR k (ρ i)
 | .gh i => nS (ρ i)
 | .bytesOf i => nT 1 (ρ i)
 | .mH esz bytes i => tJ esz bytes (ρ i)
 | .strOf i => tK (ρ i)
 | .mx big i j => LX big (ρ i) (ρ j)
 | _ => none
theorem tL {P : Program} {C : gL} (hC : ku P C) {o : bX} {ρ : IX → AV} {H : List aa} {v : AV} (h : mg C o ρ H = some v) : cT P o ρ H v := by
 cases o with
 | set i take =>
   cases take with
   | true => cases h
   | false => simp only [mg] at h; cases h; rfl
 | pick c a b =>
   simp only [mg] at h
   simp only [cT]
   split at h <;> cases h
   ·rename_i e; rw [e]; exact ⟨fun _ => rfl, fun e => by cases e⟩
   ·rename_i e; rw [e]; exact ⟨fun e => (by cases e), fun _ => rfl⟩
 | bin op x y => exact E8 (φ := fun z => z = v) h rfl
 | shift op x y => exact xy (φ := fun z => z = v) h rfl
 | gP op x y => exact uS (φ := fun z => z = v) h rfl
 | iU kd neq x => exact xz (φ := fun z => z = v) h rfl
 | un op x => exact IG (φ := fun z => z = v) h rfl
 | lg x =>
   simp only [mg] at h
   split at h <;> cases h
   rename_i hc
   exact ⟨hc, rfl⟩
 | build z ps =>
   obtain ⟨u, hu, rfl⟩ := Option.map_eq_some_iff.1 h
   exact uT (φ := fun xs => AV.agg xs = .agg u) rfl hu
 | buildSlice own esz z len ps =>
   obtain ⟨u, hu, rfl⟩ := Option.map_eq_some_iff.1 h
   exact o7 (φ := fun xs => AV.aq own xs = .aq own u) rfl hu
 | load sz a => exact mZ (φ := fun z => z = v) h rfl
 | nilCheck x => exact qf (φ := fun z => z = v) h rfl
 | fieldAddr off sz x => exact oF (φ := fun z => z = v) h rfl
 | field off sz x => exact xA (φ := fun z => z = v) h rfl
 | indexAddr esz x i =>
   simp only [mg] at h
   split at h <;> try cases h
   rename_i hl
   exact ⟨uU hl, oG (φ := fun z => z = v) h rfl⟩
 | c8 x i => exact qd (φ := fun z => z = v) h rfl
 | dH n x i => exact qe (φ := fun z => z = v) h rfl
 | slice esz x lo hi m => exact uW (φ := fun z => z = v) h rfl
 | mH esz bytes n => exact xB (φ := fun z => z = v) h rfl
 | dI x lo hi => exact qg (φ := fun z => z = v) h rfl
 | len kd x =>
   simp only [mg] at h
   split at h <;> try cases h
   rename_i hl
   exact ⟨Bl hl, E9 (φ := fun z => z = v) h rfl⟩
 | lookup kd z m k ok => exact uX (φ := fun z => z = v) h rfl
 | fn f first cap => simp only [mg] at h; cases h; rfl
 | extract x i => exact sI (φ := fun z => z = v) h rfl
 | call f args pass =>
   cases pass with
   | some _ => cases h
   | none =>
     simp only [mg] at h
     simp only [cT]
     split at h <;> try cases h
     rename_i g first cap e
     split at h <;> try cases h
     rename_i r H' hr
     split at h <;> cases h
     rename_i hb
     rw [e]
     refine ⟨_, ca _, (Fb hC hr).mono ?_⟩
     rintro r' H'' ⟨rfl, rfl⟩
     exact ⟨rfl, zn hb⟩
 | eC k x => exact sJ (φ := fun z => z = v) h rfl
 | gh x => exact sK (φ := fun z => z = v) h rfl
 | bytesOf x => exact sL (φ := fun z => z = v) h rfl
 | strOf x => exact xD (φ := fun z => z = v) h rfl
 | mx big a b => exact IH (φ := fun z => z = v) h rfl
 | _ => cases h
def zp (C : gL) : List bu → Env → List aa → Option (Env × List aa)
 | [], env, H => some (env, H)
 | o :: r, env, H => match o.g with
   | none => match gH C o.op o.dst env H with
     | some (env, H) => zp C r env H
     | none => none
   | some (g, want) => match get env g with
     | .bool b => if b = want then (match gH C o.op o.dst ((g, .bool want) :: env) H with
        | some (env, H) => zp C r env H
        | none => none) else zp C r (put o.dst (.tuple []) ((g, .bool (!want)) :: env)) H
     | .tuple [] => zp C r (put o.dst (.tuple []) env) H
     | _ => none
theorem rq {P : Program} {C : gL} (hC : ku P C) : ∀ {l : List bu} {env aE : Env} {H H' : List aa} {K : Env → List aa → Prop}, zp C l env H = some (aE, H') → K aE H' → iZ P l env H K
 | [], env, aE, H, H', K, h, hK => by simp only [zp] at h; cases h; exact hK
 | o :: r, env, aE, H, H', K, h, hK => by
   simp only [zp] at h
   simp only [iZ, ra]
   cases hg : o.g with
   | none =>
     simp only [hg] at h ⊢
     split at h <;> try cases h
     rename_i e2 H2 h2
     exact IK (K := fun env H => iZ P r env H K) hC h2 (rq hC h hK)
   | some p =>
     obtain ⟨g, want⟩ := p
     simp only [hg] at h ⊢
     simp only [gS]
     split at h
     rotate_left
     ·rename_i hb
      simp only [hb]
      exact rq hC h hK
     ·cases h
     rename_i b hb
     simp only [hb]
     split at h
     ·rename_i E0
      subst E0
      split at h <;> try cases h
      rename_i e2 H2 h2
      exact ⟨fun _ => IK (K := fun env H => iZ P r env H K) hC h2 (rq hC h hK), fun e => by cases b <;> cases e⟩
     ·rename_i E0
      exact ⟨fun e => absurd e E0, fun _ => rq hC h hK⟩
def XN (C : gL) (st : Bool) (o : bX) (ρ : IX → AV) (H : List aa) : Option AV :=
 match st with
 | true => mg C o ρ H
 | false => match o with
   | .load sz i => (match ρ i with | .aj y => oZ sz (.aj y) [] | _ => none)
   | .call f args none => (match ρ f with
     | .fn (.func g) first cap => if ak 0 (first.map AV.ae ++ (args.map fun x => (ρ x).ae) ++ cap.map AV.ae) = true then (match C false g (first.map AV.ae ++ (args.map fun x => (ρ x).ae) ++ cap.map AV.ae) [] with
       | some (r, []) => some r
       | _ => none) else none
     | _ => none)
   | .call _ _ _ => none
   | .len kd i => (match ρ i with | .map _ => none | _ => mg C o ρ [])
   | .lookup kd z m k ok => (match ρ m with | .iE => mg C o ρ [] | _ => none)
   | o => mg C o ρ []
theorem IM {x : AV} {H H' : List aa} {φ : AV → Prop} (h : eW x H φ) (hm : ∀ id, x ≠ .map id) : eW x H' φ := by
 unfold eW at *
 split at h <;> first | exact h | exact h.elim | exact absurd rfl (hm _)
theorem OH {P : Program} {C : gL} (hC : ku P C) {st : Bool} {o : bX} {ρ : IX → AV} {H : List aa} {v : AV} (h : XN C st o ρ H = some v) : dv P st o ρ H v := by
 cases st with
 | true => exact tL hC h
 | false =>
   intro H'
   simp only [XN] at h
   split at h
   ·split at h <;> try cases h
    rename_i sz i y hy
    simp only [cT]
    rw [hy]
    have := mZ (φ := fun z => z = v) h rfl
    unfold aS at this ⊢
    exact this
   ·rename_i f args
    split at h <;> try cases h
    rename_i g first cap hf
    split at h <;> try cases h
    rename_i hb
    split at h <;> cases h
    rename_i hr
    simp only [cT, hf]
    exact ⟨_, ca _, au.frame (R := fun r => r = v) (fun x hx => (ba 0 _).1 hb x hx) (hC.1 _ _ _ _ _ hr) H'⟩
   ·cases h
   ·rename_i kd i
    split at h
    ·cases h
    ·rename_i ep
     have := tL hC h
     simp only [cT] at this ⊢
     exact ⟨this.1, IM this.2 ep⟩
   ·rename_i kd z m k ok
    split at h <;> try cases h
    rename_i hm
    have := tL hC h
    simp only [cT, hm, cc] at this ⊢
    exact this
   ·rename_i _ h1 h0 h2 h3 h4
    have := tL hC h
    cases o <;> first | exact this | exact (h1 _ _ rfl).elim | exact (h2 _ _ _ rfl).elim | exact (h3 _ _ rfl).elim | exact (h4 _ _ _ _ _ rfl).elim | (rename_i take; cases take <;> exact this)
def GG : Env → Env → Bool
 | [], [] => true
 | (a, x) :: r, (b, y) :: s => a == b && x.beq y && GG r s
 | _, _ => false
theorem IN : ∀ {xs ys : Env}, GG xs ys = true → xs = ys
 | [], [], _ => rfl
 | (a, x) :: r, (b, y) :: s, h => by
   simp only [GG, Bool.and_eq_true, beq_iff_eq] at h
   rw [h.1.1, AV.qh h.1.2, IN h.2]
 | [], _ :: _, h => by simp [GG] at h
 | _ :: _, [], h => by simp [GG] at h
def LY (C : gL) (o : bu) (env : Env) (H : List aa) : Option (Env × List aa) := zp C [o] env H
theorem IP {P : Program} {C : gL} (hC : ku P C) {o : bu} {env aE : Env} {H H' : List aa} {K : Env → List aa → Prop} (h : LY C o env H = some (aE, H')) (hK : K aE H') : ra P o env H K := rq hC h hK
def IQ (C : gL) (st : Bool) (o : bu) (env : Env) (H : List aa) : Option Env :=
 match o.g with
 | none => match XN C st o.op (ap env) H with
   | some x => some (put o.dst x env)
   | none => none
 | some (g, want) => match get env g with
   | .bool b => if b = want then (match XN C st o.op (ap env) H with
      | some x => some (put o.dst x env)
      | none => none) else some (put o.dst (.tuple []) env)
   | .tuple [] => some (put o.dst (.tuple []) env)
   | _ => none
theorem LZ {P : Program} {C : gL} (hC : ku P C) {st : Bool} {o : bu} {env aE : Env} {H : List aa} {K : Env → Prop} (h : IQ C st o env H = some aE) (hK : K aE) : sy P st o env H K := by
 unfold IQ at h
 unfold sy
 cases hg : o.g with
 | none =>
   simp only [hg] at h ⊢
   split at h <;> cases h
   rename_i x hx
   exact ⟨x, OH hC hx, hK⟩
 | some p =>
   obtain ⟨g, want⟩ := p
   simp only [hg] at h ⊢
   simp only [gS]
   split at h
   rotate_left
   ·rename_i hb
    simp only [hb]
    cases h
    exact hK
   ·cases h
   rename_i b hb
   simp only [hb]
   split at h
   ·rename_i E0
    subst E0
    split at h <;> cases h
    rename_i x hx
    exact ⟨fun _ => ⟨x, OH hC hx, hK⟩, fun e => by cases b <;> cases e⟩
   ·rename_i E0
    cases h
    exact ⟨fun e => absurd e E0, fun _ => hK⟩
abbrev wN := List (Env × List aa)
def L3 (x : Env × List aa) : wN → Bool
 | [] => false
 | y :: r => match GG x.1 y.1 && Bo x.2 y.2 with | true => true | false => L3 x r
def o8 (l : wN) : wN → wN
 | [] => l
 | x :: r => match L3 x l with | true => o8 l r | false => x :: o8 l r
theorem IS {x : Env × List aa} : ∀ {l : wN}, L3 x l = true → x ∈ l
 | [], h => by cases h
 | y :: r, h => by
   unfold L3 at h
   split at h
   ·rename_i e
    simp only [Bool.and_eq_true] at e
    have e1 := IN e.1
    have e2 := zn e.2
    have : x = y := by cases x; cases y; simp only at e1 e2; rw [e1, e2]
    rw [this]; exact List.mem_cons_self
   ·exact List.mem_cons_of_mem _ (IS h)
theorem Bp {l : wN} : ∀ {m : wN}, (∀ x ∈ l, x ∈ o8 l m) ∧ ∀ x ∈ m, x ∈ o8 l m
 | [] => ⟨fun x h => h, fun x h => by cases h⟩
 | y :: r => by
   obtain ⟨h1, h2⟩ := Bp (l := l) (m := r)
   unfold o8
   split
   ·rename_i e
    refine ⟨h1, fun x hx => ?_⟩
    rcases List.mem_cons.1 hx with rfl | hx
    ·exact h1 _ (IS e)
    ·exact h2 x hx
   ·refine ⟨fun x hx => List.mem_cons_of_mem _ (h1 x hx), fun x hx => ?_⟩
    rcases List.mem_cons.1 hx with rfl | hx
    ·exact List.mem_cons_self
    ·exact List.mem_cons_of_mem _ (h2 x hx)
def C0 (C : gL) (live : Option (List Nat)) : DT → Env → List aa → Option wN
 | .done, env, H => some [(ej live env, H)]
 | .take st o r, env, H => match IQ C st o env H with
   | some aE => C0 C live r aE H
   | none => none
 | .br o t .nil, env, H => match LY C o env H with
   | some (aE, H') => C0 C live t aE H'
   | none => none
 | .br o t rest, env, H => match LY C o env H with
   | some (aE, H') => match C0 C live t aE H', C0 C live rest env H with
     | some l1, some l2 => some (o8 l1 l2)
     | _, _ => none
   | none => none
 | .nil, _, _ => none
theorem Ua {P : Program} {C : gL} (hC : ku P C) {live : Option (List Nat)} : ∀ {t : DT} {env : Env} {H : List aa} {l : wN} {K : Env → List aa → Prop}, C0 C live t env H = some l → (∀ o ∈ l, K o.1 o.2) → tF P t env H fun e H => K (ej live e) H := by
 intro t
 induction t with
 | done => intro env H l K h hK; simp only [C0] at h; cases h; exact hK _ List.mem_cons_self
 | nil => intro env H l K h hK; simp [C0] at h
 | take st o r ih =>
   intro env H l K h hK
   simp only [C0] at h
   split at h <;> try cases h
   rename_i e2 he
   exact LZ (K := fun env => tF P r env H fun e H => K (ej live e) H) hC he (ih h hK)
 | br o t rest IB HP =>
   intro env H l K h hK
   have key : ∀ rest', (∀ {env : Env} {H : List aa} {l : wN} {K : Env → List aa → Prop}, C0 C live rest' env H = some l → (∀ o ∈ l, K o.1 o.2) → tF P rest' env H fun e H => K (ej live e) H) → rest' = rest →
    ((match LY C o env H with
    | some (aE, H') => match C0 C live t aE H', C0 C live rest' env H with
      | some l1, some l2 => some (o8 l1 l2)
      | _, _ => none
    | none => none) = some l) → tF P (.br o t rest') env H fun e H => K (ej live e) H := by
    intro rest' ihr' _ h
    split at h <;> try cases h
    rename_i e2 H2 h2
    split at h <;> try cases h
    rename_i l1 l2 h3 h4
    obtain ⟨u1, u2⟩ := Bp (l := l1) (m := l2)
    exact ⟨IP (K := fun env H => tF P t env H fun e H => K (ej live e) H) hC h2 (IB h3 fun o ho => hK o (u1 o ho)), ihr' h4 fun o ho => hK o (u2 o ho)⟩
   cases rest with
   | nil =>
     simp only [C0] at h
     split at h <;> try cases h
     rename_i e2 H2 h2
     exact ⟨IP (K := fun env H => tF P t env H fun e H => K (ej live e) H) hC h2 (IB h hK), trivial⟩
   | done => exact key _ (fun h hK => HP h hK) rfl (by simpa only [C0] using h)
   | take st o' r => exact key _ (fun h hK => HP h hK) rfl (by simpa only [C0] using h)
   | br o' t' r => exact key _ (fun h hK => HP h hK) rfl (by simpa only [C0] using h)
end Go.aL
