/- A memory-free reading of the model's values (part 20): code that is run. -/
import Derived.Test.YtljchnfgjdjobaaGreatSad
set_option linter.unusedVariables false
set_option linter.unusedSimpArgs false
set_option linter.defProp false
set_option linter.unusedSectionVars false
namespace Go.aK
open Go
def Qc : Fn → Fn → Bool
 | .func a, .func b => a == b
 | _, _ => false
mutual
def AV.beq : AV → AV → Bool
 | .any, .any => true
 | .bool a, .bool b => a == b
 | .int k a, .int l b => decide (k = l) && decide (a = b)
 | .str a, .str b => decide (a = b)
 | .ah, .ah => true
 | .ap o xs, .ap p ys => decide (o = p) && uP xs ys
 | .bf a b c d, .bf e f g h => decide (a = e) && decide (b = f) && decide (c = g) && decide (d = h)
 | .agg xs, .agg ys => uP xs ys
 | .tuple xs, .tuple ys => uP xs ys
 | .ptr a b, .ptr c d => decide (a = c) && decide (b = d)
 | .ai x, .ai y => x.beq y
 | .qO, .qO => true
 | .map a, .map b => decide (a = b)
 | .iD, .iD => true
 | .fn f xs ys, .fn g us vs => Qc f g && uP xs us && uP ys vs
 | .fq, .fq => true
 | .iface t x, .iface u y => decide (t = u) && x.beq y
 | .wh, .wh => true
 | _, _ => false
def uP : List AV → List AV → Bool
 | [], [] => true
 | x :: xs, y :: ys => x.beq y && uP xs ys
 | _, _ => false
end
theorem Qd {f g : Fn} (h : Qc f g = true) : f = g := by
 unfold Qc at h
 split at h
 ·simp at h; rw [h]
 ·cases h
mutual
theorem AV.pZ : ∀ {x y : AV}, x.beq y = true → x = y := by
 intro x y h
 cases x <;> cases y <;> simp only [AV.beq, Bool.and_eq_true, decide_eq_true_eq, Bool.false_eq_true, beq_iff_eq] at h <;> first
  | rfl
  | (subst h; rfl)
  | (obtain ⟨rfl, rfl⟩ := h; rfl)
  | (obtain ⟨⟨⟨rfl, rfl⟩, rfl⟩, rfl⟩ := h; rfl)
  | (rw [rk h])
  | (rw [AV.pZ h])
  | (obtain ⟨rfl, h⟩ := h; rw [rk h])
  | (obtain ⟨rfl, h⟩ := h; rw [AV.pZ h])
  | (obtain ⟨⟨h1, h2⟩, h3⟩ := h; rw [Qd h1, rk h2, rk h3])
theorem rk : ∀ {xs ys : List AV}, uP xs ys = true → xs = ys
 | [], [], _ => rfl
 | x :: xs, y :: ys, h => by
   simp only [uP, Bool.and_eq_true] at h
   rw [AV.pZ h.1, rk h.2]
 | [], _ :: _, h => by simp [uP] at h
 | _ :: _, [], h => by simp [uP] at h
end
def GB : List (AV × AV) → List (AV × AV) → Bool
 | [], [] => true
 | (a, b) :: xs, (c, d) :: ys => a.beq c && b.beq d && GB xs ys
 | _, _ => false
theorem IG : ∀ {xs ys : List (AV × AV)}, GB xs ys = true → xs = ys
 | [], [], _ => rfl
 | (a, b) :: xs, (c, d) :: ys, h => by
   simp only [GB, Bool.and_eq_true] at h
   rw [AV.pZ h.1.1, AV.pZ h.1.2, IG h.2]
 | [], _ :: _, h => by simp [GB] at h
 | _ :: _, [], h => by simp [GB] at h
def aa.beq : aa → aa → Bool
 | .dead, .dead => true
 | .cells a, .cells b => uP a b
 | .map a, .map b => GB a b
 | _, _ => false
theorem aa.pZ {x y : aa} (h : x.beq y = true) : x = y := by
 unfold aa.beq at h
 split at h
 ·rfl
 ·rw [rk h]
 ·rw [IG h]
 ·cases h
def Bo : List aa → List aa → Bool
 | [], [] => true
 | x :: xs, y :: ys => x.beq y && Bo xs ys
 | _, _ => false
theorem zn : ∀ {xs ys : List aa}, Bo xs ys = true → xs = ys
 | [], [], _ => rfl
 | x :: xs, y :: ys, h => by
   simp only [Bo, Bool.and_eq_true] at h
   rw [aa.pZ h.1, zn h.2]
 | [], _ :: _, h => by simp [Bo] at h
 | _ :: _, [], h => by simp [Bo] at h
abbrev gK := Bool → Nat → List AV → List aa → Option (AV × List aa)
def E5 (C : gK) (g : Nat) (args : List AV) (H : List aa) : Option (AV × List aa) :=
 match aj 0 args with
 | true => match C false g args [] with
   | some (r, []) => some (r, H)
   | _ => C false g args H
 | false => C false g args H
def dQ (H : List aa) (dst : Option Nat) (env : Env) (z : Option AV) : Option (Env × List aa) := match z with | some z => some (put dst z env, H) | none => none
def gF (C : gK) (o : bW) (dst : Option Nat) (env : Env) (H : List aa) : Option (Env × List aa) :=
 match o with
 | .set x take => match dst with | some d => some (sW env d x take, H) | none => some (env, H)
 | .pick c a b => match al env c with
   | .bool true => some (put dst (al env a).ab env, H)
   | .bool false => some (put dst (al env b).ab env, H)
   | _ => none
 | .bin op x y => dQ H dst env (E1 op (al env x) (al env y))
 | .shift op x y => dQ H dst env (tB op (al env x) (al env y))
 | .gO neq x y => dQ H dst env (pR neq (al env x) (al env y))
 | .iT kd neq x => dQ H dst env (tC kd neq (al env x))
 | .un op x => dQ H dst env (LO op (al env x))
 | .box x => if (al env x).val = true ∧ aj (H.length + 1) ((al env x).cells.map AV.ab) = true then some (put dst (.ptr H.length 0) env, H ++ [.cells ((al env x).cells.map AV.ab)]) else none
 | .k9 x => if (al env x).val = true then some (put dst (.ai (al env x)) env, H) else none
 | .qQ m x => if (al env x).val = true ∧ (al env x).cells.length = m ∧ (al env x).cells.all AV.one = true then some (put dst (.ai (al env x)) env, H) else none
 | .alloc z => if aj (H.length + 1) (z.cells.map AV.ab) = true then some (put dst (.ptr H.length 0) env, H ++ [.cells (z.cells.map AV.ab)]) else none
 | .build z ps => dQ H dst env ((ri z.cells (ps.map fun q => (q.1, q.2.1, al env q.2.2))).map .agg)
 | .buildSlice own esz z len ps => dQ H dst env ((kH (List.replicate len (aT z)) esz (ps.map fun q => (q.1, al env q.2))).map (.ap own))
 | .load sz a => dQ H dst env (oX sz (al env a) H)
 | .eh a => match dst, al env a with
   | some d, .ptr id off => match H[id]? with
     | some (.cells es) => if off < es.length then some ((d, es.getD off .any) :: env, H.set id (.cells (es.set off (es.getD off .any).ab))) else none
     | _ => none
   | _, _ => none
 | .store m a x => match zi m (al env a) (al env x) H with | some H' => some (env, H') | none => none
 | .mE _ _ _ => none
 | .sc sz esz a => match oX sz (al env a) H with
   | some z => match zm esz z H with
     | some (v, H') => some (put dst v env, H')
     | none => none
   | none => none
 | .eV a s => match rj (al env a) (get env s) H with | some H' => some ((s, (get env s).ab) :: env, H') | none => none
 | .nilCheck x => dQ H dst env (lH (al env x))
 | .fieldAddr off sz x => dQ H dst env (jT off sz (al env x))
 | .field off sz x => dQ H dst env (tD off sz (al env x))
 | .indexAddr esz x i => if uF esz (al env x) = true then dQ H dst env (jU esz (al env x) (al env i)) else none
 | .c8 x i => dQ H dst env (lG (al env x) (al env i))
 | .dL n x i => dQ H dst env (lF n (al env x) (al env i))
 | .slice esz x lo hi m => dQ H dst env (pT esz (al env x) (fX env lo) (fX env hi) (fX env m))
 | .dM x lo hi => dQ H dst env (lJ (al env x) (fX env lo) (fX env hi))
 | .len kd x => if zh kd (al env x) = true then dQ H dst env (E2 (al env x) H) else none
 | .append esz bytes s x => match uG esz bytes (al env s) (al env x) with | some zs => some (put dst (.ap esz zs) (cD env s.slot), H) | none => none
 | .sd esz bytes z n => match zj bytes z (al env n) H with | some (v, H') => some (put dst v env, H') | none => none
 | .mF esz bytes n => dQ H dst env (tE esz bytes (al env n))
 | .mG => some (put dst (.map H.length) env, H ++ [.map []])
 | .AG .. => none
 | .iV .. => none
 | .mH .. => none
 | .oM .. => none
 | .lookup kd z m k ok => dQ H dst env (pU kd z (al env m) (al env k) ok H)
 | .jY kd m k x => match uI kd (al env m) (al env k) (al env x) H with | some H' => some (env, H') | none => none
 | .fn f first cap => some (put dst (.fn f (first.map fun x => (al env x).ab) (cap.map fun x => (al env x).ab)) env, H)
 | .extract x i => dQ H dst env (nP (al env x) i)
 | .call f args pass => match al env f with
   | .fn (.func g) first cap => match E5 C g (first.map AV.ab ++ aH env pass 0 args ++ cap.map AV.ab) H with
     | some (r, H') => some (put dst r (cD env (bc args pass)), H')
     | none => none
   | .mC id => match C true id (aH env pass 0 args) H with
     | some (r, H') => some (put dst r (cD env (bc args pass)), H')
     | none => none
   | _ => none
 | .eC k x => dQ H dst env (nQ k (al env x))
 | .gg x => dQ H dst env (nR (al env x))
 | .bytesOf x => dQ H dst env (nS 1 (al env x))
 | .strOf x => dQ H dst env (tF (al env x))
 | .mx big a b => dQ H dst env (LP big (al env a) (al env b))
 | .copy esz d s => match DE esz (al env d) (al env s) H with | some (v, H') => some (put dst v env, H') | none => none
 | .yC esz x => match oY esz (al env x) H with | some (v, H') => some (put dst v env, H') | none => none
 | .never => none
def ko (P : Program) (C : gK) : Prop := (∀ g args H r H', C false g args H = some (r, H') → aq P g args H fun r' H'' => r' = r ∧ H'' = H') ∧
 ∀ id args H r H', C true id args H = some (r, H') → jt P id args H fun r' H'' => r' = r ∧ H'' = H'
theorem E6 {P : Program} {C : gK} (hC : ko P C) {g : Nat} {args : List AV} {H H' : List aa} {r : AV} (h : E5 C g args H = some (r, H')) : aq P g args H fun r' H'' => r' = r ∧ H'' = H' := by
 unfold E5 at h
 split at h
 ·rename_i hb
  split at h
  ·rename_i hr
   cases h
   exact aq.frame (R := fun r' => r' = r) (fun x hx => (a9 0 _).1 hb x hx) (hC.1 _ _ _ _ _ hr) H
  ·exact hC.1 _ _ _ _ _ h
 ·exact hC.1 _ _ _ _ _ h
theorem b9 : ∀ xs, xk xs xs
 | [] => trivial
 | x :: xs => ⟨le_refl _, b9 xs⟩
theorem ba {H H' : List aa} {dst : Option Nat} {env aD : Env} {z : Option AV} (h : dQ H dst env z = some (aD, H')) : ∃ v, z = some v ∧ aD = put dst v env ∧ H' = H := by
 unfold dQ at h
 split at h <;> cases h
 exact ⟨_, rfl, rfl, rfl⟩
theorem IH {P : Program} {C : gK} (hC : ko P C) {o : bW} {dst : Option Nat} {env aD : Env} {H H' : List aa} {K : Env → List aa → Prop} (h : gF C o dst env H = some (aD, H')) (hK : K aD H') : bt P o dst env H K := by
 cases o with
 | set x take =>
   simp only [gF] at h
   simp only [bt]
   split at h <;> cases h <;> exact hK
 | pick c a b =>
   simp only [gF] at h
   simp only [bt]
   split at h <;> cases h
   ·rename_i e; rw [e]; exact ⟨fun _ => hK, fun e => by cases e⟩
   ·rename_i e; rw [e]; exact ⟨fun e => (by cases e), fun _ => hK⟩
 | bin op x y => obtain ⟨v, hv, rfl, rfl⟩ := ba h; exact E3 (φ := fun z => K (put dst z env) _) hv hK
 | shift op x y => obtain ⟨v, hv, rfl, rfl⟩ := ba h; exact xt (φ := fun z => K (put dst z env) _) hv hK
 | gO op x y => obtain ⟨v, hv, rfl, rfl⟩ := ba h; exact uJ (φ := fun z => K (put dst z env) _) hv hK
 | iT kd neq x => obtain ⟨v, hv, rfl, rfl⟩ := ba h; exact xu (φ := fun z => K (put dst z env) _) hv hK
 | un op x => obtain ⟨v, hv, rfl, rfl⟩ := ba h; exact ID (φ := fun z => K (put dst z env) _) hv hK
 | box x =>
   simp only [gF] at h
   split at h <;> cases h
   rename_i hc
   exact ⟨hc.1, hc.2, hK⟩
 | k9 x =>
   simp only [gF] at h
   split at h <;> cases h
   rename_i hc
   exact ⟨hc, hK⟩
 | qQ m x =>
   simp only [gF] at h
   split at h <;> cases h
   rename_i hc
   exact ⟨hc.1, hc.2.1, hc.2.2, hK⟩
 | alloc z =>
   simp only [gF] at h
   split at h <;> cases h
   rename_i hc
   exact ⟨hc, hK⟩
 | build z ps =>
   obtain ⟨v, hv, rfl, rfl⟩ := ba h
   obtain ⟨u, hu, rfl⟩ := Option.map_eq_some_iff.1 hv
   exact uK (φ := fun xs => K (put dst (.agg xs) env) H') hK hu
 | buildSlice own esz z len ps =>
   obtain ⟨v, hv, rfl, rfl⟩ := ba h
   obtain ⟨u, hu, rfl⟩ := Option.map_eq_some_iff.1 hv
   exact oZ (φ := fun xs => K (put dst (.ap own xs) env) H') hK hu
 | load sz a => obtain ⟨v, hv, rfl, rfl⟩ := ba h; exact mX (φ := fun z => K (put dst z env) _) hv hK
 | eh a =>
   simp only [gF] at h
   simp only [bt]
   split at h <;> try cases h
   rename_i e
   simp only [e]
   split at h <;> try cases h
   rename_i bm
   simp only [bm]
   split at h <;> cases h
   exact ⟨by assumption, hK⟩
 | store m a x =>
   simp only [gF] at h
   split at h <;> cases h
   rename_i hs
   exact Gw hs hK
 | eV a s =>
   simp only [gF] at h
   split at h <;> cases h
   rename_i hs
   exact Bm hs hK
 | nilCheck x => obtain ⟨v, hv, rfl, rfl⟩ := ba h; exact pX (φ := fun z => K (put dst z env) _) hv hK
 | fieldAddr off sz x => obtain ⟨v, hv, rfl, rfl⟩ := ba h; exact oD (φ := fun z => K (put dst z env) _) hv hK
 | field off sz x => obtain ⟨v, hv, rfl, rfl⟩ := ba h; exact xv (φ := fun z => K (put dst z env) _) hv hK
 | indexAddr esz x i =>
   simp only [gF] at h
   split at h <;> try cases h
   rename_i hl
   obtain ⟨v, hv, rfl, rfl⟩ := ba h
   exact ⟨uL hl, oE (φ := fun z => K (put dst z env) _) hv hK⟩
 | c8 x i => obtain ⟨v, hv, rfl, rfl⟩ := ba h; exact pV (φ := fun z => K (put dst z env) _) hv hK
 | dL n x i => obtain ⟨v, hv, rfl, rfl⟩ := ba h; exact pW (φ := fun z => K (put dst z env) _) hv hK
 | slice esz x lo hi m => obtain ⟨v, hv, rfl, rfl⟩ := ba h; exact uN (φ := fun z => K (put dst z env) _) hv hK
 | dM x lo hi => obtain ⟨v, hv, rfl, rfl⟩ := ba h; exact pY (φ := fun z => K (put dst z env) _) hv hK
 | len kd x =>
   simp only [gF] at h
   split at h <;> try cases h
   rename_i hl
   obtain ⟨v, hv, rfl, rfl⟩ := ba h
   exact ⟨Bl hl, E4 (φ := fun z => K (put dst z env) _) hv hK⟩
 | append esz bytes s x =>
   simp only [gF] at h
   split at h <;> cases h
   rename_i hs
   exact DF (φ := fun zs => K (put dst (.ap esz zs) (cD env s.slot)) _) hs hK
 | sd esz bytes z n =>
   simp only [gF] at h
   split at h <;> cases h
   rename_i hs
   exact Gx (esz := esz) (K := fun v H' => K (put dst v env) H') hs hK
 | mF esz bytes n => obtain ⟨v, hv, rfl, rfl⟩ := ba h; exact xw (φ := fun z => K (put dst z env) _) hv hK
 | mG => simp only [gF] at h; cases h; exact hK
 | mE m a x => simp only [gF] at h; cases h
 | sc sz esz a =>
   simp only [gF] at h
   split at h <;> try cases h
   rename_i z hz
   split at h <;> cases h
   rename_i v H2 hs
   exact mX (φ := fun z => ff esz z H fun y H' => K (put dst y env) H') hz (GA (K := fun v H' => K (put dst v env) H') hs hK)
 | AG esz z len ps => simp only [gF] at h; cases h
 | iV esz bytes z s x => simp only [gF] at h; cases h
 | mH esz z x => simp only [gF] at h; cases h
 | oM esz x lo hi mx => simp only [gF] at h; cases h
 | lookup kd z m k ok => obtain ⟨v, hv, rfl, rfl⟩ := ba h; exact uO (φ := fun z => K (put dst z env) _) hv hK
 | jY kd m k x =>
   simp only [gF] at h
   split at h <;> cases h
   rename_i hs
   exact DG hs hK
 | fn f first cap => simp only [gF] at h; cases h; exact hK
 | extract x i => obtain ⟨v, hv, rfl, rfl⟩ := ba h; exact sH (φ := fun z => K (put dst z env) _) hv hK
 | call f args pass =>
   simp only [gF] at h
   simp only [bt, oz]
   split at h <;> try cases h
   ·rename_i g first cap e
    split at h <;> cases h
    rename_i r hr
    rw [e]
    refine ⟨_, b9 _, dY.of <| (E6 hC hr).mono ?_⟩
    rintro r' H'' ⟨rfl, rfl⟩
    exact hK
   ·rename_i id e
    split at h <;> cases h
    rename_i r hr
    rw [e]
    refine ⟨_, b9 _, fa.mono (hC.2 _ _ _ _ _ hr) ?_⟩
    rintro r' H'' ⟨rfl, rfl⟩
    exact hK
 | eC k x => obtain ⟨v, hv, rfl, rfl⟩ := ba h; exact sI (φ := fun z => K (put dst z env) _) hv hK
 | gg x => obtain ⟨v, hv, rfl, rfl⟩ := ba h; exact sJ (φ := fun z => K (put dst z env) _) hv hK
 | bytesOf x => obtain ⟨v, hv, rfl, rfl⟩ := ba h; exact sK (φ := fun z => K (put dst z env) _) hv hK
 | strOf x => obtain ⟨v, hv, rfl, rfl⟩ := ba h; exact xy (φ := fun z => K (put dst z env) _) hv hK
 | mx big a b => obtain ⟨v, hv, rfl, rfl⟩ := ba h; exact IE (φ := fun z => K (put dst z env) _) hv hK
 | copy esz d s =>
   simp only [gF] at h
   split at h <;> cases h
   rename_i hs
   exact IF (K := fun v H' => K (put dst v env) H') hs hK
 | yC esz x =>
   simp only [gF] at h
   split at h <;> cases h
   rename_i hs
   exact uM (K := fun v H' => K (put dst v env) H') hs hK
 | never => cases h
def me (C : gK) (o : bW) (ρ : IX → AV) (H : List aa) : Option AV :=
 match o with
 | .set i false => some (ρ i).ab
 | .pick c a b => match ρ c with | .bool true => some (ρ a).ab | .bool false => some (ρ b).ab | _ => none
 | .bin op i j => E1 op (ρ i) (ρ j)
 | .shift op i j => tB op (ρ i) (ρ j)
 | .gO neq i j => pR neq (ρ i) (ρ j)
 | .iT kd neq i => tC kd neq (ρ i)
 | .un op i => LO op (ρ i)
 | .k9 i => if (ρ i).val = true then some (.ai (ρ i)) else none
 | .build z ps => (ri z.cells (ps.map fun q => (q.1, q.2.1, ρ q.2.2))).map .agg
 | .buildSlice own esz z len ps => (kH (List.replicate len (aT z)) esz (ps.map fun q => (q.1, ρ q.2))).map (.ap own)
 | .load sz i => oX sz (ρ i) H
 | .nilCheck i => lH (ρ i)
 | .fieldAddr off sz i => jT off sz (ρ i)
 | .field off sz i => tD off sz (ρ i)
 | .indexAddr esz i j => if uF esz (ρ i) = true then jU esz (ρ i) (ρ j) else none
 | .c8 i j => lG (ρ i) (ρ j)
 | .dL n i j => lF n (ρ i) (ρ j)
 | .slice esz i lo hi m => pT esz (ρ i) (lo.map ρ) (hi.map ρ) (m.map ρ)
 | .dM i lo hi => lJ (ρ i) (lo.map ρ) (hi.map ρ)
 | .len kd i => if zh kd (ρ i) = true then E2 (ρ i) H else none
 | .lookup kd z m k ok => pU kd z (ρ m) (ρ k) ok H
 | .fn f first cap => some (.fn f (first.map fun x => (ρ x).ab) (cap.map fun x => (ρ x).ab))
 | .extract i k => nP (ρ i) k
 | .call f args none => match ρ f with
   | .fn (.func g) first cap => match E5 C g (first.map AV.ab ++ (args.map fun x => (ρ x).ab) ++ cap.map AV.ab) H with
     | some (r, H') => if Bo H' H = true then some r else none
     | none => none
   | _ => none
 | .eC k i => nQ k (ρ i)
 | .gg i => nR (ρ i)
 | .bytesOf i => nS 1 (ρ i)
 | .mF esz bytes i => tE esz bytes (ρ i)
 | .strOf i => tF (ρ i)
 | .mx big i j => LP big (ρ i) (ρ j)
 | _ => none
theorem tG {P : Program} {C : gK} (hC : ko P C) {o : bW} {ρ : IX → AV} {H : List aa} {v : AV} (h : me C o ρ H = some v) : cS P o ρ H v := by
 cases o with
 | set i take =>
   cases take with
   | true => cases h
   | false => simp only [me] at h; cases h; rfl
 | pick c a b =>
   simp only [me] at h
   simp only [cS]
   split at h <;> cases h
   ·rename_i e; rw [e]; exact ⟨fun _ => rfl, fun e => by cases e⟩
   ·rename_i e; rw [e]; exact ⟨fun e => (by cases e), fun _ => rfl⟩
 | bin op x y => exact E3 (φ := fun z => z = v) h rfl
 | shift op x y => exact xt (φ := fun z => z = v) h rfl
 | gO op x y => exact uJ (φ := fun z => z = v) h rfl
 | iT kd neq x => exact xu (φ := fun z => z = v) h rfl
 | un op x => exact ID (φ := fun z => z = v) h rfl
 | k9 x =>
   simp only [me] at h
   split at h <;> cases h
   rename_i hc
   exact ⟨hc, rfl⟩
 | build z ps =>
   obtain ⟨u, hu, rfl⟩ := Option.map_eq_some_iff.1 h
   exact uK (φ := fun xs => AV.agg xs = .agg u) rfl hu
 | buildSlice own esz z len ps =>
   obtain ⟨u, hu, rfl⟩ := Option.map_eq_some_iff.1 h
   exact oZ (φ := fun xs => AV.ap own xs = .ap own u) rfl hu
 | load sz a => exact mX (φ := fun z => z = v) h rfl
 | nilCheck x => exact pX (φ := fun z => z = v) h rfl
 | fieldAddr off sz x => exact oD (φ := fun z => z = v) h rfl
 | field off sz x => exact xv (φ := fun z => z = v) h rfl
 | indexAddr esz x i =>
   simp only [me] at h
   split at h <;> try cases h
   rename_i hl
   exact ⟨uL hl, oE (φ := fun z => z = v) h rfl⟩
 | c8 x i => exact pV (φ := fun z => z = v) h rfl
 | dL n x i => exact pW (φ := fun z => z = v) h rfl
 | slice esz x lo hi m => exact uN (φ := fun z => z = v) h rfl
 | mF esz bytes n => exact xw (φ := fun z => z = v) h rfl
 | dM x lo hi => exact pY (φ := fun z => z = v) h rfl
 | len kd x =>
   simp only [me] at h
   split at h <;> try cases h
   rename_i hl
   exact ⟨Bl hl, E4 (φ := fun z => z = v) h rfl⟩
 | lookup kd z m k ok => exact uO (φ := fun z => z = v) h rfl
 | fn f first cap => simp only [me] at h; cases h; rfl
 | extract x i => exact sH (φ := fun z => z = v) h rfl
 | call f args pass =>
   cases pass with
   | some _ => cases h
   | none =>
     simp only [me] at h
     simp only [cS]
     split at h <;> try cases h
     rename_i g first cap e
     split at h <;> try cases h
     rename_i r H' hr
     split at h <;> cases h
     rename_i hb
     rw [e]
     refine ⟨_, b9 _, (E6 hC hr).mono ?_⟩
     rintro r' H'' ⟨rfl, rfl⟩
     exact ⟨rfl, zn hb⟩
 | eC k x => exact sI (φ := fun z => z = v) h rfl
 | gg x => exact sJ (φ := fun z => z = v) h rfl
 | bytesOf x => exact sK (φ := fun z => z = v) h rfl
 | strOf x => exact xy (φ := fun z => z = v) h rfl
 | mx big a b => exact IE (φ := fun z => z = v) h rfl
 | _ => cases h
def zp (C : gK) : List bu → Env → List aa → Option (Env × List aa)
 | [], env, H => some (env, H)
 | o :: r, env, H => match o.g with
   | none => match gF C o.op o.dst env H with
     | some (env, H) => zp C r env H
     | none => none
   | some (g, want) => match get env g with
     | .bool b => if b = want then (match gF C o.op o.dst ((g, .bool want) :: env) H with
        | some (env, H) => zp C r env H
        | none => none) else zp C r (put o.dst (.tuple []) ((g, .bool (!want)) :: env)) H
     | .tuple [] => zp C r (put o.dst (.tuple []) env) H
     | _ => none
theorem rn {P : Program} {C : gK} (hC : ko P C) : ∀ {l : List bu} {env aD : Env} {H H' : List aa} {K : Env → List aa → Prop}, zp C l env H = some (aD, H') → K aD H' → iZ P l env H K
 | [], env, aD, H, H', K, h, hK => by simp only [zp] at h; cases h; exact hK
 | o :: r, env, aD, H, H', K, h, hK => by
   simp only [zp] at h
   simp only [iZ, qY]
   cases hg : o.g with
   | none =>
     simp only [hg] at h ⊢
     split at h <;> try cases h
     rename_i e2 H2 h2
     exact IH (K := fun env H => iZ P r env H K) hC h2 (rn hC h hK)
   | some p =>
     obtain ⟨g, want⟩ := p
     simp only [hg] at h ⊢
     simp only [gR]
     split at h
     rotate_left
     ·rename_i hb
      simp only [hb]
      exact rn hC h hK
     ·cases h
     rename_i b hb
     simp only [hb]
     split at h
     ·rename_i EV
      subst EV
      split at h <;> try cases h
      rename_i e2 H2 h2
      exact ⟨fun _ => IH (K := fun env H => iZ P r env H K) hC h2 (rn hC h hK), fun e => by cases b <;> cases e⟩
     ·rename_i EV
      exact ⟨fun e => absurd e EV, fun _ => rn hC h hK⟩
def XD (C : gK) (st : Bool) (o : bW) (ρ : IX → AV) (H : List aa) : Option AV :=
 match st with
 | true => me C o ρ H
 | false => match o with
   | .load sz i => (match ρ i with | .ai y => oX sz (.ai y) [] | _ => none)
   | .call f args none => (match ρ f with
     | .fn (.func g) first cap => if aj 0 (first.map AV.ab ++ (args.map fun x => (ρ x).ab) ++ cap.map AV.ab) = true then (match C false g (first.map AV.ab ++ (args.map fun x => (ρ x).ab) ++ cap.map AV.ab) [] with
       | some (r, []) => some r
       | _ => none) else none
     | _ => none)
   | .call _ _ _ => none
   | .len kd i => (match ρ i with | .map _ => none | _ => me C o ρ [])
   | .lookup kd z m k ok => (match ρ m with | .iD => me C o ρ [] | _ => none)
   | o => me C o ρ []
theorem II {x : AV} {H H' : List aa} {φ : AV → Prop} (h : eW x H φ) (hm : ∀ id, x ≠ .map id) : eW x H' φ := by
 unfold eW at *
 split at h <;> first | exact h | exact h.elim | exact absurd rfl (hm _)
theorem OA {P : Program} {C : gK} (hC : ko P C) {st : Bool} {o : bW} {ρ : IX → AV} {H : List aa} {v : AV} (h : XD C st o ρ H = some v) : dv P st o ρ H v := by
 cases st with
 | true => exact tG hC h
 | false =>
   intro H'
   simp only [XD] at h
   split at h
   ·split at h <;> try cases h
    rename_i sz i y hy
    simp only [cS]
    rw [hy]
    have := mX (φ := fun z => z = v) h rfl
    unfold aS at this ⊢
    exact this
   ·rename_i f args
    split at h <;> try cases h
    rename_i g first cap hf
    split at h <;> try cases h
    rename_i hb
    split at h <;> cases h
    rename_i hr
    simp only [cS, hf]
    exact ⟨_, b9 _, aq.frame (R := fun r => r = v) (fun x hx => (a9 0 _).1 hb x hx) (hC.1 _ _ _ _ _ hr) H'⟩
   ·cases h
   ·rename_i kd i
    split at h
    ·cases h
    ·rename_i dG
     have := tG hC h
     simp only [cS] at this ⊢
     exact ⟨this.1, II this.2 dG⟩
   ·rename_i kd z m k ok
    split at h <;> try cases h
    rename_i hm
    have := tG hC h
    simp only [cS, hm, cb] at this ⊢
    exact this
   ·rename_i _ h1 h0 h2 h3 h4
    have := tG hC h
    cases o <;> first | exact this | exact (h1 _ _ rfl).elim | exact (h2 _ _ _ rfl).elim | exact (h3 _ _ rfl).elim | exact (h4 _ _ _ _ _ rfl).elim | (rename_i take; cases take <;> exact this)
def GC : Env → Env → Bool
 | [], [] => true
 | (a, x) :: r, (b, y) :: s => a == b && x.beq y && GC r s
 | _, _ => false
theorem IJ : ∀ {xs ys : Env}, GC xs ys = true → xs = ys
 | [], [], _ => rfl
 | (a, x) :: r, (b, y) :: s, h => by
   simp only [GC, Bool.and_eq_true, beq_iff_eq] at h
   rw [h.1.1, AV.pZ h.1.2, IJ h.2]
 | [], _ :: _, h => by simp [GC] at h
 | _ :: _, [], h => by simp [GC] at h
def LQ (C : gK) (o : bu) (env : Env) (H : List aa) : Option (Env × List aa) := zp C [o] env H
theorem IK {P : Program} {C : gK} (hC : ko P C) {o : bu} {env aD : Env} {H H' : List aa} {K : Env → List aa → Prop} (h : LQ C o env H = some (aD, H')) (hK : K aD H') : qY P o env H K := rn hC h hK
def IM (C : gK) (st : Bool) (o : bu) (env : Env) (H : List aa) : Option Env :=
 match o.g with
 | none => match XD C st o.op (al env) H with
   | some x => some (put o.dst x env)
   | none => none
 | some (g, want) => match get env g with
   | .bool b => if b = want then (match XD C st o.op (al env) H with
      | some x => some (put o.dst x env)
      | none => none) else some (put o.dst (.tuple []) env)
   | .tuple [] => some (put o.dst (.tuple []) env)
   | _ => none
theorem LR {P : Program} {C : gK} (hC : ko P C) {st : Bool} {o : bu} {env aD : Env} {H : List aa} {K : Env → Prop} (h : IM C st o env H = some aD) (hK : K aD) : sx P st o env H K := by
 unfold IM at h
 unfold sx
 cases hg : o.g with
 | none =>
   simp only [hg] at h ⊢
   split at h <;> cases h
   rename_i x hx
   exact ⟨x, OA hC hx, hK⟩
 | some p =>
   obtain ⟨g, want⟩ := p
   simp only [hg] at h ⊢
   simp only [gR]
   split at h
   rotate_left
   ·rename_i hb
    simp only [hb]
    cases h
    exact hK
   ·cases h
   rename_i b hb
   simp only [hb]
   split at h
   ·rename_i EV
    subst EV
    split at h <;> cases h
    rename_i x hx
    exact ⟨fun _ => ⟨x, OA hC hx, hK⟩, fun e => by cases b <;> cases e⟩
   ·rename_i EV
    cases h
    exact ⟨fun e => absurd e EV, fun _ => hK⟩
abbrev wJ := List (Env × List aa)
def LS (x : Env × List aa) : wJ → Bool
 | [] => false
 | y :: r => match GC x.1 y.1 && Bo x.2 y.2 with | true => true | false => LS x r
def o6 (l : wJ) : wJ → wJ
 | [] => l
 | x :: r => match LS x l with | true => o6 l r | false => x :: o6 l r
theorem IN {x : Env × List aa} : ∀ {l : wJ}, LS x l = true → x ∈ l
 | [], h => by cases h
 | y :: r, h => by
   unfold LS at h
   split at h
   ·rename_i e
    simp only [Bool.and_eq_true] at e
    have e1 := IJ e.1
    have e2 := zn e.2
    have : x = y := by cases x; cases y; simp only at e1 e2; rw [e1, e2]
    rw [this]; exact List.mem_cons_self
   ·exact List.mem_cons_of_mem _ (IN h)
theorem Bp {l : wJ} : ∀ {m : wJ}, (∀ x ∈ l, x ∈ o6 l m) ∧ ∀ x ∈ m, x ∈ o6 l m
 | [] => ⟨fun x h => h, fun x h => by cases h⟩
 | y :: r => by
   obtain ⟨h1, h2⟩ := Bp (l := l) (m := r)
   unfold o6
   split
   ·rename_i e
    refine ⟨h1, fun x hx => ?_⟩
    rcases List.mem_cons.1 hx with rfl | hx
    ·exact h1 _ (IN e)
    ·exact h2 x hx
   ·refine ⟨fun x hx => List.mem_cons_of_mem _ (h1 x hx), fun x hx => ?_⟩
    rcases List.mem_cons.1 hx with rfl | hx
    ·exact List.mem_cons_self
    ·exact List.mem_cons_of_mem _ (h2 x hx)
def C0 (C : gK) (live : Option (List Nat)) : DT → Env → List aa → Option wJ
 | .done, env, H => some [(eo live env, H)]
 | .take st o r, env, H => match IM C st o env H with
   | some aD => C0 C live r aD H
   | none => none
 | .br o t .nil, env, H => match LQ C o env H with
   | some (aD, H') => C0 C live t aD H'
   | none => none
 | .br o t rest, env, H => match LQ C o env H with
   | some (aD, H') => match C0 C live t aD H', C0 C live rest env H with
     | some l1, some l2 => some (o6 l1 l2)
     | _, _ => none
   | none => none
 | .nil, _, _ => none
theorem T2 {P : Program} {C : gK} (hC : ko P C) {live : Option (List Nat)} : ∀ {t : DT} {env : Env} {H : List aa} {l : wJ} {K : Env → List aa → Prop}, C0 C live t env H = some l → (∀ o ∈ l, K o.1 o.2) → tA P t env H fun e H => K (eo live e) H := by
 intro t
 induction t with
 | done => intro env H l K h hK; simp only [C0] at h; cases h; exact hK _ List.mem_cons_self
 | nil => intro env H l K h hK; simp [C0] at h
 | take st o r ih =>
   intro env H l K h hK
   simp only [C0] at h
   split at h <;> try cases h
   rename_i e2 he
   exact LR (K := fun env => tA P r env H fun e H => K (eo live e) H) hC he (ih h hK)
 | br o t rest Iy HM =>
   intro env H l K h hK
   have key : ∀ rest', (∀ {env : Env} {H : List aa} {l : wJ} {K : Env → List aa → Prop}, C0 C live rest' env H = some l → (∀ o ∈ l, K o.1 o.2) → tA P rest' env H fun e H => K (eo live e) H) → rest' = rest →
    ((match LQ C o env H with
    | some (aD, H') => match C0 C live t aD H', C0 C live rest' env H with
      | some l1, some l2 => some (o6 l1 l2)
      | _, _ => none
    | none => none) = some l) → tA P (.br o t rest') env H fun e H => K (eo live e) H := by
    intro rest' ihr' _ h
    split at h <;> try cases h
    rename_i e2 H2 h2
    split at h <;> try cases h
    rename_i l1 l2 h3 h4
    obtain ⟨u1, u2⟩ := Bp (l := l1) (m := l2)
    exact ⟨IK (K := fun env H => tA P t env H fun e H => K (eo live e) H) hC h2 (Iy h3 fun o ho => hK o (u1 o ho)), ihr' h4 fun o ho => hK o (u2 o ho)⟩
   cases rest with
   | nil =>
     simp only [C0] at h
     split at h <;> try cases h
     rename_i e2 H2 h2
     exact ⟨IK (K := fun env H => tA P t env H fun e H => K (eo live e) H) hC h2 (Iy h hK), trivial⟩
   | done => exact key _ (fun h hK => HM h hK) rfl (by simpa only [C0] using h)
   | take st o' r => exact key _ (fun h hK => HM h hK) rfl (by simpa only [C0] using h)
   | br o' t' r => exact key _ (fun h hK => HM h hK) rfl (by simpa only [C0] using h)
end Go.aK
