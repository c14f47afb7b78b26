/- A memory-free reading of the model's values (part 20): code that is run. -/
import Derived.Test.YtljchnfgjdjobaaGreatUad
set_option linter.unusedVariables false
set_option linter.unusedSimpArgs false
set_option linter.defProp false
set_option linter.unusedSectionVars false
namespace Go.aK
open Go
def Qf : Fn → Fn → Bool
 | .func a, .func b => a == b
 | _, _ => false
mutual
def AV.beq : AV → AV → Bool
 | .any, .any => true
 | .bool a, .bool b => a == b
 | .int k a, .int l b => decide (k = l) && decide (a = b)
 | .str a, .str b => decide (a = b)
 | .ah, .ah => true
 | .ap o xs, .ap p ys => decide (o = p) && uU xs ys
 | .bf a b c d, .bf e f g h => decide (a = e) && decide (b = f) && decide (c = g) && decide (d = h)
 | .agg xs, .agg ys => uU xs ys
 | .tuple xs, .tuple ys => uU xs ys
 | .ptr a b, .ptr c d => decide (a = c) && decide (b = d)
 | .ai x, .ai y => x.beq y
 | .qR, .qR => true
 | .map a, .map b => decide (a = b)
 | .iD, .iD => true
 | .fn f xs ys, .fn g us vs => Qf f g && uU xs us && uU ys vs
 | .ft, .ft => true
 | .iface t x, .iface u y => decide (t = u) && x.beq y
 | .wv, .wv => true
 | _, _ => false
def uU : List AV → List AV → Bool
 | [], [] => true
 | x :: xs, y :: ys => x.beq y && uU xs ys
 | _, _ => false
end
theorem Qg {f g : Fn} (h : Qf f g = true) : f = g := by
 unfold Qf at h
 split at h
 ·simp at h; rw [h]
 ·cases h
mutual
theorem AV.qd : ∀ {x y : AV}, x.beq y = true → x = y := by
 intro x y h
 cases x <;> cases y <;> simp only [AV.beq, Bool.and_eq_true, decide_eq_true_eq, Bool.false_eq_true, beq_iff_eq] at h <;> first
  | rfl
  | (subst h; rfl)
  | (obtain ⟨rfl, rfl⟩ := h; rfl)
  | (obtain ⟨⟨⟨rfl, rfl⟩, rfl⟩, rfl⟩ := h; rfl)
  | (rw [rq h])
  | (rw [AV.qd h])
  | (obtain ⟨rfl, h⟩ := h; rw [rq h])
  | (obtain ⟨rfl, h⟩ := h; rw [AV.qd h])
  | (obtain ⟨⟨h1, h2⟩, h3⟩ := h; rw [Qg h1, rq h2, rq h3])
theorem rq : ∀ {xs ys : List AV}, uU xs ys = true → xs = ys
 | [], [], _ => rfl
 | x :: xs, y :: ys, h => by
   simp only [uU, Bool.and_eq_true] at h
   rw [AV.qd h.1, rq h.2]
 | [], _ :: _, h => by simp [uU] at h
 | _ :: _, [], h => by simp [uU] at h
end
def GD : List (AV × AV) → List (AV × AV) → Bool
 | [], [] => true
 | (a, b) :: xs, (c, d) :: ys => a.beq c && b.beq d && GD xs ys
 | _, _ => false
theorem IJ : ∀ {xs ys : List (AV × AV)}, GD xs ys = true → xs = ys
 | [], [], _ => rfl
 | (a, b) :: xs, (c, d) :: ys, h => by
   simp only [GD, Bool.and_eq_true] at h
   rw [AV.qd h.1.1, AV.qd h.1.2, IJ h.2]
 | [], _ :: _, h => by simp [GD] at h
 | _ :: _, [], h => by simp [GD] at h
def aa.beq : aa → aa → Bool
 | .dead, .dead => true
 | .cells a, .cells b => uU a b
 | .map a, .map b => GD a b
 | _, _ => false
theorem aa.qd {x y : aa} (h : x.beq y = true) : x = y := by
 unfold aa.beq at h
 split at h
 ·rfl
 ·rw [rq h]
 ·rw [IJ h]
 ·cases h
def Bq : List aa → List aa → Bool
 | [], [] => true
 | x :: xs, y :: ys => x.beq y && Bq xs ys
 | _, _ => false
theorem zr : ∀ {xs ys : List aa}, Bq xs ys = true → xs = ys
 | [], [], _ => rfl
 | x :: xs, y :: ys, h => by
   simp only [Bq, Bool.and_eq_true] at h
   rw [aa.qd h.1, zr h.2]
 | [], _ :: _, h => by simp [Bq] at h
 | _ :: _, [], h => by simp [Bq] at h
abbrev gK := Bool → Nat → List AV → List aa → Option (AV × List aa)
def E6 (C : gK) (g : Nat) (args : List AV) (H : List aa) : Option (AV × List aa) :=
 match aj 0 args with
 | true => match C false g args [] with
   | some (r, []) => some (r, H)
   | _ => C false g args H
 | false => C false g args H
def dO (H : List aa) (dst : Option Nat) (env : Env) (z : Option AV) : Option (Env × List aa) := match z with | some z => some (put dst z env, H) | none => none
def gF (C : gK) (o : bW) (dst : Option Nat) (env : Env) (H : List aa) : Option (Env × List aa) :=
 match o with
 | .set x take => match dst with | some d => some (s7 env d x take, H) | none => some (env, H)
 | .pick c a b => match al env c with
   | .bool true => some (put dst (al env a).ab env, H)
   | .bool false => some (put dst (al env b).ab env, H)
   | _ => none
 | .bin op x y => dO H dst env (E2 op (al env x) (al env y))
 | .shift op x y => dO H dst env (tG op (al env x) (al env y))
 | .gO neq x y => dO H dst env (pT neq (al env x) (al env y))
 | .iT kd neq x => dO H dst env (tH kd neq (al env x))
 | .un op x => dO H dst env (LV op (al env x))
 | .box x => if (al env x).val = true ∧ aj (H.length + 1) ((al env x).cells.map AV.ab) = true then some (put dst (.ptr H.length 0) env, H ++ [.cells ((al env x).cells.map AV.ab)]) else none
 | .k9 x => if (al env x).val = true then some (put dst (.ai (al env x)) env, H) else none
 | .qT m x => if (al env x).val = true ∧ (al env x).cells.length = m ∧ (al env x).cells.all AV.one = true then some (put dst (.ai (al env x)) env, H) else none
 | .alloc z => if aj (H.length + 1) (z.cells.map AV.ab) = true then some (put dst (.ptr H.length 0) env, H ++ [.cells (z.cells.map AV.ab)]) else none
 | .build z ps => dO H dst env ((rn z.cells (ps.map fun q => (q.1, q.2.1, al env q.2.2))).map .agg)
 | .buildSlice own esz z len ps => dO H dst env ((kG (List.replicate len (aT z)) esz (ps.map fun q => (q.1, al env q.2))).map (.ap own))
 | .load sz a => dO H dst env (oY sz (al env a) H)
 | .eh a => match dst, al env a with
   | some d, .ptr id off => match H[id]? with
     | some (.cells es) => if off < es.length then some ((d, es.getD off .any) :: env, H.set id (.cells (es.set off (es.getD off .any).ab))) else none
     | _ => none
   | _, _ => none
 | .store m a x => match zm m (al env a) (al env x) H with | some H' => some (env, H') | none => none
 | .mE _ _ _ => none
 | .sj sz esz a => match oY sz (al env a) H with
   | some z => match zq esz z H with
     | some (v, H') => some (put dst v env, H')
     | none => none
   | none => none
 | .eV a s => match rp (al env a) (get env s) H with | some H' => some ((s, (get env s).ab) :: env, H') | none => none
 | .nilCheck x => dO H dst env (lH (al env x))
 | .fieldAddr off sz x => dO H dst env (jS off sz (al env x))
 | .field off sz x => dO H dst env (tI off sz (al env x))
 | .indexAddr esz x i => if uK esz (al env x) = true then dO H dst env (jT esz (al env x) (al env i)) else none
 | .c8 x i => dO H dst env (lG (al env x) (al env i))
 | .dJ n x i => dO H dst env (lF n (al env x) (al env i))
 | .slice esz x lo hi m => dO H dst env (pV esz (al env x) (fX env lo) (fX env hi) (fX env m))
 | .dK x lo hi => dO H dst env (lJ (al env x) (fX env lo) (fX env hi))
 | .len kd x => if zk kd (al env x) = true then dO H dst env (E3 (al env x) H) else none
 | .append esz bytes s x => match uL esz bytes (al env s) (al env x) with | some zs => some (put dst (.ap esz zs) (cD env s.slot), H) | none => none
 | .sk esz bytes z n => match zn bytes z (al env n) H with | some (v, H') => some (put dst v env, H') | none => none
 | .mF esz bytes n => dO H dst env (tJ esz bytes (al env n))
 | .mG => some (put dst (.map H.length) env, H ++ [.map []])
 | .AI .. => none
 | .iV .. => none
 | .mH .. => none
 | .oN .. => none
 | .lookup kd z m k ok => dO H dst env (pW kd z (al env m) (al env k) ok H)
 | .jY kd m k x => match uN kd (al env m) (al env k) (al env x) H with | some H' => some (env, H') | none => none
 | .fn f first cap => some (put dst (.fn f (first.map fun x => (al env x).ab) (cap.map fun x => (al env x).ab)) env, H)
 | .extract x i => dO H dst env (nQ (al env x) i)
 | .call f args pass => match al env f with
   | .fn (.func g) first cap => match E6 C g (first.map AV.ab ++ aF env pass 0 args ++ cap.map AV.ab) H with
     | some (r, H') => some (put dst r (cD env (bc args pass)), H')
     | none => none
   | .mC id => match C true id (aF env pass 0 args) H with
     | some (r, H') => some (put dst r (cD env (bc args pass)), H')
     | none => none
   | _ => none
 | .eC k x => dO H dst env (nR k (al env x))
 | .gg x => dO H dst env (nS (al env x))
 | .bytesOf x => dO H dst env (nT 1 (al env x))
 | .strOf x => dO H dst env (tK (al env x))
 | .mx big a b => dO H dst env (LW big (al env a) (al env b))
 | .copy esz d s => match DD esz (al env d) (al env s) H with | some (v, H') => some (put dst v env, H') | none => none
 | .yF esz x => match oZ esz (al env x) H with | some (v, H') => some (put dst v env, H') | none => none
 | .never => none
def ko (P : Program) (C : gK) : Prop := (∀ g args H r H', C false g args H = some (r, H') → aq P g args H fun r' H'' => r' = r ∧ H'' = H') ∧
 ∀ id args H r H', C true id args H = some (r, H') → jr P id args H fun r' H'' => r' = r ∧ H'' = H'
theorem E7 {P : Program} {C : gK} (hC : ko P C) {g : Nat} {args : List AV} {H H' : List aa} {r : AV} (h : E6 C g args H = some (r, H')) : aq P g args H fun r' H'' => r' = r ∧ H'' = H' := by
 unfold E6 at h
 split at h
 ·rename_i hb
  split at h
  ·rename_i hr
   cases h
   exact aq.frame (R := fun r' => r' = r) (fun x hx => (a9 0 _).1 hb x hx) (hC.1 _ _ _ _ _ hr) H
  ·exact hC.1 _ _ _ _ _ h
 ·exact hC.1 _ _ _ _ _ h
theorem b9 : ∀ xs, xp xs xs
 | [] => trivial
 | x :: xs => ⟨le_refl _, b9 xs⟩
theorem ba {H H' : List aa} {dst : Option Nat} {env aD : Env} {z : Option AV} (h : dO H dst env z = some (aD, H')) : ∃ v, z = some v ∧ aD = put dst v env ∧ H' = H := by
 unfold dO at h
 split at h <;> cases h
 exact ⟨_, rfl, rfl, rfl⟩
theorem IK {P : Program} {C : gK} (hC : ko P C) {o : bW} {dst : Option Nat} {env aD : Env} {H H' : List aa} {K : Env → List aa → Prop} (h : gF C o dst env H = some (aD, H')) (hK : K aD H') : bt P o dst env H K := by
 cases o with
 | set x take =>
   simp only [gF] at h
   simp only [bt]
   split at h <;> cases h <;> exact hK
 | pick c a b =>
   simp only [gF] at h
   simp only [bt]
   split at h <;> cases h
   ·rename_i e; rw [e]; exact ⟨fun _ => hK, fun e => by cases e⟩
   ·rename_i e; rw [e]; exact ⟨fun e => (by cases e), fun _ => hK⟩
 | bin op x y => obtain ⟨v, hv, rfl, rfl⟩ := ba h; exact E4 (φ := fun z => K (put dst z env) _) hv hK
 | shift op x y => obtain ⟨v, hv, rfl, rfl⟩ := ba h; exact xy (φ := fun z => K (put dst z env) _) hv hK
 | gO op x y => obtain ⟨v, hv, rfl, rfl⟩ := ba h; exact uO (φ := fun z => K (put dst z env) _) hv hK
 | iT kd neq x => obtain ⟨v, hv, rfl, rfl⟩ := ba h; exact xz (φ := fun z => K (put dst z env) _) hv hK
 | un op x => obtain ⟨v, hv, rfl, rfl⟩ := ba h; exact IG (φ := fun z => K (put dst z env) _) hv hK
 | box x =>
   simp only [gF] at h
   split at h <;> cases h
   rename_i hc
   exact ⟨hc.1, hc.2, hK⟩
 | k9 x =>
   simp only [gF] at h
   split at h <;> cases h
   rename_i hc
   exact ⟨hc, hK⟩
 | qT m x =>
   simp only [gF] at h
   split at h <;> cases h
   rename_i hc
   exact ⟨hc.1, hc.2.1, hc.2.2, hK⟩
 | alloc z =>
   simp only [gF] at h
   split at h <;> cases h
   rename_i hc
   exact ⟨hc, hK⟩
 | build z ps =>
   obtain ⟨v, hv, rfl, rfl⟩ := ba h
   obtain ⟨u, hu, rfl⟩ := Option.map_eq_some_iff.1 hv
   exact uP (φ := fun xs => K (put dst (.agg xs) env) H') hK hu
 | buildSlice own esz z len ps =>
   obtain ⟨v, hv, rfl, rfl⟩ := ba h
   obtain ⟨u, hu, rfl⟩ := Option.map_eq_some_iff.1 hv
   exact o6 (φ := fun xs => K (put dst (.ap own xs) env) H') hK hu
 | load sz a => obtain ⟨v, hv, rfl, rfl⟩ := ba h; exact mX (φ := fun z => K (put dst z env) _) hv hK
 | eh a =>
   simp only [gF] at h
   simp only [bt]
   split at h <;> try cases h
   rename_i e
   simp only [e]
   split at h <;> try cases h
   rename_i bm
   simp only [bm]
   split at h <;> cases h
   exact ⟨by assumption, hK⟩
 | store m a x =>
   simp only [gF] at h
   split at h <;> cases h
   rename_i hs
   exact Gy hs hK
 | eV a s =>
   simp only [gF] at h
   split at h <;> cases h
   rename_i hs
   exact Bo hs hK
 | nilCheck x => obtain ⟨v, hv, rfl, rfl⟩ := ba h; exact pZ (φ := fun z => K (put dst z env) _) hv hK
 | fieldAddr off sz x => obtain ⟨v, hv, rfl, rfl⟩ := ba h; exact oE (φ := fun z => K (put dst z env) _) hv hK
 | field off sz x => obtain ⟨v, hv, rfl, rfl⟩ := ba h; exact xA (φ := fun z => K (put dst z env) _) hv hK
 | indexAddr esz x i =>
   simp only [gF] at h
   split at h <;> try cases h
   rename_i hl
   obtain ⟨v, hv, rfl, rfl⟩ := ba h
   exact ⟨uQ hl, oF (φ := fun z => K (put dst z env) _) hv hK⟩
 | c8 x i => obtain ⟨v, hv, rfl, rfl⟩ := ba h; exact pX (φ := fun z => K (put dst z env) _) hv hK
 | dJ n x i => obtain ⟨v, hv, rfl, rfl⟩ := ba h; exact pY (φ := fun z => K (put dst z env) _) hv hK
 | slice esz x lo hi m => obtain ⟨v, hv, rfl, rfl⟩ := ba h; exact uS (φ := fun z => K (put dst z env) _) hv hK
 | dK x lo hi => obtain ⟨v, hv, rfl, rfl⟩ := ba h; exact qc (φ := fun z => K (put dst z env) _) hv hK
 | len kd x =>
   simp only [gF] at h
   split at h <;> try cases h
   rename_i hl
   obtain ⟨v, hv, rfl, rfl⟩ := ba h
   exact ⟨Bn hl, E5 (φ := fun z => K (put dst z env) _) hv hK⟩
 | append esz bytes s x =>
   simp only [gF] at h
   split at h <;> cases h
   rename_i hs
   exact DE (φ := fun zs => K (put dst (.ap esz zs) (cD env s.slot)) _) hs hK
 | sk esz bytes z n =>
   simp only [gF] at h
   split at h <;> cases h
   rename_i hs
   exact Gz (esz := esz) (K := fun v H' => K (put dst v env) H') hs hK
 | mF esz bytes n => obtain ⟨v, hv, rfl, rfl⟩ := ba h; exact xB (φ := fun z => K (put dst z env) _) hv hK
 | mG => simp only [gF] at h; cases h; exact hK
 | mE m a x => simp only [gF] at h; cases h
 | sj sz esz a =>
   simp only [gF] at h
   split at h <;> try cases h
   rename_i z hz
   split at h <;> cases h
   rename_i v H2 hs
   exact mX (φ := fun z => ff esz z H fun y H' => K (put dst y env) H') hz (GC (K := fun v H' => K (put dst v env) H') hs hK)
 | AI esz z len ps => simp only [gF] at h; cases h
 | iV esz bytes z s x => simp only [gF] at h; cases h
 | mH esz z x => simp only [gF] at h; cases h
 | oN esz x lo hi mx => simp only [gF] at h; cases h
 | lookup kd z m k ok => obtain ⟨v, hv, rfl, rfl⟩ := ba h; exact uT (φ := fun z => K (put dst z env) _) hv hK
 | jY kd m k x =>
   simp only [gF] at h
   split at h <;> cases h
   rename_i hs
   exact DF hs hK
 | fn f first cap => simp only [gF] at h; cases h; exact hK
 | extract x i => obtain ⟨v, hv, rfl, rfl⟩ := ba h; exact sM (φ := fun z => K (put dst z env) _) hv hK
 | call f args pass =>
   simp only [gF] at h
   simp only [bt, oA]
   split at h <;> try cases h
   ·rename_i g first cap e
    split at h <;> cases h
    rename_i r hr
    rw [e]
    refine ⟨_, b9 _, dX.of <| (E7 hC hr).mono ?_⟩
    rintro r' H'' ⟨rfl, rfl⟩
    exact hK
   ·rename_i id e
    split at h <;> cases h
    rename_i r hr
    rw [e]
    refine ⟨_, b9 _, fa.mono (hC.2 _ _ _ _ _ hr) ?_⟩
    rintro r' H'' ⟨rfl, rfl⟩
    exact hK
 | eC k x => obtain ⟨v, hv, rfl, rfl⟩ := ba h; exact sN (φ := fun z => K (put dst z env) _) hv hK
 | gg x => obtain ⟨v, hv, rfl, rfl⟩ := ba h; exact sO (φ := fun z => K (put dst z env) _) hv hK
 | bytesOf x => obtain ⟨v, hv, rfl, rfl⟩ := ba h; exact sP (φ := fun z => K (put dst z env) _) hv hK
 | strOf x => obtain ⟨v, hv, rfl, rfl⟩ := ba h; exact xD (φ := fun z => K (put dst z env) _) hv hK
 | mx big a b => obtain ⟨v, hv, rfl, rfl⟩ := ba h; exact IH (φ := fun z => K (put dst z env) _) hv hK
 | copy esz d s =>
   simp only [gF] at h
   split at h <;> cases h
   rename_i hs
   exact II (K := fun v H' => K (put dst v env) H') hs hK
 | yF esz x =>
   simp only [gF] at h
   split at h <;> cases h
   rename_i hs
   exact uR (K := fun v H' => K (put dst v env) H') hs hK
 | never => cases h
def me (C : gK) (o : bW) (ρ : IX → AV) (H : List aa) : Option AV :=
 match o with
 | .set i false => some (ρ i).ab
 | .pick c a b => match ρ c with | .bool true => some (ρ a).ab | .bool false => some (ρ b).ab | _ => none
 | .bin op i j => E2 op (ρ i) (ρ j)
 | .shift op i j => tG op (ρ i) (ρ j)
 | .gO neq i j => pT neq (ρ i) (ρ j)
 | .iT kd neq i => tH kd neq (ρ i)
 | .un op i => LV op (ρ i)
 | .k9 i => if (ρ i).val = true then some (.ai (ρ i)) else none
 | .build z ps => (rn z.cells (ps.map fun q => (q.1, q.2.1, ρ q.2.2))).map .agg
 | .buildSlice own esz z len ps => (kG (List.replicate len (aT z)) esz (ps.map fun q => (q.1, ρ q.2))).map (.ap own)
 | .load sz i => oY sz (ρ i) H
 | .nilCheck i => lH (ρ i)
 | .fieldAddr off sz i => jS off sz (ρ i)
 | .field off sz i => tI off sz (ρ i)
 | .indexAddr esz i j => if uK esz (ρ i) = true then jT esz (ρ i) (ρ j) else none
 | .c8 i j => lG (ρ i) (ρ j)
 | .dJ n i j => lF n (ρ i) (ρ j)
 | .slice esz i lo hi m => pV esz (ρ i) (lo.map ρ) (hi.map ρ) (m.map ρ)
 | .dK i lo hi => lJ (ρ i) (lo.map ρ) (hi.map ρ)
 | .len kd i => if zk kd (ρ i) = true then E3 (ρ i) H else none
 | .lookup kd z m k ok => pW kd z (ρ m) (ρ k) ok H
 | .fn f first cap => some (.fn f (first.map fun x => (ρ x).ab) (cap.map fun x => (ρ x).ab))
 | .extract i k => nQ (ρ i) k
 | .call f args none => match ρ f with
   | .fn (.func g) first cap => match E6 C g (first.map AV.ab ++ (args.map fun x => (ρ x).ab) ++ cap.map AV.ab) H with
     | some (r, H') => if Bq H' H = true then some r else none
     | none => none
   | _ => none
 | .eC k i => nR k (ρ i)
 | .gg i => nS (ρ i)
 | .bytesOf i => nT 1 (ρ i)
 | .mF esz bytes i => tJ esz bytes (ρ i)
 | .strOf i => tK (ρ i)
 | .mx big i j => LW big (ρ i) (ρ j)
 | _ => none
theorem tL {P : Program} {C : gK} (hC : ko P C) {o : bW} {ρ : IX → AV} {H : List aa} {v : AV} (h : me C o ρ H = some v) : cS P o ρ H v := by
 cases o with
 | set i take =>
   cases take with
   | true => cases h
   | false => simp only [me] at h; cases h; rfl
 | pick c a b =>
   simp only [me] at h
   simp only [cS]
   split at h <;> cases h
   ·rename_i e; rw [e]; exact ⟨fun _ => rfl, fun e => by cases e⟩
   ·rename_i e; rw [e]; exact ⟨fun e => (by cases e), fun _ => rfl⟩
 | bin op x y => exact E4 (φ := fun z => z = v) h rfl
 | shift op x y => exact xy (φ := fun z => z = v) h rfl
 | gO op x y => exact uO (φ := fun z => z = v) h rfl
 | iT kd neq x => exact xz (φ := fun z => z = v) h rfl
 | un op x => exact IG (φ := fun z => z = v) h rfl
 | k9 x =>
   simp only [me] at h
   split at h <;> cases h
   rename_i hc
   exact ⟨hc, rfl⟩
 | build z ps =>
   obtain ⟨u, hu, rfl⟩ := Option.map_eq_some_iff.1 h
   exact uP (φ := fun xs => AV.agg xs = .agg u) rfl hu
 | buildSlice own esz z len ps =>
   obtain ⟨u, hu, rfl⟩ := Option.map_eq_some_iff.1 h
   exact o6 (φ := fun xs => AV.ap own xs = .ap own u) rfl hu
 | load sz a => exact mX (φ := fun z => z = v) h rfl
 | nilCheck x => exact pZ (φ := fun z => z = v) h rfl
 | fieldAddr off sz x => exact oE (φ := fun z => z = v) h rfl
 | field off sz x => exact xA (φ := fun z => z = v) h rfl
 | indexAddr esz x i =>
   simp only [me] at h
   split at h <;> try cases h
   rename_i hl
   exact ⟨uQ hl, oF (φ := fun z => z = v) h rfl⟩
 | c8 x i => exact pX (φ := fun z => z = v) h rfl
 | dJ n x i => exact pY (φ := fun z => z = v) h rfl
 | slice esz x lo hi m => exact uS (φ := fun z => z = v) h rfl
 | mF esz bytes n => exact xB (φ := fun z => z = v) h rfl
 | dK x lo hi => exact qc (φ := fun z => z = v) h rfl
 | len kd x =>
   simp only [me] at h
   split at h <;> try cases h
   rename_i hl
   exact ⟨Bn hl, E5 (φ := fun z => z = v) h rfl⟩
 | lookup kd z m k ok => exact uT (φ := fun z => z = v) h rfl
 | fn f first cap => simp only [me] at h; cases h; rfl
 | extract x i => exact sM (φ := fun z => z = v) h rfl
 | call f args pass =>
   cases pass with
   | some _ => cases h
   | none =>
     simp only [me] at h
     simp only [cS]
     split at h <;> try cases h
     rename_i g first cap e
     split at h <;> try cases h
     rename_i r H' hr
     split at h <;> cases h
     rename_i hb
     rw [e]
     refine ⟨_, b9 _, (E7 hC hr).mono ?_⟩
     rintro r' H'' ⟨rfl, rfl⟩
     exact ⟨rfl, zr hb⟩
 | eC k x => exact sN (φ := fun z => z = v) h rfl
 | gg x => exact sO (φ := fun z => z = v) h rfl
 | bytesOf x => exact sP (φ := fun z => z = v) h rfl
 | strOf x => exact xD (φ := fun z => z = v) h rfl
 | mx big a b => exact IH (φ := fun z => z = v) h rfl
 | _ => cases h
def zt (C : gK) : List bu → Env → List aa → Option (Env × List aa)
 | [], env, H => some (env, H)
 | o :: r, env, H => match o.g with
   | none => match gF C o.op o.dst env H with
     | some (env, H) => zt C r env H
     | none => none
   | some (g, want) => match get env g with
     | .bool b => if b = want then (match gF C o.op o.dst ((g, .bool want) :: env) H with
        | some (env, H) => zt C r env H
        | none => none) else zt C r (put o.dst (.tuple []) ((g, .bool (!want)) :: env)) H
     | .tuple [] => zt C r (put o.dst (.tuple []) env) H
     | _ => none
theorem ru {P : Program} {C : gK} (hC : ko P C) : ∀ {l : List bu} {env aD : Env} {H H' : List aa} {K : Env → List aa → Prop}, zt C l env H = some (aD, H') → K aD H' → iZ P l env H K
 | [], env, aD, H, H', K, h, hK => by simp only [zt] at h; cases h; exact hK
 | o :: r, env, aD, H, H', K, h, hK => by
   simp only [zt] at h
   simp only [iZ, rb]
   cases hg : o.g with
   | none =>
     simp only [hg] at h ⊢
     split at h <;> try cases h
     rename_i e2 H2 h2
     exact IK (K := fun env H => iZ P r env H K) hC h2 (ru hC h hK)
   | some p =>
     obtain ⟨g, want⟩ := p
     simp only [hg] at h ⊢
     simp only [gR]
     split at h
     rotate_left
     ·rename_i hb
      simp only [hb]
      exact ru hC h hK
     ·cases h
     rename_i b hb
     simp only [hb]
     split at h
     ·rename_i EW
      subst EW
      split at h <;> try cases h
      rename_i e2 H2 h2
      exact ⟨fun _ => IK (K := fun env H => iZ P r env H K) hC h2 (ru hC h hK), fun e => by cases b <;> cases e⟩
     ·rename_i EW
      exact ⟨fun e => absurd e EW, fun _ => ru hC h hK⟩
def XI (C : gK) (st : Bool) (o : bW) (ρ : IX → AV) (H : List aa) : Option AV :=
 match st with
 | true => me C o ρ H
 | false => match o with
   | .load sz i => (match ρ i with | .ai y => oY sz (.ai y) [] | _ => none)
   | .call f args none => (match ρ f with
     | .fn (.func g) first cap => if aj 0 (first.map AV.ab ++ (args.map fun x => (ρ x).ab) ++ cap.map AV.ab) = true then (match C false g (first.map AV.ab ++ (args.map fun x => (ρ x).ab) ++ cap.map AV.ab) [] with
       | some (r, []) => some r
       | _ => none) else none
     | _ => none)
   | .call _ _ _ => none
   | .len kd i => (match ρ i with | .map _ => none | _ => me C o ρ [])
   | .lookup kd z m k ok => (match ρ m with | .iD => me C o ρ [] | _ => none)
   | o => me C o ρ []
theorem IM {x : AV} {H H' : List aa} {φ : AV → Prop} (h : eW x H φ) (hm : ∀ id, x ≠ .map id) : eW x H' φ := by
 unfold eW at *
 split at h <;> first | exact h | exact h.elim | exact absurd rfl (hm _)
theorem OE {P : Program} {C : gK} (hC : ko P C) {st : Bool} {o : bW} {ρ : IX → AV} {H : List aa} {v : AV} (h : XI C st o ρ H = some v) : dv P st o ρ H v := by
 cases st with
 | true => exact tL hC h
 | false =>
   intro H'
   simp only [XI] at h
   split at h
   ·split at h <;> try cases h
    rename_i sz i y hy
    simp only [cS]
    rw [hy]
    have := mX (φ := fun z => z = v) h rfl
    unfold aS at this ⊢
    exact this
   ·rename_i f args
    split at h <;> try cases h
    rename_i g first cap hf
    split at h <;> try cases h
    rename_i hb
    split at h <;> cases h
    rename_i hr
    simp only [cS, hf]
    exact ⟨_, b9 _, aq.frame (R := fun r => r = v) (fun x hx => (a9 0 _).1 hb x hx) (hC.1 _ _ _ _ _ hr) H'⟩
   ·cases h
   ·rename_i kd i
    split at h
    ·cases h
    ·rename_i dS
     have := tL hC h
     simp only [cS] at this ⊢
     exact ⟨this.1, IM this.2 dS⟩
   ·rename_i kd z m k ok
    split at h <;> try cases h
    rename_i hm
    have := tL hC h
    simp only [cS, hm, cb] at this ⊢
    exact this
   ·rename_i _ h1 h0 h2 h3 h4
    have := tL hC h
    cases o <;> first | exact this | exact (h1 _ _ rfl).elim | exact (h2 _ _ _ rfl).elim | exact (h3 _ _ rfl).elim | exact (h4 _ _ _ _ _ rfl).elim | (rename_i take; cases take <;> exact this)
def GF : Env → Env → Bool
 | [], [] => true
 | (a, x) :: r, (b, y) :: s => a == b && x.beq y && GF r s
 | _, _ => false
theorem IN : ∀ {xs ys : Env}, GF xs ys = true → xs = ys
 | [], [], _ => rfl
 | (a, x) :: r, (b, y) :: s, h => by
   simp only [GF, Bool.and_eq_true, beq_iff_eq] at h
   rw [h.1.1, AV.qd h.1.2, IN h.2]
 | [], _ :: _, h => by simp [GF] at h
 | _ :: _, [], h => by simp [GF] at h
def LX (C : gK) (o : bu) (env : Env) (H : List aa) : Option (Env × List aa) := zt C [o] env H
theorem IP {P : Program} {C : gK} (hC : ko P C) {o : bu} {env aD : Env} {H H' : List aa} {K : Env → List aa → Prop} (h : LX C o env H = some (aD, H')) (hK : K aD H') : rb P o env H K := ru hC h hK
def IQ (C : gK) (st : Bool) (o : bu) (env : Env) (H : List aa) : Option Env :=
 match o.g with
 | none => match XI C st o.op (al env) H with
   | some x => some (put o.dst x env)
   | none => none
 | some (g, want) => match get env g with
   | .bool b => if b = want then (match XI C st o.op (al env) H with
      | some x => some (put o.dst x env)
      | none => none) else some (put o.dst (.tuple []) env)
   | .tuple [] => some (put o.dst (.tuple []) env)
   | _ => none
theorem LY {P : Program} {C : gK} (hC : ko P C) {st : Bool} {o : bu} {env aD : Env} {H : List aa} {K : Env → Prop} (h : IQ C st o env H = some aD) (hK : K aD) : sD P st o env H K := by
 unfold IQ at h
 unfold sD
 cases hg : o.g with
 | none =>
   simp only [hg] at h ⊢
   split at h <;> cases h
   rename_i x hx
   exact ⟨x, OE hC hx, hK⟩
 | some p =>
   obtain ⟨g, want⟩ := p
   simp only [hg] at h ⊢
   simp only [gR]
   split at h
   rotate_left
   ·rename_i hb
    simp only [hb]
    cases h
    exact hK
   ·cases h
   rename_i b hb
   simp only [hb]
   split at h
   ·rename_i EW
    subst EW
    split at h <;> cases h
    rename_i x hx
    exact ⟨fun _ => ⟨x, OE hC hx, hK⟩, fun e => by cases b <;> cases e⟩
   ·rename_i EW
    cases h
    exact ⟨fun e => absurd e EW, fun _ => hK⟩
abbrev wP := List (Env × List aa)
def LZ (x : Env × List aa) : wP → Bool
 | [] => false
 | y :: r => match GF x.1 y.1 && Bq x.2 y.2 with | true => true | false => LZ x r
def o7 (l : wP) : wP → wP
 | [] => l
 | x :: r => match LZ x l with | true => o7 l r | false => x :: o7 l r
theorem IS {x : Env × List aa} : ∀ {l : wP}, LZ x l = true → x ∈ l
 | [], h => by cases h
 | y :: r, h => by
   unfold LZ at h
   split at h
   ·rename_i e
    simp only [Bool.and_eq_true] at e
    have e1 := IN e.1
    have e2 := zr e.2
    have : x = y := by cases x; cases y; simp only at e1 e2; rw [e1, e2]
    rw [this]; exact List.mem_cons_self
   ·exact List.mem_cons_of_mem _ (IS h)
theorem Br {l : wP} : ∀ {m : wP}, (∀ x ∈ l, x ∈ o7 l m) ∧ ∀ x ∈ m, x ∈ o7 l m
 | [] => ⟨fun x h => h, fun x h => by cases h⟩
 | y :: r => by
   obtain ⟨h1, h2⟩ := Br (l := l) (m := r)
   unfold o7
   split
   ·rename_i e
    refine ⟨h1, fun x hx => ?_⟩
    rcases List.mem_cons.1 hx with rfl | hx
    ·exact h1 _ (IS e)
    ·exact h2 x hx
   ·refine ⟨fun x hx => List.mem_cons_of_mem _ (h1 x hx), fun x hx => ?_⟩
    rcases List.mem_cons.1 hx with rfl | hx
    ·exact List.mem_cons_self
    ·exact List.mem_cons_of_mem _ (h2 x hx)
def CZ (C : gK) (live : Option (List Nat)) : DT → Env → List aa → Option wP
 | .done, env, H => some [(eo live env, H)]
 | .take st o r, env, H => match IQ C st o env H with
   | some aD => CZ C live r aD H
   | none => none
 | .br o t .nil, env, H => match LX C o env H with
   | some (aD, H') => CZ C live t aD H'
   | none => none
 | .br o t rest, env, H => match LX C o env H with
   | some (aD, H') => match CZ C live t aD H', CZ C live rest env H with
     | some l1, some l2 => some (o7 l1 l2)
     | _, _ => none
   | none => none
 | .nil, _, _ => none
theorem T5 {P : Program} {C : gK} (hC : ko P C) {live : Option (List Nat)} : ∀ {t : DT} {env : Env} {H : List aa} {l : wP} {K : Env → List aa → Prop}, CZ C live t env H = some l → (∀ o ∈ l, K o.1 o.2) → tF P t env H fun e H => K (eo live e) H := by
 intro t
 induction t with
 | done => intro env H l K h hK; simp only [CZ] at h; cases h; exact hK _ List.mem_cons_self
 | nil => intro env H l K h hK; simp [CZ] at h
 | take st o r ih =>
   intro env H l K h hK
   simp only [CZ] at h
   split at h <;> try cases h
   rename_i e2 he
   exact LY (K := fun env => tF P r env H fun e H => K (eo live e) H) hC he (ih h hK)
 | br o t rest IB HQ =>
   intro env H l K h hK
   have key : ∀ rest', (∀ {env : Env} {H : List aa} {l : wP} {K : Env → List aa → Prop}, CZ C live rest' env H = some l → (∀ o ∈ l, K o.1 o.2) → tF P rest' env H fun e H => K (eo live e) H) → rest' = rest →
    ((match LX C o env H with
    | some (aD, H') => match CZ C live t aD H', CZ C live rest' env H with
      | some l1, some l2 => some (o7 l1 l2)
      | _, _ => none
    | none => none) = some l) → tF P (.br o t rest') env H fun e H => K (eo live e) H := by
    intro rest' ihr' _ h
    split at h <;> try cases h
    rename_i e2 H2 h2
    split at h <;> try cases h
    rename_i l1 l2 h3 h4
    obtain ⟨u1, u2⟩ := Br (l := l1) (m := l2)
    exact ⟨IP (K := fun env H => tF P t env H fun e H => K (eo live e) H) hC h2 (IB h3 fun o ho => hK o (u1 o ho)), ihr' h4 fun o ho => hK o (u2 o ho)⟩
   cases rest with
   | nil =>
     simp only [CZ] at h
     split at h <;> try cases h
     rename_i e2 H2 h2
     exact ⟨IP (K := fun env H => tF P t env H fun e H => K (eo live e) H) hC h2 (IB h hK), trivial⟩
   | done => exact key _ (fun h hK => HQ h hK) rfl (by simpa only [CZ] using h)
   | take st o' r => exact key _ (fun h hK => HQ h hK) rfl (by simpa only [CZ] using h)
   | br o' t' r => exact key _ (fun h hK => HQ h hK) rfl (by simpa only [CZ] using h)
end Go.aK
