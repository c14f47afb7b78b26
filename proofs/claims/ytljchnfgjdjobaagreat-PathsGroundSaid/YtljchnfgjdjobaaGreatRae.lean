/- A memory-free reading of the model's values (part 20): code that is run. -/
import Derived.Test.YtljchnfgjdjobaaGreatRad
set_option linter.unusedVariables false
set_option linter.unusedSimpArgs false
set_option linter.defProp false
set_option linter.unusedSectionVars false
namespace Go.aK
open Go
def Qt : Fn → Fn → Bool
 | .func a, .func b => a == b
 | _, _ => false
mutual
def AV.beq : AV → AV → Bool
 | .any, .any => true
 | .bool a, .bool b => a == b
 | .int k a, .int l b => decide (k = l) && decide (a = b)
 | .str a, .str b => decide (a = b)
 | .ah, .ah => true
 | .ap o xs, .ap p ys => decide (o = p) && uT xs ys
 | .bf a b c d, .bf e f g h => decide (a = e) && decide (b = f) && decide (c = g) && decide (d = h)
 | .agg xs, .agg ys => uT xs ys
 | .tuple xs, .tuple ys => uT xs ys
 | .ptr a b, .ptr c d => decide (a = c) && decide (b = d)
 | .ai x, .ai y => x.beq y
 | .qU, .qU => true
 | .map a, .map b => decide (a = b)
 | .iJ, .iJ => true
 | .fn f xs ys, .fn g us vs => Qt f g && uT xs us && uT ys vs
 | .fy, .fy => true
 | .iface t x, .iface u y => decide (t = u) && x.beq y
 | .wx, .wx => true
 | _, _ => false
def uT : List AV → List AV → Bool
 | [], [] => true
 | x :: xs, y :: ys => x.beq y && uT xs ys
 | _, _ => false
end
theorem Qu {f g : Fn} (h : Qt f g = true) : f = g := by
 unfold Qt at h
 split at h
 ·simp at h; rw [h]
 ·cases h
mutual
theorem AV.qm : ∀ {x y : AV}, x.beq y = true → x = y := by
 intro x y h
 cases x <;> cases y <;> simp only [AV.beq, Bool.and_eq_true, decide_eq_true_eq, Bool.false_eq_true, beq_iff_eq] at h <;> first
  | rfl
  | (subst h; rfl)
  | (obtain ⟨rfl, rfl⟩ := h; rfl)
  | (obtain ⟨⟨⟨rfl, rfl⟩, rfl⟩, rfl⟩ := h; rfl)
  | (rw [ry h])
  | (rw [AV.qm h])
  | (obtain ⟨rfl, h⟩ := h; rw [ry h])
  | (obtain ⟨rfl, h⟩ := h; rw [AV.qm h])
  | (obtain ⟨⟨h1, h2⟩, h3⟩ := h; rw [Qu h1, ry h2, ry h3])
theorem ry : ∀ {xs ys : List AV}, uT xs ys = true → xs = ys
 | [], [], _ => rfl
 | x :: xs, y :: ys, h => by
   simp only [uT, Bool.and_eq_true] at h
   rw [AV.qm h.1, ry h.2]
 | [], _ :: _, h => by simp [uT] at h
 | _ :: _, [], h => by simp [uT] at h
end
def GO : List (AV × AV) → List (AV × AV) → Bool
 | [], [] => true
 | (a, b) :: xs, (c, d) :: ys => a.beq c && b.beq d && GO xs ys
 | _, _ => false
theorem IU : ∀ {xs ys : List (AV × AV)}, GO xs ys = true → xs = ys
 | [], [], _ => rfl
 | (a, b) :: xs, (c, d) :: ys, h => by
   simp only [GO, Bool.and_eq_true] at h
   rw [AV.qm h.1.1, AV.qm h.1.2, IU h.2]
 | [], _ :: _, h => by simp [GO] at h
 | _ :: _, [], h => by simp [GO] at h
def aa.beq : aa → aa → Bool
 | .dead, .dead => true
 | .cells a, .cells b => uT a b
 | .map a, .map b => GO a b
 | _, _ => false
theorem aa.qm {x y : aa} (h : x.beq y = true) : x = y := by
 unfold aa.beq at h
 split at h
 ·rfl
 ·rw [ry h]
 ·rw [IU h]
 ·cases h
def Br : List aa → List aa → Bool
 | [], [] => true
 | x :: xs, y :: ys => x.beq y && Br xs ys
 | _, _ => false
theorem zr : ∀ {xs ys : List aa}, Br xs ys = true → xs = ys
 | [], [], _ => rfl
 | x :: xs, y :: ys, h => by
   simp only [Br, Bool.and_eq_true] at h
   rw [aa.qm h.1, zr h.2]
 | [], _ :: _, h => by simp [Br] at h
 | _ :: _, [], h => by simp [Br] at h
abbrev gQ := Bool → Nat → List AV → List aa → Option (AV × List aa)
def Fh (C : gQ) (g : Nat) (args : List AV) (H : List aa) : Option (AV × List aa) :=
 match aj 0 args with
 | true => match C false g args [] with
   | some (r, []) => some (r, H)
   | _ => C false g args H
 | false => C false g args H
def dQ (H : List aa) (dst : Option Nat) (env : Env) (z : Option AV) : Option (Env × List aa) := match z with | some z => some (put dst z env, H) | none => none
def gL (C : gQ) (o : bX) (dst : Option Nat) (env : Env) (H : List aa) : Option (Env × List aa) :=
 match o with
 | .set x take => match dst with | some d => some (s7 env d x take, H) | none => some (env, H)
 | .pick c a b => match al env c with
   | .bool true => some (put dst (al env a).ab env, H)
   | .bool false => some (put dst (al env b).ab env, H)
   | _ => none
 | .bin op x y => dQ H dst env (Fc op (al env x) (al env y))
 | .shift op x y => dQ H dst env (tE op (al env x) (al env y))
 | .gU neq x y => dQ H dst env (qd neq (al env x) (al env y))
 | .iZ kd neq x => dQ H dst env (tF kd neq (al env x))
 | .un op x => dQ H dst env (L8 op (al env x))
 | .box x => if (al env x).val = true ∧ aj (H.length + 1) ((al env x).cells.map AV.ab) = true then some (put dst (.ptr H.length 0) env, H ++ [.cells ((al env x).cells.map AV.ab)]) else none
 | .lq x => if (al env x).val = true then some (put dst (.ai (al env x)) env, H) else none
 | .qW m x => if (al env x).val = true ∧ (al env x).cells.length = m ∧ (al env x).cells.all AV.one = true then some (put dst (.ai (al env x)) env, H) else none
 | .alloc z => if aj (H.length + 1) (z.cells.map AV.ab) = true then some (put dst (.ptr H.length 0) env, H ++ [.cells (z.cells.map AV.ab)]) else none
 | .build z ps => dQ H dst env ((ru z.cells (ps.map fun q => (q.1, q.2.1, al env q.2.2))).map .agg)
 | .buildSlice own esz z len ps => dQ H dst env ((kR (List.replicate len (aQ z)) esz (ps.map fun q => (q.1, al env q.2))).map (.ap own))
 | .load sz a => dQ H dst env (o9 sz (al env a) H)
 | .eu a => match dst, al env a with
   | some d, .ptr id off => match H[id]? with
     | some (.cells es) => if off < es.length then some ((d, es.getD off .any) :: env, H.set id (.cells (es.set off (es.getD off .any).ab))) else none
     | _ => none
   | _, _ => none
 | .store m a x => match zm m (al env a) (al env x) H with | some H' => some (env, H') | none => none
 | .mO _ _ _ => none
 | .sk sz esz a => match o9 sz (al env a) H with
   | some z => match zq esz z H with
     | some (v, H') => some (put dst v env, H')
     | none => none
   | none => none
 | .eX a s => match rv (al env a) (get env s) H with | some H' => some ((s, (get env s).ab) :: env, H') | none => none
 | .nilCheck x => dQ H dst env (lN (al env x))
 | .fieldAddr off sz x => dQ H dst env (j3 off sz (al env x))
 | .field off sz x => dQ H dst env (tG off sz (al env x))
 | .indexAddr esz x i => if uJ esz (al env x) = true then dQ H dst env (j4 esz (al env x) (al env i)) else none
 | .da x i => dQ H dst env (lM (al env x) (al env i))
 | .dK n x i => dQ H dst env (lL n (al env x) (al env i))
 | .slice esz x lo hi m => dQ H dst env (qf esz (al env x) (gv env lo) (gv env hi) (gv env m))
 | .dL x lo hi => dQ H dst env (lP (al env x) (gv env lo) (gv env hi))
 | .len kd x => if zk kd (al env x) = true then dQ H dst env (Fe (al env x) H) else none
 | .append esz bytes s x => match uK esz bytes (al env s) (al env x) with | some zs => some (put dst (.ap esz zs) (cF env s.slot), H) | none => none
 | .sl esz bytes z n => match zn bytes z (al env n) H with | some (v, H') => some (put dst v env, H') | none => none
 | .mP esz bytes n => dQ H dst env (tH esz bytes (al env n))
 | .mQ => some (put dst (.map H.length) env, H ++ [.map []])
 | .AJ .. => none
 | .jb .. => none
 | .mR .. => none
 | .oS .. => none
 | .lookup kd z m k ok => dQ H dst env (qg kd z (al env m) (al env k) ok H)
 | .kj kd m k x => match uM kd (al env m) (al env k) (al env x) H with | some H' => some (env, H') | none => none
 | .fn f first cap => some (put dst (.fn f (first.map fun x => (al env x).ab) (cap.map fun x => (al env x).ab)) env, H)
 | .extract x i => dQ H dst env (nW (al env x) i)
 | .call f args pass => match al env f with
   | .fn (.func g) first cap => match Fh C g (first.map AV.ab ++ aG env pass 0 args ++ cap.map AV.ab) H with
     | some (r, H') => some (put dst r (cF env (bc args pass)), H')
     | none => none
   | .mM id => match C true id (aG env pass 0 args) H with
     | some (r, H') => some (put dst r (cF env (bc args pass)), H')
     | none => none
   | _ => none
 | .eG k x => dQ H dst env (nX k (al env x))
 | .gl x => dQ H dst env (nY (al env x))
 | .bytesOf x => dQ H dst env (nZ 1 (al env x))
 | .strOf x => dQ H dst env (tI (al env x))
 | .mx big a b => dQ H dst env (L9 big (al env a) (al env b))
 | .copy esz d s => match DJ esz (al env d) (al env s) H with | some (v, H') => some (put dst v env, H') | none => none
 | .yF esz x => match pc esz (al env x) H with | some (v, H') => some (put dst v env, H') | none => none
 | .never => none
def kA (P : Program) (C : gQ) : Prop := (∀ g args H r H', C false g args H = some (r, H') → aq P g args H fun r' H'' => r' = r ∧ H'' = H') ∧
 ∀ id args H r H', C true id args H = some (r, H') → jz P id args H fun r' H'' => r' = r ∧ H'' = H'
theorem Fi {P : Program} {C : gQ} (hC : kA P C) {g : Nat} {args : List AV} {H H' : List aa} {r : AV} (h : Fh C g args H = some (r, H')) : aq P g args H fun r' H'' => r' = r ∧ H'' = H' := by
 unfold Fh at h
 split at h
 ·rename_i hb
  split at h
  ·rename_i hr
   cases h
   exact aq.frame (R := fun r' => r' = r) (fun x hx => (a9 0 _).1 hb x hx) (hC.1 _ _ _ _ _ hr) H
  ·exact hC.1 _ _ _ _ _ h
 ·exact hC.1 _ _ _ _ _ h
theorem b9 : ∀ xs, xq xs xs
 | [] => trivial
 | x :: xs => ⟨le_refl _, b9 xs⟩
theorem ba {H H' : List aa} {dst : Option Nat} {env aC : Env} {z : Option AV} (h : dQ H dst env z = some (aC, H')) : ∃ v, z = some v ∧ aC = put dst v env ∧ H' = H := by
 unfold dQ at h
 split at h <;> cases h
 exact ⟨_, rfl, rfl, rfl⟩
theorem IV {P : Program} {C : gQ} (hC : kA P C) {o : bX} {dst : Option Nat} {env aC : Env} {H H' : List aa} {K : Env → List aa → Prop} (h : gL C o dst env H = some (aC, H')) (hK : K aC H') : bp P o dst env H K := by
 cases o with
 | set x take =>
   simp only [gL] at h
   simp only [bp]
   split at h <;> cases h <;> exact hK
 | pick c a b =>
   simp only [gL] at h
   simp only [bp]
   split at h <;> cases h
   ·rename_i e; rw [e]; exact ⟨fun _ => hK, fun e => by cases e⟩
   ·rename_i e; rw [e]; exact ⟨fun e => (by cases e), fun _ => hK⟩
 | bin op x y => obtain ⟨v, hv, rfl, rfl⟩ := ba h; exact Ff (φ := fun z => K (put dst z env) _) hv hK
 | shift op x y => obtain ⟨v, hv, rfl, rfl⟩ := ba h; exact xz (φ := fun z => K (put dst z env) _) hv hK
 | gU op x y => obtain ⟨v, hv, rfl, rfl⟩ := ba h; exact uN (φ := fun z => K (put dst z env) _) hv hK
 | iZ kd neq x => obtain ⟨v, hv, rfl, rfl⟩ := ba h; exact xA (φ := fun z => K (put dst z env) _) hv hK
 | un op x => obtain ⟨v, hv, rfl, rfl⟩ := ba h; exact IQ (φ := fun z => K (put dst z env) _) hv hK
 | box x =>
   simp only [gL] at h
   split at h <;> cases h
   rename_i hc
   exact ⟨hc.1, hc.2, hK⟩
 | lq x =>
   simp only [gL] at h
   split at h <;> cases h
   rename_i hc
   exact ⟨hc, hK⟩
 | qW m x =>
   simp only [gL] at h
   split at h <;> cases h
   rename_i hc
   exact ⟨hc.1, hc.2.1, hc.2.2, hK⟩
 | alloc z =>
   simp only [gL] at h
   split at h <;> cases h
   rename_i hc
   exact ⟨hc, hK⟩
 | build z ps =>
   obtain ⟨v, hv, rfl, rfl⟩ := ba h
   obtain ⟨u, hu, rfl⟩ := Option.map_eq_some_iff.1 hv
   exact uO (φ := fun xs => K (put dst (.agg xs) env) H') hK hu
 | buildSlice own esz z len ps =>
   obtain ⟨v, hv, rfl, rfl⟩ := ba h
   obtain ⟨u, hu, rfl⟩ := Option.map_eq_some_iff.1 hv
   exact pd (φ := fun xs => K (put dst (.ap own xs) env) H') hK hu
 | load sz a => obtain ⟨v, hv, rfl, rfl⟩ := ba h; exact nl (φ := fun z => K (put dst z env) _) hv hK
 | eu a =>
   simp only [gL] at h
   simp only [bp]
   split at h <;> try cases h
   rename_i e
   simp only [e]
   split at h <;> try cases h
   rename_i bm
   simp only [bm]
   split at h <;> cases h
   exact ⟨by assumption, hK⟩
 | store m a x =>
   simp only [gL] at h
   split at h <;> cases h
   rename_i hs
   exact GJ hs hK
 | eX a s =>
   simp only [gL] at h
   split at h <;> cases h
   rename_i hs
   exact Bp hs hK
 | nilCheck x => obtain ⟨v, hv, rfl, rfl⟩ := ba h; exact qj (φ := fun z => K (put dst z env) _) hv hK
 | fieldAddr off sz x => obtain ⟨v, hv, rfl, rfl⟩ := ba h; exact oJ (φ := fun z => K (put dst z env) _) hv hK
 | field off sz x => obtain ⟨v, hv, rfl, rfl⟩ := ba h; exact xB (φ := fun z => K (put dst z env) _) hv hK
 | indexAddr esz x i =>
   simp only [gL] at h
   split at h <;> try cases h
   rename_i hl
   obtain ⟨v, hv, rfl, rfl⟩ := ba h
   exact ⟨uP hl, oK (φ := fun z => K (put dst z env) _) hv hK⟩
 | da x i => obtain ⟨v, hv, rfl, rfl⟩ := ba h; exact qh (φ := fun z => K (put dst z env) _) hv hK
 | dK n x i => obtain ⟨v, hv, rfl, rfl⟩ := ba h; exact qi (φ := fun z => K (put dst z env) _) hv hK
 | slice esz x lo hi m => obtain ⟨v, hv, rfl, rfl⟩ := ba h; exact uR (φ := fun z => K (put dst z env) _) hv hK
 | dL x lo hi => obtain ⟨v, hv, rfl, rfl⟩ := ba h; exact qk (φ := fun z => K (put dst z env) _) hv hK
 | len kd x =>
   simp only [gL] at h
   split at h <;> try cases h
   rename_i hl
   obtain ⟨v, hv, rfl, rfl⟩ := ba h
   exact ⟨Bo hl, Fg (φ := fun z => K (put dst z env) _) hv hK⟩
 | append esz bytes s x =>
   simp only [gL] at h
   split at h <;> cases h
   rename_i hs
   exact DK (φ := fun zs => K (put dst (.ap esz zs) (cF env s.slot)) _) hs hK
 | sl esz bytes z n =>
   simp only [gL] at h
   split at h <;> cases h
   rename_i hs
   exact GK (esz := esz) (K := fun v H' => K (put dst v env) H') hs hK
 | mP esz bytes n => obtain ⟨v, hv, rfl, rfl⟩ := ba h; exact xC (φ := fun z => K (put dst z env) _) hv hK
 | mQ => simp only [gL] at h; cases h; exact hK
 | mO m a x => simp only [gL] at h; cases h
 | sk sz esz a =>
   simp only [gL] at h
   split at h <;> try cases h
   rename_i z hz
   split at h <;> cases h
   rename_i v H2 hs
   exact nl (φ := fun z => fh esz z H fun y H' => K (put dst y env) H') hz (GN (K := fun v H' => K (put dst v env) H') hs hK)
 | AJ esz z len ps => simp only [gL] at h; cases h
 | jb esz bytes z s x => simp only [gL] at h; cases h
 | mR esz z x => simp only [gL] at h; cases h
 | oS esz x lo hi mx => simp only [gL] at h; cases h
 | lookup kd z m k ok => obtain ⟨v, hv, rfl, rfl⟩ := ba h; exact uS (φ := fun z => K (put dst z env) _) hv hK
 | kj kd m k x =>
   simp only [gL] at h
   split at h <;> cases h
   rename_i hs
   exact DL hs hK
 | fn f first cap => simp only [gL] at h; cases h; exact hK
 | extract x i => obtain ⟨v, hv, rfl, rfl⟩ := ba h; exact sL (φ := fun z => K (put dst z env) _) hv hK
 | call f args pass =>
   simp only [gL] at h
   simp only [bp, oF]
   split at h <;> try cases h
   ·rename_i g first cap e
    split at h <;> cases h
    rename_i r hr
    rw [e]
    refine ⟨_, b9 _, dZ.of <| (Fi hC hr).mono ?_⟩
    rintro r' H'' ⟨rfl, rfl⟩
    exact hK
   ·rename_i id e
    split at h <;> cases h
    rename_i r hr
    rw [e]
    refine ⟨_, b9 _, fe.mono (hC.2 _ _ _ _ _ hr) ?_⟩
    rintro r' H'' ⟨rfl, rfl⟩
    exact hK
 | eG k x => obtain ⟨v, hv, rfl, rfl⟩ := ba h; exact sM (φ := fun z => K (put dst z env) _) hv hK
 | gl x => obtain ⟨v, hv, rfl, rfl⟩ := ba h; exact sN (φ := fun z => K (put dst z env) _) hv hK
 | bytesOf x => obtain ⟨v, hv, rfl, rfl⟩ := ba h; exact sO (φ := fun z => K (put dst z env) _) hv hK
 | strOf x => obtain ⟨v, hv, rfl, rfl⟩ := ba h; exact xE (φ := fun z => K (put dst z env) _) hv hK
 | mx big a b => obtain ⟨v, hv, rfl, rfl⟩ := ba h; exact IS (φ := fun z => K (put dst z env) _) hv hK
 | copy esz d s =>
   simp only [gL] at h
   split at h <;> cases h
   rename_i hs
   exact IT (K := fun v H' => K (put dst v env) H') hs hK
 | yF esz x =>
   simp only [gL] at h
   split at h <;> cases h
   rename_i hs
   exact uQ (K := fun v H' => K (put dst v env) H') hs hK
 | never => cases h
def mw (C : gQ) (o : bX) (ρ : IX → AV) (H : List aa) : Option AV :=
 match o with
 | .set i false => some (ρ i).ab
 | .pick c a b => match ρ c with | .bool true => some (ρ a).ab | .bool false => some (ρ b).ab | _ => none
 | .bin op i j => Fc op (ρ i) (ρ j)
 | .shift op i j => tE op (ρ i) (ρ j)
 | .gU neq i j => qd neq (ρ i) (ρ j)
 | .iZ kd neq i => tF kd neq (ρ i)
 | .un op i => L8 op (ρ i)
 | .lq i => if (ρ i).val = true then some (.ai (ρ i)) else none
 | .build z ps => (ru z.cells (ps.map fun q => (q.1, q.2.1, ρ q.2.2))).map .agg
 | .buildSlice own esz z len ps => (kR (List.replicate len (aQ z)) esz (ps.map fun q => (q.1, ρ q.2))).map (.ap own)
 | .load sz i => o9 sz (ρ i) H
 | .nilCheck i => lN (ρ i)
 | .fieldAddr off sz i => j3 off sz (ρ i)
 | .field off sz i => tG off sz (ρ i)
 | .indexAddr esz i j => if uJ esz (ρ i) = true then j4 esz (ρ i) (ρ j) else none
 | .da i j => lM (ρ i) (ρ j)
 | .dK n i j => lL n (ρ i) (ρ j)
 | .slice esz i lo hi m => qf esz (ρ i) (lo.map ρ) (hi.map ρ) (m.map ρ)
 | .dL i lo hi => lP (ρ i) (lo.map ρ) (hi.map ρ)
 | .len kd i => if zk kd (ρ i) = true then Fe (ρ i) H else none
 | .lookup kd z m k ok => qg kd z (ρ m) (ρ k) ok H
 | .fn f first cap => some (.fn f (first.map fun x => (ρ x).ab) (cap.map fun x => (ρ x).ab))
 | .extract i k => nW (ρ i) k
 | .call f args none => match ρ f with
   | .fn (.func g) first cap => match Fh C g (first.map AV.ab ++ (args.map fun x => (ρ x).ab) ++ cap.map AV.ab) H with
     | some (r, H') => if Br H' H = true then some r else none
     | none => none
   | _ => none
 | .eG k i => nX k (ρ i)
 | .gl i => nY (ρ i)
 | .bytesOf i => nZ 1 (ρ i)
 | .mP esz bytes i => tH esz bytes (ρ i)
 | .strOf i => tI (ρ i)
 | .mx big i j => L9 big (ρ i) (ρ j)
 | _ => none
theorem tJ {P : Program} {C : gQ} (hC : kA P C) {o : bX} {ρ : IX → AV} {H : List aa} {v : AV} (h : mw C o ρ H = some v) : cU P o ρ H v := by
 cases o with
 | set i take =>
   cases take with
   | true => cases h
   | false => simp only [mw] at h; cases h; rfl
 | pick c a b =>
   simp only [mw] at h
   simp only [cU]
   split at h <;> cases h
   ·rename_i e; rw [e]; exact ⟨fun _ => rfl, fun e => by cases e⟩
   ·rename_i e; rw [e]; exact ⟨fun e => (by cases e), fun _ => rfl⟩
 | bin op x y => exact Ff (φ := fun z => z = v) h rfl
 | shift op x y => exact xz (φ := fun z => z = v) h rfl
 | gU op x y => exact uN (φ := fun z => z = v) h rfl
 | iZ kd neq x => exact xA (φ := fun z => z = v) h rfl
 | un op x => exact IQ (φ := fun z => z = v) h rfl
 | lq x =>
   simp only [mw] at h
   split at h <;> cases h
   rename_i hc
   exact ⟨hc, rfl⟩
 | build z ps =>
   obtain ⟨u, hu, rfl⟩ := Option.map_eq_some_iff.1 h
   exact uO (φ := fun xs => AV.agg xs = .agg u) rfl hu
 | buildSlice own esz z len ps =>
   obtain ⟨u, hu, rfl⟩ := Option.map_eq_some_iff.1 h
   exact pd (φ := fun xs => AV.ap own xs = .ap own u) rfl hu
 | load sz a => exact nl (φ := fun z => z = v) h rfl
 | nilCheck x => exact qj (φ := fun z => z = v) h rfl
 | fieldAddr off sz x => exact oJ (φ := fun z => z = v) h rfl
 | field off sz x => exact xB (φ := fun z => z = v) h rfl
 | indexAddr esz x i =>
   simp only [mw] at h
   split at h <;> try cases h
   rename_i hl
   exact ⟨uP hl, oK (φ := fun z => z = v) h rfl⟩
 | da x i => exact qh (φ := fun z => z = v) h rfl
 | dK n x i => exact qi (φ := fun z => z = v) h rfl
 | slice esz x lo hi m => exact uR (φ := fun z => z = v) h rfl
 | mP esz bytes n => exact xC (φ := fun z => z = v) h rfl
 | dL x lo hi => exact qk (φ := fun z => z = v) h rfl
 | len kd x =>
   simp only [mw] at h
   split at h <;> try cases h
   rename_i hl
   exact ⟨Bo hl, Fg (φ := fun z => z = v) h rfl⟩
 | lookup kd z m k ok => exact uS (φ := fun z => z = v) h rfl
 | fn f first cap => simp only [mw] at h; cases h; rfl
 | extract x i => exact sL (φ := fun z => z = v) h rfl
 | call f args pass =>
   cases pass with
   | some _ => cases h
   | none =>
     simp only [mw] at h
     simp only [cU]
     split at h <;> try cases h
     rename_i g first cap e
     split at h <;> try cases h
     rename_i r H' hr
     split at h <;> cases h
     rename_i hb
     rw [e]
     refine ⟨_, b9 _, (Fi hC hr).mono ?_⟩
     rintro r' H'' ⟨rfl, rfl⟩
     exact ⟨rfl, zr hb⟩
 | eG k x => exact sM (φ := fun z => z = v) h rfl
 | gl x => exact sN (φ := fun z => z = v) h rfl
 | bytesOf x => exact sO (φ := fun z => z = v) h rfl
 | strOf x => exact xE (φ := fun z => z = v) h rfl
 | mx big a b => exact IS (φ := fun z => z = v) h rfl
 | _ => cases h
def zt (C : gQ) : List bt → Env → List aa → Option (Env × List aa)
 | [], env, H => some (env, H)
 | o :: r, env, H => match o.g with
   | none => match gL C o.op o.dst env H with
     | some (env, H) => zt C r env H
     | none => none
   | some (g, want) => match get env g with
     | .bool b => if b = want then (match gL C o.op o.dst ((g, .bool want) :: env) H with
        | some (env, H) => zt C r env H
        | none => none) else zt C r (put o.dst (.tuple []) ((g, .bool (!want)) :: env)) H
     | .tuple [] => zt C r (put o.dst (.tuple []) env) H
     | _ => none
theorem rA {P : Program} {C : gQ} (hC : kA P C) : ∀ {l : List bt} {env aC : Env} {H H' : List aa} {K : Env → List aa → Prop}, zt C l env H = some (aC, H') → K aC H' → je P l env H K
 | [], env, aC, H, H', K, h, hK => by simp only [zt] at h; cases h; exact hK
 | o :: r, env, aC, H, H', K, h, hK => by
   simp only [zt] at h
   simp only [je, rh]
   cases hg : o.g with
   | none =>
     simp only [hg] at h ⊢
     split at h <;> try cases h
     rename_i e2 H2 h2
     exact IV (K := fun env H => je P r env H K) hC h2 (rA hC h hK)
   | some p =>
     obtain ⟨g, want⟩ := p
     simp only [hg] at h ⊢
     simp only [gX]
     split at h
     rotate_left
     ·rename_i hb
      simp only [hb]
      exact rA hC h hK
     ·cases h
     rename_i b hb
     simp only [hb]
     split at h
     ·rename_i E5
      subst E5
      split at h <;> try cases h
      rename_i e2 H2 h2
      exact ⟨fun _ => IV (K := fun env H => je P r env H K) hC h2 (rA hC h hK), fun e => by cases b <;> cases e⟩
     ·rename_i E5
      exact ⟨fun e => absurd e E5, fun _ => rA hC h hK⟩
def XX (C : gQ) (st : Bool) (o : bX) (ρ : IX → AV) (H : List aa) : Option AV :=
 match st with
 | true => mw C o ρ H
 | false => match o with
   | .load sz i => (match ρ i with | .ai y => o9 sz (.ai y) [] | _ => none)
   | .call f args none => (match ρ f with
     | .fn (.func g) first cap => if aj 0 (first.map AV.ab ++ (args.map fun x => (ρ x).ab) ++ cap.map AV.ab) = true then (match C false g (first.map AV.ab ++ (args.map fun x => (ρ x).ab) ++ cap.map AV.ab) [] with
       | some (r, []) => some r
       | _ => none) else none
     | _ => none)
   | .call _ _ _ => none
   | .len kd i => (match ρ i with | .map _ => none | _ => mw C o ρ [])
   | .lookup kd z m k ok => (match ρ m with | .iJ => mw C o ρ [] | _ => none)
   | o => mw C o ρ []
theorem IW {x : AV} {H H' : List aa} {φ : AV → Prop} (h : eY x H φ) (hm : ∀ id, x ≠ .map id) : eY x H' φ := by
 unfold eY at *
 split at h <;> first | exact h | exact h.elim | exact absurd rfl (hm _)
theorem OR {P : Program} {C : gQ} (hC : kA P C) {st : Bool} {o : bX} {ρ : IX → AV} {H : List aa} {v : AV} (h : XX C st o ρ H = some v) : dv P st o ρ H v := by
 cases st with
 | true => exact tJ hC h
 | false =>
   intro H'
   simp only [XX] at h
   split at h
   ·split at h <;> try cases h
    rename_i sz i y hy
    simp only [cU]
    rw [hy]
    have := nl (φ := fun z => z = v) h rfl
    unfold aS at this ⊢
    exact this
   ·rename_i f args
    split at h <;> try cases h
    rename_i g first cap hf
    split at h <;> try cases h
    rename_i hb
    split at h <;> cases h
    rename_i hr
    simp only [cU, hf]
    exact ⟨_, b9 _, aq.frame (R := fun r => r = v) (fun x hx => (a9 0 _).1 hb x hx) (hC.1 _ _ _ _ _ hr) H'⟩
   ·cases h
   ·rename_i kd i
    split at h
    ·cases h
    ·rename_i ep
     have := tJ hC h
     simp only [cU] at this ⊢
     exact ⟨this.1, IW this.2 ep⟩
   ·rename_i kd z m k ok
    split at h <;> try cases h
    rename_i hm
    have := tJ hC h
    simp only [cU, hm, ch] at this ⊢
    exact this
   ·rename_i _ h1 h0 h2 h3 h4
    have := tJ hC h
    cases o <;> first | exact this | exact (h1 _ _ rfl).elim | exact (h2 _ _ _ rfl).elim | exact (h3 _ _ rfl).elim | exact (h4 _ _ _ _ _ rfl).elim | (rename_i take; cases take <;> exact this)
def GP : Env → Env → Bool
 | [], [] => true
 | (a, x) :: r, (b, y) :: s => a == b && x.beq y && GP r s
 | _, _ => false
theorem IY : ∀ {xs ys : Env}, GP xs ys = true → xs = ys
 | [], [], _ => rfl
 | (a, x) :: r, (b, y) :: s, h => by
   simp only [GP, Bool.and_eq_true, beq_iff_eq] at h
   rw [h.1.1, AV.qm h.1.2, IY h.2]
 | [], _ :: _, h => by simp [GP] at h
 | _ :: _, [], h => by simp [GP] at h
def Ma (C : gQ) (o : bt) (env : Env) (H : List aa) : Option (Env × List aa) := zt C [o] env H
theorem IZ {P : Program} {C : gQ} (hC : kA P C) {o : bt} {env aC : Env} {H H' : List aa} {K : Env → List aa → Prop} (h : Ma C o env H = some (aC, H')) (hK : K aC H') : rh P o env H K := rA hC h hK
def I0 (C : gQ) (st : Bool) (o : bt) (env : Env) (H : List aa) : Option Env :=
 match o.g with
 | none => match XX C st o.op (al env) H with
   | some x => some (put o.dst x env)
   | none => none
 | some (g, want) => match get env g with
   | .bool b => if b = want then (match XX C st o.op (al env) H with
      | some x => some (put o.dst x env)
      | none => none) else some (put o.dst (.tuple []) env)
   | .tuple [] => some (put o.dst (.tuple []) env)
   | _ => none
theorem Mb {P : Program} {C : gQ} (hC : kA P C) {st : Bool} {o : bt} {env aC : Env} {H : List aa} {K : Env → Prop} (h : I0 C st o env H = some aC) (hK : K aC) : sD P st o env H K := by
 unfold I0 at h
 unfold sD
 cases hg : o.g with
 | none =>
   simp only [hg] at h ⊢
   split at h <;> cases h
   rename_i x hx
   exact ⟨x, OR hC hx, hK⟩
 | some p =>
   obtain ⟨g, want⟩ := p
   simp only [hg] at h ⊢
   simp only [gX]
   split at h
   rotate_left
   ·rename_i hb
    simp only [hb]
    cases h
    exact hK
   ·cases h
   rename_i b hb
   simp only [hb]
   split at h
   ·rename_i E5
    subst E5
    split at h <;> cases h
    rename_i x hx
    exact ⟨fun _ => ⟨x, OR hC hx, hK⟩, fun e => by cases b <;> cases e⟩
   ·rename_i E5
    cases h
    exact ⟨fun e => absurd e E5, fun _ => hK⟩
abbrev wQ := List (Env × List aa)
def Mc (x : Env × List aa) : wQ → Bool
 | [] => false
 | y :: r => match GP x.1 y.1 && Br x.2 y.2 with | true => true | false => Mc x r
def pe (l : wQ) : wQ → wQ
 | [] => l
 | x :: r => match Mc x l with | true => pe l r | false => x :: pe l r
theorem I1 {x : Env × List aa} : ∀ {l : wQ}, Mc x l = true → x ∈ l
 | [], h => by cases h
 | y :: r, h => by
   unfold Mc at h
   split at h
   ·rename_i e
    simp only [Bool.and_eq_true] at e
    have e1 := IY e.1
    have e2 := zr e.2
    have : x = y := by cases x; cases y; simp only at e1 e2; rw [e1, e2]
    rw [this]; exact List.mem_cons_self
   ·exact List.mem_cons_of_mem _ (I1 h)
theorem Bs {l : wQ} : ∀ {m : wQ}, (∀ x ∈ l, x ∈ pe l m) ∧ ∀ x ∈ m, x ∈ pe l m
 | [] => ⟨fun x h => h, fun x h => by cases h⟩
 | y :: r => by
   obtain ⟨h1, h2⟩ := Bs (l := l) (m := r)
   unfold pe
   split
   ·rename_i e
    refine ⟨h1, fun x hx => ?_⟩
    rcases List.mem_cons.1 hx with rfl | hx
    ·exact h1 _ (I1 e)
    ·exact h2 x hx
   ·refine ⟨fun x hx => List.mem_cons_of_mem _ (h1 x hx), fun x hx => ?_⟩
    rcases List.mem_cons.1 hx with rfl | hx
    ·exact List.mem_cons_self
    ·exact List.mem_cons_of_mem _ (h2 x hx)
def C4 (C : gQ) (live : Option (List Nat)) : DT → Env → List aa → Option wQ
 | .done, env, H => some [(ey live env, H)]
 | .take st o r, env, H => match I0 C st o env H with
   | some aC => C4 C live r aC H
   | none => none
 | .br o t .nil, env, H => match Ma C o env H with
   | some (aC, H') => C4 C live t aC H'
   | none => none
 | .br o t rest, env, H => match Ma C o env H with
   | some (aC, H') => match C4 C live t aC H', C4 C live rest env H with
     | some l1, some l2 => some (pe l1 l2)
     | _, _ => none
   | none => none
 | .nil, _, _ => none
theorem Uj {P : Program} {C : gQ} (hC : kA P C) {live : Option (List Nat)} : ∀ {t : DT} {env : Env} {H : List aa} {l : wQ} {K : Env → List aa → Prop}, C4 C live t env H = some l → (∀ o ∈ l, K o.1 o.2) → tD P t env H fun e H => K (ey live e) H := by
 intro t
 induction t with
 | done => intro env H l K h hK; simp only [C4] at h; cases h; exact hK _ List.mem_cons_self
 | nil => intro env H l K h hK; simp [C4] at h
 | take st o r ih =>
   intro env H l K h hK
   simp only [C4] at h
   split at h <;> try cases h
   rename_i e2 he
   exact Mb (K := fun env => tD P r env H fun e H => K (ey live e) H) hC he (ih h hK)
 | br o t rest IJ HZ =>
   intro env H l K h hK
   have key : ∀ rest', (∀ {env : Env} {H : List aa} {l : wQ} {K : Env → List aa → Prop}, C4 C live rest' env H = some l → (∀ o ∈ l, K o.1 o.2) → tD P rest' env H fun e H => K (ey live e) H) → rest' = rest →
    ((match Ma C o env H with
    | some (aC, H') => match C4 C live t aC H', C4 C live rest' env H with
      | some l1, some l2 => some (pe l1 l2)
      | _, _ => none
    | none => none) = some l) → tD P (.br o t rest') env H fun e H => K (ey live e) H := by
    intro rest' ihr' _ h
    split at h <;> try cases h
    rename_i e2 H2 h2
    split at h <;> try cases h
    rename_i l1 l2 h3 h4
    obtain ⟨u1, u2⟩ := Bs (l := l1) (m := l2)
    exact ⟨IZ (K := fun env H => tD P t env H fun e H => K (ey live e) H) hC h2 (IJ h3 fun o ho => hK o (u1 o ho)), ihr' h4 fun o ho => hK o (u2 o ho)⟩
   cases rest with
   | nil =>
     simp only [C4] at h
     split at h <;> try cases h
     rename_i e2 H2 h2
     exact ⟨IZ (K := fun env H => tD P t env H fun e H => K (ey live e) H) hC h2 (IJ h hK), trivial⟩
   | done => exact key _ (fun h hK => HZ h hK) rfl (by simpa only [C4] using h)
   | take st o' r => exact key _ (fun h hK => HZ h hK) rfl (by simpa only [C4] using h)
   | br o' t' r => exact key _ (fun h hK => HZ h hK) rfl (by simpa only [C4] using h)
end Go.aK
