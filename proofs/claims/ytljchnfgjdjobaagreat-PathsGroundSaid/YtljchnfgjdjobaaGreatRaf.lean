/- Part 6 of 18 of the proof. -/
import Derived.Test.YtljchnfgjdjobaaGreatRae
set_option linter.unusedVariables false
set_option linter.unusedSimpArgs false
set_option linter.defProp false
set_option linter.unusedSectionVars false
section
namespace Go.aK
open Go
structure qn where
 n : Nat
 ir : IR
 rs : List RX
 deriving Inhabited
inductive XZ where
 | ir (fi : qn)
 | uU (g : List AV → Option AV)
 | OS (g : List AV → List aa → Option (AV × List aa))
def ranges : Code → List (List Nat × Code × Code)
 | .seq a b => ranges a ++ ranges b
 | .cond _ a b => ranges a ++ ranges b
 | .block _ a => ranges a
 | .loop a => ranges a
 | .rangeFunc _ ps a b => (ps.toList, a, b) :: (ranges a ++ ranges b)
 | _ => []
def Qv (f : Func) (k : Nat) (an : AG) (lv : mj) (pl : mn) : iz :=
 match f.body with
 | some c => match (ranges c).getD k ([], .skip, .skip) with
   | (ps, a, b) => ⟨f.ntmps, ps, a, b, an, lv, pl⟩
 | none => ⟨0, [], .skip, .skip, an, lv, pl⟩
structure iA (P : Program) (f : FuncId) (fi : qn) : Prop where
 call : ∀ (as : Array Value) (w : World), (callFunc f as).run P w = .ok (.enter f as) w
 code : ∃ fn c an lv pl, P.funcs[f]? = some fn ∧ fn.body = some c ∧ fn.ntmps = fi.n ∧ comp P an lv pl fn.ntmps c = some fi.ir ∧ gZ P fn.results.toList = some fi.rs
theorem iA.zw {P : Program} {f : FuncId} {fi : qn} (h : iA P f fi) {args : List AV} {H : List aa} {R : AV → List aa → Prop} (hn : args.length ≤ fi.n)
 (hw : ms P H.length fi.ir (bW 0 args) H fun e env H' => (e = .normal ∨ e = .ret) ∧ bV H.length fi.rs env H' R) : aq P f args H R := by
 obtain ⟨fn, c, an, lv, pl, h1, h2, h3, h4, h5⟩ := h.code
 exact GH h1 h.call h2 h4 h5 (by omega) hw
theorem iA.Md {P : Program} {f : FuncId} {fi : qn} (h : iA P f fi) {args : List AV} {H : List aa} {R : AV → List aa → Prop} (hn : args.length ≤ fi.n)
 (hw : ms ⟨P, some H.length⟩ H.length fi.ir (bW 0 args) H fun e env H' => (e = .normal ∨ e = .ret) ∧ kQ (mv H.length) H.length fi.rs env H' R) : aq P f args H R := by
 obtain ⟨fn, c, an, lv, pl, h1, h2, h3, h4, h5⟩ := h.code
 exact DI h1 h.call h2 h4 h5 (by omega) hw
def sP (P : Program) (f : FuncId) : XZ → Prop
 | .ir fi => iA P f fi
 | .uU g => ∀ args r H, g args = some r → aq P f args H fun r' H' => r' = r ∧ H' = H
 | .OS g => ∀ args H r H', g args H = some (r, H') → aq P f args H fun r' H'' => r' = r ∧ H'' = H'
abbrev xF := List (Nat × XZ)
def xF.find : xF → Nat → Option XZ
 | [], _ => none
 | (k, e) :: r, f => match Nat.beq k f with | true => some e | false => xF.find r f
def xG (P : Program) : xF → Prop
 | [] => True
 | (k, e) :: r => sP P k e ∧ xG P r
theorem xF.qo {P : Program} : ∀ {T : xF} {f : Nat} {e : XZ}, xG P T → T.find f = some e → sP P f e
 | [], _, _, _, h => by simp [xF.find] at h
 | (k, e') :: r, f, e, hT, h => by
   simp only [xF.find] at h
   split at h
   ·rename_i hk
    cases h
    rw [← Nat.eq_of_beq_eq_true hk]
    exact hT.1
   ·exact xF.qo hT.2 h
def uV : List RX → Env → List aa → Option (List AV)
 | [], _, _ => some []
 | .t s :: r, env, H => match uV r env H with | some xs => some (get env s :: xs) | none => none
 | .c s sz :: r, env, H => match o9 sz (get env s) H, uV r env H with | some x, some xs => some (x :: xs) | _, _ => none
theorem tK : ∀ {rs : List RX} {env : Env} {H : List aa} {xs : List AV} {φ : List AV → Prop}, uV rs env H = some xs → φ xs → rp rs env H φ
 | [], env, H, xs, φ, h, hφ => by simp only [uV] at h; cases h; exact hφ
 | .t s :: r, env, H, xs, φ, h, hφ => by
   simp only [uV] at h
   split at h <;> cases h
   rename_i ys hy
   exact tK (φ := fun xs => φ (get env s :: xs)) hy hφ
 | .c s sz :: r, env, H, xs, φ, h, hφ => by
   simp only [uV] at h
   split at h <;> cases h
   rename_i x ys hx hy
   exact nl (φ := fun x => rp r env H fun xs => φ (x :: xs)) hx (tK (φ := fun xs => φ (x :: xs)) hy hφ)
def rB (n0 n : Nat) (b : Bool) : Nat := if b = true then n0 else n
def Me (n0 : Nat) (rs : List RX) (env : Env) (H : List aa) : Option (AV × List aa) :=
 match uV rs env H with
 | some [x] => if n0 ≤ H.length ∧ x.a7 (rB n0 H.length (x.a7 n0)) = true then some (x, H.take (rB n0 H.length (x.a7 n0))) else none
 | some xs => if n0 ≤ H.length ∧ aj (rB n0 H.length (aj n0 (xs.map AV.ab))) (xs.map AV.ab) = true then some (.tuple (xs.map AV.ab), H.take (rB n0 H.length (aj n0 (xs.map AV.ab)))) else none
 | none => none
theorem xH {n0 n : Nat} {b : Bool} (h : n0 ≤ n) : n0 ≤ rB n0 n b := by
 unfold rB; split <;> omega
theorem I2 {n0 : Nat} {rs : List RX} {env : Env} {H H' : List aa} {r : AV} {R : AV → List aa → Prop} (h : Me n0 rs env H = some (r, H')) (hR : R r H') : bV n0 rs env H R := by
 unfold Me at h
 unfold bV
 split at h <;> try cases h
 ·rename_i x hx
  split at h <;> cases h
  rename_i hc
  exact tK hx ⟨_, xH hc.1, _, le_refl _, hc.2, hR⟩
 ·rename_i xs ep hx
  split at h <;> cases h
  rename_i hc
  refine tK hx ⟨_, xH (b := aj n0 (xs.map AV.ab)) hc.1, ?_⟩
  split
  ·rename_i x; exact absurd rfl (ep x)
  ·exact ⟨_, b9 _, hc.2, hR⟩
abbrev Rs := List (Exit × Env × List aa)
abbrev Ex := IR → Env → List aa → Option Rs
def Mf (n0 : Nat) (rs : List RX) (o : Exit × Env × List aa) : Option (AV × List aa) :=
 match o.1 with
 | .normal => Me n0 rs o.2.1 o.2.2
 | .ret => Me n0 rs o.2.1 o.2.2
 | _ => none
def Mg (n0 : Nat) (rs : List RX) : Rs → Option (AV × List aa)
 | [] => none
 | [o] => Mf n0 rs o
 | o :: r => match Mf n0 rs o, Mg n0 rs r with
   | some x, some y => if x.1.beq y.1 = true ∧ Br x.2 y.2 = true then some x else none
   | _, _ => none
theorem I3 {n0 : Nat} {rs : List RX} : ∀ {l : Rs} {r : AV × List aa}, Mg n0 rs l = some r → ∀ o ∈ l, Mf n0 rs o = some r
 | [], _, h => by cases h
 | [o], r, h => fun o' ho => by rw [List.mem_singleton.1 ho]; exact h
 | o :: o2 :: r, x, h => fun o' ho => by
   simp only [Mg] at h
   split at h <;> try cases h
   rename_i x1 y1 h1 h2
   split at h <;> cases h
   rename_i hb
   have e1 := AV.qm hb.1
   have e2 := zr hb.2
   have e : x = y1 := by cases x; cases y1; simp only at e1 e2; rw [e1, e2]
   rcases List.mem_cons.1 ho with rfl | ho
   ·exact h1
   ·rw [e]; exact I3 h2 o' ho
def zx (k : Env → List aa → Option Rs) : Rs → Option Rs
 | [] => some []
 | (.normal, e, H) :: r => match k e H, zx k r with
   | some a, some b => some (a ++ b)
   | _, _ => none
 | o :: r => match zx k r with
   | some b => some (o :: b)
   | none => none
theorem rC {k : Env → List aa → Option Rs} {Q : Exit → Env → List aa → Prop} : ∀ {l l' : Rs}, zx k l = some l' → (∀ o ∈ l', Q o.1 o.2.1 o.2.2) →
 ∀ o ∈ l, match o.1 with | .normal => ∃ l2, k o.2.1 o.2.2 = some l2 ∧ ∀ o2 ∈ l2, Q o2.1 o2.2.1 o2.2.2 | e => Q e o.2.1 o.2.2
 | [], l', h, hQ => fun o ho => by cases ho
 | (e, env, H) :: r, l', h, hQ => fun o ho => by
   cases e with
   | normal =>
     simp only [zx] at h
     split at h <;> cases h
     rename_i a b h1 h2
     rcases List.mem_cons.1 ho with rfl | ho
     ·exact ⟨a, h1, fun o2 h => hQ o2 (List.mem_append.2 (.inl h))⟩
     ·exact rC h2 (fun o2 h => hQ o2 (List.mem_append.2 (.inr h))) o ho
   | ret =>
     simp only [zx] at h
     split at h <;> cases h
     rename_i b h2
     rcases List.mem_cons.1 ho with rfl | ho
     ·exact hQ _ List.mem_cons_self
     ·exact rC h2 (fun o2 h => hQ o2 (List.mem_cons_of_mem _ h)) o ho
   | exit i =>
     simp only [zx] at h
     split at h <;> cases h
     rename_i b h2
     rcases List.mem_cons.1 ho with rfl | ho
     ·exact hQ _ List.mem_cons_self
     ·exact rC h2 (fun o2 h => hQ o2 (List.mem_cons_of_mem _ h)) o ho
   | _ =>
     simp only [zx] at h
     split at h <;> cases h
     rename_i b h2
     rcases List.mem_cons.1 ho with rfl | ho
     ·exact hQ _ List.mem_cons_self
     ·exact rC h2 (fun o2 h => hQ o2 (List.mem_cons_of_mem _ h)) o ho
def OT (id : Nat) (o : Exit × Env × List aa) : Exit × Env × List aa :=
 match o.1 with
 | .exit i => if i = id then (.normal, o.2) else o
 | _ => o
def Fj : AV → Bool
 | .ap own _ => own == 0
 | _ => true
theorem Fk {x : AV} (h : Fj x = true) : x.ab = x := by
 cases x with
 | ap own xs => simp only [Fj, beq_iff_eq] at h; subst h; rfl
 | _ => rfl
def Qw (n0 id : Nat) (e : Exit) (H : List aa) : Option (AV × List aa) :=
 match H[id]? with
 | some (.loop .busy lc es) => if n0 ≤ H.length then (match e with
   | .normal => some (.bool true, (H.set id (.loop .ready lc es)).take n0)
   | .ret => some (.bool false, (H.set id (.loop (.jump .ret) lc es)).take n0)
   | .exit k => some (.bool false, (H.set id (.loop (.jump (.exit k)) lc es)).take n0)
   | _ => none) else none
 | _ => none
theorem Qx {n0 id : Nat} {e : Exit} {H H' : List aa} {r : AV} {R : AV → List aa → Prop} (h : Qw n0 id e H = some (r, H')) (hR : R r H') : pZ n0 id R e H := by
 unfold Qw at h
 unfold pZ
 split at h <;> try cases h
 rename_i lc es bm
 rw [bm]
 split at h <;> try cases h
 rename_i hn
 split at h <;> cases h
 ·exact ⟨by simpa using hn, hR⟩
 ·exact ⟨by simpa using hn, hR⟩
 ·exact ⟨by simpa using hn, hR⟩
def I4 (P : Program) (ex : Ex) (id : Nat) (args : List AV) (H : List aa) : Option (AV × List aa) :=
 match H[id]? with
 | some (.loop .ready lc es) => match comp P lc.an lc.lv lc.pl lc.n lc.as, comp P lc.an lc.lv lc.pl lc.n lc.bd with
   | some ia, some ib => if es.length = lc.n ∧ args.length = lc.ps.length ∧ lc.ps.all (· < lc.n) = true ∧ es.all Fj = true ∧ args.all Fj = true then
      match ex ia ((lc.ps.zip args).reverse ++ bW 0 es) H with
      | some [(.normal, env1, H1)] => match H1[id]? with
        | some (.loop .ready lc1 es1) => match ex ib env1 (H1.set id (.loop .busy lc1 es1)) with
          | some [(e, _, H3)] => Qw H.length id e H3
          | _ => none
        | _ => none
      | _ => none
     else none
   | _, _ => none
 | _ => none
def oL (P : Program) (T : xF) (ex : Ex) : gQ := fun y g args H =>
 match y with
 | true => I4 P ex g args H
 | false => match T.find g with
   | some (.ir fi) => if args.length ≤ fi.n then
      match ex fi.ir (bW 0 args) H with
      | some l => Mg H.length fi.rs l
      | none => none
     else none
   | some (.uU p) => match p args with | some r => some (r, H) | none => none
   | some (.OS p) => p args H
   | none => none
def Qy (T : xF) (g : Nat) : Bool := match T.find g with | some (.ir _) => true | _ => false
def zy (id : Nat) (env : Env) (H : List aa) : Option Rs :=
 match H[id]? with
 | some (.loop .ready lc es) => some [(.normal, env, H.set id (.loop .eD lc es))]
 | some (.loop (.jump .ret) lc es) => some [(.ret, env, H.set id (.loop .eD lc es))]
 | some (.loop (.jump (.exit k)) lc es) => some [(.exit k, env, H.set id (.loop .eD lc es))]
 | _ => none
theorem GQ {id : Nat} {env : Env} {H : List aa} {l : Rs} {Q : Exit → Env → List aa → Prop} (h : zy id env H = some l) (hQ : ∀ o ∈ l, Q o.1 o.2.1 o.2.2) : behind id H fun j H'' => oY j Q env H'' := by
 unfold zy at h
 unfold behind
 split at h <;> try cases h
 all_goals
  rename_i bm
  rw [bm]
  exact hQ _ List.mem_cons_self
def dr (P : Program) (T : xF) : Nat → Ex
 | 0, _, _, _ => none
 | f + 1, ir, env, H => match ir with
   | .skip => some [(.normal, env, H)]
   | .region ops live => match zt (oL P T (dr P T f)) ops env H with
     | some (aC, H') => some [(.normal, ey live aC, H')]
     | none => none
   | .draw t live => match C4 (oL P T (dr P T f)) live t env H with
     | some l => some (l.map fun o => (.normal, o.1, o.2))
     | none => none
   | .seq a b => match dr P T f a env H with
     | some l => zx (dr P T f b) l
     | none => none
   | .cond x a b => match al env x with
     | .bool true => dr P T f a env H
     | .bool false => dr P T f b env H
     | _ => none
   | .block id a => match dr P T f a env H with
     | some l => some (l.map (OT id))
     | none => none
   | .loop a => match dr P T f a env H with
     | some l => zx (dr P T f (.loop a)) l
     | none => none
   | .exit id => some [(.exit id, env, H)]
   | .ret => some [(.ret, env, H)]
   | .never => none
   | .iQ g lc => match al env g with
     | .fn (.func g) first cap => if Qy T g = true then (match oL P T (dr P T f) false g (first.map AV.ab ++ [.mM H.length] ++ cap.map AV.ab) (H ++ [.loop .ready lc (kw lc.n env)]) with
       | some (_, H') => zy H.length env H'
       | none => none) else none
     | _ => none
theorem tL {P : Program} {T : xF} (hT : xG P T) {ex : Ex} (hex : ∀ {ir env H l}, ex ir env H = some l → ∀ {n0 : Nat} {Q : Exit → Env → List aa → Prop}, (∀ o ∈ l, Q o.1 o.2.1 o.2.2) → ms P n0 ir env H Q) : kA P (oL P T ex) := by
 refine ⟨fun g args H r H' h => ?_, fun id args H r H' h => ?_⟩
 ·simp only [oL] at h
  split at h
  ·rename_i fi YU
   have jS := xF.qo hT YU
   split at h <;> try cases h
   rename_i hn
   split at h <;> try cases h
   rename_i l hx
   refine jS.zw hn (hex hx fun o ho => ?_)
   have h1 := I3 h o ho
   unfold Mf at h1
   split at h1 <;> try cases h1
   ·rename_i e; exact ⟨.inl e, I2 h1 ⟨rfl, rfl⟩⟩
   ·rename_i e; exact ⟨.inr e, I2 h1 ⟨rfl, rfl⟩⟩
  ·rename_i p hp
   have jS := xF.qo hT hp
   split at h <;> cases h
   rename_i hr
   exact jS _ _ _ hr
  ·rename_i p hp
   exact xF.qo hT hp _ _ _ _ h
  ·cases h
 ·simp only [oL, I4] at h
  split at h <;> try cases h
  rename_i lc es bm
  split at h <;> try cases h
  rename_i ia ib ha hb
  split at h <;> try cases h
  rename_i hc
  split at h <;> try cases h
  rename_i env1 H1 pU
  split at h <;> try cases h
  rename_i lc1 es1 L7
  split at h <;> try cases h
  rename_i e adE H3 hx3
  obtain ⟨c1, c2, c3, c4, c5⟩ := hc
  refine nV bm ha hb ⟨c1, c2, c3, fun x hx => Fk (List.all_eq_true.1 c4 x hx), fun x hx => Fk (List.all_eq_true.1 c5 x hx)⟩ (hex pU fun o ho => ?_)
  rw [List.mem_singleton.1 ho]
  refine ⟨rfl, ?_⟩
  unfold jG
  rw [L7]
  refine hex hx3 fun o ho => ?_
  rw [List.mem_singleton.1 ho]
  exact Qx h ⟨rfl, rfl⟩
theorem Qz {P : Program} {T : xF} (hT : xG P T) {g : Nat} (h : Qy T g = true) : ∀ (as : Array Value) (w : World), (callFunc g as).run P w = .ok (.enter g as) w := by
 unfold Qy at h
 split at h
 ·rename_i fi YU
  exact (xF.qo hT YU).call
 ·cases h
theorem zz {P : Program} {T : xF} (hT : xG P T) : ∀ (f : Nat) {ir : IR} {env : Env} {H : List aa} {l : Rs}, dr P T f ir env H = some l → ∀ {n0 : Nat} {Q : Exit → Env → List aa → Prop}, (∀ o ∈ l, Q o.1 o.2.1 o.2.2) → ms P n0 ir env H Q := by
 intro f
 induction f using Nat.strongRecOn with
 | _ f ih =>
 intro ir env H l h n0 Q hQ
 cases f with
 | zero => simp [dr] at h
 | succ f =>
 have Tx := fun {ir : IR} {env : Env} {H : List aa} {l : Rs} (h : dr P T f ir env H = some l) {n0 : Nat} {Q : Exit → Env → List aa → Prop} (hQ : ∀ o ∈ l, Q o.1 o.2.1 o.2.2) => ih f (Nat.lt_succ_self f) h (n0 := n0) (Q := Q) hQ
 have hC : kA P (oL P T (dr P T f)) := tL hT (fun {_ _ _ _} h {n0 Q} hQ => Tx h hQ)
 cases ir with
 | skip => simp only [dr] at h; cases h; exact hQ _ List.mem_cons_self
 | exit id => simp only [dr] at h; cases h; exact hQ _ List.mem_cons_self
 | ret => simp only [dr] at h; cases h; exact hQ _ List.mem_cons_self
 | never => simp [dr] at h
 | iQ g lc =>
   simp only [dr] at h
   simp only [ms]
   split at h <;> try cases h
   rename_i g' first cap hg
   split at h <;> try cases h
   rename_i hir
   split at h <;> try cases h
   rename_i r H2 hr
   rw [hg]
   refine ⟨Qz hT hir, _, b9 _, dZ.of <| (hC.1 _ _ _ _ _ hr).mono ?_⟩
   rintro r' H'' ⟨rfl, rfl⟩
   exact GQ h hQ
 | region ops live =>
   simp only [dr] at h
   split at h <;> cases h
   rename_i cK H2 hx
   exact rA (K := fun aC H' => Q .normal (ey live aC) H') hC hx (hQ _ List.mem_cons_self)
 | draw t live =>
   simp only [dr] at h
   split at h <;> cases h
   rename_i l2 hx
   exact Uj (K := fun aC H' => Q .normal aC H') hC hx fun o ho => hQ _ (List.mem_map.2 ⟨o, ho, rfl⟩)
 | seq a b =>
   simp only [dr] at h
   simp only [ms]
   split at h <;> try cases h
   rename_i l2 hx
   have hs := rC h hQ
   refine Tx hx fun o ho => ?_
   have := hs o ho
   obtain ⟨e, cK, H2⟩ := o
   cases e with
   | normal => obtain ⟨l3, h3, hq⟩ := this; exact Tx h3 hq
   | _ => exact this
 | cond x a b =>
   simp only [dr] at h
   simp only [ms]
   split at h
   ·rename_i e; rw [e]; exact ⟨fun _ => Tx h hQ, fun e => by cases e⟩
   ·rename_i e; rw [e]; exact ⟨fun e => (by cases e), fun _ => Tx h hQ⟩
   ·cases h
 | block id a =>
   simp only [dr] at h
   simp only [ms]
   split at h <;> cases h
   rename_i l2 hx
   refine Tx hx fun o ho => ?_
   have := hQ _ (List.mem_map.2 ⟨o, ho, rfl⟩)
   obtain ⟨e, cK, H2⟩ := o
   cases e with
   | exit id' =>
     simp only [OT] at this ⊢
     split at this
     ·rename_i bm; rw [if_pos bm]; exact this
     ·rename_i bm; rw [if_neg bm]; exact this
   | _ => exact this
 | loop a =>
   simp only [ms]
   refine ⟨Nat × Env × List aa, fun i => i.1 ≤ f ∧ ∃ l', dr P T (i.1 + 1) (.loop a) i.2.1 i.2.2 = some l' ∧ ∀ o ∈ l', Q o.1 o.2.1 o.2.2, fun i => i.2.1, fun i => i.2.2, fun i => i.1, ⟨(f, env, H), ⟨Nat.le_refl _, l, h, hQ⟩, aA _ _ _⟩, ?_⟩
   rintro ⟨k, env1, H1⟩ ⟨hk, l1, h1, hQ1⟩
   simp only at hk h1 ⊢
   simp only [dr] at h1
   split at h1 <;> try cases h1
   rename_i l2 hx
   have hs := rC h1 hQ1
   refine ih k (Nat.lt_succ_of_le hk) hx fun o ho => ?_
   have := hs o ho
   obtain ⟨e, cK, H2⟩ := o
   cases e with
   | normal =>
     obtain ⟨l3, h3, hq⟩ := this
     cases k with
     | zero => simp [dr] at h3
     | succ k => exact ⟨(k, cK, H2), ⟨by omega, l3, h3, hq⟩, Nat.lt_succ_self k, aA _ _ _⟩
   | _ => exact this
end Go.aK
end
section
namespace Go.aK
open Go
theorem ion (n : Nat) : Int.ofNat (no_index (OfNat.ofNat n)) = (OfNat.ofNat n : Int) := rfl
theorem Uk : Int.negSucc 0 = -1 := rfl
@[reducible] def aI {P : Program} {g : FuncId} {fn : Func} {n : Nat} {i : IR} {rs : List RX} (hc : ∀ (as : Array Value) (w : World), (callFunc g as).run P w = .ok (.enter g as) w)
 (hf : P.funcs[g]? = some fn) (hn : fn.ntmps = n) (an : AG) (lv : mj) (pl : mn)
 (h : (fn.body.bind fun c => comp P an lv pl n c) = some i := by conv =>
   lhs
   reduce
   try simp only [ion, Uk])
 (hr : gZ P fn.results.toList = some rs := by conv =>
   lhs
   reduce
   try simp only [ion, Uk]) : {fi : qn // iA P g fi} :=
 ⟨⟨n, i, rs⟩, by
   subst hn
   cases hb : fn.body with
   | none => rw [hb] at h; cases h
   | some c => exact ⟨hc, fn, c, an, lv, pl, hf, hb, rfl, by rw [hb] at h; exact h, hr⟩⟩
end Go.aK
end
