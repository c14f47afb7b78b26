/- Part 6 of 18 of the proof. -/
import Derived.Test.YtljchnfgjdjobaaGreatQae
set_option linter.unusedVariables false
set_option linter.unusedSimpArgs false
set_option linter.defProp false
set_option linter.unusedSectionVars false
section
namespace Go.aK
open Go
structure qg where
 n : Nat
 ir : IR
 rs : List RX
 deriving Inhabited
inductive Xu where
 | ir (fi : qg)
 | uN (g : List AV → Option AV)
 | Oj (g : List AV → List aa → Option (AV × List aa))
def ranges : Code → List (List Nat × Code × Code)
 | .seq a b => ranges a ++ ranges b
 | .cond _ a b => ranges a ++ ranges b
 | .block _ a => ranges a
 | .loop a => ranges a
 | .rangeFunc _ ps a b => (ps.toList, a, b) :: (ranges a ++ ranges b)
 | _ => []
def P1 (f : Func) (k : Nat) (an : Au) (lv : l7) (pl : l8) : hJ :=
 match f.body with
 | some c => match (ranges c).getD k ([], .skip, .skip) with
   | (ps, a, b) => ⟨f.ntmps, ps, a, b, an, lv, pl⟩
 | none => ⟨0, [], .skip, .skip, an, lv, pl⟩
structure hZ (P : Program) (f : FuncId) (fi : qg) : Prop where
 call : ∀ (as : Array Value) (w : World), (callFunc f as).run P w = .ok (.enter f as) w
 code : ∃ fn c an lv pl, P.funcs[f]? = some fn ∧ fn.body = some c ∧ fn.ntmps = fi.n ∧ comp P an lv pl fn.ntmps c = some fi.ir ∧ gR P fn.results.toList = some fi.rs
theorem hZ.zh {P : Program} {f : FuncId} {fi : qg} (h : hZ P f fi) {args : List AV} {H : List aa} {R : AV → List aa → Prop} (hn : args.length ≤ fi.n)
 (hw : mf P H.length fi.ir (bU 0 args) H fun e env H' => (e = .normal ∨ e = .ret) ∧ bT H.length fi.rs env H' R) : aq P f args H R := by
 obtain ⟨fn, c, an, lv, pl, h1, h2, h3, h4, h5⟩ := h.code
 exact Gf h1 h.call h2 h4 h5 (by omega) hw
theorem hZ.LH {P : Program} {f : FuncId} {fi : qg} (h : hZ P f fi) {args : List AV} {H : List aa} {R : AV → List aa → Prop} (hn : args.length ≤ fi.n)
 (hw : mf ⟨P, some H.length⟩ H.length fi.ir (bU 0 args) H fun e env H' => (e = .normal ∨ e = .ret) ∧ kE (mg H.length) H.length fi.rs env H' R) : aq P f args H R := by
 obtain ⟨fn, c, an, lv, pl, h1, h2, h3, h4, h5⟩ := h.code
 exact Dq h1 h.call h2 h4 h5 (by omega) hw
def sI (P : Program) (f : FuncId) : Xu → Prop
 | .ir fi => hZ P f fi
 | .uN g => ∀ args r H, g args = some r → aq P f args H fun r' H' => r' = r ∧ H' = H
 | .Oj g => ∀ args H r H', g args H = some (r, H') → aq P f args H fun r' H'' => r' = r ∧ H'' = H'
abbrev xw := List (Nat × Xu)
def xw.find : xw → Nat → Option Xu
 | [], _ => none
 | (k, e) :: r, f => match Nat.beq k f with | true => some e | false => xw.find r f
def xx (P : Program) : xw → Prop
 | [] => True
 | (k, e) :: r => sI P k e ∧ xx P r
theorem xw.qh {P : Program} : ∀ {T : xw} {f : Nat} {e : Xu}, xx P T → T.find f = some e → sI P f e
 | [], _, _, _, h => by simp [xw.find] at h
 | (k, e') :: r, f, e, hT, h => by
   simp only [xw.find] at h
   split at h
   ·rename_i hk
    cases h
    rw [← Nat.eq_of_beq_eq_true hk]
    exact hT.1
   ·exact xw.qh hT.2 h
def uO : List RX → Env → List aa → Option (List AV)
 | [], _, _ => some []
 | .t s :: r, env, H => match uO r env H with | some xs => some (get env s :: xs) | none => none
 | .c s sz :: r, env, H => match oY sz (get env s) H, uO r env H with | some x, some xs => some (x :: xs) | _, _ => none
theorem tD : ∀ {rs : List RX} {env : Env} {H : List aa} {xs : List AV} {φ : List AV → Prop}, uO rs env H = some xs → φ xs → rf rs env H φ
 | [], env, H, xs, φ, h, hφ => by simp only [uO] at h; cases h; exact hφ
 | .t s :: r, env, H, xs, φ, h, hφ => by
   simp only [uO] at h
   split at h <;> cases h
   rename_i ys hy
   exact tD (φ := fun xs => φ (get env s :: xs)) hy hφ
 | .c s sz :: r, env, H, xs, φ, h, hφ => by
   simp only [uO] at h
   split at h <;> cases h
   rename_i x ys hx hy
   exact m8 (φ := fun x => rf r env H fun xs => φ (x :: xs)) hx (tD (φ := fun xs => φ (x :: xs)) hy hφ)
def rp (n0 n : Nat) (b : Bool) : Nat := if b = true then n0 else n
def LI (n0 : Nat) (rs : List RX) (env : Env) (H : List aa) : Option (AV × List aa) :=
 match uO rs env H with
 | some [x] => if n0 ≤ H.length ∧ x.aY (rp n0 H.length (x.aY n0)) = true then some (x, H.take (rp n0 H.length (x.aY n0))) else none
 | some xs => if n0 ≤ H.length ∧ aj (rp n0 H.length (aj n0 (xs.map AV.ab))) (xs.map AV.ab) = true then some (.tuple (xs.map AV.ab), H.take (rp n0 H.length (aj n0 (xs.map AV.ab)))) else none
 | none => none
theorem xy {n0 n : Nat} {b : Bool} (h : n0 ≤ n) : n0 ≤ rp n0 n b := by
 unfold rp; split <;> omega
theorem IB {n0 : Nat} {rs : List RX} {env : Env} {H H' : List aa} {r : AV} {R : AV → List aa → Prop} (h : LI n0 rs env H = some (r, H')) (hR : R r H') : bT n0 rs env H R := by
 unfold LI at h
 unfold bT
 split at h <;> try cases h
 ·rename_i x hx
  split at h <;> cases h
  rename_i hc
  exact tD hx ⟨_, xy hc.1, _, le_refl _, hc.2, hR⟩
 ·rename_i xs eo hx
  split at h <;> cases h
  rename_i hc
  refine tD hx ⟨_, xy (b := aj n0 (xs.map AV.ab)) hc.1, ?_⟩
  split
  ·rename_i x; exact absurd rfl (eo x)
  ·exact ⟨_, b8 _, hc.2, hR⟩
abbrev Rs := List (Exit × Env × List aa)
abbrev Ex := IR → Env → List aa → Option Rs
def LJ (n0 : Nat) (rs : List RX) (o : Exit × Env × List aa) : Option (AV × List aa) :=
 match o.1 with
 | .normal => LI n0 rs o.2.1 o.2.2
 | .ret => LI n0 rs o.2.1 o.2.2
 | _ => none
def LK (n0 : Nat) (rs : List RX) : Rs → Option (AV × List aa)
 | [] => none
 | [o] => LJ n0 rs o
 | o :: r => match LJ n0 rs o, LK n0 rs r with
   | some x, some y => if x.1.beq y.1 = true ∧ Bg x.2 y.2 = true then some x else none
   | _, _ => none
theorem IC {n0 : Nat} {rs : List RX} : ∀ {l : Rs} {r : AV × List aa}, LK n0 rs l = some r → ∀ o ∈ l, LJ n0 rs o = some r
 | [], _, h => by cases h
 | [o], r, h => fun o' ho => by rw [List.mem_singleton.1 ho]; exact h
 | o :: o2 :: r, x, h => fun o' ho => by
   simp only [LK] at h
   split at h <;> try cases h
   rename_i x1 y1 h1 h2
   split at h <;> cases h
   rename_i hb
   have e1 := AV.qf hb.1
   have e2 := ze hb.2
   have e : x = y1 := by cases x; cases y1; simp only at e1 e2; rw [e1, e2]
   rcases List.mem_cons.1 ho with rfl | ho
   ·exact h1
   ·rw [e]; exact IC h2 o' ho
def zi (k : Env → List aa → Option Rs) : Rs → Option Rs
 | [] => some []
 | (.normal, e, H) :: r => match k e H, zi k r with
   | some a, some b => some (a ++ b)
   | _, _ => none
 | o :: r => match zi k r with
   | some b => some (o :: b)
   | none => none
theorem rq {k : Env → List aa → Option Rs} {Q : Exit → Env → List aa → Prop} : ∀ {l l' : Rs}, zi k l = some l' → (∀ o ∈ l', Q o.1 o.2.1 o.2.2) →
 ∀ o ∈ l, match o.1 with | .normal => ∃ l2, k o.2.1 o.2.2 = some l2 ∧ ∀ o2 ∈ l2, Q o2.1 o2.2.1 o2.2.2 | e => Q e o.2.1 o.2.2
 | [], l', h, hQ => fun o ho => by cases ho
 | (e, env, H) :: r, l', h, hQ => fun o ho => by
   cases e with
   | normal =>
     simp only [zi] at h
     split at h <;> cases h
     rename_i a b h1 h2
     rcases List.mem_cons.1 ho with rfl | ho
     ·exact ⟨a, h1, fun o2 h => hQ o2 (List.mem_append.2 (.inl h))⟩
     ·exact rq h2 (fun o2 h => hQ o2 (List.mem_append.2 (.inr h))) o ho
   | ret =>
     simp only [zi] at h
     split at h <;> cases h
     rename_i b h2
     rcases List.mem_cons.1 ho with rfl | ho
     ·exact hQ _ List.mem_cons_self
     ·exact rq h2 (fun o2 h => hQ o2 (List.mem_cons_of_mem _ h)) o ho
   | exit i =>
     simp only [zi] at h
     split at h <;> cases h
     rename_i b h2
     rcases List.mem_cons.1 ho with rfl | ho
     ·exact hQ _ List.mem_cons_self
     ·exact rq h2 (fun o2 h => hQ o2 (List.mem_cons_of_mem _ h)) o ho
   | _ =>
     simp only [zi] at h
     split at h <;> cases h
     rename_i b h2
     rcases List.mem_cons.1 ho with rfl | ho
     ·exact hQ _ List.mem_cons_self
     ·exact rq h2 (fun o2 h => hQ o2 (List.mem_cons_of_mem _ h)) o ho
def Ol (id : Nat) (o : Exit × Env × List aa) : Exit × Env × List aa :=
 match o.1 with
 | .exit i => if i = id then (.normal, o.2) else o
 | _ => o
def EX : AV → Bool
 | .ap own _ => own == 0
 | _ => true
theorem EY {x : AV} (h : EX x = true) : x.ab = x := by
 cases x with
 | ap own xs => simp only [EX, beq_iff_eq] at h; subst h; rfl
 | _ => rfl
def P2 (n0 id : Nat) (e : Exit) (H : List aa) : Option (AV × List aa) :=
 match H[id]? with
 | some (.loop .busy lc es) => if n0 ≤ H.length then (match e with
   | .normal => some (.bool true, (H.set id (.loop .ready lc es)).take n0)
   | .ret => some (.bool false, (H.set id (.loop (.jump .ret) lc es)).take n0)
   | .exit k => some (.bool false, (H.set id (.loop (.jump (.exit k)) lc es)).take n0)
   | _ => none) else none
 | _ => none
theorem P3 {n0 id : Nat} {e : Exit} {H H' : List aa} {r : AV} {R : AV → List aa → Prop} (h : P2 n0 id e H = some (r, H')) (hR : R r H') : pT n0 id R e H := by
 unfold P2 at h
 unfold pT
 split at h <;> try cases h
 rename_i lc es bm
 rw [bm]
 split at h <;> try cases h
 rename_i hn
 split at h <;> cases h
 ·exact ⟨by simpa using hn, hR⟩
 ·exact ⟨by simpa using hn, hR⟩
 ·exact ⟨by simpa using hn, hR⟩
def ID (P : Program) (ex : Ex) (id : Nat) (args : List AV) (H : List aa) : Option (AV × List aa) :=
 match H[id]? with
 | some (.loop .ready lc es) => match comp P lc.an lc.lv lc.pl lc.n lc.as, comp P lc.an lc.lv lc.pl lc.n lc.bd with
   | some ia, some ib => if es.length = lc.n ∧ args.length = lc.ps.length ∧ lc.ps.all (· < lc.n) = true ∧ es.all EX = true ∧ args.all EX = true then
      match ex ia ((lc.ps.zip args).reverse ++ bU 0 es) H with
      | some [(.normal, env1, H1)] => match H1[id]? with
        | some (.loop .ready lc1 es1) => match ex ib env1 (H1.set id (.loop .busy lc1 es1)) with
          | some [(e, _, H3)] => P2 H.length id e H3
          | _ => none
        | _ => none
      | _ => none
     else none
   | _, _ => none
 | _ => none
def oG (P : Program) (T : xw) (ex : Ex) : gI := fun y g args H =>
 match y with
 | true => ID P ex g args H
 | false => match T.find g with
   | some (.ir fi) => if args.length ≤ fi.n then
      match ex fi.ir (bU 0 args) H with
      | some l => LK H.length fi.rs l
      | none => none
     else none
   | some (.uN p) => match p args with | some r => some (r, H) | none => none
   | some (.Oj p) => p args H
   | none => none
def P4 (T : xw) (g : Nat) : Bool := match T.find g with | some (.ir _) => true | _ => false
def zj (id : Nat) (env : Env) (H : List aa) : Option Rs :=
 match H[id]? with
 | some (.loop .ready lc es) => some [(.normal, env, H.set id (.loop .eu lc es))]
 | some (.loop (.jump .ret) lc es) => some [(.ret, env, H.set id (.loop .eu lc es))]
 | some (.loop (.jump (.exit k)) lc es) => some [(.exit k, env, H.set id (.loop .eu lc es))]
 | _ => none
theorem Gp {id : Nat} {env : Env} {H : List aa} {l : Rs} {Q : Exit → Env → List aa → Prop} (h : zj id env H = some l) (hQ : ∀ o ∈ l, Q o.1 o.2.1 o.2.2) : behind id H fun j H'' => oS j Q env H'' := by
 unfold zj at h
 unfold behind
 split at h <;> try cases h
 all_goals
  rename_i bm
  rw [bm]
  exact hQ _ List.mem_cons_self
def dm (P : Program) (T : xw) : Nat → Ex
 | 0, _, _, _ => none
 | f + 1, ir, env, H => match ir with
   | .skip => some [(.normal, env, H)]
   | .region ops live => match zg (oG P T (dm P T f)) ops env H with
     | some (aC, H') => some [(.normal, eh live aC, H')]
     | none => none
   | .draw t live => match CL (oG P T (dm P T f)) live t env H with
     | some l => some (l.map fun o => (.normal, o.1, o.2))
     | none => none
   | .seq a b => match dm P T f a env H with
     | some l => zi (dm P T f b) l
     | none => none
   | .cond x a b => match al env x with
     | .bool true => dm P T f a env H
     | .bool false => dm P T f b env H
     | _ => none
   | .block id a => match dm P T f a env H with
     | some l => some (l.map (Ol id))
     | none => none
   | .loop a => match dm P T f a env H with
     | some l => zi (dm P T f (.loop a)) l
     | none => none
   | .exit id => some [(.exit id, env, H)]
   | .ret => some [(.ret, env, H)]
   | .never => none
   | .iH g lc => match al env g with
     | .fn (.func g) first cap => if P4 T g = true then (match oG P T (dm P T f) false g (first.map AV.ab ++ [.mF H.length] ++ cap.map AV.ab) (H ++ [.loop .ready lc (ke lc.n env)]) with
       | some (_, H') => zj H.length env H'
       | none => none) else none
     | _ => none
theorem tE {P : Program} {T : xw} (hT : xx P T) {ex : Ex} (hex : ∀ {ir env H l}, ex ir env H = some l → ∀ {n0 : Nat} {Q : Exit → Env → List aa → Prop}, (∀ o ∈ l, Q o.1 o.2.1 o.2.2) → mf P n0 ir env H Q) : km P (oG P T ex) := by
 refine ⟨fun g args H r H' h => ?_, fun id args H r H' h => ?_⟩
 ·simp only [oG] at h
  split at h
  ·rename_i fi Yp
   have jI := xw.qh hT Yp
   split at h <;> try cases h
   rename_i hn
   split at h <;> try cases h
   rename_i l hx
   refine jI.zh hn (hex hx fun o ho => ?_)
   have h1 := IC h o ho
   unfold LJ at h1
   split at h1 <;> try cases h1
   ·rename_i e; exact ⟨.inl e, IB h1 ⟨rfl, rfl⟩⟩
   ·rename_i e; exact ⟨.inr e, IB h1 ⟨rfl, rfl⟩⟩
  ·rename_i p hp
   have jI := xw.qh hT hp
   split at h <;> cases h
   rename_i hr
   exact jI _ _ _ hr
  ·rename_i p hp
   exact xw.qh hT hp _ _ _ _ h
  ·cases h
 ·simp only [oG, ID] at h
  split at h <;> try cases h
  rename_i lc es bm
  split at h <;> try cases h
  rename_i ia ib ha hb
  split at h <;> try cases h
  rename_i hc
  split at h <;> try cases h
  rename_i env1 H1 sv
  split at h <;> try cases h
  rename_i lc1 es1 LA
  split at h <;> try cases h
  rename_i e ac4 H3 hx3
  obtain ⟨c1, c2, c3, c4, c5⟩ := hc
  refine nP bm ha hb ⟨c1, c2, c3, fun x hx => EY (List.all_eq_true.1 c4 x hx), fun x hx => EY (List.all_eq_true.1 c5 x hx)⟩ (hex sv fun o ho => ?_)
  rw [List.mem_singleton.1 ho]
  refine ⟨rfl, ?_⟩
  unfold jw
  rw [LA]
  refine hex hx3 fun o ho => ?_
  rw [List.mem_singleton.1 ho]
  exact P3 h ⟨rfl, rfl⟩
theorem P5 {P : Program} {T : xw} (hT : xx P T) {g : Nat} (h : P4 T g = true) : ∀ (as : Array Value) (w : World), (callFunc g as).run P w = .ok (.enter g as) w := by
 unfold P4 at h
 split at h
 ·rename_i fi Yp
  exact (xw.qh hT Yp).call
 ·cases h
theorem zk {P : Program} {T : xw} (hT : xx P T) : ∀ (f : Nat) {ir : IR} {env : Env} {H : List aa} {l : Rs}, dm P T f ir env H = some l → ∀ {n0 : Nat} {Q : Exit → Env → List aa → Prop}, (∀ o ∈ l, Q o.1 o.2.1 o.2.2) → mf P n0 ir env H Q := by
 intro f
 induction f using Nat.strongRecOn with
 | _ f ih =>
 intro ir env H l h n0 Q hQ
 cases f with
 | zero => simp [dm] at h
 | succ f =>
 have S3 := fun {ir : IR} {env : Env} {H : List aa} {l : Rs} (h : dm P T f ir env H = some l) {n0 : Nat} {Q : Exit → Env → List aa → Prop} (hQ : ∀ o ∈ l, Q o.1 o.2.1 o.2.2) => ih f (Nat.lt_succ_self f) h (n0 := n0) (Q := Q) hQ
 have hC : km P (oG P T (dm P T f)) := tE hT (fun {_ _ _ _} h {n0 Q} hQ => S3 h hQ)
 cases ir with
 | skip => simp only [dm] at h; cases h; exact hQ _ List.mem_cons_self
 | exit id => simp only [dm] at h; cases h; exact hQ _ List.mem_cons_self
 | ret => simp only [dm] at h; cases h; exact hQ _ List.mem_cons_self
 | never => simp [dm] at h
 | iH g lc =>
   simp only [dm] at h
   simp only [mf]
   split at h <;> try cases h
   rename_i g' first cap hg
   split at h <;> try cases h
   rename_i hir
   split at h <;> try cases h
   rename_i r H2 hr
   rw [hg]
   refine ⟨P5 hT hir, _, b8 _, dU.of <| (hC.1 _ _ _ _ _ hr).mono ?_⟩
   rintro r' H'' ⟨rfl, rfl⟩
   exact Gp h hQ
 | region ops live =>
   simp only [dm] at h
   split at h <;> cases h
   rename_i cG H2 hx
   exact rn (K := fun aC H' => Q .normal (eh live aC) H') hC hx (hQ _ List.mem_cons_self)
 | draw t live =>
   simp only [dm] at h
   split at h <;> cases h
   rename_i l2 hx
   exact TP (K := fun aC H' => Q .normal aC H') hC hx fun o ho => hQ _ (List.mem_map.2 ⟨o, ho, rfl⟩)
 | seq a b =>
   simp only [dm] at h
   simp only [mf]
   split at h <;> try cases h
   rename_i l2 hx
   have hs := rq h hQ
   refine S3 hx fun o ho => ?_
   have := hs o ho
   obtain ⟨e, cG, H2⟩ := o
   cases e with
   | normal => obtain ⟨l3, h3, hq⟩ := this; exact S3 h3 hq
   | _ => exact this
 | cond x a b =>
   simp only [dm] at h
   simp only [mf]
   split at h
   ·rename_i e; rw [e]; exact ⟨fun _ => S3 h hQ, fun e => by cases e⟩
   ·rename_i e; rw [e]; exact ⟨fun e => (by cases e), fun _ => S3 h hQ⟩
   ·cases h
 | block id a =>
   simp only [dm] at h
   simp only [mf]
   split at h <;> cases h
   rename_i l2 hx
   refine S3 hx fun o ho => ?_
   have := hQ _ (List.mem_map.2 ⟨o, ho, rfl⟩)
   obtain ⟨e, cG, H2⟩ := o
   cases e with
   | exit id' =>
     simp only [Ol] at this ⊢
     split at this
     ·rename_i bm; rw [if_pos bm]; exact this
     ·rename_i bm; rw [if_neg bm]; exact this
   | _ => exact this
 | loop a =>
   simp only [mf]
   refine ⟨Nat × Env × List aa, fun i => i.1 ≤ f ∧ ∃ l', dm P T (i.1 + 1) (.loop a) i.2.1 i.2.2 = some l' ∧ ∀ o ∈ l', Q o.1 o.2.1 o.2.2, fun i => i.2.1, fun i => i.2.2, fun i => i.1, ⟨(f, env, H), ⟨Nat.le_refl _, l, h, hQ⟩, aA _ _ _⟩, ?_⟩
   rintro ⟨k, env1, H1⟩ ⟨hk, l1, h1, hQ1⟩
   simp only at hk h1 ⊢
   simp only [dm] at h1
   split at h1 <;> try cases h1
   rename_i l2 hx
   have hs := rq h1 hQ1
   refine ih k (Nat.lt_succ_of_le hk) hx fun o ho => ?_
   have := hs o ho
   obtain ⟨e, cG, H2⟩ := o
   cases e with
   | normal =>
     obtain ⟨l3, h3, hq⟩ := this
     cases k with
     | zero => simp [dm] at h3
     | succ k => exact ⟨(k, cG, H2), ⟨by omega, l3, h3, hq⟩, Nat.lt_succ_self k, aA _ _ _⟩
   | _ => exact this
end Go.aK
end
section
namespace Go.aK
open Go
theorem ion (n : Nat) : Int.ofNat (no_index (OfNat.ofNat n)) = (OfNat.ofNat n : Int) := rfl
theorem TQ : Int.negSucc 0 = -1 := rfl
@[reducible] def aI {P : Program} {g : FuncId} {fn : Func} {n : Nat} {i : IR} {rs : List RX} (hc : ∀ (as : Array Value) (w : World), (callFunc g as).run P w = .ok (.enter g as) w)
 (hf : P.funcs[g]? = some fn) (hn : fn.ntmps = n) (an : Au) (lv : l7) (pl : l8)
 (h : (fn.body.bind fun c => comp P an lv pl n c) = some i := by conv =>
   lhs
   reduce
   try simp only [ion, TQ])
 (hr : gR P fn.results.toList = some rs := by conv =>
   lhs
   reduce
   try simp only [ion, TQ]) : {fi : qg // hZ P g fi} :=
 ⟨⟨n, i, rs⟩, by
   subst hn
   cases hb : fn.body with
   | none => rw [hb] at h; cases h
   | some c => exact ⟨hc, fn, c, an, lv, pl, hf, hb, rfl, by rw [hb] at h; exact h, hr⟩⟩
end Go.aK
end
