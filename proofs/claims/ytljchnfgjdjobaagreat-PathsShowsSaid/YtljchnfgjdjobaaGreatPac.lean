/- Part 3 of 18 of the proof. -/
import Derived.Test.YtljchnfgjdjobaaGreatPab
set_option linter.unusedVariables false
set_option linter.unusedSimpArgs false
set_option linter.defProp false
set_option linter.unusedSectionVars false
section
namespace Go.Abs
open Go
section
variable {P : Program}
theorem foldSet_size : ∀ (l : List (Nat × Value)) (t : Array Value), (l.foldl (fun t p => t.setIfInBounds p.1 p.2) t).size = t.size
 | [], t => rfl
 | p :: l, t => by rw [List.foldl_cons, foldSet_size l]; simp
theorem foldSet_rep {M : Mem} {L : List Nat} : ∀ {ps : List Nat} {vs : List Value} {xs : List AV} {t : Array Value} {env : Env}, RepL M L vs xs → (∀ p ∈ ps, p < t.size) → (∀ s, Rep M L (t.getD s undef) (get env s)) →
 ∀ s, Rep M L (((ps.zip vs).foldl (fun t p => t.setIfInBounds p.1 p.2) t).getD s undef) (get ((ps.zip xs).reverse ++ env) s)
 | [], _, _, t, env, _, _, h, s => by simpa using h s
 | p :: ps, [], [], t, env, _, _, h, s => by simpa using h s
 | p :: ps, v :: vs, x :: xs, t, env, hr, hp, h, s => by
   cases hr with
   | cons _ _ _ _ h1 h2 =>
   simp only [List.zip_cons_cons, List.foldl_cons, List.reverse_cons, List.append_assoc, List.singleton_append]
   refine foldSet_rep (env := (p, x) :: env) h2 (fun q hq => by simpa using hp q (List.mem_cons_of_mem _ hq)) (fun s => ?_) s
   have hpl := hp p List.mem_cons_self
   simp only [Array.getD_eq_getD_getElem?, Array.getElem?_setIfInBounds, get]
   by_cases e : s = p
   ·subst e; simp [hpl, h1]
   ·rw [if_neg (fun e' => e e'.symm), if_neg e]
    have := h s
    rwa [Array.getD_eq_getD_getElem?] at this
theorem get_free {es : List AV} (h : ∀ x ∈ es, ∀ own xs, x = .lst own xs → own = 0) {l : List (Nat × AV)} (hl : ∀ p ∈ l, ∀ own xs, p.2 = .lst own xs → own = 0) (s : Nat) : ∀ own xs, get (l ++ argEnv 0 es) s = .lst own xs → own = 0 := by
 induction l with
 | nil =>
   intro own xs e
   rw [List.nil_append, get_argEnv, if_pos (Nat.zero_le _), List.getD_eq_getElem?_getD] at e
   cases hx : es[s - 0]? with
   | none => rw [hx] at e; cases e
   | some x => rw [hx] at e; exact h x (List.mem_of_getElem? hx) own xs e
 | cons p l ih =>
   obtain ⟨k, v⟩ := p
   intro own xs e
   simp only [List.cons_append, get] at e
   split at e
   ·exact hl (k, v) (by simp) own xs e
   ·exact ih (fun p hp => hl p (by simp [hp])) own xs e
def retY (n0 : Nat) (b : Bool) (H : List AObj) (R : AV → List AObj → Prop) : Prop := n0 ≤ H.length ∧ R (.bool b) (H.take n0)
def endY (n0 id : Nat) (R : AV → List AObj → Prop) (e : Exit) (H : List AObj) : Prop :=
 match H[id]? with
 | some (.loop .busy lc es) => (match e with
   | .normal => retY n0 true (H.set id (.loop .ready lc es)) R
   | .ret => retY n0 false (H.set id (.loop (.jump .ret) lc es)) R
   | .exit k => retY n0 false (H.set id (.loop (.jump (.exit k)) lc es)) R
   | _ => False)
 | _ => False
def beginY (id : Nat) (H : List AObj) (K : List AObj → Prop) : Prop :=
 match H[id]? with
 | some (.loop .ready lc es) => K (H.set id (.loop .busy lc es))
 | _ => False
def lcOk (lc : LCode) (es : List AV) (args : List AV) : Prop := es.length = lc.n ∧ args.length = lc.ps.length ∧ lc.ps.all (· < lc.n) = true ∧ (∀ x ∈ es, x.unown = x) ∧ ∀ x ∈ args, x.unown = x
theorem unown_zero {x : AV} (h : x.unown = x) : ∀ own xs, x = .lst own xs → own = 0 := by
 rintro own xs rfl
 simp only [AV.unown] at h
 cases h; rfl
theorem ycalls_of {id : Nat} {args : List AV} {H : List AObj} {lc : LCode} {es : List AV} {ia ib : IR} {R : AV → List AObj → Prop} (hid : H[id]? = some (.loop .ready lc es))
 (ha : comp P lc.an lc.lv lc.pl lc.n lc.as = some ia) (hb : comp P lc.an lc.lv lc.pl lc.n lc.bd = some ib) (hlc : lcOk lc es args)
 (h : awp P H.length ia ((lc.ps.zip args).reverse ++ argEnv 0 es) H fun e env1 H1 => e = .normal ∧ beginY id H1 fun H2 => awp P H.length ib env1 H2 fun e _ H3 => endY H.length id R e H3) : YCalls P id args H R := by
 intro A M L w vs O b hA hs hL hst
 obtain ⟨r, q1, q2, q3, q4, q5, q6⟩ := hst.obj id _ b hid hL
 obtain ⟨c1, c2, c3, c4, c5⟩ := hlc
 have hll : L.length = H.length := hst.len
 have hbL : b ∈ L := List.mem_of_getElem? hL
 refine ⟨r.fn, _, r.assign, r.body, run_yield q1 (by rw [q2]; simp; omega), ?_⟩
 have htz : (r.params.zip vs).foldl (fun t (p : Nat × Value) => t.setIfInBounds p.1 p.2) r.tmps = (lc.ps.zip vs.toList).foldl (fun t p => t.setIfInBounds p.1 p.2) r.tmps := by
  rw [q2, ← Array.foldl_toList]
  simp
 have htm : ((r.params.zip vs).foldl (fun tmps (x : Nat × Value) => match x with | (t, a) => tmps.setIfInBounds t a) r.tmps) = (lc.ps.zip vs.toList).foldl (fun t p => t.setIfInBounds p.1 p.2) r.tmps := htz
 rw [htm, q3, q4]
 obtain ⟨t0, ht0⟩ : ∃ t0, t0 = (lc.ps.zip vs.toList).foldl (fun t p => t.setIfInBounds p.1 p.2) r.tmps := ⟨_, rfl⟩
 rw [← ht0]
 have hsz : r.tmps.size = lc.n := by have := q5.length; rw [c1] at this; simpa using this
 have hvs : RepL M L vs.toList args := by
  refine RepL.of_get (by simpa using hs) fun j x hx => ?_
  have h1 := hst.env j
  have hj : j < vs.size := by rw [hs]; exact get_lt hx
  refine ⟨vs[j], by simp [hj], ?_⟩
  simp only [Array.getD_eq_getD_getElem?, List.getD_eq_getElem?_getD, hx, Option.getD_some, Array.getElem?_eq_getElem hj] at h1
  exact h1
 have hrep : ∀ s, Rep M L (t0.getD s undef) (get ((lc.ps.zip args).reverse ++ argEnv 0 es) s) := by
  rw [ht0]
  refine foldSet_rep hvs (fun p hp => by rw [hsz]; simpa using List.all_eq_true.1 c3 p hp) fun s => ?_
  rw [get_argEnv, if_pos (Nat.zero_le _), Nat.sub_zero]
  have := q5.getD s
  simpa [Array.getD_eq_getD_getElem?, List.getD_eq_getElem?_getD] using this
 have hfree := get_free (fun x hx => unown_zero (c4 x hx)) (l := (lc.ps.zip args).reverse) (fun p hp own xs e => unown_zero (c5 p.2 (List.of_mem_zip (List.mem_reverse.1 hp)).2) own xs e)
 obtain ⟨A2, hA2⟩ : ∃ A2 : Perm, A2 = { A with base := w.heap.size } := ⟨_, rfl⟩
 have st12 : ∀ {M : Mem} {L : List Nat} {w : World} {H : List AObj} {ev : Nat → Value} {ea : Nat → AV} {O : Pos → Option Nat}, St A M L w H ev ea O → St A2 M L w H ev ea O := by
  intro M L w H ev ea O h; subst hA2
  exact { len := h.len, nodup := h.nodup, env := h.env, mem := h.mem, obj := h.obj, strat := h.strat, lt := h.lt, spt := h.spt, spc := h.spc, oinj := h.oinj, osep := h.osep, olt := h.olt, La := h.La, Oa := h.Oa, fresh := h.fresh }
 have st21 : ∀ {M : Mem} {L : List Nat} {w : World} {H : List AObj} {ev : Nat → Value} {ea : Nat → AV} {O : Pos → Option Nat}, St A2 M L w H ev ea O → St A M L w H ev ea O := by
  intro M L w H ev ea O h; subst hA2
  exact { len := h.len, nodup := h.nodup, env := h.env, mem := h.mem, obj := h.obj, strat := h.strat, lt := h.lt, spt := h.spt, spc := h.spc, oinj := h.oinj, osep := h.osep, olt := h.olt, La := h.La, Oa := h.Oa, fresh := h.fresh }
 have ex21 : ∀ {M M' : Mem} {w w' : World}, Ext A2 M w M' w' → Ext A M w M' w' := by
  intro M M' w w' h; subst hA2
  exact ⟨h.msub, h.size, h.os, h.tape, h.output, h.keep, h.loops⟩
 have hfits : fitsX none L.length A2 := by rw [hA2, hll]; exact entry_fits hA
 have hfr : Fr A2 lc.n M L w H ((lc.ps.zip args).reverse ++ argEnv 0 es) _ { tmps := t0, defers := [] } :=
  ⟨st12 (hst.forArgs (fun t => t0.getD t undef) (get ((lc.ps.zip args).reverse ++ argEnv 0 es)) hrep hfree), by rw [ht0, foldSet_size, hsz], ⟨by rw [hA2]; exact Nat.le_refl _, List.nodup_nil, fun d h => by cases h⟩⟩
 rw [← hll] at h
 refine roundIn_of_wpIn trivial ?_
 have hown : Own (some b) w := fun l e => by cases e; exact ⟨r, q1⟩
 refine Go.wpIn_mono (F := wf (some b)) (sound' (ro := some b) (L0 := L) lc.as ia ha hfits hown h hfr (List.prefix_refl L)) ?_
 rintro e a1 w1 ⟨A', M1, L1, H1, env1, O1, hle, ⟨rfl, hbeg⟩, hf1, hx1, hL1⟩
 unfold beginY at hbeg
 split at hbeg <;> try exact hbeg.elim
 rename_i lc1 es1 hid1
 have hl1 : L1[id]? = some b := prefix_get hL1 hL
 obtain ⟨r1, p1, p2, p3, p4, p5, p6⟩ := hf1.st.obj id _ b hid1 hl1
 obtain ⟨k1, k2⟩ := hf1.st.writeLoop (st' := .busy) (r' := { r1 with state := .busy }) hid1 hl1 (fun r2 hr2 => by rw [p1] at hr2; cases hr2; exact ⟨rfl, rfl, rfl, rfl, rfl, rfl⟩)
 refine ⟨_, run_beginRound p1 p6.1, ?_⟩
 have hown1 : Own (some b) (w1.putObj b (.loop { r1 with state := .busy })) := (hown.ext hx1).ext k2
 refine Go.wpIn_mono (F := wf (some b)) (sound' (ro := some b) (L0 := L) lc.bd ib hb (hfits.le hle) hown1 hbeg ⟨k1, hf1.size, hf1.defers.ext k2⟩ hL1) ?_
 rintro e a2 w2 ⟨A3, M2, L2, H2, env2, O2, hle2, hend, hf2, hx2, hL2⟩
 unfold endY at hend
 split at hend <;> try exact hend.elim
 rename_i lc2 es2 hid2
 have hl2 : L2[id]? = some b := prefix_get hL2 hL
 obtain ⟨r2, g1, g2, g3, g4, g5, g6⟩ := hf2.st.obj id _ b hid2 hl2
 have idn : id < H.length := get_lt hid
 have fin : ∀ (jump : Option Code) (st' : LSt), st'.ok { r2 with state := if jump.isNone then .ready else .done, pending := jump } → retY L.length jump.isNone (H2.set id (.loop st' lc2 es2)) R →
  ∃ v w', (Instr.endRound b jump).run P w2 = .ok v w' ∧ ∃ v' r' H' M' L' O', Ending.returned v = .returned v' ∧ R r' H' ∧ St A M' L' w' H' (upd (fun _ => undef) 0 v') (upd (fun _ => .any) 0 r') O' ∧ Ext A M w M' w' ∧ L <+: L' := by
  intro jump st' hst' hret
  obtain ⟨m1, m2⟩ := hf2.st.writeLoop (st' := st') (r' := { r2 with state := if jump.isNone then .ready else .done, pending := jump }) hid2 hl2 (fun r3 hr3 => by rw [g1] at hr3; cases hr3; exact ⟨rfl, rfl, rfl, rfl, rfl, hst'⟩)
  refine ⟨_, _, run_endRound jump g1, ?_⟩
  obtain ⟨hlen, hR⟩ := hret
  have m3 := m1.forArgs (upd (fun _ => undef) 0 (.bool jump.isNone)) (upd (fun _ => .any) 0 (.bool jump.isNone)) (fun t => by
   simp only [upd]; split
   ·exact .bool _
   ·exact .any _) (fun t own xs e => by
   simp only [upd] at e; split at e <;> cases e)
  obtain ⟨O3, m4⟩ := m3.cut L.length (fun id' o hid' ho => (((hfits.le hle).le hle2)).closed (Nat.le_refl _) m3 id' o hid' ho) (fun t => by
   simp only [upd]; split <;> rfl)
  have hx : Ext A M w M2 (w2.putObj b (.loop { r2 with state := if jump.isNone then .ready else .done, pending := jump })) :=
   ex21 ((hx1.trans (k2.le hle)).trans ((hx2.le hle).trans (m2.le (hle2.trans hle))))
  refine ⟨_, _, _, M2, _, O3, rfl, hR, st21 ((m4.le hle2).le hle), hx, ?_⟩
  obtain ⟨s, rfl⟩ := hL2
  exact ⟨[], by simp⟩
 cases e with
 | normal => exact fin none .ready ⟨rfl, rfl⟩ hend
 | ret => exact fin (some .ret) (.jump .ret) ⟨rfl, rfl⟩ hend
 | exit k => exact fin (some (.exit k)) (.jump (.exit k)) ⟨rfl, rfl⟩ hend
 | _ => exact hend.elim
end
end Go.Abs
end
section
namespace Go.Abs
open Go
section
variable {P : Program} {A : Perm} {M : Mem} {L : List Nat} {w : World} {H : List AObj} {ev : Nat → Value} {ea : Nat → AV} {O : Pos → Option Nat}
def bareA (O : Pos → Option Nat) (w : World) : Perm := ⟨fun b => (∃ t, O (.t t) = some b) ∨ w.heap.size ≤ b, fun id => some (id + 1), (fun id n h => by cases h; omega), 0⟩
theorem bareA_entry (O : Pos → Option Nat) (w : World) : (bareA O w).entry false ([] : List AObj).length := ⟨fun id h => absurd h (Nat.not_lt_zero _), fun id _ => rfl⟩
theorem St.bare (h : St A M L w H ev ea O) (hb : ∀ t, (ea t).blw 0 = true) : St (bareA O w) M [] w [] ev ea (fun p => match p with | .t t => O (.t t) | .c _ _ => none) := by
 have hO : ∀ (p : Pos) (b : Nat), (match p with | .t t => O (.t t) | .c _ _ => none) = some b → O p = some b ∧ ∃ t, p = .t t := by
  intro p b hp
  cases p with
  | t t => exact ⟨hp, t, rfl⟩
  | c id j => cases hp
 exact { len := rfl, nodup := by simp, env := fun t => (by have := (h.env t).takeL (hb t); simpa using this), mem := h.mem, obj := fun id o b ho => (by simp at ho), strat := fun id o ho => (by simp at ho), lt := fun b hb => (by cases hb)
         spt := fun t => h.spt t, spc := fun id j => (by simp [cellA, Spare]), oinj := fun p q b hp hq => h.oinj p q b (hO p b hp).1 (hO q b hq).1, osep := fun p b hp hm => (by cases hm), olt := fun p b hp => h.olt p b (hO p b hp).1,
         La := fun b hb => (by cases hb), Oa := fun p b hp => (by obtain ⟨h1, t, rfl⟩ := hO p b hp; exact .inl ⟨t, h1⟩), fresh := fun b hb => .inr hb }
theorem St.unbare (h : St A M L w H ev ea O) {M' : Mem} {w' : World} {v : Value} {r : AV} {L' : List Nat} {O' : Pos → Option Nat}
 (h' : St (bareA O w) M' L' w' [] (upd (fun _ => undef) 0 v) (upd (fun _ => .any) 0 r) O')
 (hext : Ext (bareA O w) M w M' w') :
 ∃ O3, St A M' L w' H (upd (fun _ => undef) 0 v) (upd (fun _ => .any) 0 r) O3 ∧ Ext A M w M' w' := by
 have hL' : L' = [] := by have := h'.len; simpa using this
 subst hL'
 have hAA : ∀ b, ((∃ t, O (.t t) = some b) ∨ w.heap.size ≤ b) → A b := by
  rintro b (⟨t, ht⟩ | hb)
  ·exact h.Oa _ b ht
  ·exact h.fresh b hb
 have keepL : ∀ b ∈ L, w'.heap[b]? = w.heap[b]? ∧ ∀ o, M' b o = M b o := fun b hb => hext.keep b (h.lt b hb) (by
  rintro (⟨t, ht⟩ | hs)
  ·exact h.osep _ b ht hb
  ·exact absurd (h.lt b hb) (by omega))
 have keepC : ∀ id j b, O (.c id j) = some b → w'.heap[b]? = w.heap[b]? ∧ ∀ o, M' b o = M b o := fun id j b hb => hext.keep b (h.olt _ b hb) (by
  rintro (⟨t, ht⟩ | hs)
  ·cases h.oinj _ _ b ht hb
  ·exact absurd (h.olt _ b hb) (by omega))
 let O3 : Pos → Option Nat := fun p => match p with | .t t => if t = 0 then O' (.t 0) else none | .c id j => O (.c id j)
 have hsep : ∀ b, O' (.t 0) = some b → b ∉ L ∧ (∀ id j, O (.c id j) ≠ some b) := by
  intro b hb
  rcases h'.Oa _ b hb with ⟨t, ht⟩ | hs
  ·exact ⟨h.osep _ b ht, fun id j hc => by cases h.oinj _ _ b ht hc⟩
  ·exact ⟨fun hm => absurd (h.lt b hm) (by omega), fun id j hc => absurd (h.olt _ b hc) (by omega)⟩
 refine ⟨O3, ?_, ⟨hext.msub, hext.size, hext.os, hext.tape, hext.output, fun b hb hA => hext.keep b hb (fun hx => hA (hAA b hx)), hext.loops⟩⟩
 exact { len := h.len, nodup := h.nodup
         env := fun t => (h'.env t).mono (Mem.sub_refl _) (List.nil_prefix)
         mem := h'.mem
         obj := fun id o b ho hb => (h.obj id o b ho hb).mono hext.msub (List.prefix_refl _) (keepL b (List.mem_of_getElem? hb)).1 (keepL b (List.mem_of_getElem? hb)).2
         strat := h.strat
         lt := fun b hb => Nat.lt_of_lt_of_le (h.lt b hb) hext.size
         spt := fun t => by
          by_cases e : t = 0
          ·subst e; simpa [O3] using h'.spt 0
          ·simp [O3, e, upd, Spare]
         spc := fun id j => by
          have e1 : cellV L w' id j = cellV L w id j := by
           unfold cellV
           cases hl : L[id]? with
           | none => rfl
           | some b => simp only [World.cell?, (keepL b (List.mem_of_getElem? hl)).1]
          rw [e1]
          exact (h.spc id j).mono fun b hb => keepC id j b hb
         oinj := fun p q b hp hq => by
          cases p with
          | t t =>
            simp only [O3] at hp
            split at hp
            ·rename_i e; subst e
             cases q with
             | t t' =>
               simp only [O3] at hq
               split at hq
               ·rename_i e; subst e; rfl
               ·cases hq
             | c id j => exact absurd hq ((hsep b hp).2 id j)
            ·cases hp
          | c id j =>
            cases q with
            | t t' =>
              simp only [O3] at hq
              split at hq
              ·exact absurd hp ((hsep b hq).2 id j)
              ·cases hq
            | c id' j' => exact h.oinj _ _ b hp hq
         osep := fun p b hp => by
          cases p with
          | t t =>
            simp only [O3] at hp
            split at hp
            ·exact (hsep b hp).1
            ·cases hp
          | c id j => exact h.osep _ b hp
         olt := fun p b hp => by
          cases p with
          | t t =>
            simp only [O3] at hp
            split at hp
            ·exact h'.olt _ b hp
            ·cases hp
          | c id j => exact Nat.lt_of_lt_of_le (h.olt _ b hp) hext.size
         La := h.La
         Oa := fun p b hp => by
          cases p with
          | t t =>
            simp only [O3] at hp
            split at hp
            ·exact hAA b (h'.Oa _ b hp)
            ·cases hp
          | c id j => exact h.Oa _ b hp
         fresh := fun b hb => h.fresh b (Nat.le_trans hext.size hb) }
theorem ACalls.frame {f : FuncId} {args : List AV} {R : AV → Prop} (ha : ∀ x ∈ args, x.blw 0 = true) (h : ACalls P f args [] fun r H' => R r ∧ H' = []) (H : List AObj) : ACalls P f args H fun r H' => R r ∧ H' = H := by
 intro A M L w vs O hA hs hst
 have hb : ∀ t, (args.getD t .any).blw 0 = true := by
  intro t
  rw [List.getD_eq_getElem?_getD]
  cases hx : args[t]? with
  | none => rfl
  | some x => exact ha x (List.mem_of_getElem? hx)
 rcases h (bareA O w) M [] w vs _ (bareA_entry O w) hs (hst.bare hb) with ⟨h1, h2⟩ | ⟨v, w', r, H', M', L', O', h1, ⟨h2, rfl⟩, h3, h4, _⟩
 ·refine .inl ⟨h1, h2.mono ?_⟩
  rintro e w' ⟨v, r, H', M', L', O', k1, ⟨k2, rfl⟩, k3, k4, _⟩
  obtain ⟨O3, g1, g2⟩ := hst.unbare k3 k4
  exact ⟨v, r, H, M', L, O3, k1, ⟨k2, rfl⟩, g1, g2, List.prefix_refl L⟩
 ·obtain ⟨O3, g1, g2⟩ := hst.unbare h3 h4
  exact .inr ⟨v, w', r, H, M', L, O3, h1, ⟨h2, rfl⟩, g1, g2, List.prefix_refl L⟩
end
end Go.Abs
end
