/- A memory-free reading of the model's values (part 12): every operation that is taken is what it is told to be. -/
import Derived.Test.YtcfmgncmkbiknaaAbs11
set_option linter.unusedVariables false
set_option linter.unusedSimpArgs false
namespace Go.Abs
open Go

section
variable {P : Program} {A : Nat → Prop} {n : Nat} {M : Mem} {L : List Nat} {w : World} {H : List AObj} {env : Env} {O : Pos → Option Nat} {a : Act} {Q : Exit → Act → World → Prop} {K : Env → List AObj → Prop}

theorem boolP_inv {x : AV} {φ : Bool → Prop} (h : boolP x φ) : ∃ b, x = .bool b ∧ φ b := by
  unfold boolP at h
  split at h
  · exact ⟨_, rfl, h⟩
  · exact h.elim

def nilOf (kd : Nat) : Value := match kd with | 0 => .slice none 0 0 | 1 => .pointer none | 2 => .map none | _ => .nilFunc
def descFits (kd : Nat) (D : TypeDesc) : Bool := match kd, D with | 0, .slice _ => true | 1, .pointer _ => true | 2, .map _ _ => true | 3, .func _ _ _ => true | _, _ => false

theorem run_equalIn_nil {d kd : Nat} {t : TypeId} {D : TypeDesc} (ht : P.underlying t = some D) (hD : descFits kd D = true) {u : Value} {x : AV} {b : Bool} (hx : isNil kd x = some b) (hu : Rep M L u x) : (Op.equalIn (d + 1) t u (nilOf kd)).run P w = .ok b w := by
  unfold isNil at hx
  split at hx <;> cases hx <;> cases D <;> simp [descFits] at hD <;> cases hu <;> simp [Op.equalIn, run_underlying ht, nilOf]

theorem aeqNil_run {kd : Nat} {neq : Bool} {t : TypeId} {D : TypeDesc} (ht : P.underlying t = some D) (hD : descFits kd D = true) {u : Value} {x : AV} {φ : AV → Prop} (h : aeqNil kd neq x φ) (hu : Rep M L u x) (X Y : Operand) :
    ∃ r z, (do eqGuard (if neq then .neq else .eql) t X Y u (nilOf kd); binOp (if neq then .neq else .eql) t u (nilOf kd) : Sem Value).run P w = .ok r w ∧ Rep M L r z ∧ φ z ∧ ∀ own xs, z = .lst own xs → own = 0 := by
  unfold aeqNil at h
  split at h
  rotate_left
  · split at h <;> try exact h.elim
    cases hu with
    | lst b off c own e cs xs he hx hn hle hc hr hm => simp at hn
    | lst0 ad c own hc =>
      have hDs : ∃ e, D = .slice e := by
        cases D <;> simp [descFits] at hD
        exact ⟨_, rfl⟩
      obtain ⟨e, rfl⟩ := hDs
      have he0 : ∀ d, (Op.equalIn (d + 1) t (.slice ad 0 c) (nilOf 0)).run P w = .ok (ad.isNone) w := by
        intro d
        cases ad <;> simp [Op.equalIn, run_underlying ht, nilOf]
      have he : (Op.equal t (.slice ad 0 c) (nilOf 0)).run P w = .ok (ad.isNone) w := he0 9999
      have hg : ∀ op, (eqGuard op t X Y (.slice ad 0 c) (nilOf 0)).run P w = .ok () w := by
        intro op
        unfold eqGuard; cases op <;> rfl
      have h1 : binOp .eql t (.slice ad 0 c) (nilOf 0) = (Op.equal t (.slice ad 0 c) (nilOf 0) >>= fun q => (pure (.bool q) : Sem Value)) := rfl
      have h2 : binOp .neq t (.slice ad 0 c) (nilOf 0) = (Op.equal t (.slice ad 0 c) (nilOf 0) >>= fun q => (pure (.bool (!q)) : Sem Value)) := rfl
      have hφ : ∀ b, φ (.bool b) := fun b => by cases b; exact h.2; exact h.1
      cases neq
      · refine ⟨.bool ad.isNone, .bool ad.isNone, ?_, .bool _, hφ _, by intro _ _ e; cases e⟩
        simp only [Bool.false_eq_true, if_false, Sem.run_bind, hg, Result.andThen_ok, h1, he, Sem.run_pure]
      · refine ⟨.bool (!ad.isNone), .bool (!ad.isNone), ?_, .bool _, hφ _, by intro _ _ e; cases e⟩
        simp only [if_true, Sem.run_bind, hg, Result.andThen_ok, h2, he, Sem.run_pure]
  rename_i b hb
  have he : (Op.equal t u (nilOf kd)).run P w = .ok b w := run_equalIn_nil (d := 9999) ht hD hb hu
  have hg : ∀ op, (eqGuard op t X Y u (nilOf kd)).run P w = .ok () w := by
    intro op
    unfold isNil at hb
    split at hb <;> cases hb <;> cases hu <;> (unfold eqGuard; cases op <;> rfl)
  have h1 : binOp .eql t u (nilOf kd) = (Op.equal t u (nilOf kd) >>= fun q => (pure (.bool q) : Sem Value)) := by
    unfold isNil at hb
    split at hb <;> cases hb <;> cases hu <;> rfl
  have h2 : binOp .neq t u (nilOf kd) = (Op.equal t u (nilOf kd) >>= fun q => (pure (.bool (!q)) : Sem Value)) := by
    unfold isNil at hb
    split at hb <;> cases hb <;> cases hu <;> rfl
  cases neq
  · refine ⟨.bool b, .bool b, ?_, .bool _, h, by intro _ _ e; cases e⟩
    simp only [Bool.false_eq_true, if_false, Sem.run_bind, hg, Result.andThen_ok, h1, he, Sem.run_pure]
  · refine ⟨.bool (!b), .bool (!b), ?_, .bool _, h, by intro _ _ e; cases e⟩
    simp only [if_true, Sem.run_bind, hg, Result.andThen_ok, h2, he, Sem.run_pure]

theorem compXs_rep (hf : Fr A n M L w H env O a) {xs : List Operand} {is : List IX} (hc : compXs xs = some is) : RepL M L (xs.map a.eval) (is.map fun x => (aval env x).unown) := by
  have := (hf.evals hc).map_unown
  rwa [List.map_map] at this

theorem compOpt_rep (hf : Fr A n M L w H env O a) {x : Option Operand} {i : Option IX} (hc : compOpt x = some i) : optRep M L (optX env i) (x.map a.eval) := by
  cases x with
  | none => simp [compOpt] at hc; subst hc; trivial
  | some x =>
    simp only [compOpt] at hc
    obtain ⟨j, hj, rfl⟩ := Option.map_eq_some_iff.1 hc
    exact hf.eval hj

theorem partsOk {e : TypeId} {esz : Nat} {z : AV} (h : compPartsOk P e = some (esz, z)) : tcells P e = some esz ∧ tzero P e = some z ∧ 0 < esz ∧ z.cells.length = esz ∧ z.val = true := by
  unfold compPartsOk at h
  split at h <;> try cases h
  rename_i h1 h2
  split at h <;> cases h
  rename_i hc
  exact ⟨h1, h2, hc⟩

theorem lenOk_str {x : AV} (h : lenOk 0 x) : lenFit .string x = true := by
  cases x <;> first | rfl | exact (show False from h).elim
theorem lenOk_slice {x : AV} (h : lenOk 1 x) (e : TypeId) : lenFit (.slice e) x = true := by
  cases x <;> first | rfl | exact (show False from h).elim
theorem lenOk_map {x : AV} (h : lenOk 2 x) (k e : TypeId) : lenFit (.map k e) x = true := by
  cases x <;> first | rfl | exact (show False from h).elim

theorem op_sound (o : Oper) {fl : Nat} {i : IOp} (hc : compOp P o fl = some i) (hf : Fr A n M L w H env O a) (hd : ∀ d, o.dst = some d → d < n) (hnone : (match o.op with | .store .. | .mapUpdate .. => o.dst = none | _ => True))
    (h : aop P i o.dst env H K) : o.wp P a w (Aft A n M L w K) Q := by
  cases hop : o.op with
  | move x =>
    simp only [compOp, hop] at hc
    obtain ⟨j, hj, rfl⟩ := Option.map_eq_some_iff.1 hc
    exact set_sound (.inl hop) hj hf hd h
  | assign x =>
    simp only [compOp, hop] at hc
    obtain ⟨j, hj, rfl⟩ := Option.map_eq_some_iff.1 hc
    exact set_sound (.inr hop) hj hf hd h
  | pick c x y =>
    simp only [compOp, hop] at hc
    split at hc <;> cases hc
    rename_i c' x' y' h1 h2 h3
    simp only [aop] at h
    obtain ⟨b, hb, h⟩ := boolP_inv h
    have hr := hf.eval h1
    rw [hb] at hr
    generalize hu : a.eval c = u at hr
    cases hr
    cases b
    · exact wp_pure hf hd (by simp [execOp, hop, hu, asBool]) (hf.eval h3).unown (AV.unown_free _) (h.2 rfl)
    · exact wp_pure hf hd (by simp [execOp, hop, hu, asBool]) (hf.eval h2).unown (AV.unown_free _) (h.1 rfl)
  | alloc e =>
    simp only [compOp, hop] at hc
    split at hc <;> try cases hc
    rename_i z hz
    split at hc <;> cases hc
    rename_i hv
    simp only [aop] at h
    obtain ⟨r, L', w', h1, h2, h3, h4, h5⟩ := aalloc_run (P := P) hf.st hz hv h.1
    exact wp_made hf hd (by simp only [execOp, hop]; exact value_of h1) h2 (by intro _ _ e; cases e) h3 h4 h5 h.2
  | box e x =>
    simp only [compOp, hop] at hc
    obtain ⟨j, hj, hc⟩ := Option.map_eq_some_iff.1 hc
    split at hc <;> subst hc <;> simp only [aop] at h
    · obtain ⟨r, M', w', h1, h2, h3, h4⟩ := aboxi_run (P := P) hf.st e (hf.eval hj) h.1
      exact wp_made hf hd (by simp only [execOp, hop]; exact value_of h1) h2 (by intro _ _ e; cases e) h3 h4 (List.prefix_refl L) h.2
    · obtain ⟨r, L', w', h1, h2, h3, h4, h5⟩ := abox_run (P := P) hf.st e (hf.eval hj) h.1 h.2.1
      exact wp_made hf hd (by simp only [execOp, hop]; exact value_of h1) h2 (by intro _ _ e; cases e) h3 h4 h5 h.2.2
  | build t ps =>
    simp only [compOp, hop] at hc
    split at hc <;> try cases hc
    rename_i z places ht
    split at hc <;> try cases hc
    rename_i qs hq
    split at hc <;> cases hc
    rename_i hv
    simp only [aop] at h
    obtain ⟨r, x, h1, h2, h3, h4⟩ := abuild_run (P := P) hf ht hq h hv
    exact wp_pure hf hd (by simp only [execOp, hop]; exact value_of h1) h2 h4 h3
  | buildSlice t len ps =>
    simp only [compOp, hop] at hc
    split at hc <;> try cases hc
    rename_i e ht
    split at hc <;> try cases hc
    rename_i esz z qs hz hq
    split at hc <;> cases hc
    rename_i hlen
    simp only [aop] at h
    obtain ⟨p1, p2, p3, p4, p5⟩ := partsOk hz
    obtain ⟨q1, q2⟩ := compParts1_spec hf _ _ hq
    obtain ⟨m, xs, M', w', ad, h1, h2, h3, h4, h5, h6⟩ := abuildSlice_run (P := P) hf.st ht p1 p3 p2 p4 p5 (if fl = 1 then esz else 0) hlen (vs := ps.map fun (i, x) => (i, a.eval x)) (by
      intro j p hp
      obtain ⟨v, v1, v2⟩ := q1 j p hp
      exact ⟨v, by simpa using v1, v2⟩) (by simp [q2]) h
    obtain ⟨O', hf'⟩ := (hf.mono h5).putFull (dst := o.dst) hd h2 (fun hne y hy => by
      split at hne
      · rename_i hfl; rw [if_pos hfl]; exact h3 y hy
      · exact absurd rfl hne)
    exact wp_value (by simp only [execOp, hop]; exact value_of h1) ⟨M', L, H, _, O', h4, hf', h6, List.prefix_refl L⟩
  | load t x =>
    simp only [compOp, hop] at hc
    split at hc <;> try cases hc
    rename_i sz j ht hj
    split at hc
    · split at hc <;> cases hc
      rename_i hs
      subst hs
      exact takeCell_sound hop ht hj hf hd h
    · cases hc
      simp only [aop] at h
      obtain ⟨r, z, h1, h2, h3, h4⟩ := aload_run (P := P) ht hf.st h (hf.eval hj)
      exact wp_read hf hd ⟨r, z, by simp only [execOp, hop]; exact value_of h1, h2, h3, h4⟩
  | store t x y =>
    simp only [hop] at hnone
    simp only [compOp, hop] at hc
    split at hc <;> try cases hc
    rename_i m j k ht hj hk
    split at hc
    · split at hc <;> try cases hc
      rename_i s
      split at hc <;> cases hc
      rename_i hm
      subst hm
      exact putCell_sound hop ht hj hk hf hnone h
    · cases hc
      simp only [aop] at h
      obtain ⟨w', H', O', h1, h2, h3, h4⟩ := astore_run (P := P) hf.st ht h (hf.eval hj) (hf.eval hk)
      refine wp_skipped (by simp only [execOp, hop]; exact skip_of h1) ⟨M, L, H', env, O', h2, ?_, h4, List.prefix_refl L⟩
      rw [hnone]; exact ⟨h3, hf.size, hf.defers⟩
  | nilCheck x =>
    simp only [compOp, hop] at hc
    obtain ⟨j, hj, rfl⟩ := Option.map_eq_some_iff.1 hc
    simp only [aop] at h
    exact wp_read hf hd (anilCheck_run hop h (hf.eval hj))
  | binOp op t x y yt =>
    simp only [compOp, hop] at hc
    split at hc <;> try cases hc
    rename_i j k hj hk
    have hx := hf.eval hj
    have hy := hf.eval hk
    have plain : ∀ {op}, abin op (aval env j) (aval env k) (fun z => K (put o.dst z env) H) → o.op = .binOp op t x y yt → o.wp P a w (Aft A n M L w K) Q := by
      intro op h hop
      obtain ⟨r, z, h1, h2, h3, h4⟩ := abin_run (P := P) (w := w) (t := t) h hx hy x y
      exact wp_read hf hd ⟨r, z, by simp only [execOp, hop]; exact value_of h1, h2, h3, h4⟩
    split at hc
    · cases hc
      simp only [aop] at h
      obtain ⟨r, z, h1, h2, h3, h4⟩ := ashift_run (P := P) (w := w) (t := t) h hx hy x y
      exact wp_read hf hd ⟨r, z, by simp only [execOp, hop]; exact value_of h1, h2, h3, h4⟩
    · cases hc
      simp only [aop] at h
      obtain ⟨r, z, h1, h2, h3, h4⟩ := ashift_run (P := P) (w := w) (t := t) h hx hy x y
      exact wp_read hf hd ⟨r, z, by simp only [execOp, hop]; exact value_of h1, h2, h3, h4⟩
    · split at hc <;> try cases hc
      · rename_i ht
        simp only [aop] at h
        obtain ⟨r, z, h1, h2, h3, h4⟩ := aeqBool_run (P := P) (w := w) (neq := false) ht h hx hy x y
        exact wp_read hf hd ⟨r, z, by simp only [execOp, hop]; exact value_of h1, h2, h3, h4⟩
      · exact plain (op := .eql) h hop
      · exact plain (op := .eql) h hop
      all_goals
        rename_i ht
        split at hc <;> cases hc
        simp only [aop] at h
        obtain ⟨r, z, h1, h2, h3, h4⟩ := aeqNil_run (P := P) (w := w) (neq := false) ht rfl h hx x (.const .nilFunc)
        exact wp_read hf hd ⟨r, z, by simp only [execOp, hop]; exact value_of h1, h2, h3, h4⟩
    · split at hc <;> try cases hc
      · rename_i ht
        simp only [aop] at h
        obtain ⟨r, z, h1, h2, h3, h4⟩ := aeqBool_run (P := P) (w := w) (neq := true) ht h hx hy x y
        exact wp_read hf hd ⟨r, z, by simp only [execOp, hop]; exact value_of h1, h2, h3, h4⟩
      · exact plain (op := .neq) h hop
      · exact plain (op := .neq) h hop
      all_goals
        rename_i ht
        split at hc <;> cases hc
        simp only [aop] at h
        obtain ⟨r, z, h1, h2, h3, h4⟩ := aeqNil_run (P := P) (w := w) (neq := true) ht rfl h hx x (.const .nilFunc)
        exact wp_read hf hd ⟨r, z, by simp only [execOp, hop]; exact value_of h1, h2, h3, h4⟩
    · cases hc; exact plain h hop
  | unOp op t x =>
    simp only [compOp, hop] at hc
    obtain ⟨j, hj, rfl⟩ := Option.map_eq_some_iff.1 hc
    simp only [aop] at h
    obtain ⟨r, z, h1, h2, h3, h4⟩ := aun_run (P := P) (w := w) h (hf.eval hj)
    exact wp_read hf hd ⟨r, z, by simp only [execOp, hop]; exact value_of h1, h2, h3, h4⟩
  | convert src dst x =>
    simp only [compOp, hop] at hc
    split at hc <;> try cases hc
    · rename_i k1 k2 j hs hdd hj
      simp only [aop] at h
      obtain ⟨r, z, h1, h2, h3, h4⟩ := aconvInt_run (P := P) (w := w) hs hdd h (hf.eval hj)
      exact wp_read hf hd ⟨r, z, by simp only [execOp, hop]; exact value_of h1, h2, h3, h4⟩
    · rename_i j hs hdd hj
      simp only [aop] at h
      obtain ⟨r, z, h1, h2, h3, h4⟩ := aconvStr_run (P := P) (w := w) hs hdd h (hf.eval hj)
      exact wp_read hf hd ⟨r, z, by simp only [execOp, hop]; exact value_of h1, h2, h3, h4⟩
    · rename_i e j hs hdd hj
      split at hc <;> cases hc
      rename_i he
      simp only [aop] at h
      obtain ⟨r, z, w', M', ob, h1, h2, h3, h4, h5, h6, h7, h8⟩ := abytesOf_run (P := P) hf.st hs hdd he h (hf.eval hj)
      exact wp_owned hf hd (by simp only [execOp, hop]; exact value_of h1) h2 h4 h5 h6 h7 h8 h3
    · rename_i e j hs hdd hj
      split at hc <;> cases hc
      rename_i he
      simp only [aop] at h
      obtain ⟨r, z, h1, h2, h3, h4⟩ := astrOf_run (P := P) hf.st hs he hdd h (hf.eval hj)
      exact wp_read hf hd ⟨r, z, by simp only [execOp, hop]; exact value_of h1, h2, h3, h4⟩
  | makeFunc f first cap =>
    simp only [compOp, hop] at hc
    split at hc <;> cases hc
    rename_i i j hi hj
    simp only [aop] at h
    refine wp_read hf hd ⟨.func f (first.map a.eval) (cap.map a.eval), _, ?_, ?_, h, by intro _ _ e; cases e⟩
    · simp only [execOp, hop]; rfl
    · have := Rep.fn (M := M) (L := L) f (first.toList.map a.eval) (cap.toList.map a.eval) _ _ (compXs_rep hf hi) (compXs_rep hf hj)
      rw [show (first.toList.map a.eval).toArray = first.map a.eval by apply Array.ext'; simp, show (cap.toList.map a.eval).toArray = cap.map a.eval by apply Array.ext'; simp] at this
      exact this
  | makeMap t r =>
    cases r with
    | some r => simp [compOp, hop] at hc
    | none =>
      simp only [compOp, hop] at hc
      cases hc
      simp only [aop] at h
      obtain ⟨r, L', w', h1, h2, h3, h4, h5⟩ := amkmap_run (P := P) hf.st t
      exact wp_made hf hd (by simp only [execOp, hop]; exact value_of h1) h2 (by intro _ _ e; cases e) h3 h4 h5 h
  | makeSlice t l c =>
    simp only [compOp, hop] at hc
    split at hc <;> try cases hc
    rename_i e k ht hk
    split at hc <;> try cases hc
    rename_i esz z bytes hz hb
    split at hc <;> try cases hc
    rename_i hcond
    obtain ⟨hb0, hokz⟩ := hcond
    obtain ⟨p1, p2, p3, p4, p5⟩ := partsOk hz
    obtain ⟨inf, hinf, hsz⟩ := Option.map_eq_some_iff.1 p1
    obtain ⟨inf', hinf', hby⟩ := Option.map_eq_some_iff.1 hb
    rw [hinf] at hinf'; cases hinf'
    unfold tzero at p2
    simp only [hinf] at p2
    split at p2 <;> try cases p2
    rename_i zv hzv
    split at hc
    · cases hc
      simp only [aop] at h
      have hzs : zv.cells.size = esz := by have := ((ofValue_rep (M := M) (L := L) p2).vcells p5).length; rw [p4] at this; simpa using this
      obtain ⟨r, w', M', b, h1, h2, h3, h4, h5, h6, h7, h8, h9, h10⟩ := amkbuf_run (P := P) hf.st ht hinf hzv hsz hby p3 hb0 hzs h (hf.eval hk)
      exact wp_owned hf hd (by simp only [execOp, hop]; exact value_of h1) h2 h4 h5 h6 (fun q b' hb' => by cases hb'; exact h7 q) (fun b' hb' => by cases hb'; exact ⟨h8, h9, h10⟩) h3
    · split at hc <;> cases hc
      rename_i hsame
      simp only [aop] at h
      have hlc : a.eval l = a.eval c := by
        unfold sameOp at hsame
        split at hsame
        · simp at hsame; subst hsame; rfl
        · simp at hsame; subst hsame; rfl
        · cases hsame
      have hzf : ∀ y ∈ z.cells, ∀ own xs, y = .lst own xs → own = 0 := by
        intro y hy own xs e
        have := List.all_eq_true.1 hokz y hy
        subst e
        simpa using this
      obtain ⟨r, x, L', w', H', h1, h2, h3, h4, h5, h6, h7⟩ := amkarr_run (P := P) hf.st ht hinf hzv hsz hby p3 hb0 p2 p5 p4 hzf h (hf.eval hk)
      exact wp_made hf hd (by simp only [execOp, hop, hlc]; exact value_of h1) h2 h3 h5 h6 h7 h4
  | slice t x lo hi mx =>
    simp only [compOp, hop] at hc
    split at hc <;> try cases hc
    · rename_i e i l h' m ht hi' hl hh hm
      split at hc <;> try cases hc
      rename_i esz he
      split at hc <;> cases hc
      rename_i h0
      simp only [aop] at h
      unfold asliceX at h
      split at h
      · have hmx : mx = none := by
          cases mx with
          | none => rfl
          | some q => simp only [compOpt] at hm; obtain ⟨_, _, rfl⟩ := Option.map_eq_some_iff.1 hm; cases h.1
        subst hmx
        obtain ⟨r, z, h1, h2, h3, h4⟩ := aslicea_run (P := P) ht he h.2 (hf.eval hi') (compOpt_rep hf hl) (compOpt_rep hf hh)
        exact wp_read hf hd ⟨r, z, by simp only [execOp, hop]; exact value_of h1, h2, h3, h4⟩
      obtain ⟨ad, k, c, own, ys, h1, h2, h3, h4⟩ := aslice_run (P := P) hf.st ht he h0 h.2 (hf.eval hi') h.1 (compOpt_rep hf hl) (compOpt_rep hf hh) (compOpt_rep hf hm)
      by_cases hown : own = 0
      · subst hown
        exact wp_read hf hd ⟨_, _, by simp only [execOp, hop]; exact value_of h1, h2, h3, by intro _ _ e; cases e; rfl⟩
      · obtain ⟨rfl, h5⟩ := h4 hown
        obtain ⟨O', hf'⟩ := hf.putFull (dst := o.dst) hd h2 (fun _ => h5)
        exact wp_value (by simp only [execOp, hop]; exact value_of h1) ⟨M, L, H, _, O', h3, hf', Ext.refl A M w, List.prefix_refl L⟩
    · rename_i i l h' ht hi' hl hh hm
      simp only [aop] at h
      have hmx : mx = none := by
        cases mx with
        | none => rfl
        | some q => simp only [compOpt] at hm; obtain ⟨_, _, hz⟩ := Option.map_eq_some_iff.1 hm; cases hz
      subst hmx
      obtain ⟨r, z, h1, h2, h3, h4⟩ := asliceStr_run (P := P) (w := w) ht h (hf.eval hi') (compOpt_rep hf hl) (compOpt_rep hf hh)
      exact wp_read hf hd ⟨r, z, by simp only [execOp, hop]; exact value_of h1, h2, h3, h4⟩
  | fieldAddr s x f =>
    simp only [compOp, hop] at hc
    split at hc <;> cases hc
    rename_i off sz j ht hj
    simp only [aop] at h
    obtain ⟨r, z, h1, h2, h3, h4⟩ := afieldAddr_run (P := P) (w := w) ht h (hf.eval hj)
    exact wp_read hf hd ⟨r, z, by simp only [execOp, hop]; exact value_of h1, h2, h3, h4⟩
  | field s x f =>
    simp only [compOp, hop] at hc
    split at hc <;> cases hc
    rename_i off sz j ht hj
    simp only [aop] at h
    obtain ⟨r, z, h1, h2, h3, h4⟩ := afield_run (P := P) (w := w) ht h (hf.eval hj)
    exact wp_read hf hd ⟨r, z, by simp only [execOp, hop]; exact value_of h1, h2, h3, h4⟩
  | indexAddr t x i =>
    simp only [compOp, hop] at hc
    split at hc <;> try cases hc
    rename_i e j k ht hj hk
    obtain ⟨esz, he, rfl⟩ := Option.map_eq_some_iff.1 hc
    simp only [aop] at h
    obtain ⟨r, z, h1, h2, h3, h4⟩ := aindexAddr_run (P := P) (w := w) ht he h.2 h.1 (hf.eval hj) (hf.eval hk)
    exact wp_read hf hd ⟨r, z, by simp only [execOp, hop]; exact value_of h1, h2, h3, h4⟩
  | index t x i =>
    simp only [compOp, hop] at hc
    split at hc <;> cases hc
    rename_i j k ht hj hk
    simp only [aop] at h
    obtain ⟨r, z, h1, h2, h3, h4⟩ := aindexStr_run (P := P) (w := w) ht h (hf.eval hj) (hf.eval hk)
    exact wp_read hf hd ⟨r, z, by simp only [execOp, hop]; exact value_of h1, h2, h3, h4⟩
  | lookup t m k ok =>
    simp only [compOp, hop] at hc
    split at hc <;> try cases hc
    rename_i kt et i j ht hi hj
    split at hc <;> cases hc
    rename_i kd z hk hz
    simp only [aop] at h
    obtain ⟨r, z, h1, h2, h3, h4⟩ := alookup_run (P := P) hf.st ht hk hz h (hf.eval hi) (hf.eval hj)
    exact wp_read hf hd ⟨r, z, by simp only [execOp, hop]; exact value_of h1, h2, h3, h4⟩
  | mapUpdate t m k x =>
    simp only [hop] at hnone
    simp only [compOp, hop] at hc
    split at hc <;> try cases hc
    rename_i kt et i j y ht hi hj hy
    obtain ⟨kd, hk, rfl⟩ := Option.map_eq_some_iff.1 hc
    simp only [aop] at h
    obtain ⟨w', H', h1, h2, h3, h4⟩ := amapset_run (P := P) hf.st ht hk h (hf.eval hi) (hf.eval hj) (hf.eval hy)
    refine wp_skipped (by simp only [execOp, hop]; exact skip_of h1) ⟨M, L, H', env, O, h2, ?_, h4, List.prefix_refl L⟩
    rw [hnone]; exact ⟨h3, hf.size, hf.defers⟩
  | extract x i =>
    simp only [compOp, hop] at hc
    obtain ⟨j, hj, rfl⟩ := Option.map_eq_some_iff.1 hc
    simp only [aop] at h
    obtain ⟨r, z, h1, h2, h3, h4⟩ := aextract_run (P := P) (w := w) h (hf.eval hj)
    exact wp_read hf hd ⟨r, z, by simp only [execOp, hop]; exact value_of h1, h2, h3, h4⟩
  | call c =>
    simp only [compOp, hop] at hc
    split at hc
    · rename_i f hcal
      split at hc <;> cases hc
      rename_i i js hi hj
      exact call_sound hop hcal hi hj hf hd h
    · rename_i hcal
      split at hc <;> try cases hc
      rename_i x t hargs htys
      have hcall : c = { callee := .builtin .len, args := #[x], argTypes := #[t] } := by
        obtain ⟨c1, c2, c3⟩ := c
        simp only at hcal hargs htys
        subst hcal
        rw [show c2 = #[x] from Array.ext' hargs, show c3 = #[t] from Array.ext' htys]
      subst hcall
      have fin : ∀ {d : TypeDesc} {kd : Nat} {j : IX}, P.underlying t = some d → compX x = some j → lenFit d (aval env j) = true → (alen (aval env j) H fun z => K (put o.dst z env) H) → o.wp P a w (Aft A n M L w K) Q := by
        intro d kd j ht hj hk h
        obtain ⟨r, z, h1, h2, h3, h4⟩ := alen_run (P := P) ht hf.st hk h (hf.eval hj) o.type
        refine wp_read hf hd ⟨r, z, ?_, h2, h3, h4⟩
        simp only [execOp, hop, resolve, invoke, builtin, Sem.run_bind, Sem.run_pure, Result.andThen_ok, List.map_toArray, List.map_cons, List.map_nil, h1]
      split at hc <;> cases hc
      · rename_i j ht hj; exact fin (kd := 0) ht hj (lenOk_str h.1) h.2
      · rename_i e j ht hj; exact fin (kd := 0) ht hj (lenOk_slice h.1 e) h.2
      · rename_i k e j ht hj; exact fin (kd := 0) ht hj (lenOk_map h.1 k e) h.2
    · rename_i hcal
      split at hc <;> try cases hc
      rename_i s x t t' hargs htys
      split at hc <;> try cases hc
      rename_i htt
      subst htt
      split at hc <;> try cases hc
      rename_i e i j ht hi hj
      split at hc <;> try cases hc
      rename_i esz z bytes hz hb
      split at hc <;> cases hc
      rename_i hb0
      have hcall : c = { callee := .builtin .append, args := #[s, x], argTypes := #[t, t] } := by
        obtain ⟨c1, c2, c3⟩ := c
        simp only at hcal hargs htys
        subst hcal
        rw [show c2 = #[s, x] from Array.ext' hargs, show c3 = #[t, t] from Array.ext' htys]
      subst hcall
      exact append_sound hop ht hz hb hb0 hi hj hf hd h
    · rename_i hcal
      split at hc <;> try cases hc
      rename_i x y hargs
      split at hc <;> cases hc
      rename_i i j hi hj
      simp only [aop] at h
      obtain ⟨r, z, h1, h2, h3, h4⟩ := amx_run (P := P) (w := w) (big := true) h (hf.eval hi) (hf.eval hj) c.argTypes o.type
      refine wp_read hf hd ⟨r, z, ?_, h2, h3, h4⟩
      have hargs' : c.args = #[x, y] := Array.ext' hargs
      simp only [if_true] at h1
      simp only [execOp, hop, resolve, hcal, invoke, builtin, Sem.run_bind, Sem.run_pure, Result.andThen_ok, hargs', List.map_toArray, List.map_cons, List.map_nil, h1]
    · rename_i hcal
      split at hc <;> try cases hc
      rename_i x y hargs
      split at hc <;> cases hc
      rename_i i j hi hj
      simp only [aop] at h
      obtain ⟨r, z, h1, h2, h3, h4⟩ := amx_run (P := P) (w := w) (big := false) h (hf.eval hi) (hf.eval hj) c.argTypes o.type
      refine wp_read hf hd ⟨r, z, ?_, h2, h3, h4⟩
      have hargs' : c.args = #[x, y] := Array.ext' hargs
      simp only [Bool.false_eq_true, if_false] at h1
      simp only [execOp, hop, resolve, hcal, invoke, builtin, Sem.run_bind, Sem.run_pure, Result.andThen_ok, hargs', List.map_toArray, List.map_cons, List.map_nil, h1]
    · cases hc
  | _ => simp [compOp, hop] at hc

theorem more_sound (o : Oper) (hf : Fr A n M L w H env O a) (hd : ∀ d, o.dst = some d → d < n) (h : aop P (compMore P o) o.dst env H K) : o.wp P a w (Aft A n M L w K) Q := by
  cases hop : o.op with
  | call c =>
    simp only [compMore, hop] at h
    split at h <;> try exact h.elim
    rename_i hcal
    split at h <;> try exact h.elim
    rename_i s x t t' hargs htys
    split at h <;> try exact h.elim
    rename_i e i j ht hi hj
    split at h <;> try exact h.elim
    rename_i esz he
    simp only [aop] at h
    obtain ⟨r, z, w', H', O', h1, h2, h3, h4, h5, h6⟩ := acopy_run (P := P) hf.st ht he h (hf.eval hi) (hf.eval hj) t' o.type
    obtain ⟨O'', hf'⟩ := (hf.mono h4).put0 (dst := o.dst) hd h2 h6
    have hargs' : c.args = #[s, x] := Array.ext' hargs
    have htys' : c.argTypes = #[t, t'] := Array.ext' htys
    refine wp_value (v := r) ?_ ⟨M, L, H', _, O'', h3, hf', h5, List.prefix_refl L⟩
    simp only [execOp, hop, resolve, hcal, invoke, builtin, Sem.run_bind, Sem.run_pure, Result.andThen_ok, hargs', htys', List.map_toArray, List.map_cons, List.map_nil, h1]
  | _ => simp only [compMore, hop] at h; exact h.elim

theorem setf_sound (o : Oper) (hf : Fr A n M L w H env O a) (hd : ∀ d, o.dst = some d → d < n) (h : aop P (compSetf P o) o.dst env H K) : o.wp P a w (Aft A n M L w K) Q := by
  have key : ∀ {x : Operand}, (o.op = .move x ∨ o.op = .assign x) → ∀ {i : IX} {esz : Nat}, compX x = some i → (asetf esz (aval env i) H fun z H' => K (put o.dst z env) H') → o.wp P a w (Aft A n M L w K) Q := by
    intro x ho i esz hi h
    obtain ⟨z, M', H', O', h1, h2, h3, h4, h5⟩ := asetf_run hf.st h (hf.eval hi)
    have hrun : (execOp a.eval o).run P w = .ok (.value (a.eval x)) w := by
      rcases ho with ho | ho <;> simp [execOp, ho]
    obtain ⟨O'', hf'⟩ := (hf.mono h3).put0 (dst := o.dst) hd h1 h5
    exact wp_value hrun ⟨M', L, H', _, O'', h2, hf', h4, List.prefix_refl L⟩
  cases hop : o.op with
  | move x =>
    simp only [compSetf, hop] at h
    split at h <;> try exact h.elim
    rename_i hi ht
    split at h <;> try exact h.elim
    exact key (.inl hop) hi h
  | assign x =>
    simp only [compSetf, hop] at h
    split at h <;> try exact h.elim
    rename_i hi ht
    split at h <;> try exact h.elim
    exact key (.inr hop) hi h
  | _ => simp only [compSetf, hop] at h; exact h.elim

theorem comp1_sound (o : Oper) {fl : Nat} (hf : Fr A n M L w H env O a) (hd : ∀ d, o.dst = some d → d < n) (hnone : (match o.op with | .store .. | .mapUpdate .. => o.dst = none | _ => True))
    (h : aop P (comp1 P o fl) o.dst env H K) : o.wp P a w (Aft A n M L w K) Q := by
  unfold comp1 at h
  split at h
  · exact setf_sound o hf hd h
  cases hc : compOp P o fl with
  | none => rw [hc] at h; exact more_sound o hf hd h
  | some i => rw [hc] at h; exact op_sound o hc hf hd hnone h
end
end Go.Abs
