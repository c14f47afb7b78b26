/- A term with terms of the sorts of its variables put in has the sort that it had. -/
import Derived.Test.YtcfmgncmkbiknaaRows
import Derived.Test.YtcfmgncmkbiknaaY04x6
import Derived.Test.YtcfmgncmkbiknaaY04z
import Derived.ProofKit
import Derived.OpenShut
import Derived.JoinedCond
set_option maxRecDepth 100000
namespace Go.Proofs.Ytcfmgncmkbiknaa
open Go Go.Abs Go.ChangeShapes Go.WideShapes Go.ChangeAt Go.RowKit

theorem Try.own : ownKnob Try.prog.godebug = none := by kernel_rfl
theorem Try.laidOut : laidOutB Try.prog = true := by kernel_rfl
theorem treeTy : TreeTy Try.prog 3 24 22 := ⟨Try.underlying3, ⟨_, _, _, Try.underlying24, rfl, rfl, rfl, rfl, rfl, rfl⟩, Try.underlying22, by kernel_rfl, by kernel_rfl, by kernel_rfl⟩

theorem sigTy : SigTy Try.prog 3 9 45 41 98 42 44 := ⟨Try.underlying3, Try.underlying9, Try.underlying45, Try.underlying41, ⟨_, _, _, Try.underlying98, rfl, rfl, rfl, rfl, rfl, rfl⟩, Try.underlying42, ⟨_, _, Try.underlying44, rfl, rfl, rfl, rfl⟩, by kernel_rfl, by kernel_rfl, by kernel_rfl, by kernel_rfl, by kernel_rfl, by kernel_rfl, by kernel_rfl⟩
theorem overTy : OverTy Try.prog 9 45 44 22 47 := ⟨⟨_, _, _, _, _, Try.underlying47, ⟨rfl, rfl⟩, ⟨rfl, rfl⟩, ⟨rfl, rfl⟩, ⟨rfl, rfl⟩, ⟨rfl, rfl⟩⟩, by kernel_rfl⟩
theorem bulk_one {H : Type} (d : DataW H) : 1 ≤ Rows.uptoBulk d := by
  cases d with
  | lit l => cases l <;> simp [Rows.uptoBulk]
  | nil => simp [Rows.uptoBulk]
  | ptr d => simp [Rows.uptoBulk]
  | slice elems spare => simp [Rows.uptoBulk]
  | agg parts => simp [Rows.uptoBulk]
  | iface t d => simp [Rows.uptoBulk]
  | map entries => simp [Rows.uptoBulk]
  | held h => simp [Rows.uptoBulk]
theorem bulk_len {H : Type} : ∀ l : List (DataW H), l.length ≤ Rows.uptoBulkAll l
  | [] => by simp [Rows.uptoBulkAll]
  | x :: r => by have := bulk_one x; have := bulk_len r; simp only [Rows.uptoBulkAll, List.length_cons]; omega
theorem bulk_mem {H : Type} {d : DataW H} : ∀ {l : List (DataW H)}, d ∈ l → Rows.uptoBulk d ≤ Rows.uptoBulkAll l
  | [], h => by cases h
  | x :: r, h => by
    simp only [Rows.uptoBulkAll]
    rcases List.mem_cons.1 h with rfl | h
    · omega
    · have := bulk_mem h; omega
theorem bulk_ts {H : Type} {ds : List (DataW H)} (hk : Rows.uptoSmall H ds = true) {d : DataW H} (hd : d ∈ ds) {l : List T} (h : tsLen d l) : l.length ≤ 1048576 := by
  have hb : Rows.uptoBulkAll ds ≤ 1048576 := of_decide_eq_true hk
  have h1 := bulk_mem hd
  unfold tsLen at h
  split at h
  · rename_i es sp
    have h2 := bulk_len es
    simp only [Rows.uptoBulk] at h1
    omega
  · subst h; simp

theorem bulk_ov {H : Type} {ds : List (DataW H)} (hk : Rows.uptoSmall H ds = true) {d : DataW H} (hd : d ∈ ds) {o : Ov} (h : ovR d o) : o.l.length ≤ 1048576 := by
  obtain ⟨parts, rfl, d', hd', hl⟩ := h
  have hb : Rows.uptoBulkAll ds ≤ 1048576 := of_decide_eq_true hk
  have h1 := bulk_mem hd
  have h2 := bulk_mem hd'
  simp only [Rows.uptoBulk] at h1
  unfold tsLen at hl
  split at hl
  · rename_i es sp
    have h3 := bulk_len es
    simp only [Rows.uptoBulk] at h2
    omega
  · rw [hl]; simp

theorem sigPutSorts_lifted (os : Os) (started : os.Started) (H : Type) (enc : TypeId × Value → H) (F : Stop.Interp) :
    ReturnsInHanded {} Try.checked os 6 .any ((Rows.OpenSpec.upto Rows.sigPutSortsSpec).pre6 enc Try.prog Try.f6 Rows.sigPutSortsUptoRow.domain false) (((Rows.OpenSpec.upto Rows.sigPutSortsSpec).at F).post enc Try.prog Try.f6 false true false false) := by
  refine returnsInHanded_of_cond (C := Try.checked) (s := Rows.OpenSpec.upto Rows.sigPutSortsSpec) (k := Rows.uptoSmall) rfl Try.own started (by kernel_rfl) Try.func6
    (OpenSpec.witness (enc := enc) (C := Try.checked) (s := Rows.OpenSpec.upto Rows.sigPutSortsSpec) (k := Rows.uptoSmall) rfl false ⟨#[], #[.agg #[.slice none 0 0, .slice none 0 0, .slice none 0 0, .slice none 0 0, .slice none 0 0, .string ⟨#[]⟩], .slice none 0 0], []⟩ 8 (by kernel_rfl) (by kernel_rfl) (by kernel_rfl)
      (x := ([.agg [.agg [.nil, .nil], .nil, .nil, .nil, .lit (.string [])], .nil], [], [])) (by kernel_rfl) rfl (by kernel_rfl)) ?_
  intro W base args ds gs before hval0 hW _ hk0 _
  have hval : ∀ (j : Nat) t v, Try.f6.params[j]? = some t → args[j]? = some v → Value.okWide Try.prog W .any base t v := hval0
  have hW' := hW
  obtain ⟨p, q, hA0, hV, rfl, hfz, hnd⟩ := hW
  have hA : DataW.TrodAll enc Try.prog W 0 (fun _ => true) true Try.f6.params.toList args.toList ds p := hA0
  rw [Try.params6] at hA hval
  obtain ⟨v0, v1, d0, d1, p0, p1, rfl, rfl, rfl, h0, h1⟩ := trodAll_two hA
  obtain ⟨rfl, rfl⟩ := trodVars_none hV
  have hk := hk0
  simp only [List.append_nil] at hk
  obtain ⟨x0, r0x, l0x⟩ := open_Ov sigTy treeTy overTy (hval 0 47 v0 rfl rfl) h0
  have k0x : x0.l.length ≤ 1048576 := bulk_ov hk (d := d0) (by simp) l0x
  obtain ⟨x1, r1x, l1x, w1x⟩ := open_Ts treeTy (hval 1 22 v1 rfl rfl) h1
  have k1x : x1.length ≤ 1048576 := bulk_ts hk (d := d1) (by simp) l1x
  refine ((c6 x0 x1 k0x k1x).lift Try.call6 (w := W) (vs := #[v0, v1]) (.cons _ _ _ _ r0x (.cons _ _ _ _ r1x .nil)) ?_).mono ?_
  · intro x hx own ys e
    simp only [List.mem_cons, List.not_mem_nil, or_false] at hx
    rcases hx with rfl | rfl <;> first | (cases e; done) | (cases e; rfl)
  · rintro e W' ⟨rfl, hb⟩
    exact ⟨_, rfl, post_law (t := 4) Try.laidOut hb hW' rfl rfl Try.underlying4 rfl (by kernel_rfl)⟩

theorem sigPutSorts_holds : Rows.SigPutSortsUptoSaid :=
  OpenClaim.holds_of_cond 6 Try.f6 rfl rfl rfl rfl rfl rfl rfl ⟨rfl, rfl, rfl, rfl, rfl⟩ rfl rfl rfl rfl rfl (by kernel_rfl) Try.func6 (by kernel_rfl)
    (of_decide_eq_true (by kernel_rfl)) (by unfold Func.isWrapper; first | (rw [if_pos (by decide +kernel)]; kernel_rfl) | (rw [if_neg (by decide +kernel)]; exact ⟨rfl, rfl⟩))
    (fun os started H enc _ F => sigPutSorts_lifted os started H enc F)
end Go.Proofs.Ytcfmgncmkbiknaa
