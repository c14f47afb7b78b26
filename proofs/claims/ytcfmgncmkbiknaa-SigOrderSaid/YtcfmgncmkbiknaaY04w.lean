/- A part of the proof; its place is told by its neighbours. -/
import Derived.Test.YtcfmgncmkbiknaaY04v
set_option maxRecDepth 100000
set_option linter.unusedSimpArgs false
namespace Go.Abs
open Go Go.Proofs
mutual
def lookT : T → Int → Int → Bool × Int
  | .mk _ _ l, deep, left => if left - 1 < 0 ∨ 1000 < deep then (false, left - 1) else looks l (deep + 1) (left - 1)
def looks : List T → Int → Int → Bool × Int
  | [], _, left => (true, left)
  | x :: r, deep, left => if (lookT x deep left).1 = true then looks r deep (lookT x deep left).2 else (false, (lookT x deep left).2)
end
def fewL (l : List T) : Bool := (looks l 1 6000).1
mutual
theorem lookT_le : ∀ (x : T) (deep left : Int), (lookT x deep left).2 ≤ left ∧ (0 ≤ left → -1 ≤ (lookT x deep left).2 ∧ ((lookT x deep left).1 = true → 0 ≤ (lookT x deep left).2))
  | .mk k n l, deep, left => by
    simp only [lookT]
    split
    · simp; omega
    · rename_i hn
      have := looks_le l (deep + 1) (left - 1)
      exact ⟨by omega, fun _ => this.2 (by omega)⟩
theorem looks_le : ∀ (l : List T) (deep left : Int), (looks l deep left).2 ≤ left ∧ (0 ≤ left → -1 ≤ (looks l deep left).2 ∧ ((looks l deep left).1 = true → 0 ≤ (looks l deep left).2))
  | [], deep, left => by simp [looks]; omega
  | x :: r, deep, left => by
    have h1 := lookT_le x deep left
    simp only [looks]
    split
    · rename_i hb
      have h2 := looks_le r deep (lookT x deep left).2
      exact ⟨by omega, fun h0 => h2.2 ((h1.2 h0).2 hb)⟩
    · exact ⟨h1.1, fun h0 => ⟨(h1.2 h0).1, fun e => by cases e⟩⟩
end
theorem looks_drop {l : List T} {i : Nat} {d left : Int} (h : i < l.length) : looks (l.drop i) d left = if (lookT (l.getD i default) d left).1 = true then looks (l.drop (i + 1)) d (lookT (l.getD i default) d left).2 else (false, (lookT (l.getD i default) d left).2) := by
  rw [List.drop_eq_getElem_cons h]
  simp [looks, h]

def fewObjs (n : Nat) (left : Int) : List AObj := [.cells [.int .i64 left], .cells [.fn (.func 49) [] [.ptr n 0, .ptr (n + 1) 0]]]
theorem c49 (H : List AObj) (x : T) (deep left : Int) (h0 : 0 ≤ left) (h1 : left ≤ 6000) (h2 : 0 ≤ deep) (h3 : deep ≤ 1001) :
    ACalls Try.prog 49 [x.av, .int .i64 deep, .ptr H.length 0, .ptr (H.length + 1) 0] (H ++ fewObjs H.length left) fun r H' => r = .bool (lookT x deep left).1 ∧ H' = H ++ fewObjs H.length (lookT x deep left).2 := by
  have ih : ∀ y ∈ x.l, ∀ (deep left : Int), 0 ≤ left → left ≤ 6000 → 0 ≤ deep → deep ≤ 1001 →
    ACalls Try.prog 49 [y.av, .int .i64 deep, .ptr H.length 0, .ptr (H.length + 1) 0] (H ++ fewObjs H.length left) fun r H' => r = .bool (lookT y deep left).1 ∧ H' = H ++ fewObjs H.length (lookT y deep left).2 :=
      fun y hy deep left h0 h1 h2 h3 => c49 H y deep left h0 h1 h2 h3
  have e : lookT x deep left = if left - 1 < 0 ∨ 1000 < deep then (false, left - 1) else looks x.l (deep + 1) (left - 1) := by cases x; simp only [lookT, T.l]
  refine ok49.calls (by simp [fi49]) ?_
  simp only [fi49, ir49]
  simp only [fewObjs, nrm_eq, swp_skip, swp_region, swp_draw, swp_seq, swp_cond, swp_block, swp_exit, swp_ret, aops_nil, aops_n, aops_g, agd_n, agd_g, adtS_done, adtS_nil, adtS_n, adtS_g, adtS_br, put_none, put_some, gt_cons, gt_nil, op_bin, op_shift, op_eqBool, op_eqNil, op_un, op_box, op_boxi, op_boxs, op_alloc, op_build, op_buildSlice, op_load, op_takeCell, op_store, op_putCell, op_nilCheck, op_fieldAddr, op_field, op_indexAddr, op_indexStr, op_slice, op_copy, op_sliceStr, op_len, op_append, op_mkarr, op_mkbuf, op_mkmap, op_lookup, op_mapset, op_fn, op_extract, op_convInt, op_convStr, op_bytesOf, op_strOf, op_mx, op_setf, op_set_n, op_set, op_take, op_takec, op_pick, op_call, dv_set, dv_pick, dv_bin, dv_shift, dv_eqBool, dv_eqNil, dv_un, dv_boxi, dv_build, dv_buildSlice, dv_load_true, dv_load_false, dv_nilCheck, dv_fieldAddr, dv_field, dv_indexAddr, dv_indexStr, dv_slice, dv_sliceStr, dv_len_true, dv_len_false, dv_lookup_true, dv_lookup_false, dv_fn, dv_extract, dv_convInt, dv_mx, dv_call, prune_none, prune_nil, prune_cons, argEnv_nil, argEnv_cons, aval_t, aval_c, alenD_lst, alenD_nils, alenD_str, alenD_arr, map_nil', map_cons', Nat.reduceEqDiff, Nat.reduceAdd, reduceIte, if_true,
    scond_t, scond_f, scond_n, scond_d, sg_tt, sg_tf, sg_ft, sg_ff, sg_u, sg_dt, sg_df, acall_s, scallD_fn,
    un_any, un_bool, un_int, un_str, un_nils, un_lst, un_arr, un_agg, un_tuple, un_ptr, un_iptr, un_nilp, un_map, un_nilm, un_fn, un_nilf, ce_bool, ce_int, ce_str, ce_nils, ce_lst, ce_agg, ce_fn, ce_nilf, ce_ptr, ce_iptr, ce_map,
    dr_bool, dr_int, dr_str, dr_nils, dr_lst, dr_agg, dr_fn, dr_nilf, dr_ptr, dr_iptr, dr_map, va_bool, va_int, va_str, va_nils, va_lst, va_agg, va_fn, va_nilf, va_ptr, va_iptr, va_map,
    bw_bool, bw_int, bw_str, bw_nils, bw_lst, bw_agg, bw_tuple, bw_ptr, bw_map, bw_arr, bw_iptr, bw_fn, bw_nilf, bl_nil, bl_cons, eb_nil, eb_cons,
    ab_add, ab_sub, ab_mul, ab_rem, ab_quo, ab_eql, ab_neq, ab_lss, ab_leq, ab_gtr, ab_geq, as_eql, as_neq, as_add, au_not, au_neg, ae_neq, ae_eql, bp_b, al_str, al_nils, al_lst, al_arr, al_nilm, lo_str, lo_nils, lo_lst, lo_arr, lo_nilm, lo_map,
    li_bool, li_int, li_str, li_lst, li_nils, li_fn, nc_ptr, nc_iptr, ex_tuple, fa_ptr, base_nil, base_c, base_t, base_f, base_p, pass_none, pass_c0, pass_c1, pass_c2, pass_big0, pass_big1, pass_big2, pass_big3, pass_big4, unslot_none, unslot_some,
    ga0, ga, sa0, sa, app2, len2, g0, g1, g2, s0, s1, s2, d0, d1, d2, sp1, load_ptr, loadC_1, store_ptr, storeC_1, on_bool, on_int, on_str, on_lst, on_nils, on_fn, on_ptr, on_iptr, on_map, all1, all0,
    List.nil_append, List.append_nil, List.cons_append, reduceCtorEq, or_true, true_or, true_and, and_true, true_implies, forall_const, Bool.true_and, Bool.and_true, Bool.not_true, Bool.not_false, decide_true, decide_false,
    avs_len, T.av_blw, avs_blw, T.av_val, T.av_one, T.av_unown, T.av_drop, T.cells_unown, T.cells_drop, T.av_clen, T.agg_cells, lens_avs, idx_avs, load_iptr_T, sp_T, bl_T, loadC_T, Nat.le_refl, fk, fn_, fl, ints_len, ints_blw, lens_ints, idx_ints, cn_int, cn_T, bs1, bs2, bs3, List.length_cons, List.length_nil]
  rw [wrap_in (left - 1) (by omega)]
  refine ⟨by omega, by omega, fun h4 => ⟨fun h5 => ?_, fun h5 hl => ?_⟩, fun h4 => ?_⟩
  · rw [e, if_pos (.inr h5)]
    exact ret2 (by simp [fewObjs]) rfl rfl rfl
  · have e2 : lookT x deep left = looks x.l (deep + 1) (left - 1) := by rw [e, if_neg (by omega)]
    refine swp_loop_st x.l.length (fun i (s : Int) => 0 ≤ s ∧ s ≤ 6000 ∧ looks (x.l.drop i) (deep + 1) s = lookT x deep left)
      (fun i s => [(1, .int .i64 deep), (3, .ptr (H.length + 1) 0), (18, .lst 0 (avs x.l)), (19, .int .i64 x.l.length), (20, .int .i64 i)]) (fun i s => H ++ fewObjs H.length s) (left - 1) ⟨⟨by omega, by omega, by rw [e2]; rfl⟩, sle_refl _ _ _⟩ fun i s hi hI => ?_
    obtain ⟨k0, k1, hI⟩ := hI
    simp only [fewObjs, nrm_eq, swp_skip, swp_region, swp_draw, swp_seq, swp_cond, swp_block, swp_exit, swp_ret, aops_nil, aops_n, aops_g, agd_n, agd_g, adtS_done, adtS_nil, adtS_n, adtS_g, adtS_br, put_none, put_some, gt_cons, gt_nil, op_bin, op_shift, op_eqBool, op_eqNil, op_un, op_box, op_boxi, op_boxs, op_alloc, op_build, op_buildSlice, op_load, op_takeCell, op_store, op_putCell, op_nilCheck, op_fieldAddr, op_field, op_indexAddr, op_indexStr, op_slice, op_copy, op_sliceStr, op_len, op_append, op_mkarr, op_mkbuf, op_mkmap, op_lookup, op_mapset, op_fn, op_extract, op_convInt, op_convStr, op_bytesOf, op_strOf, op_mx, op_setf, op_set_n, op_set, op_take, op_takec, op_pick, op_call, dv_set, dv_pick, dv_bin, dv_shift, dv_eqBool, dv_eqNil, dv_un, dv_boxi, dv_build, dv_buildSlice, dv_load_true, dv_load_false, dv_nilCheck, dv_fieldAddr, dv_field, dv_indexAddr, dv_indexStr, dv_slice, dv_sliceStr, dv_len_true, dv_len_false, dv_lookup_true, dv_lookup_false, dv_fn, dv_extract, dv_convInt, dv_mx, dv_call, prune_none, prune_nil, prune_cons, argEnv_nil, argEnv_cons, aval_t, aval_c, alenD_lst, alenD_nils, alenD_str, alenD_arr, map_nil', map_cons', Nat.reduceEqDiff, Nat.reduceAdd, reduceIte, if_true,
    scond_t, scond_f, scond_n, scond_d, sg_tt, sg_tf, sg_ft, sg_ff, sg_u, sg_dt, sg_df, acall_s, scallD_fn,
    un_any, un_bool, un_int, un_str, un_nils, un_lst, un_arr, un_agg, un_tuple, un_ptr, un_iptr, un_nilp, un_map, un_nilm, un_fn, un_nilf, ce_bool, ce_int, ce_str, ce_nils, ce_lst, ce_agg, ce_fn, ce_nilf, ce_ptr, ce_iptr, ce_map,
    dr_bool, dr_int, dr_str, dr_nils, dr_lst, dr_agg, dr_fn, dr_nilf, dr_ptr, dr_iptr, dr_map, va_bool, va_int, va_str, va_nils, va_lst, va_agg, va_fn, va_nilf, va_ptr, va_iptr, va_map,
    bw_bool, bw_int, bw_str, bw_nils, bw_lst, bw_agg, bw_tuple, bw_ptr, bw_map, bw_arr, bw_iptr, bw_fn, bw_nilf, bl_nil, bl_cons, eb_nil, eb_cons,
    ab_add, ab_sub, ab_mul, ab_rem, ab_quo, ab_eql, ab_neq, ab_lss, ab_leq, ab_gtr, ab_geq, as_eql, as_neq, as_add, au_not, au_neg, ae_neq, ae_eql, bp_b, al_str, al_nils, al_lst, al_arr, al_nilm, lo_str, lo_nils, lo_lst, lo_arr, lo_nilm, lo_map,
    li_bool, li_int, li_str, li_lst, li_nils, li_fn, nc_ptr, nc_iptr, ex_tuple, fa_ptr, base_nil, base_c, base_t, base_f, base_p, pass_none, pass_c0, pass_c1, pass_c2, pass_big0, pass_big1, pass_big2, pass_big3, pass_big4, unslot_none, unslot_some,
    ga0, ga, sa0, sa, app2, len2, g0, g1, g2, s0, s1, s2, d0, d1, d2, sp1, load_ptr, loadC_1, store_ptr, storeC_1, on_bool, on_int, on_str, on_lst, on_nils, on_fn, on_ptr, on_iptr, on_map, all1, all0,
    List.nil_append, List.append_nil, List.cons_append, reduceCtorEq, or_true, true_or, true_and, and_true, true_implies, forall_const, Bool.true_and, Bool.and_true, Bool.not_true, Bool.not_false, decide_true, decide_false,
    avs_len, T.av_blw, avs_blw, T.av_val, T.av_one, T.av_unown, T.av_drop, T.cells_unown, T.cells_drop, T.av_clen, T.agg_cells, lens_avs, idx_avs, load_iptr_T, sp_T, bl_T, loadC_T, Nat.le_refl, fk, fn_, fl, ints_len, ints_blw, lens_ints, idx_ints, cn_int, cn_T, bs1, bs2, bs3, List.length_cons, List.length_nil]
    refine ⟨fun hlt => ⟨len_lt hlt, by omega, ?_⟩, fun hge => ?_⟩
    · have hlt := len_lt hlt
      rw [wrap_in (deep + 1) (by omega)]
      rw [looks_drop hlt] at hI
      have hle := lookT_le (x.l.getD i default) (deep + 1) s
      refine scall_to (ih _ (mem_getD hlt) (deep + 1) s k0 k1 (by omega) (by omega)) ?_
      rintro r H' ⟨rfl, rfl⟩
      simp only [fewObjs, nrm_eq, swp_skip, swp_region, swp_draw, swp_seq, swp_cond, swp_block, swp_exit, swp_ret, aops_nil, aops_n, aops_g, agd_n, agd_g, adtS_done, adtS_nil, adtS_n, adtS_g, adtS_br, put_none, put_some, gt_cons, gt_nil, op_bin, op_shift, op_eqBool, op_eqNil, op_un, op_box, op_boxi, op_boxs, op_alloc, op_build, op_buildSlice, op_load, op_takeCell, op_store, op_putCell, op_nilCheck, op_fieldAddr, op_field, op_indexAddr, op_indexStr, op_slice, op_copy, op_sliceStr, op_len, op_append, op_mkarr, op_mkbuf, op_mkmap, op_lookup, op_mapset, op_fn, op_extract, op_convInt, op_convStr, op_bytesOf, op_strOf, op_mx, op_setf, op_set_n, op_set, op_take, op_takec, op_pick, op_call, dv_set, dv_pick, dv_bin, dv_shift, dv_eqBool, dv_eqNil, dv_un, dv_boxi, dv_build, dv_buildSlice, dv_load_true, dv_load_false, dv_nilCheck, dv_fieldAddr, dv_field, dv_indexAddr, dv_indexStr, dv_slice, dv_sliceStr, dv_len_true, dv_len_false, dv_lookup_true, dv_lookup_false, dv_fn, dv_extract, dv_convInt, dv_mx, dv_call, prune_none, prune_nil, prune_cons, argEnv_nil, argEnv_cons, aval_t, aval_c, alenD_lst, alenD_nils, alenD_str, alenD_arr, map_nil', map_cons', Nat.reduceEqDiff, Nat.reduceAdd, reduceIte, if_true,
    scond_t, scond_f, scond_n, scond_d, sg_tt, sg_tf, sg_ft, sg_ff, sg_u, sg_dt, sg_df, acall_s, scallD_fn,
    un_any, un_bool, un_int, un_str, un_nils, un_lst, un_arr, un_agg, un_tuple, un_ptr, un_iptr, un_nilp, un_map, un_nilm, un_fn, un_nilf, ce_bool, ce_int, ce_str, ce_nils, ce_lst, ce_agg, ce_fn, ce_nilf, ce_ptr, ce_iptr, ce_map,
    dr_bool, dr_int, dr_str, dr_nils, dr_lst, dr_agg, dr_fn, dr_nilf, dr_ptr, dr_iptr, dr_map, va_bool, va_int, va_str, va_nils, va_lst, va_agg, va_fn, va_nilf, va_ptr, va_iptr, va_map,
    bw_bool, bw_int, bw_str, bw_nils, bw_lst, bw_agg, bw_tuple, bw_ptr, bw_map, bw_arr, bw_iptr, bw_fn, bw_nilf, bl_nil, bl_cons, eb_nil, eb_cons,
    ab_add, ab_sub, ab_mul, ab_rem, ab_quo, ab_eql, ab_neq, ab_lss, ab_leq, ab_gtr, ab_geq, as_eql, as_neq, as_add, au_not, au_neg, ae_neq, ae_eql, bp_b, al_str, al_nils, al_lst, al_arr, al_nilm, lo_str, lo_nils, lo_lst, lo_arr, lo_nilm, lo_map,
    li_bool, li_int, li_str, li_lst, li_nils, li_fn, nc_ptr, nc_iptr, ex_tuple, fa_ptr, base_nil, base_c, base_t, base_f, base_p, pass_none, pass_c0, pass_c1, pass_c2, pass_big0, pass_big1, pass_big2, pass_big3, pass_big4, unslot_none, unslot_some,
    ga0, ga, sa0, sa, app2, len2, g0, g1, g2, s0, s1, s2, d0, d1, d2, sp1, load_ptr, loadC_1, store_ptr, storeC_1, on_bool, on_int, on_str, on_lst, on_nils, on_fn, on_ptr, on_iptr, on_map, all1, all0,
    List.nil_append, List.append_nil, List.cons_append, reduceCtorEq, or_true, true_or, true_and, and_true, true_implies, forall_const, Bool.true_and, Bool.and_true, Bool.not_true, Bool.not_false, decide_true, decide_false,
    avs_len, T.av_blw, avs_blw, T.av_val, T.av_one, T.av_unown, T.av_drop, T.cells_unown, T.cells_drop, T.av_clen, T.agg_cells, lens_avs, idx_avs, load_iptr_T, sp_T, bl_T, loadC_T, Nat.le_refl, fk, fn_, fl, ints_len, ints_blw, lens_ints, idx_ints, cn_int, cn_T, bs1, bs2, bs3, List.length_cons, List.length_nil]
      refine scond_b (fun hb => ?_) (fun hb => ?_) <;> simp only [nrm_eq, swp_skip, swp_region, swp_draw, swp_seq, swp_cond, swp_block, swp_exit, swp_ret, aops_nil, aops_n, aops_g, agd_n, agd_g, adtS_done, adtS_nil, adtS_n, adtS_g, adtS_br, put_none, put_some, gt_cons, gt_nil, op_bin, op_shift, op_eqBool, op_eqNil, op_un, op_box, op_boxi, op_boxs, op_alloc, op_build, op_buildSlice, op_load, op_takeCell, op_store, op_putCell, op_nilCheck, op_fieldAddr, op_field, op_indexAddr, op_indexStr, op_slice, op_copy, op_sliceStr, op_len, op_append, op_mkarr, op_mkbuf, op_mkmap, op_lookup, op_mapset, op_fn, op_extract, op_convInt, op_convStr, op_bytesOf, op_strOf, op_mx, op_setf, op_set_n, op_set, op_take, op_takec, op_pick, op_call, dv_set, dv_pick, dv_bin, dv_shift, dv_eqBool, dv_eqNil, dv_un, dv_boxi, dv_build, dv_buildSlice, dv_load_true, dv_load_false, dv_nilCheck, dv_fieldAddr, dv_field, dv_indexAddr, dv_indexStr, dv_slice, dv_sliceStr, dv_len_true, dv_len_false, dv_lookup_true, dv_lookup_false, dv_fn, dv_extract, dv_convInt, dv_mx, dv_call, prune_none, prune_nil, prune_cons, argEnv_nil, argEnv_cons, aval_t, aval_c, alenD_lst, alenD_nils, alenD_str, alenD_arr, map_nil', map_cons', Nat.reduceEqDiff, Nat.reduceAdd, reduceIte, if_true,
    scond_t, scond_f, scond_n, scond_d, sg_tt, sg_tf, sg_ft, sg_ff, sg_u, sg_dt, sg_df, acall_s, scallD_fn,
    un_any, un_bool, un_int, un_str, un_nils, un_lst, un_arr, un_agg, un_tuple, un_ptr, un_iptr, un_nilp, un_map, un_nilm, un_fn, un_nilf, ce_bool, ce_int, ce_str, ce_nils, ce_lst, ce_agg, ce_fn, ce_nilf, ce_ptr, ce_iptr, ce_map,
    dr_bool, dr_int, dr_str, dr_nils, dr_lst, dr_agg, dr_fn, dr_nilf, dr_ptr, dr_iptr, dr_map, va_bool, va_int, va_str, va_nils, va_lst, va_agg, va_fn, va_nilf, va_ptr, va_iptr, va_map,
    bw_bool, bw_int, bw_str, bw_nils, bw_lst, bw_agg, bw_tuple, bw_ptr, bw_map, bw_arr, bw_iptr, bw_fn, bw_nilf, bl_nil, bl_cons, eb_nil, eb_cons,
    ab_add, ab_sub, ab_mul, ab_rem, ab_quo, ab_eql, ab_neq, ab_lss, ab_leq, ab_gtr, ab_geq, as_eql, as_neq, as_add, au_not, au_neg, ae_neq, ae_eql, bp_b, al_str, al_nils, al_lst, al_arr, al_nilm, lo_str, lo_nils, lo_lst, lo_arr, lo_nilm, lo_map,
    li_bool, li_int, li_str, li_lst, li_nils, li_fn, nc_ptr, nc_iptr, ex_tuple, fa_ptr, base_nil, base_c, base_t, base_f, base_p, pass_none, pass_c0, pass_c1, pass_c2, pass_big0, pass_big1, pass_big2, pass_big3, pass_big4, unslot_none, unslot_some,
    ga0, ga, sa0, sa, app2, len2, g0, g1, g2, s0, s1, s2, d0, d1, d2, sp1, load_ptr, loadC_1, store_ptr, storeC_1, on_bool, on_int, on_str, on_lst, on_nils, on_fn, on_ptr, on_iptr, on_map, all1, all0,
    List.nil_append, List.append_nil, List.cons_append, reduceCtorEq, or_true, true_or, true_and, and_true, true_implies, forall_const, Bool.true_and, Bool.and_true, Bool.not_true, Bool.not_false, decide_true, decide_false,
    avs_len, T.av_blw, avs_blw, T.av_val, T.av_one, T.av_unown, T.av_drop, T.cells_unown, T.cells_drop, T.av_clen, T.agg_cells, lens_avs, idx_avs, load_iptr_T, sp_T, bl_T, loadC_T, Nat.le_refl, fk, fn_, fl, ints_len, ints_blw, lens_ints, idx_ints, cn_int, cn_T, bs1, bs2, bs3, List.length_cons, List.length_nil]
      · rw [if_pos hb] at hI
        exact ⟨i + 1, (lookT (x.l.getD i default) (deep + 1) s).2, ⟨hlt, (hle.2 k0).2 hb, by omega, hI⟩, by omega, sle_eq (by rw [wrap_nat i (by omega)]) rfl⟩
      · rw [if_neg (by rw [hb]; simp)] at hI
        rw [← hI]
        exact ret2 (by simp [fewObjs]) rfl rfl rfl
    · rw [List.drop_of_length_le (len_nlt hge)] at hI
      rw [← hI]
      exact ret2 (by simp [fewObjs]) rfl rfl rfl
  · rw [e, if_pos (.inl h4)]
    exact ret2 (by simp [fewObjs]) rfl rfl rfl
termination_by SizeOf.sizeOf x
decreasing_by exact T.lt hy
theorem c14 (l : List T) : Pure Try.prog 14 [.lst 0 (avs l)] (.bool (fewL l)) := by
  refine fun H => ok14.calls (by simp [fi14]) ?_
  simp only [fi14, ir14]
  simp only [nrm_eq, swp_skip, swp_region, swp_draw, swp_seq, swp_cond, swp_block, swp_exit, swp_ret, aops_nil, aops_n, aops_g, agd_n, agd_g, adtS_done, adtS_nil, adtS_n, adtS_g, adtS_br, put_none, put_some, gt_cons, gt_nil, op_bin, op_shift, op_eqBool, op_eqNil, op_un, op_box, op_boxi, op_boxs, op_alloc, op_build, op_buildSlice, op_load, op_takeCell, op_store, op_putCell, op_nilCheck, op_fieldAddr, op_field, op_indexAddr, op_indexStr, op_slice, op_copy, op_sliceStr, op_len, op_append, op_mkarr, op_mkbuf, op_mkmap, op_lookup, op_mapset, op_fn, op_extract, op_convInt, op_convStr, op_bytesOf, op_strOf, op_mx, op_setf, op_set_n, op_set, op_take, op_takec, op_pick, op_call, dv_set, dv_pick, dv_bin, dv_shift, dv_eqBool, dv_eqNil, dv_un, dv_boxi, dv_build, dv_buildSlice, dv_load_true, dv_load_false, dv_nilCheck, dv_fieldAddr, dv_field, dv_indexAddr, dv_indexStr, dv_slice, dv_sliceStr, dv_len_true, dv_len_false, dv_lookup_true, dv_lookup_false, dv_fn, dv_extract, dv_convInt, dv_mx, dv_call, prune_none, prune_nil, prune_cons, argEnv_nil, argEnv_cons, aval_t, aval_c, alenD_lst, alenD_nils, alenD_str, alenD_arr, map_nil', map_cons', Nat.reduceEqDiff, Nat.reduceAdd, reduceIte, if_true,
    scond_t, scond_f, scond_n, scond_d, sg_tt, sg_tf, sg_ft, sg_ff, sg_u, sg_dt, sg_df, acall_s, scallD_fn,
    un_any, un_bool, un_int, un_str, un_nils, un_lst, un_arr, un_agg, un_tuple, un_ptr, un_iptr, un_nilp, un_map, un_nilm, un_fn, un_nilf, ce_bool, ce_int, ce_str, ce_nils, ce_lst, ce_agg, ce_fn, ce_nilf, ce_ptr, ce_iptr, ce_map,
    dr_bool, dr_int, dr_str, dr_nils, dr_lst, dr_agg, dr_fn, dr_nilf, dr_ptr, dr_iptr, dr_map, va_bool, va_int, va_str, va_nils, va_lst, va_agg, va_fn, va_nilf, va_ptr, va_iptr, va_map,
    bw_bool, bw_int, bw_str, bw_nils, bw_lst, bw_agg, bw_tuple, bw_ptr, bw_map, bw_arr, bw_iptr, bw_fn, bw_nilf, bl_nil, bl_cons, eb_nil, eb_cons,
    ab_add, ab_sub, ab_mul, ab_rem, ab_quo, ab_eql, ab_neq, ab_lss, ab_leq, ab_gtr, ab_geq, as_eql, as_neq, as_add, au_not, au_neg, ae_neq, ae_eql, bp_b, al_str, al_nils, al_lst, al_arr, al_nilm, lo_str, lo_nils, lo_lst, lo_arr, lo_nilm, lo_map,
    li_bool, li_int, li_str, li_lst, li_nils, li_fn, nc_ptr, nc_iptr, ex_tuple, fa_ptr, base_nil, base_c, base_t, base_f, base_p, pass_none, pass_c0, pass_c1, pass_c2, pass_big0, pass_big1, pass_big2, pass_big3, pass_big4, unslot_none, unslot_some,
    ga0, ga, sa0, sa, app2, len2, g0, g1, g2, s0, s1, s2, d0, d1, d2, sp1, load_ptr, loadC_1, store_ptr, storeC_1, on_bool, on_int, on_str, on_lst, on_nils, on_fn, on_ptr, on_iptr, on_map, all1, all0,
    List.nil_append, List.append_nil, List.cons_append, reduceCtorEq, or_true, true_or, true_and, and_true, true_implies, forall_const, Bool.true_and, Bool.and_true, Bool.not_true, Bool.not_false, decide_true, decide_false,
    avs_len, T.av_blw, avs_blw, T.av_val, T.av_one, T.av_unown, T.av_drop, T.cells_unown, T.cells_drop, T.av_clen, T.agg_cells, lens_avs, idx_avs, load_iptr_T, sp_T, bl_T, loadC_T, Nat.le_refl, fk, fn_, fl, ints_len, ints_blw, lens_ints, idx_ints, cn_int, cn_T, bs1, bs2, bs3, List.length_cons, List.length_nil]
  refine ⟨by simp; omega, fun hl => ?_⟩
  refine swp_loop_st l.length (fun i (s : Int) => 0 ≤ s ∧ s ≤ 6000 ∧ (looks (l.drop i) 1 s).1 = fewL l)
      (fun i s => [(4, .ptr (H.length + 1) 0), (8, .lst 0 (avs l)), (9, .int .i64 l.length), (10, .int .i64 i)]) (fun i s => H ++ fewObjs H.length s) 6000 ⟨⟨by omega, by omega, rfl⟩, sle_refl _ _ _⟩ fun i s hi hI => ?_
  obtain ⟨k0, k1, hI⟩ := hI
  simp only [fewObjs, nrm_eq, swp_skip, swp_region, swp_draw, swp_seq, swp_cond, swp_block, swp_exit, swp_ret, aops_nil, aops_n, aops_g, agd_n, agd_g, adtS_done, adtS_nil, adtS_n, adtS_g, adtS_br, put_none, put_some, gt_cons, gt_nil, op_bin, op_shift, op_eqBool, op_eqNil, op_un, op_box, op_boxi, op_boxs, op_alloc, op_build, op_buildSlice, op_load, op_takeCell, op_store, op_putCell, op_nilCheck, op_fieldAddr, op_field, op_indexAddr, op_indexStr, op_slice, op_copy, op_sliceStr, op_len, op_append, op_mkarr, op_mkbuf, op_mkmap, op_lookup, op_mapset, op_fn, op_extract, op_convInt, op_convStr, op_bytesOf, op_strOf, op_mx, op_setf, op_set_n, op_set, op_take, op_takec, op_pick, op_call, dv_set, dv_pick, dv_bin, dv_shift, dv_eqBool, dv_eqNil, dv_un, dv_boxi, dv_build, dv_buildSlice, dv_load_true, dv_load_false, dv_nilCheck, dv_fieldAddr, dv_field, dv_indexAddr, dv_indexStr, dv_slice, dv_sliceStr, dv_len_true, dv_len_false, dv_lookup_true, dv_lookup_false, dv_fn, dv_extract, dv_convInt, dv_mx, dv_call, prune_none, prune_nil, prune_cons, argEnv_nil, argEnv_cons, aval_t, aval_c, alenD_lst, alenD_nils, alenD_str, alenD_arr, map_nil', map_cons', Nat.reduceEqDiff, Nat.reduceAdd, reduceIte, if_true,
    scond_t, scond_f, scond_n, scond_d, sg_tt, sg_tf, sg_ft, sg_ff, sg_u, sg_dt, sg_df, acall_s, scallD_fn,
    un_any, un_bool, un_int, un_str, un_nils, un_lst, un_arr, un_agg, un_tuple, un_ptr, un_iptr, un_nilp, un_map, un_nilm, un_fn, un_nilf, ce_bool, ce_int, ce_str, ce_nils, ce_lst, ce_agg, ce_fn, ce_nilf, ce_ptr, ce_iptr, ce_map,
    dr_bool, dr_int, dr_str, dr_nils, dr_lst, dr_agg, dr_fn, dr_nilf, dr_ptr, dr_iptr, dr_map, va_bool, va_int, va_str, va_nils, va_lst, va_agg, va_fn, va_nilf, va_ptr, va_iptr, va_map,
    bw_bool, bw_int, bw_str, bw_nils, bw_lst, bw_agg, bw_tuple, bw_ptr, bw_map, bw_arr, bw_iptr, bw_fn, bw_nilf, bl_nil, bl_cons, eb_nil, eb_cons,
    ab_add, ab_sub, ab_mul, ab_rem, ab_quo, ab_eql, ab_neq, ab_lss, ab_leq, ab_gtr, ab_geq, as_eql, as_neq, as_add, au_not, au_neg, ae_neq, ae_eql, bp_b, al_str, al_nils, al_lst, al_arr, al_nilm, lo_str, lo_nils, lo_lst, lo_arr, lo_nilm, lo_map,
    li_bool, li_int, li_str, li_lst, li_nils, li_fn, nc_ptr, nc_iptr, ex_tuple, fa_ptr, base_nil, base_c, base_t, base_f, base_p, pass_none, pass_c0, pass_c1, pass_c2, pass_big0, pass_big1, pass_big2, pass_big3, pass_big4, unslot_none, unslot_some,
    ga0, ga, sa0, sa, app2, len2, g0, g1, g2, s0, s1, s2, d0, d1, d2, sp1, load_ptr, loadC_1, store_ptr, storeC_1, on_bool, on_int, on_str, on_lst, on_nils, on_fn, on_ptr, on_iptr, on_map, all1, all0,
    List.nil_append, List.append_nil, List.cons_append, reduceCtorEq, or_true, true_or, true_and, and_true, true_implies, forall_const, Bool.true_and, Bool.and_true, Bool.not_true, Bool.not_false, decide_true, decide_false,
    avs_len, T.av_blw, avs_blw, T.av_val, T.av_one, T.av_unown, T.av_drop, T.cells_unown, T.cells_drop, T.av_clen, T.agg_cells, lens_avs, idx_avs, load_iptr_T, sp_T, bl_T, loadC_T, Nat.le_refl, fk, fn_, fl, ints_len, ints_blw, lens_ints, idx_ints, cn_int, cn_T, bs1, bs2, bs3, List.length_cons, List.length_nil]
  refine ⟨fun hlt => ⟨len_lt hlt, by omega, ?_⟩, fun hge => ?_⟩
  · have hlt := len_lt hlt
    rw [looks_drop hlt] at hI
    have hle := lookT_le (l.getD i default) 1 s
    refine scall_to (c49 H (l.getD i default) 1 s k0 k1 (by omega) (by omega)) ?_
    rintro r H' ⟨rfl, rfl⟩
    simp only [fewObjs, nrm_eq, swp_skip, swp_region, swp_draw, swp_seq, swp_cond, swp_block, swp_exit, swp_ret, aops_nil, aops_n, aops_g, agd_n, agd_g, adtS_done, adtS_nil, adtS_n, adtS_g, adtS_br, put_none, put_some, gt_cons, gt_nil, op_bin, op_shift, op_eqBool, op_eqNil, op_un, op_box, op_boxi, op_boxs, op_alloc, op_build, op_buildSlice, op_load, op_takeCell, op_store, op_putCell, op_nilCheck, op_fieldAddr, op_field, op_indexAddr, op_indexStr, op_slice, op_copy, op_sliceStr, op_len, op_append, op_mkarr, op_mkbuf, op_mkmap, op_lookup, op_mapset, op_fn, op_extract, op_convInt, op_convStr, op_bytesOf, op_strOf, op_mx, op_setf, op_set_n, op_set, op_take, op_takec, op_pick, op_call, dv_set, dv_pick, dv_bin, dv_shift, dv_eqBool, dv_eqNil, dv_un, dv_boxi, dv_build, dv_buildSlice, dv_load_true, dv_load_false, dv_nilCheck, dv_fieldAddr, dv_field, dv_indexAddr, dv_indexStr, dv_slice, dv_sliceStr, dv_len_true, dv_len_false, dv_lookup_true, dv_lookup_false, dv_fn, dv_extract, dv_convInt, dv_mx, dv_call, prune_none, prune_nil, prune_cons, argEnv_nil, argEnv_cons, aval_t, aval_c, alenD_lst, alenD_nils, alenD_str, alenD_arr, map_nil', map_cons', Nat.reduceEqDiff, Nat.reduceAdd, reduceIte, if_true,
    scond_t, scond_f, scond_n, scond_d, sg_tt, sg_tf, sg_ft, sg_ff, sg_u, sg_dt, sg_df, acall_s, scallD_fn,
    un_any, un_bool, un_int, un_str, un_nils, un_lst, un_arr, un_agg, un_tuple, un_ptr, un_iptr, un_nilp, un_map, un_nilm, un_fn, un_nilf, ce_bool, ce_int, ce_str, ce_nils, ce_lst, ce_agg, ce_fn, ce_nilf, ce_ptr, ce_iptr, ce_map,
    dr_bool, dr_int, dr_str, dr_nils, dr_lst, dr_agg, dr_fn, dr_nilf, dr_ptr, dr_iptr, dr_map, va_bool, va_int, va_str, va_nils, va_lst, va_agg, va_fn, va_nilf, va_ptr, va_iptr, va_map,
    bw_bool, bw_int, bw_str, bw_nils, bw_lst, bw_agg, bw_tuple, bw_ptr, bw_map, bw_arr, bw_iptr, bw_fn, bw_nilf, bl_nil, bl_cons, eb_nil, eb_cons,
    ab_add, ab_sub, ab_mul, ab_rem, ab_quo, ab_eql, ab_neq, ab_lss, ab_leq, ab_gtr, ab_geq, as_eql, as_neq, as_add, au_not, au_neg, ae_neq, ae_eql, bp_b, al_str, al_nils, al_lst, al_arr, al_nilm, lo_str, lo_nils, lo_lst, lo_arr, lo_nilm, lo_map,
    li_bool, li_int, li_str, li_lst, li_nils, li_fn, nc_ptr, nc_iptr, ex_tuple, fa_ptr, base_nil, base_c, base_t, base_f, base_p, pass_none, pass_c0, pass_c1, pass_c2, pass_big0, pass_big1, pass_big2, pass_big3, pass_big4, unslot_none, unslot_some,
    ga0, ga, sa0, sa, app2, len2, g0, g1, g2, s0, s1, s2, d0, d1, d2, sp1, load_ptr, loadC_1, store_ptr, storeC_1, on_bool, on_int, on_str, on_lst, on_nils, on_fn, on_ptr, on_iptr, on_map, all1, all0,
    List.nil_append, List.append_nil, List.cons_append, reduceCtorEq, or_true, true_or, true_and, and_true, true_implies, forall_const, Bool.true_and, Bool.and_true, Bool.not_true, Bool.not_false, decide_true, decide_false,
    avs_len, T.av_blw, avs_blw, T.av_val, T.av_one, T.av_unown, T.av_drop, T.cells_unown, T.cells_drop, T.av_clen, T.agg_cells, lens_avs, idx_avs, load_iptr_T, sp_T, bl_T, loadC_T, Nat.le_refl, fk, fn_, fl, ints_len, ints_blw, lens_ints, idx_ints, cn_int, cn_T, bs1, bs2, bs3, List.length_cons, List.length_nil]
    refine scond_b (fun hb => ?_) (fun hb => ?_) <;> simp only [nrm_eq, swp_skip, swp_region, swp_draw, swp_seq, swp_cond, swp_block, swp_exit, swp_ret, aops_nil, aops_n, aops_g, agd_n, agd_g, adtS_done, adtS_nil, adtS_n, adtS_g, adtS_br, put_none, put_some, gt_cons, gt_nil, op_bin, op_shift, op_eqBool, op_eqNil, op_un, op_box, op_boxi, op_boxs, op_alloc, op_build, op_buildSlice, op_load, op_takeCell, op_store, op_putCell, op_nilCheck, op_fieldAddr, op_field, op_indexAddr, op_indexStr, op_slice, op_copy, op_sliceStr, op_len, op_append, op_mkarr, op_mkbuf, op_mkmap, op_lookup, op_mapset, op_fn, op_extract, op_convInt, op_convStr, op_bytesOf, op_strOf, op_mx, op_setf, op_set_n, op_set, op_take, op_takec, op_pick, op_call, dv_set, dv_pick, dv_bin, dv_shift, dv_eqBool, dv_eqNil, dv_un, dv_boxi, dv_build, dv_buildSlice, dv_load_true, dv_load_false, dv_nilCheck, dv_fieldAddr, dv_field, dv_indexAddr, dv_indexStr, dv_slice, dv_sliceStr, dv_len_true, dv_len_false, dv_lookup_true, dv_lookup_false, dv_fn, dv_extract, dv_convInt, dv_mx, dv_call, prune_none, prune_nil, prune_cons, argEnv_nil, argEnv_cons, aval_t, aval_c, alenD_lst, alenD_nils, alenD_str, alenD_arr, map_nil', map_cons', Nat.reduceEqDiff, Nat.reduceAdd, reduceIte, if_true,
    scond_t, scond_f, scond_n, scond_d, sg_tt, sg_tf, sg_ft, sg_ff, sg_u, sg_dt, sg_df, acall_s, scallD_fn,
    un_any, un_bool, un_int, un_str, un_nils, un_lst, un_arr, un_agg, un_tuple, un_ptr, un_iptr, un_nilp, un_map, un_nilm, un_fn, un_nilf, ce_bool, ce_int, ce_str, ce_nils, ce_lst, ce_agg, ce_fn, ce_nilf, ce_ptr, ce_iptr, ce_map,
    dr_bool, dr_int, dr_str, dr_nils, dr_lst, dr_agg, dr_fn, dr_nilf, dr_ptr, dr_iptr, dr_map, va_bool, va_int, va_str, va_nils, va_lst, va_agg, va_fn, va_nilf, va_ptr, va_iptr, va_map,
    bw_bool, bw_int, bw_str, bw_nils, bw_lst, bw_agg, bw_tuple, bw_ptr, bw_map, bw_arr, bw_iptr, bw_fn, bw_nilf, bl_nil, bl_cons, eb_nil, eb_cons,
    ab_add, ab_sub, ab_mul, ab_rem, ab_quo, ab_eql, ab_neq, ab_lss, ab_leq, ab_gtr, ab_geq, as_eql, as_neq, as_add, au_not, au_neg, ae_neq, ae_eql, bp_b, al_str, al_nils, al_lst, al_arr, al_nilm, lo_str, lo_nils, lo_lst, lo_arr, lo_nilm, lo_map,
    li_bool, li_int, li_str, li_lst, li_nils, li_fn, nc_ptr, nc_iptr, ex_tuple, fa_ptr, base_nil, base_c, base_t, base_f, base_p, pass_none, pass_c0, pass_c1, pass_c2, pass_big0, pass_big1, pass_big2, pass_big3, pass_big4, unslot_none, unslot_some,
    ga0, ga, sa0, sa, app2, len2, g0, g1, g2, s0, s1, s2, d0, d1, d2, sp1, load_ptr, loadC_1, store_ptr, storeC_1, on_bool, on_int, on_str, on_lst, on_nils, on_fn, on_ptr, on_iptr, on_map, all1, all0,
    List.nil_append, List.append_nil, List.cons_append, reduceCtorEq, or_true, true_or, true_and, and_true, true_implies, forall_const, Bool.true_and, Bool.and_true, Bool.not_true, Bool.not_false, decide_true, decide_false,
    avs_len, T.av_blw, avs_blw, T.av_val, T.av_one, T.av_unown, T.av_drop, T.cells_unown, T.cells_drop, T.av_clen, T.agg_cells, lens_avs, idx_avs, load_iptr_T, sp_T, bl_T, loadC_T, Nat.le_refl, fk, fn_, fl, ints_len, ints_blw, lens_ints, idx_ints, cn_int, cn_T, bs1, bs2, bs3, List.length_cons, List.length_nil]
    · rw [if_pos hb] at hI
      exact ⟨i + 1, (lookT (l.getD i default) 1 s).2, ⟨hlt, (hle.2 k0).2 hb, by omega, hI⟩, by omega, sle_eq (by rw [wrap_nat i (by omega)]) rfl⟩
    · rw [if_neg (by rw [hb]; simp)] at hI
      rw [← hI]
      exact ret1 rfl rfl
  · rw [List.drop_of_length_le (len_nlt hge)] at hI
    rw [← hI]
    exact ret1 rfl rfl
end Go.Abs
