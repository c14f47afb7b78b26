/- SigOrder. -/
import Derived.Test.YtcfmgncmkbiknaaY04w
import Derived.Test.YtcfmgncmkbiknaaY04s
set_option maxRecDepth 100000
set_option linter.unusedSimpArgs false
namespace Go.Abs
open Go Go.Proofs

theorem icmp_anti (a b : Int) : icmp b a = - icmp a b := by unfold icmp; split <;> split <;> (try split) <;> omega
theorem icmp_range (a b : Int) : icmp a b = -1 ∨ icmp a b = 0 ∨ icmp a b = 1 := by unfold icmp; split <;> (try split) <;> omega
theorem icmp_zero (a b : Int) : icmp a b = 0 ↔ a = b := by unfold icmp; split <;> (try split) <;> omega
theorem icmp_trans {a b c : Int} (h1 : icmp a b ≤ 0) (h2 : icmp b c ≤ 0) : icmp a c ≤ 0 ∧ (icmp a c = 0 → icmp a b = 0 ∧ icmp b c = 0) := by
  unfold icmp at *; repeat' split at h1
  all_goals repeat' split at h2
  all_goals (first | omega | (repeat' split) <;> omega)
/-- One after the other. -/
def thn (a b : Int) : Int := if a ≠ 0 then a else b
theorem cmp_eq (a b : T) : a.cmp b = thn (icmp a.k b.k) (thn (icmp a.n b.n) (thn (icmp a.l.length b.l.length) (cmps a.l b.l))) := by
  cases a; cases b
  simp only [T.cmp, orL, T.k, T.n, T.l, thn]
  repeat' split
  all_goals first | rfl | simp_all
theorem cmps_cons (x y : T) (r s : List T) : cmps (x :: r) (y :: s) = thn (x.cmp y) (cmps r s) := by simp only [cmps, thn]
theorem thn_neg {a b c d : Int} (h1 : a = -c) (h2 : b = -d) : thn a b = - thn c d := by unfold thn; repeat' split <;> omega
theorem thn_range {a b : Int} (h1 : a = -1 ∨ a = 0 ∨ a = 1) (h2 : b = -1 ∨ b = 0 ∨ b = 1) : thn a b = -1 ∨ thn a b = 0 ∨ thn a b = 1 := by unfold thn; split <;> assumption
theorem thn_zero {a b : Int} : thn a b = 0 ↔ a = 0 ∧ b = 0 := by unfold thn; split <;> omega
/-- What three comparisons have to do with each other. -/
def tri (x y z : Int) : Prop := x ≤ 0 → y ≤ 0 → z ≤ 0 ∧ (z = 0 → x = 0 ∧ y = 0)
theorem tri_thn {x y z x' y' z' : Int} (h : tri x y z) (hz : x = 0 → y = 0 → z = 0) (h' : tri x' y' z') : tri (thn x x') (thn y y') (thn z z') := by
  unfold tri thn at *
  intro h1 h2
  repeat' split at h1
  all_goals repeat' split at h2
  all_goals repeat' split
  all_goals omega
mutual
theorem T.cmp_anti : ∀ a b : T, b.cmp a = - a.cmp b
  | .mk k n l, .mk k' n' l' => by
    rw [cmp_eq, cmp_eq]
    exact thn_neg (icmp_anti _ _) (thn_neg (icmp_anti _ _) (thn_neg (icmp_anti _ _) (cmps_anti l l')))
theorem cmps_anti : ∀ l m : List T, cmps m l = - cmps l m
  | [], [] => by simp [cmps]
  | [], _ :: _ => by simp [cmps]
  | _ :: _, [] => by simp [cmps]
  | x :: r, y :: s => by rw [cmps_cons, cmps_cons]; exact thn_neg (T.cmp_anti x y) (cmps_anti r s)
end
mutual
theorem T.cmp_range : ∀ a b : T, a.cmp b = -1 ∨ a.cmp b = 0 ∨ a.cmp b = 1
  | .mk k n l, .mk k' n' l' => by
    rw [cmp_eq]
    exact thn_range (icmp_range _ _) (thn_range (icmp_range _ _) (thn_range (icmp_range _ _) (cmps_range l l')))
theorem cmps_range : ∀ l m : List T, cmps l m = -1 ∨ cmps l m = 0 ∨ cmps l m = 1
  | [], [] => by simp [cmps]
  | [], _ :: _ => by simp [cmps]
  | _ :: _, [] => by simp [cmps]
  | x :: r, y :: s => by rw [cmps_cons]; exact thn_range (T.cmp_range x y) (cmps_range r s)
end
mutual
theorem T.cmp_zero : ∀ a b : T, a.cmp b = 0 ↔ a = b
  | .mk k n l, .mk k' n' l' => by
    rw [cmp_eq, thn_zero, thn_zero, thn_zero, icmp_zero, icmp_zero, icmp_zero]
    simp only [T.k, T.n, T.l, T.mk.injEq]
    rw [cmps_zero l l']
    constructor
    · rintro ⟨h1, h2, h3, h4⟩; exact ⟨h1, h2, h4⟩
    · rintro ⟨h1, h2, h4⟩; exact ⟨h1, h2, by rw [h4], h4⟩
theorem cmps_zero : ∀ l m : List T, cmps l m = 0 ↔ l = m
  | [], [] => by simp [cmps]
  | [], _ :: _ => by simp [cmps]
  | _ :: _, [] => by simp [cmps]
  | x :: r, y :: s => by rw [cmps_cons, thn_zero, T.cmp_zero x y, cmps_zero r s]; simp
end
mutual
theorem T.same_iff : ∀ a b : T, a.same b = true ↔ a = b
  | .mk k n l, .mk k' n' l' => by
    simp only [T.same, Bool.and_eq_true, beq_iff_eq, T.mk.injEq, sames_iff l l', and_assoc]
theorem sames_iff : ∀ l m : List T, sames l m = true ↔ l = m
  | [], [] => by simp [sames]
  | [], _ :: _ => by simp [sames]
  | _ :: _, [] => by simp [sames]
  | x :: r, y :: s => by simp only [sames, Bool.and_eq_true, T.same_iff x y, sames_iff r s, List.cons.injEq]
end
theorem tri_icmp (a b c : Int) : tri (icmp a b) (icmp b c) (icmp a c) := fun h1 h2 => icmp_trans h1 h2
theorem zicmp {a b c : Int} : icmp a b = 0 → icmp b c = 0 → icmp a c = 0 := by simp only [icmp_zero]; intro h1 h2; rw [h1, h2]
mutual
theorem T.cmp_tri : ∀ a b c : T, tri (a.cmp b) (b.cmp c) (a.cmp c)
  | .mk k n l, .mk k' n' l', .mk k2 n2 l2 => by
    rw [cmp_eq, cmp_eq, cmp_eq]
    exact tri_thn (tri_icmp _ _ _) zicmp (tri_thn (tri_icmp _ _ _) zicmp (tri_thn (tri_icmp _ _ _) zicmp (cmps_tri l l' l2)))
theorem cmps_tri : ∀ l m n : List T, tri (cmps l m) (cmps m n) (cmps l n)
  | [], [], [] => by simp [cmps, tri]
  | [], [], _ :: _ => by simp [cmps, tri]
  | [], _ :: _, [] => by simp [cmps, tri]
  | [], _ :: _, _ :: _ => by simp [cmps, tri]
  | _ :: _, [], [] => by simp [cmps, tri]
  | _ :: _, [], _ :: _ => by simp [cmps, tri]
  | _ :: _, _ :: _, [] => by simp [cmps, tri]
  | x :: r, y :: s, z :: t => by
    rw [cmps_cons, cmps_cons, cmps_cons]
    exact tri_thn (T.cmp_tri x y z) (by rw [T.cmp_zero, T.cmp_zero, T.cmp_zero]; intro h1 h2; rw [h1, h2]) (cmps_tri r s t)
end
theorem c13 : Pure Try.prog 13 [] (.bool true) := Pure.mk rfl (callE_s tab_ok (execE_s tab_ok 100000) _ _ _ _ _ sane_run)
theorem c4 (a b c : T) : Pure Try.prog 4 [a.av, b.av, c.av] (.bool true) := by
  refine fun H => ok4.calls (by simp [fi4]) ?_
  simp only [fi4, ir4]
  simp only [nrm_eq, swp_skip, swp_region, swp_draw, swp_seq, swp_cond, swp_block, swp_exit, swp_ret, aops_nil, aops_n, aops_g, agd_n, agd_g, adtS_done, adtS_nil, adtS_n, adtS_g, adtS_br, put_none, put_some, gt_cons, gt_nil, op_bin, op_shift, op_eqBool, op_eqNil, op_un, op_box, op_boxi, op_boxs, op_alloc, op_build, op_buildSlice, op_load, op_takeCell, op_store, op_putCell, op_nilCheck, op_fieldAddr, op_field, op_indexAddr, op_indexStr, op_slice, op_copy, op_sliceStr, op_len, op_append, op_mkarr, op_mkbuf, op_mkmap, op_lookup, op_mapset, op_fn, op_extract, op_convInt, op_convStr, op_bytesOf, op_strOf, op_mx, op_setf, op_set_n, op_set, op_take, op_takec, op_pick, op_call, dv_set, dv_pick, dv_bin, dv_shift, dv_eqBool, dv_eqNil, dv_un, dv_boxi, dv_build, dv_buildSlice, dv_load_true, dv_load_false, dv_nilCheck, dv_fieldAddr, dv_field, dv_indexAddr, dv_indexStr, dv_slice, dv_sliceStr, dv_len_true, dv_len_false, dv_lookup_true, dv_lookup_false, dv_fn, dv_extract, dv_convInt, dv_mx, dv_call, prune_none, prune_nil, prune_cons, argEnv_nil, argEnv_cons, aval_t, aval_c, alenD_lst, alenD_nils, alenD_str, alenD_arr, map_nil', map_cons', Nat.reduceEqDiff, Nat.reduceAdd, reduceIte, if_true,
    scond_t, scond_f, scond_n, scond_d, sg_tt, sg_tf, sg_ft, sg_ff, sg_u, sg_dt, sg_df, acall_s, scallD_fn,
    un_any, un_bool, un_int, un_str, un_nils, un_lst, un_arr, un_agg, un_tuple, un_ptr, un_iptr, un_nilp, un_map, un_nilm, un_fn, un_nilf, ce_bool, ce_int, ce_str, ce_nils, ce_lst, ce_agg, ce_fn, ce_nilf, ce_ptr, ce_iptr, ce_map,
    dr_bool, dr_int, dr_str, dr_nils, dr_lst, dr_agg, dr_fn, dr_nilf, dr_ptr, dr_iptr, dr_map, va_bool, va_int, va_str, va_nils, va_lst, va_agg, va_fn, va_nilf, va_ptr, va_iptr, va_map,
    bw_bool, bw_int, bw_str, bw_nils, bw_lst, bw_agg, bw_tuple, bw_ptr, bw_map, bw_arr, bw_iptr, bw_fn, bw_nilf, bl_nil, bl_cons, eb_nil, eb_cons,
    ab_add, ab_sub, ab_mul, ab_rem, ab_quo, ab_eql, ab_neq, ab_lss, ab_leq, ab_gtr, ab_geq, as_eql, as_neq, as_add, au_not, au_neg, ae_neq, ae_eql, bp_b, al_str, al_nils, al_lst, al_arr, al_nilm, lo_str, lo_nils, lo_lst, lo_arr, lo_nilm, lo_map,
    li_bool, li_int, li_str, li_lst, li_nils, li_fn, nc_ptr, nc_iptr, ex_tuple, fa_ptr, base_nil, base_c, base_t, base_f, base_p, pass_none, pass_c0, pass_c1, pass_c2, pass_big0, pass_big1, pass_big2, pass_big3, pass_big4, unslot_none, unslot_some,
    ga0, ga, sa0, sa, app2, len2, g0, g1, g2, s0, s1, s2, d0, d1, d2, sp1, load_ptr, loadC_1, store_ptr, storeC_1, on_bool, on_int, on_str, on_lst, on_nils, on_fn, on_ptr, on_iptr, on_map, all1, all0,
    List.nil_append, List.append_nil, List.cons_append, reduceCtorEq, or_true, true_or, true_and, and_true, true_implies, forall_const, Bool.true_and, Bool.and_true, Bool.not_true, Bool.not_false, decide_true, decide_false,
    avs_len, T.av_blw, avs_blw, T.av_val, T.av_one, T.av_unown, T.av_drop, T.cells_unown, T.cells_drop, T.av_clen, T.agg_cells, lens_avs, idx_avs, load_iptr_T, sp_T, bl_T, loadC_T, Nat.le_refl, fk, fn_, fl, ints_len, ints_blw, lens_ints, idx_ints, cn_int, cn_T, bs1, bs2, bs3, List.length_cons, List.length_nil]
  refine scall_pure c13 ?_
  simp only [nrm_eq, swp_skip, swp_region, swp_draw, swp_seq, swp_cond, swp_block, swp_exit, swp_ret, aops_nil, aops_n, aops_g, agd_n, agd_g, adtS_done, adtS_nil, adtS_n, adtS_g, adtS_br, put_none, put_some, gt_cons, gt_nil, op_bin, op_shift, op_eqBool, op_eqNil, op_un, op_box, op_boxi, op_boxs, op_alloc, op_build, op_buildSlice, op_load, op_takeCell, op_store, op_putCell, op_nilCheck, op_fieldAddr, op_field, op_indexAddr, op_indexStr, op_slice, op_copy, op_sliceStr, op_len, op_append, op_mkarr, op_mkbuf, op_mkmap, op_lookup, op_mapset, op_fn, op_extract, op_convInt, op_convStr, op_bytesOf, op_strOf, op_mx, op_setf, op_set_n, op_set, op_take, op_takec, op_pick, op_call, dv_set, dv_pick, dv_bin, dv_shift, dv_eqBool, dv_eqNil, dv_un, dv_boxi, dv_build, dv_buildSlice, dv_load_true, dv_load_false, dv_nilCheck, dv_fieldAddr, dv_field, dv_indexAddr, dv_indexStr, dv_slice, dv_sliceStr, dv_len_true, dv_len_false, dv_lookup_true, dv_lookup_false, dv_fn, dv_extract, dv_convInt, dv_mx, dv_call, prune_none, prune_nil, prune_cons, argEnv_nil, argEnv_cons, aval_t, aval_c, alenD_lst, alenD_nils, alenD_str, alenD_arr, map_nil', map_cons', Nat.reduceEqDiff, Nat.reduceAdd, reduceIte, if_true,
    scond_t, scond_f, scond_n, scond_d, sg_tt, sg_tf, sg_ft, sg_ff, sg_u, sg_dt, sg_df, acall_s, scallD_fn,
    un_any, un_bool, un_int, un_str, un_nils, un_lst, un_arr, un_agg, un_tuple, un_ptr, un_iptr, un_nilp, un_map, un_nilm, un_fn, un_nilf, ce_bool, ce_int, ce_str, ce_nils, ce_lst, ce_agg, ce_fn, ce_nilf, ce_ptr, ce_iptr, ce_map,
    dr_bool, dr_int, dr_str, dr_nils, dr_lst, dr_agg, dr_fn, dr_nilf, dr_ptr, dr_iptr, dr_map, va_bool, va_int, va_str, va_nils, va_lst, va_agg, va_fn, va_nilf, va_ptr, va_iptr, va_map,
    bw_bool, bw_int, bw_str, bw_nils, bw_lst, bw_agg, bw_tuple, bw_ptr, bw_map, bw_arr, bw_iptr, bw_fn, bw_nilf, bl_nil, bl_cons, eb_nil, eb_cons,
    ab_add, ab_sub, ab_mul, ab_rem, ab_quo, ab_eql, ab_neq, ab_lss, ab_leq, ab_gtr, ab_geq, as_eql, as_neq, as_add, au_not, au_neg, ae_neq, ae_eql, bp_b, al_str, al_nils, al_lst, al_arr, al_nilm, lo_str, lo_nils, lo_lst, lo_arr, lo_nilm, lo_map,
    li_bool, li_int, li_str, li_lst, li_nils, li_fn, nc_ptr, nc_iptr, ex_tuple, fa_ptr, base_nil, base_c, base_t, base_f, base_p, pass_none, pass_c0, pass_c1, pass_c2, pass_big0, pass_big1, pass_big2, pass_big3, pass_big4, unslot_none, unslot_some,
    ga0, ga, sa0, sa, app2, len2, g0, g1, g2, s0, s1, s2, d0, d1, d2, sp1, load_ptr, loadC_1, store_ptr, storeC_1, on_bool, on_int, on_str, on_lst, on_nils, on_fn, on_ptr, on_iptr, on_map, all1, all0,
    List.nil_append, List.append_nil, List.cons_append, reduceCtorEq, or_true, true_or, true_and, and_true, true_implies, forall_const, Bool.true_and, Bool.and_true, Bool.not_true, Bool.not_false, decide_true, decide_false,
    avs_len, T.av_blw, avs_blw, T.av_val, T.av_one, T.av_unown, T.av_drop, T.cells_unown, T.cells_drop, T.av_clen, T.agg_cells, lens_avs, idx_avs, load_iptr_T, sp_T, bl_T, loadC_T, Nat.le_refl, fk, fn_, fl, ints_len, ints_blw, lens_ints, idx_ints, cn_int, cn_T, bs1, bs2, bs3, List.length_cons, List.length_nil]
  refine scall_pure (c14 [a, b, c]) ?_
  simp only [nrm_eq, swp_skip, swp_region, swp_draw, swp_seq, swp_cond, swp_block, swp_exit, swp_ret, aops_nil, aops_n, aops_g, agd_n, agd_g, adtS_done, adtS_nil, adtS_n, adtS_g, adtS_br, put_none, put_some, gt_cons, gt_nil, op_bin, op_shift, op_eqBool, op_eqNil, op_un, op_box, op_boxi, op_boxs, op_alloc, op_build, op_buildSlice, op_load, op_takeCell, op_store, op_putCell, op_nilCheck, op_fieldAddr, op_field, op_indexAddr, op_indexStr, op_slice, op_copy, op_sliceStr, op_len, op_append, op_mkarr, op_mkbuf, op_mkmap, op_lookup, op_mapset, op_fn, op_extract, op_convInt, op_convStr, op_bytesOf, op_strOf, op_mx, op_setf, op_set_n, op_set, op_take, op_takec, op_pick, op_call, dv_set, dv_pick, dv_bin, dv_shift, dv_eqBool, dv_eqNil, dv_un, dv_boxi, dv_build, dv_buildSlice, dv_load_true, dv_load_false, dv_nilCheck, dv_fieldAddr, dv_field, dv_indexAddr, dv_indexStr, dv_slice, dv_sliceStr, dv_len_true, dv_len_false, dv_lookup_true, dv_lookup_false, dv_fn, dv_extract, dv_convInt, dv_mx, dv_call, prune_none, prune_nil, prune_cons, argEnv_nil, argEnv_cons, aval_t, aval_c, alenD_lst, alenD_nils, alenD_str, alenD_arr, map_nil', map_cons', Nat.reduceEqDiff, Nat.reduceAdd, reduceIte, if_true,
    scond_t, scond_f, scond_n, scond_d, sg_tt, sg_tf, sg_ft, sg_ff, sg_u, sg_dt, sg_df, acall_s, scallD_fn,
    un_any, un_bool, un_int, un_str, un_nils, un_lst, un_arr, un_agg, un_tuple, un_ptr, un_iptr, un_nilp, un_map, un_nilm, un_fn, un_nilf, ce_bool, ce_int, ce_str, ce_nils, ce_lst, ce_agg, ce_fn, ce_nilf, ce_ptr, ce_iptr, ce_map,
    dr_bool, dr_int, dr_str, dr_nils, dr_lst, dr_agg, dr_fn, dr_nilf, dr_ptr, dr_iptr, dr_map, va_bool, va_int, va_str, va_nils, va_lst, va_agg, va_fn, va_nilf, va_ptr, va_iptr, va_map,
    bw_bool, bw_int, bw_str, bw_nils, bw_lst, bw_agg, bw_tuple, bw_ptr, bw_map, bw_arr, bw_iptr, bw_fn, bw_nilf, bl_nil, bl_cons, eb_nil, eb_cons,
    ab_add, ab_sub, ab_mul, ab_rem, ab_quo, ab_eql, ab_neq, ab_lss, ab_leq, ab_gtr, ab_geq, as_eql, as_neq, as_add, au_not, au_neg, ae_neq, ae_eql, bp_b, al_str, al_nils, al_lst, al_arr, al_nilm, lo_str, lo_nils, lo_lst, lo_arr, lo_nilm, lo_map,
    li_bool, li_int, li_str, li_lst, li_nils, li_fn, nc_ptr, nc_iptr, ex_tuple, fa_ptr, base_nil, base_c, base_t, base_f, base_p, pass_none, pass_c0, pass_c1, pass_c2, pass_big0, pass_big1, pass_big2, pass_big3, pass_big4, unslot_none, unslot_some,
    ga0, ga, sa0, sa, app2, len2, g0, g1, g2, s0, s1, s2, d0, d1, d2, sp1, load_ptr, loadC_1, store_ptr, storeC_1, on_bool, on_int, on_str, on_lst, on_nils, on_fn, on_ptr, on_iptr, on_map, all1, all0,
    List.nil_append, List.append_nil, List.cons_append, reduceCtorEq, or_true, true_or, true_and, and_true, true_implies, forall_const, Bool.true_and, Bool.and_true, Bool.not_true, Bool.not_false, decide_true, decide_false,
    avs_len, T.av_blw, avs_blw, T.av_val, T.av_one, T.av_unown, T.av_drop, T.cells_unown, T.cells_drop, T.av_clen, T.agg_cells, lens_avs, idx_avs, load_iptr_T, sp_T, bl_T, loadC_T, Nat.le_refl, fk, fn_, fl, ints_len, ints_blw, lens_ints, idx_ints, cn_int, cn_T, bs1, bs2, bs3, List.length_cons, List.length_nil]
  refine scond_b (fun _ => ?_) (fun _ => ?_) <;> simp only [nrm_eq, swp_skip, swp_region, swp_draw, swp_seq, swp_cond, swp_block, swp_exit, swp_ret, aops_nil, aops_n, aops_g, agd_n, agd_g, adtS_done, adtS_nil, adtS_n, adtS_g, adtS_br, put_none, put_some, gt_cons, gt_nil, op_bin, op_shift, op_eqBool, op_eqNil, op_un, op_box, op_boxi, op_boxs, op_alloc, op_build, op_buildSlice, op_load, op_takeCell, op_store, op_putCell, op_nilCheck, op_fieldAddr, op_field, op_indexAddr, op_indexStr, op_slice, op_copy, op_sliceStr, op_len, op_append, op_mkarr, op_mkbuf, op_mkmap, op_lookup, op_mapset, op_fn, op_extract, op_convInt, op_convStr, op_bytesOf, op_strOf, op_mx, op_setf, op_set_n, op_set, op_take, op_takec, op_pick, op_call, dv_set, dv_pick, dv_bin, dv_shift, dv_eqBool, dv_eqNil, dv_un, dv_boxi, dv_build, dv_buildSlice, dv_load_true, dv_load_false, dv_nilCheck, dv_fieldAddr, dv_field, dv_indexAddr, dv_indexStr, dv_slice, dv_sliceStr, dv_len_true, dv_len_false, dv_lookup_true, dv_lookup_false, dv_fn, dv_extract, dv_convInt, dv_mx, dv_call, prune_none, prune_nil, prune_cons, argEnv_nil, argEnv_cons, aval_t, aval_c, alenD_lst, alenD_nils, alenD_str, alenD_arr, map_nil', map_cons', Nat.reduceEqDiff, Nat.reduceAdd, reduceIte, if_true,
    scond_t, scond_f, scond_n, scond_d, sg_tt, sg_tf, sg_ft, sg_ff, sg_u, sg_dt, sg_df, acall_s, scallD_fn,
    un_any, un_bool, un_int, un_str, un_nils, un_lst, un_arr, un_agg, un_tuple, un_ptr, un_iptr, un_nilp, un_map, un_nilm, un_fn, un_nilf, ce_bool, ce_int, ce_str, ce_nils, ce_lst, ce_agg, ce_fn, ce_nilf, ce_ptr, ce_iptr, ce_map,
    dr_bool, dr_int, dr_str, dr_nils, dr_lst, dr_agg, dr_fn, dr_nilf, dr_ptr, dr_iptr, dr_map, va_bool, va_int, va_str, va_nils, va_lst, va_agg, va_fn, va_nilf, va_ptr, va_iptr, va_map,
    bw_bool, bw_int, bw_str, bw_nils, bw_lst, bw_agg, bw_tuple, bw_ptr, bw_map, bw_arr, bw_iptr, bw_fn, bw_nilf, bl_nil, bl_cons, eb_nil, eb_cons,
    ab_add, ab_sub, ab_mul, ab_rem, ab_quo, ab_eql, ab_neq, ab_lss, ab_leq, ab_gtr, ab_geq, as_eql, as_neq, as_add, au_not, au_neg, ae_neq, ae_eql, bp_b, al_str, al_nils, al_lst, al_arr, al_nilm, lo_str, lo_nils, lo_lst, lo_arr, lo_nilm, lo_map,
    li_bool, li_int, li_str, li_lst, li_nils, li_fn, nc_ptr, nc_iptr, ex_tuple, fa_ptr, base_nil, base_c, base_t, base_f, base_p, pass_none, pass_c0, pass_c1, pass_c2, pass_big0, pass_big1, pass_big2, pass_big3, pass_big4, unslot_none, unslot_some,
    ga0, ga, sa0, sa, app2, len2, g0, g1, g2, s0, s1, s2, d0, d1, d2, sp1, load_ptr, loadC_1, store_ptr, storeC_1, on_bool, on_int, on_str, on_lst, on_nils, on_fn, on_ptr, on_iptr, on_map, all1, all0,
    List.nil_append, List.append_nil, List.cons_append, reduceCtorEq, or_true, true_or, true_and, and_true, true_implies, forall_const, Bool.true_and, Bool.and_true, Bool.not_true, Bool.not_false, decide_true, decide_false,
    avs_len, T.av_blw, avs_blw, T.av_val, T.av_one, T.av_unown, T.av_drop, T.cells_unown, T.cells_drop, T.av_clen, T.agg_cells, lens_avs, idx_avs, load_iptr_T, sp_T, bl_T, loadC_T, Nat.le_refl, fk, fn_, fl, ints_len, ints_blw, lens_ints, idx_ints, cn_int, cn_T, bs1, bs2, bs3, List.length_cons, List.length_nil]
  rotate_left
  · exact ret0 rfl rfl
  refine dcall_pure (c23 _ _) ?_
  simp only [nrm_eq, swp_skip, swp_region, swp_draw, swp_seq, swp_cond, swp_block, swp_exit, swp_ret, aops_nil, aops_n, aops_g, agd_n, agd_g, adtS_done, adtS_nil, adtS_n, adtS_g, adtS_br, put_none, put_some, gt_cons, gt_nil, op_bin, op_shift, op_eqBool, op_eqNil, op_un, op_box, op_boxi, op_boxs, op_alloc, op_build, op_buildSlice, op_load, op_takeCell, op_store, op_putCell, op_nilCheck, op_fieldAddr, op_field, op_indexAddr, op_indexStr, op_slice, op_copy, op_sliceStr, op_len, op_append, op_mkarr, op_mkbuf, op_mkmap, op_lookup, op_mapset, op_fn, op_extract, op_convInt, op_convStr, op_bytesOf, op_strOf, op_mx, op_setf, op_set_n, op_set, op_take, op_takec, op_pick, op_call, dv_set, dv_pick, dv_bin, dv_shift, dv_eqBool, dv_eqNil, dv_un, dv_boxi, dv_build, dv_buildSlice, dv_load_true, dv_load_false, dv_nilCheck, dv_fieldAddr, dv_field, dv_indexAddr, dv_indexStr, dv_slice, dv_sliceStr, dv_len_true, dv_len_false, dv_lookup_true, dv_lookup_false, dv_fn, dv_extract, dv_convInt, dv_mx, dv_call, prune_none, prune_nil, prune_cons, argEnv_nil, argEnv_cons, aval_t, aval_c, alenD_lst, alenD_nils, alenD_str, alenD_arr, map_nil', map_cons', Nat.reduceEqDiff, Nat.reduceAdd, reduceIte, if_true,
    scond_t, scond_f, scond_n, scond_d, sg_tt, sg_tf, sg_ft, sg_ff, sg_u, sg_dt, sg_df, acall_s, scallD_fn,
    un_any, un_bool, un_int, un_str, un_nils, un_lst, un_arr, un_agg, un_tuple, un_ptr, un_iptr, un_nilp, un_map, un_nilm, un_fn, un_nilf, ce_bool, ce_int, ce_str, ce_nils, ce_lst, ce_agg, ce_fn, ce_nilf, ce_ptr, ce_iptr, ce_map,
    dr_bool, dr_int, dr_str, dr_nils, dr_lst, dr_agg, dr_fn, dr_nilf, dr_ptr, dr_iptr, dr_map, va_bool, va_int, va_str, va_nils, va_lst, va_agg, va_fn, va_nilf, va_ptr, va_iptr, va_map,
    bw_bool, bw_int, bw_str, bw_nils, bw_lst, bw_agg, bw_tuple, bw_ptr, bw_map, bw_arr, bw_iptr, bw_fn, bw_nilf, bl_nil, bl_cons, eb_nil, eb_cons,
    ab_add, ab_sub, ab_mul, ab_rem, ab_quo, ab_eql, ab_neq, ab_lss, ab_leq, ab_gtr, ab_geq, as_eql, as_neq, as_add, au_not, au_neg, ae_neq, ae_eql, bp_b, al_str, al_nils, al_lst, al_arr, al_nilm, lo_str, lo_nils, lo_lst, lo_arr, lo_nilm, lo_map,
    li_bool, li_int, li_str, li_lst, li_nils, li_fn, nc_ptr, nc_iptr, ex_tuple, fa_ptr, base_nil, base_c, base_t, base_f, base_p, pass_none, pass_c0, pass_c1, pass_c2, pass_big0, pass_big1, pass_big2, pass_big3, pass_big4, unslot_none, unslot_some,
    ga0, ga, sa0, sa, app2, len2, g0, g1, g2, s0, s1, s2, d0, d1, d2, sp1, load_ptr, loadC_1, store_ptr, storeC_1, on_bool, on_int, on_str, on_lst, on_nils, on_fn, on_ptr, on_iptr, on_map, all1, all0,
    List.nil_append, List.append_nil, List.cons_append, reduceCtorEq, or_true, true_or, true_and, and_true, true_implies, forall_const, Bool.true_and, Bool.and_true, Bool.not_true, Bool.not_false, decide_true, decide_false,
    avs_len, T.av_blw, avs_blw, T.av_val, T.av_one, T.av_unown, T.av_drop, T.cells_unown, T.cells_drop, T.av_clen, T.agg_cells, lens_avs, idx_avs, load_iptr_T, sp_T, bl_T, loadC_T, Nat.le_refl, fk, fn_, fl, ints_len, ints_blw, lens_ints, idx_ints, cn_int, cn_T, bs1, bs2, bs3, List.length_cons, List.length_nil]
  refine dcall_pure (c23 _ _) ?_
  simp only [nrm_eq, swp_skip, swp_region, swp_draw, swp_seq, swp_cond, swp_block, swp_exit, swp_ret, aops_nil, aops_n, aops_g, agd_n, agd_g, adtS_done, adtS_nil, adtS_n, adtS_g, adtS_br, put_none, put_some, gt_cons, gt_nil, op_bin, op_shift, op_eqBool, op_eqNil, op_un, op_box, op_boxi, op_boxs, op_alloc, op_build, op_buildSlice, op_load, op_takeCell, op_store, op_putCell, op_nilCheck, op_fieldAddr, op_field, op_indexAddr, op_indexStr, op_slice, op_copy, op_sliceStr, op_len, op_append, op_mkarr, op_mkbuf, op_mkmap, op_lookup, op_mapset, op_fn, op_extract, op_convInt, op_convStr, op_bytesOf, op_strOf, op_mx, op_setf, op_set_n, op_set, op_take, op_takec, op_pick, op_call, dv_set, dv_pick, dv_bin, dv_shift, dv_eqBool, dv_eqNil, dv_un, dv_boxi, dv_build, dv_buildSlice, dv_load_true, dv_load_false, dv_nilCheck, dv_fieldAddr, dv_field, dv_indexAddr, dv_indexStr, dv_slice, dv_sliceStr, dv_len_true, dv_len_false, dv_lookup_true, dv_lookup_false, dv_fn, dv_extract, dv_convInt, dv_mx, dv_call, prune_none, prune_nil, prune_cons, argEnv_nil, argEnv_cons, aval_t, aval_c, alenD_lst, alenD_nils, alenD_str, alenD_arr, map_nil', map_cons', Nat.reduceEqDiff, Nat.reduceAdd, reduceIte, if_true,
    scond_t, scond_f, scond_n, scond_d, sg_tt, sg_tf, sg_ft, sg_ff, sg_u, sg_dt, sg_df, acall_s, scallD_fn,
    un_any, un_bool, un_int, un_str, un_nils, un_lst, un_arr, un_agg, un_tuple, un_ptr, un_iptr, un_nilp, un_map, un_nilm, un_fn, un_nilf, ce_bool, ce_int, ce_str, ce_nils, ce_lst, ce_agg, ce_fn, ce_nilf, ce_ptr, ce_iptr, ce_map,
    dr_bool, dr_int, dr_str, dr_nils, dr_lst, dr_agg, dr_fn, dr_nilf, dr_ptr, dr_iptr, dr_map, va_bool, va_int, va_str, va_nils, va_lst, va_agg, va_fn, va_nilf, va_ptr, va_iptr, va_map,
    bw_bool, bw_int, bw_str, bw_nils, bw_lst, bw_agg, bw_tuple, bw_ptr, bw_map, bw_arr, bw_iptr, bw_fn, bw_nilf, bl_nil, bl_cons, eb_nil, eb_cons,
    ab_add, ab_sub, ab_mul, ab_rem, ab_quo, ab_eql, ab_neq, ab_lss, ab_leq, ab_gtr, ab_geq, as_eql, as_neq, as_add, au_not, au_neg, ae_neq, ae_eql, bp_b, al_str, al_nils, al_lst, al_arr, al_nilm, lo_str, lo_nils, lo_lst, lo_arr, lo_nilm, lo_map,
    li_bool, li_int, li_str, li_lst, li_nils, li_fn, nc_ptr, nc_iptr, ex_tuple, fa_ptr, base_nil, base_c, base_t, base_f, base_p, pass_none, pass_c0, pass_c1, pass_c2, pass_big0, pass_big1, pass_big2, pass_big3, pass_big4, unslot_none, unslot_some,
    ga0, ga, sa0, sa, app2, len2, g0, g1, g2, s0, s1, s2, d0, d1, d2, sp1, load_ptr, loadC_1, store_ptr, storeC_1, on_bool, on_int, on_str, on_lst, on_nils, on_fn, on_ptr, on_iptr, on_map, all1, all0,
    List.nil_append, List.append_nil, List.cons_append, reduceCtorEq, or_true, true_or, true_and, and_true, true_implies, forall_const, Bool.true_and, Bool.and_true, Bool.not_true, Bool.not_false, decide_true, decide_false,
    avs_len, T.av_blw, avs_blw, T.av_val, T.av_one, T.av_unown, T.av_drop, T.cells_unown, T.cells_drop, T.av_clen, T.agg_cells, lens_avs, idx_avs, load_iptr_T, sp_T, bl_T, loadC_T, Nat.le_refl, fk, fn_, fl, ints_len, ints_blw, lens_ints, idx_ints, cn_int, cn_T, bs1, bs2, bs3, List.length_cons, List.length_nil]
  refine dcall_pure (c23 _ _) ?_
  simp only [nrm_eq, swp_skip, swp_region, swp_draw, swp_seq, swp_cond, swp_block, swp_exit, swp_ret, aops_nil, aops_n, aops_g, agd_n, agd_g, adtS_done, adtS_nil, adtS_n, adtS_g, adtS_br, put_none, put_some, gt_cons, gt_nil, op_bin, op_shift, op_eqBool, op_eqNil, op_un, op_box, op_boxi, op_boxs, op_alloc, op_build, op_buildSlice, op_load, op_takeCell, op_store, op_putCell, op_nilCheck, op_fieldAddr, op_field, op_indexAddr, op_indexStr, op_slice, op_copy, op_sliceStr, op_len, op_append, op_mkarr, op_mkbuf, op_mkmap, op_lookup, op_mapset, op_fn, op_extract, op_convInt, op_convStr, op_bytesOf, op_strOf, op_mx, op_setf, op_set_n, op_set, op_take, op_takec, op_pick, op_call, dv_set, dv_pick, dv_bin, dv_shift, dv_eqBool, dv_eqNil, dv_un, dv_boxi, dv_build, dv_buildSlice, dv_load_true, dv_load_false, dv_nilCheck, dv_fieldAddr, dv_field, dv_indexAddr, dv_indexStr, dv_slice, dv_sliceStr, dv_len_true, dv_len_false, dv_lookup_true, dv_lookup_false, dv_fn, dv_extract, dv_convInt, dv_mx, dv_call, prune_none, prune_nil, prune_cons, argEnv_nil, argEnv_cons, aval_t, aval_c, alenD_lst, alenD_nils, alenD_str, alenD_arr, map_nil', map_cons', Nat.reduceEqDiff, Nat.reduceAdd, reduceIte, if_true,
    scond_t, scond_f, scond_n, scond_d, sg_tt, sg_tf, sg_ft, sg_ff, sg_u, sg_dt, sg_df, acall_s, scallD_fn,
    un_any, un_bool, un_int, un_str, un_nils, un_lst, un_arr, un_agg, un_tuple, un_ptr, un_iptr, un_nilp, un_map, un_nilm, un_fn, un_nilf, ce_bool, ce_int, ce_str, ce_nils, ce_lst, ce_agg, ce_fn, ce_nilf, ce_ptr, ce_iptr, ce_map,
    dr_bool, dr_int, dr_str, dr_nils, dr_lst, dr_agg, dr_fn, dr_nilf, dr_ptr, dr_iptr, dr_map, va_bool, va_int, va_str, va_nils, va_lst, va_agg, va_fn, va_nilf, va_ptr, va_iptr, va_map,
    bw_bool, bw_int, bw_str, bw_nils, bw_lst, bw_agg, bw_tuple, bw_ptr, bw_map, bw_arr, bw_iptr, bw_fn, bw_nilf, bl_nil, bl_cons, eb_nil, eb_cons,
    ab_add, ab_sub, ab_mul, ab_rem, ab_quo, ab_eql, ab_neq, ab_lss, ab_leq, ab_gtr, ab_geq, as_eql, as_neq, as_add, au_not, au_neg, ae_neq, ae_eql, bp_b, al_str, al_nils, al_lst, al_arr, al_nilm, lo_str, lo_nils, lo_lst, lo_arr, lo_nilm, lo_map,
    li_bool, li_int, li_str, li_lst, li_nils, li_fn, nc_ptr, nc_iptr, ex_tuple, fa_ptr, base_nil, base_c, base_t, base_f, base_p, pass_none, pass_c0, pass_c1, pass_c2, pass_big0, pass_big1, pass_big2, pass_big3, pass_big4, unslot_none, unslot_some,
    ga0, ga, sa0, sa, app2, len2, g0, g1, g2, s0, s1, s2, d0, d1, d2, sp1, load_ptr, loadC_1, store_ptr, storeC_1, on_bool, on_int, on_str, on_lst, on_nils, on_fn, on_ptr, on_iptr, on_map, all1, all0,
    List.nil_append, List.append_nil, List.cons_append, reduceCtorEq, or_true, true_or, true_and, and_true, true_implies, forall_const, Bool.true_and, Bool.and_true, Bool.not_true, Bool.not_false, decide_true, decide_false,
    avs_len, T.av_blw, avs_blw, T.av_val, T.av_one, T.av_unown, T.av_drop, T.cells_unown, T.cells_drop, T.av_clen, T.agg_cells, lens_avs, idx_avs, load_iptr_T, sp_T, bl_T, loadC_T, Nat.le_refl, fk, fn_, fl, ints_len, ints_blw, lens_ints, idx_ints, cn_int, cn_T, bs1, bs2, bs3, List.length_cons, List.length_nil]
  refine scall_pure (c23 _ _) ?_
  simp only [nrm_eq, swp_skip, swp_region, swp_draw, swp_seq, swp_cond, swp_block, swp_exit, swp_ret, aops_nil, aops_n, aops_g, agd_n, agd_g, adtS_done, adtS_nil, adtS_n, adtS_g, adtS_br, put_none, put_some, gt_cons, gt_nil, op_bin, op_shift, op_eqBool, op_eqNil, op_un, op_box, op_boxi, op_boxs, op_alloc, op_build, op_buildSlice, op_load, op_takeCell, op_store, op_putCell, op_nilCheck, op_fieldAddr, op_field, op_indexAddr, op_indexStr, op_slice, op_copy, op_sliceStr, op_len, op_append, op_mkarr, op_mkbuf, op_mkmap, op_lookup, op_mapset, op_fn, op_extract, op_convInt, op_convStr, op_bytesOf, op_strOf, op_mx, op_setf, op_set_n, op_set, op_take, op_takec, op_pick, op_call, dv_set, dv_pick, dv_bin, dv_shift, dv_eqBool, dv_eqNil, dv_un, dv_boxi, dv_build, dv_buildSlice, dv_load_true, dv_load_false, dv_nilCheck, dv_fieldAddr, dv_field, dv_indexAddr, dv_indexStr, dv_slice, dv_sliceStr, dv_len_true, dv_len_false, dv_lookup_true, dv_lookup_false, dv_fn, dv_extract, dv_convInt, dv_mx, dv_call, prune_none, prune_nil, prune_cons, argEnv_nil, argEnv_cons, aval_t, aval_c, alenD_lst, alenD_nils, alenD_str, alenD_arr, map_nil', map_cons', Nat.reduceEqDiff, Nat.reduceAdd, reduceIte, if_true,
    scond_t, scond_f, scond_n, scond_d, sg_tt, sg_tf, sg_ft, sg_ff, sg_u, sg_dt, sg_df, acall_s, scallD_fn,
    un_any, un_bool, un_int, un_str, un_nils, un_lst, un_arr, un_agg, un_tuple, un_ptr, un_iptr, un_nilp, un_map, un_nilm, un_fn, un_nilf, ce_bool, ce_int, ce_str, ce_nils, ce_lst, ce_agg, ce_fn, ce_nilf, ce_ptr, ce_iptr, ce_map,
    dr_bool, dr_int, dr_str, dr_nils, dr_lst, dr_agg, dr_fn, dr_nilf, dr_ptr, dr_iptr, dr_map, va_bool, va_int, va_str, va_nils, va_lst, va_agg, va_fn, va_nilf, va_ptr, va_iptr, va_map,
    bw_bool, bw_int, bw_str, bw_nils, bw_lst, bw_agg, bw_tuple, bw_ptr, bw_map, bw_arr, bw_iptr, bw_fn, bw_nilf, bl_nil, bl_cons, eb_nil, eb_cons,
    ab_add, ab_sub, ab_mul, ab_rem, ab_quo, ab_eql, ab_neq, ab_lss, ab_leq, ab_gtr, ab_geq, as_eql, as_neq, as_add, au_not, au_neg, ae_neq, ae_eql, bp_b, al_str, al_nils, al_lst, al_arr, al_nilm, lo_str, lo_nils, lo_lst, lo_arr, lo_nilm, lo_map,
    li_bool, li_int, li_str, li_lst, li_nils, li_fn, nc_ptr, nc_iptr, ex_tuple, fa_ptr, base_nil, base_c, base_t, base_f, base_p, pass_none, pass_c0, pass_c1, pass_c2, pass_big0, pass_big1, pass_big2, pass_big3, pass_big4, unslot_none, unslot_some,
    ga0, ga, sa0, sa, app2, len2, g0, g1, g2, s0, s1, s2, d0, d1, d2, sp1, load_ptr, loadC_1, store_ptr, storeC_1, on_bool, on_int, on_str, on_lst, on_nils, on_fn, on_ptr, on_iptr, on_map, all1, all0,
    List.nil_append, List.append_nil, List.cons_append, reduceCtorEq, or_true, true_or, true_and, and_true, true_implies, forall_const, Bool.true_and, Bool.and_true, Bool.not_true, Bool.not_false, decide_true, decide_false,
    avs_len, T.av_blw, avs_blw, T.av_val, T.av_one, T.av_unown, T.av_drop, T.cells_unown, T.cells_drop, T.av_clen, T.agg_cells, lens_avs, idx_avs, load_iptr_T, sp_T, bl_T, loadC_T, Nat.le_refl, fk, fn_, fl, ints_len, ints_blw, lens_ints, idx_ints, cn_int, cn_T, bs1, bs2, bs3, List.length_cons, List.length_nil]
  have r1 := T.cmp_range a b
  have hw : IntKind.i64.wrap (0 - b.cmp a) = a.cmp b := by rw [T.cmp_anti a b, wrap_in _ (by omega)]; omega
  simp only [hw, nrm_eq, swp_skip, swp_region, swp_draw, swp_seq, swp_cond, swp_block, swp_exit, swp_ret, aops_nil, aops_n, aops_g, agd_n, agd_g, adtS_done, adtS_nil, adtS_n, adtS_g, adtS_br, put_none, put_some, gt_cons, gt_nil, op_bin, op_shift, op_eqBool, op_eqNil, op_un, op_box, op_boxi, op_boxs, op_alloc, op_build, op_buildSlice, op_load, op_takeCell, op_store, op_putCell, op_nilCheck, op_fieldAddr, op_field, op_indexAddr, op_indexStr, op_slice, op_copy, op_sliceStr, op_len, op_append, op_mkarr, op_mkbuf, op_mkmap, op_lookup, op_mapset, op_fn, op_extract, op_convInt, op_convStr, op_bytesOf, op_strOf, op_mx, op_setf, op_set_n, op_set, op_take, op_takec, op_pick, op_call, dv_set, dv_pick, dv_bin, dv_shift, dv_eqBool, dv_eqNil, dv_un, dv_boxi, dv_build, dv_buildSlice, dv_load_true, dv_load_false, dv_nilCheck, dv_fieldAddr, dv_field, dv_indexAddr, dv_indexStr, dv_slice, dv_sliceStr, dv_len_true, dv_len_false, dv_lookup_true, dv_lookup_false, dv_fn, dv_extract, dv_convInt, dv_mx, dv_call, prune_none, prune_nil, prune_cons, argEnv_nil, argEnv_cons, aval_t, aval_c, alenD_lst, alenD_nils, alenD_str, alenD_arr, map_nil', map_cons', Nat.reduceEqDiff, Nat.reduceAdd, reduceIte, if_true,
    scond_t, scond_f, scond_n, scond_d, sg_tt, sg_tf, sg_ft, sg_ff, sg_u, sg_dt, sg_df, acall_s, scallD_fn,
    un_any, un_bool, un_int, un_str, un_nils, un_lst, un_arr, un_agg, un_tuple, un_ptr, un_iptr, un_nilp, un_map, un_nilm, un_fn, un_nilf, ce_bool, ce_int, ce_str, ce_nils, ce_lst, ce_agg, ce_fn, ce_nilf, ce_ptr, ce_iptr, ce_map,
    dr_bool, dr_int, dr_str, dr_nils, dr_lst, dr_agg, dr_fn, dr_nilf, dr_ptr, dr_iptr, dr_map, va_bool, va_int, va_str, va_nils, va_lst, va_agg, va_fn, va_nilf, va_ptr, va_iptr, va_map,
    bw_bool, bw_int, bw_str, bw_nils, bw_lst, bw_agg, bw_tuple, bw_ptr, bw_map, bw_arr, bw_iptr, bw_fn, bw_nilf, bl_nil, bl_cons, eb_nil, eb_cons,
    ab_add, ab_sub, ab_mul, ab_rem, ab_quo, ab_eql, ab_neq, ab_lss, ab_leq, ab_gtr, ab_geq, as_eql, as_neq, as_add, au_not, au_neg, ae_neq, ae_eql, bp_b, al_str, al_nils, al_lst, al_arr, al_nilm, lo_str, lo_nils, lo_lst, lo_arr, lo_nilm, lo_map,
    li_bool, li_int, li_str, li_lst, li_nils, li_fn, nc_ptr, nc_iptr, ex_tuple, fa_ptr, base_nil, base_c, base_t, base_f, base_p, pass_none, pass_c0, pass_c1, pass_c2, pass_big0, pass_big1, pass_big2, pass_big3, pass_big4, unslot_none, unslot_some,
    ga0, ga, sa0, sa, app2, len2, g0, g1, g2, s0, s1, s2, d0, d1, d2, sp1, load_ptr, loadC_1, store_ptr, storeC_1, on_bool, on_int, on_str, on_lst, on_nils, on_fn, on_ptr, on_iptr, on_map, all1, all0,
    List.nil_append, List.append_nil, List.cons_append, reduceCtorEq, or_true, true_or, true_and, and_true, true_implies, forall_const, Bool.true_and, Bool.and_true, Bool.not_true, Bool.not_false, decide_true, decide_false,
    avs_len, T.av_blw, avs_blw, T.av_val, T.av_one, T.av_unown, T.av_drop, T.cells_unown, T.cells_drop, T.av_clen, T.agg_cells, lens_avs, idx_avs, load_iptr_T, sp_T, bl_T, loadC_T, Nat.le_refl, fk, fn_, fl, ints_len, ints_blw, lens_ints, idx_ints, cn_int, cn_T, bs1, bs2, bs3, List.length_cons, List.length_nil]
  refine ⟨fun _ => ⟨fun _ => ⟨fun _ => scall_pure (c24 a b) ?_, fun h => absurd h (by omega)⟩, fun h => absurd h (by omega)⟩, fun h => absurd rfl h⟩
  simp only [nrm_eq, swp_skip, swp_region, swp_draw, swp_seq, swp_cond, swp_block, swp_exit, swp_ret, aops_nil, aops_n, aops_g, agd_n, agd_g, adtS_done, adtS_nil, adtS_n, adtS_g, adtS_br, put_none, put_some, gt_cons, gt_nil, op_bin, op_shift, op_eqBool, op_eqNil, op_un, op_box, op_boxi, op_boxs, op_alloc, op_build, op_buildSlice, op_load, op_takeCell, op_store, op_putCell, op_nilCheck, op_fieldAddr, op_field, op_indexAddr, op_indexStr, op_slice, op_copy, op_sliceStr, op_len, op_append, op_mkarr, op_mkbuf, op_mkmap, op_lookup, op_mapset, op_fn, op_extract, op_convInt, op_convStr, op_bytesOf, op_strOf, op_mx, op_setf, op_set_n, op_set, op_take, op_takec, op_pick, op_call, dv_set, dv_pick, dv_bin, dv_shift, dv_eqBool, dv_eqNil, dv_un, dv_boxi, dv_build, dv_buildSlice, dv_load_true, dv_load_false, dv_nilCheck, dv_fieldAddr, dv_field, dv_indexAddr, dv_indexStr, dv_slice, dv_sliceStr, dv_len_true, dv_len_false, dv_lookup_true, dv_lookup_false, dv_fn, dv_extract, dv_convInt, dv_mx, dv_call, prune_none, prune_nil, prune_cons, argEnv_nil, argEnv_cons, aval_t, aval_c, alenD_lst, alenD_nils, alenD_str, alenD_arr, map_nil', map_cons', Nat.reduceEqDiff, Nat.reduceAdd, reduceIte, if_true,
    scond_t, scond_f, scond_n, scond_d, sg_tt, sg_tf, sg_ft, sg_ff, sg_u, sg_dt, sg_df, acall_s, scallD_fn,
    un_any, un_bool, un_int, un_str, un_nils, un_lst, un_arr, un_agg, un_tuple, un_ptr, un_iptr, un_nilp, un_map, un_nilm, un_fn, un_nilf, ce_bool, ce_int, ce_str, ce_nils, ce_lst, ce_agg, ce_fn, ce_nilf, ce_ptr, ce_iptr, ce_map,
    dr_bool, dr_int, dr_str, dr_nils, dr_lst, dr_agg, dr_fn, dr_nilf, dr_ptr, dr_iptr, dr_map, va_bool, va_int, va_str, va_nils, va_lst, va_agg, va_fn, va_nilf, va_ptr, va_iptr, va_map,
    bw_bool, bw_int, bw_str, bw_nils, bw_lst, bw_agg, bw_tuple, bw_ptr, bw_map, bw_arr, bw_iptr, bw_fn, bw_nilf, bl_nil, bl_cons, eb_nil, eb_cons,
    ab_add, ab_sub, ab_mul, ab_rem, ab_quo, ab_eql, ab_neq, ab_lss, ab_leq, ab_gtr, ab_geq, as_eql, as_neq, as_add, au_not, au_neg, ae_neq, ae_eql, bp_b, al_str, al_nils, al_lst, al_arr, al_nilm, lo_str, lo_nils, lo_lst, lo_arr, lo_nilm, lo_map,
    li_bool, li_int, li_str, li_lst, li_nils, li_fn, nc_ptr, nc_iptr, ex_tuple, fa_ptr, base_nil, base_c, base_t, base_f, base_p, pass_none, pass_c0, pass_c1, pass_c2, pass_big0, pass_big1, pass_big2, pass_big3, pass_big4, unslot_none, unslot_some,
    ga0, ga, sa0, sa, app2, len2, g0, g1, g2, s0, s1, s2, d0, d1, d2, sp1, load_ptr, loadC_1, store_ptr, storeC_1, on_bool, on_int, on_str, on_lst, on_nils, on_fn, on_ptr, on_iptr, on_map, all1, all0,
    List.nil_append, List.append_nil, List.cons_append, reduceCtorEq, or_true, true_or, true_and, and_true, true_implies, forall_const, Bool.true_and, Bool.and_true, Bool.not_true, Bool.not_false, decide_true, decide_false,
    avs_len, T.av_blw, avs_blw, T.av_val, T.av_one, T.av_unown, T.av_drop, T.cells_unown, T.cells_drop, T.av_clen, T.agg_cells, lens_avs, idx_avs, load_iptr_T, sp_T, bl_T, loadC_T, Nat.le_refl, fk, fn_, fl, ints_len, ints_blw, lens_ints, idx_ints, cn_int, cn_T, bs1, bs2, bs3, List.length_cons, List.length_nil]
  have e1 : (decide (a.cmp b = 0)) = a.same b := by
    rw [Bool.eq_iff_iff, decide_eq_true_eq, T.cmp_zero, T.same_iff]
  rw [e1]
  simp only [ne_eq, nrm_eq, swp_skip, swp_region, swp_draw, swp_seq, swp_cond, swp_block, swp_exit, swp_ret, aops_nil, aops_n, aops_g, agd_n, agd_g, adtS_done, adtS_nil, adtS_n, adtS_g, adtS_br, put_none, put_some, gt_cons, gt_nil, op_bin, op_shift, op_eqBool, op_eqNil, op_un, op_box, op_boxi, op_boxs, op_alloc, op_build, op_buildSlice, op_load, op_takeCell, op_store, op_putCell, op_nilCheck, op_fieldAddr, op_field, op_indexAddr, op_indexStr, op_slice, op_copy, op_sliceStr, op_len, op_append, op_mkarr, op_mkbuf, op_mkmap, op_lookup, op_mapset, op_fn, op_extract, op_convInt, op_convStr, op_bytesOf, op_strOf, op_mx, op_setf, op_set_n, op_set, op_take, op_takec, op_pick, op_call, dv_set, dv_pick, dv_bin, dv_shift, dv_eqBool, dv_eqNil, dv_un, dv_boxi, dv_build, dv_buildSlice, dv_load_true, dv_load_false, dv_nilCheck, dv_fieldAddr, dv_field, dv_indexAddr, dv_indexStr, dv_slice, dv_sliceStr, dv_len_true, dv_len_false, dv_lookup_true, dv_lookup_false, dv_fn, dv_extract, dv_convInt, dv_mx, dv_call, prune_none, prune_nil, prune_cons, argEnv_nil, argEnv_cons, aval_t, aval_c, alenD_lst, alenD_nils, alenD_str, alenD_arr, map_nil', map_cons', Nat.reduceEqDiff, Nat.reduceAdd, reduceIte, if_true,
    scond_t, scond_f, scond_n, scond_d, sg_tt, sg_tf, sg_ft, sg_ff, sg_u, sg_dt, sg_df, acall_s, scallD_fn,
    un_any, un_bool, un_int, un_str, un_nils, un_lst, un_arr, un_agg, un_tuple, un_ptr, un_iptr, un_nilp, un_map, un_nilm, un_fn, un_nilf, ce_bool, ce_int, ce_str, ce_nils, ce_lst, ce_agg, ce_fn, ce_nilf, ce_ptr, ce_iptr, ce_map,
    dr_bool, dr_int, dr_str, dr_nils, dr_lst, dr_agg, dr_fn, dr_nilf, dr_ptr, dr_iptr, dr_map, va_bool, va_int, va_str, va_nils, va_lst, va_agg, va_fn, va_nilf, va_ptr, va_iptr, va_map,
    bw_bool, bw_int, bw_str, bw_nils, bw_lst, bw_agg, bw_tuple, bw_ptr, bw_map, bw_arr, bw_iptr, bw_fn, bw_nilf, bl_nil, bl_cons, eb_nil, eb_cons,
    ab_add, ab_sub, ab_mul, ab_rem, ab_quo, ab_eql, ab_neq, ab_lss, ab_leq, ab_gtr, ab_geq, as_eql, as_neq, as_add, au_not, au_neg, ae_neq, ae_eql, bp_b, al_str, al_nils, al_lst, al_arr, al_nilm, lo_str, lo_nils, lo_lst, lo_arr, lo_nilm, lo_map,
    li_bool, li_int, li_str, li_lst, li_nils, li_fn, nc_ptr, nc_iptr, ex_tuple, fa_ptr, base_nil, base_c, base_t, base_f, base_p, pass_none, pass_c0, pass_c1, pass_c2, pass_big0, pass_big1, pass_big2, pass_big3, pass_big4, unslot_none, unslot_some,
    ga0, ga, sa0, sa, app2, len2, g0, g1, g2, s0, s1, s2, d0, d1, d2, sp1, load_ptr, loadC_1, store_ptr, storeC_1, on_bool, on_int, on_str, on_lst, on_nils, on_fn, on_ptr, on_iptr, on_map, all1, all0,
    List.nil_append, List.append_nil, List.cons_append, reduceCtorEq, or_true, true_or, true_and, and_true, true_implies, forall_const, Bool.true_and, Bool.and_true, Bool.not_true, Bool.not_false, decide_true, decide_false,
    avs_len, T.av_blw, avs_blw, T.av_val, T.av_one, T.av_unown, T.av_drop, T.cells_unown, T.cells_drop, T.av_clen, T.agg_cells, lens_avs, idx_avs, load_iptr_T, sp_T, bl_T, loadC_T, Nat.le_refl, fk, fn_, fl, ints_len, ints_blw, lens_ints, idx_ints, cn_int, cn_T, bs1, bs2, bs3, List.length_cons, List.length_nil]
  refine ⟨fun _ => scall_pure (c23 a a) ?_, fun h => absurd trivial h⟩
  have e2 : a.cmp a = 0 := (T.cmp_zero a a).2 rfl
  rw [e2]
  have tr := T.cmp_tri a b c
  unfold tri at tr
  generalize a.cmp b = x at *
  generalize b.cmp c = y at *
  generalize a.cmp c = z at *
  simp only [ne_eq, nrm_eq, swp_skip, swp_region, swp_draw, swp_seq, swp_cond, swp_block, swp_exit, swp_ret, aops_nil, aops_n, aops_g, agd_n, agd_g, adtS_done, adtS_nil, adtS_n, adtS_g, adtS_br, put_none, put_some, gt_cons, gt_nil, op_bin, op_shift, op_eqBool, op_eqNil, op_un, op_box, op_boxi, op_boxs, op_alloc, op_build, op_buildSlice, op_load, op_takeCell, op_store, op_putCell, op_nilCheck, op_fieldAddr, op_field, op_indexAddr, op_indexStr, op_slice, op_copy, op_sliceStr, op_len, op_append, op_mkarr, op_mkbuf, op_mkmap, op_lookup, op_mapset, op_fn, op_extract, op_convInt, op_convStr, op_bytesOf, op_strOf, op_mx, op_setf, op_set_n, op_set, op_take, op_takec, op_pick, op_call, dv_set, dv_pick, dv_bin, dv_shift, dv_eqBool, dv_eqNil, dv_un, dv_boxi, dv_build, dv_buildSlice, dv_load_true, dv_load_false, dv_nilCheck, dv_fieldAddr, dv_field, dv_indexAddr, dv_indexStr, dv_slice, dv_sliceStr, dv_len_true, dv_len_false, dv_lookup_true, dv_lookup_false, dv_fn, dv_extract, dv_convInt, dv_mx, dv_call, prune_none, prune_nil, prune_cons, argEnv_nil, argEnv_cons, aval_t, aval_c, alenD_lst, alenD_nils, alenD_str, alenD_arr, map_nil', map_cons', Nat.reduceEqDiff, Nat.reduceAdd, reduceIte, if_true,
    scond_t, scond_f, scond_n, scond_d, sg_tt, sg_tf, sg_ft, sg_ff, sg_u, sg_dt, sg_df, acall_s, scallD_fn,
    un_any, un_bool, un_int, un_str, un_nils, un_lst, un_arr, un_agg, un_tuple, un_ptr, un_iptr, un_nilp, un_map, un_nilm, un_fn, un_nilf, ce_bool, ce_int, ce_str, ce_nils, ce_lst, ce_agg, ce_fn, ce_nilf, ce_ptr, ce_iptr, ce_map,
    dr_bool, dr_int, dr_str, dr_nils, dr_lst, dr_agg, dr_fn, dr_nilf, dr_ptr, dr_iptr, dr_map, va_bool, va_int, va_str, va_nils, va_lst, va_agg, va_fn, va_nilf, va_ptr, va_iptr, va_map,
    bw_bool, bw_int, bw_str, bw_nils, bw_lst, bw_agg, bw_tuple, bw_ptr, bw_map, bw_arr, bw_iptr, bw_fn, bw_nilf, bl_nil, bl_cons, eb_nil, eb_cons,
    ab_add, ab_sub, ab_mul, ab_rem, ab_quo, ab_eql, ab_neq, ab_lss, ab_leq, ab_gtr, ab_geq, as_eql, as_neq, as_add, au_not, au_neg, ae_neq, ae_eql, bp_b, al_str, al_nils, al_lst, al_arr, al_nilm, lo_str, lo_nils, lo_lst, lo_arr, lo_nilm, lo_map,
    li_bool, li_int, li_str, li_lst, li_nils, li_fn, nc_ptr, nc_iptr, ex_tuple, fa_ptr, base_nil, base_c, base_t, base_f, base_p, pass_none, pass_c0, pass_c1, pass_c2, pass_big0, pass_big1, pass_big2, pass_big3, pass_big4, unslot_none, unslot_some,
    ga0, ga, sa0, sa, app2, len2, g0, g1, g2, s0, s1, s2, d0, d1, d2, sp1, load_ptr, loadC_1, store_ptr, storeC_1, on_bool, on_int, on_str, on_lst, on_nils, on_fn, on_ptr, on_iptr, on_map, all1, all0,
    List.nil_append, List.append_nil, List.cons_append, reduceCtorEq, or_true, true_or, true_and, and_true, true_implies, forall_const, Bool.true_and, Bool.and_true, Bool.not_true, Bool.not_false, decide_true, decide_false,
    avs_len, T.av_blw, avs_blw, T.av_val, T.av_one, T.av_unown, T.av_drop, T.cells_unown, T.cells_drop, T.av_clen, T.agg_cells, lens_avs, idx_avs, load_iptr_T, sp_T, bl_T, loadC_T, Nat.le_refl, fk, fn_, fl, ints_len, ints_blw, lens_ints, idx_ints, cn_int, cn_T, bs1, bs2, bs3, List.length_cons, List.length_nil]
  refine ⟨fun h => absurd trivial h, fun _ => ⟨fun h1 => ⟨fun h2 => ⟨fun h3 => ⟨fun h4 => ⟨fun h5 => ret0 rfl ?_, fun h5 => ?_⟩, fun h4 => ret0 rfl rfl⟩, fun h3 => ?_⟩, fun h2 => ret0 rfl rfl⟩, fun h1 => ret0 rfl rfl⟩⟩
  · have := tr (by omega) (by omega)
    have h6 : y = 0 := (this.2 (by omega)).2
    simp [h6]
  · exact absurd ((tr (by omega) (by omega)).2 (by omega)).1 h5
  · exact absurd (tr (by omega) (by omega)).1 h3
end Go.Abs
