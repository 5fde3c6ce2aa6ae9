/- What functions of this seat compute, by values: contracts (lemmas of the statement's proof, under the conditions that each names). -/
import Derived.Test.YtpdaiflnibekaaaQF
namespace Sim
open Go Go.Proofs
set_option maxRecDepth 10000
set_option maxHeartbeats 2000000
set_option linter.unusedVariables false
set_option linter.unusedSimpArgs false
attribute [local congr] opsIf_congr condC_congr guardC_congr grd_congr pick3_congr obind_congr omap_congr

theorem stT_stays {rs : List Rep} {o : List Int} {j : Nat} (h : stT rs o j = true) : ∀ m, stT rs o (j + m) = true
  | 0 => h
  | m + 1 => by show (stT rs o (j + m) || _) = true; rw [stT_stays h m]; rfl
theorem stT_end {rs : List Rep} {o : List Int} {j n : Nat} (h : stT rs o j = true) (hj : j ≤ n) : stT rs o n = true := by
  have := stT_stays h (n - j)
  rwa [show j + (n - j) = n by omega] at this
theorem late_stays {rs : List Rep} {st : Int} {o : List Int} {j : Nat} (h : lateT rs st o j = true) : ∀ m, lateT rs st o (j + m) = true
  | 0 => h
  | m + 1 => by show (lateT rs st o (j + m) || _) = true; rw [late_stays h m]; rfl
theorem late_end {rs : List Rep} {st : Int} {o : List Int} {j n : Nat} (h : lateT rs st o j = true) (hj : j ≤ n) : lateT rs st o n = true := by
  have := late_stays h (n - j)
  rwa [show j + (n - j) = n by omega] at this
noncomputable def A_rFin : (Int) × (List Rep) × (List Int) → List PV := fun (st, rs, o) => [.agg [I st, reps rs], ints o]
noncomputable def R_rFin : (Int) × (List Rep) × (List Int) → PV := fun (st, rs, o) => .agg [ints (finM st rs o).1, I (finM st rs o).2]
def H_rFin : (Int) × (List Rep) × (List Int) → Prop := fun (st, rs, o) => True
noncomputable def e_rFin : Nat × Ent := (16, .v (specOf A_rFin R_rFin H_rFin))
theorem j_rFin : ∀ i j, A_rFin i = A_rFin j → i = j := by
  rintro ⟨st₁, rs₁, o₁⟩ ⟨st₂, rs₂, o₂⟩ h
  simp only [A_rFin, List.cons.injEq, and_true, PV.lits.injEq, PV.int.injEq, PV.bool.injEq, PV.str.injEq, PV.agg.injEq, PV.func.injEq, PV.vptr.injEq, true_and, List.map_nil, inj_ints, inj_strs, inj_reps] at h
  simp [Prod.ext_iff, h] <;> omega
theorem s_rFin (st : Int) (rs : List Rep) (o : List Int) : specOf A_rFin R_rFin H_rFin [.agg [I st, reps rs], ints o] = some (.agg [ints (finM st rs o).1, I (finM st rs o).2]) := specOf_app j_rFin (i := (st, rs, o)) trivial
def C_rFin : Prop := ∀ (st : Int) (rs : List Rep) (o : List Int) , VC Try.prog 16 [.agg [I st, reps rs], ints o] (.agg [ints (finM st rs o).1, I (finM st rs o).2])
def O_rFin : Prop := EntOK Try.prog e_rFin.1 e_rFin.2
theorem k_rFin (c : C_rFin) : O_rFin := specOf_ok fun ⟨st, rs, o⟩ h => c st rs o
theorem c_rFin : C_rFin := by
  rintro st rs o
  refine vc_ofU mixed (l := [e_rcheck, e_perm, e_rwin, e_bit]) ((eok_cons o_rcheck (eok_cons o_perm (eok_cons o_rwin (eok_cons o_bit eok_nil))))) [] [64, 65, 68, 69, 70, 71]  Try.func16 rfl (by decide +kernel) (N := 90) rfl (by simp) rfl (by kernel_rfl) fun hs => ?_
  simp only [smallL, PV.small, List.length_map, and_true, true_and] at hs
  by_cases h : checkM st rs = 0
  case neg =>
    rw [show finM st rs o = ([], checkM st rs) by simp [finM, h]]
    generalize hr : checkM st rs = r at *
    simp +contextual (maxSteps := 4000000) only [↓ur_seq, ↓ur_ret, ↓ur_region, ↓ur_cond, ↓cont_seq, ↓done_nil, ↓done_seq, ↓ops_consN, nY_move, nY_assign, nY_alloc, nY_box, nY_build, nY_load, nY_store, nY_binOp, nY_callf, ↓ops_nil, opsIf_some, opsIf_none, condC_true, Option.map_some, Option.bind_some, Option.getD_some, Nat.reduceLT, Bool.false_eq_true, ↓upd_same, ↓upd_ne, Nat.reduceBEq, and_true, List.getD_cons_zero, endQ, cfg_P, cfg_tab, cfg_muts, cfg_frz, cfg_num, numOf_eq, List.map_nil, List.contains_cons, List.contains_nil, Bool.or_false, decide_true, Option.some.injEq, exists_eq_left', List.lookup_cons, List.lookup_nil, tabOf_cons, tab_v, Bool.and_self, List.cons_append, List.nil_append, List.append_nil, updO_same, List.length_cons, List.length_nil, Nat.zero_add, List.drop_zero, List.take_zero, Nat.reduceAdd, List.set_cons_zero, nth_zero, Nat.lt_succ_self, not_false_eq_true, st0, Nat.le_refl, cells_int, pur_int, isCell_int, pur_lits, isCell_lits, cells_agg, pur_agg, DRx_int, DRx_nils_lits, DRx_agg, DRxL_cons, DRxL_nil, ↓ev_tmp, ↓ev_int, ↓ev_func, ↓iop_move, ↓iop_assign, ↓iop_alloc, ↓iop_box, ↓iop_build, ↓iop_load, ↓iop_store, ↓iop_binOp, ↓iop_callv, nrmAll_cons, nrmAll_nil, nrm_agg, nrmL_cons, nrmL_nil, nrm1_int, nrm1_lits, pickP_t, loadP_vptr, loadP_ptr, setCells_agg, storeP_ptr, b_neq, fill_nil, fill_cons, fill1_some, buildP_eq, bldA_none, splice_eq, env0_eq, ires_eq, iresL_1, iresAll_nil, iresAll_cons, iresOne_cell, valT_eq, pursL_cons, pursL_nil, Store.new, Store.set, ↓reduceIte, arr_eq, arrB_some, callP_eq, boxP_eq, List.take_succ_cons, List.drop_succ_cons, List.drop_nil, List.take_nil, ↓evs_cons, ↓evs_nil, ↓evp_cons, ↓evp_nil, beq_self_eq_true, List.all_cons, List.all_nil, see_eq, and_false, Bool.true_eq_false, e_rcheck, s_rcheck, e_perm, e_rwin, e_bit, nth_reps, pur_reps, Try.f16, ty24, ty32, h, hr]
  have hc := check_zero.1 h
  have h10 := hc.len
  have hfin : finM st rs o = if permM rs.length o = false then ([], 1) else if errT rs st o o.length ≠ 0 then ([], errT rs st o o.length) else (outT rs st o o.length, 0) := by simp [finM, h]
  generalize hr : finM st rs o = r
  cases hperm : permM rs.length o
  case false =>
    rw [if_pos hperm] at hfin
    rw [hfin] at hr
    subst hr
    simp +contextual (maxSteps := 4000000) only [↓ur_skip, ↓ur_seq, ↓ur_ret, ↓ur_region, ↓ur_cond, ↓cont_seq, ↓done_nil, ↓done_seq, ↓ops_consN, nY_move, nY_assign, nY_alloc, nY_box, nY_build, nY_load, nY_store, nY_binOp, nY_unOp, nY_callf, ↓ops_nil, opsIf_some, opsIf_none, condC_true, condC_false, Option.map_some, Option.bind_some, Option.getD_some, Nat.reduceLT, Bool.false_eq_true, ↓upd_same, ↓upd_ne, Nat.reduceBEq, and_true, List.getD_cons_zero, List.getD_cons_succ, endQ, cfg_P, cfg_tab, cfg_muts, cfg_frz, cfg_num, numOf_eq, List.map_nil, List.contains_cons, List.contains_nil, Bool.or_false, decide_false, Option.some.injEq, exists_eq_left', List.lookup_cons, List.lookup_nil, tabOf_cons, tab_v, pur_ints, Bool.and_self, Nat.reduceEqDiff, List.cons_append, List.nil_append, List.append_nil, updO_same, List.length_cons, List.length_nil, Nat.zero_add, List.drop_zero, List.take_zero, Nat.reduceAdd, List.set_cons_zero, nth_zero, Nat.lt_succ_self, Bool.not_false, not_true_eq_false, st0, Nat.le_refl, cells_int, pur_int, isCell_int, pur_lits, isCell_lits, cells_agg, pur_agg, DRx_int, DRx_nils_lits, DRx_agg, DRxL_cons, DRxL_nil, ↓ev_tmp, ↓ev_int, ↓ev_func, ↓iop_move, ↓iop_assign, ↓iop_alloc, ↓iop_box, ↓iop_build, ↓iop_load, ↓iop_store, ↓iop_binOp, ↓iop_unOp, ↓iop_callv, nrmAll_cons, nrmAll_nil, nrm_agg, nrmL_cons, nrmL_nil, nrm_lits, nrm1_int, nrm1_lits, pickP_t, loadP_vptr, loadP_ptr, setCells_agg, storeP_ptr, b_neq, u_not, fill_nil, fill_cons, fill1_some, buildP_eq, bldA_none, splice_eq, env0_eq, ires_eq, iresL_1, iresAll_nil, iresAll_cons, iresOne_cell, valT_eq, pursL_cons, pursL_nil, Store.new, Store.set, ↓reduceIte, arr_eq, arrB_some, callP_eq, boxP_eq, List.take_succ_cons, List.drop_succ_cons, List.drop_nil, List.take_nil, ↓evs_cons, ↓evs_nil, ↓evp_cons, ↓evp_nil, beq_self_eq_true, List.all_cons, List.all_nil, see_eq, and_false, Bool.true_eq_false, e_rcheck, s_rcheck, e_perm, s_perm, e_rwin, e_bit, nth_reps, pur_reps, Try.f16, ty24, ty25, ty32, h, h10, hperm]
  rw [if_neg (by simp [hperm])] at hfin
  have hgl : goodT rs.length o o.length = true ∧ o.length = rs.length := by simpa [permM] using hperm
  obtain ⟨hG, hL⟩ := hgl
  have hmax : (o.length : Int) ≤ 4294967296 := by omega
  have hp := pow1024 (k := rs.length) h10
  have hw : ∀ i : Nat, i < o.length → IntKind.i64.wrap ((i : Int) + 1) = ((i + 1 : Nat) : Int) := fun i g => by rw [wrap64 (by omega) (by omega)]; omega
  simp +contextual (maxSteps := 4000000) only [↓ur_skip, ↓ur_seq, ↓ur_block, ↓ur_region, ↓ur_cond, ↓cont_seq, ↓ops_consN, nY_move, nY_assign, nY_alloc, nY_box, nY_load, nY_binOp, nY_unOp, nY_callf, ↓ops_nil, opsIf_some, condC_false, Option.map_some, Option.bind_some, Option.getD_some, Nat.reduceLT, Bool.false_eq_true, ↓upd_same, ↓upd_ne, Nat.reduceBEq, true_and, and_true, List.getD_cons_zero, List.getD_cons_succ, cfg_P, cfg_tab, cfg_muts, cfg_frz, cfg_num, numOf_eq, List.contains_cons, List.contains_nil, Bool.or_false, decide_false, List.lookup_cons, List.lookup_nil, tabOf_cons, tab_v, pur_ints, Bool.and_self, Nat.reduceEqDiff, List.nil_append, List.append_nil, List.length_cons, List.length_nil, Nat.zero_add, List.drop_zero, Nat.reduceAdd, Bool.not_true, not_true_eq_false, st0, Nat.le_refl, pur_int, pur_lits, cells_agg, pur_agg, ↓ev_tmp, ↓ev_int, ↓ev_func, ↓iop_move, ↓iop_assign, ↓iop_alloc, ↓iop_box, ↓iop_load, ↓iop_binOp, ↓iop_unOp, ↓iop_callv, nrmAll_cons, nrmAll_nil, nrm_agg, nrmL_cons, nrmL_nil, nrm_lits, nrm1_int, nrm1_lits, pickP_t, loadP_vptr, b_neq, u_not, env0_eq, valT_eq, pursL_cons, pursL_nil, Store.new, ↓reduceIte, callP_eq, boxP_eq, List.take_succ_cons, List.take_nil, ↓evs_cons, ↓evs_nil, beq_self_eq_true, see_eq, and_false, Bool.true_eq_false, e_rcheck, s_rcheck, e_perm, s_perm, e_rwin, e_bit, nth_reps, pur_reps, Try.f16, ty24, ty25, ty32, h, h10, hperm]
  refine loop_cnt [7, 8, 9, 26, 27, 28, 29, 30, 31, 32, 33, 34, 35, 36, 37, 38, 39, 40, 41, 42, 43, 44, 45, 46, 47, 48, 49, 50, 51, 52] o.length (fun j ρ st' => ρ 8 = I j ∧ ρ 7 = I (dT o j) ∧ stT rs o j = false ∧ st'.obj 0 = some (.arr 0 2 [.agg [.nils, I 0]]) ∧ st'.next = 1) (.refl _) ?_ ?_
  · simp +contextual (maxSteps := 4000000) only [↓upd_same, ↓upd_ne, Nat.reduceBEq, true_and, and_true, PV.int.injEq, updO_same, Int.cast_ofNat_Int, nth_reps, pur_reps, Try.f16]
    simp [dT, stT]
  · rintro j ρ ⟨ob, M⟩ hj ⟨h8, h7, hs, h0, hM⟩
    dsimp only at h0 hM
    subst hM
    by_cases hlt : j < o.length
    · have hga := good_at hG hlt
      have hoi : o.getD j 0 = ((oi o j : Nat) : Int) := by unfold oi; omega
      have hoin := hga.2.2
      have hd := Nat.lt_of_lt_of_le (dT_lt (good_le hG (i := j) (by omega))) hp
      have hd2 : dT o j < 9223372036854775808 := by omega
      have ho60 : oi o j ≤ 60 := by omega
      have hl := hc.rep _ hoin
      have hac : ac rs (oi o j) < 1024 := by omega
      cases hsb : sub (ac rs (oi o j)) (dT o j)
      · have hst : stT rs o (j + 1) = true := by simp [stT, hsb]
        have he : errT rs st o o.length = 4 := by simp [errT, stT_end hst (n := o.length) (by omega)]
        rw [if_pos (by rw [he]; omega), he] at hfin
        rw [hfin] at hr
        subst hr
        simp +contextual (maxSteps := 4000000) only [↓ur_skip, ↓ur_seq, ↓ur_block, ↓ur_ret, ↓ur_region, ↓ur_cond, ↓cont_seq, ↓done_nil, ↓done_seq, ↓done_blk, ↓done_lp, ↓ops_consN, nY_move, nY_assign, nY_build, nY_load, nY_store, nY_binOp, nY_unOp, nY_fieldAddr, nY_indexAddr, nY_callf, nY_callb, ↓ops_nil, opsIf_some, opsIf_none, condC_true, Option.map_some, Option.bind_some, Option.getD_some, Nat.reduceLT, Bool.false_eq_true, ↓upd_same, ↓upd_ne, Nat.reduceBEq, and_true, List.getD_cons_zero, List.getD_cons_succ, List.getElem?_cons_zero, List.getElem?_cons_succ, endQ, cfg_P, cfg_tab, cfg_muts, cfg_frz, List.map_nil, List.length_map, ↓havoc_in, ↓havoc_out, List.contains_cons, List.contains_nil, Bool.or_false, Bool.or_true, Int.natCast_nonneg, Int.ofNat_lt, Int.toNat_natCast, nth_int, decide_true, Option.some.injEq, exists_eq_left', tabOf_cons, tab_v, Bool.and_self, Nat.reduceEqDiff, List.cons_append, List.nil_append, List.append_nil, updO_same, List.length_cons, List.length_nil, Nat.zero_add, List.drop_zero, List.take_zero, Nat.reduceAdd, List.set_cons_zero, nth_zero, Nat.lt_succ_self, Bool.not_false, Nat.le_refl, cells_int, pur_int, isCell_int, isCell_lits, cells_agg, DRx_int, DRx_nils_lits, DRx_agg, DRxL_cons, DRxL_nil, ↓ev_tmp, ↓ev_int, ↓ev_func, ↓iop_move, ↓iop_assign, ↓iop_build, ↓iop_load, ↓iop_store, ↓iop_binOp, ↓iop_unOp, ↓iop_fieldAddr, ↓iop_indexAddr, idxA_int, ↓iop_callv, ↓iop_callb, nrmAll_cons, nrmAll_nil, bi_len, lenM_none, nrm_int, pickP_f, pickP_t, loadP_vptr, loadP_ptr, setCells_agg, storeP_ptr, fieldP_vptr, indexP_lits, lenP_lits, b_lss, u_not, fill_nil, fill_cons, fill1_some, buildP_eq, bldA_none, splice_eq, env0_eq, ires_eq, iresL_1, iresAll_nil, iresAll_cons, iresOne_cell, valT_eq, pursL_cons, pursL_nil, Store.set, ↓reduceIte, arr_eq, arrB_some, callP_eq, List.take_succ_cons, List.drop_succ_cons, List.drop_nil, List.take_nil, ↓evs_cons, ↓evs_nil, ↓evp_cons, ↓evp_nil, beq_self_eq_true, List.all_cons, List.all_nil, see_eq, and_false, Bool.true_eq_false, s_rwin, nth_reps, pur_reps, Try.f16, ty3, ty22, ty24, ty25, ty32, ty56, h8, h7, h0, hlt, hoi, hoin, hd2, hac, af_at, hl.2.1, hsb]
      · have hor := or_add hga.2.1
        have hpk := pow1024 (k := oi o j) (by omega)
        have hwa : IntKind.i64.wrap (((dT o j : Nat) : Int) + ((2 ^ oi o j : Nat) : Int)) = ((dT o j + 2 ^ oi o j : Nat) : Int) := by
          generalize 2 ^ oi o j = q at *
          rw [wrap64 (by omega) (by omega)]; omega
        have hst : stT rs o (j + 1) = false := by simp [stT, hsb, hs]
        simp +contextual (maxSteps := 4000000) only [↓ur_skip, ↓ur_seq, ↓ur_block, ↓ur_region, ↓ur_cond, ↓cont_seq, ↓cont_blk, ↓cont_lp, ↓ops_consN, nY_move, nY_assign, nY_load, nY_binOp, nY_unOp, nY_fieldAddr, nY_indexAddr, nY_callf, nY_callb, ↓ops_nil, opsIf_some, condC_true, condC_false, Option.map_some, Option.bind_some, Option.getD_some, Nat.reduceLT, Bool.false_eq_true, ↓upd_same, ↓upd_ne, Nat.reduceBEq, true_and, and_true, List.getD_cons_zero, List.getD_cons_succ, List.getElem?_cons_zero, List.getElem?_cons_succ, cfg_P, cfg_tab, cfg_muts, cfg_frz, List.length_map, ↓havoc_in, ↓havoc_out, agree_upd, agree_havoc, List.contains_cons, List.contains_nil, Bool.or_false, Bool.or_true, Int.natCast_nonneg, Int.ofNat_lt, Int.toNat_natCast, nth_int, decide_true, PV.int.injEq, tabOf_cons, tab_v, Bool.and_self, Nat.reduceEqDiff, List.nil_append, List.append_nil, Nat.zero_add, Nat.lt_succ_self, Bool.not_true, cells_int, pur_int, cells_agg, ↓ev_tmp, ↓ev_int, ↓ev_func, ↓iop_move, ↓iop_assign, ↓iop_load, ↓iop_binOp, ↓iop_unOp, ↓iop_fieldAddr, ↓iop_indexAddr, idxA_int, ↓iop_callv, ↓iop_callb, nrmAll_cons, nrmAll_nil, bi_len, lenM_none, nrm_int, pickP_f, loadP_vptr, fieldP_vptr, indexP_lits, lenP_lits, b_add, b_lss, u_not, env0_eq, valT_eq, pursL_cons, pursL_nil, ↓reduceIte, callP_eq, ↓evs_cons, ↓evs_nil, beq_self_eq_true, see_eq, and_false, Bool.true_eq_false, s_rwin, s_bit, nth_reps, pur_reps, Try.f16, ty3, ty22, ty24, ty25, ty56, h8, h7, h0, hlt, hoi, hoin, hd2, hac, af_at, hl.2.1, hsb, ho60, hwa, hor, dT, hst]
        exact hw j hlt
    · have e : j = o.length := by omega
      subst e
      simp +contextual (maxSteps := 4000000) only [↓ur_seq, ↓ur_block, ↓ur_exit, ↓ur_region, ↓ur_cond, ↓cont_seq, ↓leave_seq, ↓leave_blk, ↓leave_lp, ↓ops_consN, nY_move, nY_assign, nY_load, nY_binOp, nY_makeSlice, nY_fieldAddr, nY_callb, ↓ops_nil, opsIf_some, condC_false, Option.map_some, Option.bind_some, Option.getD_some, Nat.reduceLT, Bool.false_eq_true, ↓upd_same, ↓upd_ne, Nat.reduceBEq, true_and, and_true, List.getD_cons_zero, List.getD_cons_succ, List.getElem?_cons_zero, cfg_P, cfg_frz, cfg_num, numOf_eq, List.length_map, ↓havoc_in, ↓havoc_out, List.contains_cons, List.contains_nil, Bool.or_false, Bool.or_true, Int.natCast_nonneg, Int.ofNat_lt, Int.toNat_natCast, decide_false, Nat.add_zero, Nat.reduceAdd, Nat.lt_irrefl, Nat.lt_succ_self, ↓ev_tmp, ↓ev_int, ↓iop_move, ↓iop_assign, ↓iop_load, ↓iop_binOp, ↓iop_makeSlice, mkSl_int, ↓iop_fieldAddr, ↓iop_callb, bi_len, lenM_none, pickP_f, loadP_vptr, fieldP_vptr, lenP_lits, b_lss, env0_eq, Store.new, ↓reduceIte, ↓evs_cons, ↓evs_nil, Int.le_refl, beq_self_eq_true, see_eq, nth_reps, pur_reps, Try.f16, ty3, ty24, ty25, h8, h7, h0, hmax]
      refine loop_cnt [10, 12, 13, 58, 59, 60, 61, 62, 63, 64, 65, 66, 67, 68, 69, 70, 71, 72, 73, 74, 75, 76, 77, 78, 79, 80, 81, 82, 83, 84, 85, 86, 87] o.length (fun j ρ st' => ρ 12 = I j ∧ ρ 10 = I (nowT rs st o j) ∧ lateT rs st o j = false ∧ st'.obj 0 = some (.arr 0 2 [.agg [.nils, I 0]]) ∧ st'.obj 1 = some (.arr 0 1 ((outT rs st o j).map (PV.int .i64))) ∧ 1 < st'.next) (.refl _) ?_ ?_
      · simp +contextual (maxSteps := 4000000) only [↓upd_same, ↓upd_ne, Nat.reduceBEq, true_and, and_true, Option.some.injEq, PV.int.injEq, updO_same, updO_ne, IObj.arr.injEq, Nat.lt_succ_self, Int.cast_ofNat_Int, nth_reps, pur_reps, Try.f16, h0]
        simp [nowT, lateT, outT, hL]
      · rintro j ρ2 ⟨ob2, M⟩ hj ⟨h12, h10', hla, h02, h12', hM⟩
        dsimp only at h02 h12' hM
        have n1 : ¬ 0 = M := by omega
        have n2 : ¬ M = 0 := by omega
        have n3 : ¬ 1 = M := by omega
        have n4 : ¬ M = 1 := by omega
        by_cases hlt : j < o.length
        · have hga := good_at hG hlt
          have hoi : o.getD j 0 = ((oi o j : Nat) : Int) := by unfold oi; omega
          have hoin := hga.2.2
          have hn1 := nowT_b hc (good_le hG (i := j) (by omega))
          have ht := (hc.tk).2 _ hoin
          have hadd : IntKind.i64.wrap (nowT rs st o j + tk rs (oi o j)) = nowT rs st o (j + 1) := wrap64 (by omega) (by omega)
          have hout : outT rs st o (j + 1) = (outT rs st o j).set (oi o j) (nowT rs st o (j + 1)) := rfl
          by_cases hlate : du rs (oi o j) < nowT rs st o (j + 1)
          · have hst : lateT rs st o (j + 1) = true := by simp [lateT, hlate]
            have he : errT rs st o o.length = 21 := by simp [errT, hs, late_end hst (n := o.length) (by omega)]
            rw [if_pos (by rw [he]; omega), he] at hfin
            rw [hfin] at hr
            subst hr
            simp +contextual (maxSteps := 4000000) only [↓ur_skip, ↓ur_seq, ↓ur_block, ↓ur_ret, ↓ur_region, ↓ur_cond, ↓cont_seq, ↓done_nil, ↓done_seq, ↓done_blk, ↓done_lp, ↓ops_consN, nY_move, nY_assign, nY_alloc, nY_build, nY_load, nY_store, nY_binOp, nY_fieldAddr, nY_indexAddr, nY_callb, ↓ops_nil, opsIf_some, opsIf_none, condC_true, Option.map_some, Option.bind_some, Option.getD_some, Nat.reduceLT, Bool.false_eq_true, ↓upd_same, ↓upd_ne, Nat.reduceBEq, and_true, List.getD_cons_zero, List.getD_cons_succ, List.getElem?_cons_zero, List.getElem?_cons_succ, endQ, cfg_P, cfg_frz, cfg_num, numOf_eq, List.map_nil, List.length_map, ↓havoc_in, ↓havoc_out, List.contains_cons, List.contains_nil, Bool.or_false, Bool.or_true, Int.natCast_nonneg, Int.ofNat_lt, Int.toNat_natCast, nth_int, decide_true, Option.some.injEq, exists_eq_left', Bool.and_self, List.cons_append, List.nil_append, List.append_nil, updO_same, updO_ne, List.length_cons, List.length_nil, Nat.zero_add, Nat.add_zero, List.drop_zero, List.take_zero, Nat.reduceAdd, List.set_cons_zero, nth_zero, Nat.lt_succ_self, not_false_eq_true, Nat.le_refl, cells_int, isCell_int, isCell_lits, cells_agg, DRx_int, DRx_nils_lits, DRx_agg, DRxL_cons, DRxL_nil, ↓ev_tmp, ↓ev_int, ↓iop_move, ↓iop_assign, ↓iop_alloc, ↓iop_build, ↓iop_load, ↓iop_store, ↓iop_binOp, ↓iop_fieldAddr, ↓iop_indexAddr, idxA_int, ↓iop_callb, bi_len, lenM_none, pickP_f, pickP_t, loadP_vptr, loadP_ptr, setCells_agg, storeP_ptr, fieldP_vptr, fieldP_ptr, indexP_lits, lenP_lits, b_add, b_lss, b_gtr, fill_nil, fill_cons, fill1_some, buildP_eq, bldA_none, splice_eq, env0_eq, ires_eq, iresL_1, iresAll_nil, iresAll_cons, iresOne_cell, Store.new, Store.set, ↓reduceIte, arr_eq, arrB_some, beq_eq_false_iff_ne, ne_eq, List.take_succ_cons, List.drop_succ_cons, List.drop_nil, List.take_nil, ↓evs_cons, ↓evs_nil, ↓evp_cons, ↓evp_nil, beq_self_eq_true, List.all_cons, List.all_nil, see_eq, nth_reps, pur_reps, Try.f16, ty3, ty22, ty24, ty25, ty32, ty56, h12, h10', h02, h12', n1, n2, n3, n4, hlt, hoi, hoin, tk_at, du_at, hadd, hlate]
          · have hst : lateT rs st o (j + 1) = false := by simp [lateT, hlate, hla]
            simp +contextual (maxSteps := 4000000) only [↓ur_skip, ↓ur_seq, ↓ur_block, ↓ur_region, ↓ur_cond, ↓cont_seq, ↓cont_blk, ↓cont_lp, ↓ops_consN, nY_move, nY_assign, nY_alloc, nY_load, nY_store, nY_binOp, nY_fieldAddr, nY_indexAddr, nY_callb, ↓ops_nil, opsIf_some, opsIf_none, opsIf_if, map_if, condC_true, condC_false, Option.map_some, Option.map_none, Option.bind_some, Option.getD_some, Nat.reduceLT, Bool.false_eq_true, ↓upd_same, ↓upd_ne, Nat.reduceBEq, true_and, and_true, List.getD_cons_zero, List.getD_cons_succ, List.getElem?_cons_zero, List.getElem?_cons_succ, cfg_P, cfg_frz, cfg_num, numOf_eq, List.length_map, ↓havoc_in, ↓havoc_out, agree_upd, agree_havoc, List.contains_cons, List.contains_nil, Bool.or_false, Bool.or_true, Int.natCast_nonneg, Int.ofNat_lt, Int.toNat_natCast, nth_int, decide_true, decide_false, PV.int.injEq, List.nil_append, List.append_nil, updO_same, updO_ne, List.length_cons, List.length_nil, Nat.zero_add, Nat.add_zero, List.drop_zero, List.take_zero, Nat.reduceAdd, List.set_cons_zero, nth_zero, Nat.lt_succ_self, not_false_eq_true, Nat.le_refl, cells_int, cells_agg, ↓ev_tmp, ↓ev_int, ↓iop_move, ↓iop_assign, ↓iop_alloc, ↓iop_load, ↓iop_store, ↓iop_binOp, ↓iop_fieldAddr, ↓iop_indexAddr, idxA_int, ↓iop_callb, bi_len, lenM_none, pickP_f, pickP_t, loadP_vptr, loadP_ptr, setCells_agg, setCells_int, storeP_ptr, fieldP_vptr, fieldP_ptr, indexP_lits, indexP_ref, lenP_lits, b_add, b_lss, b_gtr, splice_eq, env0_eq, Store.new, Store.set, ↓reduceIte, arr_eq, arrB_some, beq_eq_false_iff_ne, ne_eq, set_int, List.take_succ_cons, List.drop_succ_cons, List.drop_nil, List.take_nil, ↓evs_cons, ↓evs_nil, beq_self_eq_true, see_eq, nth_reps, pur_reps, Try.f16, ty3, ty22, ty24, ty25, ty56, h12, h10', h02, h12', n1, n2, n3, n4, hlt, hoi, hoin, tk_at, du_at, hadd, hlate, outT_len, hout, hst]
            exact ⟨by omega, hw j hlt, by omega⟩
        · have e : j = o.length := by omega
          subst e
          have he : errT rs st o o.length = 0 := by simp [errT, hs, hla]
          rw [if_neg (by simp [he])] at hfin
          rw [hfin] at hr
          subst hr
          simp +contextual (maxSteps := 4000000) only [↓ur_seq, ↓ur_exit, ↓ur_ret, ↓ur_region, ↓ur_cond, ↓cont_seq, ↓leave_seq, ↓leave_blk, ↓leave_lp, ↓done_nil, ↓ops_consN, nY_move, nY_build, nY_store, nY_binOp, nY_callb, ↓ops_nil, opsIf_some, opsIf_none, condC_false, Option.map_some, Option.bind_some, Option.getD_some, Nat.reduceLT, ↓upd_same, ↓upd_ne, Nat.reduceBEq, true_and, and_true, List.getD_cons_zero, List.getD_cons_succ, endQ, cfg_P, List.length_map, ↓havoc_in, ↓havoc_out, List.contains_cons, List.contains_nil, Bool.or_false, Bool.or_true, Int.ofNat_lt, decide_false, Option.some.injEq, exists_eq_left', pur_ints, Bool.and_self, List.cons_append, List.nil_append, List.append_nil, updO_same, updO_ne, List.length_cons, List.length_nil, Nat.zero_add, List.drop_zero, List.take_zero, Nat.reduceAdd, List.set_cons_zero, Nat.reduceLeDiff, nth_zero, Prod.mk.injEq, Nat.lt_irrefl, Nat.lt_succ_self, Nat.le_refl, isCell_int, isCell_lits, cells_ref, cells_agg, DRx_int, DRx_ref, DRx_agg, DRxL_cons, DRxL_nil, ↓ev_tmp, ↓iop_move, ↓iop_build, ↓iop_store, ↓iop_binOp, ↓iop_callb, bi_len, lenM_none, pickP_t, loadP_ptr, setCells_agg, storeP_ptr, lenP_lits, b_lss, fill_nil, fill_cons, fill1_some, buildP_eq, bldA_none, splice_eq, env0_eq, ires_eq, iresL_1, iresAll_nil, iresAll_cons, iresOne_cell, Store.set, ↓reduceIte, arr_eq, arrB_some, List.take_succ_cons, List.drop_succ_cons, List.drop_nil, List.take_nil, ↓evs_cons, ↓evs_nil, ↓evp_cons, ↓evp_nil, beq_self_eq_true, List.all_cons, List.all_nil, nth_reps, pur_reps, Try.f16, ty25, ty32, h12, h10', h02, h12', n1, n2, n3, n4]
          rw [outT_len, List.take_of_length_le (by simp [outT_len, hL])]
          exact ⟨by omega, rfl⟩
theorem o_rFin : O_rFin := k_rFin c_rFin

noncomputable def A_rCost : (Int) × (List Rep) × (List Int) → List PV := fun (st, rs, o) => [.agg [I st, reps rs], ints o]
noncomputable def R_rCost : (Int) × (List Rep) × (List Int) → PV := fun (st, rs, o) => .agg [I (costM st rs o).1, I (costM st rs o).2]
def H_rCost : (Int) × (List Rep) × (List Int) → Prop := fun (st, rs, o) => True
noncomputable def e_rCost : Nat × Ent := (18, .v (specOf A_rCost R_rCost H_rCost))
theorem j_rCost : ∀ i j, A_rCost i = A_rCost j → i = j := by
  rintro ⟨st₁, rs₁, o₁⟩ ⟨st₂, rs₂, o₂⟩ h
  simp only [A_rCost, List.cons.injEq, and_true, PV.lits.injEq, PV.int.injEq, PV.bool.injEq, PV.str.injEq, PV.agg.injEq, PV.func.injEq, PV.vptr.injEq, true_and, List.map_nil, inj_ints, inj_strs, inj_reps] at h
  simp [Prod.ext_iff, h] <;> omega
theorem s_rCost (st : Int) (rs : List Rep) (o : List Int) : specOf A_rCost R_rCost H_rCost [.agg [I st, reps rs], ints o] = some (.agg [I (costM st rs o).1, I (costM st rs o).2]) := specOf_app j_rCost (i := (st, rs, o)) trivial
def C_rCost : Prop := ∀ (st : Int) (rs : List Rep) (o : List Int) , VC Try.prog 18 [.agg [I st, reps rs], ints o] (.agg [I (costM st rs o).1, I (costM st rs o).2])
def O_rCost : Prop := EntOK Try.prog e_rCost.1 e_rCost.2
theorem k_rCost (c : C_rCost) : O_rCost := specOf_ok fun ⟨st, rs, o⟩ h => c st rs o
theorem c_rCost : C_rCost := by
  rintro st rs o
  refine vc_ofU mixed (l := [e_rFin]) ((eok_cons o_rFin eok_nil)) [] []  Try.func18 rfl (by decide +kernel) (N := 43) rfl (by simp) rfl (by kernel_rfl) fun hs => ?_
  simp only [smallL, PV.small, List.length_map, and_true, true_and] at hs
  have hl := fin_len (st := st) (rs := rs) (o := o)
  have hb := fin_b (st := st) (rs := rs) (o := o)
  have he : (finM st rs o).2 ≠ 0 → (finM st rs o).1 = [] := fun h => by
    revert h
    unfold finM
    repeat' split
    all_goals simp
  unfold costM
  generalize hfm : finM st rs o = fm at *
  obtain ⟨l, e⟩ := fm
  dsimp only at hl hb he ⊢
  generalize hr : costT rs st l l.length = r
  by_cases he0 : e = 0
  case neg =>
    have := he he0
    subst this
    subst hr
    simp +contextual (maxSteps := 4000000) only [↓ur_seq, ↓ur_ret, ↓ur_region, ↓ur_cond, ↓cont_seq, ↓done_nil, ↓done_seq, ↓ops_consN, nY_move, nY_alloc, nY_box, nY_build, nY_load, nY_store, nY_binOp, nY_fieldAddr, nY_callf, ↓ops_nil, opsIf_some, opsIf_none, condC_true, Option.map_some, Option.bind_some, Option.getD_some, Nat.reduceLT, Bool.false_eq_true, ↓upd_same, ↓upd_ne, Nat.reduceBEq, true_and, and_true, List.getD_cons_zero, List.getD_cons_succ, List.getElem?_cons_zero, List.getElem?_cons_succ, endQ, cfg_P, cfg_tab, cfg_muts, cfg_frz, cfg_num, numOf_eq, List.contains_nil, decide_true, Option.some.injEq, exists_eq_left', List.lookup_cons, List.lookup_nil, tabOf_cons, tab_v, pur_ints, Bool.and_self, List.cons_append, List.nil_append, List.append_nil, updO_same, updO_ne, List.length_cons, List.length_nil, Nat.zero_add, List.drop_zero, List.take_zero, Nat.reduceAdd, List.set_cons_zero, nth_zero, Nat.lt_succ_self, not_false_eq_true, st0, Nat.le_refl, cells_int, pur_int, isCell_int, pur_lits, cells_agg, pur_agg, DRx_int, DRx_agg, DRxL_cons, DRxL_nil, ↓ev_tmp, ↓ev_int, ↓ev_func, ↓iop_move, ↓iop_alloc, ↓iop_box, ↓iop_build, ↓iop_load, ↓iop_store, ↓iop_binOp, ↓iop_fieldAddr, ↓iop_callv, nrmAll_cons, nrmAll_nil, nrm_agg, nrmL_cons, nrmL_nil, nrm_lits, nrm1_int, nrm1_lits, pickP_f, pickP_t, loadP_vptr, loadP_ptr, setCells_agg, storeP_ptr, fieldP_ptr, b_neq, fill_nil, fill_cons, fill1_some, buildP_eq, bldA_none, splice_eq, env0_eq, ires_eq, iresL_1, iresAll_nil, iresAll_cons, iresOne_cell, valT_eq, pursL_cons, pursL_nil, Store.new, Store.set, ↓reduceIte, arr_eq, arrB_some, callP_eq, boxP_eq, List.take_succ_cons, List.drop_succ_cons, List.drop_nil, List.take_nil, ↓evs_cons, ↓evs_nil, ↓evp_cons, ↓evp_nil, beq_self_eq_true, List.all_cons, List.all_nil, see_eq, and_false, Bool.true_eq_false, e_rFin, s_rFin, nth_reps, pur_reps, Try.f18, ty24, ty25, ty28, ty32, ty39, hfm, he0]
    rfl
  subst he0
  simp +contextual (maxSteps := 4000000) only [↓ur_skip, ↓ur_seq, ↓ur_block, ↓ur_region, ↓ur_cond, ↓cont_seq, ↓ops_consN, nY_move, nY_assign, nY_alloc, nY_box, nY_load, nY_store, nY_binOp, nY_fieldAddr, nY_callf, ↓ops_nil, opsIf_some, opsIf_none, condC_false, Option.map_some, Option.bind_some, Option.getD_some, Nat.reduceLT, Bool.false_eq_true, ↓upd_same, ↓upd_ne, Nat.reduceBEq, true_and, and_true, List.getD_cons_zero, List.getD_cons_succ, List.getElem?_cons_zero, List.getElem?_cons_succ, cfg_P, cfg_tab, cfg_muts, cfg_frz, cfg_num, numOf_eq, List.contains_nil, decide_false, List.lookup_cons, List.lookup_nil, tabOf_cons, tab_v, pur_ints, Bool.and_self, List.nil_append, List.append_nil, updO_same, List.length_cons, List.length_nil, Nat.zero_add, List.drop_zero, List.take_zero, Nat.reduceAdd, List.set_cons_zero, nth_zero, Nat.lt_succ_self, not_true_eq_false, st0, Nat.le_refl, pur_int, pur_lits, cells_agg, pur_agg, ↓ev_tmp, ↓ev_int, ↓ev_func, ↓iop_move, ↓iop_assign, ↓iop_alloc, ↓iop_box, ↓iop_load, ↓iop_store, ↓iop_binOp, ↓iop_fieldAddr, ↓iop_callv, nrmAll_cons, nrmAll_nil, nrm_agg, nrmL_cons, nrmL_nil, nrm_lits, nrm1_int, nrm1_lits, pickP_f, pickP_t, loadP_vptr, loadP_ptr, setCells_agg, storeP_ptr, fieldP_ptr, b_neq, splice_eq, env0_eq, valT_eq, pursL_cons, pursL_nil, Store.new, Store.set, ↓reduceIte, arr_eq, arrB_some, callP_eq, boxP_eq, List.take_succ_cons, List.drop_succ_cons, List.drop_nil, List.take_nil, ↓evs_cons, ↓evs_nil, beq_self_eq_true, see_eq, and_false, Bool.true_eq_false, e_rFin, s_rFin, nth_reps, pur_reps, Try.f18, ty24, ty25, ty28, ty32, ty39, hfm]
  refine loop_cnt [6, 7, 17, 18, 19, 20, 21, 22, 23, 24, 25, 26, 27, 28, 29, 30, 31, 32, 33, 34, 35, 36, 37, 38, 39, 40] l.length (fun j ρ st' => ρ 7 = I j ∧ ρ 6 = I (costT rs st l j) ∧ st'.obj 0 = some (.arr 0 2 [.agg [I 0, I 0]]) ∧ st'.obj 1 = some (.arr 0 2 [.agg [ints l, I 0]])) (.refl _) ?_ ?_
  · simp +contextual (maxSteps := 4000000) only [↓upd_same, ↓upd_ne, Nat.reduceBEq, true_and, and_true, PV.int.injEq, updO_same, updO_ne, Int.cast_ofNat_Int, nth_reps, pur_reps, Try.f18]
    simp [costT]
  · rintro j ρ ⟨ob, M⟩ hj ⟨h7, h6, h0, h1⟩
    dsimp only at h0 h1
    by_cases hlt : j < l.length
    · have hne : l ≠ [] := fun h => by subst h; simp at hlt
      have hl := hl.resolve_left hne
      obtain ⟨hc, hb⟩ := hb.resolve_left hne
      have h10 := hc.len
      have hjn : j < rs.length := by omega
      have b1 := cost_b hc hb j (by omega)
      have b2 := cost_step hc hb hjn
      have b3 := hb j
      have b4 := hc.start
      have w1 : IntKind.i64.wrap (l.getD j 0 - st) = l.getD j 0 - st := wrap64 (by omega) (by omega)
      have w2 : IntKind.i64.wrap (ch rs j * (l.getD j 0 - st)) = ch rs j * (l.getD j 0 - st) := wrap64 (by omega) (by omega)
      have w3 : IntKind.i64.wrap (costT rs st l j + ch rs j * (l.getD j 0 - st)) = costT rs st l (j + 1) := wrap64 (by omega) (by omega)
      have w4 : IntKind.i64.wrap ((j : Int) + 1) = ((j + 1 : Nat) : Int) := by rw [wrap64 (by omega) (by omega)]; omega
      simp +contextual (maxSteps := 4000000) only [↓ur_skip, ↓ur_seq, ↓ur_block, ↓ur_region, ↓ur_cond, ↓cont_seq, ↓cont_blk, ↓cont_lp, ↓ops_consN, nY_move, nY_assign, nY_load, nY_binOp, nY_fieldAddr, nY_indexAddr, nY_callb, ↓ops_nil, opsIf_some, condC_true, Option.map_some, Option.bind_some, Option.getD_some, Nat.reduceLT, Bool.false_eq_true, ↓upd_same, ↓upd_ne, Nat.reduceBEq, and_true, List.getElem?_cons_zero, List.getElem?_cons_succ, cfg_P, cfg_frz, List.length_map, ↓havoc_in, ↓havoc_out, agree_upd, agree_havoc, List.contains_cons, List.contains_nil, Bool.or_false, Bool.or_true, Int.natCast_nonneg, Int.ofNat_lt, Int.toNat_natCast, nth_int, decide_true, Nat.zero_add, Nat.add_zero, nth_zero, Nat.lt_succ_self, cells_int, cells_agg, ↓ev_tmp, ↓ev_int, ↓iop_move, ↓iop_assign, ↓iop_load, ↓iop_binOp, ↓iop_fieldAddr, ↓iop_indexAddr, idxA_int, ↓iop_callb, bi_len, lenM_none, pickP_f, loadP_vptr, loadP_ptr, fieldP_vptr, fieldP_ptr, indexP_lits, lenP_lits, b_add, b_sub, b_mul, b_lss, ↓reduceIte, arr_eq, arrB_some, ↓evs_cons, ↓evs_nil, beq_self_eq_true, see_eq, nth_reps, pur_reps, Try.f18, ty3, ty22, ty24, ty25, ty32, ty56, h7, h6, h0, h1, hlt, hjn, ch_at, w1, w2, w3, w4]
    · have e : j = l.length := by omega
      subst e
      simp +contextual (maxSteps := 4000000) only [↓ur_seq, ↓ur_exit, ↓ur_ret, ↓ur_region, ↓ur_cond, ↓cont_seq, ↓leave_seq, ↓leave_blk, ↓leave_lp, ↓done_nil, ↓ops_consN, nY_move, nY_build, nY_load, nY_store, nY_binOp, nY_fieldAddr, nY_callb, ↓ops_nil, opsIf_some, opsIf_none, condC_false, Option.map_some, Option.bind_some, Option.getD_some, Nat.reduceLT, Bool.false_eq_true, ↓upd_same, ↓upd_ne, Nat.reduceBEq, true_and, and_true, List.getElem?_cons_zero, endQ, cfg_P, cfg_frz, List.length_map, ↓havoc_in, ↓havoc_out, List.contains_cons, List.contains_nil, Bool.or_false, Bool.or_true, Int.ofNat_lt, decide_false, Option.some.injEq, exists_eq_left', Bool.and_self, List.cons_append, List.nil_append, List.append_nil, updO_same, List.length_cons, List.length_nil, Nat.zero_add, Nat.add_zero, List.drop_zero, List.take_zero, Nat.reduceAdd, List.set_cons_zero, Nat.reduceLeDiff, nth_zero, Nat.lt_irrefl, Nat.lt_succ_self, Nat.le_refl, cells_int, isCell_int, cells_agg, DRx_int, DRx_agg, DRxL_cons, DRxL_nil, ↓ev_tmp, ↓iop_move, ↓iop_build, ↓iop_load, ↓iop_store, ↓iop_binOp, ↓iop_fieldAddr, ↓iop_callb, bi_len, lenM_none, pickP_f, pickP_t, loadP_ptr, setCells_agg, storeP_ptr, fieldP_ptr, lenP_lits, b_lss, fill_nil, fill_cons, fill1_some, buildP_eq, bldA_none, splice_eq, ires_eq, iresL_1, iresAll_nil, iresAll_cons, iresOne_cell, Store.set, ↓reduceIte, arr_eq, arrB_some, List.take_succ_cons, List.drop_succ_cons, List.drop_nil, List.take_nil, ↓evs_cons, ↓evs_nil, ↓evp_cons, ↓evp_nil, beq_self_eq_true, List.all_cons, List.all_nil, see_eq, nth_reps, pur_reps, Try.f18, ty25, ty32, ty39, h7, h6, h0, h1]
      exact hr
theorem o_rCost : O_rCost := k_rCost c_rCost
end Sim
