/- What functions of this seat compute, by values: contracts (lemmas of the statement's proof, under the conditions that each names). -/
import Derived.Test.YtpaaaaijebdphaaQZ
namespace Sim
open Go Go.Proofs
set_option maxRecDepth 10000
set_option maxHeartbeats 2000000
set_option linter.unusedVariables false
set_option linter.unusedSimpArgs false
attribute [local congr] opsIf_congr condC_congr guardC_congr grd_congr pick3_congr obind_congr omap_congr nilC_congr
theorem dspL_len {o m : List Pst} : (dspL o m).length ≤ 2000 := by
  unfold dspL
  split
  · rename_i h
    unfold dspE at h
    split at h
    · cases h
    · rename_i h1
      split at h
      · cases h
      · rename_i h2
        have h2 : ∀ p ∈ o ++ m, rgtO p := Decidable.not_not.1 h2
        unfold specL
        rw [← specW_eq (by omega) (by omega) h2 _ (Nat.le_refl _)]
        have h3 := specW_len (o := o) (m := m) (all := o ++ m) (o ++ m).length
        have h4 : (o ++ m).length = o.length + m.length := List.length_append
        omega
  · simp
noncomputable def A_law3 : (List Pst) × (List Pst) → List PV := fun (o, m) => [psts o, psts m]
noncomputable def R_law3 : (List Pst) × (List Pst) → PV := fun (o, m) => B true
def H_law3 : (List Pst) × (List Pst) → Prop := fun (o, m) => True
noncomputable def e_law3 : Nat × Ent := (3, .v (specOf A_law3 R_law3 H_law3))
theorem j_law3 : ∀ i j, A_law3 i = A_law3 j → i = j := by
  rintro ⟨o₁, m₁⟩ ⟨o₂, m₂⟩ h
  simp only [A_law3, List.cons.injEq, and_true, PV.lits.injEq, PV.int.injEq, PV.bool.injEq, PV.str.injEq, PV.agg.injEq, PV.func.injEq, Fn.func.injEq, PV.vptr.injEq, true_and, List.map_nil, inj_ints, inj_strs, inj_psts, inj_gaps, inj_pays] at h
  simp [Prod.ext_iff, h] <;> omega
theorem s_law3 (o : List Pst) (m : List Pst) : specOf A_law3 R_law3 H_law3 [psts o, psts m] = some (B true) := specOf_app j_law3 (i := (o, m)) trivial
def C_law3 : Prop := ∀ (o : List Pst) (m : List Pst) , VC Try.prog 3 [psts o, psts m] (B true)
def O_law3 : Prop := EntOK Try.prog e_law3.1 e_law3.2
theorem k_law3 (c : C_law3) : O_law3 := specOf_ok fun ⟨o, m⟩ h => c o m
theorem c_law3 : C_law3 := by
  intro o m
  refine vc_ofU mixed (l := [e_sanity, e_dispute, e_rdispute, e_sameG]) ((eok_cons o_sanity (eok_cons o_dispute (eok_cons o_rdispute (eok_cons o_sameG eok_nil))))) [] []  Try.func3 rfl (by decide +kernel) (N := 55) rfl (by simp) rfl (by kernel_rfl) fun hs => ?_
  simp only [smallL, PV.small, List.length_map, and_true, true_and] at hs
  have hG : (dspL o m).length ≤ 100000 := by have := dspL_len (o := o) (m := m); omega
  simp +contextual (maxSteps := 4000000) only [↓ur_seq, ↓ur_block, ↓ur_region, ↓cont_seq, ↓ops_consN, nY_move, nY_assign, nY_buildSlice, nY_callb, ↓ops_nil, opsIf_some, Option.map_some, Option.getD_some, Nat.reduceLT, Bool.false_eq_true, ↓upd_same, ↓upd_ne, Nat.reduceBEq, true_and, and_true, List.getD_cons_zero, List.getD_cons_succ, cfg_P, cfg_muts, List.contains_nil, List.length_cons, List.length_nil, Nat.zero_add, Nat.reduceAdd, List.replicate_succ, List.replicate_zero, List.set_cons_zero, List.set_cons_succ, Nat.reduceMul, Nat.reduceLeDiff, Nat.lt_succ_self, st0, cells_lits, ↓ev_tmp, ↓ev_int, ↓ev_bool, ↓iop_move, ↓iop_assign, ↓iop_buildSlice, ↓iop_callb, bi_len, lenM_none, lenP_lits, bel_nil, bel_cons, env0_eq, ↓reduceIte, bslP_eq, ↓evs_cons, ↓evs_nil, ↓evp_cons, ↓evp_nil, Int.cast_ofNat_Int, e_sanity, e_dispute, e_rdispute, e_sameG, nth_psts, pur_psts, nth_gaps, pur_gaps, nth_pays, pur_pays, Try.f3, ty22, ty23]
  refine loop_cnt [4, 6, 14, 15, 16, 17, 18, 19, 20, 21, 22, 23, 24, 25, 26, 27, 28, 29, 30, 31, 32] 2 (fun k ρ st' => ρ 14 = I k) (.refl _) ?_ ?_
  · simp +contextual (maxSteps := 4000000) only [↓upd_same, Int.cast_ofNat_Int, nth_psts, pur_psts, nth_gaps, pur_gaps, nth_pays, pur_pays, Try.f3]
  · rintro k ρ st hk h14
    by_cases hlt : k < 2
    · have hki : (k : Int) < 2 := by omega
      have hw1 : IntKind.i64.wrap ((k : Int) + 1) = ((k + 1 : Nat) : Int) := by rw [wrap64 (by omega) (by omega)]; omega
      obtain ⟨x, hx⟩ : ∃ x, [o, m].getD k [] = x := ⟨_, rfl⟩
      have hx' : nth [psts o, psts m] k = psts x := by
        rcases show k = 0 ∨ k = 1 by omega with rfl | rfl <;> · simp at hx; subst hx; rfl
      by_cases c1 : 30 < x.length
      · by_cases c2 : x.length ≤ 1000
        · simp +contextual (maxSteps := 4000000) only [↓ur_skip, ↓ur_seq, ↓ur_block, ↓ur_ret, ↓ur_region, ↓ur_cond, ↓cont_seq, ↓cont_blk, ↓cont_lp, ↓done_nil, ↓done_seq, ↓done_blk, ↓done_lp, ↓ops_consN, ↓ops_guardN, nY_move, nY_assign, nY_pick, nY_load, nY_binOp, nilO_tmp, nilO_int, nY_indexAddr, nY_callf, nY_callb, ↓ops_nil, opsIf_some, condC_true, guardC_tt, guardC_tf, guardC_ft, guardC_ff, Option.map_some, Option.bind_some, Option.getD_some, Nat.reduceLT, Bool.false_eq_true, ↓upd_same, ↓upd_ne, Nat.reduceBEq, true_and, and_true, List.getElem?_toArray, List.getElem?_cons_zero, List.getElem?_cons_succ, endQ, cfg_P, cfg_tab, cfg_muts, cfg_frz, List.length_map, ↓havoc_in, ↓havoc_out, agree_upd, agree_havoc, List.contains_cons, List.contains_nil, Bool.or_false, Bool.or_true, Int.natCast_nonneg, Int.toNat_natCast, decide_true, decide_false, Option.some.injEq, exists_eq_left', tabOf_cons, tab_v, List.append_nil, List.length_cons, List.length_nil, Nat.zero_add, Nat.reduceAdd, Nat.lt_succ_self, Bool.not_false, cells_lits, DRx_bool, ↓ev_tmp, ↓ev_int, ↓ev_bool, ↓ev_func, ↓guardP_eq, grd_some, ↓iop_move, ↓iop_assign, ↓pick3_bool, ↓iop_pick, ↓iop_load, ↓iop_binOp, ↓iop_indexAddr, idxA_int, ↓iop_callv, ↓iop_callb, nrmAll_nil, bi_len, lenM_none, pickP_f, loadP_vptr, indexP_lits, lenP_lits, b_add, b_lss, b_leq, b_gtr, ires_eq, iresL_1, iresAll_nil, iresAll_cons, iresOne_tmp, valT_eq, pursL_nil, ↓reduceIte, callP_eq, tsOf_eq, guardC_td, guardC_fd, condC_d, ↓evs_cons, ↓evs_nil, implies_true, beq_self_eq_true, see_eq, and_false, Bool.true_eq_false, Int.cast_ofNat_Int, s_sanity, nth_psts, pur_psts, nth_gaps, pur_gaps, nth_pays, pur_pays, Try.f3, ty22, ty23, h14, hki, hlt, hx, hx', hw1, c1, c2]
        · by_cases c3 : 1010 < x.length <;> simp +contextual (maxSteps := 4000000) only [↓ur_skip, ↓ur_seq, ↓ur_block, ↓ur_ret, ↓ur_region, ↓ur_cond, ↓cont_seq, ↓cont_blk, ↓cont_lp, ↓done_nil, ↓done_seq, ↓done_blk, ↓done_lp, ↓ops_consN, ↓ops_guardN, nY_move, nY_assign, nY_pick, nY_load, nY_binOp, nilO_tmp, nilO_int, nY_indexAddr, nY_callf, nY_callb, ↓ops_nil, opsIf_some, condC_true, guardC_tt, guardC_tf, guardC_ft, guardC_ff, Option.map_some, Option.bind_some, Option.getD_some, Nat.reduceLT, Bool.false_eq_true, ↓upd_same, ↓upd_ne, Nat.reduceBEq, true_and, and_true, List.getElem?_toArray, List.getElem?_cons_zero, List.getElem?_cons_succ, endQ, cfg_P, cfg_tab, cfg_muts, cfg_frz, List.length_map, ↓havoc_in, ↓havoc_out, agree_upd, agree_havoc, List.contains_cons, List.contains_nil, Bool.or_false, Bool.or_true, Int.natCast_nonneg, Int.toNat_natCast, decide_true, decide_false, Option.some.injEq, exists_eq_left', tabOf_cons, tab_v, List.append_nil, List.length_cons, List.length_nil, Nat.zero_add, Nat.reduceAdd, Nat.lt_succ_self, Bool.not_false, cells_lits, DRx_bool, ↓ev_tmp, ↓ev_int, ↓ev_bool, ↓ev_func, ↓guardP_eq, grd_some, ↓iop_move, ↓iop_assign, ↓pick3_bool, ↓iop_pick, ↓iop_load, ↓iop_binOp, ↓iop_indexAddr, idxA_int, ↓iop_callv, ↓iop_callb, nrmAll_nil, bi_len, lenM_none, pickP_f, loadP_vptr, indexP_lits, lenP_lits, b_add, b_lss, b_leq, b_gtr, ires_eq, iresL_1, iresAll_nil, iresAll_cons, iresOne_tmp, valT_eq, pursL_nil, ↓reduceIte, callP_eq, tsOf_eq, guardC_td, guardC_fd, condC_d, ↓evs_cons, ↓evs_nil, implies_true, beq_self_eq_true, see_eq, and_false, Bool.true_eq_false, Int.cast_ofNat_Int, s_sanity, nth_psts, pur_psts, nth_gaps, pur_gaps, nth_pays, pur_pays, Try.f3, ty22, ty23, h14, hki, hlt, hx, hx', hw1, c1, c2, c3]
      · by_cases c3 : 1010 < x.length
        · omega
        · simp +contextual (maxSteps := 4000000) only [↓ur_skip, ↓ur_seq, ↓ur_block, ↓ur_ret, ↓ur_region, ↓ur_cond, ↓cont_seq, ↓cont_blk, ↓cont_lp, ↓done_nil, ↓done_seq, ↓done_blk, ↓done_lp, ↓ops_consN, ↓ops_guardN, nY_move, nY_assign, nY_pick, nY_load, nY_binOp, nilO_tmp, nilO_int, nY_indexAddr, nY_callf, nY_callb, ↓ops_nil, opsIf_some, condC_true, guardC_tt, guardC_tf, guardC_ft, guardC_ff, Option.map_some, Option.bind_some, Option.getD_some, Nat.reduceLT, Bool.false_eq_true, ↓upd_same, ↓upd_ne, Nat.reduceBEq, true_and, and_true, List.getElem?_toArray, List.getElem?_cons_zero, List.getElem?_cons_succ, endQ, cfg_P, cfg_tab, cfg_muts, cfg_frz, List.length_map, ↓havoc_in, ↓havoc_out, agree_upd, agree_havoc, List.contains_cons, List.contains_nil, Bool.or_false, Bool.or_true, Int.natCast_nonneg, Int.toNat_natCast, decide_true, decide_false, Option.some.injEq, exists_eq_left', tabOf_cons, tab_v, List.append_nil, List.length_cons, List.length_nil, Nat.zero_add, Nat.reduceAdd, Nat.lt_succ_self, Bool.not_false, cells_lits, DRx_bool, ↓ev_tmp, ↓ev_int, ↓ev_bool, ↓ev_func, ↓guardP_eq, grd_some, ↓iop_move, ↓iop_assign, ↓pick3_bool, ↓iop_pick, ↓iop_load, ↓iop_binOp, ↓iop_indexAddr, idxA_int, ↓iop_callv, ↓iop_callb, nrmAll_nil, bi_len, lenM_none, pickP_f, loadP_vptr, indexP_lits, lenP_lits, b_add, b_lss, b_leq, b_gtr, ires_eq, iresL_1, iresAll_nil, iresAll_cons, iresOne_tmp, valT_eq, pursL_nil, ↓reduceIte, callP_eq, tsOf_eq, guardC_td, guardC_fd, condC_d, ↓evs_cons, ↓evs_nil, implies_true, beq_self_eq_true, see_eq, and_false, Bool.true_eq_false, Int.cast_ofNat_Int, s_sanity, nth_psts, pur_psts, nth_gaps, pur_gaps, nth_pays, pur_pays, Try.f3, ty22, ty23, h14, hki, hlt, hx, hx', hw1, c1, c3]
    · have e2 : k = 2 := by omega
      subst e2
      simp +contextual (maxSteps := 4000000) only [↓ur_seq, ↓ur_exit, ↓ur_ret, ↓ur_region, ↓ur_cond, ↓cont_seq, ↓leave_seq, ↓leave_blk, ↓leave_lp, ↓done_nil, ↓ops_consN, ↓ops_guardN, nY_move, nY_assign, nY_pick, nY_alloc, nY_load, nY_store, nY_binOp, nilO_tmp, nY_fieldAddr, nY_extract, nY_callf, ↓ops_nil, opsIf_some, opsIf_none, condC_false, guardC_tt, Option.map_some, Option.bind_some, Option.getD_some, Nat.reduceLT, Bool.false_eq_true, ↓upd_same, ↓upd_ne, Nat.reduceBEq, and_true, List.getD_cons_zero, List.getD_cons_succ, List.getElem?_toArray, List.getElem?_cons_zero, List.getElem?_cons_succ, endQ, cfg_P, cfg_tab, cfg_muts, cfg_frz, cfg_num, numOf_eq, ↓havoc_in, ↓havoc_out, List.contains_cons, List.contains_nil, Bool.or_false, Bool.or_true, decide_true, decide_false, Option.some.injEq, exists_eq_left', tabOf_cons, tab_v, Bool.and_self, Nat.reduceEqDiff, List.nil_append, List.append_nil, updO_same, List.length_cons, List.length_nil, Nat.zero_add, Nat.add_zero, List.take_zero, Nat.reduceAdd, List.set_cons_zero, nth_zero, Nat.lt_succ_self, Bool.not_false, Int.reduceLT, Nat.le_refl, pur_lits, cells_agg, DRx_bool, ↓ev_tmp, ↓ev_func, ↓guardP_eq, grd_some, ↓iop_move, ↓iop_assign, ↓pick3_bool, ↓iop_pick, ↓iop_alloc, ↓iop_load, ↓iop_store, ↓iop_binOp, ↓iop_fieldAddr, ↓iop_extract, extr_tuple, ↓iop_callv, nrmAll_cons, nrmAll_nil, nrm_lits, pickP_f, loadP_ptr, setCells_agg, storeP_ptr, fieldP_ptr, b_eql, b_lss, splice_eq, env0_eq, ires_eq, iresL_1, iresAll_nil, iresAll_cons, iresOne_tmp, valT_eq, pursL_cons, pursL_nil, Store.new, Store.set, ↓reduceIte, arr_eq, arrB_some, callP_eq, tsOf_eq, List.drop_succ_cons, List.drop_nil, ↓evs_cons, ↓evs_nil, beq_self_eq_true, see_eq, and_false, Bool.true_eq_false, Int.cast_ofNat_Int, s_sanity, s_dispute, s_rdispute, s_sameG, nth_psts, pur_psts, nth_gaps, pur_gaps, nth_pays, pur_pays, Try.f3, ty22, ty25, ty26, ty30, h14, hG]
theorem o_law3 : O_law3 := k_law3 c_law3
end Sim
