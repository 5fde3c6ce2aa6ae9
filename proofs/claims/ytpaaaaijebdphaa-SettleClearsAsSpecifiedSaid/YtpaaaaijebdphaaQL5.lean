/- What functions of this seat compute, by values: contracts (lemmas of the statement's proof, under the conditions that each names). -/
import Derived.Test.YtpaaaaijebdphaaQZ
namespace Sim
open Go Go.Proofs
set_option maxRecDepth 10000
set_option maxHeartbeats 2000000
set_option linter.unusedVariables false
set_option linter.unusedSimpArgs false
attribute [local congr] opsIf_congr condC_congr guardC_congr grd_congr pick3_congr obind_congr omap_congr nilC_congr
theorem clear_len {n : Int} {ps : List Pst} {l : List Pay} {t : Int} : (clearL n ps l t).length ≤ ps.length + l.length := by
  unfold clearL
  split
  · simp only [qsK, List.length_append, List.length_map, List.length_take]; omega
  · simp
noncomputable def A_law5 : (Int) × (List Pst) × (List Pay) × (Int) → List PV := fun (n, ps, y, t) => [.agg [I n, psts ps], pays y, I t]
noncomputable def R_law5 : (Int) × (List Pst) × (List Pay) × (Int) → PV := fun (n, ps, y, t) => B true
def H_law5 : (Int) × (List Pst) × (List Pay) × (Int) → Prop := fun (n, ps, y, t) => True
noncomputable def e_law5 : Nat × Ent := (5, .v (specOf A_law5 R_law5 H_law5))
theorem j_law5 : ∀ i j, A_law5 i = A_law5 j → i = j := by
  rintro ⟨n₁, ps₁, y₁, t₁⟩ ⟨n₂, ps₂, y₂, t₂⟩ h
  simp only [A_law5, List.cons.injEq, and_true, PV.lits.injEq, PV.int.injEq, PV.bool.injEq, PV.str.injEq, PV.agg.injEq, PV.func.injEq, Fn.func.injEq, PV.vptr.injEq, true_and, List.map_nil, inj_ints, inj_strs, inj_psts, inj_gaps, inj_pays] at h
  simp [Prod.ext_iff, h] <;> omega
theorem s_law5 (n : Int) (ps : List Pst) (y : List Pay) (t : Int) : specOf A_law5 R_law5 H_law5 [.agg [I n, psts ps], pays y, I t] = some (B true) := specOf_app j_law5 (i := (n, ps, y, t)) trivial
def C_law5 : Prop := ∀ (n : Int) (ps : List Pst) (y : List Pay) (t : Int) , VC Try.prog 5 [.agg [I n, psts ps], pays y, I t] (B true)
def O_law5 : Prop := EntOK Try.prog e_law5.1 e_law5.2
theorem k_law5 (c : C_law5) : O_law5 := specOf_ok fun ⟨n, ps, y, t⟩ h => c n ps y t
theorem c_law5 : C_law5 := by
  intro n ps y t
  refine vc_ofU mixed (l := [e_sanity, e_bals, e_rbals, e_clear, e_rclear, e_sameL, e_sameB]) ((eok_cons o_sanity (eok_cons o_bals (eok_cons o_rbals (eok_cons o_clear (eok_cons o_rclear (eok_cons o_sameL (eok_cons o_sameB eok_nil)))))))) [] []  Try.func5 rfl (by decide +kernel) (N := 68) rfl (by simp) rfl (by kernel_rfl) fun hs => ?_
  simp only [smallL, PV.small, List.length_map, and_true, true_and] at hs
  by_cases c1 : 30 < ps.length
  · have c1i : (30 : Int) < (ps.length : Int) := by omega
    simp +contextual (maxSteps := 4000000) only [↓ur_seq, ↓ur_ret, ↓ur_region, ↓ur_cond, ↓cont_seq, ↓done_nil, ↓done_seq, ↓ops_consN, ↓ops_guardN, nY_move, nY_assign, nY_pick, nY_box, nY_load, nY_binOp, nilO_int, nY_fieldAddr, nY_callf, nY_callb, ↓ops_nil, opsIf_some, condC_true, guardC_tf, Option.map_some, Option.bind_some, Option.getD_some, Nat.reduceLT, Bool.false_eq_true, ↓upd_same, ↓upd_ne, Nat.reduceBEq, and_true, List.getD_cons_zero, List.getElem?_toArray, List.getElem?_cons_zero, List.getElem?_cons_succ, endQ, cfg_P, cfg_tab, cfg_muts, cfg_frz, List.length_map, List.contains_nil, decide_true, Option.some.injEq, exists_eq_left', tabOf_cons, tab_v, List.append_nil, List.length_cons, List.length_nil, Nat.zero_add, Nat.reduceAdd, Nat.lt_succ_self, Bool.not_false, st0, cells_agg, DRx_bool, ↓ev_tmp, ↓ev_int, ↓ev_bool, ↓ev_func, ↓guardP_eq, grd_some, ↓iop_move, ↓iop_assign, ↓pick3_bool, ↓iop_pick, ↓iop_box, ↓iop_load, ↓iop_binOp, ↓iop_fieldAddr, ↓iop_callv, ↓iop_callb, nrmAll_nil, bi_len, lenM_none, pickP_f, loadP_vptr, fieldP_vptr, lenP_lits, b_gtr, env0_eq, ires_eq, iresL_1, iresAll_nil, iresAll_cons, iresOne_tmp, valT_eq, pursL_nil, ↓reduceIte, callP_eq, tsOf_eq, boxP_eq, ↓evs_cons, ↓evs_nil, see_eq, and_false, Bool.true_eq_false, e_sanity, s_sanity, e_bals, e_rbals, e_clear, e_rclear, e_sameL, e_sameB, nth_psts, pur_psts, nth_gaps, pur_gaps, nth_pays, pur_pays, Try.f5, ty22, ty45, c1, c1i]
  have c1i : ¬ (30 : Int) < (ps.length : Int) := by omega
  by_cases c2 : 30 < y.length
  · have c2i : (30 : Int) < (y.length : Int) := by omega
    simp +contextual (maxSteps := 4000000) only [↓ur_seq, ↓ur_ret, ↓ur_region, ↓ur_cond, ↓cont_seq, ↓done_nil, ↓done_seq, ↓ops_consN, ↓ops_guardN, nY_move, nY_assign, nY_pick, nY_box, nY_load, nY_binOp, nilO_int, nY_fieldAddr, nY_callf, nY_callb, ↓ops_nil, opsIf_some, condC_true, guardC_ff, Option.map_some, Option.bind_some, Option.getD_some, Nat.reduceLT, Bool.false_eq_true, ↓upd_same, ↓upd_ne, Nat.reduceBEq, and_true, List.getD_cons_zero, List.getD_cons_succ, List.getElem?_toArray, List.getElem?_cons_zero, List.getElem?_cons_succ, endQ, cfg_P, cfg_tab, cfg_muts, cfg_frz, List.length_map, List.contains_nil, decide_true, decide_false, Option.some.injEq, exists_eq_left', tabOf_cons, tab_v, List.append_nil, List.length_cons, List.length_nil, Nat.zero_add, Nat.reduceAdd, Nat.lt_succ_self, Bool.not_false, st0, cells_agg, DRx_bool, ↓ev_tmp, ↓ev_int, ↓ev_bool, ↓ev_func, ↓guardP_eq, grd_some, ↓iop_move, ↓iop_assign, ↓pick3_bool, ↓iop_pick, ↓iop_box, ↓iop_load, ↓iop_binOp, ↓iop_fieldAddr, ↓iop_callv, ↓iop_callb, nrmAll_nil, bi_len, lenM_none, pickP_f, loadP_vptr, fieldP_vptr, lenP_lits, b_gtr, env0_eq, ires_eq, iresL_1, iresAll_nil, iresAll_cons, iresOne_tmp, valT_eq, pursL_nil, ↓reduceIte, callP_eq, tsOf_eq, boxP_eq, ↓evs_cons, ↓evs_nil, see_eq, and_false, Bool.true_eq_false, e_sanity, s_sanity, e_bals, e_rbals, e_clear, e_rclear, e_sameL, e_sameB, nth_psts, pur_psts, nth_gaps, pur_gaps, nth_pays, pur_pays, Try.f5, ty22, ty35, ty45, c1, c1i, c2, c2i]
  have c2i : ¬ (30 : Int) < (y.length : Int) := by omega
  have hL : (balsL n ps t).length ≤ 100000 := by have := bals_len (n := n) (ps := ps) (t := t); omega
  have hC : (clearL n ps y t).length ≤ 100000 := by have := clear_len (n := n) (ps := ps) (l := y) (t := t); omega
  simp +contextual (maxSteps := 4000000) only [↓ur_skip, ↓ur_seq, ↓ur_ret, ↓ur_region, ↓ur_cond, ↓cont_seq, ↓done_nil, ↓ops_consN, ↓ops_guardN, nY_move, nY_assign, nY_pick, nY_alloc, nY_box, nY_load, nY_store, nY_binOp, nilO_tmp, nilO_int, nY_fieldAddr, nY_extract, nY_callf, nY_callb, ↓ops_nil, opsIf_some, opsIf_none, condC_false, guardC_tt, guardC_ff, Option.map_some, Option.bind_some, Option.getD_some, Nat.reduceLT, Bool.false_eq_true, ↓upd_same, ↓upd_ne, Nat.reduceBEq, and_true, List.getD_cons_zero, List.getD_cons_succ, List.getElem?_toArray, List.getElem?_cons_zero, List.getElem?_cons_succ, endQ, cfg_P, cfg_tab, cfg_muts, cfg_frz, cfg_num, numOf_eq, List.length_map, List.contains_nil, decide_true, decide_false, Option.some.injEq, exists_eq_left', List.lookup_cons, List.lookup_nil, tabOf_cons, tab_v, pur_ints, Bool.and_self, Nat.reduceEqDiff, List.nil_append, List.append_nil, updO_same, updO_ne, List.length_cons, List.length_nil, Nat.zero_add, Nat.add_zero, List.drop_zero, List.take_zero, Nat.reduceAdd, List.set_cons_zero, Nat.reduceLeDiff, nth_zero, Nat.lt_succ_self, Bool.not_false, st0, Nat.le_refl, pur_int, pur_lits, cells_agg, pur_agg, DRx_bool, ↓ev_tmp, ↓ev_int, ↓ev_bool, ↓ev_func, ↓guardP_eq, grd_some, ↓iop_move, ↓iop_assign, ↓pick3_bool, ↓iop_pick, ↓iop_alloc, ↓iop_box, ↓iop_load, ↓iop_store, ↓iop_binOp, ↓iop_fieldAddr, ↓iop_extract, extr_tuple, ↓iop_callv, ↓iop_callb, nrmAll_cons, nrmAll_nil, bi_len, lenM_none, nrm_agg, nrmL_cons, nrmL_nil, nrm_int, nrm_lits, nrm1_int, nrm1_lits, pickP_f, pickP_t, loadP_vptr, loadP_ptr, setCells_agg, storeP_ptr, fieldP_vptr, fieldP_ptr, lenP_lits, b_eql, b_gtr, splice_eq, env0_eq, ires_eq, iresL_1, iresAll_nil, iresAll_cons, iresOne_tmp, valT_eq, pursL_cons, pursL_nil, Store.new, Store.set, ↓reduceIte, arr_eq, arrB_some, callP_eq, tsOf_eq, boxP_eq, List.take_succ_cons, List.drop_succ_cons, List.drop_nil, List.take_nil, ↓evs_cons, ↓evs_nil, beq_self_eq_true, see_eq, and_false, Bool.true_eq_false, e_sanity, s_sanity, e_bals, s_bals, e_rbals, s_rbals, e_clear, s_clear, e_rclear, s_rclear, e_sameL, s_sameL, e_sameB, s_sameB, nth_psts, pur_psts, nth_gaps, pur_gaps, nth_pays, pur_pays, Try.f5, ty3, ty22, ty26, ty34, ty35, ty45, ty49, ty54, c1, c1i, c2, c2i, hL, hC]
theorem o_law5 : O_law5 := k_law5 c_law5
end Sim
