/- What functions of this seat compute, by values: contracts (lemmas of the statement's proof, under the conditions that each names). -/
import Derived.Test.YtpdaiflnibekaaaQX
import Derived.Test.YtpdaiflnibekaaaQY2
namespace Sim
open Go Go.Proofs
set_option maxRecDepth 10000
set_option maxHeartbeats 2000000
set_option linter.unusedVariables false
set_option linter.unusedSimpArgs false
attribute [local congr] opsIf_congr condC_congr guardC_congr grd_congr pick3_congr obind_congr omap_congr
noncomputable def A_law10 : (Int) × (List Rep) × (List Int) × (List Int) → List PV := fun (st, rs, o, vs) => [.agg [I st, reps rs], ints o, ints vs]
noncomputable def R_law10 : (Int) × (List Rep) × (List Int) × (List Int) → PV := fun (st, rs, o, vs) => B true
def H_law10 : (Int) × (List Rep) × (List Int) × (List Int) → Prop := fun (st, rs, o, vs) => True
noncomputable def e_law10 : Nat × Ent := (6, .v (specOf A_law10 R_law10 H_law10))
theorem j_law10 : ∀ i j, A_law10 i = A_law10 j → i = j := by
  rintro ⟨st₁, rs₁, o₁, vs₁⟩ ⟨st₂, rs₂, o₂, vs₂⟩ h
  simp only [A_law10, List.cons.injEq, and_true, PV.lits.injEq, PV.int.injEq, PV.bool.injEq, PV.str.injEq, PV.agg.injEq, PV.func.injEq, PV.vptr.injEq, true_and, List.map_nil, inj_ints, inj_strs, inj_reps] at h
  simp [Prod.ext_iff, h] <;> omega
theorem s_law10 (st : Int) (rs : List Rep) (o : List Int) (vs : List Int) : specOf A_law10 R_law10 H_law10 [.agg [I st, reps rs], ints o, ints vs] = some (B true) := specOf_app j_law10 (i := (st, rs, o, vs)) trivial
def C_law10 : Prop := ∀ (st : Int) (rs : List Rep) (o : List Int) (vs : List Int) , VC Try.prog 6 [.agg [I st, reps rs], ints o, ints vs] (B true)
def O_law10 : Prop := EntOK Try.prog e_law10.1 e_law10.2
theorem k_law10 (c : C_law10) : O_law10 := specOf_ok fun ⟨st, rs, o, vs⟩ h => c st rs o vs
theorem c_law10 : C_law10 := by
  intro st rs o vs
  refine vc_ofU mixed (l := [e_sanity, e_rcheck, e_Best, e_Prove, e_Cost, e_Accept]) ((eok_cons o_sanity (eok_cons o_rcheck (eok_cons o_Best (eok_cons o_Prove (eok_cons o_Cost (eok_cons o_Accept eok_nil))))))) [] []  Try.func6 rfl (by decide +kernel) (N := 131) rfl (by simp) rfl (by kernel_rfl) fun hs => ?_
  simp only [smallL, PV.small, List.length_map, and_true, true_and] at hs
  by_cases h0 : checkM st rs = 0
  case neg =>
    generalize hr : checkM st rs = r at *
    simp +contextual (maxSteps := 4000000) only [↓ur_seq, ↓ur_ret, ↓ur_region, ↓ur_cond, ↓cont_seq, ↓done_nil, ↓done_seq, ↓ops_consN, ↓ops_guardN, nY_move, nY_assign, nY_pick, nY_box, nY_load, nY_binOp, nY_callf, nY_callb, ↓ops_nil, opsIf_some, condC_true, guardC_tf, Option.map_some, Option.bind_some, Option.getD_some, Nat.reduceLT, Bool.false_eq_true, ↓upd_same, ↓upd_ne, Nat.reduceBEq, and_true, List.getD_cons_zero, List.getElem?_toArray, List.getElem?_cons_zero, List.getElem?_cons_succ, endQ, cfg_P, cfg_tab, cfg_muts, cfg_frz, List.contains_nil, decide_true, Option.some.injEq, exists_eq_left', List.lookup_cons, List.lookup_nil, tabOf_cons, tab_v, Bool.and_self, Nat.reduceEqDiff, List.nil_append, List.append_nil, List.length_cons, List.length_nil, Nat.zero_add, List.drop_zero, Nat.reduceAdd, not_false_eq_true, st0, Nat.le_refl, pur_int, pur_lits, cells_agg, pur_agg, DRx_bool, ↓ev_tmp, ↓ev_int, ↓ev_bool, ↓ev_func, ↓guardP_eq, grd_some, ↓iop_move, ↓iop_assign, ↓pick3_bool, ↓iop_pick, ↓iop_box, ↓iop_load, ↓iop_binOp, ↓iop_callv, nrmAll_cons, nrmAll_nil, nrm_agg, nrmL_cons, nrmL_nil, nrm1_int, nrm1_lits, pickP_t, loadP_vptr, b_neq, env0_eq, ires_eq, iresL_1, iresAll_nil, iresAll_cons, iresOne_tmp, valT_eq, pursL_cons, pursL_nil, ↓reduceIte, callP_eq, boxP_eq, List.take_succ_cons, List.take_nil, ↓evs_cons, ↓evs_nil, beq_self_eq_true, see_eq, and_false, Bool.true_eq_false, e_sanity, s_sanity, e_rcheck, s_rcheck, e_Best, e_Prove, e_Cost, e_Accept, nth_reps, pur_reps, Try.f6, ty24, h0, hr]
  have hc := check_zero.1 h0
  by_cases h2 : (20 : Int) < o.length
  · simp +contextual (maxSteps := 4000000) only [↓ur_seq, ↓ur_ret, ↓ur_region, ↓ur_cond, ↓cont_seq, ↓done_nil, ↓done_seq, ↓ops_consN, ↓ops_guardN, nY_move, nY_assign, nY_pick, nY_box, nY_load, nY_binOp, nY_callf, nY_callb, ↓ops_nil, opsIf_some, condC_true, guardC_tf, guardC_ff, Option.map_some, Option.bind_some, Option.getD_some, Nat.reduceLT, Bool.false_eq_true, ↓upd_same, ↓upd_ne, Nat.reduceBEq, and_true, List.getD_cons_zero, List.getD_cons_succ, List.getElem?_toArray, List.getElem?_cons_zero, List.getElem?_cons_succ, endQ, cfg_P, cfg_tab, cfg_muts, cfg_frz, List.length_map, List.contains_nil, decide_true, decide_false, Option.some.injEq, exists_eq_left', List.lookup_cons, List.lookup_nil, tabOf_cons, tab_v, Bool.and_self, Nat.reduceEqDiff, List.nil_append, List.append_nil, List.length_cons, List.length_nil, Nat.zero_add, List.drop_zero, Nat.reduceAdd, Nat.lt_succ_self, not_true_eq_false, st0, Nat.le_refl, pur_int, pur_lits, cells_agg, pur_agg, DRx_bool, ↓ev_tmp, ↓ev_int, ↓ev_bool, ↓ev_func, ↓guardP_eq, grd_some, ↓iop_move, ↓iop_assign, ↓pick3_bool, ↓iop_pick, ↓iop_box, ↓iop_load, ↓iop_binOp, ↓iop_callv, ↓iop_callb, nrmAll_cons, nrmAll_nil, bi_len, lenM_none, nrm_agg, nrmL_cons, nrmL_nil, nrm1_int, nrm1_lits, pickP_t, loadP_vptr, lenP_lits, b_neq, b_gtr, env0_eq, ires_eq, iresL_1, iresAll_nil, iresAll_cons, iresOne_tmp, valT_eq, pursL_cons, pursL_nil, ↓reduceIte, callP_eq, boxP_eq, List.take_succ_cons, List.take_nil, ↓evs_cons, ↓evs_nil, beq_self_eq_true, see_eq, and_false, Bool.true_eq_false, e_sanity, s_sanity, e_rcheck, s_rcheck, e_Best, e_Prove, e_Cost, e_Accept, nth_reps, pur_reps, Try.f6, ty24, ty25, h0, h2]
  by_cases h3 : (1100 : Int) < vs.length
  · simp +contextual (maxSteps := 4000000) only [↓ur_seq, ↓ur_ret, ↓ur_region, ↓ur_cond, ↓cont_seq, ↓done_nil, ↓done_seq, ↓ops_consN, ↓ops_guardN, nY_move, nY_assign, nY_pick, nY_box, nY_load, nY_binOp, nY_callf, nY_callb, ↓ops_nil, opsIf_some, condC_true, guardC_ff, Option.map_some, Option.bind_some, Option.getD_some, Nat.reduceLT, Bool.false_eq_true, ↓upd_same, ↓upd_ne, Nat.reduceBEq, and_true, List.getD_cons_zero, List.getD_cons_succ, List.getElem?_toArray, List.getElem?_cons_zero, List.getElem?_cons_succ, endQ, cfg_P, cfg_tab, cfg_muts, cfg_frz, List.length_map, List.contains_nil, decide_true, decide_false, Option.some.injEq, exists_eq_left', List.lookup_cons, List.lookup_nil, tabOf_cons, tab_v, Bool.and_self, Nat.reduceEqDiff, List.nil_append, List.append_nil, List.length_cons, List.length_nil, Nat.zero_add, List.drop_zero, Nat.reduceAdd, Nat.lt_succ_self, not_true_eq_false, st0, Nat.le_refl, pur_int, pur_lits, cells_agg, pur_agg, DRx_bool, ↓ev_tmp, ↓ev_int, ↓ev_bool, ↓ev_func, ↓guardP_eq, grd_some, ↓iop_move, ↓iop_assign, ↓pick3_bool, ↓iop_pick, ↓iop_box, ↓iop_load, ↓iop_binOp, ↓iop_callv, ↓iop_callb, nrmAll_cons, nrmAll_nil, bi_len, lenM_none, nrm_agg, nrmL_cons, nrmL_nil, nrm1_int, nrm1_lits, pickP_t, loadP_vptr, lenP_lits, b_neq, b_gtr, env0_eq, ires_eq, iresL_1, iresAll_nil, iresAll_cons, iresOne_tmp, valT_eq, pursL_cons, pursL_nil, ↓reduceIte, callP_eq, boxP_eq, List.take_succ_cons, List.take_nil, ↓evs_cons, ↓evs_nil, beq_self_eq_true, see_eq, and_false, Bool.true_eq_false, e_sanity, s_sanity, e_rcheck, s_rcheck, e_Best, e_Prove, e_Cost, e_Accept, nth_reps, pur_reps, Try.f6, ty24, ty25, h0, h2, h3]
  obtain ⟨p1, p2, p3⟩ := prove_eq (st := st) (rs := rs)
  obtain ⟨b1, b2⟩ := best_err h0
  by_cases he : (bestM st rs).2 = 0
  case neg =>
    have hb := b2 he
    have hp2 := p2 he
    have hV : V st rs 0 = none := Classical.byContradiction fun h => he (b1.2 h)
    have hno : ∀ o, ¬ (costM st rs o).2 = 0 := fun o h => by
      obtain ⟨v, hv, _⟩ := V_order h
      rw [hV] at hv; cases hv
    have hac : acceptM st rs o vs = false := by simp [acceptM, hno o]
    have hno1 := hno o
    rw [hb] at p1
    simp only at p1
    simp +contextual (maxSteps := 4000000) only [↓ur_skip, ↓ur_seq, ↓ur_ret, ↓ur_region, ↓ur_cond, ↓cont_seq, ↓done_nil, ↓done_seq, ↓ops_consN, ↓ops_guardN, nY_move, nY_assign, nY_pick, nY_box, nY_load, nY_binOp, nY_unOp, nY_extract, nY_callf, nY_callb, ↓ops_nil, opsIf_some, condC_true, condC_false, guardC_tt, guardC_ff, Option.map_some, Option.bind_some, Option.getD_some, Nat.reduceLT, Bool.false_eq_true, ↓upd_same, ↓upd_ne, Nat.reduceBEq, and_true, List.getD_cons_zero, List.getD_cons_succ, List.getElem?_toArray, List.getElem?_cons_zero, List.getElem?_cons_succ, endQ, cfg_P, cfg_tab, cfg_muts, cfg_frz, List.map_nil, List.length_map, List.contains_nil, decide_true, decide_false, Option.some.injEq, exists_eq_left', List.lookup_cons, List.lookup_nil, tabOf_cons, tab_v, pur_ints, Bool.and_self, Nat.reduceEqDiff, List.nil_append, List.append_nil, List.length_cons, List.length_nil, Nat.zero_add, List.drop_zero, Nat.reduceAdd, Nat.lt_succ_self, Bool.not_false, not_true_eq_false, not_false_eq_true, Int.reduceEq, Int.reduceLT, st0, Nat.le_refl, pur_int, pur_lits, cells_agg, pur_agg, DRx_bool, ↓ev_tmp, ↓ev_int, ↓ev_bool, ↓ev_func, ↓guardP_eq, grd_some, ↓iop_move, ↓iop_assign, ↓pick3_bool, ↓iop_pick, ↓iop_box, ↓iop_load, ↓iop_binOp, ↓iop_unOp, ↓iop_extract, extr_tuple, ↓iop_callv, ↓iop_callb, nrmAll_cons, nrmAll_nil, bi_len, lenM_none, nrm_agg, nrmL_cons, nrmL_nil, nrm_lits, nrm1_int, nrm1_lits, pickP_t, loadP_vptr, lenP_lits, b_eql, b_neq, b_gtr, u_not, env0_eq, ires_eq, iresL_1, iresAll_nil, iresAll_cons, iresOne_tmp, valT_eq, pursL_cons, pursL_nil, ↓reduceIte, callP_eq, boxP_eq, List.take_succ_cons, List.take_nil, ↓evs_cons, ↓evs_nil, beq_self_eq_true, see_eq, and_false, Bool.true_eq_false, Int.cast_ofNat_Int, e_sanity, s_sanity, e_rcheck, s_rcheck, e_Best, s_Best, e_Prove, s_Prove, e_Cost, s_Cost, e_Accept, s_Accept, nth_reps, pur_reps, Try.f6, ty24, ty25, h0, h2, h3, hb, p1, hp2, hno1, hac]
  · obtain ⟨v, hv, hbc, hbv⟩ := best_cost he
    have hp3 := p3 he
    rw [he] at p1
    have hacb : acceptM st rs (bestM st rs).1 (outV st rs) = true := by rw [accept_out hc hv]; simp [hbc, hbv]
    have haco : acceptM st rs o (outV st rs) = decide ((costM st rs o).2 = 0 ∧ (costM st rs o).1 ≤ v) := accept_out hc hv
    have hac : acceptM st rs o vs = true → (costM st rs o).2 = 0 ∧ (costM st rs o).1 ≤ v := fun h => accept_le h hv
    have hge : (costM st rs o).2 = 0 → v ≤ (costM st rs o).1 := fun h => by
      obtain ⟨w, hw, hle⟩ := V_order h
      rw [hv] at hw; cases hw; exact hle
    generalize hco : costM st rs o = co at *
    generalize hA : acceptM st rs o vs = A at *
    by_cases hg : co.2 = 0
    · have hge := hge hg
      have hlt : ¬ co.1 < v := by omega
      have heq : (decide (co.2 = 0 ∧ co.1 ≤ v)) = decide (co.1 = v) := by
        rw [decide_eq_decide]; constructor
        · intro h; omega
        · intro h; exact ⟨hg, by omega⟩
      rw [heq] at haco
      by_cases hnm : co.1 = v
      · rw [decide_eq_true hnm] at haco
        cases A <;> simp +contextual (maxSteps := 4000000) only [↓ur_skip, ↓ur_seq, ↓ur_ret, ↓ur_region, ↓ur_cond, ↓cont_seq, ↓done_nil, ↓done_seq, ↓ops_consN, ↓ops_guardN, nY_move, nY_assign, nY_pick, nY_box, nY_load, nY_binOp, nY_unOp, nY_extract, nY_callf, nY_callb, ↓ops_nil, opsIf_some, condC_true, condC_false, guardC_u, guardC_tt, guardC_tf, guardC_ft, guardC_ff, Option.map_some, Option.bind_some, Option.getD_some, Nat.reduceLT, Bool.false_eq_true, ↓upd_same, ↓upd_ne, Nat.reduceBEq, true_and, and_true, List.getD_cons_zero, List.getD_cons_succ, List.getElem?_toArray, List.getElem?_cons_zero, List.getElem?_cons_succ, endQ, cfg_P, cfg_tab, cfg_muts, cfg_frz, List.length_map, List.contains_nil, decide_true, decide_false, Option.some.injEq, exists_eq_left', List.lookup_cons, List.lookup_nil, tabOf_cons, tab_v, pur_ints, Bool.and_self, Nat.reduceEqDiff, List.nil_append, List.append_nil, List.length_cons, List.length_nil, Nat.zero_add, List.drop_zero, Nat.reduceAdd, Nat.lt_succ_self, Bool.not_true, Bool.not_false, not_true_eq_false, st0, Nat.le_refl, pur_int, pur_lits, cells_agg, pur_agg, DRx_bool, ↓ev_tmp, ↓ev_int, ↓ev_bool, ↓ev_func, ↓guardP_eq, grd_some, ↓iop_move, ↓iop_assign, ↓pick3_bool, ↓iop_pick, ↓iop_box, ↓iop_load, ↓iop_binOp, ↓iop_unOp, ↓iop_extract, extr_tuple, ↓iop_callv, ↓iop_callb, nrmAll_cons, nrmAll_nil, bi_len, lenM_none, nrm_agg, nrmL_cons, nrmL_nil, nrm_lits, nrm1_int, nrm1_lits, pickP_t, loadP_vptr, lenP_lits, b_eql, b_neq, b_lss, b_gtr, u_not, env0_eq, ires_eq, iresL_1, iresAll_nil, iresAll_cons, iresOne_tmp, valT_eq, pursL_cons, pursL_nil, ↓reduceIte, callP_eq, boxP_eq, List.take_succ_cons, List.take_nil, guardC_fd, bb_neq', ↓evs_cons, ↓evs_nil, implies_true, beq_self_eq_true, see_eq, and_false, Bool.true_eq_false, e_sanity, s_sanity, e_rcheck, s_rcheck, e_Best, s_Best, e_Prove, s_Prove, e_Cost, s_Cost, e_Accept, s_Accept, nth_reps, pur_reps, Try.f6, ty4, ty24, ty25, hco, h0, h2, h3, he, p1, hp3, hbc, hbv, hacb, haco, hg, hlt, hnm, hA]
        all_goals (intro hvv; omega)
      · rw [decide_eq_false hnm] at haco
        have hAf : A = false := by
          cases A with
          | false => rfl
          | true => have := (hac rfl).2; omega
        subst hAf
        simp +contextual (maxSteps := 4000000) only [↓ur_skip, ↓ur_seq, ↓ur_ret, ↓ur_region, ↓ur_cond, ↓cont_seq, ↓done_nil, ↓ops_consN, ↓ops_guardN, nY_move, nY_assign, nY_pick, nY_box, nY_load, nY_binOp, nY_unOp, nY_extract, nY_callf, nY_callb, ↓ops_nil, opsIf_some, condC_false, guardC_u, guardC_tt, guardC_tf, guardC_ft, guardC_ff, Option.map_some, Option.bind_some, Option.getD_some, Nat.reduceLT, Bool.false_eq_true, ↓upd_same, ↓upd_ne, Nat.reduceBEq, and_true, List.getD_cons_zero, List.getD_cons_succ, List.getElem?_toArray, List.getElem?_cons_zero, List.getElem?_cons_succ, endQ, cfg_P, cfg_tab, cfg_muts, cfg_frz, List.length_map, List.contains_nil, decide_true, decide_false, Option.some.injEq, exists_eq_left', List.lookup_cons, List.lookup_nil, tabOf_cons, tab_v, pur_ints, Bool.and_self, Nat.reduceEqDiff, List.nil_append, List.append_nil, List.length_cons, List.length_nil, Nat.zero_add, List.drop_zero, Nat.reduceAdd, Nat.lt_succ_self, Bool.not_true, Bool.not_false, not_true_eq_false, st0, Nat.le_refl, pur_int, pur_lits, cells_agg, pur_agg, DRx_bool, ↓ev_tmp, ↓ev_int, ↓ev_bool, ↓ev_func, ↓guardP_eq, grd_some, ↓iop_move, ↓iop_assign, ↓pick3_bool, ↓iop_pick, ↓iop_box, ↓iop_load, ↓iop_binOp, ↓iop_unOp, ↓iop_extract, extr_tuple, ↓iop_callv, ↓iop_callb, nrmAll_cons, nrmAll_nil, bi_len, lenM_none, nrm_agg, nrmL_cons, nrmL_nil, nrm_lits, nrm1_int, nrm1_lits, pickP_t, loadP_vptr, lenP_lits, b_eql, b_neq, b_lss, b_gtr, u_not, env0_eq, ires_eq, iresL_1, iresAll_nil, iresAll_cons, iresOne_tmp, valT_eq, pursL_cons, pursL_nil, ↓reduceIte, callP_eq, boxP_eq, List.take_succ_cons, List.take_nil, bb_neq', ↓evs_cons, ↓evs_nil, beq_self_eq_true, see_eq, and_false, Bool.true_eq_false, e_sanity, s_sanity, e_rcheck, s_rcheck, e_Best, s_Best, e_Prove, s_Prove, e_Cost, s_Cost, e_Accept, s_Accept, nth_reps, pur_reps, Try.f6, ty4, ty24, ty25, hco, h0, h2, h3, he, p1, hp3, hbc, hbv, hacb, haco, hg, hlt, hnm, hA]
    · have hAf : A = false := by
        cases A with
        | false => rfl
        | true => exact absurd (hac rfl).1 hg
      subst hAf
      simp +contextual (maxSteps := 4000000) only [↓ur_skip, ↓ur_seq, ↓ur_ret, ↓ur_region, ↓ur_cond, ↓cont_seq, ↓done_nil, ↓ops_consN, ↓ops_guardN, nY_move, nY_assign, nY_pick, nY_box, nY_load, nY_binOp, nY_unOp, nY_extract, nY_callf, nY_callb, ↓ops_nil, opsIf_some, condC_false, guardC_u, guardC_tt, guardC_tf, guardC_ft, guardC_ff, Option.map_some, Option.bind_some, Option.getD_some, Nat.reduceLT, Bool.false_eq_true, ↓upd_same, ↓upd_ne, Nat.reduceBEq, and_true, List.getD_cons_zero, List.getD_cons_succ, List.getElem?_toArray, List.getElem?_cons_zero, List.getElem?_cons_succ, endQ, cfg_P, cfg_tab, cfg_muts, cfg_frz, List.length_map, List.contains_nil, decide_false, Option.some.injEq, exists_eq_left', List.lookup_cons, List.lookup_nil, tabOf_cons, tab_v, pur_ints, Bool.and_self, Nat.reduceEqDiff, List.nil_append, List.append_nil, List.length_cons, List.length_nil, Nat.zero_add, List.drop_zero, Nat.reduceAdd, Nat.lt_succ_self, Bool.not_true, Bool.not_false, not_true_eq_false, st0, Nat.le_refl, pur_int, pur_lits, cells_agg, pur_agg, DRx_bool, ↓ev_tmp, ↓ev_int, ↓ev_bool, ↓ev_func, ↓guardP_eq, grd_some, ↓iop_move, ↓iop_assign, ↓pick3_bool, ↓iop_pick, ↓iop_box, ↓iop_load, ↓iop_binOp, ↓iop_unOp, ↓iop_extract, extr_tuple, ↓iop_callv, ↓iop_callb, nrmAll_cons, nrmAll_nil, bi_len, lenM_none, nrm_agg, nrmL_cons, nrmL_nil, nrm_lits, nrm1_int, nrm1_lits, pickP_t, loadP_vptr, lenP_lits, b_eql, b_neq, b_gtr, u_not, env0_eq, ires_eq, iresL_1, iresAll_nil, iresAll_cons, iresOne_tmp, valT_eq, pursL_cons, pursL_nil, ↓reduceIte, callP_eq, boxP_eq, List.take_succ_cons, List.take_nil, ↓evs_cons, ↓evs_nil, beq_self_eq_true, see_eq, and_false, Bool.true_eq_false, e_sanity, s_sanity, e_rcheck, s_rcheck, e_Best, s_Best, e_Prove, s_Prove, e_Cost, s_Cost, e_Accept, s_Accept, nth_reps, pur_reps, Try.f6, ty24, ty25, hco, h0, h2, h3, he, p1, hp3, hbc, hbv, hacb, hg, hA]
end Sim
