/- What functions of this seat compute, by values: contracts (lemmas of the statement's proof, under the conditions that each names). -/
import Derived.Test.YtpdaiflnibekaaaQX
import Derived.Test.YtpdaiflnibekaaaQY4
namespace Sim
open Go Go.Proofs
set_option maxRecDepth 10000
set_option maxHeartbeats 2000000
set_option linter.unusedVariables false
set_option linter.unusedSimpArgs false
attribute [local congr] opsIf_congr condC_congr guardC_congr grd_congr pick3_congr obind_congr omap_congr
noncomputable def A_law11 : (Int) × (List Rep) × (Int) → List PV := fun (st, rs, s) => [.agg [I st, reps rs], I s]
noncomputable def R_law11 : (Int) × (List Rep) × (Int) → PV := fun (st, rs, s) => B true
def H_law11 : (Int) × (List Rep) × (Int) → Prop := fun (st, rs, s) => True
noncomputable def e_law11 : Nat × Ent := (7, .v (specOf A_law11 R_law11 H_law11))
theorem j_law11 : ∀ i j, A_law11 i = A_law11 j → i = j := by
  rintro ⟨st₁, rs₁, s₁⟩ ⟨st₂, rs₂, s₂⟩ h
  simp only [A_law11, List.cons.injEq, and_true, PV.lits.injEq, PV.int.injEq, PV.bool.injEq, PV.str.injEq, PV.agg.injEq, PV.func.injEq, PV.vptr.injEq, true_and, List.map_nil, inj_ints, inj_strs, inj_reps] at h
  simp [Prod.ext_iff, h] <;> omega
theorem s_law11 (st : Int) (rs : List Rep) (s : Int) : specOf A_law11 R_law11 H_law11 [.agg [I st, reps rs], I s] = some (B true) := specOf_app j_law11 (i := (st, rs, s)) trivial
def C_law11 : Prop := ∀ (st : Int) (rs : List Rep) (s : Int) , VC Try.prog 7 [.agg [I st, reps rs], I s] (B true)
def O_law11 : Prop := EntOK Try.prog e_law11.1 e_law11.2
theorem k_law11 (c : C_law11) : O_law11 := specOf_ok fun ⟨st, rs, s⟩ h => c st rs s
theorem c_law11 : C_law11 := by
  intro st rs s
  refine vc_ofU mixed (l := [e_sanity, e_rcheck, e_Best, e_Crowd, e_Give, e_Crowded]) ((eok_cons o_sanity (eok_cons o_rcheck (eok_cons o_Best (eok_cons o_Crowd (eok_cons o_Give (eok_cons o_Crowded eok_nil))))))) [] []  Try.func7 rfl (by decide +kernel) (N := 74) rfl (by simp) rfl (by kernel_rfl) fun hs => ?_
  simp only [smallL, PV.small, List.length_map, and_true, true_and] at hs
  by_cases h0 : checkM st rs = 0
  case neg =>
    generalize hr : checkM st rs = r at *
    simp +contextual (maxSteps := 4000000) only [↓ur_seq, ↓ur_ret, ↓ur_region, ↓ur_cond, ↓cont_seq, ↓done_nil, ↓done_seq, ↓ops_consN, nY_assign, nY_box, nY_load, nY_binOp, nY_callf, ↓ops_nil, opsIf_some, condC_true, Option.map_some, Option.bind_some, Option.getD_some, Nat.reduceLT, Bool.false_eq_true, ↓upd_same, ↓upd_ne, Nat.reduceBEq, and_true, List.getD_cons_zero, endQ, cfg_P, cfg_tab, cfg_muts, cfg_frz, List.contains_nil, decide_true, Option.some.injEq, exists_eq_left', List.lookup_cons, List.lookup_nil, tabOf_cons, tab_v, Bool.and_self, Nat.reduceEqDiff, List.nil_append, List.append_nil, List.length_cons, List.length_nil, Nat.zero_add, List.drop_zero, Nat.reduceAdd, not_false_eq_true, st0, Nat.le_refl, pur_int, pur_lits, cells_agg, pur_agg, DRx_bool, ↓ev_tmp, ↓ev_int, ↓ev_bool, ↓ev_func, ↓iop_assign, ↓iop_box, ↓iop_load, ↓iop_binOp, ↓iop_callv, nrmAll_cons, nrmAll_nil, nrm_agg, nrmL_cons, nrmL_nil, nrm1_int, nrm1_lits, pickP_t, loadP_vptr, b_neq, env0_eq, ires_eq, iresL_1, iresAll_nil, iresAll_cons, iresOne_tmp, valT_eq, pursL_cons, pursL_nil, ↓reduceIte, callP_eq, boxP_eq, List.take_succ_cons, List.take_nil, ↓evs_cons, ↓evs_nil, beq_self_eq_true, see_eq, and_false, Bool.true_eq_false, e_sanity, s_sanity, e_rcheck, s_rcheck, e_Best, e_Crowd, e_Give, e_Crowded, nth_reps, pur_reps, Try.f7, ty24, h0, hr]
  have hc := check_zero.1 h0
  obtain ⟨b1, b2⟩ := best_err h0
  have hcv := crowd_V hc
  obtain ⟨u1, u2, u3⟩ := give_ok hc
  have hgz := goes_zero hc
  have hgm : giveM st rs = (((giveT st rs (2 ^ rs.length)).1 : Int), 0) := by simp [giveM, h0]
  generalize giveT st rs (2 ^ rs.length) = gv at *
  by_cases he : (bestM st rs).2 = 0
  · have hV := b1.1 he
    have hno : crowdT st rs rs.length = none := by
      cases hn : crowdT st rs rs.length with
      | none => rfl
      | some t => exact absurd (hcv.2 ⟨t, hn⟩) hV
    have hcm : crowdM st rs = (0, 8) := by simp [crowdM, h0, hno]
    have hcr : crowdedM st rs s = false := by
      cases hcr : crowdedM st rs s with
      | false => rfl
      | true => exact absurd (crowded_V hcr) hV
    have hup : gv.1 = 0 := by
      have := u3 0 (Nat.two_pow_pos _) (hgz.2 hV)
      rw [chance_zero] at this
      have hb := chance_bound hc.ch gv.1 rs.length (Nat.le_refl _)
      unfold chanceM at this
      omega
    simp +contextual (maxSteps := 4000000) only [↓ur_skip, ↓ur_seq, ↓ur_ret, ↓ur_region, ↓ur_cond, ↓cont_seq, ↓done_nil, ↓done_seq, ↓ops_consN, ↓ops_guardN, nY_move, nY_assign, nY_pick, nY_box, nY_load, nY_binOp, nY_extract, nY_callf, ↓ops_nil, opsIf_some, condC_true, condC_false, guardC_tt, guardC_ft, guardC_ff, Option.map_some, Option.bind_some, Option.getD_some, Nat.reduceLT, Bool.false_eq_true, ↓upd_same, ↓upd_ne, Nat.reduceBEq, and_true, List.getD_cons_zero, List.getD_cons_succ, List.getElem?_toArray, List.getElem?_cons_zero, List.getElem?_cons_succ, endQ, cfg_P, cfg_tab, cfg_muts, cfg_frz, List.contains_nil, decide_true, decide_false, Option.some.injEq, exists_eq_left', List.lookup_cons, List.lookup_nil, tabOf_cons, tab_v, Bool.and_self, Nat.reduceEqDiff, List.nil_append, List.append_nil, List.length_cons, List.length_nil, Nat.zero_add, List.drop_zero, Nat.reduceAdd, not_true_eq_false, st0, Nat.le_refl, pur_int, pur_lits, cells_agg, pur_agg, DRx_bool, ↓ev_tmp, ↓ev_int, ↓ev_bool, ↓ev_func, ↓guardP_eq, grd_some, ↓iop_move, ↓iop_assign, ↓pick3_bool, ↓iop_pick, ↓iop_box, ↓iop_load, ↓iop_binOp, ↓iop_extract, extr_tuple, ↓iop_callv, nrmAll_cons, nrmAll_nil, nrm_agg, nrmL_cons, nrmL_nil, nrm_int, nrm1_int, nrm1_lits, pickP_t, loadP_vptr, b_eql, b_neq, env0_eq, ires_eq, iresL_1, iresAll_nil, iresAll_cons, iresOne_tmp, valT_eq, pursL_cons, pursL_nil, ↓reduceIte, callP_eq, boxP_eq, List.take_succ_cons, List.take_nil, ↓evs_cons, ↓evs_nil, beq_self_eq_true, see_eq, and_false, Bool.true_eq_false, Int.cast_ofNat_Int, e_sanity, s_sanity, e_rcheck, s_rcheck, e_Best, s_Best, e_Crowd, s_Crowd, e_Give, s_Give, e_Crowded, s_Crowded, nth_reps, pur_reps, Try.f7, ty3, ty24, h0, he, hcm, hcr, hgm, hup]
  · have hV : V st rs 0 = none := Classical.byContradiction fun h => he (b1.2 h)
    have hb := b2 he
    obtain ⟨t, ht⟩ := hcv.1 hV
    have hcm : crowdM st rs = ((t : Int), 0) := by simp [crowdM, h0, ht]
    have hct := crowd_is hc ht
    have hup : ¬ gv.1 = 0 := fun e => by
      rw [e] at u2
      exact hgz.1 u2 hV
    have hup2 : ¬ ((gv.1 : Nat) : Int) = 0 := by omega
    cases hcr : crowdedM st rs s <;> simp +contextual (maxSteps := 4000000) only [↓ur_skip, ↓ur_seq, ↓ur_ret, ↓ur_region, ↓ur_cond, ↓cont_seq, ↓done_nil, ↓ops_consN, ↓ops_guardN, nY_move, nY_assign, nY_pick, nY_box, nY_load, nY_binOp, nY_extract, nY_callf, ↓ops_nil, opsIf_some, condC_false, guardC_tt, guardC_ft, guardC_ff, Option.map_some, Option.bind_some, Option.getD_some, Nat.reduceLT, Bool.false_eq_true, ↓upd_same, ↓upd_ne, Nat.reduceBEq, and_true, List.getD_cons_zero, List.getD_cons_succ, List.getElem?_toArray, List.getElem?_cons_zero, List.getElem?_cons_succ, endQ, cfg_P, cfg_tab, cfg_muts, cfg_frz, List.contains_nil, decide_true, decide_false, Option.some.injEq, exists_eq_left', List.lookup_cons, List.lookup_nil, tabOf_cons, tab_v, Bool.and_self, Nat.reduceEqDiff, List.nil_append, List.append_nil, List.length_cons, List.length_nil, Nat.zero_add, List.drop_zero, Nat.reduceAdd, Nat.lt_succ_self, not_true_eq_false, not_false_eq_true, Int.reduceEq, st0, Nat.le_refl, pur_int, pur_lits, cells_agg, pur_agg, DRx_bool, ↓ev_tmp, ↓ev_int, ↓ev_bool, ↓ev_func, ↓guardP_eq, grd_some, ↓iop_move, ↓iop_assign, ↓pick3_bool, ↓iop_pick, ↓iop_box, ↓iop_load, ↓iop_binOp, ↓iop_extract, extr_tuple, ↓iop_callv, nrmAll_cons, nrmAll_nil, nrm_agg, nrmL_cons, nrmL_nil, nrm_int, nrm1_int, nrm1_lits, pickP_t, loadP_vptr, b_eql, b_neq, env0_eq, ires_eq, iresL_1, iresAll_nil, iresAll_cons, iresOne_tmp, valT_eq, pursL_cons, pursL_nil, ↓reduceIte, Int.natCast_eq_zero, callP_eq, boxP_eq, List.take_succ_cons, List.take_nil, ↓evs_cons, ↓evs_nil, beq_self_eq_true, see_eq, and_false, Bool.true_eq_false, e_sanity, s_sanity, e_rcheck, s_rcheck, e_Best, s_Best, e_Crowd, s_Crowd, e_Give, s_Give, e_Crowded, s_Crowded, nth_reps, pur_reps, Try.f7, ty3, ty24, h0, hb, hcm, hcr, hgm, hup, hct]
end Sim
