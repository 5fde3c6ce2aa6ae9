/- What functions of this seat compute, by values: contracts (lemmas of the statement's proof, under the conditions that each names). -/
import Derived.Test.YtpdaiflnibekaaaQX
import Derived.Test.YtpdaiflnibekaaaQY7
namespace Sim
open Go Go.Proofs
set_option maxRecDepth 10000
set_option maxHeartbeats 2000000
set_option linter.unusedVariables false
set_option linter.unusedSimpArgs false
attribute [local congr] opsIf_congr condC_congr guardC_congr grd_congr pick3_congr obind_congr omap_congr
noncomputable def A_law8 : (Int) × (List Rep) → List PV := fun (st, rs) => [.agg [I st, reps rs]]
noncomputable def R_law8 : (Int) × (List Rep) → PV := fun (st, rs) => B true
def H_law8 : (Int) × (List Rep) → Prop := fun (st, rs) => True
noncomputable def e_law8 : Nat × Ent := (4, .v (specOf A_law8 R_law8 H_law8))
theorem j_law8 : ∀ i j, A_law8 i = A_law8 j → i = j := by
  rintro ⟨st₁, rs₁⟩ ⟨st₂, rs₂⟩ h
  simp only [A_law8, List.cons.injEq, and_true, PV.lits.injEq, PV.int.injEq, PV.bool.injEq, PV.str.injEq, PV.agg.injEq, PV.func.injEq, PV.vptr.injEq, true_and, List.map_nil, inj_ints, inj_strs, inj_reps] at h
  simp [Prod.ext_iff, h] <;> omega
theorem s_law8 (st : Int) (rs : List Rep) : specOf A_law8 R_law8 H_law8 [.agg [I st, reps rs]] = some (B true) := specOf_app j_law8 (i := (st, rs)) trivial
def C_law8 : Prop := ∀ (st : Int) (rs : List Rep) , VC Try.prog 4 [.agg [I st, reps rs]] (B true)
def O_law8 : Prop := EntOK Try.prog e_law8.1 e_law8.2
theorem k_law8 (c : C_law8) : O_law8 := specOf_ok fun ⟨st, rs⟩ h => c st rs
theorem c_law8 : C_law8 := by
  intro st rs
  refine vc_ofU mixed (l := [e_few, e_sanity, e_Best, e_rBest, e_Give, e_rGive, e_sameList]) ((eok_cons o_few (eok_cons o_sanity (eok_cons o_Best (eok_cons o_rBest (eok_cons o_Give (eok_cons o_rGive (eok_cons o_sameList eok_nil)))))))) [] []  Try.func4 rfl (by decide +kernel) (N := 52) rfl (by simp) rfl (by kernel_rfl) fun hs => ?_
  simp only [smallL, PV.small, List.length_map, and_true, true_and] at hs
  by_cases h1 : (rs.length : Int) ≤ 5 ∨ (10 < rs.length ∧ rs.length ≤ 20)
  case neg =>
    simp +contextual (maxSteps := 4000000) only [↓ur_seq, ↓ur_ret, ↓ur_region, ↓ur_cond, ↓cont_seq, ↓done_nil, ↓done_seq, ↓ops_consN, nY_assign, nY_box, nY_load, nY_unOp, nY_callf, ↓ops_nil, opsIf_some, condC_true, Option.map_some, Option.bind_some, Option.getD_some, Nat.reduceLT, Bool.false_eq_true, ↓upd_same, ↓upd_ne, Nat.reduceBEq, and_true, List.getD_cons_zero, endQ, cfg_P, cfg_tab, cfg_muts, cfg_frz, List.contains_nil, decide_false, Option.some.injEq, exists_eq_left', List.lookup_cons, List.lookup_nil, tabOf_cons, tab_v, Bool.and_self, Nat.reduceEqDiff, List.nil_append, List.append_nil, List.length_cons, List.length_nil, Nat.zero_add, List.drop_zero, Nat.reduceAdd, Bool.not_false, st0, Nat.le_refl, pur_int, pur_lits, cells_agg, pur_agg, DRx_bool, ↓ev_tmp, ↓ev_int, ↓ev_bool, ↓ev_func, ↓iop_assign, ↓iop_box, ↓iop_load, ↓iop_unOp, ↓iop_callv, nrmAll_cons, nrmAll_nil, nrm_agg, nrmL_cons, nrmL_nil, nrm_int, nrm1_int, nrm1_lits, pickP_t, loadP_vptr, u_not, env0_eq, ires_eq, iresL_1, iresAll_nil, iresAll_cons, iresOne_tmp, valT_eq, pursL_cons, pursL_nil, ↓reduceIte, callP_eq, boxP_eq, List.take_succ_cons, List.take_nil, ↓evs_cons, ↓evs_nil, beq_self_eq_true, see_eq, and_false, Bool.true_eq_false, e_few, s_few, e_sanity, s_sanity, e_Best, e_rBest, e_Give, e_rGive, e_sameList, nth_reps, pur_reps, Try.f4, ty3, ty24, h1]
  simp +contextual (maxSteps := 4000000) only [↓ur_skip, ↓ur_seq, ↓ur_ret, ↓ur_region, ↓ur_cond, ↓cont_seq, ↓done_nil, ↓ops_consN, ↓ops_guardN, nY_move, nY_assign, nY_pick, nY_alloc, nY_box, nY_load, nY_store, nY_binOp, nY_unOp, nY_fieldAddr, nY_extract, nY_callf, ↓ops_nil, opsIf_some, opsIf_none, condC_false, guardC_tt, guardC_ft, Option.map_some, Option.bind_some, Option.getD_some, Nat.reduceLT, Bool.false_eq_true, ↓upd_same, ↓upd_ne, Nat.reduceBEq, true_and, and_true, List.getD_cons_zero, List.getElem?_toArray, List.getElem?_cons_zero, List.getElem?_cons_succ, endQ, decide_eq_true_eq, cfg_P, cfg_tab, cfg_muts, cfg_frz, cfg_num, numOf_eq, List.contains_nil, decide_true, decide_false, Option.some.injEq, exists_eq_left', List.lookup_cons, List.lookup_nil, tabOf_cons, tab_v, pur_ints, Bool.and_self, Nat.reduceEqDiff, List.nil_append, List.append_nil, updO_same, updO_ne, List.length_cons, List.length_nil, Nat.zero_add, Nat.add_zero, List.drop_zero, List.take_zero, Nat.reduceAdd, List.set_cons_zero, nth_zero, Nat.lt_succ_self, Bool.not_true, st0, Nat.le_refl, pur_int, pur_lits, cells_agg, pur_agg, DRx_bool, ↓ev_tmp, ↓ev_int, ↓ev_bool, ↓ev_func, ↓guardP_eq, grd_some, ↓iop_move, ↓iop_assign, ↓pick3_bool, ↓iop_pick, ↓iop_alloc, ↓iop_box, ↓iop_load, ↓iop_store, ↓iop_binOp, ↓iop_unOp, ↓iop_fieldAddr, ↓iop_extract, extr_tuple, ↓iop_callv, nrmAll_cons, nrmAll_nil, nrm_agg, nrmL_cons, nrmL_nil, nrm_int, nrm_lits, nrm1_int, nrm1_lits, pickP_f, pickP_t, loadP_vptr, loadP_ptr, setCells_agg, storeP_ptr, fieldP_ptr, b_eql, u_not, splice_eq, env0_eq, ires_eq, iresL_1, iresAll_nil, iresAll_cons, iresOne_tmp, valT_eq, pursL_cons, pursL_nil, Store.new, Store.set, ↓reduceIte, arr_eq, arrB_some, callP_eq, boxP_eq, List.take_succ_cons, List.drop_succ_cons, List.drop_nil, List.take_nil, guardC_td, ↓evs_cons, ↓evs_nil, beq_self_eq_true, see_eq, and_false, Bool.true_eq_false, e_few, s_few, e_sanity, s_sanity, e_Best, s_Best, e_rBest, s_rBest, e_Give, s_Give, e_rGive, s_rGive, e_sameList, s_sameList, nth_reps, pur_reps, Try.f4, ty3, ty24, ty25, ty28, ty32, ty39, h1]
  rw [rbest_eq, rgive_eq]
  exact ⟨fun _ => ⟨fun _ => ⟨fun _ => rfl, fun h => h rfl⟩, fun h => h rfl⟩, fun h => h rfl⟩
end Sim
