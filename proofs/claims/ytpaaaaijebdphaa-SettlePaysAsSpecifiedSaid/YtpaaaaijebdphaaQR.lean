/- What functions of this seat compute, by values: contracts (lemmas of the statement's proof, under the conditions that each names). -/
import Derived.Test.YtpaaaaijebdphaaQQ
import Derived.Test.YtpaaaaijebdphaaQN
namespace Sim
open Go Go.Proofs
set_option maxRecDepth 10000
set_option maxHeartbeats 2000000
set_option linter.unusedVariables false
set_option linter.unusedSimpArgs false
attribute [local congr] opsIf_congr condC_congr guardC_congr grd_congr pick3_congr obind_congr omap_congr nilC_congr opsV_congr
noncomputable def A_rgt : Pst → List PV := fun p => [pstV p]
noncomputable def R_rgt : Pst → PV := fun p => B (decide (rgtO p))
def H_rgt : Pst → Prop := fun p => True
noncomputable def e_rgt : Nat × Ent := (34, .v (specOf A_rgt R_rgt H_rgt))
theorem j_rgt : ∀ i j, A_rgt i = A_rgt j → i = j := by
  rintro p₁ p₂ h
  simp only [A_rgt, List.cons.injEq, and_true, PV.lits.injEq, PV.int.injEq, PV.bool.injEq, PV.str.injEq, PV.agg.injEq, PV.func.injEq, Fn.func.injEq, PV.vptr.injEq, true_and, List.map_nil, inj_ints, inj_strs, inj_psts, inj_gaps, inj_pays] at h
  first | exact h | omega | (simp [Prod.ext_iff, h]; done)
theorem s_rgt (p : Pst) : specOf A_rgt R_rgt H_rgt [pstV p] = some (B (decide (rgtO p))) := specOf_app j_rgt (i := p) trivial
def C_rgt : Prop := ∀ (p : Pst) , VC Try.prog 34 [pstV p] (B (decide (rgtO p)))
def O_rgt : Prop := EntOK Try.prog e_rgt.1 e_rgt.2
theorem k_rgt (c : C_rgt) : O_rgt := specOf_ok fun p h => c p
theorem c_rgt : C_rgt := by
  intro p
  refine vc_ofU mixed (l := []) (eok_nil) [] []  Try.func34 rfl (by decide +kernel) (N := 50) rfl (by simp) rfl (by kernel_rfl) fun hs => ?_
  simp only [smallL, PV.small, List.length_map, and_true, true_and] at hs
  obtain ⟨R, hR⟩ : ∃ R, decide (rgtO p) = R := ⟨_, rfl⟩
  rw [hR]
  have no : ¬ rgtO p → R = false := fun h => by rw [← hR]; exact decide_eq_false h
  by_cases d1 : 0 ≤ p.1
  case neg => have e := no (fun h => d1 h.1.1); subst e; simp +contextual (maxSteps := 4000000) only [↓ur_seq, ↓ur_ret, ↓ur_region, ↓cont_seq, ↓done_nil, ↓ops_consN, ↓ops_guardN, nY_move, nY_assign, nY_pick, nY_box, nY_load, nY_binOp, nilO_tmp, nilO_int, nY_fieldAddr, ↓ops_nil, opsIf_some, guardC_ft, Option.map_some, Option.bind_some, Option.getD_some, Nat.reduceLT, Bool.false_eq_true, ↓upd_same, ↓upd_ne, Nat.reduceBEq, and_true, List.getD_cons_zero, List.getElem?_toArray, List.getElem?_cons_zero, List.getElem?_cons_succ, endQ, cfg_P, cfg_muts, cfg_frz, List.contains_nil, decide_false, Option.some.injEq, exists_eq_left', List.length_cons, List.length_nil, Nat.zero_add, Nat.add_zero, Nat.reduceAdd, Nat.lt_succ_self, Bool.not_false, st0, cells_agg, DRx_bool, ↓ev_tmp, ↓ev_int, ↓ev_bool, ↓guardP_eq, grd_some, ↓iop_move, ↓iop_assign, ↓pick3_bool, ↓iop_pick, ↓iop_box, ↓iop_load, ↓iop_binOp, ↓iop_fieldAddr, pickP_f, loadP_vptr, fieldP_vptr, b_geq, env0_eq, ires_eq, iresL_1, iresAll_nil, iresAll_cons, iresOne_tmp, ↓reduceIte, boxP_eq, see_eq, nth_psts, pur_psts, nth_gaps, pur_gaps, nth_pays, pur_pays, Try.f34, ty3, ty61, d1]
  by_cases d2 : p.1 < 40
  case neg => have e := no (fun h => d2 (by have := h.1.2; omega)); subst e; simp +contextual (maxSteps := 4000000) only [↓ur_seq, ↓ur_ret, ↓ur_region, ↓cont_seq, ↓done_nil, ↓ops_consN, ↓ops_guardN, nY_move, nY_assign, nY_pick, nY_box, nY_load, nY_binOp, nilO_tmp, nilO_int, nY_fieldAddr, ↓ops_nil, opsIf_some, guardC_tt, guardC_ft, Option.map_some, Option.bind_some, Option.getD_some, Nat.reduceLT, Bool.false_eq_true, ↓upd_same, ↓upd_ne, Nat.reduceBEq, and_true, List.getD_cons_zero, List.getElem?_toArray, List.getElem?_cons_zero, List.getElem?_cons_succ, endQ, cfg_P, cfg_muts, cfg_frz, List.contains_nil, decide_true, decide_false, Option.some.injEq, exists_eq_left', List.length_cons, List.length_nil, Nat.zero_add, Nat.add_zero, Nat.reduceAdd, Nat.lt_succ_self, Bool.not_false, st0, cells_agg, DRx_bool, ↓ev_tmp, ↓ev_int, ↓ev_bool, ↓guardP_eq, grd_some, ↓iop_move, ↓iop_assign, ↓pick3_bool, ↓iop_pick, ↓iop_box, ↓iop_load, ↓iop_binOp, ↓iop_fieldAddr, pickP_f, loadP_vptr, fieldP_vptr, b_lss, b_geq, env0_eq, ires_eq, iresL_1, iresAll_nil, iresAll_cons, iresOne_tmp, ↓reduceIte, boxP_eq, see_eq, nth_psts, pur_psts, nth_gaps, pur_gaps, nth_pays, pur_pays, Try.f34, ty3, ty61, d1, d2]
  by_cases d3 : 0 ≤ p.2.1
  case neg => have e := no (fun h => d3 h.2.1.1); subst e; simp +contextual (maxSteps := 4000000) only [↓ur_seq, ↓ur_ret, ↓ur_region, ↓cont_seq, ↓done_nil, ↓ops_consN, ↓ops_guardN, nY_move, nY_assign, nY_pick, nY_box, nY_load, nY_binOp, nilO_tmp, nilO_int, nY_fieldAddr, ↓ops_nil, opsIf_some, guardC_tt, guardC_ft, Option.map_some, Option.bind_some, Option.getD_some, Nat.reduceLT, Bool.false_eq_true, ↓upd_same, ↓upd_ne, Nat.reduceBEq, and_true, List.getD_cons_zero, List.getElem?_toArray, List.getElem?_cons_zero, List.getElem?_cons_succ, endQ, cfg_P, cfg_muts, cfg_frz, List.contains_nil, decide_true, decide_false, Option.some.injEq, exists_eq_left', List.length_cons, List.length_nil, Nat.zero_add, Nat.add_zero, Nat.reduceAdd, Nat.lt_succ_self, Bool.not_false, st0, cells_agg, DRx_bool, ↓ev_tmp, ↓ev_int, ↓ev_bool, ↓guardP_eq, grd_some, ↓iop_move, ↓iop_assign, ↓pick3_bool, ↓iop_pick, ↓iop_box, ↓iop_load, ↓iop_binOp, ↓iop_fieldAddr, pickP_f, loadP_vptr, fieldP_vptr, b_lss, b_geq, env0_eq, ires_eq, iresL_1, iresAll_nil, iresAll_cons, iresOne_tmp, ↓reduceIte, boxP_eq, see_eq, nth_psts, pur_psts, nth_gaps, pur_gaps, nth_pays, pur_pays, Try.f34, ty3, ty61, d1, d2, d3]
  by_cases d4 : p.2.1 < 40
  case neg => have e := no (fun h => d4 (by have := h.2.1.2; omega)); subst e; simp +contextual (maxSteps := 4000000) only [↓ur_seq, ↓ur_ret, ↓ur_region, ↓cont_seq, ↓done_nil, ↓ops_consN, ↓ops_guardN, nY_move, nY_assign, nY_pick, nY_box, nY_load, nY_binOp, nilO_tmp, nilO_int, nY_fieldAddr, ↓ops_nil, opsIf_some, guardC_tt, guardC_ft, Option.map_some, Option.bind_some, Option.getD_some, Nat.reduceLT, Bool.false_eq_true, ↓upd_same, ↓upd_ne, Nat.reduceBEq, and_true, List.getD_cons_zero, List.getElem?_toArray, List.getElem?_cons_zero, List.getElem?_cons_succ, endQ, cfg_P, cfg_muts, cfg_frz, List.contains_nil, decide_true, decide_false, Option.some.injEq, exists_eq_left', List.length_cons, List.length_nil, Nat.zero_add, Nat.add_zero, Nat.reduceAdd, Nat.lt_succ_self, Bool.not_false, st0, cells_agg, DRx_bool, ↓ev_tmp, ↓ev_int, ↓ev_bool, ↓guardP_eq, grd_some, ↓iop_move, ↓iop_assign, ↓pick3_bool, ↓iop_pick, ↓iop_box, ↓iop_load, ↓iop_binOp, ↓iop_fieldAddr, pickP_f, loadP_vptr, fieldP_vptr, b_lss, b_geq, env0_eq, ires_eq, iresL_1, iresAll_nil, iresAll_cons, iresOne_tmp, ↓reduceIte, boxP_eq, see_eq, nth_psts, pur_psts, nth_gaps, pur_gaps, nth_pays, pur_pays, Try.f34, ty3, ty61, d1, d2, d3, d4]
  by_cases d5 : p.1 = p.2.1
  · have e := no (fun h => h.2.2.1 d5); subst e; simp +contextual (maxSteps := 4000000) only [↓ur_seq, ↓ur_ret, ↓ur_region, ↓cont_seq, ↓done_nil, ↓ops_consN, ↓ops_guardN, nY_move, nY_assign, nY_pick, nY_box, nY_load, nY_binOp, nilO_tmp, nilO_int, nY_fieldAddr, ↓ops_nil, opsIf_some, guardC_tt, guardC_ft, Option.map_some, Option.bind_some, Option.getD_some, Nat.reduceLT, Bool.false_eq_true, ↓upd_same, ↓upd_ne, Nat.reduceBEq, and_true, List.getD_cons_zero, List.getElem?_toArray, List.getElem?_cons_zero, List.getElem?_cons_succ, endQ, cfg_P, cfg_muts, cfg_frz, List.contains_nil, decide_true, decide_false, Option.some.injEq, exists_eq_left', List.length_cons, List.length_nil, Nat.zero_add, Nat.add_zero, Nat.reduceAdd, Nat.lt_succ_self, Bool.not_false, not_true_eq_false, st0, cells_agg, DRx_bool, ↓ev_tmp, ↓ev_int, ↓ev_bool, ↓guardP_eq, grd_some, ↓iop_move, ↓iop_assign, ↓pick3_bool, ↓iop_pick, ↓iop_box, ↓iop_load, ↓iop_binOp, ↓iop_fieldAddr, pickP_f, loadP_vptr, fieldP_vptr, b_neq, b_lss, b_geq, env0_eq, ires_eq, iresL_1, iresAll_nil, iresAll_cons, iresOne_tmp, ↓reduceIte, boxP_eq, see_eq, nth_psts, pur_psts, nth_gaps, pur_gaps, nth_pays, pur_pays, Try.f34, ty3, ty61, d1, d2, d3, d4, d5]
  by_cases d6 : 1 ≤ p.2.2.2.2.1
  case neg => have e := no (fun h => d6 h.2.2.2.1.1); subst e; simp +contextual (maxSteps := 4000000) only [↓ur_seq, ↓ur_ret, ↓ur_region, ↓cont_seq, ↓done_nil, ↓ops_consN, ↓ops_guardN, nY_move, nY_assign, nY_pick, nY_box, nY_load, nY_binOp, nilO_tmp, nilO_int, nY_fieldAddr, ↓ops_nil, opsIf_some, guardC_tt, guardC_ft, Option.map_some, Option.bind_some, Option.getD_some, Nat.reduceLT, Bool.false_eq_true, ↓upd_same, ↓upd_ne, Nat.reduceBEq, and_true, List.getD_cons_zero, List.getElem?_toArray, List.getElem?_cons_zero, List.getElem?_cons_succ, endQ, cfg_P, cfg_muts, cfg_frz, List.contains_nil, decide_true, decide_false, Option.some.injEq, exists_eq_left', List.length_cons, List.length_nil, Nat.zero_add, Nat.add_zero, Nat.reduceAdd, Nat.lt_succ_self, Bool.not_false, not_false_eq_true, st0, cells_agg, DRx_bool, ↓ev_tmp, ↓ev_int, ↓ev_bool, ↓guardP_eq, grd_some, ↓iop_move, ↓iop_assign, ↓pick3_bool, ↓iop_pick, ↓iop_box, ↓iop_load, ↓iop_binOp, ↓iop_fieldAddr, pickP_f, loadP_vptr, fieldP_vptr, b_neq, b_lss, b_geq, env0_eq, ires_eq, iresL_1, iresAll_nil, iresAll_cons, iresOne_tmp, ↓reduceIte, boxP_eq, see_eq, nth_psts, pur_psts, nth_gaps, pur_gaps, nth_pays, pur_pays, Try.f34, ty3, ty61, d1, d2, d3, d4, d5, d6]
  by_cases d7 : p.2.2.2.2.1 ≤ 7
  case neg => have e := no (fun h => d7 h.2.2.2.1.2); subst e; simp +contextual (maxSteps := 4000000) only [↓ur_seq, ↓ur_ret, ↓ur_region, ↓cont_seq, ↓done_nil, ↓ops_consN, ↓ops_guardN, nY_move, nY_assign, nY_pick, nY_box, nY_load, nY_binOp, nilO_tmp, nilO_int, nY_fieldAddr, ↓ops_nil, opsIf_some, guardC_tt, guardC_ft, Option.map_some, Option.bind_some, Option.getD_some, Nat.reduceLT, Bool.false_eq_true, ↓upd_same, ↓upd_ne, Nat.reduceBEq, and_true, List.getD_cons_zero, List.getElem?_toArray, List.getElem?_cons_zero, List.getElem?_cons_succ, endQ, cfg_P, cfg_muts, cfg_frz, List.contains_nil, decide_true, decide_false, Option.some.injEq, exists_eq_left', List.length_cons, List.length_nil, Nat.zero_add, Nat.add_zero, Nat.reduceAdd, Nat.lt_succ_self, Bool.not_false, not_false_eq_true, st0, cells_agg, DRx_bool, ↓ev_tmp, ↓ev_int, ↓ev_bool, ↓guardP_eq, grd_some, ↓iop_move, ↓iop_assign, ↓pick3_bool, ↓iop_pick, ↓iop_box, ↓iop_load, ↓iop_binOp, ↓iop_fieldAddr, pickP_f, loadP_vptr, fieldP_vptr, b_neq, b_lss, b_leq, b_geq, env0_eq, ires_eq, iresL_1, iresAll_nil, iresAll_cons, iresOne_tmp, ↓reduceIte, boxP_eq, see_eq, nth_psts, pur_psts, nth_gaps, pur_gaps, nth_pays, pur_pays, Try.f34, ty3, ty61, d1, d2, d3, d4, d5, d6, d7]
  by_cases d8 : 1 ≤ p.2.2.1
  case neg => have e := no (fun h => d8 h.2.2.2.2.1); subst e; simp +contextual (maxSteps := 4000000) only [↓ur_seq, ↓ur_ret, ↓ur_region, ↓cont_seq, ↓done_nil, ↓ops_consN, ↓ops_guardN, nY_move, nY_assign, nY_pick, nY_box, nY_load, nY_binOp, nilO_tmp, nilO_int, nY_fieldAddr, ↓ops_nil, opsIf_some, guardC_tt, guardC_ft, Option.map_some, Option.bind_some, Option.getD_some, Nat.reduceLT, Bool.false_eq_true, ↓upd_same, ↓upd_ne, Nat.reduceBEq, and_true, List.getD_cons_zero, List.getElem?_toArray, List.getElem?_cons_zero, List.getElem?_cons_succ, endQ, cfg_P, cfg_muts, cfg_frz, List.contains_nil, decide_true, decide_false, Option.some.injEq, exists_eq_left', List.length_cons, List.length_nil, Nat.zero_add, Nat.add_zero, Nat.reduceAdd, Nat.lt_succ_self, Bool.not_false, not_false_eq_true, st0, cells_agg, DRx_bool, ↓ev_tmp, ↓ev_int, ↓ev_bool, ↓guardP_eq, grd_some, ↓iop_move, ↓iop_assign, ↓pick3_bool, ↓iop_pick, ↓iop_box, ↓iop_load, ↓iop_binOp, ↓iop_fieldAddr, pickP_f, loadP_vptr, fieldP_vptr, b_neq, b_lss, b_leq, b_geq, env0_eq, ires_eq, iresL_1, iresAll_nil, iresAll_cons, iresOne_tmp, ↓reduceIte, boxP_eq, see_eq, nth_psts, pur_psts, nth_gaps, pur_gaps, nth_pays, pur_pays, Try.f34, ty3, ty61, d1, d2, d3, d4, d5, d6, d7, d8]
  by_cases d9 : p.2.2.1 ≤ 1099511627776
  case neg => have e := no (fun h => d9 h.2.2.2.2.2); subst e; simp +contextual (maxSteps := 4000000) only [↓ur_seq, ↓ur_ret, ↓ur_region, ↓cont_seq, ↓done_nil, ↓ops_consN, ↓ops_guardN, nY_move, nY_assign, nY_pick, nY_box, nY_load, nY_binOp, nilO_tmp, nilO_int, nY_fieldAddr, ↓ops_nil, opsIf_some, guardC_tt, Option.map_some, Option.bind_some, Option.getD_some, Nat.reduceLT, Bool.false_eq_true, ↓upd_same, ↓upd_ne, Nat.reduceBEq, and_true, List.getD_cons_zero, List.getElem?_toArray, List.getElem?_cons_zero, List.getElem?_cons_succ, endQ, cfg_P, cfg_muts, cfg_frz, List.contains_nil, decide_true, decide_false, Option.some.injEq, exists_eq_left', List.length_cons, List.length_nil, Nat.zero_add, Nat.add_zero, Nat.reduceAdd, Nat.lt_succ_self, Bool.not_false, not_false_eq_true, st0, cells_agg, DRx_bool, ↓ev_tmp, ↓ev_int, ↓ev_bool, ↓guardP_eq, grd_some, ↓iop_move, ↓iop_assign, ↓pick3_bool, ↓iop_pick, ↓iop_box, ↓iop_load, ↓iop_binOp, ↓iop_fieldAddr, pickP_f, loadP_vptr, fieldP_vptr, b_neq, b_lss, b_leq, b_geq, env0_eq, ires_eq, iresL_1, iresAll_nil, iresAll_cons, iresOne_tmp, ↓reduceIte, boxP_eq, see_eq, nth_psts, pur_psts, nth_gaps, pur_gaps, nth_pays, pur_pays, Try.f34, ty3, ty61, d1, d2, d3, d4, d5, d6, d7, d8, d9]
  have e : R = true := by rw [← hR]; exact decide_eq_true ⟨⟨d1, by omega⟩, ⟨d3, by omega⟩, d5, ⟨d6, d7⟩, d8, d9⟩
  subst e
  simp +contextual (maxSteps := 4000000) only [↓ur_seq, ↓ur_ret, ↓ur_region, ↓cont_seq, ↓done_nil, ↓ops_consN, ↓ops_guardN, nY_move, nY_assign, nY_pick, nY_box, nY_load, nY_binOp, nilO_tmp, nilO_int, nY_fieldAddr, ↓ops_nil, opsIf_some, guardC_tt, Option.map_some, Option.bind_some, Option.getD_some, Nat.reduceLT, Bool.false_eq_true, ↓upd_same, ↓upd_ne, Nat.reduceBEq, and_true, List.getD_cons_zero, List.getElem?_toArray, List.getElem?_cons_zero, List.getElem?_cons_succ, endQ, cfg_P, cfg_muts, cfg_frz, List.contains_nil, decide_true, Option.some.injEq, exists_eq_left', List.length_cons, List.length_nil, Nat.zero_add, Nat.add_zero, Nat.reduceAdd, Nat.lt_succ_self, Bool.not_false, not_false_eq_true, st0, cells_agg, DRx_bool, ↓ev_tmp, ↓ev_int, ↓ev_bool, ↓guardP_eq, grd_some, ↓iop_move, ↓iop_assign, ↓pick3_bool, ↓iop_pick, ↓iop_box, ↓iop_load, ↓iop_binOp, ↓iop_fieldAddr, pickP_f, loadP_vptr, fieldP_vptr, b_neq, b_lss, b_leq, b_geq, env0_eq, ires_eq, iresL_1, iresAll_nil, iresAll_cons, iresOne_tmp, ↓reduceIte, boxP_eq, see_eq, nth_psts, pur_psts, nth_gaps, pur_gaps, nth_pays, pur_pays, Try.f34, ty3, ty61, d1, d2, d3, d4, d5, d6, d7, d8, d9]
theorem o_rgt : O_rgt := k_rgt c_rgt
noncomputable def A_rbef : (Gap) × (Gap) → List PV := fun (x, y) => [gapV x, gapV y]
noncomputable def R_rbef : (Gap) × (Gap) → PV := fun (x, y) => B (decide (befG x y))
def H_rbef : (Gap) × (Gap) → Prop := fun (x, y) => True
noncomputable def e_rbef : Nat × Ent := (36, .v (specOf A_rbef R_rbef H_rbef))
theorem j_rbef : ∀ i j, A_rbef i = A_rbef j → i = j := by
  rintro ⟨x₁, y₁⟩ ⟨x₂, y₂⟩ h
  simp only [A_rbef, List.cons.injEq, and_true, PV.lits.injEq, PV.int.injEq, PV.bool.injEq, PV.str.injEq, PV.agg.injEq, PV.func.injEq, Fn.func.injEq, PV.vptr.injEq, true_and, List.map_nil, inj_ints, inj_strs, inj_psts, inj_gaps, inj_pays] at h
  simp [Prod.ext_iff, h] <;> omega
theorem s_rbef (x : Gap) (y : Gap) : specOf A_rbef R_rbef H_rbef [gapV x, gapV y] = some (B (decide (befG x y))) := specOf_app j_rbef (i := (x, y)) trivial
def C_rbef : Prop := ∀ (x : Gap) (y : Gap) , VC Try.prog 36 [gapV x, gapV y] (B (decide (befG x y)))
def O_rbef : Prop := EntOK Try.prog e_rbef.1 e_rbef.2
theorem k_rbef (c : C_rbef) : O_rbef := specOf_ok fun ⟨x, y⟩ h => c x y
theorem c_rbef : C_rbef := by
  intro x y
  refine vc_ofU mixed (l := []) (eok_nil) [] []  Try.func36 rfl (by decide +kernel) (N := 30) rfl (by simp) rfl (by kernel_rfl) fun hs => ?_
  simp only [smallL, PV.small, List.length_map, and_true, true_and] at hs
  obtain ⟨R, hR⟩ : ∃ R, decide (befG x y) = R := ⟨_, rfl⟩
  rw [hR]
  by_cases d1 : x.1 = y.1
  · by_cases d2 : x.2.1 = y.2.1
    · have e : R = decide (x.2.2.1 < y.2.2.1) := by rw [← hR, decide_eq_decide]; unfold befG; omega
      subst e
      simp +contextual (maxSteps := 4000000) only [↓ur_skip, ↓ur_seq, ↓ur_ret, ↓ur_region, ↓ur_cond, ↓cont_seq, ↓done_nil, ↓ops_consN, nY_assign, nY_box, nY_load, nY_binOp, nilO_tmp, nY_fieldAddr, ↓ops_nil, opsIf_some, condC_false, Option.map_some, Option.bind_some, Option.getD_some, Nat.reduceLT, Bool.false_eq_true, ↓upd_same, ↓upd_ne, Nat.reduceBEq, and_true, List.getD_cons_zero, List.getD_cons_succ, List.getElem?_cons_zero, List.getElem?_cons_succ, endQ, cfg_P, cfg_muts, cfg_frz, List.contains_nil, decide_false, Option.some.injEq, exists_eq_left', List.length_cons, List.length_nil, Nat.zero_add, Nat.add_zero, Nat.reduceAdd, Nat.lt_succ_self, Bool.not_false, not_true_eq_false, st0, cells_agg, DRx_bool, ↓ev_tmp, ↓ev_bool, ↓iop_assign, ↓iop_box, ↓iop_load, ↓iop_binOp, ↓iop_fieldAddr, pickP_f, loadP_vptr, fieldP_vptr, b_neq, b_lss, env0_eq, ires_eq, iresL_1, iresAll_nil, iresAll_cons, iresOne_tmp, ↓reduceIte, boxP_eq, see_eq, nth_psts, pur_psts, nth_gaps, pur_gaps, nth_pays, pur_pays, Try.f36, ty3, ty64, d1, d2]
    · have e : R = decide (x.2.1 < y.2.1) := by rw [← hR, decide_eq_decide]; unfold befG; omega
      subst e
      simp +contextual (maxSteps := 4000000) only [↓ur_skip, ↓ur_seq, ↓ur_ret, ↓ur_region, ↓ur_cond, ↓cont_seq, ↓done_nil, ↓done_seq, ↓ops_consN, nY_assign, nY_box, nY_load, nY_binOp, nilO_tmp, nY_fieldAddr, ↓ops_nil, opsIf_some, condC_true, condC_false, Option.map_some, Option.bind_some, Option.getD_some, Nat.reduceLT, Bool.false_eq_true, ↓upd_same, ↓upd_ne, Nat.reduceBEq, and_true, List.getD_cons_zero, List.getD_cons_succ, List.getElem?_cons_zero, List.getElem?_cons_succ, endQ, cfg_P, cfg_muts, cfg_frz, List.contains_nil, decide_true, decide_false, Option.some.injEq, exists_eq_left', List.length_cons, List.length_nil, Nat.zero_add, Nat.add_zero, Nat.reduceAdd, Nat.lt_succ_self, Bool.not_false, not_true_eq_false, not_false_eq_true, st0, cells_agg, DRx_bool, ↓ev_tmp, ↓ev_bool, ↓iop_assign, ↓iop_box, ↓iop_load, ↓iop_binOp, ↓iop_fieldAddr, pickP_f, loadP_vptr, fieldP_vptr, b_neq, b_lss, env0_eq, ires_eq, iresL_1, iresAll_nil, iresAll_cons, iresOne_tmp, ↓reduceIte, boxP_eq, see_eq, nth_psts, pur_psts, nth_gaps, pur_gaps, nth_pays, pur_pays, Try.f36, ty3, ty64, d1, d2]
  · have e : R = decide (x.1 < y.1) := by rw [← hR, decide_eq_decide]; unfold befG; omega
    subst e
    simp +contextual (maxSteps := 4000000) only [↓ur_seq, ↓ur_ret, ↓ur_region, ↓ur_cond, ↓cont_seq, ↓done_nil, ↓done_seq, ↓ops_consN, nY_assign, nY_box, nY_load, nY_binOp, nilO_tmp, nY_fieldAddr, ↓ops_nil, opsIf_some, condC_true, Option.map_some, Option.bind_some, Option.getD_some, Nat.reduceLT, Bool.false_eq_true, ↓upd_same, ↓upd_ne, Nat.reduceBEq, and_true, List.getD_cons_zero, List.getD_cons_succ, List.getElem?_cons_zero, endQ, cfg_P, cfg_muts, cfg_frz, List.contains_nil, decide_true, Option.some.injEq, exists_eq_left', List.length_cons, List.length_nil, Nat.zero_add, Nat.add_zero, Nat.reduceAdd, Nat.lt_succ_self, Bool.not_false, not_false_eq_true, st0, cells_agg, DRx_bool, ↓ev_tmp, ↓ev_bool, ↓iop_assign, ↓iop_box, ↓iop_load, ↓iop_binOp, ↓iop_fieldAddr, pickP_f, loadP_vptr, fieldP_vptr, b_neq, b_lss, env0_eq, ires_eq, iresL_1, iresAll_nil, iresAll_cons, iresOne_tmp, ↓reduceIte, boxP_eq, see_eq, nth_psts, pur_psts, nth_gaps, pur_gaps, nth_pays, pur_pays, Try.f36, ty3, ty64, d1]
theorem o_rbef : O_rbef := k_rbef c_rbef
/-- The sum as the machine makes it. -/
def sumW (l : List Pst) (a b c : Int) : Nat → Int
  | 0 => 0
  | k + 1 => if keyP (l.getD k dP) a b c then IntKind.i64.wrap (sumW l a b c k + (l.getD k dP).2.2.1) else sumW l a b c k
theorem sumW_eq {l : List Pst} (h : ∀ p ∈ l, rgtO p) (hl : l.length ≤ 2000) {a b c : Int} : ∀ k, k ≤ l.length → sumW l a b c k = sumP (l.take k) a b c
  | 0, _ => by simp [sumW, sumP]
  | k + 1, hk => by
    have ih := sumW_eq h hl (a := a) (b := b) (c := c) k (by omega)
    have hp := h (l.getD k dP) (by rw [List.getD_eq_getElem?_getD, List.getElem?_eq_getElem (by omega : k < l.length)]; exact List.getElem_mem _)
    have hn := sumP_nonneg (l := l.take k) (fun q hq => h q (List.mem_of_mem_take hq)) a b c
    have hlt : (l.take k).length = k := by rw [List.length_take]; omega
    have hst : l.take (k + 1) = l.take k ++ [l.getD k dP] := by
      rw [List.take_succ_eq_append_getElem (by omega : k < l.length)]; simp [show k < l.length by omega]
    unfold rgtO at hp
    rw [hst, sumP_app, sumP_cons]
    simp only [sumW, ih]
    by_cases k1 : keyP (l.getD k dP) a b c
    · rw [if_pos k1, if_pos k1, wrap64 (by omega) (by omega)]; simp [sumP]
    · rw [if_neg k1, if_neg k1]; simp [sumP]
noncomputable def A_rsum : (List Pst) × (Int) × (Int) × (Int) → List PV := fun (l, a, b, d) => [psts l, I a, I b, I d]
noncomputable def R_rsum : (List Pst) × (Int) × (Int) × (Int) → PV := fun (l, a, b, d) => I (sumW l a b d l.length)
def H_rsum : (List Pst) × (Int) × (Int) × (Int) → Prop := fun (l, a, b, d) => l.length ≤ 100000
noncomputable def e_rsum : Nat × Ent := (35, .v (specOf A_rsum R_rsum H_rsum))
theorem j_rsum : ∀ i j, A_rsum i = A_rsum j → i = j := by
  rintro ⟨l₁, a₁, b₁, d₁⟩ ⟨l₂, a₂, b₂, d₂⟩ h
  simp only [A_rsum, List.cons.injEq, and_true, PV.lits.injEq, PV.int.injEq, PV.bool.injEq, PV.str.injEq, PV.agg.injEq, PV.func.injEq, Fn.func.injEq, PV.vptr.injEq, true_and, List.map_nil, inj_ints, inj_strs, inj_psts, inj_gaps, inj_pays] at h
  simp [Prod.ext_iff, h] <;> omega
theorem s_rsum (l : List Pst) (a : Int) (b : Int) (d : Int) : specOf A_rsum R_rsum H_rsum [psts l, I a, I b, I d] = @ite (Option (PV)) (l.length ≤ 100000) (Classical.propDecidable _) (some (I (sumW l a b d l.length))) none := specOf_if j_rsum (l, a, b, d)
def C_rsum : Prop := ∀ (l : List Pst) (a : Int) (b : Int) (d : Int) (h : l.length ≤ 100000) , VC Try.prog 35 [psts l, I a, I b, I d] (I (sumW l a b d l.length))
def O_rsum : Prop := EntOK Try.prog e_rsum.1 e_rsum.2
theorem k_rsum (c : C_rsum) : O_rsum := specOf_ok fun ⟨l, a, b, d⟩ h => c l a b d h
theorem c_rsum : C_rsum := by
  intro l a b d hl
  refine vc_ofU mixed (l := []) (eok_nil) [] []  Try.func35 rfl (by decide +kernel) (N := 50) rfl (by simp) rfl (by kernel_rfl) fun hs => ?_
  simp only [smallL, PV.small, List.length_map, and_true, true_and] at hs
  obtain ⟨R, hR⟩ : ∃ R, sumW l a b d l.length = R := ⟨_, rfl⟩
  rw [hR]
  simp +contextual (maxSteps := 4000000) only [↓ur_seq, ↓ur_block, ↓ur_region, ↓cont_seq, ↓ops_consN, nY_assign, ↓ops_nil, opsIf_some, Nat.reduceLT, true_and, st0, ↓ev_int, ↓iop_assign, nth_psts, pur_psts, nth_gaps, pur_gaps, nth_pays, pur_pays, Try.f35]
  refine loop_cnt [9, 10, 11, 12, 13, 14, 15, 16, 17, 18, 19, 20, 21, 22, 23, 24, 25, 26, 27, 28, 29, 30, 31, 32, 33, 34, 35, 36, 37, 38, 39, 40, 41, 42, 43, 44, 45, 46, 47, 48] l.length (fun k ρ st' => ρ 10 = I k ∧ ρ 9 = I (sumW l a b d k)) (.refl _) ?_ ?_
  · simp +contextual (maxSteps := 4000000) only [↓upd_same, ↓upd_ne, Nat.reduceBEq, and_true, Int.cast_ofNat_Int, nth_psts, pur_psts, nth_gaps, pur_gaps, nth_pays, pur_pays, Try.f35, sumW]
  rintro k ρ ⟨ob, M⟩ hk ⟨h10, h9⟩
  by_cases hlt : k < l.length
  · have hwk := wrapN' (k := k) (by omega)
    have hst : sumW l a b d (k + 1) = if keyP (l.getD k dP) a b d then IntKind.i64.wrap (sumW l a b d k + (l.getD k dP).2.2.1) else sumW l a b d k := rfl
    rw [hst]
    generalize hx : l.getD k dP = x at *
    by_cases d1 : x.1 = a
    · by_cases d2 : x.2.1 = b
      · by_cases d3 : x.2.2.2.2.1 = d
        · rw [if_pos (show keyP x a b d from ⟨d1, d2, d3⟩)]
          simp +contextual (maxSteps := 4000000) only [↓ur_skip, ↓ur_seq, ↓ur_block, ↓ur_region, ↓ur_cond, ↓cont_seq, ↓cont_blk, ↓cont_lp, ↓ops_consN, ↓ops_guardN, nY_move, nY_assign, nY_pick, nY_load, nY_binOp, nilO_tmp, nilO_int, nY_fieldAddr, nY_indexAddr, nY_callb, ↓ops_nil, opsIf_some, condC_true, guardC_tt, Option.map_some, Option.bind_some, Option.getD_some, Nat.reduceLT, Bool.false_eq_true, ↓upd_same, ↓upd_ne, Nat.reduceBEq, and_true, List.getD_cons_zero, List.getD_cons_succ, List.getElem?_toArray, List.getElem?_cons_zero, List.getElem?_cons_succ, cfg_P, cfg_frz, List.length_map, ↓havoc_in, ↓havoc_out, agree_upd, agree_havoc, List.contains_cons, List.contains_nil, Bool.or_false, Bool.or_true, Int.natCast_nonneg, Int.ofNat_lt, Int.toNat_natCast, decide_true, Nat.zero_add, Nat.add_zero, Nat.lt_succ_self, Bool.not_false, cells_agg, ↓ev_tmp, ↓ev_int, ↓guardP_eq, grd_some, ↓iop_move, ↓iop_assign, ↓pick3_bool, ↓iop_pick, ↓iop_load, ↓iop_binOp, ↓iop_fieldAddr, ↓iop_indexAddr, idxA_int, ↓iop_callb, bi_len, lenM_none, pickP_f, loadP_vptr, fieldP_vptr, indexP_lits, lenP_lits, b_add, b_eql, b_lss, env0_eq, ↓reduceIte, ↓evs_cons, ↓evs_nil, beq_self_eq_true, see_eq, nth_psts, pur_psts, nth_gaps, pur_gaps, nth_pays, pur_pays, Try.f35, ty3, ty22, ty61, h10, h9, hlt, hx, d1, d2, d3, hwk]
        · rw [if_neg (fun h : keyP x a b d => d3 h.2.2)]
          simp +contextual (maxSteps := 4000000) only [↓ur_skip, ↓ur_seq, ↓ur_block, ↓ur_region, ↓ur_cond, ↓cont_seq, ↓cont_blk, ↓cont_lp, ↓ops_consN, ↓ops_guardN, nY_move, nY_assign, nY_pick, nY_load, nY_binOp, nilO_tmp, nilO_int, nY_fieldAddr, nY_indexAddr, nY_callb, ↓ops_nil, opsIf_some, condC_true, condC_false, guardC_tt, Option.map_some, Option.bind_some, Option.getD_some, Nat.reduceLT, Bool.false_eq_true, ↓upd_same, ↓upd_ne, Nat.reduceBEq, and_true, List.getD_cons_zero, List.getD_cons_succ, List.getElem?_toArray, List.getElem?_cons_zero, List.getElem?_cons_succ, cfg_P, cfg_frz, List.length_map, ↓havoc_in, ↓havoc_out, agree_upd, agree_havoc, List.contains_cons, List.contains_nil, Bool.or_false, Bool.or_true, Int.natCast_nonneg, Int.ofNat_lt, Int.toNat_natCast, decide_true, decide_false, Nat.zero_add, Nat.add_zero, Nat.lt_succ_self, Bool.not_false, cells_agg, ↓ev_tmp, ↓ev_int, ↓guardP_eq, grd_some, ↓iop_move, ↓iop_assign, ↓pick3_bool, ↓iop_pick, ↓iop_load, ↓iop_binOp, ↓iop_fieldAddr, ↓iop_indexAddr, idxA_int, ↓iop_callb, bi_len, lenM_none, pickP_f, loadP_vptr, fieldP_vptr, indexP_lits, lenP_lits, b_add, b_eql, b_lss, env0_eq, ↓reduceIte, ↓evs_cons, ↓evs_nil, beq_self_eq_true, see_eq, nth_psts, pur_psts, nth_gaps, pur_gaps, nth_pays, pur_pays, Try.f35, ty3, ty22, ty61, h10, h9, hlt, hx, d1, d2, d3, hwk]
      · rw [if_neg (fun h : keyP x a b d => d2 h.2.1)]
        simp +contextual (maxSteps := 4000000) only [↓ur_skip, ↓ur_seq, ↓ur_block, ↓ur_region, ↓ur_cond, ↓cont_seq, ↓cont_blk, ↓cont_lp, ↓ops_consN, ↓ops_guardN, nY_move, nY_assign, nY_pick, nY_load, nY_binOp, nilO_tmp, nilO_int, nY_fieldAddr, nY_indexAddr, nY_callb, ↓ops_nil, opsIf_some, condC_true, condC_false, guardC_tt, guardC_ft, Option.map_some, Option.bind_some, Option.getD_some, Nat.reduceLT, Bool.false_eq_true, ↓upd_same, ↓upd_ne, Nat.reduceBEq, true_and, and_true, List.getD_cons_zero, List.getD_cons_succ, List.getElem?_toArray, List.getElem?_cons_zero, List.getElem?_cons_succ, cfg_P, cfg_frz, List.length_map, ↓havoc_in, ↓havoc_out, agree_upd, agree_havoc, List.contains_cons, List.contains_nil, Bool.or_false, Bool.or_true, Int.natCast_nonneg, Int.ofNat_lt, Int.toNat_natCast, decide_true, decide_false, Nat.zero_add, Nat.add_zero, Nat.lt_succ_self, Bool.not_false, cells_agg, ↓ev_tmp, ↓ev_int, ↓ev_bool, ↓guardP_eq, grd_some, ↓iop_move, ↓iop_assign, ↓pick3_bool, ↓iop_pick, ↓iop_load, ↓iop_binOp, ↓iop_fieldAddr, ↓iop_indexAddr, idxA_int, ↓iop_callb, bi_len, lenM_none, pickP_f, loadP_vptr, fieldP_vptr, indexP_lits, lenP_lits, b_add, b_eql, b_lss, env0_eq, ↓reduceIte, ↓evs_cons, ↓evs_nil, beq_self_eq_true, see_eq, nth_psts, pur_psts, nth_gaps, pur_gaps, nth_pays, pur_pays, Try.f35, ty3, ty22, ty61, h10, h9, hlt, hx, d1, d2, hwk]
    · rw [if_neg (fun h : keyP x a b d => d1 h.1)]
      simp +contextual (maxSteps := 4000000) only [↓ur_skip, ↓ur_seq, ↓ur_block, ↓ur_region, ↓ur_cond, ↓cont_seq, ↓cont_blk, ↓cont_lp, ↓ops_consN, ↓ops_guardN, nY_move, nY_assign, nY_pick, nY_load, nY_binOp, nilO_tmp, nilO_int, nY_fieldAddr, nY_indexAddr, nY_callb, ↓ops_nil, opsIf_some, condC_true, condC_false, guardC_ft, Option.map_some, Option.bind_some, Option.getD_some, Nat.reduceLT, Bool.false_eq_true, ↓upd_same, ↓upd_ne, Nat.reduceBEq, true_and, and_true, List.getD_cons_zero, List.getD_cons_succ, List.getElem?_toArray, List.getElem?_cons_zero, List.getElem?_cons_succ, cfg_P, cfg_frz, List.length_map, ↓havoc_in, ↓havoc_out, agree_upd, agree_havoc, List.contains_cons, List.contains_nil, Bool.or_false, Bool.or_true, Int.natCast_nonneg, Int.ofNat_lt, Int.toNat_natCast, decide_true, decide_false, Nat.add_zero, Nat.lt_succ_self, Bool.not_false, cells_agg, ↓ev_tmp, ↓ev_int, ↓ev_bool, ↓guardP_eq, grd_some, ↓iop_move, ↓iop_assign, ↓pick3_bool, ↓iop_pick, ↓iop_load, ↓iop_binOp, ↓iop_fieldAddr, ↓iop_indexAddr, idxA_int, ↓iop_callb, bi_len, lenM_none, pickP_f, loadP_vptr, fieldP_vptr, indexP_lits, lenP_lits, b_add, b_eql, b_lss, env0_eq, ↓reduceIte, ↓evs_cons, ↓evs_nil, beq_self_eq_true, see_eq, nth_psts, pur_psts, nth_gaps, pur_gaps, nth_pays, pur_pays, Try.f35, ty3, ty22, ty61, h10, h9, hlt, hx, d1, hwk]
  · have e : k = l.length := by omega
    subst e
    rw [hR] at h9
    simp +contextual (maxSteps := 4000000) only [↓ur_seq, ↓ur_exit, ↓ur_ret, ↓ur_region, ↓ur_cond, ↓cont_seq, ↓leave_seq, ↓leave_blk, ↓leave_lp, ↓done_nil, ↓ops_consN, nY_move, nY_assign, nY_binOp, nilO_tmp, nY_callb, ↓ops_nil, opsIf_some, condC_false, Option.map_some, Option.bind_some, Option.getD_some, Nat.reduceLT, ↓upd_same, ↓upd_ne, Nat.reduceBEq, and_true, List.getD_cons_zero, endQ, cfg_P, List.length_map, ↓havoc_in, ↓havoc_out, List.contains_cons, List.contains_nil, Bool.or_false, Bool.or_true, Int.ofNat_lt, decide_false, Option.some.injEq, exists_eq_left', Nat.lt_irrefl, Nat.lt_succ_self, Bool.not_false, DRx_int, ↓ev_tmp, ↓iop_move, ↓iop_assign, ↓iop_binOp, ↓iop_callb, bi_len, lenM_none, lenP_lits, b_lss, env0_eq, ires_eq, iresL_1, iresAll_nil, iresAll_cons, iresOne_tmp, ↓reduceIte, ↓evs_cons, ↓evs_nil, beq_self_eq_true, nth_psts, pur_psts, nth_gaps, pur_gaps, nth_pays, pur_pays, Try.f35, ty22, h10, h9]
theorem o_rsum : O_rsum := k_rsum c_rsum
theorem neq_gap {x y : Gap} : binP Try.prog .neq 64 (.agg [I x.1, I x.2.1, I x.2.2.1, I x.2.2.2.1, I x.2.2.2.2]) (.agg [I y.1, I y.2.1, I y.2.2.1, I y.2.2.2.1, I y.2.2.2.2]) = some (.bool (decide (¬ x = y))) := by
  have key : ∀ a b c d e f g h i j : Int, binP Try.prog .neq 64 (.agg [I a, I b, I c, I d, I e]) (.agg [I f, I g, I h, I i, I j]) = some (.bool (!((a == f) && ((b == g) && ((c == h) && ((d == i) && ((e == j) && true))))))) := by intros; kernel_rfl
  rw [key]
  have hb : ∀ x y : Int, (x == y) = decide (x = y) := fun x y => rfl
  congr 2
  obtain ⟨a, b, c, d, e⟩ := x
  obtain ⟨f, g, h, i, j⟩ := y
  simp only [hb, Bool.and_true, Prod.mk.injEq, decide_not, Bool.decide_and]
theorem neq_pst {x y : Pst} : binP Try.prog .neq 61 (.agg [I x.1, I x.2.1, I x.2.2.1, I x.2.2.2.1, I x.2.2.2.2.1, I x.2.2.2.2.2]) (.agg [I y.1, I y.2.1, I y.2.2.1, I y.2.2.2.1, I y.2.2.2.2.1, I y.2.2.2.2.2]) = some (.bool (decide (¬ x = y))) := by
  have key : ∀ a b c d e f g h i j k l : Int, binP Try.prog .neq 61 (.agg [I a, I b, I c, I d, I e, I f]) (.agg [I g, I h, I i, I j, I k, I l]) = some (.bool (!((a == g) && ((b == h) && ((c == i) && ((d == j) && ((e == k) && ((f == l) && true)))))))) := by intros; kernel_rfl
  rw [key]
  have hb : ∀ x y : Int, (x == y) = decide (x = y) := fun x y => rfl
  congr 2
  obtain ⟨a, b, c, d, e, f⟩ := x
  obtain ⟨g, h, i, j, k, l⟩ := y
  simp only [hb, Bool.and_true, Prod.mk.injEq, decide_not, Bool.decide_and]
/-! Lists that are the same. -/
theorem list_eqG {a b : List Gap} (hl : a.length = b.length) (h : ∀ k, k < a.length → a.getD k dG = b.getD k dG) : a = b := by
  apply List.ext_getElem hl
  intro i h1 h2
  have := h i h1
  simpa [h1, h2] using this
noncomputable def A_sameG : (List Gap) × (List Gap) → List PV := fun (a, b) => [gaps a, gaps b]
noncomputable def R_sameG : (List Gap) × (List Gap) → PV := fun (a, b) => B (decide (a = b))
def H_sameG : (List Gap) × (List Gap) → Prop := fun (a, b) => a.length ≤ 100000
noncomputable def e_sameG : Nat × Ent := (13, .v (specOf A_sameG R_sameG H_sameG))
theorem j_sameG : ∀ i j, A_sameG i = A_sameG j → i = j := by
  rintro ⟨a₁, b₁⟩ ⟨a₂, b₂⟩ h
  simp only [A_sameG, List.cons.injEq, and_true, PV.lits.injEq, PV.int.injEq, PV.bool.injEq, PV.str.injEq, PV.agg.injEq, PV.func.injEq, Fn.func.injEq, PV.vptr.injEq, true_and, List.map_nil, inj_ints, inj_strs, inj_psts, inj_gaps, inj_pays] at h
  simp [Prod.ext_iff, h] <;> omega
theorem s_sameG (a : List Gap) (b : List Gap) : specOf A_sameG R_sameG H_sameG [gaps a, gaps b] = @ite (Option (PV)) (a.length ≤ 100000) (Classical.propDecidable _) (some (B (decide (a = b)))) none := specOf_if j_sameG (a, b)
def C_sameG : Prop := ∀ (a : List Gap) (b : List Gap) (h : a.length ≤ 100000) , VC Try.prog 13 [gaps a, gaps b] (B (decide (a = b)))
def O_sameG : Prop := EntOK Try.prog e_sameG.1 e_sameG.2
theorem k_sameG (c : C_sameG) : O_sameG := specOf_ok fun ⟨a, b⟩ h => c a b h
theorem c_sameG : C_sameG := by
  intro a b hl
  refine vc_ofU mixed (l := []) (eok_nil) [] []  Try.func13 rfl (by decide +kernel) (N := 26) rfl (by simp) rfl (by kernel_rfl) fun hs => ?_
  simp only [smallL, PV.small, List.length_map, and_true, true_and] at hs
  obtain ⟨R, hR⟩ : ∃ R, decide (a = b) = R := ⟨_, rfl⟩
  rw [hR]
  by_cases hab : a.length = b.length
  case neg =>
    have e : R = false := by rw [← hR]; exact decide_eq_false fun h => hab (by rw [h])
    subst e
    have hi : ¬ (a.length : Int) = (b.length : Int) := by omega
    simp +contextual (maxSteps := 4000000) only [↓ur_seq, ↓ur_ret, ↓ur_region, ↓ur_cond, ↓cont_seq, ↓done_nil, ↓done_seq, ↓ops_consN, nY_move, nY_assign, nY_binOp, nilO_tmp, nY_callb, ↓ops_nil, opsIf_some, condC_true, Option.map_some, Option.bind_some, Option.getD_some, Nat.reduceLT, ↓upd_same, ↓upd_ne, Nat.reduceBEq, and_true, List.getD_cons_zero, List.getD_cons_succ, endQ, cfg_P, List.length_map, decide_true, Option.some.injEq, exists_eq_left', Bool.not_false, not_false_eq_true, st0, DRx_bool, ↓ev_tmp, ↓ev_bool, ↓iop_move, ↓iop_assign, ↓iop_binOp, ↓iop_callb, bi_len, lenM_none, lenP_lits, b_neq, env0_eq, ires_eq, iresL_1, iresAll_nil, iresAll_cons, iresOne_tmp, ↓reduceIte, ↓evs_cons, ↓evs_nil, nth_psts, pur_psts, nth_gaps, pur_gaps, nth_pays, pur_pays, Try.f13, ty25, hi, hab]
  simp +contextual (maxSteps := 4000000) only [↓ur_skip, ↓ur_seq, ↓ur_block, ↓ur_region, ↓ur_cond, ↓cont_seq, ↓ops_consN, nY_move, nY_assign, nY_binOp, nilO_tmp, nY_callb, ↓ops_nil, opsIf_some, condC_false, Option.map_some, Option.getD_some, Nat.reduceLT, ↓upd_same, ↓upd_ne, Nat.reduceBEq, true_and, List.getD_cons_zero, List.getD_cons_succ, cfg_P, List.length_map, decide_false, Bool.not_false, not_true_eq_false, st0, ↓ev_tmp, ↓ev_int, ↓ev_bool, ↓iop_move, ↓iop_assign, ↓iop_binOp, ↓iop_callb, bi_len, lenM_none, lenP_lits, b_neq, env0_eq, ↓reduceIte, ↓evs_cons, ↓evs_nil, nth_psts, pur_psts, nth_gaps, pur_gaps, nth_pays, pur_pays, Try.f13, ty25, hab]
  refine loop_cnt [4, 5, 11, 12, 13, 14, 15, 16, 17, 18, 19, 20, 21, 22, 23, 24, 25] a.length (fun k ρ st' => ρ 5 = I k ∧ ∀ j, j < k → a.getD j dG = b.getD j dG) (.refl _) ?_ ?_
  · simp +contextual (maxSteps := 4000000) only [↓upd_same, true_and, Int.cast_ofNat_Int, nth_psts, pur_psts, nth_gaps, pur_gaps, nth_pays, pur_pays, Try.f13]
    intro j hj; omega
  rintro k ρ ⟨ob, M⟩ hk ⟨h5, hz⟩
  by_cases hlt : k < a.length
  · have hwk := wrapN' (k := k) (by omega)
    have hltb : k < b.length := by omega
    generalize hx : a.getD k dG = x at *
    generalize hy : b.getD k dG = y at *
    by_cases he : x = y
    · have hz2 : ∀ j, j < k + 1 → a.getD j dG = b.getD j dG := fun j hj => by
        by_cases e : j = k
        · subst e; rw [hx, hy, he]
        · exact hz j (by omega)
      simp +contextual (maxSteps := 4000000) only [↓ur_skip, ↓ur_seq, ↓ur_block, ↓ur_region, ↓ur_cond, ↓cont_seq, ↓cont_blk, ↓cont_lp, ↓ops_consN, nY_move, nY_assign, nY_load, nY_binOp, nilO_tmp, nilO_int, nY_indexAddr, nY_callb, ↓ops_nil, opsIf_some, condC_true, condC_false, Option.map_some, Option.bind_some, Option.getD_some, Nat.reduceLT, Bool.false_eq_true, ↓upd_same, ↓upd_ne, Nat.reduceBEq, true_and, and_true, List.getD_cons_zero, List.getD_cons_succ, cfg_P, cfg_frz, List.length_map, ↓havoc_in, ↓havoc_out, agree_upd, agree_havoc, List.contains_cons, List.contains_nil, Bool.or_false, Bool.or_true, Int.natCast_nonneg, Int.ofNat_lt, Int.toNat_natCast, decide_true, decide_false, List.length_cons, List.length_nil, Nat.zero_add, List.drop_zero, Nat.reduceAdd, Nat.lt_succ_self, Bool.not_false, not_true_eq_false, Nat.le_refl, cells_agg, ↓ev_tmp, ↓ev_int, ↓iop_move, ↓iop_assign, ↓iop_load, ↓iop_binOp, ↓iop_indexAddr, idxA_int, ↓iop_callb, bi_len, lenM_none, pickP_t, loadP_vptr, indexP_lits, lenP_lits, b_add, b_lss, env0_eq, ↓reduceIte, List.take_succ_cons, List.take_nil, ↓evs_cons, ↓evs_nil, beq_self_eq_true, see_eq, nth_psts, pur_psts, nth_gaps, pur_gaps, nth_pays, pur_pays, Try.f13, ty25, ty64, h5, hab, hlt, hltb, hx, hy, neq_gap, he, hwk]
      exact hz2
    · have e : R = false := by rw [← hR]; exact decide_eq_false fun h => he (by rw [← hx, ← hy, h])
      subst e
      simp +contextual (maxSteps := 4000000) only [↓ur_skip, ↓ur_seq, ↓ur_block, ↓ur_ret, ↓ur_region, ↓ur_cond, ↓cont_seq, ↓done_nil, ↓done_seq, ↓done_blk, ↓done_lp, ↓ops_consN, nY_move, nY_assign, nY_load, nY_binOp, nilO_tmp, nY_indexAddr, nY_callb, ↓ops_nil, opsIf_some, condC_true, Option.map_some, Option.bind_some, Option.getD_some, Nat.reduceLT, Bool.false_eq_true, ↓upd_same, ↓upd_ne, Nat.reduceBEq, and_true, List.getD_cons_zero, List.getD_cons_succ, endQ, cfg_P, cfg_frz, List.length_map, ↓havoc_in, ↓havoc_out, List.contains_cons, List.contains_nil, Bool.or_false, Bool.or_true, Int.natCast_nonneg, Int.ofNat_lt, Int.toNat_natCast, decide_true, Option.some.injEq, exists_eq_left', List.length_cons, List.length_nil, Nat.zero_add, List.drop_zero, Nat.reduceAdd, Nat.lt_succ_self, Bool.not_false, not_false_eq_true, Nat.le_refl, cells_agg, DRx_bool, ↓ev_tmp, ↓ev_bool, ↓iop_move, ↓iop_assign, ↓iop_load, ↓iop_binOp, ↓iop_indexAddr, idxA_int, ↓iop_callb, bi_len, lenM_none, pickP_t, loadP_vptr, indexP_lits, lenP_lits, b_lss, env0_eq, ires_eq, iresL_1, iresAll_nil, iresAll_cons, iresOne_tmp, ↓reduceIte, List.take_succ_cons, List.take_nil, ↓evs_cons, ↓evs_nil, beq_self_eq_true, see_eq, nth_psts, pur_psts, nth_gaps, pur_gaps, nth_pays, pur_pays, Try.f13, ty25, ty64, h5, hab, hlt, hltb, hx, hy, neq_gap, he]
  · have e : k = a.length := by omega
    subst e
    have e : R = true := by rw [← hR]; exact decide_eq_true (list_eqG hab hz)
    subst e
    simp +contextual (maxSteps := 4000000) only [↓ur_seq, ↓ur_exit, ↓ur_ret, ↓ur_region, ↓ur_cond, ↓cont_seq, ↓leave_seq, ↓leave_blk, ↓leave_lp, ↓done_nil, ↓ops_consN, nY_move, nY_assign, nY_binOp, nilO_tmp, nY_callb, ↓ops_nil, opsIf_some, condC_false, Option.map_some, Option.bind_some, Option.getD_some, Nat.reduceLT, ↓upd_same, ↓upd_ne, Nat.reduceBEq, and_true, List.getD_cons_zero, endQ, cfg_P, List.length_map, ↓havoc_in, ↓havoc_out, List.contains_cons, List.contains_nil, Bool.or_false, Bool.or_true, Int.ofNat_lt, decide_false, Option.some.injEq, exists_eq_left', Nat.lt_irrefl, Bool.not_false, DRx_bool, ↓ev_tmp, ↓ev_bool, ↓iop_move, ↓iop_assign, ↓iop_binOp, ↓iop_callb, bi_len, lenM_none, lenP_lits, b_lss, env0_eq, ires_eq, iresL_1, iresAll_nil, iresAll_cons, iresOne_tmp, ↓reduceIte, ↓evs_cons, ↓evs_nil, beq_self_eq_true, nth_psts, pur_psts, nth_gaps, pur_gaps, nth_pays, pur_pays, Try.f13, ty25, h5, hab]
theorem o_sameG : O_sameG := k_sameG c_sameG
end Sim
