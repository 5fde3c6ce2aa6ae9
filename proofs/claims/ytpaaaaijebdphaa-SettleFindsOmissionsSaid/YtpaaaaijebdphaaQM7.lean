/- What functions of this seat compute, by values: contracts (lemmas of the statement's proof, under the conditions that each names). -/
import Derived.Test.YtpaaaaijebdphaaQM6
namespace Sim
open Go Go.Proofs
set_option maxRecDepth 10000
set_option maxHeartbeats 2000000
set_option linter.unusedVariables false
set_option linter.unusedSimpArgs false
attribute [local congr] opsIf_congr condC_congr guardC_congr grd_congr pick3_congr obind_congr omap_congr nilC_congr opsV_congr
noncomputable def A_isnan : Int → List PV := fun x => [I x]
noncomputable def R_isnan : Int → PV := fun x => B false
def H_isnan : Int → Prop := fun x => True
noncomputable def e_isnan : Nat × Ent := (92, .v (specOf A_isnan R_isnan H_isnan))
theorem j_isnan : ∀ i j, A_isnan i = A_isnan j → i = j := by
  rintro x₁ x₂ h
  simp only [A_isnan, List.cons.injEq, and_true, PV.lits.injEq, PV.int.injEq, PV.bool.injEq, PV.str.injEq, PV.agg.injEq, PV.func.injEq, Fn.func.injEq, PV.vptr.injEq, true_and, List.map_nil, inj_ints, inj_strs, inj_psts, inj_gaps, inj_pays, inj_tars, inj_snds, inj_uses, inj_rsts, inj_lnks] at h
  first | exact h | omega | (simp [Prod.ext_iff, h]; done)
theorem s_isnan (x : Int) : specOf A_isnan R_isnan H_isnan [I x] = some (B false) := specOf_app j_isnan (i := x) trivial
def C_isnan : Prop := ∀ (x : Int) , VC Try.prog 92 [I x] (B false)
def O_isnan : Prop := EntOK Try.prog e_isnan.1 e_isnan.2
theorem k_isnan (c : C_isnan) : O_isnan := specOf_ok fun x h => c x
theorem c_isnan : C_isnan := by
  intro x
  refine vc_ofU mixed (l := []) (eok_nil) [] []  Try.func92 rfl (by decide +kernel) (N := 6) rfl (by simp) rfl (by kernel_rfl) fun hs => ?_
  simp only [smallL, PV.small, List.length_map, and_true, true_and] at hs
  simp +contextual (maxSteps := 4000000) only [↓ur_seq, ↓ur_ret, ↓ur_region, ↓cont_seq, ↓done_nil, ↓ops_consN, nY_move, nY_assign, nY_binOp, nilO_tmp, ↓ops_nil, opsIf_some, Option.map_some, Option.bind_some, Nat.reduceLT, ↓upd_same, ↓upd_ne, Nat.reduceBEq, and_true, List.getD_cons_zero, endQ, cfg_P, decide_false, Option.some.injEq, exists_eq_left', Nat.lt_succ_self, Bool.not_false, not_true_eq_false, st0, DRx_bool, ↓ev_tmp, ↓ev_bool, ↓iop_move, ↓iop_assign, ↓iop_binOp, b_neq, env0_eq, ires_eq, iresL_1, iresAll_nil, iresAll_cons, iresOne_tmp, nth_psts, pur_psts, nth_gaps, pur_gaps, nth_pays, pur_pays, nth_tars, pur_tars, nth_snds, pur_snds, nth_uses, pur_uses, nth_rsts, pur_rsts, nth_keys, pur_keys, nth_lnks, pur_lnks, Try.f92]
theorem o_isnan : O_isnan := k_isnan c_isnan
noncomputable def A_cmpi : (Int) × (Int) → List PV := fun (x, y) => [I x, I y]
noncomputable def R_cmpi : (Int) × (Int) → PV := fun (x, y) => I (kcmp x y)
def H_cmpi : (Int) × (Int) → Prop := fun (x, y) => True
noncomputable def e_cmpi : Nat × Ent := (69, .v (specOf A_cmpi R_cmpi H_cmpi))
theorem j_cmpi : ∀ i j, A_cmpi i = A_cmpi j → i = j := by
  rintro ⟨x₁, y₁⟩ ⟨x₂, y₂⟩ h
  simp only [A_cmpi, List.cons.injEq, and_true, PV.lits.injEq, PV.int.injEq, PV.bool.injEq, PV.str.injEq, PV.agg.injEq, PV.func.injEq, Fn.func.injEq, PV.vptr.injEq, true_and, List.map_nil, inj_ints, inj_strs, inj_psts, inj_gaps, inj_pays, inj_tars, inj_snds, inj_uses, inj_rsts, inj_lnks] at h
  simp [Prod.ext_iff, h] <;> omega
theorem s_cmpi (x : Int) (y : Int) : specOf A_cmpi R_cmpi H_cmpi [I x, I y] = some (I (kcmp x y)) := specOf_app j_cmpi (i := (x, y)) trivial
def C_cmpi : Prop := ∀ (x : Int) (y : Int) , VC Try.prog 69 [I x, I y] (I (kcmp x y))
def O_cmpi : Prop := EntOK Try.prog e_cmpi.1 e_cmpi.2
theorem k_cmpi (c : C_cmpi) : O_cmpi := specOf_ok fun ⟨x, y⟩ h => c x y
theorem c_cmpi : C_cmpi := by
  intro x y
  refine vc_ofU mixed (l := [e_isnan]) ((eok_cons o_isnan eok_nil)) [] []  Try.func69 rfl (by decide +kernel) (N := 20) rfl (by simp) rfl (by kernel_rfl) fun hs => ?_
  simp only [smallL, PV.small, List.length_map, and_true, true_and] at hs
  unfold kcmp
  by_cases c1 : x < y
  · simp +contextual (maxSteps := 4000000) only [↓ur_skip, ↓ur_seq, ↓ur_ret, ↓ur_region, ↓ur_cond, ↓cont_seq, ↓done_nil, ↓done_seq, ↓ops_consN, nY_move, nY_assign, nY_binOp, nilO_tmp, nY_callf, ↓ops_nil, opsIf_some, condC_true, condC_false, Option.map_some, Option.bind_some, Option.getD_some, Nat.reduceLT, Bool.false_eq_true, ↓upd_same, ↓upd_ne, Nat.reduceBEq, and_true, List.getD_cons_zero, List.getD_cons_succ, endQ, cfg_P, cfg_tab, cfg_muts, cfg_frz, List.contains_nil, decide_true, Option.some.injEq, exists_eq_left', tabOf_cons, tab_v, Bool.and_self, List.nil_append, List.append_nil, Nat.reduceAdd, Bool.not_false, st0, pur_int, DRx_int, ↓ev_tmp, ↓ev_int, ↓ev_func, ↓iop_move, ↓iop_assign, ↓iop_binOp, ↓iop_callv, nrmAll_cons, nrmAll_nil, nrm_int, b_lss, env0_eq, ires_eq, iresL_1, iresAll_nil, iresAll_cons, iresOne_tmp, valT_eq, pursL_cons, pursL_nil, ↓reduceIte, callP_eq, tsOf_eq, ↓evs_cons, ↓evs_nil, and_false, Bool.true_eq_false, e_isnan, s_isnan, nth_psts, pur_psts, nth_gaps, pur_gaps, nth_pays, pur_pays, nth_tars, pur_tars, nth_snds, pur_snds, nth_uses, pur_uses, nth_rsts, pur_rsts, nth_keys, pur_keys, nth_lnks, pur_lnks, Try.f69, ty3, c1]
  · by_cases c2 : y < x
    · simp +contextual (maxSteps := 4000000) only [↓ur_skip, ↓ur_seq, ↓ur_ret, ↓ur_region, ↓ur_cond, ↓cont_seq, ↓done_nil, ↓done_seq, ↓ops_consN, nY_move, nY_assign, nY_binOp, nilO_tmp, nY_callf, ↓ops_nil, opsIf_some, condC_true, condC_false, Option.map_some, Option.bind_some, Option.getD_some, Nat.reduceLT, Bool.false_eq_true, ↓upd_same, ↓upd_ne, Nat.reduceBEq, and_true, List.getD_cons_zero, List.getD_cons_succ, endQ, cfg_P, cfg_tab, cfg_muts, cfg_frz, List.contains_nil, decide_true, decide_false, Option.some.injEq, exists_eq_left', tabOf_cons, tab_v, Bool.and_self, List.nil_append, List.append_nil, Nat.reduceAdd, Nat.lt_succ_self, Bool.not_false, st0, pur_int, DRx_int, ↓ev_tmp, ↓ev_int, ↓ev_func, ↓iop_move, ↓iop_assign, ↓iop_binOp, ↓iop_callv, nrmAll_cons, nrmAll_nil, nrm_int, b_lss, b_gtr, env0_eq, ires_eq, iresL_1, iresAll_nil, iresAll_cons, iresOne_tmp, valT_eq, pursL_cons, pursL_nil, ↓reduceIte, callP_eq, tsOf_eq, ↓evs_cons, ↓evs_nil, and_false, Bool.true_eq_false, e_isnan, s_isnan, nth_psts, pur_psts, nth_gaps, pur_gaps, nth_pays, pur_pays, nth_tars, pur_tars, nth_snds, pur_snds, nth_uses, pur_uses, nth_rsts, pur_rsts, nth_keys, pur_keys, nth_lnks, pur_lnks, Try.f69, ty3, c1, c2]
    · simp +contextual (maxSteps := 4000000) only [↓ur_skip, ↓ur_seq, ↓ur_ret, ↓ur_region, ↓ur_cond, ↓cont_seq, ↓done_nil, ↓ops_consN, nY_move, nY_assign, nY_binOp, nilO_tmp, nY_callf, ↓ops_nil, opsIf_some, condC_false, Option.map_some, Option.bind_some, Option.getD_some, Nat.reduceLT, Bool.false_eq_true, ↓upd_same, ↓upd_ne, Nat.reduceBEq, and_true, List.getD_cons_zero, List.getD_cons_succ, endQ, cfg_P, cfg_tab, cfg_muts, cfg_frz, List.contains_nil, decide_false, Option.some.injEq, exists_eq_left', tabOf_cons, tab_v, Bool.and_self, List.nil_append, List.append_nil, Nat.reduceAdd, Nat.lt_succ_self, Bool.not_false, st0, pur_int, DRx_int, ↓ev_tmp, ↓ev_int, ↓ev_func, ↓iop_move, ↓iop_assign, ↓iop_binOp, ↓iop_callv, nrmAll_cons, nrmAll_nil, nrm_int, b_lss, b_gtr, env0_eq, ires_eq, iresL_1, iresAll_nil, iresAll_cons, iresOne_tmp, valT_eq, pursL_cons, pursL_nil, ↓reduceIte, callP_eq, tsOf_eq, ↓evs_cons, ↓evs_nil, and_false, Bool.true_eq_false, e_isnan, s_isnan, nth_psts, pur_psts, nth_gaps, pur_gaps, nth_pays, pur_pays, nth_tars, pur_tars, nth_snds, pur_snds, nth_uses, pur_uses, nth_rsts, pur_rsts, nth_keys, pur_keys, nth_lnks, pur_lnks, Try.f69, ty3, c1, c2]
theorem o_cmpi : O_cmpi := k_cmpi c_cmpi
noncomputable def A_compareK : (Key) × (Key) → List PV := fun (x, y) => [ints [x.1, x.2.1, x.2.2], ints [y.1, y.2.1, y.2.2]]
noncomputable def R_compareK : (Key) × (Key) → PV := fun (x, y) => I (cfK x y)
def H_compareK : (Key) × (Key) → Prop := fun (x, y) => True
noncomputable def e_compareK : Nat × Ent := (33, .v (specOf A_compareK R_compareK H_compareK))
theorem j_compareK : ∀ i j, A_compareK i = A_compareK j → i = j := by
  rintro ⟨x₁, y₁⟩ ⟨x₂, y₂⟩ h
  simp only [A_compareK, List.cons.injEq, and_true, PV.lits.injEq, PV.int.injEq, PV.bool.injEq, PV.str.injEq, PV.agg.injEq, PV.func.injEq, Fn.func.injEq, PV.vptr.injEq, true_and, List.map_nil, inj_ints, inj_strs, inj_psts, inj_gaps, inj_pays, inj_tars, inj_snds, inj_uses, inj_rsts, inj_lnks] at h
  simp [Prod.ext_iff, h] <;> omega
theorem s_compareK (x : Key) (y : Key) : specOf A_compareK R_compareK H_compareK [ints [x.1, x.2.1, x.2.2], ints [y.1, y.2.1, y.2.2]] = some (I (cfK x y)) := specOf_app j_compareK (i := (x, y)) trivial
def C_compareK : Prop := ∀ (x : Key) (y : Key) , VC Try.prog 33 [ints [x.1, x.2.1, x.2.2], ints [y.1, y.2.1, y.2.2]] (I (cfK x y))
def O_compareK : Prop := EntOK Try.prog e_compareK.1 e_compareK.2
theorem k_compareK (c : C_compareK) : O_compareK := specOf_ok fun ⟨x, y⟩ h => c x y
theorem c_compareK : C_compareK := by
  rintro ⟨x1, x2, x3⟩ ⟨y1, y2, y3⟩
  refine vc_ofU mixed (l := [e_cmpi]) ((eok_cons o_cmpi eok_nil)) [] []  Try.func33 rfl (by decide +kernel) (N := 36) rfl (by simp) rfl (by kernel_rfl) fun hs => ?_
  simp only [smallL, PV.small, List.length_map, and_true, true_and] at hs
  have hz : ∀ a b : Int, kcmp a b = 0 → a = b := fun a b h => by unfold kcmp at h; split at h <;> first | (split at h <;> omega) | omega
  simp +contextual (maxSteps := 4000000) only [↓ur_seq, ↓ur_block, ↓ur_region, ↓cont_seq, ↓ops_consN, nY_move, nY_assign, nY_callb, ↓ops_nil, opsIf_some, Option.map_some, Option.getD_some, Nat.reduceLT, ↓upd_same, ↓upd_ne, Nat.reduceBEq, true_and, List.getD_cons_zero, cfg_P, List.map_cons, List.map_nil, List.length_cons, List.length_nil, Nat.zero_add, Nat.reduceAdd, Nat.lt_succ_self, st0, ↓ev_tmp, ↓ev_int, ↓iop_move, ↓iop_assign, ↓iop_callb, bi_len, lenM_none, lenP_lits, env0_eq, ↓reduceIte, ↓evs_cons, ↓evs_nil, Int.cast_ofNat_Int, e_cmpi, nth_psts, pur_psts, nth_gaps, pur_gaps, nth_pays, pur_pays, nth_tars, pur_tars, nth_snds, pur_snds, nth_uses, pur_uses, nth_rsts, pur_rsts, nth_keys, pur_keys, nth_lnks, pur_lnks, Try.f33, ty34]
  refine loop_cnt [4, 5, 6, 7, 8, 11, 12, 13, 14, 15, 16, 17, 18, 19, 20, 21, 22, 23, 24, 25, 26, 27, 28, 29, 30] 3 (fun j ρ st' => ρ 11 = I j ∧ (0 < j → kcmp x1 y1 = 0) ∧ (1 < j → kcmp x2 y2 = 0) ∧ (2 < j → kcmp x3 y3 = 0)) (.refl _) ?_ ?_
  · simp +contextual (maxSteps := 4000000) only [Nat.reduceLT, ↓upd_same, and_true, Nat.lt_irrefl, false_implies, Int.cast_ofNat_Int, nth_psts, pur_psts, nth_gaps, pur_gaps, nth_pays, pur_pays, nth_tars, pur_tars, nth_snds, pur_snds, nth_uses, pur_uses, nth_rsts, pur_rsts, nth_keys, pur_keys, nth_lnks, pur_lnks, Try.f33]
  rintro j ρ st' hj ⟨h11, g1, g2, g3⟩
  match j, hj with
  | 0, _ =>
    have h11 : ρ 11 = I 0 := h11
    have w1 : IntKind.i64.wrap (0 + 1) = 1 := rfl
    have w2 : IntKind.i64.wrap 1 = 1 := rfl
    by_cases e : kcmp x1 y1 = 0
    · simp +contextual (maxSteps := 4000000) only [↓ur_skip, ↓ur_seq, ↓ur_block, ↓ur_region, ↓ur_cond, ↓cont_seq, ↓cont_blk, ↓cont_lp, ↓ops_consN, nY_move, nY_assign, nY_load, nY_binOp, nilO_tmp, nilO_int, nY_indexAddr, nY_callf, nY_callb, ↓ops_nil, opsIf_some, condC_true, condC_false, Option.map_some, Option.bind_some, Option.getD_some, Nat.reduceLT, Bool.false_eq_true, ↓upd_same, ↓upd_ne, Nat.reduceBEq, and_true, List.getD_cons_zero, List.getD_cons_succ, List.getElem?_cons_zero, forall_const, cfg_P, cfg_tab, cfg_muts, cfg_frz, List.map_cons, List.map_nil, ↓havoc_in, ↓havoc_out, agree_upd, agree_havoc, List.contains_cons, List.contains_nil, Bool.or_false, Bool.or_true, decide_true, decide_false, tabOf_cons, tab_v, Bool.and_self, List.nil_append, List.append_nil, List.length_cons, List.length_nil, Nat.zero_add, Nat.reduceAdd, nth_zero, Nat.lt_irrefl, Nat.lt_succ_self, Bool.not_false, not_true_eq_false, false_implies, Int.reduceLT, Int.reduceLE, Int.reduceToNat, cells_int, pur_int, ↓ev_tmp, ↓ev_int, ↓ev_func, ↓iop_move, ↓iop_assign, ↓iop_load, ↓iop_binOp, ↓iop_indexAddr, idxA_int, ↓iop_callv, ↓iop_callb, nrmAll_cons, nrmAll_nil, bi_len, lenM_none, nrm_int, pickP_f, loadP_vptr, indexP_lits, lenP_lits, b_add, b_neq, b_lss, b_geq, env0_eq, valT_eq, pursL_cons, pursL_nil, ↓reduceIte, callP_eq, tsOf_eq, ↓evs_cons, ↓evs_nil, Int.le_refl, beq_self_eq_true, see_eq, and_false, Bool.true_eq_false, Int.reduceAdd, Int.cast_ofNat_Int, s_cmpi, nth_psts, pur_psts, nth_gaps, pur_gaps, nth_pays, pur_pays, nth_tars, pur_tars, nth_snds, pur_snds, nth_uses, pur_uses, nth_rsts, pur_rsts, nth_keys, pur_keys, nth_lnks, pur_lnks, Try.f33, ty3, ty34, h11, e, w1, w2]
    · have hc : cfK (x1, x2, x3) (y1, y2, y3) = kcmp x1 y1 := by unfold cfK; rw [if_pos e]
      simp +contextual (maxSteps := 4000000) only [↓ur_skip, ↓ur_seq, ↓ur_block, ↓ur_ret, ↓ur_region, ↓ur_cond, ↓cont_seq, ↓done_nil, ↓done_seq, ↓done_blk, ↓done_lp, ↓ops_consN, nY_move, nY_assign, nY_load, nY_binOp, nilO_tmp, nilO_int, nY_indexAddr, nY_callf, nY_callb, ↓ops_nil, opsIf_some, condC_true, condC_false, Option.map_some, Option.bind_some, Option.getD_some, Nat.reduceLT, Bool.false_eq_true, ↓upd_same, ↓upd_ne, Nat.reduceBEq, and_true, List.getD_cons_zero, List.getD_cons_succ, List.getElem?_cons_zero, endQ, cfg_P, cfg_tab, cfg_muts, cfg_frz, List.map_cons, List.map_nil, ↓havoc_in, ↓havoc_out, List.contains_cons, List.contains_nil, Bool.or_false, Bool.or_true, decide_true, decide_false, Option.some.injEq, exists_eq_left', tabOf_cons, tab_v, Bool.and_self, List.nil_append, List.append_nil, List.length_cons, List.length_nil, Nat.zero_add, Nat.reduceAdd, nth_zero, Nat.lt_succ_self, Bool.not_false, not_false_eq_true, Int.reduceLT, Int.reduceLE, Int.reduceToNat, cells_int, pur_int, DRx_int, ↓ev_tmp, ↓ev_int, ↓ev_func, ↓iop_move, ↓iop_assign, ↓iop_load, ↓iop_binOp, ↓iop_indexAddr, idxA_int, ↓iop_callv, ↓iop_callb, nrmAll_cons, nrmAll_nil, bi_len, lenM_none, nrm_int, pickP_f, loadP_vptr, indexP_lits, lenP_lits, b_neq, b_lss, b_geq, env0_eq, ires_eq, iresL_1, iresAll_nil, iresAll_cons, iresOne_tmp, valT_eq, pursL_cons, pursL_nil, ↓reduceIte, callP_eq, tsOf_eq, ↓evs_cons, ↓evs_nil, Int.le_refl, beq_self_eq_true, see_eq, and_false, Bool.true_eq_false, Int.cast_ofNat_Int, s_cmpi, nth_psts, pur_psts, nth_gaps, pur_gaps, nth_pays, pur_pays, nth_tars, pur_tars, nth_snds, pur_snds, nth_uses, pur_uses, nth_rsts, pur_rsts, nth_keys, pur_keys, nth_lnks, pur_lnks, Try.f33, ty3, ty34, h11, e, hc]
  | 1, _ =>
    have h11 : ρ 11 = I 1 := h11
    have w1 : IntKind.i64.wrap (1 + 1) = 2 := rfl
    have w2 : IntKind.i64.wrap 2 = 2 := rfl
    have q1 := g1 (by omega)
    by_cases e : kcmp x2 y2 = 0
    · simp +contextual (maxSteps := 4000000) only [↓ur_skip, ↓ur_seq, ↓ur_block, ↓ur_region, ↓ur_cond, ↓cont_seq, ↓cont_blk, ↓cont_lp, ↓ops_consN, nY_move, nY_assign, nY_load, nY_binOp, nilO_tmp, nilO_int, nY_indexAddr, nY_callf, nY_callb, ↓ops_nil, opsIf_some, condC_true, condC_false, Option.map_some, Option.bind_some, Option.getD_some, Nat.reduceLT, Bool.false_eq_true, ↓upd_same, ↓upd_ne, Nat.reduceBEq, and_true, List.getD_cons_zero, List.getD_cons_succ, List.getElem?_cons_zero, forall_const, cfg_P, cfg_tab, cfg_muts, cfg_frz, List.map_cons, List.map_nil, ↓havoc_in, ↓havoc_out, agree_upd, agree_havoc, List.contains_cons, List.contains_nil, Bool.or_false, Bool.or_true, decide_true, decide_false, tabOf_cons, tab_v, Bool.and_self, List.nil_append, List.append_nil, List.length_cons, List.length_nil, Nat.zero_add, Nat.reduceAdd, nth_zero, nth_succ, Nat.lt_irrefl, Nat.lt_succ_self, Bool.not_false, not_true_eq_false, false_implies, Int.reduceLT, Int.reduceLE, Int.reduceToNat, cells_int, pur_int, ↓ev_tmp, ↓ev_int, ↓ev_func, ↓iop_move, ↓iop_assign, ↓iop_load, ↓iop_binOp, ↓iop_indexAddr, idxA_int, ↓iop_callv, ↓iop_callb, nrmAll_cons, nrmAll_nil, bi_len, lenM_none, nrm_int, pickP_f, loadP_vptr, indexP_lits, lenP_lits, b_add, b_neq, b_lss, b_geq, env0_eq, valT_eq, pursL_cons, pursL_nil, ↓reduceIte, callP_eq, tsOf_eq, ↓evs_cons, ↓evs_nil, beq_self_eq_true, see_eq, and_false, Bool.true_eq_false, Int.reduceAdd, Int.cast_ofNat_Int, s_cmpi, nth_psts, pur_psts, nth_gaps, pur_gaps, nth_pays, pur_pays, nth_tars, pur_tars, nth_snds, pur_snds, nth_uses, pur_uses, nth_rsts, pur_rsts, nth_keys, pur_keys, nth_lnks, pur_lnks, Try.f33, ty3, ty34, h11, e, w1, w2, q1]
    · have hc : cfK (x1, x2, x3) (y1, y2, y3) = kcmp x2 y2 := by unfold cfK; rw [if_neg (fun g => g q1), if_pos e]
      simp +contextual (maxSteps := 4000000) only [↓ur_skip, ↓ur_seq, ↓ur_block, ↓ur_ret, ↓ur_region, ↓ur_cond, ↓cont_seq, ↓done_nil, ↓done_seq, ↓done_blk, ↓done_lp, ↓ops_consN, nY_move, nY_assign, nY_load, nY_binOp, nilO_tmp, nilO_int, nY_indexAddr, nY_callf, nY_callb, ↓ops_nil, opsIf_some, condC_true, condC_false, Option.map_some, Option.bind_some, Option.getD_some, Nat.reduceLT, Bool.false_eq_true, ↓upd_same, ↓upd_ne, Nat.reduceBEq, and_true, List.getD_cons_zero, List.getD_cons_succ, List.getElem?_cons_zero, endQ, cfg_P, cfg_tab, cfg_muts, cfg_frz, List.map_cons, List.map_nil, ↓havoc_in, ↓havoc_out, List.contains_cons, List.contains_nil, Bool.or_false, Bool.or_true, decide_true, decide_false, Option.some.injEq, exists_eq_left', tabOf_cons, tab_v, Bool.and_self, List.nil_append, List.append_nil, List.length_cons, List.length_nil, Nat.zero_add, Nat.reduceAdd, nth_zero, nth_succ, Nat.lt_succ_self, Bool.not_false, not_false_eq_true, Int.reduceLT, Int.reduceLE, Int.reduceToNat, cells_int, pur_int, DRx_int, ↓ev_tmp, ↓ev_int, ↓ev_func, ↓iop_move, ↓iop_assign, ↓iop_load, ↓iop_binOp, ↓iop_indexAddr, idxA_int, ↓iop_callv, ↓iop_callb, nrmAll_cons, nrmAll_nil, bi_len, lenM_none, nrm_int, pickP_f, loadP_vptr, indexP_lits, lenP_lits, b_neq, b_lss, b_geq, env0_eq, ires_eq, iresL_1, iresAll_nil, iresAll_cons, iresOne_tmp, valT_eq, pursL_cons, pursL_nil, ↓reduceIte, callP_eq, tsOf_eq, ↓evs_cons, ↓evs_nil, beq_self_eq_true, see_eq, and_false, Bool.true_eq_false, Int.cast_ofNat_Int, s_cmpi, nth_psts, pur_psts, nth_gaps, pur_gaps, nth_pays, pur_pays, nth_tars, pur_tars, nth_snds, pur_snds, nth_uses, pur_uses, nth_rsts, pur_rsts, nth_keys, pur_keys, nth_lnks, pur_lnks, Try.f33, ty3, ty34, h11, e, hc]
  | 2, _ =>
    have h11 : ρ 11 = I 2 := h11
    have w1 : IntKind.i64.wrap (2 + 1) = 3 := rfl
    have w2 : IntKind.i64.wrap 3 = 3 := rfl
    have q1 := g1 (by omega)
    have q2 := g2 (by omega)
    by_cases e : kcmp x3 y3 = 0
    · simp +contextual (maxSteps := 4000000) only [↓ur_skip, ↓ur_seq, ↓ur_block, ↓ur_region, ↓ur_cond, ↓cont_seq, ↓cont_blk, ↓cont_lp, ↓ops_consN, nY_move, nY_assign, nY_load, nY_binOp, nilO_tmp, nilO_int, nY_indexAddr, nY_callf, nY_callb, ↓ops_nil, opsIf_some, condC_true, condC_false, Option.map_some, Option.bind_some, Option.getD_some, Nat.reduceLT, Bool.false_eq_true, ↓upd_same, ↓upd_ne, Nat.reduceBEq, and_true, List.getD_cons_zero, List.getD_cons_succ, List.getElem?_cons_zero, forall_const, cfg_P, cfg_tab, cfg_muts, cfg_frz, List.map_cons, List.map_nil, ↓havoc_in, ↓havoc_out, agree_upd, agree_havoc, List.contains_cons, List.contains_nil, Bool.or_false, Bool.or_true, decide_true, decide_false, tabOf_cons, tab_v, Bool.and_self, List.nil_append, List.append_nil, List.length_cons, List.length_nil, Nat.zero_add, Nat.reduceAdd, nth_zero, nth_succ, Nat.lt_succ_self, Bool.not_false, not_true_eq_false, Int.reduceLT, Int.reduceLE, Int.reduceToNat, cells_int, pur_int, ↓ev_tmp, ↓ev_int, ↓ev_func, ↓iop_move, ↓iop_assign, ↓iop_load, ↓iop_binOp, ↓iop_indexAddr, idxA_int, ↓iop_callv, ↓iop_callb, nrmAll_cons, nrmAll_nil, bi_len, lenM_none, nrm_int, pickP_f, loadP_vptr, indexP_lits, lenP_lits, b_add, b_neq, b_lss, b_geq, env0_eq, valT_eq, pursL_cons, pursL_nil, ↓reduceIte, callP_eq, tsOf_eq, ↓evs_cons, ↓evs_nil, beq_self_eq_true, see_eq, and_false, Bool.true_eq_false, Int.reduceAdd, Int.cast_ofNat_Int, s_cmpi, nth_psts, pur_psts, nth_gaps, pur_gaps, nth_pays, pur_pays, nth_tars, pur_tars, nth_snds, pur_snds, nth_uses, pur_uses, nth_rsts, pur_rsts, nth_keys, pur_keys, nth_lnks, pur_lnks, Try.f33, ty3, ty34, h11, e, w1, w2, q1, q2]
    · have hc : cfK (x1, x2, x3) (y1, y2, y3) = kcmp x3 y3 := by unfold cfK; rw [if_neg (fun g => g q1), if_neg (fun g => g q2)]
      simp +contextual (maxSteps := 4000000) only [↓ur_skip, ↓ur_seq, ↓ur_block, ↓ur_ret, ↓ur_region, ↓ur_cond, ↓cont_seq, ↓done_nil, ↓done_seq, ↓done_blk, ↓done_lp, ↓ops_consN, nY_move, nY_assign, nY_load, nY_binOp, nilO_tmp, nilO_int, nY_indexAddr, nY_callf, nY_callb, ↓ops_nil, opsIf_some, condC_true, condC_false, Option.map_some, Option.bind_some, Option.getD_some, Nat.reduceLT, Bool.false_eq_true, ↓upd_same, ↓upd_ne, Nat.reduceBEq, and_true, List.getD_cons_zero, List.getD_cons_succ, List.getElem?_cons_zero, endQ, cfg_P, cfg_tab, cfg_muts, cfg_frz, List.map_cons, List.map_nil, ↓havoc_in, ↓havoc_out, List.contains_cons, List.contains_nil, Bool.or_false, Bool.or_true, decide_true, decide_false, Option.some.injEq, exists_eq_left', tabOf_cons, tab_v, Bool.and_self, List.nil_append, List.append_nil, List.length_cons, List.length_nil, Nat.zero_add, Nat.reduceAdd, nth_zero, nth_succ, Nat.lt_succ_self, Bool.not_false, not_false_eq_true, Int.reduceLT, Int.reduceLE, Int.reduceToNat, cells_int, pur_int, DRx_int, ↓ev_tmp, ↓ev_int, ↓ev_func, ↓iop_move, ↓iop_assign, ↓iop_load, ↓iop_binOp, ↓iop_indexAddr, idxA_int, ↓iop_callv, ↓iop_callb, nrmAll_cons, nrmAll_nil, bi_len, lenM_none, nrm_int, pickP_f, loadP_vptr, indexP_lits, lenP_lits, b_neq, b_lss, b_geq, env0_eq, ires_eq, iresL_1, iresAll_nil, iresAll_cons, iresOne_tmp, valT_eq, pursL_cons, pursL_nil, ↓reduceIte, callP_eq, tsOf_eq, ↓evs_cons, ↓evs_nil, beq_self_eq_true, see_eq, and_false, Bool.true_eq_false, Int.cast_ofNat_Int, s_cmpi, nth_psts, pur_psts, nth_gaps, pur_gaps, nth_pays, pur_pays, nth_tars, pur_tars, nth_snds, pur_snds, nth_uses, pur_uses, nth_rsts, pur_rsts, nth_keys, pur_keys, nth_lnks, pur_lnks, Try.f33, ty3, ty34, h11, e, hc]
  | 3, _ =>
    have h11 : ρ 11 = I 3 := h11
    have hc : cfK (x1, x2, x3) (y1, y2, y3) = 0 := by unfold cfK; rw [if_neg (fun g => g (g1 (by omega))), if_neg (fun g => g (g2 (by omega)))]; exact g3 (by omega)
    simp +contextual (maxSteps := 4000000) only [↓ur_skip, ↓ur_seq, ↓ur_exit, ↓ur_ret, ↓ur_region, ↓ur_cond, ↓cont_seq, ↓leave_seq, ↓leave_blk, ↓leave_lp, ↓done_nil, ↓ops_consN, nY_move, nY_assign, nY_binOp, nilO_tmp, nY_callb, ↓ops_nil, opsIf_some, condC_false, Option.map_some, Option.bind_some, Option.getD_some, Nat.reduceLT, ↓upd_same, ↓upd_ne, Nat.reduceBEq, and_true, List.getD_cons_zero, List.getD_cons_succ, endQ, cfg_P, List.map_cons, List.map_nil, ↓havoc_in, ↓havoc_out, List.contains_cons, List.contains_nil, Bool.or_false, Bool.or_true, decide_false, Option.some.injEq, exists_eq_left', List.length_cons, List.length_nil, Nat.zero_add, Nat.reduceAdd, Nat.lt_succ_self, Bool.not_false, Int.reduceLT, DRx_int, ↓ev_tmp, ↓ev_int, ↓iop_move, ↓iop_assign, ↓iop_binOp, ↓iop_callb, bi_len, lenM_none, lenP_lits, b_lss, env0_eq, ires_eq, iresL_1, iresAll_nil, iresAll_cons, iresOne_tmp, ↓reduceIte, ↓evs_cons, ↓evs_nil, beq_self_eq_true, Int.cast_ofNat_Int, nth_psts, pur_psts, nth_gaps, pur_gaps, nth_pays, pur_pays, nth_tars, pur_tars, nth_snds, pur_snds, nth_uses, pur_uses, nth_rsts, pur_rsts, nth_keys, pur_keys, nth_lnks, pur_lnks, Try.f33, ty34, h11, hc]
  | j + 4, h => exact absurd h (by omega)
theorem o_compareK : O_compareK := k_compareK c_compareK
noncomputable def A_mord : (Key) × (Key) → List PV := fun (x, y) => [keyV x, keyV y]
noncomputable def R_mord : (Key) × (Key) → PV := fun (x, y) => I (cfK x y)
def H_mord : (Key) × (Key) → Prop := fun (x, y) => True
noncomputable def e_mord : Nat × Ent := (63, .v (specOf A_mord R_mord H_mord))
theorem j_mord : ∀ i j, A_mord i = A_mord j → i = j := by
  rintro ⟨x₁, y₁⟩ ⟨x₂, y₂⟩ h
  simp only [A_mord, List.cons.injEq, and_true, PV.lits.injEq, PV.int.injEq, PV.bool.injEq, PV.str.injEq, PV.agg.injEq, PV.func.injEq, Fn.func.injEq, PV.vptr.injEq, true_and, List.map_nil, inj_ints, inj_strs, inj_psts, inj_gaps, inj_pays, inj_tars, inj_snds, inj_uses, inj_rsts, inj_lnks] at h
  simp [Prod.ext_iff, h] <;> omega
theorem s_mord (x : Key) (y : Key) : specOf A_mord R_mord H_mord [keyV x, keyV y] = some (I (cfK x y)) := specOf_app j_mord (i := (x, y)) trivial
def C_mord : Prop := ∀ (x : Key) (y : Key) , VC Try.prog 63 [keyV x, keyV y] (I (cfK x y))
def O_mord : Prop := EntOK Try.prog e_mord.1 e_mord.2
theorem k_mord (c : C_mord) : O_mord := specOf_ok fun ⟨x, y⟩ h => c x y
theorem c_mord : C_mord := by
  rintro ⟨x1, x2, x3⟩ ⟨y1, y2, y3⟩
  refine vc_ofU mixed (l := [e_compareK]) ((eok_cons o_compareK eok_nil)) [] []  Try.func63 rfl (by decide +kernel) (N := 8) rfl (by simp) rfl (by kernel_rfl) fun hs => ?_
  simp only [smallL, PV.small, List.length_map, and_true, true_and] at hs
  have hsp : specOf A_compareK R_compareK H_compareK [PV.lits 1 [I x1, I x2, I x3], PV.lits 1 [I y1, I y2, I y3]] = some (I (cfK (x1, x2, x3) (y1, y2, y3))) := by
    have := s_compareK (x1, x2, x3) (y1, y2, y3)
    rwa [show ints [x1, x2, x3] = PV.lits 1 [I x1, I x2, I x3] from rfl, show ints [y1, y2, y3] = PV.lits 1 [I y1, I y2, I y3] from rfl] at this
  simp +contextual (maxSteps := 4000000) only [↓ur_seq, ↓ur_ret, ↓ur_region, ↓cont_seq, ↓done_nil, ↓ops_consN, nY_assign, nY_box, nY_slice, nY_callf, ↓ops_nil, opsIf_some, Option.map_some, Option.map_none, Option.bind_some, Option.getD_some, Nat.reduceLT, Bool.false_eq_true, ↓upd_same, ↓upd_ne, Nat.reduceBEq, true_and, and_true, List.getD_cons_zero, List.getD_cons_succ, endQ, cfg_P, cfg_tab, cfg_muts, cfg_frz, List.contains_nil, Option.some.injEq, exists_eq_left', tabOf_cons, tab_v, Bool.and_self, List.nil_append, List.append_nil, List.length_cons, List.length_nil, Nat.zero_add, List.drop_zero, Nat.reduceAdd, Nat.reduceLeDiff, Nat.lt_succ_self, st0, Nat.le_refl, pur_int, pur_lits, cells_agg, DRx_int, ↓ev_tmp, ↓ev_int, ↓ev_func, ↓iop_assign, ↓iop_box, ↓iop_slice, slcP_ff, ↓iop_callv, nrmAll_cons, nrmAll_nil, nrm_lits, sliceP_vptr, env0_eq, ires_eq, iresL_1, iresAll_nil, iresAll_cons, iresOne_tmp, valT_eq, pursL_cons, pursL_nil, ↓reduceIte, callP_eq, tsOf_eq, boxP_eq, List.take_succ_cons, List.take_nil, ↓evs_cons, ↓evs_nil, see_eq, and_false, Bool.true_eq_false, e_compareK, nth_psts, pur_psts, nth_gaps, pur_gaps, nth_pays, pur_pays, nth_tars, pur_tars, nth_snds, pur_snds, nth_uses, pur_uses, nth_rsts, pur_rsts, nth_keys, pur_keys, nth_lnks, pur_lnks, Try.f63, ty34, ty87, hsp]
theorem o_mord : O_mord := k_mord c_mord
noncomputable def A_mkey : Rst → List PV := fun r => [rstV r]
noncomputable def R_mkey : Rst → PV := fun r => keyV (rkey r)
def H_mkey : Rst → Prop := fun r => True
noncomputable def e_mkey : Nat × Ent := (64, .v (specOf A_mkey R_mkey H_mkey))
theorem j_mkey : ∀ i j, A_mkey i = A_mkey j → i = j := by
  rintro r₁ r₂ h
  simp only [A_mkey, List.cons.injEq, and_true, PV.lits.injEq, PV.int.injEq, PV.bool.injEq, PV.str.injEq, PV.agg.injEq, PV.func.injEq, Fn.func.injEq, PV.vptr.injEq, true_and, List.map_nil, inj_ints, inj_strs, inj_psts, inj_gaps, inj_pays, inj_tars, inj_snds, inj_uses, inj_rsts, inj_lnks] at h
  first | exact h | omega | (simp [Prod.ext_iff, h]; done)
theorem s_mkey (r : Rst) : specOf A_mkey R_mkey H_mkey [rstV r] = some (keyV (rkey r)) := specOf_app j_mkey (i := r) trivial
def C_mkey : Prop := ∀ (r : Rst) , VC Try.prog 64 [rstV r] (keyV (rkey r))
def O_mkey : Prop := EntOK Try.prog e_mkey.1 e_mkey.2
theorem k_mkey (c : C_mkey) : O_mkey := specOf_ok fun r h => c r
theorem c_mkey : C_mkey := by
  intro r
  refine vc_ofU mixed (l := []) (eok_nil) [] []  Try.func64 rfl (by decide +kernel) (N := 10) rfl (by simp) rfl (by kernel_rfl) fun hs => ?_
  simp only [smallL, PV.small, List.length_map, and_true, true_and] at hs
  unfold rkey
  simp +contextual (maxSteps := 4000000) only [↓ur_seq, ↓ur_ret, ↓ur_region, ↓cont_seq, ↓done_nil, ↓ops_consN, nY_alloc, nY_box, nY_build, nY_load, nY_store, nY_fieldAddr, ↓ops_nil, opsIf_some, opsIf_none, Option.map_some, Option.bind_some, Option.getD_some, Nat.reduceLT, Bool.false_eq_true, ↓upd_same, ↓upd_ne, Nat.reduceBEq, and_true, List.getD_cons_zero, List.getElem?_cons_zero, List.getElem?_cons_succ, endQ, cfg_P, cfg_muts, cfg_frz, cfg_num, numOf_eq, List.contains_nil, Option.some.injEq, exists_eq_left', Bool.and_self, List.cons_append, List.nil_append, List.append_nil, updO_same, List.length_cons, List.length_nil, Nat.zero_add, Nat.add_zero, List.drop_zero, List.take_zero, Nat.reduceAdd, List.set_cons_zero, Nat.reduceMul, Nat.reduceLeDiff, nth_zero, Nat.lt_succ_self, st0, Nat.le_refl, cells_int, isCell_int, cells_agg, DRx_int, DRx_agg, DRxL_cons, DRxL_nil, ↓ev_tmp, ↓iop_alloc, ↓iop_box, ↓iop_build, ↓iop_load, ↓iop_store, ↓iop_fieldAddr, pickP_f, pickP_t, loadP_vptr, loadP_ptr, setCells_agg, storeP_ptr, fieldP_vptr, fill_nil, fill_cons, fill1_some, buildP_eq, bldA_some, splice_eq, env0_eq, ires_eq, iresL_1, iresAll_nil, iresAll_cons, iresOne_cell, Store.new, Store.set, ↓reduceIte, arr_eq, arrB_some, boxP_eq, List.take_succ_cons, List.drop_succ_cons, List.drop_nil, List.take_nil, ↓evp_cons, ↓evp_nil, List.all_cons, List.all_nil, see_eq, nth_psts, pur_psts, nth_gaps, pur_gaps, nth_pays, pur_pays, nth_tars, pur_tars, nth_snds, pur_snds, nth_uses, pur_uses, nth_rsts, pur_rsts, nth_keys, pur_keys, nth_lnks, pur_lnks, Try.f64, ty3, ty87, ty125]
theorem o_mkey : O_mkey := k_mkey c_mkey
end Sim
