/- What functions of this seat compute, by values: contracts (lemmas of the statement's proof, under the conditions that each names). -/
import Derived.Test.YtpdaiflnibekaaaQX
import Derived.Test.YtpdaiflnibekaaaQY4
namespace Sim
open Go Go.Proofs
set_option maxRecDepth 10000
set_option maxHeartbeats 2000000
set_option linter.unusedVariables false
set_option linter.unusedSimpArgs false
attribute [local congr] opsIf_congr condC_congr guardC_congr grd_congr pick3_congr obind_congr omap_congr
noncomputable def A_law12 : (Int) × (List Rep) × (Int) → List PV := fun (st, rs, s) => [.agg [I st, reps rs], I s]
noncomputable def R_law12 : (Int) × (List Rep) × (Int) → PV := fun (st, rs, s) => B true
def H_law12 : (Int) × (List Rep) × (Int) → Prop := fun (st, rs, s) => True
noncomputable def e_law12 : Nat × Ent := (8, .v (specOf A_law12 R_law12 H_law12))
theorem j_law12 : ∀ i j, A_law12 i = A_law12 j → i = j := by
  rintro ⟨st₁, rs₁, s₁⟩ ⟨st₂, rs₂, s₂⟩ h
  simp only [A_law12, List.cons.injEq, and_true, PV.lits.injEq, PV.int.injEq, PV.bool.injEq, PV.str.injEq, PV.agg.injEq, PV.func.injEq, PV.vptr.injEq, true_and, List.map_nil, inj_ints, inj_strs, inj_reps] at h
  simp [Prod.ext_iff, h] <;> omega
theorem s_law12 (st : Int) (rs : List Rep) (s : Int) : specOf A_law12 R_law12 H_law12 [.agg [I st, reps rs], I s] = some (B true) := specOf_app j_law12 (i := (st, rs, s)) trivial
def C_law12 : Prop := ∀ (st : Int) (rs : List Rep) (s : Int) , VC Try.prog 8 [.agg [I st, reps rs], I s] (B true)
def O_law12 : Prop := EntOK Try.prog e_law12.1 e_law12.2
theorem k_law12 (c : C_law12) : O_law12 := specOf_ok fun ⟨st, rs, s⟩ h => c st rs s
theorem c_law12 : C_law12 := by
  intro st rs s
  refine vc_ofU mixed (l := [e_sanity, e_rcheck, e_Best, e_Give, e_With, e_chance]) ((eok_cons o_sanity (eok_cons o_rcheck (eok_cons o_Best (eok_cons o_Give (eok_cons o_With (eok_cons o_chance eok_nil))))))) [] []  Try.func8 rfl (by decide +kernel) (N := 96) rfl (by simp) rfl (by kernel_rfl) fun hs => ?_
  simp only [smallL, PV.small, List.length_map, and_true, true_and] at hs
  by_cases h0 : checkM st rs = 0
  case neg =>
    generalize hr : checkM st rs = r at *
    simp +contextual (maxSteps := 4000000) only [↓ur_seq, ↓ur_ret, ↓ur_region, ↓ur_cond, ↓cont_seq, ↓done_nil, ↓done_seq, ↓ops_consN, nY_assign, nY_box, nY_load, nY_binOp, nY_callf, ↓ops_nil, opsIf_some, condC_true, Option.map_some, Option.bind_some, Option.getD_some, Nat.reduceLT, Bool.false_eq_true, ↓upd_same, ↓upd_ne, Nat.reduceBEq, and_true, List.getD_cons_zero, endQ, cfg_P, cfg_tab, cfg_muts, cfg_frz, List.contains_nil, decide_true, Option.some.injEq, exists_eq_left', List.lookup_cons, List.lookup_nil, tabOf_cons, tab_v, Bool.and_self, Nat.reduceEqDiff, List.nil_append, List.append_nil, List.length_cons, List.length_nil, Nat.zero_add, List.drop_zero, Nat.reduceAdd, not_false_eq_true, st0, Nat.le_refl, pur_int, pur_lits, cells_agg, pur_agg, DRx_bool, ↓ev_tmp, ↓ev_int, ↓ev_bool, ↓ev_func, ↓iop_assign, ↓iop_box, ↓iop_load, ↓iop_binOp, ↓iop_callv, nrmAll_cons, nrmAll_nil, nrm_agg, nrmL_cons, nrmL_nil, nrm1_int, nrm1_lits, pickP_t, loadP_vptr, b_neq, env0_eq, ires_eq, iresL_1, iresAll_nil, iresAll_cons, iresOne_tmp, valT_eq, pursL_cons, pursL_nil, ↓reduceIte, callP_eq, boxP_eq, List.take_succ_cons, List.take_nil, ↓evs_cons, ↓evs_nil, beq_self_eq_true, see_eq, and_false, Bool.true_eq_false, e_sanity, s_sanity, e_rcheck, s_rcheck, e_Best, e_Give, e_With, e_chance, nth_reps, pur_reps, Try.f8, ty24, h0, hr]
  have hc := check_zero.1 h0
  have h10 := hc.len
  obtain ⟨u1, u2, u3⟩ := give_ok hc
  have hgm : giveM st rs = (((giveT st rs (2 ^ rs.length)).1 : Int), 0) := by simp [giveM, h0]
  generalize hg : (giveT st rs (2 ^ rs.length)).1 = g at *
  have hp := pow1024 (k := rs.length) h10
  have hsh := shl1 (k := rs.length) (by omega)
  have h64 : rs.length ≤ 64 := by omega
  have hg1 : ¬ ((g : Nat) : Int) < 0 := by omega
  have hg2 : ¬ ((2 ^ rs.length : Nat) : Int) ≤ (g : Int) := by
    generalize 2 ^ rs.length = q at *
    omega
  have hg3 : g < 9223372036854775808 := by omega
  obtain ⟨w1, w2⟩ := goes_best.1 u2
  have hch := hc.ch
  by_cases hw : (withM st rs s).2 = 0
  case neg =>
    simp +contextual (maxSteps := 4000000) only [↓ur_skip, ↓ur_seq, ↓ur_ret, ↓ur_region, ↓ur_cond, ↓cont_seq, ↓done_nil, ↓done_seq, ↓ops_consN, ↓ops_guardN, nY_move, nY_assign, nY_pick, nY_alloc, nY_box, nY_load, nY_store, nY_binOp, nY_fieldAddr, nY_extract, nY_callf, nY_callb, ↓ops_nil, opsIf_some, opsIf_none, opsIf_if', map_if, condC_true, condC_false, guardC_ff, Option.map_some, Option.map_none, Option.bind_some, Option.getD_some, Nat.reduceLT, Bool.false_eq_true, ↓upd_same, ↓upd_ne, Nat.reduceBEq, true_and, and_true, List.getD_cons_zero, List.getD_cons_succ, List.getElem?_toArray, List.getElem?_cons_zero, List.getElem?_cons_succ, endQ, cfg_P, cfg_tab, cfg_muts, cfg_frz, cfg_num, numOf_eq, List.length_map, List.contains_nil, Int.toNat_natCast, decide_true, decide_false, Option.some.injEq, exists_eq_left', List.lookup_cons, List.lookup_nil, tabOf_cons, tab_v, Bool.and_self, Nat.reduceEqDiff, List.nil_append, List.append_nil, updO_same, List.length_cons, List.length_nil, Nat.zero_add, List.drop_zero, List.take_zero, Nat.reduceAdd, List.set_cons_zero, nth_zero, Nat.lt_succ_self, not_true_eq_false, not_false_eq_true, st0, Nat.le_refl, pur_int, pur_lits, cells_agg, pur_agg, DRx_bool, ↓ev_tmp, ↓ev_int, ↓ev_bool, ↓ev_func, ↓guardP_eq, grd_some, ↓iop_move, ↓iop_assign, ↓pick3_bool, ↓iop_pick, ↓iop_alloc, ↓iop_box, ↓iop_load, ↓iop_store, ↓iop_binOp, ↓iop_fieldAddr, ↓iop_extract, extr_tuple, ↓iop_callv, ↓iop_callb, nrmAll_cons, nrmAll_nil, bi_len, lenM_none, nrm_agg, nrmL_cons, nrmL_nil, nrm_int, nrm1_int, nrm1_lits, pickP_f, pickP_t, loadP_vptr, loadP_ptr, setCells_agg, storeP_ptr, fieldP_vptr, lenP_lits, b_neq, b_lss, b_geq, b_shl, splice_eq, env0_eq, ires_eq, iresL_1, iresAll_nil, iresAll_cons, iresOne_tmp, valT_eq, pursL_cons, pursL_nil, Store.new, Store.set, ↓reduceIte, arr_eq, arrB_some, callP_eq, boxP_eq, List.take_succ_cons, List.drop_succ_cons, List.drop_nil, List.take_nil, ↓evs_cons, ↓evs_nil, beq_self_eq_true, see_eq, and_false, Bool.true_eq_false, bits_i64, Nat.min_def, e_sanity, s_sanity, e_rcheck, s_rcheck, e_Best, s_Best, e_Give, s_Give, e_With, s_With, e_chance, nth_reps, pur_reps, Try.f8, ty3, ty22, ty24, h0, hgm, h64, hsh, hg1, hg2, w1, w2, hw]
    omega
  by_cases hb : (bestM (withM st rs s).1.1 (withM st rs s).1.2).2 = 0
  case neg =>
    simp +contextual (maxSteps := 4000000) only [↓ur_skip, ↓ur_seq, ↓ur_ret, ↓ur_region, ↓ur_cond, ↓cont_seq, ↓done_nil, ↓done_seq, ↓ops_consN, ↓ops_guardN, nY_move, nY_assign, nY_pick, nY_alloc, nY_box, nY_load, nY_store, nY_binOp, nY_fieldAddr, nY_extract, nY_callf, nY_callb, ↓ops_nil, opsIf_some, opsIf_none, opsIf_if', map_if, condC_true, condC_false, guardC_ff, Option.map_some, Option.map_none, Option.bind_some, Option.getD_some, Nat.reduceLT, Bool.false_eq_true, ↓upd_same, ↓upd_ne, Nat.reduceBEq, true_and, and_true, List.getD_cons_zero, List.getD_cons_succ, List.getElem?_toArray, List.getElem?_cons_zero, List.getElem?_cons_succ, endQ, cfg_P, cfg_tab, cfg_muts, cfg_frz, cfg_num, numOf_eq, List.length_map, List.contains_nil, Int.toNat_natCast, decide_true, decide_false, Option.some.injEq, exists_eq_left', List.lookup_cons, List.lookup_nil, tabOf_cons, tab_v, Bool.and_self, Nat.reduceEqDiff, List.nil_append, List.append_nil, updO_same, List.length_cons, List.length_nil, Nat.zero_add, List.drop_zero, List.take_zero, Nat.reduceAdd, List.set_cons_zero, nth_zero, Nat.lt_succ_self, not_true_eq_false, not_false_eq_true, st0, Nat.le_refl, pur_int, pur_lits, cells_agg, pur_agg, DRx_bool, ↓ev_tmp, ↓ev_int, ↓ev_bool, ↓ev_func, ↓guardP_eq, grd_some, ↓iop_move, ↓iop_assign, ↓pick3_bool, ↓iop_pick, ↓iop_alloc, ↓iop_box, ↓iop_load, ↓iop_store, ↓iop_binOp, ↓iop_fieldAddr, ↓iop_extract, extr_tuple, ↓iop_callv, ↓iop_callb, nrmAll_cons, nrmAll_nil, bi_len, lenM_none, nrm_agg, nrmL_cons, nrmL_nil, nrm_int, nrm1_int, nrm1_lits, pickP_f, pickP_t, loadP_vptr, loadP_ptr, setCells_agg, storeP_ptr, fieldP_vptr, lenP_lits, b_neq, b_lss, b_geq, b_shl, splice_eq, env0_eq, ires_eq, iresL_1, iresAll_nil, iresAll_cons, iresOne_tmp, valT_eq, pursL_cons, pursL_nil, Store.new, Store.set, ↓reduceIte, arr_eq, arrB_some, callP_eq, boxP_eq, List.take_succ_cons, List.drop_succ_cons, List.drop_nil, List.take_nil, ↓evs_cons, ↓evs_nil, beq_self_eq_true, see_eq, and_false, Bool.true_eq_false, bits_i64, Nat.min_def, e_sanity, s_sanity, e_rcheck, s_rcheck, e_Best, s_Best, e_Give, s_Give, e_With, s_With, e_chance, nth_reps, pur_reps, Try.f8, ty3, ty22, ty24, h0, hgm, h64, hsh, hg1, hg2, w1, w2, hw, hb]
    omega
  obtain ⟨t, ht⟩ : ∃ t : Nat, s = t ∧ t < 2 ^ rs.length := by
    unfold withM at hw
    rw [if_neg (fun hn => hn h0)] at hw
    split at hw
    · cases hw
    · rename_i hin
      have hin := Classical.not_not.1 hin
      have hp1 := one_le_pow rs.length
      refine ⟨s.toNat, by omega, ?_⟩
      generalize 2 ^ rs.length = q at *
      omega
  obtain ⟨rfl, ht⟩ := ht
  have hmin := u3 t ht (goes_best.2 ⟨hw, hb⟩)
  have ht3 : t < 9223372036854775808 := by omega
  simp +contextual (maxSteps := 4000000) only [↓ur_skip, ↓ur_seq, ↓ur_ret, ↓ur_region, ↓ur_cond, ↓cont_seq, ↓done_nil, ↓ops_consN, ↓ops_guardN, nY_move, nY_assign, nY_pick, nY_alloc, nY_box, nY_load, nY_store, nY_binOp, nY_fieldAddr, nY_extract, nY_callf, nY_callb, ↓ops_nil, opsIf_some, opsIf_none, opsIf_if', map_if, condC_false, guardC_u, guardC_tt, guardC_tf, guardC_ft, guardC_ff, Option.map_some, Option.map_none, Option.bind_some, Option.getD_some, Nat.reduceLT, Bool.false_eq_true, ↓upd_same, ↓upd_ne, Nat.reduceBEq, true_and, and_true, List.getD_cons_zero, List.getD_cons_succ, List.getElem?_toArray, List.getElem?_cons_zero, List.getElem?_cons_succ, endQ, decide_eq_true_eq, cfg_P, cfg_tab, cfg_muts, cfg_frz, cfg_num, numOf_eq, List.length_map, List.contains_nil, Int.toNat_natCast, decide_true, decide_false, Option.some.injEq, exists_eq_left', List.lookup_cons, List.lookup_nil, tabOf_cons, tab_v, Bool.and_self, Nat.reduceEqDiff, List.nil_append, List.append_nil, updO_same, List.length_cons, List.length_nil, Nat.zero_add, List.drop_zero, List.take_zero, Nat.reduceAdd, List.set_cons_zero, nth_zero, Nat.lt_succ_self, not_true_eq_false, st0, Nat.le_refl, pur_int, pur_lits, cells_agg, pur_agg, DRx_bool, ↓ev_tmp, ↓ev_int, ↓ev_bool, ↓ev_func, ↓guardP_eq, grd_some, ↓iop_move, ↓iop_assign, ↓pick3_bool, ↓iop_pick, ↓iop_alloc, ↓iop_box, ↓iop_load, ↓iop_store, ↓iop_binOp, ↓iop_fieldAddr, ↓iop_extract, extr_tuple, ↓iop_callv, ↓iop_callb, nrmAll_cons, nrmAll_nil, bi_len, lenM_none, nrm_agg, nrmL_cons, nrmL_nil, nrm_int, nrm1_int, nrm1_lits, pickP_f, pickP_t, loadP_vptr, loadP_ptr, setCells_agg, storeP_ptr, fieldP_vptr, lenP_lits, b_eql, b_neq, b_lss, b_leq, b_geq, b_shl, splice_eq, env0_eq, ires_eq, iresL_1, iresAll_nil, iresAll_cons, iresOne_tmp, valT_eq, pursL_cons, pursL_nil, Store.new, Store.set, ↓reduceIte, arr_eq, arrB_some, callP_eq, boxP_eq, List.take_succ_cons, List.drop_succ_cons, List.drop_nil, List.take_nil, guardC_td, guardC_fd, ↓evs_cons, ↓evs_nil, implies_true, beq_self_eq_true, see_eq, and_false, Bool.true_eq_false, bits_i64, Nat.min_def, e_sanity, s_sanity, e_rcheck, s_rcheck, e_Best, s_Best, e_Give, s_Give, e_With, s_With, e_chance, s_chance, nth_reps, pur_reps, Try.f8, ty3, ty22, ty24, h0, hgm, h64, hsh, hg1, hg2, hg3, w1, w2, hw, hb, hch, ht3]
  exact ⟨by omega, fun h1 => ⟨fun h2 _ => by omega, fun h2 => by omega⟩⟩
end Sim
