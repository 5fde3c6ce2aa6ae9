/- What functions of this seat compute, by values: contracts (lemmas of the statement's proof, under the conditions that each names). -/
import Derived.Test.YtpaaaaijebdphaaQZ
import Derived.Test.YtpaaaaijebdphaaQO3
namespace Sim
open Go Go.Proofs
set_option maxRecDepth 10000
set_option maxHeartbeats 2000000
set_option linter.unusedVariables false
set_option linter.unusedSimpArgs false
attribute [local congr] opsIf_congr condC_congr guardC_congr grd_congr pick3_congr obind_congr omap_congr nilC_congr
theorem sett_four {b : List Int} {l : List Pay} (h : openE b = 4) : settM b l = false := by
  cases c : settM b l with
  | false => rfl
  | true =>
    have := sett_sum c
    unfold openE at h
    rw [if_neg (show ¬ ¬ sumK b b.length = 0 from fun g => g this)] at h
    split at h
    · omega
    · split at h
      · omega
      · split at h <;> omega
theorem nz_step {b : List Int} {k : Nat} : ((nzK b (k + 1)).length : Int) = ((nzK b k).length : Int) + if b.getD k 0 = 0 then 0 else 1 := by
  simp only [nzK]
  split
  · omega
  · rw [List.length_append]; simp
noncomputable def A_law6 : (List Int) × (List Pay) → List PV := fun (b, l) => [ints b, pays l]
noncomputable def R_law6 : (List Int) × (List Pay) → PV := fun (b, l) => B true
def H_law6 : (List Int) × (List Pay) → Prop := fun (b, l) => True
noncomputable def e_law6 : Nat × Ent := (6, .v (specOf A_law6 R_law6 H_law6))
theorem j_law6 : ∀ i j, A_law6 i = A_law6 j → i = j := by
  rintro ⟨b₁, l₁⟩ ⟨b₂, l₂⟩ h
  simp only [A_law6, List.cons.injEq, and_true, PV.lits.injEq, PV.int.injEq, PV.bool.injEq, PV.str.injEq, PV.agg.injEq, PV.func.injEq, Fn.func.injEq, PV.vptr.injEq, true_and, List.map_nil, inj_ints, inj_strs, inj_psts, inj_gaps, inj_pays] at h
  simp [Prod.ext_iff, h] <;> omega
theorem s_law6 (b : List Int) (l : List Pay) : specOf A_law6 R_law6 H_law6 [ints b, pays l] = some (B true) := specOf_app j_law6 (i := (b, l)) trivial
def C_law6 : Prop := ∀ (b : List Int) (l : List Pay) , VC Try.prog 6 [ints b, pays l] (B true)
def O_law6 : Prop := EntOK Try.prog e_law6.1 e_law6.2
theorem k_law6 (c : C_law6) : O_law6 := specOf_ok fun ⟨b, l⟩ h => c b l
theorem c_law6 : C_law6 := by
  intro b l
  refine vc_ofU mixed (l := [e_sanity, e_least, e_pay, e_settles]) ((eok_cons o_sanity (eok_cons o_least (eok_cons o_pay (eok_cons o_settles eok_nil))))) [] []  Try.func6 rfl (by decide +kernel) (N := 100) rfl (by simp) rfl (by kernel_rfl) fun hs => ?_
  simp only [smallL, PV.small, List.length_map, and_true, true_and] at hs
  by_cases c1 : 40 < b.length
  · have c1i : (40 : Int) < (b.length : Int) := by omega
    simp +contextual (maxSteps := 4000000) only [↓ur_seq, ↓ur_ret, ↓ur_region, ↓ur_cond, ↓cont_seq, ↓done_nil, ↓done_seq, ↓ops_consN, ↓ops_guardN, nY_move, nY_assign, nY_pick, nY_binOp, nilO_int, nY_callf, nY_callb, ↓ops_nil, opsIf_some, condC_true, guardC_tf, Option.map_some, Option.bind_some, Option.getD_some, Nat.reduceLT, Bool.false_eq_true, ↓upd_same, ↓upd_ne, Nat.reduceBEq, and_true, List.getD_cons_zero, List.getElem?_toArray, List.getElem?_cons_zero, List.getElem?_cons_succ, endQ, cfg_P, cfg_tab, cfg_muts, cfg_frz, List.length_map, List.contains_nil, decide_true, Option.some.injEq, exists_eq_left', tabOf_cons, tab_v, List.append_nil, Nat.reduceAdd, Nat.lt_succ_self, Bool.not_false, st0, DRx_bool, ↓ev_tmp, ↓ev_int, ↓ev_bool, ↓ev_func, ↓guardP_eq, grd_some, ↓iop_move, ↓iop_assign, ↓pick3_bool, ↓iop_pick, ↓iop_binOp, ↓iop_callv, ↓iop_callb, nrmAll_nil, bi_len, lenM_none, lenP_lits, b_gtr, env0_eq, ires_eq, iresL_1, iresAll_nil, iresAll_cons, iresOne_tmp, valT_eq, pursL_nil, ↓reduceIte, callP_eq, tsOf_eq, ↓evs_cons, ↓evs_nil, and_false, Bool.true_eq_false, e_sanity, s_sanity, e_least, e_pay, e_settles, nth_psts, pur_psts, nth_gaps, pur_gaps, nth_pays, pur_pays, Try.f6, ty34, c1, c1i]
  have c1i : ¬ (40 : Int) < (b.length : Int) := by omega
  by_cases c2 : 200 < l.length
  · have c2i : (200 : Int) < (l.length : Int) := by omega
    simp +contextual (maxSteps := 4000000) only [↓ur_seq, ↓ur_ret, ↓ur_region, ↓ur_cond, ↓cont_seq, ↓done_nil, ↓done_seq, ↓ops_consN, ↓ops_guardN, nY_move, nY_assign, nY_pick, nY_binOp, nilO_int, nY_callf, nY_callb, ↓ops_nil, opsIf_some, condC_true, guardC_ff, Option.map_some, Option.bind_some, Option.getD_some, Nat.reduceLT, Bool.false_eq_true, ↓upd_same, ↓upd_ne, Nat.reduceBEq, and_true, List.getD_cons_zero, List.getD_cons_succ, List.getElem?_toArray, List.getElem?_cons_zero, List.getElem?_cons_succ, endQ, cfg_P, cfg_tab, cfg_muts, cfg_frz, List.length_map, List.contains_nil, decide_true, decide_false, Option.some.injEq, exists_eq_left', tabOf_cons, tab_v, List.append_nil, Nat.reduceAdd, Nat.lt_succ_self, Bool.not_false, st0, DRx_bool, ↓ev_tmp, ↓ev_int, ↓ev_bool, ↓ev_func, ↓guardP_eq, grd_some, ↓iop_move, ↓iop_assign, ↓pick3_bool, ↓iop_pick, ↓iop_binOp, ↓iop_callv, ↓iop_callb, nrmAll_nil, bi_len, lenM_none, lenP_lits, b_gtr, env0_eq, ires_eq, iresL_1, iresAll_nil, iresAll_cons, iresOne_tmp, valT_eq, pursL_nil, ↓reduceIte, callP_eq, tsOf_eq, ↓evs_cons, ↓evs_nil, and_false, Bool.true_eq_false, e_sanity, s_sanity, e_least, e_pay, e_settles, nth_psts, pur_psts, nth_gaps, pur_gaps, nth_pays, pur_pays, Try.f6, ty34, ty35, c1, c1i, c2, c2i]
  have c2i : ¬ (200 : Int) < (l.length : Int) := by omega
  have hbl : b.length ≤ 100000 := by omega
  by_cases he : openE b = 0
  case neg =>
    have e1 : payM b = [] := by unfold payM; rw [if_neg he]
    by_cases h4 : openE b = 4
    · have hs := sett_four (l := l) h4
      simp +contextual (maxSteps := 4000000) only [↓ur_skip, ↓ur_seq, ↓ur_ret, ↓ur_region, ↓ur_cond, ↓cont_seq, ↓done_nil, ↓done_seq, ↓ops_consN, ↓ops_guardN, nY_move, nY_assign, nY_pick, nY_binOp, nilO_tmp, nilO_int, nY_unOp, nY_extract, nY_callf, nY_callb, ↓ops_nil, opsIf_some, condC_true, condC_false, guardC_tt, guardC_ff, Option.map_some, Option.bind_some, Option.getD_some, Nat.reduceLT, Bool.false_eq_true, ↓upd_same, ↓upd_ne, Nat.reduceBEq, and_true, List.getD_cons_zero, List.getD_cons_succ, List.getElem?_toArray, List.getElem?_cons_zero, List.getElem?_cons_succ, endQ, cfg_P, cfg_tab, cfg_muts, cfg_frz, List.map_nil, List.length_map, List.contains_nil, decide_true, decide_false, Option.some.injEq, exists_eq_left', tabOf_cons, tab_v, pur_ints, Bool.and_self, Nat.reduceEqDiff, List.nil_append, List.append_nil, List.length_nil, Nat.reduceAdd, Nat.lt_succ_self, Bool.not_false, not_true_eq_false, not_false_eq_true, Int.reduceEq, st0, pur_lits, DRx_bool, ↓ev_tmp, ↓ev_int, ↓ev_bool, ↓ev_func, ↓guardP_eq, grd_some, ↓iop_move, ↓iop_assign, ↓pick3_bool, ↓iop_pick, ↓iop_binOp, ↓iop_unOp, ↓iop_extract, extr_tuple, ↓iop_callv, ↓iop_callb, nrmAll_cons, nrmAll_nil, bi_len, lenM_none, nrm_lits, lenP_lits, b_eql, b_neq, b_gtr, u_not, env0_eq, ires_eq, iresL_1, iresAll_nil, iresAll_cons, iresOne_tmp, valT_eq, pursL_cons, pursL_nil, ↓reduceIte, callP_eq, tsOf_eq, ↓evs_cons, ↓evs_nil, and_false, Bool.true_eq_false, Int.cast_ofNat_Int, e_sanity, s_sanity, e_least, s_least, e_pay, s_pay, e_settles, s_settles, nth_psts, pur_psts, nth_gaps, pur_gaps, nth_pays, pur_pays, Try.f6, ty34, ty35, c1, c1i, c2, c2i, h4, hs, e1, hbl]
    · obtain ⟨E, hE⟩ : ∃ E, openE b = E := ⟨_, rfl⟩
      rw [hE] at he h4
      simp +contextual (maxSteps := 4000000) only [↓ur_skip, ↓ur_seq, ↓ur_ret, ↓ur_region, ↓ur_cond, ↓cont_seq, ↓done_nil, ↓done_seq, ↓ops_consN, ↓ops_guardN, nY_move, nY_assign, nY_pick, nY_binOp, nilO_tmp, nilO_int, nY_unOp, nY_extract, nY_callf, nY_callb, ↓ops_nil, opsIf_some, condC_true, condC_false, guardC_tt, guardC_tf, guardC_ff, Option.map_some, Option.bind_some, Option.getD_some, Nat.reduceLT, Bool.false_eq_true, ↓upd_same, ↓upd_ne, Nat.reduceBEq, and_true, List.getD_cons_zero, List.getD_cons_succ, List.getElem?_toArray, List.getElem?_cons_zero, List.getElem?_cons_succ, endQ, cfg_P, cfg_tab, cfg_muts, cfg_frz, List.map_nil, List.length_map, List.contains_nil, decide_true, decide_false, Option.some.injEq, exists_eq_left', tabOf_cons, tab_v, pur_ints, Bool.and_self, Nat.reduceEqDiff, List.nil_append, List.append_nil, List.length_nil, Nat.reduceAdd, Nat.lt_succ_self, Bool.not_false, not_true_eq_false, not_false_eq_true, st0, pur_lits, DRx_bool, ↓ev_tmp, ↓ev_int, ↓ev_bool, ↓ev_func, ↓guardP_eq, grd_some, ↓iop_move, ↓iop_assign, ↓pick3_bool, ↓iop_pick, ↓iop_binOp, ↓iop_extract, extr_tuple, ↓iop_callv, ↓iop_callb, nrmAll_cons, nrmAll_nil, bi_len, lenM_none, nrm_lits, lenP_lits, b_eql, b_neq, b_gtr, env0_eq, ires_eq, iresL_1, iresAll_nil, iresAll_cons, iresOne_tmp, valT_eq, pursL_cons, pursL_nil, ↓reduceIte, callP_eq, tsOf_eq, ↓evs_cons, ↓evs_nil, and_false, Bool.true_eq_false, Int.cast_ofNat_Int, e_sanity, s_sanity, e_least, s_least, e_pay, s_pay, e_settles, nth_psts, pur_psts, nth_gaps, pur_gaps, nth_pays, pur_pays, Try.f6, ty34, ty35, c1, c1i, c2, c2i, hE, he, h4, e1, hbl]
  obtain ⟨p1, p2⟩ := pay_ok he
  obtain ⟨q1, q2, q3⟩ := least_law he
  have q3 := q3 l
  obtain ⟨r1, r2, r3, r4⟩ := open_ok he
  rw [(open_zero he).1] at q1 q2
  have hn0 : ((nzK b 0).length : Int) = 0 := rfl
  have hns := fun k => nz_step (b := b) (k := k)
  have hnl := fun k => nzK_len (b := b) k
  simp +contextual (maxSteps := 4000000) only [↓ur_skip, ↓ur_seq, ↓ur_block, ↓ur_region, ↓ur_cond, ↓cont_seq, ↓ops_consN, ↓ops_guardN, nY_move, nY_assign, nY_pick, nY_binOp, nilO_tmp, nilO_int, nY_extract, nY_callf, nY_callb, ↓ops_nil, opsIf_some, condC_false, guardC_ff, Option.map_some, Option.bind_some, Option.getD_some, Nat.reduceLT, Bool.false_eq_true, ↓upd_same, ↓upd_ne, Nat.reduceBEq, true_and, List.getD_cons_zero, List.getD_cons_succ, List.getElem?_toArray, List.getElem?_cons_zero, List.getElem?_cons_succ, cfg_P, cfg_tab, cfg_muts, cfg_frz, List.length_map, List.contains_nil, decide_false, tabOf_cons, tab_v, pur_ints, Bool.and_self, Nat.reduceEqDiff, List.nil_append, List.append_nil, Nat.reduceAdd, Nat.lt_succ_self, Bool.not_false, not_true_eq_false, st0, pur_lits, ↓ev_tmp, ↓ev_int, ↓ev_bool, ↓ev_func, ↓guardP_eq, grd_some, ↓iop_move, ↓iop_assign, ↓pick3_bool, ↓iop_pick, ↓iop_binOp, ↓iop_extract, extr_tuple, ↓iop_callv, ↓iop_callb, nrmAll_cons, nrmAll_nil, bi_len, lenM_none, nrm_lits, lenP_lits, b_neq, b_gtr, env0_eq, valT_eq, pursL_cons, pursL_nil, ↓reduceIte, callP_eq, tsOf_eq, ↓evs_cons, ↓evs_nil, and_false, Bool.true_eq_false, e_sanity, e_least, s_least, e_pay, s_pay, e_settles, nth_psts, pur_psts, nth_gaps, pur_gaps, nth_pays, pur_pays, Try.f6, ty34, ty35, c1, c1i, c2, c2i, he, hbl]
  refine loop_cnt [9, 11, 54, 55, 56, 57, 58, 59, 60, 61, 62] b.length (fun k ρ st' => ρ 54 = I k ∧ ρ 9 = I ((nzK b k).length)) (.refl _) ?_ ?_
  · simp +contextual (maxSteps := 4000000) only [↓upd_same, ↓upd_ne, Nat.reduceBEq, and_true, Int.cast_ofNat_Int, nth_psts, pur_psts, nth_gaps, pur_gaps, nth_pays, pur_pays, Try.f6, hn0]
  rintro k ρ st' hk ⟨h54, h9⟩
  by_cases hlt : k < b.length
  · have hwk := wrapN' (k := k) (by omega)
    have h1 := hns k
    have h2 := hnl k
    by_cases z : b.getD k 0 = 0
    · rw [if_pos z] at h1
      simp +contextual (maxSteps := 4000000) only [↓ur_skip, ↓ur_seq, ↓ur_block, ↓ur_region, ↓ur_cond, ↓cont_seq, ↓cont_blk, ↓cont_lp, ↓ops_consN, nY_move, nY_assign, nY_load, nY_binOp, nilO_tmp, nilO_int, nY_indexAddr, ↓ops_nil, opsIf_some, condC_true, condC_false, Option.map_some, Option.bind_some, Option.getD_some, Nat.reduceLT, Bool.false_eq_true, ↓upd_same, ↓upd_ne, Nat.reduceBEq, true_and, and_true, List.getElem?_cons_zero, cfg_P, cfg_frz, List.length_map, ↓havoc_in, ↓havoc_out, agree_upd, agree_havoc, List.contains_cons, List.contains_nil, Bool.or_false, Bool.or_true, Int.natCast_nonneg, Int.ofNat_lt, Int.toNat_natCast, nth_int, decide_true, decide_false, PV.int.injEq, Nat.lt_succ_self, Bool.not_false, not_true_eq_false, cells_int, ↓ev_tmp, ↓ev_int, ↓iop_move, ↓iop_assign, ↓iop_load, ↓iop_binOp, ↓iop_indexAddr, idxA_int, pickP_f, loadP_vptr, indexP_lits, b_add, b_neq, b_lss, ↓reduceIte, Int.natCast_inj, beq_self_eq_true, see_eq, nth_psts, pur_psts, nth_gaps, pur_gaps, nth_pays, pur_pays, Try.f6, ty3, ty34, h54, h9, hlt, hwk, z]
      omega
    · rw [if_neg z] at h1
      have hw2 : IntKind.i64.wrap (((nzK b k).length : Int) + 1) = ((nzK b (k + 1)).length : Int) := by rw [wrap64 (by omega) (by omega)]; omega
      simp +contextual (maxSteps := 4000000) only [↓ur_skip, ↓ur_seq, ↓ur_block, ↓ur_region, ↓ur_cond, ↓cont_seq, ↓cont_blk, ↓cont_lp, ↓ops_consN, nY_move, nY_assign, nY_load, nY_binOp, nilO_tmp, nilO_int, nY_indexAddr, ↓ops_nil, opsIf_some, condC_true, Option.map_some, Option.bind_some, Option.getD_some, Nat.reduceLT, Bool.false_eq_true, ↓upd_same, ↓upd_ne, Nat.reduceBEq, and_true, List.getElem?_cons_zero, cfg_P, cfg_frz, List.length_map, ↓havoc_in, ↓havoc_out, agree_upd, agree_havoc, List.contains_cons, List.contains_nil, Bool.or_false, Bool.or_true, Int.natCast_nonneg, Int.ofNat_lt, Int.toNat_natCast, nth_int, decide_true, Nat.lt_succ_self, Bool.not_false, not_false_eq_true, cells_int, ↓ev_tmp, ↓ev_int, ↓iop_move, ↓iop_assign, ↓iop_load, ↓iop_binOp, ↓iop_indexAddr, idxA_int, pickP_f, loadP_vptr, indexP_lits, b_add, b_neq, b_lss, ↓reduceIte, beq_self_eq_true, see_eq, nth_psts, pur_psts, nth_gaps, pur_gaps, nth_pays, pur_pays, Try.f6, ty3, ty34, h54, h9, hlt, hwk, z, hw2]
  · have e : k = b.length := by omega
    subst e
    have w1 : IntKind.i64.wrap (((nzK b b.length).length : Int) - 1) = ((nzK b b.length).length : Int) - 1 := wrap64 (by omega) (by omega)
    have w2 : IntKind.i64.wrap (2 * leastN b) = 2 * leastN b := wrap64 (by omega) (by omega)
    have hmx : leastN b ≤ (if 0 < ((nzK b b.length).length : Int) - 1 then ((nzK b b.length).length : Int) - 1 else 0) := by split <;> omega
    generalize ((nzK b b.length).length : Int) = n at *
    have q1' : leastN b ≤ max 0 (n - 1) := q1
    by_cases hs : settM b l = true
    · have q3 := q3 hs
      simp +contextual (maxSteps := 4000000) only [↓ur_seq, ↓ur_exit, ↓ur_ret, ↓ur_region, ↓ur_cond, ↓cont_seq, ↓leave_seq, ↓leave_blk, ↓leave_lp, ↓done_nil, ↓ops_consN, ↓ops_guardN, nY_move, nY_assign, nY_pick, nY_binOp, nilO_tmp, nilO_int, nY_unOp, nY_callf, nY_callb, ↓ops_nil, opsIf_some, condC_false, guardC_tt, guardC_ff, Option.map_some, Option.bind_some, Option.getD_some, Nat.reduceLT, Bool.false_eq_true, ↓upd_same, ↓upd_ne, Nat.reduceBEq, and_true, List.getD_cons_zero, List.getD_cons_succ, List.getElem?_toArray, List.getElem?_cons_zero, List.getElem?_cons_succ, endQ, cfg_P, cfg_tab, cfg_muts, cfg_frz, List.length_map, ↓havoc_in, ↓havoc_out, List.contains_cons, List.contains_nil, Bool.or_false, Bool.or_true, Int.ofNat_lt, decide_true, decide_false, Option.some.injEq, exists_eq_left', tabOf_cons, tab_v, pur_ints, Bool.and_self, Nat.reduceEqDiff, List.nil_append, List.append_nil, Nat.reduceAdd, Nat.lt_irrefl, Nat.lt_succ_self, Bool.not_true, Bool.not_false, pur_lits, DRx_bool, ↓ev_tmp, ↓ev_int, ↓ev_func, ↓guardP_eq, grd_some, ↓iop_move, ↓iop_assign, ↓pick3_bool, ↓iop_pick, ↓iop_binOp, ↓iop_unOp, ↓iop_callv, ↓iop_callb, nrmAll_cons, nrmAll_nil, bi_len, lenM_none, bi_max, nrm_lits, lenP_lits, b_sub, b_mul, b_eql, b_lss, b_leq, b_geq, u_not, env0_eq, ires_eq, iresL_1, iresAll_nil, iresAll_cons, iresOne_tmp, valT_eq, pursL_cons, pursL_nil, ↓reduceIte, callP_eq, tsOf_eq, ↓evs_cons, ↓evs_nil, beq_self_eq_true, and_false, Bool.true_eq_false, s_sanity, s_settles, nth_psts, pur_psts, nth_gaps, pur_gaps, nth_pays, pur_pays, Try.f6, ty34, ty35, h54, h9, he, p1, p2, w1, w2, hmx, q1, q2, q3, hs, hbl]
    · have hs : settM b l = false := by simpa using hs
      simp +contextual (maxSteps := 4000000) only [↓ur_seq, ↓ur_exit, ↓ur_ret, ↓ur_region, ↓ur_cond, ↓cont_seq, ↓leave_seq, ↓leave_blk, ↓leave_lp, ↓done_nil, ↓ops_consN, ↓ops_guardN, nY_move, nY_assign, nY_pick, nY_binOp, nilO_tmp, nilO_int, nY_unOp, nY_callf, nY_callb, ↓ops_nil, opsIf_some, condC_false, guardC_tt, guardC_tf, Option.map_some, Option.bind_some, Option.getD_some, Nat.reduceLT, Bool.false_eq_true, ↓upd_same, ↓upd_ne, Nat.reduceBEq, and_true, List.getD_cons_zero, List.getD_cons_succ, List.getElem?_toArray, List.getElem?_cons_zero, List.getElem?_cons_succ, endQ, cfg_P, cfg_tab, cfg_muts, cfg_frz, List.length_map, ↓havoc_in, ↓havoc_out, List.contains_cons, List.contains_nil, Bool.or_false, Bool.or_true, Int.ofNat_lt, decide_true, decide_false, Option.some.injEq, exists_eq_left', tabOf_cons, tab_v, pur_ints, Bool.and_self, Nat.reduceEqDiff, List.nil_append, List.append_nil, Nat.reduceAdd, Nat.lt_irrefl, Nat.lt_succ_self, Bool.not_false, pur_lits, DRx_bool, ↓ev_tmp, ↓ev_int, ↓ev_bool, ↓ev_func, ↓guardP_eq, grd_some, ↓iop_move, ↓iop_assign, ↓pick3_bool, ↓iop_pick, ↓iop_binOp, ↓iop_unOp, ↓iop_callv, ↓iop_callb, nrmAll_cons, nrmAll_nil, bi_len, lenM_none, bi_max, nrm_lits, lenP_lits, b_sub, b_mul, b_eql, b_lss, b_leq, b_geq, u_not, env0_eq, ires_eq, iresL_1, iresAll_nil, iresAll_cons, iresOne_tmp, valT_eq, pursL_cons, pursL_nil, ↓reduceIte, callP_eq, tsOf_eq, ↓evs_cons, ↓evs_nil, beq_self_eq_true, and_false, Bool.true_eq_false, s_sanity, s_settles, nth_psts, pur_psts, nth_gaps, pur_gaps, nth_pays, pur_pays, Try.f6, ty34, ty35, h54, h9, he, p1, p2, w1, w2, hmx, q1, q2, hs, hbl]
theorem o_law6 : O_law6 := k_law6 c_law6
end Sim
