/- What functions of this seat compute, by values: contracts (lemmas of the statement's proof, under the conditions that each names). -/
import Derived.Test.YtpaaaaijebdphaaQR
namespace Sim
open Go Go.Proofs
set_option maxRecDepth 10000
set_option maxHeartbeats 2000000
set_option linter.unusedVariables false
set_option linter.unusedSimpArgs false
attribute [local congr] opsIf_congr condC_congr guardC_congr grd_congr pick3_congr obind_congr omap_congr nilC_congr opsV_congr
theorem list_eqP {a b : List Pst} (hl : a.length = b.length) (h : ∀ k, k < a.length → a.getD k dP = b.getD k dP) : a = b := by
  apply List.ext_getElem hl
  intro i h1 h2
  have := h i h1
  simpa [h1, h2] using this
theorem list_eqI {a b : List Int} (hl : a.length = b.length) (h : ∀ k, k < a.length → a.getD k 0 = b.getD k 0) : a = b := by
  apply List.ext_getElem hl
  intro i h1 h2
  have := h i h1
  simpa [h1, h2] using this
noncomputable def A_sameI : (List Int) × (List Int) → List PV := fun (a, b) => [ints a, ints b]
noncomputable def R_sameI : (List Int) × (List Int) → PV := fun (a, b) => B (decide (a = b))
def H_sameI : (List Int) × (List Int) → Prop := fun (a, b) => a.length ≤ 100000
noncomputable def e_sameI : Nat × Ent := (54, .v (specOf A_sameI R_sameI H_sameI))
theorem j_sameI : ∀ i j, A_sameI i = A_sameI j → i = j := by
  rintro ⟨a₁, b₁⟩ ⟨a₂, b₂⟩ h
  simp only [A_sameI, List.cons.injEq, and_true, PV.lits.injEq, PV.int.injEq, PV.bool.injEq, PV.str.injEq, PV.agg.injEq, PV.func.injEq, Fn.func.injEq, PV.vptr.injEq, true_and, List.map_nil, inj_ints, inj_strs, inj_psts, inj_gaps, inj_pays] at h
  simp [Prod.ext_iff, h] <;> omega
theorem s_sameI (a : List Int) (b : List Int) : specOf A_sameI R_sameI H_sameI [ints a, ints b] = @ite (Option (PV)) (a.length ≤ 100000) (Classical.propDecidable _) (some (B (decide (a = b)))) none := specOf_if j_sameI (a, b)
def C_sameI : Prop := ∀ (a : List Int) (b : List Int) (h : a.length ≤ 100000) , VC Try.prog 54 [ints a, ints b] (B (decide (a = b)))
def O_sameI : Prop := EntOK Try.prog e_sameI.1 e_sameI.2
theorem k_sameI (c : C_sameI) : O_sameI := specOf_ok fun ⟨a, b⟩ h => c a b h
theorem c_sameI : C_sameI := by
  intro a b hl
  refine vc_ofU mixed (l := []) (eok_nil) [] []  Try.func54 rfl (by decide +kernel) (N := 26) rfl (by simp) rfl (by kernel_rfl) fun hs => ?_
  simp only [smallL, PV.small, List.length_map, and_true, true_and] at hs
  obtain ⟨R, hR⟩ : ∃ R, decide (a = b) = R := ⟨_, rfl⟩
  rw [hR]
  by_cases hab : a.length = b.length
  case neg =>
    have e : R = false := by rw [← hR]; exact decide_eq_false fun h => hab (by rw [h])
    subst e
    have hi : ¬ (a.length : Int) = (b.length : Int) := by omega
    simp +contextual (maxSteps := 4000000) only [↓ur_seq, ↓ur_ret, ↓ur_region, ↓ur_cond, ↓cont_seq, ↓done_nil, ↓done_seq, ↓ops_consN, nY_move, nY_assign, nY_binOp, nilO_tmp, nY_callb, ↓ops_nil, opsIf_some, condC_true, Option.map_some, Option.bind_some, Option.getD_some, Nat.reduceLT, ↓upd_same, ↓upd_ne, Nat.reduceBEq, and_true, List.getD_cons_zero, List.getD_cons_succ, endQ, cfg_P, List.length_map, decide_true, Option.some.injEq, exists_eq_left', Nat.lt_succ_self, Bool.not_false, not_false_eq_true, st0, DRx_bool, ↓ev_tmp, ↓ev_bool, ↓iop_move, ↓iop_assign, ↓iop_binOp, ↓iop_callb, bi_len, lenM_none, lenP_lits, b_neq, env0_eq, ires_eq, iresL_1, iresAll_nil, iresAll_cons, iresOne_tmp, ↓reduceIte, ↓evs_cons, ↓evs_nil, nth_psts, pur_psts, nth_gaps, pur_gaps, nth_pays, pur_pays, Try.f54, ty34, hi, hab]
  simp +contextual (maxSteps := 4000000) only [↓ur_skip, ↓ur_seq, ↓ur_block, ↓ur_region, ↓ur_cond, ↓cont_seq, ↓ops_consN, nY_move, nY_assign, nY_binOp, nilO_tmp, nY_callb, ↓ops_nil, opsIf_some, condC_false, Option.map_some, Option.getD_some, Nat.reduceLT, ↓upd_same, ↓upd_ne, Nat.reduceBEq, true_and, List.getD_cons_zero, List.getD_cons_succ, cfg_P, List.length_map, decide_false, Nat.lt_succ_self, Bool.not_false, not_true_eq_false, st0, ↓ev_tmp, ↓ev_int, ↓ev_bool, ↓iop_move, ↓iop_assign, ↓iop_binOp, ↓iop_callb, bi_len, lenM_none, lenP_lits, b_neq, env0_eq, ↓reduceIte, ↓evs_cons, ↓evs_nil, nth_psts, pur_psts, nth_gaps, pur_gaps, nth_pays, pur_pays, Try.f54, ty34, hab]
  refine loop_cnt [4, 5, 11, 12, 13, 14, 15, 16, 17, 18, 19, 20, 21, 22, 23, 24, 25] a.length (fun k ρ st' => ρ 5 = I k ∧ ∀ j, j < k → a.getD j 0 = b.getD j 0) (.refl _) ?_ ?_
  · simp +contextual (maxSteps := 4000000) only [↓upd_same, true_and, Int.cast_ofNat_Int, nth_psts, pur_psts, nth_gaps, pur_gaps, nth_pays, pur_pays, Try.f54]
    intro j hj; omega
  rintro k ρ ⟨ob, M⟩ hk ⟨h5, hz⟩
  by_cases hlt : k < a.length
  · have hwk := wrapN' (k := k) (by omega)
    have hltb : k < b.length := by omega
    generalize hx : a.getD k 0 = x at *
    generalize hy : b.getD k 0 = y at *
    by_cases he : x = y
    · have hz2 : ∀ j, j < k + 1 → a.getD j 0 = b.getD j 0 := fun j hj => by
        by_cases e : j = k
        · subst e; rw [hx, hy, he]
        · exact hz j (by omega)
      simp +contextual (maxSteps := 4000000) only [↓ur_skip, ↓ur_seq, ↓ur_block, ↓ur_region, ↓ur_cond, ↓cont_seq, ↓cont_blk, ↓cont_lp, ↓ops_consN, nY_move, nY_assign, nY_load, nY_binOp, nilO_tmp, nilO_int, nY_indexAddr, nY_callb, ↓ops_nil, opsIf_some, condC_true, condC_false, Option.map_some, Option.bind_some, Option.getD_some, Nat.reduceLT, Bool.false_eq_true, ↓upd_same, ↓upd_ne, Nat.reduceBEq, true_and, and_true, List.getD_cons_zero, List.getD_cons_succ, List.getElem?_cons_zero, cfg_P, cfg_frz, List.length_map, ↓havoc_in, ↓havoc_out, agree_upd, agree_havoc, List.contains_cons, List.contains_nil, Bool.or_false, Bool.or_true, Int.natCast_nonneg, Int.ofNat_lt, Int.toNat_natCast, nth_int, decide_true, decide_false, Nat.lt_succ_self, Bool.not_false, not_true_eq_false, cells_int, ↓ev_tmp, ↓ev_int, ↓iop_move, ↓iop_assign, ↓iop_load, ↓iop_binOp, ↓iop_indexAddr, idxA_int, ↓iop_callb, bi_len, lenM_none, pickP_f, loadP_vptr, indexP_lits, lenP_lits, b_add, b_neq, b_lss, env0_eq, ↓reduceIte, ↓evs_cons, ↓evs_nil, beq_self_eq_true, see_eq, nth_psts, pur_psts, nth_gaps, pur_gaps, nth_pays, pur_pays, Try.f54, ty3, ty34, h5, hab, hlt, hltb, hx, hy, he, hwk]
      exact hz2
    · have e : R = false := by rw [← hR]; exact decide_eq_false fun h => he (by rw [← hx, ← hy, h])
      subst e
      simp +contextual (maxSteps := 4000000) only [↓ur_skip, ↓ur_seq, ↓ur_block, ↓ur_ret, ↓ur_region, ↓ur_cond, ↓cont_seq, ↓done_nil, ↓done_seq, ↓done_blk, ↓done_lp, ↓ops_consN, nY_move, nY_assign, nY_load, nY_binOp, nilO_tmp, nY_indexAddr, nY_callb, ↓ops_nil, opsIf_some, condC_true, Option.map_some, Option.bind_some, Option.getD_some, Nat.reduceLT, Bool.false_eq_true, ↓upd_same, ↓upd_ne, Nat.reduceBEq, and_true, List.getD_cons_zero, List.getD_cons_succ, List.getElem?_cons_zero, endQ, cfg_P, cfg_frz, List.length_map, ↓havoc_in, ↓havoc_out, List.contains_cons, List.contains_nil, Bool.or_false, Bool.or_true, Int.natCast_nonneg, Int.ofNat_lt, Int.toNat_natCast, nth_int, decide_true, Option.some.injEq, exists_eq_left', Nat.lt_succ_self, Bool.not_false, not_false_eq_true, cells_int, DRx_bool, ↓ev_tmp, ↓ev_bool, ↓iop_move, ↓iop_assign, ↓iop_load, ↓iop_binOp, ↓iop_indexAddr, idxA_int, ↓iop_callb, bi_len, lenM_none, pickP_f, loadP_vptr, indexP_lits, lenP_lits, b_neq, b_lss, env0_eq, ires_eq, iresL_1, iresAll_nil, iresAll_cons, iresOne_tmp, ↓reduceIte, ↓evs_cons, ↓evs_nil, beq_self_eq_true, see_eq, nth_psts, pur_psts, nth_gaps, pur_gaps, nth_pays, pur_pays, Try.f54, ty3, ty34, h5, hab, hlt, hltb, hx, hy, he]
  · have e : k = a.length := by omega
    subst e
    have e : R = true := by rw [← hR]; exact decide_eq_true (list_eqI hab hz)
    subst e
    simp +contextual (maxSteps := 4000000) only [↓ur_seq, ↓ur_exit, ↓ur_ret, ↓ur_region, ↓ur_cond, ↓cont_seq, ↓leave_seq, ↓leave_blk, ↓leave_lp, ↓done_nil, ↓ops_consN, nY_move, nY_assign, nY_binOp, nilO_tmp, nY_callb, ↓ops_nil, opsIf_some, condC_false, Option.map_some, Option.bind_some, Option.getD_some, Nat.reduceLT, ↓upd_same, ↓upd_ne, Nat.reduceBEq, and_true, List.getD_cons_zero, endQ, cfg_P, List.length_map, ↓havoc_in, ↓havoc_out, List.contains_cons, List.contains_nil, Bool.or_false, Bool.or_true, Int.ofNat_lt, decide_false, Option.some.injEq, exists_eq_left', Nat.lt_irrefl, Nat.lt_succ_self, Bool.not_false, DRx_bool, ↓ev_tmp, ↓ev_bool, ↓iop_move, ↓iop_assign, ↓iop_binOp, ↓iop_callb, bi_len, lenM_none, lenP_lits, b_lss, env0_eq, ires_eq, iresL_1, iresAll_nil, iresAll_cons, iresOne_tmp, ↓reduceIte, ↓evs_cons, ↓evs_nil, beq_self_eq_true, nth_psts, pur_psts, nth_gaps, pur_gaps, nth_pays, pur_pays, Try.f54, ty34, h5, hab]
theorem o_sameI : O_sameI := k_sameI c_sameI
noncomputable def A_sameL : (List Int) × (List Int) → List PV := fun (a, b) => [ints a, ints b]
noncomputable def R_sameL : (List Int) × (List Int) → PV := fun (a, b) => B (decide (a = b))
def H_sameL : (List Int) × (List Int) → Prop := fun (a, b) => a.length ≤ 100000
noncomputable def e_sameL : Nat × Ent := (23, .v (specOf A_sameL R_sameL H_sameL))
theorem j_sameL : ∀ i j, A_sameL i = A_sameL j → i = j := by
  rintro ⟨a₁, b₁⟩ ⟨a₂, b₂⟩ h
  simp only [A_sameL, List.cons.injEq, and_true, PV.lits.injEq, PV.int.injEq, PV.bool.injEq, PV.str.injEq, PV.agg.injEq, PV.func.injEq, Fn.func.injEq, PV.vptr.injEq, true_and, List.map_nil, inj_ints, inj_strs, inj_psts, inj_gaps, inj_pays] at h
  simp [Prod.ext_iff, h] <;> omega
theorem s_sameL (a : List Int) (b : List Int) : specOf A_sameL R_sameL H_sameL [ints a, ints b] = @ite (Option (PV)) (a.length ≤ 100000) (Classical.propDecidable _) (some (B (decide (a = b)))) none := specOf_if j_sameL (a, b)
def C_sameL : Prop := ∀ (a : List Int) (b : List Int) (h : a.length ≤ 100000) , VC Try.prog 23 [ints a, ints b] (B (decide (a = b)))
def O_sameL : Prop := EntOK Try.prog e_sameL.1 e_sameL.2
theorem k_sameL (c : C_sameL) : O_sameL := specOf_ok fun ⟨a, b⟩ h => c a b h
theorem c_sameL : C_sameL := by
  intro a b hl
  refine vc_ofU mixed (l := [e_sameI]) ((eok_cons o_sameI eok_nil)) [] []  Try.func23 rfl (by decide +kernel) (N := 8) rfl (by simp) rfl (by kernel_rfl) fun hs => ?_
  simp only [smallL, PV.small, List.length_map, and_true, true_and] at hs
  obtain ⟨R, hR⟩ : ∃ R, decide (a = b) = R := ⟨_, rfl⟩
  rw [hR]
  simp +contextual (maxSteps := 4000000) only [↓ur_seq, ↓ur_ret, ↓ur_region, ↓cont_seq, ↓done_nil, ↓ops_consN, nY_move, nY_assign, nY_callf, ↓ops_nil, opsIf_some, Option.map_some, Option.bind_some, Option.getD_some, Nat.reduceLT, Bool.false_eq_true, ↓upd_same, ↓upd_ne, Nat.reduceBEq, and_true, List.getD_cons_zero, List.getD_cons_succ, endQ, cfg_P, cfg_tab, cfg_muts, cfg_frz, List.contains_nil, Option.some.injEq, exists_eq_left', tabOf_cons, tab_v, pur_ints, Bool.and_self, List.nil_append, List.append_nil, Nat.reduceAdd, Nat.lt_succ_self, st0, pur_lits, DRx_bool, ↓ev_tmp, ↓ev_bool, ↓ev_func, ↓iop_move, ↓iop_assign, ↓iop_callv, nrmAll_cons, nrmAll_nil, nrm_lits, env0_eq, ires_eq, iresL_1, iresAll_nil, iresAll_cons, iresOne_tmp, valT_eq, pursL_cons, pursL_nil, ↓reduceIte, callP_eq, tsOf_eq, ↓evs_cons, ↓evs_nil, and_false, Bool.true_eq_false, e_sameI, s_sameI, nth_psts, pur_psts, nth_gaps, pur_gaps, nth_pays, pur_pays, Try.f23, ty34, hl, hR]
theorem o_sameL : O_sameL := k_sameL c_sameL
noncomputable def A_sameB : (Int) × (List Pst) × (Int) × (List Pst) → List PV := fun (n, ps, u, qs) => [.agg [I n, psts ps], .agg [I u, psts qs]]
noncomputable def R_sameB : (Int) × (List Pst) × (Int) × (List Pst) → PV := fun (n, ps, u, qs) => B (decide (n = u ∧ ps = qs))
def H_sameB : (Int) × (List Pst) × (Int) × (List Pst) → Prop := fun (n, ps, u, qs) => ps.length ≤ 100000
noncomputable def e_sameB : Nat × Ent := (24, .v (specOf A_sameB R_sameB H_sameB))
theorem j_sameB : ∀ i j, A_sameB i = A_sameB j → i = j := by
  rintro ⟨n₁, ps₁, u₁, qs₁⟩ ⟨n₂, ps₂, u₂, qs₂⟩ h
  simp only [A_sameB, List.cons.injEq, and_true, PV.lits.injEq, PV.int.injEq, PV.bool.injEq, PV.str.injEq, PV.agg.injEq, PV.func.injEq, Fn.func.injEq, PV.vptr.injEq, true_and, List.map_nil, inj_ints, inj_strs, inj_psts, inj_gaps, inj_pays] at h
  simp [Prod.ext_iff, h] <;> omega
theorem s_sameB (n : Int) (ps : List Pst) (u : Int) (qs : List Pst) : specOf A_sameB R_sameB H_sameB [.agg [I n, psts ps], .agg [I u, psts qs]] = @ite (Option (PV)) (ps.length ≤ 100000) (Classical.propDecidable _) (some (B (decide (n = u ∧ ps = qs)))) none := specOf_if j_sameB (n, ps, u, qs)
def C_sameB : Prop := ∀ (n : Int) (ps : List Pst) (u : Int) (qs : List Pst) (h : ps.length ≤ 100000) , VC Try.prog 24 [.agg [I n, psts ps], .agg [I u, psts qs]] (B (decide (n = u ∧ ps = qs)))
def O_sameB : Prop := EntOK Try.prog e_sameB.1 e_sameB.2
theorem k_sameB (c : C_sameB) : O_sameB := specOf_ok fun ⟨n, ps, u, qs⟩ h => c n ps u qs h
theorem c_sameB : C_sameB := by
  intro n ps u qs hl
  refine vc_ofU mixed (l := []) (eok_nil) [] []  Try.func24 rfl (by decide +kernel) (N := 38) rfl (by simp) rfl (by kernel_rfl) fun hs => ?_
  simp only [smallL, PV.small, List.length_map, and_true, true_and] at hs
  obtain ⟨R, hR⟩ : ∃ R, decide (n = u ∧ ps = qs) = R := ⟨_, rfl⟩
  rw [hR]
  by_cases hn : n = u
  case neg =>
    have e : R = false := by rw [← hR]; exact decide_eq_false fun h => hn h.1
    subst e
    simp +contextual (maxSteps := 4000000) only [↓ur_seq, ↓ur_ret, ↓ur_region, ↓ur_cond, ↓cont_seq, ↓done_nil, ↓done_seq, ↓ops_consN, ↓ops_guardN, nY_move, nY_assign, nY_pick, nY_box, nY_load, nY_binOp, nilO_tmp, nY_fieldAddr, nY_callb, ↓ops_nil, opsIf_some, condC_true, guardC_tf, Option.map_some, Option.bind_some, Option.getD_some, Nat.reduceLT, Bool.false_eq_true, ↓upd_same, ↓upd_ne, Nat.reduceBEq, and_true, List.getD_cons_zero, List.getD_cons_succ, List.getElem?_toArray, List.getElem?_cons_zero, List.getElem?_cons_succ, endQ, cfg_P, cfg_muts, cfg_frz, List.contains_nil, decide_true, Option.some.injEq, exists_eq_left', List.length_cons, List.length_nil, Nat.zero_add, Nat.add_zero, Nat.reduceAdd, Nat.lt_succ_self, Bool.not_false, not_false_eq_true, st0, cells_agg, DRx_bool, ↓ev_tmp, ↓ev_bool, ↓guardP_eq, grd_some, ↓iop_move, ↓iop_assign, ↓pick3_bool, ↓iop_pick, ↓iop_box, ↓iop_load, ↓iop_binOp, ↓iop_fieldAddr, pickP_f, loadP_vptr, fieldP_vptr, b_neq, env0_eq, ires_eq, iresL_1, iresAll_nil, iresAll_cons, iresOne_tmp, ↓reduceIte, boxP_eq, see_eq, nth_psts, pur_psts, nth_gaps, pur_gaps, nth_pays, pur_pays, Try.f24, ty3, ty45, hn]
  by_cases hab : ps.length = qs.length
  case neg =>
    have e : R = false := by rw [← hR]; exact decide_eq_false fun h => hab (by rw [h.2])
    subst e
    have hi : ¬ (ps.length : Int) = (qs.length : Int) := by omega
    simp +contextual (maxSteps := 4000000) only [↓ur_seq, ↓ur_ret, ↓ur_region, ↓ur_cond, ↓cont_seq, ↓done_nil, ↓done_seq, ↓ops_consN, ↓ops_guardN, nY_move, nY_assign, nY_pick, nY_box, nY_load, nY_binOp, nilO_tmp, nY_fieldAddr, nY_callb, ↓ops_nil, opsIf_some, condC_true, guardC_ff, Option.map_some, Option.bind_some, Option.getD_some, Nat.reduceLT, Bool.false_eq_true, ↓upd_same, ↓upd_ne, Nat.reduceBEq, and_true, List.getD_cons_zero, List.getD_cons_succ, List.getElem?_toArray, List.getElem?_cons_zero, List.getElem?_cons_succ, endQ, cfg_P, cfg_muts, cfg_frz, List.length_map, List.contains_nil, decide_true, decide_false, Option.some.injEq, exists_eq_left', List.length_cons, List.length_nil, Nat.zero_add, Nat.add_zero, Nat.reduceAdd, Nat.lt_succ_self, Bool.not_false, not_true_eq_false, not_false_eq_true, st0, cells_agg, DRx_bool, ↓ev_tmp, ↓ev_bool, ↓guardP_eq, grd_some, ↓iop_move, ↓iop_assign, ↓pick3_bool, ↓iop_pick, ↓iop_box, ↓iop_load, ↓iop_binOp, ↓iop_fieldAddr, ↓iop_callb, bi_len, lenM_none, pickP_f, loadP_vptr, fieldP_vptr, lenP_lits, b_neq, env0_eq, ires_eq, iresL_1, iresAll_nil, iresAll_cons, iresOne_tmp, ↓reduceIte, boxP_eq, ↓evs_cons, ↓evs_nil, see_eq, nth_psts, pur_psts, nth_gaps, pur_gaps, nth_pays, pur_pays, Try.f24, ty3, ty22, ty45, hn, hi, hab]
  simp +contextual (maxSteps := 4000000) only [↓ur_skip, ↓ur_seq, ↓ur_block, ↓ur_region, ↓ur_cond, ↓cont_seq, ↓ops_consN, ↓ops_guardN, nY_move, nY_assign, nY_pick, nY_box, nY_load, nY_binOp, nilO_tmp, nY_fieldAddr, nY_callb, ↓ops_nil, opsIf_some, condC_false, guardC_ff, Option.map_some, Option.bind_some, Option.getD_some, Nat.reduceLT, Bool.false_eq_true, ↓upd_same, ↓upd_ne, Nat.reduceBEq, true_and, List.getD_cons_zero, List.getD_cons_succ, List.getElem?_toArray, List.getElem?_cons_zero, List.getElem?_cons_succ, cfg_P, cfg_muts, cfg_frz, List.length_map, List.contains_nil, decide_false, List.length_cons, List.length_nil, Nat.zero_add, Nat.add_zero, Nat.reduceAdd, Nat.lt_succ_self, Bool.not_false, not_true_eq_false, st0, cells_agg, ↓ev_tmp, ↓ev_int, ↓ev_bool, ↓guardP_eq, grd_some, ↓iop_move, ↓iop_assign, ↓pick3_bool, ↓iop_pick, ↓iop_box, ↓iop_load, ↓iop_binOp, ↓iop_fieldAddr, ↓iop_callb, bi_len, lenM_none, pickP_f, loadP_vptr, fieldP_vptr, lenP_lits, b_neq, env0_eq, ↓reduceIte, boxP_eq, ↓evs_cons, ↓evs_nil, see_eq, nth_psts, pur_psts, nth_gaps, pur_gaps, nth_pays, pur_pays, Try.f24, ty3, ty22, ty45, hn, hab]
  refine loop_cnt [4, 5, 20, 21, 22, 23, 24, 25, 26, 27, 28, 29, 30, 31, 32, 33, 34, 35, 36, 37] ps.length (fun k ρ st' => ρ 5 = I k ∧ ∀ j, j < k → ps.getD j dP = qs.getD j dP) (.refl _) ?_ ?_
  · simp +contextual (maxSteps := 4000000) only [↓upd_same, true_and, Int.cast_ofNat_Int, nth_psts, pur_psts, nth_gaps, pur_gaps, nth_pays, pur_pays, Try.f24]
    intro j hj; omega
  rintro k ρ ⟨ob, M⟩ hk ⟨h5, hz⟩
  by_cases hlt : k < ps.length
  · have hwk := wrapN' (k := k) (by omega)
    have hltb : k < qs.length := by omega
    generalize hx : ps.getD k dP = x at *
    generalize hy : qs.getD k dP = y at *
    by_cases he : x = y
    · have hz2 : ∀ j, j < k + 1 → ps.getD j dP = qs.getD j dP := fun j hj => by
        by_cases e : j = k
        · subst e; rw [hx, hy, he]
        · exact hz j (by omega)
      simp +contextual (maxSteps := 4000000) only [↓ur_skip, ↓ur_seq, ↓ur_block, ↓ur_region, ↓ur_cond, ↓cont_seq, ↓cont_blk, ↓cont_lp, ↓ops_consN, nY_move, nY_assign, nY_load, nY_binOp, nilO_tmp, nilO_int, nY_fieldAddr, nY_indexAddr, nY_callb, ↓ops_nil, opsIf_some, condC_true, condC_false, Option.map_some, Option.bind_some, Option.getD_some, Nat.reduceLT, Bool.false_eq_true, ↓upd_same, ↓upd_ne, Nat.reduceBEq, true_and, and_true, List.getElem?_cons_zero, List.getElem?_cons_succ, cfg_P, cfg_frz, List.length_map, ↓havoc_in, ↓havoc_out, agree_upd, agree_havoc, List.contains_cons, List.contains_nil, Bool.or_false, Bool.or_true, Int.natCast_nonneg, Int.ofNat_lt, Int.toNat_natCast, decide_true, decide_false, List.length_cons, List.length_nil, Nat.zero_add, List.drop_zero, Nat.reduceAdd, Nat.lt_succ_self, Bool.not_false, not_true_eq_false, Nat.le_refl, cells_agg, ↓ev_tmp, ↓ev_int, ↓iop_move, ↓iop_assign, ↓iop_load, ↓iop_binOp, ↓iop_fieldAddr, ↓iop_indexAddr, idxA_int, ↓iop_callb, bi_len, lenM_none, pickP_f, pickP_t, loadP_vptr, fieldP_vptr, indexP_lits, lenP_lits, b_add, b_lss, ↓reduceIte, List.take_succ_cons, List.take_nil, ↓evs_cons, ↓evs_nil, beq_self_eq_true, see_eq, nth_psts, pur_psts, nth_gaps, pur_gaps, nth_pays, pur_pays, Try.f24, ty22, ty45, ty61, h5, hab, hlt, hltb, hx, hy, neq_pst, he, hwk]
      exact hz2
    · have e : R = false := by rw [← hR]; exact decide_eq_false fun h => he (by rw [← hx, ← hy, h.2])
      subst e
      simp +contextual (maxSteps := 4000000) only [↓ur_skip, ↓ur_seq, ↓ur_block, ↓ur_ret, ↓ur_region, ↓ur_cond, ↓cont_seq, ↓done_nil, ↓done_seq, ↓done_blk, ↓done_lp, ↓ops_consN, nY_move, nY_assign, nY_load, nY_binOp, nilO_tmp, nY_fieldAddr, nY_indexAddr, nY_callb, ↓ops_nil, opsIf_some, condC_true, Option.map_some, Option.bind_some, Option.getD_some, Nat.reduceLT, Bool.false_eq_true, ↓upd_same, ↓upd_ne, Nat.reduceBEq, and_true, List.getElem?_cons_zero, List.getElem?_cons_succ, endQ, cfg_P, cfg_frz, List.length_map, ↓havoc_in, ↓havoc_out, List.contains_cons, List.contains_nil, Bool.or_false, Bool.or_true, Int.natCast_nonneg, Int.ofNat_lt, Int.toNat_natCast, decide_true, Option.some.injEq, exists_eq_left', List.length_cons, List.length_nil, Nat.zero_add, List.drop_zero, Nat.reduceAdd, Nat.lt_succ_self, Bool.not_false, not_false_eq_true, Nat.le_refl, cells_agg, DRx_bool, ↓ev_tmp, ↓ev_bool, ↓iop_move, ↓iop_assign, ↓iop_load, ↓iop_binOp, ↓iop_fieldAddr, ↓iop_indexAddr, idxA_int, ↓iop_callb, bi_len, lenM_none, pickP_f, pickP_t, loadP_vptr, fieldP_vptr, indexP_lits, lenP_lits, b_lss, ires_eq, iresL_1, iresAll_nil, iresAll_cons, iresOne_tmp, ↓reduceIte, List.take_succ_cons, List.take_nil, ↓evs_cons, ↓evs_nil, beq_self_eq_true, see_eq, nth_psts, pur_psts, nth_gaps, pur_gaps, nth_pays, pur_pays, Try.f24, ty22, ty45, ty61, h5, hab, hlt, hltb, hx, hy, neq_pst, he]
  · have e : k = ps.length := by omega
    subst e
    have e : R = true := by rw [← hR]; exact decide_eq_true ⟨hn, list_eqP hab hz⟩
    subst e
    simp +contextual (maxSteps := 4000000) only [↓ur_seq, ↓ur_exit, ↓ur_ret, ↓ur_region, ↓ur_cond, ↓cont_seq, ↓leave_seq, ↓leave_blk, ↓leave_lp, ↓done_nil, ↓ops_consN, nY_move, nY_assign, nY_load, nY_binOp, nilO_tmp, nY_fieldAddr, nY_callb, ↓ops_nil, opsIf_some, condC_false, Option.map_some, Option.bind_some, Option.getD_some, Nat.reduceLT, Bool.false_eq_true, ↓upd_same, ↓upd_ne, Nat.reduceBEq, and_true, List.getElem?_cons_zero, List.getElem?_cons_succ, endQ, cfg_P, cfg_frz, List.length_map, ↓havoc_in, ↓havoc_out, List.contains_cons, List.contains_nil, Bool.or_false, Bool.or_true, Int.ofNat_lt, decide_false, Option.some.injEq, exists_eq_left', Nat.zero_add, Nat.lt_irrefl, Nat.lt_succ_self, Bool.not_false, DRx_bool, ↓ev_tmp, ↓ev_bool, ↓iop_move, ↓iop_assign, ↓iop_load, ↓iop_binOp, ↓iop_fieldAddr, ↓iop_callb, bi_len, lenM_none, pickP_f, loadP_vptr, fieldP_vptr, lenP_lits, b_lss, ires_eq, iresL_1, iresAll_nil, iresAll_cons, iresOne_tmp, ↓reduceIte, ↓evs_cons, ↓evs_nil, beq_self_eq_true, see_eq, nth_psts, pur_psts, nth_gaps, pur_gaps, nth_pays, pur_pays, Try.f24, ty22, ty45, h5, hab]
theorem o_sameB : O_sameB := k_sameB c_sameB
end Sim
