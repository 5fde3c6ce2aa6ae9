/- What functions of this seat compute, by values: contracts (lemmas of the statement's proof, under the conditions that each names). -/
import Derived.Test.YtpdaiflnibekaaaQI
namespace Sim
open Go Go.Proofs
set_option maxRecDepth 10000
set_option maxHeartbeats 2000000
set_option linter.unusedVariables false
set_option linter.unusedSimpArgs false
attribute [local congr] opsIf_congr condC_congr guardC_congr grd_congr pick3_congr obind_congr omap_congr

theorem ext_upto {a b : List Int} (h : a.length = b.length) (he : ∀ i, i < a.length → a.getD i 0 = b.getD i 0) : a = b :=
  List.ext_getElem h fun i h1 h2 => by have := he i (by omega); simpa [h1, h2] using this
theorem ext_reps {a b : List Rep} (h : a.length = b.length) (he : ∀ i, i < a.length → a.getD i dR = b.getD i dR) : a = b :=
  List.ext_getElem h fun i h1 h2 => by have := he i (by omega); simpa [h1, h2] using this
theorem upto_succ {α : Type} {d : α} {a b : List α} {k : Nat} (h : ∀ i, i < k → a.getD i d = b.getD i d) (hk : a.getD k d = b.getD k d) : ∀ i, i < k + 1 → a.getD i d = b.getD i d := fun i hi => by
  by_cases e : i = k
  · rw [e]; exact hk
  · exact h i (by omega)
noncomputable def A_same10 : (List Int) × (List Int) → List PV := fun (a, b) => [ints a, ints b]
noncomputable def R_same10 : (List Int) × (List Int) → PV := fun (a, b) => B (decide (a = b))
def H_same10 : (List Int) × (List Int) → Prop := fun (a, b) => True
noncomputable def e_same10 : Nat × Ent := (56, .v (specOf A_same10 R_same10 H_same10))
theorem j_same10 : ∀ i j, A_same10 i = A_same10 j → i = j := by
  rintro ⟨a₁, b₁⟩ ⟨a₂, b₂⟩ h
  simp only [A_same10, List.cons.injEq, and_true, PV.lits.injEq, PV.int.injEq, PV.bool.injEq, PV.str.injEq, PV.agg.injEq, PV.func.injEq, PV.vptr.injEq, true_and, List.map_nil, inj_ints, inj_strs, inj_reps] at h
  simp [Prod.ext_iff, h] <;> omega
theorem s_same10 (a : List Int) (b : List Int) : specOf A_same10 R_same10 H_same10 [ints a, ints b] = some (B (decide (a = b))) := specOf_app j_same10 (i := (a, b)) trivial
def C_same10 : Prop := ∀ (a : List Int) (b : List Int) , VC Try.prog 56 [ints a, ints b] (B (decide (a = b)))
def O_same10 : Prop := EntOK Try.prog e_same10.1 e_same10.2
theorem k_same10 (c : C_same10) : O_same10 := specOf_ok fun ⟨a, b⟩ h => c a b
theorem c_same10 : C_same10 := by
  intro a b
  refine vc_ofU mixed (l := []) (eok_nil) [] []  Try.func56 rfl (by decide +kernel) (N := 26) rfl (by simp) rfl (by kernel_rfl) fun hs => ?_
  simp only [smallL, PV.small, List.length_map, and_true, true_and] at hs
  simp +contextual (maxSteps := 4000000) only [↓ur_skip, ↓ur_seq, ↓ur_block, ↓ur_ret, ↓ur_region, ↓ur_cond, ↓cont_seq, ↓done_nil, ↓done_seq, ↓ops_consN, nY_move, nY_assign, nY_binOp, nY_callb, ↓ops_nil, opsIf_some, Option.map_some, Option.bind_some, Option.getD_some, Nat.reduceLT, ↓upd_same, ↓upd_ne, Nat.reduceBEq, true_and, List.getD_cons_zero, List.getD_cons_succ, endQ, cfg_P, List.length_map, decide_true, decide_false, Option.some.injEq, exists_eq_left', Nat.lt_succ_self, not_true_eq_false, not_false_eq_true, st0, Classical.not_not, DRx_bool, ↓ev_tmp, ↓ev_int, ↓ev_bool, ↓iop_move, ↓iop_assign, ↓iop_binOp, ↓iop_callb, bi_len, lenM_none, lenP_lits, b_neq, env0_eq, ires_eq, iresL_1, iresAll_nil, iresAll_cons, iresOne_tmp, ↓reduceIte, Int.natCast_inj, condC_d, ↓evs_cons, ↓evs_nil, nth_reps, pur_reps, Try.f56, ty25]
  refine ⟨fun h => (decide_eq_false fun e => h (by rw [e])).symm, fun h => ?_⟩
  refine loop_cnt [4, 5, 11, 12, 13, 14, 15, 16, 17, 18, 19, 20, 21, 22, 23, 24, 25] b.length (fun k ρ st => ρ 5 = I k ∧ (∀ i, i < k → a.getD i 0 = b.getD i 0) ∧ st = st0) (.refl _) ?_ ?_
  · simp +contextual (maxSteps := 4000000) only [↓upd_same, true_and, and_true, st0, Int.cast_ofNat_Int, nth_reps, pur_reps, Try.f56]
    exact fun i hi => absurd hi (by omega)
  · rintro k ρ st hk ⟨h5, h3, rfl⟩
    simp +contextual (maxSteps := 4000000) only [↓ur_skip, ↓ur_seq, ↓ur_block, ↓ur_exit, ↓ur_ret, ↓ur_region, ↓ur_cond, ↓cont_seq, ↓cont_blk, ↓cont_lp, ↓leave_seq, ↓leave_blk, ↓leave_lp, ↓done_nil, ↓done_seq, ↓done_blk, ↓done_lp, ↓ops_consN, nY_move, nY_assign, nY_load, nY_binOp, nY_indexAddr, nY_callb, ↓ops_nil, opsIf_some, Option.map_some, Option.bind_some, Option.getD_some, Nat.reduceLT, Bool.false_eq_true, ↓upd_same, ↓upd_ne, Nat.reduceBEq, true_and, and_true, List.getD_cons_zero, List.getD_cons_succ, List.getElem?_cons_zero, endQ, cfg_P, cfg_frz, List.length_map, ↓havoc_in, ↓havoc_out, agree_upd, agree_havoc, List.contains_cons, List.contains_nil, Bool.or_false, Bool.or_true, Int.natCast_nonneg, Int.ofNat_lt, Int.toNat_natCast, nth_int, decide_true, decide_false, Option.some.injEq, exists_eq_left', PV.int.injEq, Nat.lt_succ_self, not_true_eq_false, not_false_eq_true, st0, Classical.not_not, cells_int, DRx_bool, ↓ev_tmp, ↓ev_int, ↓ev_bool, ↓iop_move, ↓iop_assign, ↓iop_load, ↓iop_binOp, ↓iop_indexAddr, idxA_int, ↓iop_callb, bi_len, lenM_none, pickP_f, loadP_vptr, indexP_lits, lenP_lits, b_add, b_neq, b_lss, env0_eq, ires_eq, iresL_1, iresAll_nil, iresAll_cons, iresOne_tmp, ↓reduceIte, condC_d, ↓evs_cons, ↓evs_nil, beq_self_eq_true, see_eq, nth_reps, pur_reps, Try.f56, ty3, ty25, h5, h]
    refine ⟨fun hlt => ⟨fun hn => (decide_eq_false fun e => hn (by rw [e])).symm, fun e => ⟨by rw [wrap64 (by omega) (by omega)]; rfl, upto_succ h3 e⟩⟩, fun hge => (decide_eq_true (ext_upto h fun i hi => h3 i (by omega))).symm⟩
theorem o_same10 : O_same10 := k_same10 c_same10
noncomputable def A_same11 : (List Int) × (List Int) → List PV := fun (a, b) => [ints a, ints b]
noncomputable def R_same11 : (List Int) × (List Int) → PV := fun (a, b) => B (decide (a = b))
def H_same11 : (List Int) × (List Int) → Prop := fun (a, b) => True
noncomputable def e_same11 : Nat × Ent := (46, .v (specOf A_same11 R_same11 H_same11))
theorem j_same11 : ∀ i j, A_same11 i = A_same11 j → i = j := by
  rintro ⟨a₁, b₁⟩ ⟨a₂, b₂⟩ h
  simp only [A_same11, List.cons.injEq, and_true, PV.lits.injEq, PV.int.injEq, PV.bool.injEq, PV.str.injEq, PV.agg.injEq, PV.func.injEq, PV.vptr.injEq, true_and, List.map_nil, inj_ints, inj_strs, inj_reps] at h
  simp [Prod.ext_iff, h] <;> omega
theorem s_same11 (a : List Int) (b : List Int) : specOf A_same11 R_same11 H_same11 [ints a, ints b] = some (B (decide (a = b))) := specOf_app j_same11 (i := (a, b)) trivial
def C_same11 : Prop := ∀ (a : List Int) (b : List Int) , VC Try.prog 46 [ints a, ints b] (B (decide (a = b)))
def O_same11 : Prop := EntOK Try.prog e_same11.1 e_same11.2
theorem k_same11 (c : C_same11) : O_same11 := specOf_ok fun ⟨a, b⟩ h => c a b
theorem c_same11 : C_same11 := by
  intro a b
  refine vc_ofU mixed (l := [e_same10]) ((eok_cons o_same10 eok_nil)) [] []  Try.func46 rfl (by decide +kernel) (N := 8) rfl (by simp) rfl (by kernel_rfl) fun hs => ?_
  simp only [smallL, PV.small, List.length_map, and_true, true_and] at hs
  simp +contextual (maxSteps := 4000000) only [↓ur_seq, ↓ur_ret, ↓ur_region, ↓cont_seq, ↓done_nil, ↓ops_consN, nY_move, nY_assign, nY_callf, ↓ops_nil, opsIf_some, Option.map_some, Option.bind_some, Option.getD_some, Nat.reduceLT, Bool.false_eq_true, ↓upd_same, ↓upd_ne, Nat.reduceBEq, and_true, List.getD_cons_zero, List.getD_cons_succ, endQ, cfg_P, cfg_tab, cfg_muts, cfg_frz, List.contains_nil, Option.some.injEq, exists_eq_left', tabOf_cons, tab_v, pur_ints, Bool.and_self, List.nil_append, List.append_nil, Nat.lt_succ_self, st0, pur_lits, DRx_bool, ↓ev_tmp, ↓ev_bool, ↓ev_func, ↓iop_move, ↓iop_assign, ↓iop_callv, nrmAll_cons, nrmAll_nil, nrm_lits, env0_eq, ires_eq, iresL_1, iresAll_nil, iresAll_cons, iresOne_tmp, valT_eq, pursL_cons, pursL_nil, ↓reduceIte, callP_eq, ↓evs_cons, ↓evs_nil, and_false, Bool.true_eq_false, e_same10, s_same10, nth_reps, pur_reps, Try.f46, ty25]
theorem o_same11 : O_same11 := k_same11 c_same11
noncomputable def A_sameList : (List Int) × (List Int) → List PV := fun (a, b) => [ints a, ints b]
noncomputable def R_sameList : (List Int) × (List Int) → PV := fun (a, b) => B (decide (a = b))
def H_sameList : (List Int) × (List Int) → Prop := fun (a, b) => True
noncomputable def e_sameList : Nat × Ent := (23, .v (specOf A_sameList R_sameList H_sameList))
theorem j_sameList : ∀ i j, A_sameList i = A_sameList j → i = j := by
  rintro ⟨a₁, b₁⟩ ⟨a₂, b₂⟩ h
  simp only [A_sameList, List.cons.injEq, and_true, PV.lits.injEq, PV.int.injEq, PV.bool.injEq, PV.str.injEq, PV.agg.injEq, PV.func.injEq, PV.vptr.injEq, true_and, List.map_nil, inj_ints, inj_strs, inj_reps] at h
  simp [Prod.ext_iff, h] <;> omega
theorem s_sameList (a : List Int) (b : List Int) : specOf A_sameList R_sameList H_sameList [ints a, ints b] = some (B (decide (a = b))) := specOf_app j_sameList (i := (a, b)) trivial
def C_sameList : Prop := ∀ (a : List Int) (b : List Int) , VC Try.prog 23 [ints a, ints b] (B (decide (a = b)))
def O_sameList : Prop := EntOK Try.prog e_sameList.1 e_sameList.2
theorem k_sameList (c : C_sameList) : O_sameList := specOf_ok fun ⟨a, b⟩ h => c a b
theorem c_sameList : C_sameList := by
  intro a b
  refine vc_ofU mixed (l := [e_same11]) ((eok_cons o_same11 eok_nil)) [] []  Try.func23 rfl (by decide +kernel) (N := 8) rfl (by simp) rfl (by kernel_rfl) fun hs => ?_
  simp only [smallL, PV.small, List.length_map, and_true, true_and] at hs
  simp +contextual (maxSteps := 4000000) only [↓ur_seq, ↓ur_ret, ↓ur_region, ↓cont_seq, ↓done_nil, ↓ops_consN, nY_move, nY_assign, nY_callf, ↓ops_nil, opsIf_some, Option.map_some, Option.bind_some, Option.getD_some, Nat.reduceLT, Bool.false_eq_true, ↓upd_same, ↓upd_ne, Nat.reduceBEq, and_true, List.getD_cons_zero, List.getD_cons_succ, endQ, cfg_P, cfg_tab, cfg_muts, cfg_frz, List.contains_nil, Option.some.injEq, exists_eq_left', tabOf_cons, tab_v, pur_ints, Bool.and_self, List.nil_append, List.append_nil, Nat.lt_succ_self, st0, pur_lits, DRx_bool, ↓ev_tmp, ↓ev_bool, ↓ev_func, ↓iop_move, ↓iop_assign, ↓iop_callv, nrmAll_cons, nrmAll_nil, nrm_lits, env0_eq, ires_eq, iresL_1, iresAll_nil, iresAll_cons, iresOne_tmp, valT_eq, pursL_cons, pursL_nil, ↓reduceIte, callP_eq, ↓evs_cons, ↓evs_nil, and_false, Bool.true_eq_false, e_same11, s_same11, nth_reps, pur_reps, Try.f23, ty25]
theorem o_sameList : O_sameList := k_sameList c_sameList

theorem neq_rep {a b : Rep} : binP Try.prog .neq 56 (.agg [I a.1, I a.2.1, I a.2.2.1, I a.2.2.2]) (.agg [I b.1, I b.2.1, I b.2.2.1, I b.2.2.2]) = some (.bool (decide (¬ a = b))) := by
  obtain ⟨a1, a2, a3, a4⟩ := a
  obtain ⟨b1, b2, b3, b4⟩ := b
  have h1 : Try.prog.stoodInHeld 56 = false := by kernel_rfl
  have h2 : Try.prog.eqGuardType Try.prog.depth 56 = false := by kernel_rfl
  have h3 : eqRow Try.prog [I a1, I a2, I a3, I a4] [I b1, I b2, I b3, I b4] (Try.prog.fieldsOf 56).toList = some ((a1 == b1) && ((a2 == b2) && ((a3 == b3) && ((a4 == b4) && true)))) := by kernel_rfl
  have h4 : tvStruct Try.prog 56 = true := by kernel_rfl
  simp only [binP, h1, h2, and_self, if_true, h3, h4, Option.bind_some, cmpB]
  simp only [Option.some.injEq, PV.bool.injEq, Prod.mk.injEq]
  by_cases e1 : a1 = b1 <;> by_cases e2 : a2 = b2 <;> by_cases e3 : a3 = b3 <;> by_cases e4 : a4 = b4 <;> simp [e1, e2, e3, e4]
noncomputable def A_same : (Int) × (List Rep) × (Int) × (List Rep) → List PV := fun (st, rs, st2, rs2) => [.agg [I st, reps rs], .agg [I st2, reps rs2]]
noncomputable def R_same : (Int) × (List Rep) × (Int) × (List Rep) → PV := fun (st, rs, st2, rs2) => B (decide (st = st2 ∧ rs = rs2))
def H_same : (Int) × (List Rep) × (Int) × (List Rep) → Prop := fun (st, rs, st2, rs2) => True
noncomputable def e_same : Nat × Ent := (24, .v (specOf A_same R_same H_same))
theorem j_same : ∀ i j, A_same i = A_same j → i = j := by
  rintro ⟨st₁, rs₁, st2₁, rs2₁⟩ ⟨st₂, rs₂, st2₂, rs2₂⟩ h
  simp only [A_same, List.cons.injEq, and_true, PV.lits.injEq, PV.int.injEq, PV.bool.injEq, PV.str.injEq, PV.agg.injEq, PV.func.injEq, PV.vptr.injEq, true_and, List.map_nil, inj_ints, inj_strs, inj_reps] at h
  simp [Prod.ext_iff, h] <;> omega
theorem s_same (st : Int) (rs : List Rep) (st2 : Int) (rs2 : List Rep) : specOf A_same R_same H_same [.agg [I st, reps rs], .agg [I st2, reps rs2]] = some (B (decide (st = st2 ∧ rs = rs2))) := specOf_app j_same (i := (st, rs, st2, rs2)) trivial
def C_same : Prop := ∀ (st : Int) (rs : List Rep) (st2 : Int) (rs2 : List Rep) , VC Try.prog 24 [.agg [I st, reps rs], .agg [I st2, reps rs2]] (B (decide (st = st2 ∧ rs = rs2)))
def O_same : Prop := EntOK Try.prog e_same.1 e_same.2
theorem k_same (c : C_same) : O_same := specOf_ok fun ⟨st, rs, st2, rs2⟩ h => c st rs st2 rs2
theorem c_same : C_same := by
  intro st rs st2 rs2
  refine vc_ofU mixed (l := []) (eok_nil) [] []  Try.func24 rfl (by decide +kernel) (N := 38) rfl (by simp) rfl (by kernel_rfl) fun hs => ?_
  simp only [smallL, PV.small, List.length_map, and_true, true_and] at hs
  generalize hr : decide (st = st2 ∧ rs = rs2) = r
  by_cases h1 : st = st2
  case neg =>
    simp +contextual (maxSteps := 4000000) only [↓ur_seq, ↓ur_ret, ↓ur_region, ↓ur_cond, ↓cont_seq, ↓done_nil, ↓done_seq, ↓ops_consN, ↓ops_guardN, nY_move, nY_assign, nY_pick, nY_box, nY_load, nY_binOp, nY_fieldAddr, nY_callb, ↓ops_nil, opsIf_some, condC_true, guardC_tf, Option.map_some, Option.bind_some, Option.getD_some, Nat.reduceLT, Bool.false_eq_true, ↓upd_same, ↓upd_ne, Nat.reduceBEq, true_and, List.getD_cons_zero, List.getD_cons_succ, List.getElem?_toArray, List.getElem?_cons_zero, List.getElem?_cons_succ, endQ, cfg_P, cfg_muts, cfg_frz, List.contains_nil, decide_true, Option.some.injEq, exists_eq_left', List.length_cons, List.length_nil, Nat.zero_add, Nat.add_zero, Nat.reduceAdd, Nat.lt_succ_self, not_false_eq_true, st0, cells_agg, DRx_bool, ↓ev_tmp, ↓ev_bool, ↓guardP_eq, grd_some, ↓iop_move, ↓iop_assign, ↓pick3_bool, ↓iop_pick, ↓iop_box, ↓iop_load, ↓iop_binOp, ↓iop_fieldAddr, pickP_f, loadP_vptr, fieldP_vptr, b_neq, env0_eq, ires_eq, iresL_1, iresAll_nil, iresAll_cons, iresOne_tmp, ↓reduceIte, boxP_eq, see_eq, nth_reps, pur_reps, Try.f24, ty3, ty24, h1]
    rw [← hr]; simp [h1]
  by_cases h2 : rs.length = rs2.length
  case neg =>
    simp +contextual (maxSteps := 4000000) only [↓ur_seq, ↓ur_ret, ↓ur_region, ↓ur_cond, ↓cont_seq, ↓done_nil, ↓done_seq, ↓ops_consN, ↓ops_guardN, nY_move, nY_assign, nY_pick, nY_box, nY_load, nY_binOp, nY_fieldAddr, nY_callb, ↓ops_nil, opsIf_some, condC_true, guardC_ff, Option.map_some, Option.bind_some, Option.getD_some, Nat.reduceLT, Bool.false_eq_true, ↓upd_same, ↓upd_ne, Nat.reduceBEq, true_and, List.getD_cons_zero, List.getD_cons_succ, List.getElem?_toArray, List.getElem?_cons_zero, List.getElem?_cons_succ, endQ, cfg_P, cfg_muts, cfg_frz, List.length_map, List.contains_nil, decide_true, decide_false, Option.some.injEq, exists_eq_left', List.length_cons, List.length_nil, Nat.zero_add, Nat.add_zero, Nat.reduceAdd, Nat.lt_succ_self, not_true_eq_false, not_false_eq_true, st0, cells_agg, DRx_bool, ↓ev_tmp, ↓ev_bool, ↓guardP_eq, grd_some, ↓iop_move, ↓iop_assign, ↓pick3_bool, ↓iop_pick, ↓iop_box, ↓iop_load, ↓iop_binOp, ↓iop_fieldAddr, ↓iop_callb, bi_len, lenM_none, pickP_f, loadP_vptr, fieldP_vptr, lenP_lits, b_neq, env0_eq, ires_eq, iresL_1, iresAll_nil, iresAll_cons, iresOne_tmp, ↓reduceIte, boxP_eq, Int.natCast_inj, ↓evs_cons, ↓evs_nil, see_eq, nth_reps, pur_reps, Try.f24, ty3, ty22, ty24, h1, h2]
    rw [← hr]; simp [h1]; intro e; exact h2 (by rw [e])
  simp +contextual (maxSteps := 4000000) only [↓ur_skip, ↓ur_seq, ↓ur_block, ↓ur_region, ↓ur_cond, ↓cont_seq, ↓ops_consN, ↓ops_guardN, nY_move, nY_assign, nY_pick, nY_box, nY_load, nY_binOp, nY_fieldAddr, nY_callb, ↓ops_nil, opsIf_some, condC_false, guardC_ff, Option.map_some, Option.bind_some, Option.getD_some, Nat.reduceLT, Bool.false_eq_true, ↓upd_same, ↓upd_ne, Nat.reduceBEq, true_and, List.getD_cons_zero, List.getD_cons_succ, List.getElem?_toArray, List.getElem?_cons_zero, List.getElem?_cons_succ, cfg_P, cfg_muts, cfg_frz, List.length_map, List.contains_nil, decide_false, List.length_cons, List.length_nil, Nat.zero_add, Nat.add_zero, Nat.reduceAdd, Nat.lt_succ_self, not_true_eq_false, st0, cells_agg, ↓ev_tmp, ↓ev_int, ↓ev_bool, ↓guardP_eq, grd_some, ↓iop_move, ↓iop_assign, ↓pick3_bool, ↓iop_pick, ↓iop_box, ↓iop_load, ↓iop_binOp, ↓iop_fieldAddr, ↓iop_callb, bi_len, lenM_none, pickP_f, loadP_vptr, fieldP_vptr, lenP_lits, b_neq, env0_eq, ↓reduceIte, boxP_eq, ↓evs_cons, ↓evs_nil, see_eq, nth_reps, pur_reps, Try.f24, ty3, ty22, ty24, h1, h2]
  refine loop_cnt [4, 5, 20, 21, 22, 23, 24, 25, 26, 27, 28, 29, 30, 31, 32, 33, 34, 35, 36, 37] rs2.length (fun k ρ st => ρ 5 = I k ∧ (∀ i, i < k → rs.getD i dR = rs2.getD i dR)) (.refl _) ?_ ?_
  · simp +contextual (maxSteps := 4000000) only [↓upd_same, true_and, Int.cast_ofNat_Int, nth_reps, pur_reps, Try.f24]
    exact fun i hi => absurd hi (by omega)
  · rintro k ρ ⟨ob, M⟩ hk ⟨h5, h3⟩
    by_cases hlt : k < rs2.length
    · by_cases he : rs.getD k dR = rs2.getD k dR
      · simp +contextual (maxSteps := 4000000) only [↓ur_skip, ↓ur_seq, ↓ur_block, ↓ur_region, ↓ur_cond, ↓cont_seq, ↓cont_blk, ↓cont_lp, ↓ops_consN, nY_move, nY_assign, nY_load, nY_binOp, nY_fieldAddr, nY_indexAddr, nY_callb, ↓ops_nil, opsIf_some, condC_true, condC_false, Option.map_some, Option.bind_some, Option.getD_some, Nat.reduceLT, Bool.false_eq_true, ↓upd_same, ↓upd_ne, Nat.reduceBEq, true_and, and_true, List.getElem?_cons_zero, List.getElem?_cons_succ, cfg_P, cfg_frz, List.length_map, ↓havoc_in, ↓havoc_out, agree_upd, agree_havoc, List.contains_cons, List.contains_nil, Bool.or_false, Bool.or_true, Int.natCast_nonneg, Int.ofNat_lt, Int.toNat_natCast, decide_true, decide_false, PV.int.injEq, List.length_cons, List.length_nil, Nat.zero_add, List.drop_zero, Nat.reduceAdd, Nat.lt_succ_self, not_true_eq_false, Nat.le_refl, cells_agg, ↓ev_tmp, ↓ev_int, ↓iop_move, ↓iop_assign, ↓iop_load, ↓iop_binOp, ↓iop_fieldAddr, ↓iop_indexAddr, idxA_int, ↓iop_callb, bi_len, lenM_none, pickP_f, pickP_t, loadP_vptr, fieldP_vptr, indexP_lits, lenP_lits, b_add, b_lss, ↓reduceIte, List.take_succ_cons, List.take_nil, ↓evs_cons, ↓evs_nil, beq_self_eq_true, see_eq, nth_reps, pur_reps, Try.f24, ty22, ty24, ty56, h5, h2, hlt, neq_rep, he]
        exact ⟨by rw [wrap64 (by omega) (by omega)]; rfl, upto_succ h3 he⟩
      · simp +contextual (maxSteps := 4000000) only [↓ur_skip, ↓ur_seq, ↓ur_block, ↓ur_ret, ↓ur_region, ↓ur_cond, ↓cont_seq, ↓done_nil, ↓done_seq, ↓done_blk, ↓done_lp, ↓ops_consN, nY_move, nY_assign, nY_load, nY_binOp, nY_fieldAddr, nY_indexAddr, nY_callb, ↓ops_nil, opsIf_some, condC_true, Option.map_some, Option.bind_some, Option.getD_some, Nat.reduceLT, Bool.false_eq_true, ↓upd_same, ↓upd_ne, Nat.reduceBEq, true_and, and_true, List.getElem?_cons_zero, List.getElem?_cons_succ, endQ, cfg_P, cfg_frz, List.length_map, ↓havoc_in, ↓havoc_out, List.contains_cons, List.contains_nil, Bool.or_false, Bool.or_true, Int.natCast_nonneg, Int.ofNat_lt, Int.toNat_natCast, decide_true, Option.some.injEq, exists_eq_left', List.length_cons, List.length_nil, Nat.zero_add, List.drop_zero, Nat.reduceAdd, Nat.lt_succ_self, not_false_eq_true, Nat.le_refl, cells_agg, DRx_bool, ↓ev_tmp, ↓ev_bool, ↓iop_move, ↓iop_assign, ↓iop_load, ↓iop_binOp, ↓iop_fieldAddr, ↓iop_indexAddr, idxA_int, ↓iop_callb, bi_len, lenM_none, pickP_f, pickP_t, loadP_vptr, fieldP_vptr, indexP_lits, lenP_lits, b_lss, ires_eq, iresL_1, iresAll_nil, iresAll_cons, iresOne_tmp, ↓reduceIte, List.take_succ_cons, List.take_nil, ↓evs_cons, ↓evs_nil, beq_self_eq_true, see_eq, nth_reps, pur_reps, Try.f24, ty22, ty24, ty56, h5, h2, hlt, neq_rep, he]
        rw [← hr]
        exact (decide_eq_false fun e => he (by rw [e.2])).symm
    · simp +contextual (maxSteps := 4000000) only [↓ur_seq, ↓ur_exit, ↓ur_ret, ↓ur_region, ↓ur_cond, ↓cont_seq, ↓leave_seq, ↓leave_blk, ↓leave_lp, ↓done_nil, ↓ops_consN, nY_move, nY_assign, nY_load, nY_binOp, nY_fieldAddr, nY_callb, ↓ops_nil, opsIf_some, condC_false, Option.map_some, Option.bind_some, Option.getD_some, Nat.reduceLT, Bool.false_eq_true, ↓upd_same, ↓upd_ne, Nat.reduceBEq, true_and, List.getElem?_cons_zero, List.getElem?_cons_succ, endQ, cfg_P, cfg_frz, List.length_map, ↓havoc_in, ↓havoc_out, List.contains_cons, List.contains_nil, Bool.or_false, Bool.or_true, Int.ofNat_lt, decide_false, Option.some.injEq, exists_eq_left', Nat.zero_add, Nat.lt_succ_self, DRx_bool, ↓ev_tmp, ↓ev_bool, ↓iop_move, ↓iop_assign, ↓iop_load, ↓iop_binOp, ↓iop_fieldAddr, ↓iop_callb, bi_len, lenM_none, pickP_f, loadP_vptr, fieldP_vptr, lenP_lits, b_lss, ires_eq, iresL_1, iresAll_nil, iresAll_cons, iresOne_tmp, ↓reduceIte, ↓evs_cons, ↓evs_nil, beq_self_eq_true, see_eq, nth_reps, pur_reps, Try.f24, ty22, ty24, h5, h2, hlt]
      rw [← hr]
      exact (decide_eq_true ⟨h1, ext_reps h2 fun i hi => h3 i (by omega)⟩).symm
theorem o_same : O_same := k_same c_same

noncomputable def A_example : Int → List PV := fun d => [I d]
noncomputable def R_example : Int → PV := fun d => .agg [I 10, reps [(3, 20, 30, 0), (1, 20, 20, 0), (2, d, 1, 2)]]
def H_example : Int → Prop := fun d => True
noncomputable def e_example : Nat × Ent := (37, .v (specOf A_example R_example H_example))
theorem j_example : ∀ i j, A_example i = A_example j → i = j := by
  rintro d₁ d₂ h
  simp only [A_example, List.cons.injEq, and_true, PV.lits.injEq, PV.int.injEq, PV.bool.injEq, PV.str.injEq, PV.agg.injEq, PV.func.injEq, PV.vptr.injEq, true_and, List.map_nil, inj_ints, inj_strs, inj_reps] at h
  first | exact h | omega
theorem s_example (d : Int) : specOf A_example R_example H_example [I d] = some (.agg [I 10, reps [(3, 20, 30, 0), (1, 20, 20, 0), (2, d, 1, 2)]]) := specOf_app j_example (i := d) trivial
def C_example : Prop := ∀ (d : Int) , VC Try.prog 37 [I d] (.agg [I 10, reps [(3, 20, 30, 0), (1, 20, 20, 0), (2, d, 1, 2)]])
def O_example : Prop := EntOK Try.prog e_example.1 e_example.2
theorem k_example (c : C_example) : O_example := specOf_ok fun d h => c d
theorem c_example : C_example := by
  intro d
  refine vc_ofU mixed (l := []) (eok_nil) [] []  Try.func37 rfl (by decide +kernel) (N := 9) rfl (by simp) rfl (by kernel_rfl) fun hs => ?_
  simp only [smallL, PV.small, List.length_map, and_true, true_and] at hs
  simp +contextual (maxSteps := 4000000) only [↓ur_seq, ↓ur_ret, ↓ur_region, ↓cont_seq, ↓done_nil, ↓ops_consN, nY_move, nY_alloc, nY_build, nY_buildSlice, nY_store, ↓ops_nil, opsIf_some, opsIf_none, Option.map_some, Option.bind_some, Option.getD_some, Nat.reduceLT, Bool.false_eq_true, ↓upd_same, ↓upd_ne, Nat.reduceBEq, and_true, List.getD_cons_zero, endQ, cfg_P, cfg_muts, cfg_num, numOf_eq, List.map_cons, List.map_nil, List.contains_nil, Option.some.injEq, exists_eq_left', Bool.and_self, List.cons_append, List.nil_append, List.append_nil, updO_same, List.length_cons, List.length_nil, Nat.zero_add, List.drop_zero, List.take_zero, Nat.reduceAdd, List.replicate_succ, List.replicate_zero, List.set_cons_zero, List.set_cons_succ, Nat.reduceMul, Nat.reduceLeDiff, nth_zero, Nat.lt_succ_self, st0, Nat.le_refl, cells_int, pur_int, isCell_int, cells_lits, isCell_lits, cells_agg, pur_agg, DRx_int, DRx_lits, DRx_agg, DRxL_cons, DRxL_nil, ↓ev_tmp, ↓ev_int, ↓iop_move, ↓iop_alloc, ↓iop_build, ↓iop_buildSlice, ↓iop_store, pickP_t, loadP_ptr, setCells_agg, storeP_ptr, fill_nil, fill_cons, fill1_some, buildP_eq, bldA_none, bel_nil, bel_cons, splice_eq, env0_eq, ires_eq, iresL_1, iresAll_nil, iresAll_cons, iresOne_cell, pursL_cons, pursL_nil, Store.new, Store.set, ↓reduceIte, arr_eq, arrB_some, bslP_eq, List.take_succ_cons, List.drop_succ_cons, List.drop_nil, List.take_nil, ↓evp_cons, ↓evp_nil, List.all_cons, List.all_nil, nth_reps, pur_reps, Try.f37, ty22, ty24, ty56]
theorem o_example : O_example := k_example c_example

theorem crowd_iff {im : List Int} {g : Nat} {late : Int} (h : -1099511627776 < late) : ∀ n, maxT im g n < late ↔ ∀ k, k < n → g.testBit k = true → im.getD k 0 < late
  | 0 => by simp [maxT, h]
  | n + 1 => by
    have ih := crowd_iff (im := im) (g := g) h n
    simp only [maxT]
    constructor
    · intro hm k hk hg
      by_cases e : k = n
      · subst e
        rw [if_pos hg] at hm
        split at hm <;> omega
      · refine ih.1 ?_ k (by omega) hg
        split at hm
        · split at hm <;> omega
        · exact hm
    · intro hk
      have h1 := ih.2 fun k hk' => hk k (by omega)
      split
      · rename_i hg
        have := hk n (by omega) hg
        split <;> omega
      · exact h1
noncomputable def A_rCrowded : (Int) × (List Rep) × (Int) → List PV := fun (st, rs, s) => [.agg [I st, reps rs], I s]
noncomputable def R_rCrowded : (Int) × (List Rep) × (Int) → PV := fun (st, rs, s) => B (crowdedM st rs s)
def H_rCrowded : (Int) × (List Rep) × (Int) → Prop := fun (st, rs, s) => True
noncomputable def e_rCrowded : Nat × Ent := (26, .v (specOf A_rCrowded R_rCrowded H_rCrowded))
theorem j_rCrowded : ∀ i j, A_rCrowded i = A_rCrowded j → i = j := by
  rintro ⟨st₁, rs₁, s₁⟩ ⟨st₂, rs₂, s₂⟩ h
  simp only [A_rCrowded, List.cons.injEq, and_true, PV.lits.injEq, PV.int.injEq, PV.bool.injEq, PV.str.injEq, PV.agg.injEq, PV.func.injEq, PV.vptr.injEq, true_and, List.map_nil, inj_ints, inj_strs, inj_reps] at h
  simp [Prod.ext_iff, h] <;> omega
theorem s_rCrowded (st : Int) (rs : List Rep) (s : Int) : specOf A_rCrowded R_rCrowded H_rCrowded [.agg [I st, reps rs], I s] = some (B (crowdedM st rs s)) := specOf_app j_rCrowded (i := (st, rs, s)) trivial
def C_rCrowded : Prop := ∀ (st : Int) (rs : List Rep) (s : Int) , VC Try.prog 26 [.agg [I st, reps rs], I s] (B (crowdedM st rs s))
def O_rCrowded : Prop := EntOK Try.prog e_rCrowded.1 e_rCrowded.2
theorem k_rCrowded (c : C_rCrowded) : O_rCrowded := specOf_ok fun ⟨st, rs, s⟩ h => c st rs s
theorem c_rCrowded : C_rCrowded := by
  rintro st rs s
  refine vc_ofU mixed (l := [e_rImp, e_bit, e_rload, e_in]) ((eok_cons o_rImp (eok_cons o_bit (eok_cons o_rload (eok_cons o_in eok_nil))))) [] [26, 27, 28]  Try.func26 rfl (by decide +kernel) (N := 52) rfl (by simp) rfl (by kernel_rfl) fun hs => ?_
  simp only [smallL, PV.small, List.length_map, and_true, true_and] at hs
  by_cases h : checkM st rs = 0
  case neg =>
    rw [show crowdedM st rs s = false by simp [crowdedM, h]]
    generalize hr : checkM st rs = r at *
    simp +contextual (maxSteps := 4000000) only [↓ur_seq, ↓ur_ret, ↓ur_region, ↓ur_cond, ↓cont_seq, ↓done_nil, ↓done_seq, ↓ops_consN, ↓ops_guardN, nY_move, nY_assign, nY_pick, nY_alloc, nY_box, nY_load, nY_store, nY_binOp, nY_fieldAddr, nY_callf, nY_callb, ↓ops_nil, opsIf_some, opsIf_none, condC_true, guardC_tf, Option.map_some, Option.bind_some, Option.getD_some, Nat.reduceLT, Bool.false_eq_true, ↓upd_same, ↓upd_ne, Nat.reduceBEq, and_true, List.getD_cons_zero, List.getElem?_toArray, List.getElem?_cons_zero, List.getElem?_cons_succ, endQ, cfg_P, cfg_tab, cfg_muts, cfg_frz, cfg_num, numOf_eq, List.contains_cons, List.contains_nil, Bool.or_false, decide_true, Option.some.injEq, exists_eq_left', List.lookup_cons, List.lookup_nil, tabOf_cons, tab_v, Bool.and_self, List.nil_append, List.append_nil, updO_same, List.length_cons, List.length_nil, Nat.zero_add, List.drop_zero, List.take_zero, Nat.reduceAdd, List.set_cons_zero, nth_zero, Nat.lt_succ_self, not_false_eq_true, st0, Nat.le_refl, pur_int, pur_lits, cells_agg, pur_agg, DRx_bool, ↓ev_tmp, ↓ev_int, ↓ev_bool, ↓ev_func, ↓guardP_eq, grd_some, ↓iop_move, ↓iop_assign, ↓pick3_bool, ↓iop_pick, ↓iop_alloc, ↓iop_box, ↓iop_load, ↓iop_store, ↓iop_binOp, ↓iop_fieldAddr, ↓iop_callv, nrmAll_cons, nrmAll_nil, nrm_agg, nrmL_cons, nrmL_nil, nrm1_int, nrm1_lits, pickP_f, pickP_t, loadP_vptr, loadP_ptr, setCells_agg, storeP_ptr, fieldP_ptr, b_neq, splice_eq, env0_eq, ires_eq, iresL_1, iresAll_nil, iresAll_cons, iresOne_tmp, valT_eq, pursL_cons, pursL_nil, Store.new, Store.set, ↓reduceIte, arr_eq, arrB_some, callP_eq, boxP_eq, List.take_succ_cons, List.drop_succ_cons, List.drop_nil, List.take_nil, ↓evs_cons, ↓evs_nil, beq_self_eq_true, see_eq, and_false, Bool.true_eq_false, e_rImp, s_rImp, e_bit, e_rload, e_in, nth_reps, pur_reps, Try.f26, ty24, ty28, ty32, h, hr]
  have hc := check_zero.1 h
  have h10 := hc.len
  have hwm : crowdedM st rs s = (decide (1 ≤ s ∧ s ≤ ((2 ^ rs.length - 1 : Nat) : Int)) && decide (maxT (impM rs) s.toNat rs.length < st + loadM rs s.toNat)) := by simp [crowdedM, h]
  generalize hr : crowdedM st rs s = r
  have hp := pow1024 (k := rs.length) h10
  have hp1 := one_le_pow rs.length
  have h60 : rs.length ≤ 60 := by omega
  by_cases hin : 1 ≤ s ∧ s ≤ ((2 ^ rs.length - 1 : Nat) : Int)
  case neg =>
    have : r = false := by rw [← hr, hwm]; simp only [hin, decide_false, Bool.false_and]
    subst this
    by_cases h1 : s < 1
    · simp +contextual (maxSteps := 4000000) only [↓ur_seq, ↓ur_ret, ↓ur_region, ↓ur_cond, ↓cont_seq, ↓done_nil, ↓done_seq, ↓ops_consN, ↓ops_guardN, nY_move, nY_assign, nY_pick, nY_alloc, nY_box, nY_load, nY_store, nY_binOp, nY_fieldAddr, nY_callf, nY_callb, ↓ops_nil, opsIf_some, opsIf_none, condC_true, guardC_tf, guardC_ff, Option.map_some, Option.bind_some, Option.getD_some, Nat.reduceLT, Bool.false_eq_true, ↓upd_same, ↓upd_ne, Nat.reduceBEq, and_true, List.getD_cons_zero, List.getD_cons_succ, List.getElem?_toArray, List.getElem?_cons_zero, List.getElem?_cons_succ, endQ, cfg_P, cfg_tab, cfg_muts, cfg_frz, cfg_num, numOf_eq, List.contains_cons, List.contains_nil, Bool.or_false, decide_true, decide_false, Option.some.injEq, exists_eq_left', List.lookup_cons, List.lookup_nil, tabOf_cons, tab_v, Bool.and_self, List.nil_append, List.append_nil, updO_same, List.length_cons, List.length_nil, Nat.zero_add, List.drop_zero, List.take_zero, Nat.reduceAdd, List.set_cons_zero, nth_zero, Nat.lt_succ_self, not_true_eq_false, st0, Nat.le_refl, pur_int, pur_lits, cells_agg, pur_agg, DRx_bool, ↓ev_tmp, ↓ev_int, ↓ev_bool, ↓ev_func, ↓guardP_eq, grd_some, ↓iop_move, ↓iop_assign, ↓pick3_bool, ↓iop_pick, ↓iop_alloc, ↓iop_box, ↓iop_load, ↓iop_store, ↓iop_binOp, ↓iop_fieldAddr, ↓iop_callv, nrmAll_cons, nrmAll_nil, nrm_agg, nrmL_cons, nrmL_nil, nrm1_int, nrm1_lits, pickP_f, pickP_t, loadP_vptr, loadP_ptr, setCells_agg, storeP_ptr, fieldP_ptr, b_neq, b_lss, splice_eq, env0_eq, ires_eq, iresL_1, iresAll_nil, iresAll_cons, iresOne_tmp, valT_eq, pursL_cons, pursL_nil, Store.new, Store.set, ↓reduceIte, arr_eq, arrB_some, callP_eq, boxP_eq, List.take_succ_cons, List.drop_succ_cons, List.drop_nil, List.take_nil, ↓evs_cons, ↓evs_nil, beq_self_eq_true, see_eq, and_false, Bool.true_eq_false, e_rImp, s_rImp, e_bit, e_rload, e_in, nth_reps, pur_reps, Try.f26, ty24, ty28, ty32, h, h1]
    · have h2 : ((2 ^ rs.length : Nat) : Int) ≤ s := by
        generalize 2 ^ rs.length = q at *
        omega
      simp +contextual (maxSteps := 4000000) only [↓ur_seq, ↓ur_ret, ↓ur_region, ↓ur_cond, ↓cont_seq, ↓done_nil, ↓done_seq, ↓ops_consN, ↓ops_guardN, nY_move, nY_assign, nY_pick, nY_alloc, nY_box, nY_load, nY_store, nY_binOp, nY_fieldAddr, nY_callf, nY_callb, ↓ops_nil, opsIf_some, opsIf_none, condC_true, guardC_ff, Option.map_some, Option.bind_some, Option.getD_some, Nat.reduceLT, Bool.false_eq_true, ↓upd_same, ↓upd_ne, Nat.reduceBEq, and_true, List.getD_cons_zero, List.getD_cons_succ, List.getElem?_toArray, List.getElem?_cons_zero, List.getElem?_cons_succ, endQ, cfg_P, cfg_tab, cfg_muts, cfg_frz, cfg_num, numOf_eq, List.length_map, List.contains_cons, List.contains_nil, Bool.or_false, decide_true, decide_false, Option.some.injEq, exists_eq_left', List.lookup_cons, List.lookup_nil, tabOf_cons, tab_v, Bool.and_self, Nat.reduceEqDiff, List.nil_append, List.append_nil, updO_same, List.length_cons, List.length_nil, Nat.zero_add, List.drop_zero, List.take_zero, Nat.reduceAdd, List.set_cons_zero, nth_zero, Nat.lt_succ_self, not_true_eq_false, st0, Nat.le_refl, pur_int, pur_lits, cells_agg, pur_agg, DRx_bool, ↓ev_tmp, ↓ev_int, ↓ev_bool, ↓ev_func, ↓guardP_eq, grd_some, ↓iop_move, ↓iop_assign, ↓pick3_bool, ↓iop_pick, ↓iop_alloc, ↓iop_box, ↓iop_load, ↓iop_store, ↓iop_binOp, ↓iop_fieldAddr, ↓iop_callv, ↓iop_callb, nrmAll_cons, nrmAll_nil, bi_len, lenM_none, nrm_agg, nrmL_cons, nrmL_nil, nrm_int, nrm1_int, nrm1_lits, pickP_f, pickP_t, loadP_vptr, loadP_ptr, setCells_agg, storeP_ptr, fieldP_vptr, fieldP_ptr, lenP_lits, b_neq, b_lss, b_geq, splice_eq, env0_eq, ires_eq, iresL_1, iresAll_nil, iresAll_cons, iresOne_tmp, valT_eq, pursL_cons, pursL_nil, Store.new, Store.set, ↓reduceIte, arr_eq, arrB_some, callP_eq, boxP_eq, List.take_succ_cons, List.drop_succ_cons, List.drop_nil, List.take_nil, ↓evs_cons, ↓evs_nil, beq_self_eq_true, see_eq, and_false, Bool.true_eq_false, e_rImp, s_rImp, e_bit, s_bit, e_rload, e_in, nth_reps, pur_reps, Try.f26, ty3, ty22, ty24, ty28, ty32, h, h1, h60, h2]
  obtain ⟨g, hg⟩ : ∃ g : Nat, s = g := ⟨s.toNat, by omega⟩
  subst hg
  have hst := hc.start
  have hb := load_bound hc.tk g rs.length (Nat.le_refl _)
  have hwm : crowdedM st rs g = decide (maxT (impM rs) g rs.length < st + loadM rs g) := by rw [hwm]; simp only [hin, and_self, decide_true, Bool.true_and, Int.toNat_natCast]
  have hci := crowd_iff (im := impM rs) (g := g) (late := st + loadM rs g) (by unfold loadM; omega) rs.length
  have hg2 : g < 9223372036854775808 := by
    generalize 2 ^ rs.length = q at *
    omega
  have hs1 : ¬ (g : Int) < 1 := by omega
  have hs2 : ¬ ((2 ^ rs.length : Nat) : Int) ≤ (g : Int) := by
    generalize 2 ^ rs.length = q at *
    omega
  have hwl : IntKind.i64.wrap (st + loadM rs g) = st + loadM rs g := wrap64 (by unfold loadM; omega) (by unfold loadM; omega)
  have hw : ∀ i : Nat, i < rs.length → IntKind.i64.wrap ((i : Int) + 1) = ((i + 1 : Nat) : Int) := fun i g => by rw [wrap64 (by omega) (by omega)]; omega
  simp +contextual (maxSteps := 4000000) only [↓ur_skip, ↓ur_seq, ↓ur_block, ↓ur_region, ↓ur_cond, ↓cont_seq, ↓ops_consN, ↓ops_guardN, nY_move, nY_assign, nY_pick, nY_alloc, nY_box, nY_load, nY_store, nY_binOp, nY_fieldAddr, nY_callf, nY_callb, ↓ops_nil, opsIf_some, opsIf_none, condC_false, guardC_ff, Option.map_some, Option.bind_some, Option.getD_some, Nat.reduceLT, Bool.false_eq_true, ↓upd_same, ↓upd_ne, Nat.reduceBEq, true_and, and_true, List.getD_cons_zero, List.getD_cons_succ, List.getElem?_toArray, List.getElem?_cons_zero, List.getElem?_cons_succ, cfg_P, cfg_tab, cfg_muts, cfg_frz, cfg_num, numOf_eq, List.length_map, List.contains_cons, List.contains_nil, Bool.or_false, Bool.or_true, decide_false, List.lookup_cons, List.lookup_nil, tabOf_cons, tab_v, Bool.and_self, Nat.reduceEqDiff, List.nil_append, List.append_nil, updO_same, List.length_cons, List.length_nil, Nat.zero_add, Nat.add_zero, List.drop_zero, List.take_zero, Nat.reduceAdd, List.set_cons_zero, nth_zero, Nat.lt_succ_self, not_true_eq_false, st0, Nat.le_refl, pur_int, pur_lits, cells_agg, pur_agg, ↓ev_tmp, ↓ev_int, ↓ev_bool, ↓ev_func, ↓guardP_eq, grd_some, ↓iop_move, ↓iop_assign, ↓pick3_bool, ↓iop_pick, ↓iop_alloc, ↓iop_box, ↓iop_load, ↓iop_store, ↓iop_binOp, ↓iop_fieldAddr, ↓iop_callv, ↓iop_callb, nrmAll_cons, nrmAll_nil, bi_len, lenM_none, nrm_agg, nrmL_cons, nrmL_nil, nrm_int, nrm1_int, nrm1_lits, pickP_f, pickP_t, loadP_vptr, loadP_ptr, setCells_agg, storeP_ptr, fieldP_vptr, fieldP_ptr, lenP_lits, b_add, b_neq, b_lss, b_geq, splice_eq, env0_eq, valT_eq, pursL_cons, pursL_nil, Store.new, Store.set, ↓reduceIte, arr_eq, arrB_some, callP_eq, boxP_eq, List.take_succ_cons, List.drop_succ_cons, List.drop_nil, List.take_nil, ↓evs_cons, ↓evs_nil, beq_self_eq_true, see_eq, and_false, Bool.true_eq_false, e_rImp, s_rImp, e_bit, s_bit, e_rload, s_rload, e_in, nth_reps, pur_reps, Try.f26, ty3, ty22, ty24, ty28, ty32, h, h60, hs1, hs2, hc.tk, hg2, hwl]
  refine loop_cnt [4, 7, 8, 32, 33, 34, 35, 36, 37, 38, 39, 40, 41, 42, 43, 44, 45, 46, 47, 48, 49, 50, 51] rs.length (fun k ρ st' => ρ 7 = I k ∧ st'.obj 0 = some (.arr 0 2 [.agg [ints (impM rs), I 0]]) ∧ ∀ j, j < k → g.testBit j = true → (impM rs).getD j 0 < st + loadM rs g) (.refl _) ?_ ?_
  · simp +contextual (maxSteps := 4000000) only [↓upd_same, true_and, updO_same, Int.cast_ofNat_Int, nth_reps, pur_reps, Try.f26, h]
    exact fun j hj => by omega
  · rintro k ρ ⟨ob, M⟩ hk ⟨h36, h0, hno⟩
    dsimp only at h0
    by_cases hlt : k < rs.length
    · have hk64 : k ≤ 64 := by omega
      have hno' : (g.testBit k = true → (impM rs).getD k 0 < st + loadM rs g) → ∀ j, j < k + 1 → g.testBit j = true → (impM rs).getD j 0 < st + loadM rs g := fun h j hj => by
        by_cases e : j = k
        · subst e; exact h
        · exact hno j (by omega)
      cases hgk : g.testBit k
      · simp +contextual (maxSteps := 4000000) only [↓ur_skip, ↓ur_seq, ↓ur_block, ↓ur_region, ↓ur_cond, ↓cont_seq, ↓cont_blk, ↓cont_lp, ↓ops_consN, ↓ops_guardN, nY_move, nY_assign, nY_pick, nY_load, nY_binOp, nY_fieldAddr, nY_indexAddr, nY_callf, nY_callb, ↓ops_nil, opsIf_some, condC_true, condC_false, guardC_ft, Option.map_some, Option.bind_some, Option.getD_some, Nat.reduceLT, Bool.false_eq_true, ↓upd_same, ↓upd_ne, Nat.reduceBEq, true_and, and_true, List.getD_cons_zero, List.getD_cons_succ, List.getElem?_toArray, List.getElem?_cons_zero, List.getElem?_cons_succ, cfg_P, cfg_tab, cfg_muts, cfg_frz, List.length_map, ↓havoc_in, ↓havoc_out, agree_upd, agree_havoc, List.contains_cons, List.contains_nil, Bool.or_false, Bool.or_true, Int.ofNat_lt, decide_true, PV.int.injEq, tabOf_cons, tab_v, Bool.and_self, Nat.reduceEqDiff, List.nil_append, List.append_nil, Nat.add_zero, nth_zero, Nat.lt_succ_self, pur_int, cells_agg, ↓ev_tmp, ↓ev_int, ↓ev_bool, ↓ev_func, ↓guardP_eq, grd_some, ↓iop_move, ↓iop_assign, ↓pick3_bool, ↓iop_pick, ↓iop_load, ↓iop_binOp, ↓iop_fieldAddr, ↓iop_callv, ↓iop_callb, nrmAll_cons, nrmAll_nil, bi_len, lenM_none, nrm_int, pickP_f, loadP_ptr, fieldP_ptr, lenP_lits, b_add, b_lss, env0_eq, valT_eq, pursL_cons, pursL_nil, ↓reduceIte, arr_eq, arrB_some, callP_eq, ↓evs_cons, ↓evs_nil, beq_self_eq_true, see_eq, and_false, Bool.true_eq_false, s_in, nth_reps, pur_reps, Try.f26, ty3, ty25, ty32, h36, h0, impM_len, hlt, hg2, hk64, hgk]
        exact ⟨hw k hlt, hno' (by simp [hgk])⟩
      · by_cases hle : st + loadM rs g ≤ (impM rs).getD k 0
        · have hf : ¬ maxT (impM rs) g rs.length < st + loadM rs g := fun hm => by have := hci.1 hm k hlt hgk; omega
          simp +contextual (maxSteps := 4000000) only [↓ur_skip, ↓ur_seq, ↓ur_block, ↓ur_ret, ↓ur_region, ↓ur_cond, ↓cont_seq, ↓done_nil, ↓done_seq, ↓done_blk, ↓done_lp, ↓ops_consN, ↓ops_guardN, nY_move, nY_assign, nY_pick, nY_load, nY_binOp, nY_fieldAddr, nY_indexAddr, nY_callf, nY_callb, ↓ops_nil, opsIf_some, condC_true, guardC_tt, Option.map_some, Option.bind_some, Option.getD_some, Nat.reduceLT, Bool.false_eq_true, ↓upd_same, ↓upd_ne, Nat.reduceBEq, true_and, and_true, List.getD_cons_zero, List.getD_cons_succ, List.getElem?_toArray, List.getElem?_cons_zero, List.getElem?_cons_succ, endQ, cfg_P, cfg_tab, cfg_muts, cfg_frz, List.length_map, ↓havoc_in, ↓havoc_out, List.contains_cons, List.contains_nil, Bool.or_false, Bool.or_true, Int.natCast_nonneg, Int.ofNat_lt, Int.toNat_natCast, nth_int, decide_true, Option.some.injEq, exists_eq_left', tabOf_cons, tab_v, Bool.and_self, Nat.reduceEqDiff, List.nil_append, List.append_nil, Nat.add_zero, nth_zero, Nat.lt_succ_self, cells_int, pur_int, cells_agg, DRx_bool, ↓ev_tmp, ↓ev_bool, ↓ev_func, ↓guardP_eq, grd_some, ↓iop_move, ↓iop_assign, ↓pick3_bool, ↓iop_pick, ↓iop_load, ↓iop_binOp, ↓iop_fieldAddr, ↓iop_indexAddr, idxA_int, ↓iop_callv, ↓iop_callb, nrmAll_cons, nrmAll_nil, bi_len, lenM_none, nrm_int, pickP_f, loadP_vptr, loadP_ptr, fieldP_ptr, indexP_lits, lenP_lits, b_lss, b_leq, env0_eq, ires_eq, iresL_1, iresAll_nil, iresAll_cons, iresOne_tmp, valT_eq, pursL_cons, pursL_nil, ↓reduceIte, arr_eq, arrB_some, callP_eq, ↓evs_cons, ↓evs_nil, beq_self_eq_true, see_eq, and_false, Bool.true_eq_false, s_in, nth_reps, pur_reps, Try.f26, ty3, ty25, ty32, h36, h0, impM_len, hlt, hg2, hk64, hgk, hle]
          rw [← hr, hwm, decide_eq_false hf]
        · simp +contextual (maxSteps := 4000000) only [↓ur_skip, ↓ur_seq, ↓ur_block, ↓ur_region, ↓ur_cond, ↓cont_seq, ↓cont_blk, ↓cont_lp, ↓ops_consN, ↓ops_guardN, nY_move, nY_assign, nY_pick, nY_load, nY_binOp, nY_fieldAddr, nY_indexAddr, nY_callf, nY_callb, ↓ops_nil, opsIf_some, condC_true, condC_false, guardC_tt, Option.map_some, Option.bind_some, Option.getD_some, Nat.reduceLT, Bool.false_eq_true, ↓upd_same, ↓upd_ne, Nat.reduceBEq, true_and, and_true, List.getD_cons_zero, List.getD_cons_succ, List.getElem?_toArray, List.getElem?_cons_zero, List.getElem?_cons_succ, cfg_P, cfg_tab, cfg_muts, cfg_frz, List.length_map, ↓havoc_in, ↓havoc_out, agree_upd, agree_havoc, List.contains_cons, List.contains_nil, Bool.or_false, Bool.or_true, Int.natCast_nonneg, Int.ofNat_lt, Int.toNat_natCast, nth_int, decide_true, decide_false, PV.int.injEq, tabOf_cons, tab_v, Bool.and_self, Nat.reduceEqDiff, List.nil_append, List.append_nil, Nat.add_zero, nth_zero, Nat.lt_succ_self, cells_int, pur_int, cells_agg, ↓ev_tmp, ↓ev_int, ↓ev_func, ↓guardP_eq, grd_some, ↓iop_move, ↓iop_assign, ↓pick3_bool, ↓iop_pick, ↓iop_load, ↓iop_binOp, ↓iop_fieldAddr, ↓iop_indexAddr, idxA_int, ↓iop_callv, ↓iop_callb, nrmAll_cons, nrmAll_nil, bi_len, lenM_none, nrm_int, pickP_f, loadP_vptr, loadP_ptr, fieldP_ptr, indexP_lits, lenP_lits, b_add, b_lss, b_leq, env0_eq, valT_eq, pursL_cons, pursL_nil, ↓reduceIte, arr_eq, arrB_some, callP_eq, ↓evs_cons, ↓evs_nil, beq_self_eq_true, see_eq, and_false, Bool.true_eq_false, s_in, nth_reps, pur_reps, Try.f26, ty3, ty25, ty32, h36, h0, impM_len, hlt, hg2, hk64, hgk, hle]
          exact ⟨hw k hlt, hno' (fun _ => by omega)⟩
    · have e : k = rs.length := by omega
      subst e
      simp +contextual (maxSteps := 4000000) only [↓ur_seq, ↓ur_exit, ↓ur_ret, ↓ur_region, ↓ur_cond, ↓cont_seq, ↓leave_seq, ↓leave_blk, ↓leave_lp, ↓done_nil, ↓ops_consN, nY_move, nY_assign, nY_load, nY_binOp, nY_fieldAddr, nY_callb, ↓ops_nil, opsIf_some, condC_false, Option.map_some, Option.bind_some, Option.getD_some, Nat.reduceLT, Bool.false_eq_true, ↓upd_same, ↓upd_ne, Nat.reduceBEq, true_and, List.getElem?_cons_zero, endQ, cfg_P, cfg_frz, List.length_map, ↓havoc_in, ↓havoc_out, List.contains_cons, List.contains_nil, Bool.or_false, Bool.or_true, Int.ofNat_lt, decide_false, Option.some.injEq, exists_eq_left', Nat.add_zero, nth_zero, Nat.lt_irrefl, Nat.lt_succ_self, cells_agg, DRx_bool, ↓ev_tmp, ↓ev_bool, ↓iop_move, ↓iop_assign, ↓iop_load, ↓iop_binOp, ↓iop_fieldAddr, ↓iop_callb, bi_len, lenM_none, pickP_f, loadP_ptr, fieldP_ptr, lenP_lits, b_lss, ires_eq, iresL_1, iresAll_nil, iresAll_cons, iresOne_tmp, ↓reduceIte, arr_eq, arrB_some, ↓evs_cons, ↓evs_nil, beq_self_eq_true, see_eq, nth_reps, pur_reps, Try.f26, ty25, ty32, h36, h0, impM_len]
      rw [← hr, hwm, decide_eq_true (hci.2 hno)]
theorem o_rCrowded : O_rCrowded := k_rCrowded c_rCrowded

def setT (im : List Int) (last : Int) : Nat → Nat
  | 0 => 0
  | k + 1 => if im.getD k 0 ≤ last then setT im last k ||| 2 ^ k else setT im last k
theorem setT_lt {im : List Int} {last : Int} {n : Nat} : ∀ k, k ≤ n → setT im last k < 2 ^ n
  | 0, _ => Nat.two_pow_pos _
  | k + 1, h => by
    have ih := setT_lt (im := im) (last := last) (n := n) k (by omega)
    simp only [setT]
    split
    · exact or_lt n ih (Nat.pow_lt_pow_right (by omega) (by omega))
    · exact ih
def crowdS (rs : List Rep) (j : Nat) : Nat := setT (impM rs) ((impM rs).getD j 0) rs.length
def crowdT (st : Int) (rs : List Rep) : Nat → Option Nat
  | 0 => none
  | j + 1 => match crowdT st rs j with
    | some s => some s
    | none => if (impM rs).getD j 0 < st + loadM rs (crowdS rs j) then some (crowdS rs j) else none
theorem crowdT_stays {st : Int} {rs : List Rep} {j s : Nat} (h : crowdT st rs j = some s) : ∀ m, crowdT st rs (j + m) = some s
  | 0 => h
  | m + 1 => by
    have ih := crowdT_stays h m
    show (match crowdT st rs (j + m) with | some s => some s | none => _) = some s
    rw [ih]
theorem crowdT_end {st : Int} {rs : List Rep} {j n s : Nat} (h : crowdT st rs j = some s) (hj : j ≤ n) : crowdT st rs n = some s := by
  have := crowdT_stays h (n - j)
  rwa [show j + (n - j) = n by omega] at this
def crowdM (st : Int) (rs : List Rep) : Int × Int :=
  if checkM st rs ≠ 0 then (0, checkM st rs) else match crowdT st rs rs.length with | some s => (s, 0) | none => (0, 8)
noncomputable def A_Crowd : (Int) × (List Rep) → List PV := fun (st, rs) => [.agg [I st, reps rs]]
noncomputable def R_Crowd : (Int) × (List Rep) → PV := fun (st, rs) => .tuple [I (crowdM st rs).1, I (crowdM st rs).2]
def H_Crowd : (Int) × (List Rep) → Prop := fun (st, rs) => True
noncomputable def e_Crowd : Nat × Ent := (34, .v (specOf A_Crowd R_Crowd H_Crowd))
theorem j_Crowd : ∀ i j, A_Crowd i = A_Crowd j → i = j := by
  rintro ⟨st₁, rs₁⟩ ⟨st₂, rs₂⟩ h
  simp only [A_Crowd, List.cons.injEq, and_true, PV.lits.injEq, PV.int.injEq, PV.bool.injEq, PV.str.injEq, PV.agg.injEq, PV.func.injEq, PV.vptr.injEq, true_and, List.map_nil, inj_ints, inj_strs, inj_reps] at h
  simp [Prod.ext_iff, h] <;> omega
theorem s_Crowd (st : Int) (rs : List Rep) : specOf A_Crowd R_Crowd H_Crowd [.agg [I st, reps rs]] = some (.tuple [I (crowdM st rs).1, I (crowdM st rs).2]) := specOf_app j_Crowd (i := (st, rs)) trivial
def C_Crowd : Prop := ∀ (st : Int) (rs : List Rep) , VC Try.prog 34 [.agg [I st, reps rs]] (.tuple [I (crowdM st rs).1, I (crowdM st rs).2])
def O_Crowd : Prop := EntOK Try.prog e_Crowd.1 e_Crowd.2
theorem k_Crowd (c : C_Crowd) : O_Crowd := specOf_ok fun ⟨st, rs⟩ h => c st rs
theorem c_Crowd : C_Crowd := by
  rintro st rs
  refine vc_ofU mixed (l := [e_check, e_imp, e_load]) ((eok_cons o_check (eok_cons o_imp (eok_cons o_load eok_nil)))) [] [39, 40, 41]  Try.func34 rfl (by decide +kernel) (N := 50) rfl (by simp) rfl (by kernel_rfl) fun hs => ?_
  simp only [smallL, PV.small, List.length_map, and_true, true_and] at hs
  by_cases h : checkM st rs = 0
  case neg =>
    rw [show crowdM st rs = (0, checkM st rs) by simp [crowdM, h]]
    generalize hr : checkM st rs = r at *
    simp +contextual (maxSteps := 4000000) only [↓ur_seq, ↓ur_ret, ↓ur_region, ↓ur_cond, ↓cont_seq, ↓done_nil, ↓done_seq, ↓ops_consN, nY_move, nY_assign, nY_box, nY_load, nY_binOp, nY_callf, ↓ops_nil, opsIf_some, condC_true, Option.map_some, Option.bind_some, Option.getD_some, Nat.reduceLT, Bool.false_eq_true, ↓upd_same, ↓upd_ne, Nat.reduceBEq, and_true, List.getD_cons_zero, endQ, cfg_P, cfg_tab, cfg_muts, cfg_frz, List.contains_cons, List.contains_nil, Bool.or_false, decide_true, Option.some.injEq, exists_eq_left', List.lookup_cons, List.lookup_nil, tabOf_cons, tab_v, Bool.and_self, List.nil_append, List.append_nil, List.length_cons, List.length_nil, Nat.zero_add, List.drop_zero, Nat.reduceAdd, not_false_eq_true, st0, Nat.le_refl, pur_int, pur_lits, cells_agg, pur_agg, DRx_int, DRx_tuple, DRxL_cons, DRxL_nil, ↓ev_tmp, ↓ev_int, ↓ev_func, ↓iop_move, ↓iop_assign, ↓iop_box, ↓iop_load, ↓iop_binOp, ↓iop_callv, nrmAll_cons, nrmAll_nil, nrm_agg, nrmL_cons, nrmL_nil, nrm1_int, nrm1_lits, pickP_t, loadP_vptr, b_neq, env0_eq, ires_eq, iresL_2, iresAll_nil, iresAll_cons, iresOne_tmp, valT_eq, pursL_cons, pursL_nil, ↓reduceIte, callP_eq, boxP_eq, List.take_succ_cons, List.take_nil, ↓evs_cons, ↓evs_nil, beq_self_eq_true, see_eq, and_false, Bool.true_eq_false, e_check, s_check, e_imp, e_load, nth_reps, pur_reps, Try.f34, ty24, h, hr]
  have hc := check_zero.1 h
  have h10 := hc.len
  have hwm : crowdM st rs = match crowdT st rs rs.length with | some s => ((s : Int), 0) | none => (0, 8) := by simp [crowdM, h]
  generalize hr : crowdM st rs = r
  have hp := pow1024 (k := rs.length) h10
  have hst := hc.start
  have hw : ∀ i : Nat, i < rs.length → IntKind.i64.wrap ((i : Int) + 1) = ((i + 1 : Nat) : Int) := fun i g => by rw [wrap64 (by omega) (by omega)]; omega
  simp +contextual (maxSteps := 4000000) only [↓ur_skip, ↓ur_seq, ↓ur_block, ↓ur_region, ↓ur_cond, ↓cont_seq, ↓ops_consN, nY_move, nY_assign, nY_box, nY_load, nY_binOp, nY_callf, nY_callb, ↓ops_nil, opsIf_some, condC_false, Option.map_some, Option.bind_some, Option.getD_some, Nat.reduceLT, Bool.false_eq_true, ↓upd_same, ↓upd_ne, Nat.reduceBEq, true_and, List.getD_cons_zero, cfg_P, cfg_tab, cfg_muts, cfg_frz, List.length_map, List.contains_cons, List.contains_nil, Bool.or_false, decide_false, List.lookup_cons, List.lookup_nil, tabOf_cons, tab_v, Bool.and_self, Nat.reduceEqDiff, List.nil_append, List.append_nil, List.length_cons, List.length_nil, Nat.zero_add, List.drop_zero, Nat.reduceAdd, Nat.lt_succ_self, not_true_eq_false, st0, Nat.le_refl, pur_int, pur_lits, cells_agg, pur_agg, ↓ev_tmp, ↓ev_int, ↓ev_func, ↓iop_move, ↓iop_assign, ↓iop_box, ↓iop_load, ↓iop_binOp, ↓iop_callv, ↓iop_callb, nrmAll_cons, nrmAll_nil, bi_len, lenM_none, nrm_agg, nrmL_cons, nrmL_nil, nrm1_int, nrm1_lits, pickP_t, loadP_vptr, lenP_lits, b_neq, env0_eq, valT_eq, pursL_cons, pursL_nil, ↓reduceIte, callP_eq, boxP_eq, List.take_succ_cons, List.take_nil, ↓evs_cons, ↓evs_nil, beq_self_eq_true, see_eq, and_false, Bool.true_eq_false, e_check, s_check, e_imp, s_imp, e_load, nth_reps, pur_reps, Try.f34, ty24, ty25, h, hc]
  refine loop_cnt [2, 3, 7, 8, 9, 10, 20, 21, 22, 23, 24, 25, 26, 27, 28, 29, 30, 31, 32, 33, 34, 35, 36, 37, 38, 39, 40, 41, 42, 43, 44, 45, 46, 47, 48, 49] rs.length (fun j ρ st' => ρ 20 = I j ∧ crowdT st rs j = none) (.refl _) ?_ ?_
  · simp +contextual (maxSteps := 4000000) only [↓upd_same, true_and, Int.cast_ofNat_Int, nth_reps, pur_reps, Try.f34]
    rfl
  · rintro j ρ ⟨ob, M⟩ hj ⟨h20, hno⟩
    by_cases hlt : j < rs.length
    · simp +contextual (maxSteps := 4000000) only [↓ur_skip, ↓ur_seq, ↓ur_block, ↓ur_region, ↓ur_cond, ↓cont_seq, ↓ops_consN, nY_move, nY_assign, nY_load, nY_binOp, nY_indexAddr, nY_callb, ↓ops_nil, opsIf_some, condC_true, Option.map_some, Option.bind_some, Option.getD_some, Nat.reduceLT, Bool.false_eq_true, ↓upd_same, ↓upd_ne, Nat.reduceBEq, true_and, and_true, List.getElem?_cons_zero, cfg_P, cfg_frz, List.length_map, ↓havoc_in, ↓havoc_out, List.contains_cons, List.contains_nil, Bool.or_false, Bool.or_true, Int.natCast_nonneg, Int.ofNat_lt, Int.toNat_natCast, nth_int, decide_true, Nat.lt_succ_self, cells_int, ↓ev_tmp, ↓ev_int, ↓iop_move, ↓iop_assign, ↓iop_load, ↓iop_binOp, ↓iop_indexAddr, idxA_int, ↓iop_callb, bi_len, lenM_none, pickP_f, loadP_vptr, indexP_lits, lenP_lits, b_lss, ↓reduceIte, ↓evs_cons, ↓evs_nil, beq_self_eq_true, see_eq, nth_reps, pur_reps, Try.f34, ty3, ty25, h20, impM_len, hlt]
      refine loop_cnt [8, 9, 10, 26, 27, 28, 29, 30, 31, 32, 33, 34, 35, 36, 37, 38] rs.length (fun k ρ st' => ρ 26 = I k ∧ ρ 8 = I (setT (impM rs) ((impM rs).getD j 0) k : Nat)) (.refl _) ?_ ?_
      · simp +contextual (maxSteps := 4000000) only [↓upd_same, ↓upd_ne, Nat.reduceBEq, true_and, PV.int.injEq, Int.cast_ofNat_Int, nth_reps, pur_reps, Try.f34]
        rfl
      · rintro k ρ2 ⟨ob2, M2⟩ hk ⟨h26, h8⟩
        have hs := Nat.lt_of_lt_of_le (setT_lt (im := impM rs) (last := (impM rs).getD j 0) k hk) hp
        by_cases hklt : k < rs.length
        · by_cases hle : (impM rs).getD k 0 ≤ (impM rs).getD j 0
          · have hpk := pow1024 (k := k) (by omega)
            have hsk := shl1 (k := k) (by omega)
            have hk64 : k ≤ 64 := by omega
            have hor := orI_nat (a := setT (impM rs) ((impM rs).getD j 0) k) (b := 2 ^ k) (by omega) (by omega)
            simp +contextual (maxSteps := 4000000) only [↓ur_skip, ↓ur_seq, ↓ur_block, ↓ur_region, ↓ur_cond, ↓cont_seq, ↓cont_blk, ↓cont_lp, ↓ops_consN, nY_move, nY_assign, nY_load, nY_binOp, nY_indexAddr, ↓ops_nil, opsIf_some, opsIf_if', map_if, condC_true, Option.map_some, Option.map_none, Option.bind_some, Option.getD_some, Nat.reduceLT, Bool.false_eq_true, ↓upd_same, ↓upd_ne, Nat.reduceBEq, true_and, and_true, List.getElem?_cons_zero, cfg_P, cfg_frz, List.length_map, ↓havoc_in, ↓havoc_out, agree_upd, agree_havoc, List.contains_cons, List.contains_nil, Bool.or_false, Bool.or_true, Int.natCast_nonneg, Int.ofNat_lt, Int.toNat_natCast, nth_int, decide_true, PV.int.injEq, Nat.lt_succ_self, cells_int, ↓ev_tmp, ↓ev_int, ↓iop_move, ↓iop_assign, ↓iop_load, ↓iop_binOp, ↓iop_indexAddr, idxA_int, pickP_f, loadP_vptr, indexP_lits, b_add, b_or, b_lss, b_leq, b_shl, ↓reduceIte, beq_self_eq_true, see_eq, bits_i64, or_i64, Nat.min_def, nth_reps, pur_reps, Try.f34, ty3, ty25, h26, h8, impM_len, hklt, hle, hk64, hsk, hor, setT]
            exact ⟨by omega, hw k hklt⟩
          · simp +contextual (maxSteps := 4000000) only [↓ur_skip, ↓ur_seq, ↓ur_block, ↓ur_region, ↓ur_cond, ↓cont_seq, ↓cont_blk, ↓cont_lp, ↓ops_consN, nY_move, nY_assign, nY_load, nY_binOp, nY_indexAddr, ↓ops_nil, opsIf_some, condC_true, condC_false, Option.map_some, Option.bind_some, Option.getD_some, Nat.reduceLT, Bool.false_eq_true, ↓upd_same, ↓upd_ne, Nat.reduceBEq, true_and, and_true, List.getElem?_cons_zero, cfg_P, cfg_frz, List.length_map, ↓havoc_in, ↓havoc_out, agree_upd, agree_havoc, List.contains_cons, List.contains_nil, Bool.or_false, Bool.or_true, Int.natCast_nonneg, Int.ofNat_lt, Int.toNat_natCast, nth_int, decide_true, decide_false, PV.int.injEq, Nat.lt_succ_self, cells_int, ↓ev_tmp, ↓ev_int, ↓iop_move, ↓iop_assign, ↓iop_load, ↓iop_binOp, ↓iop_indexAddr, idxA_int, pickP_f, loadP_vptr, indexP_lits, b_add, b_lss, b_leq, ↓reduceIte, beq_self_eq_true, see_eq, nth_reps, pur_reps, Try.f34, ty3, ty25, h26, h8, impM_len, hklt, hle, setT]
            exact hw k hklt
        · have e : k = rs.length := by omega
          subst e
          have hb := load_bound hc.tk (crowdS rs j) rs.length (Nat.le_refl _)
          have hwl : IntKind.i64.wrap (st + loadM rs (crowdS rs j)) = st + loadM rs (crowdS rs j) := wrap64 (by unfold loadM; omega) (by unfold loadM; omega)
          have hcs : setT (impM rs) ((impM rs).getD j 0) rs.length = crowdS rs j := rfl
          rw [hcs] at h8 hs
          have hs2 : crowdS rs j < 9223372036854775808 := by omega
          by_cases hin : (impM rs).getD j 0 < st + loadM rs (crowdS rs j)
          · have hct : crowdT st rs (j + 1) = some (crowdS rs j) := by simp only [crowdT, hno, hin, if_true]
            rw [crowdT_end hct (n := rs.length) (by omega)] at hwm
            rw [hwm] at hr
            subst hr
            simp +contextual (maxSteps := 4000000) only [↓ur_seq, ↓ur_exit, ↓ur_ret, ↓ur_region, ↓ur_cond, ↓cont_seq, ↓leave_seq, ↓leave_blk, ↓leave_lp, ↓done_nil, ↓done_seq, ↓done_blk, ↓done_lp, ↓ops_consN, nY_move, nY_assign, nY_load, nY_binOp, nY_makeFunc, nY_fieldAddr, nY_callf, ↓ops_nil, opsIf_some, condC_true, condC_false, Option.map_some, Option.bind_some, Option.getD_some, Nat.reduceLT, Bool.false_eq_true, ↓upd_same, ↓upd_ne, Nat.reduceBEq, and_true, List.getElem?_cons_zero, endQ, cfg_P, cfg_tab, cfg_muts, cfg_frz, ↓havoc_in, ↓havoc_out, List.contains_cons, List.contains_nil, Bool.or_false, Bool.or_true, Int.ofNat_lt, decide_true, decide_false, Option.some.injEq, exists_eq_left', List.lookup_cons, List.lookup_nil, tabOf_cons, tab_v, Bool.and_self, Nat.reduceEqDiff, List.nil_append, List.append_nil, List.length_cons, List.length_nil, Nat.zero_add, Nat.add_zero, List.drop_zero, Nat.reduceAdd, Nat.lt_irrefl, Nat.lt_succ_self, Nat.le_refl, pur_int, pur_lits, pur_func, pur_agg, DRx_int, DRx_tuple, DRxL_cons, DRxL_nil, ↓ev_tmp, ↓ev_int, ↓ev_func, ↓iop_move, ↓iop_assign, ↓iop_load, ↓iop_binOp, ↓iop_makeFunc, ↓iop_fieldAddr, ↓iop_callv, nrmAll_cons, nrmAll_nil, nrm_agg, nrmL_cons, nrmL_nil, nrm_func, nrm1_int, nrm1_lits, pickP_f, pickP_t, loadP_vptr, fieldP_vptr, b_add, b_lss, b_gtr, ires_eq, iresL_2, iresAll_nil, iresAll_cons, iresOne_tmp, valT_eq, pursL_cons, pursL_nil, ↓reduceIte, callP_eq, List.take_succ_cons, List.take_nil, ↓evs_cons, ↓evs_nil, beq_self_eq_true, see_eq, and_false, Bool.true_eq_false, s_load, nth_reps, pur_reps, Try.f34, ty3, ty24, ty66, h26, h8, impM_len, hc.tk, hs2, hwl, hin]
          · have hct : crowdT st rs (j + 1) = none := by simp only [crowdT, hno, hin, if_false]
            simp +contextual (maxSteps := 4000000) only [↓ur_skip, ↓ur_seq, ↓ur_exit, ↓ur_region, ↓ur_cond, ↓cont_seq, ↓cont_blk, ↓cont_lp, ↓leave_seq, ↓leave_blk, ↓leave_lp, ↓ops_consN, nY_move, nY_load, nY_binOp, nY_makeFunc, nY_fieldAddr, nY_callf, ↓ops_nil, opsIf_some, condC_false, Option.map_some, Option.bind_some, Option.getD_some, Nat.reduceLT, Bool.false_eq_true, ↓upd_same, ↓upd_ne, Nat.reduceBEq, true_and, and_true, List.getElem?_cons_zero, cfg_P, cfg_tab, cfg_muts, cfg_frz, ↓havoc_in, ↓havoc_out, agree_upd, List.contains_cons, List.contains_nil, Bool.or_false, Bool.or_true, Int.ofNat_lt, decide_false, PV.int.injEq, List.lookup_cons, List.lookup_nil, tabOf_cons, tab_v, Bool.and_self, Nat.reduceEqDiff, List.nil_append, List.append_nil, List.length_cons, List.length_nil, Nat.zero_add, Nat.add_zero, List.drop_zero, Nat.reduceAdd, Nat.lt_irrefl, Nat.lt_succ_self, Nat.le_refl, pur_int, pur_lits, pur_func, pur_agg, ↓ev_tmp, ↓ev_int, ↓ev_func, ↓iop_move, ↓iop_load, ↓iop_binOp, ↓iop_makeFunc, ↓iop_fieldAddr, ↓iop_callv, nrmAll_cons, nrmAll_nil, nrm_agg, nrmL_cons, nrmL_nil, nrm_func, nrm1_int, nrm1_lits, pickP_f, pickP_t, loadP_vptr, fieldP_vptr, b_add, b_lss, b_gtr, valT_eq, pursL_cons, pursL_nil, ↓reduceIte, callP_eq, List.take_succ_cons, List.take_nil, ↓evs_cons, ↓evs_nil, beq_self_eq_true, see_eq, and_false, Bool.true_eq_false, s_load, nth_reps, pur_reps, Try.f34, ty3, ty24, ty66, h26, h8, impM_len, hc.tk, hs2, hwl, hin, h20]
            refine ⟨?_, hw j hlt, hct⟩
            rw [agree_havoc_sub (by decide +kernel)]; simp +contextual (maxSteps := 4000000) only [Nat.reduceBEq, agree_upd, agree_havoc, List.contains_cons, List.contains_nil, Bool.or_false, Bool.or_true, beq_self_eq_true, nth_reps, pur_reps, Try.f34]
    · have e : j = rs.length := by omega
      subst e
      rw [hno] at hwm
      rw [hwm] at hr
      subst hr
      simp +contextual (maxSteps := 4000000) only [↓ur_seq, ↓ur_exit, ↓ur_ret, ↓ur_region, ↓ur_cond, ↓cont_seq, ↓leave_seq, ↓leave_blk, ↓leave_lp, ↓done_nil, ↓ops_consN, nY_assign, nY_binOp, ↓ops_nil, opsIf_some, condC_false, Option.map_some, Option.bind_some, Nat.reduceLT, ↓upd_same, ↓upd_ne, Nat.reduceBEq, and_true, endQ, cfg_P, ↓havoc_in, ↓havoc_out, List.contains_cons, List.contains_nil, Bool.or_false, Bool.or_true, Int.ofNat_lt, decide_false, Option.some.injEq, exists_eq_left', Nat.lt_irrefl, DRx_int, DRx_tuple, DRxL_cons, DRxL_nil, ↓ev_tmp, ↓ev_int, ↓iop_assign, ↓iop_binOp, b_lss, ires_eq, iresL_2, iresAll_nil, iresAll_cons, iresOne_tmp, ↓reduceIte, beq_self_eq_true, nth_reps, pur_reps, Try.f34, h20, impM_len]
theorem o_Crowd : O_Crowd := k_Crowd c_Crowd
end Sim
