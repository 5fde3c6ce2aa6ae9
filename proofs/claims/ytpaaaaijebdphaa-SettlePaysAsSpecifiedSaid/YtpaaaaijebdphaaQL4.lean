/- What functions of this seat compute, by values: contracts (lemmas of the statement's proof, under the conditions that each names). -/
import Derived.Test.YtpaaaaijebdphaaQZ
import Derived.Test.YtpaaaaijebdphaaQC
import Derived.Test.YtpaaaaijebdphaaQG4
namespace Sim
open Go Go.Proofs
set_option maxRecDepth 10000
set_option maxHeartbeats 2000000
set_option linter.unusedVariables false
set_option linter.unusedSimpArgs false
attribute [local congr] opsIf_congr condC_congr guardC_congr grd_congr pick3_congr obind_congr omap_congr nilC_congr
theorem least_not {b : List Int} (h : ¬ openE b = 0) : leastN b = 0 ∧ openV b = [] := by
  unfold leastN openV
  rw [if_neg h, if_neg h]; exact ⟨rfl, rfl⟩
theorem least_nil {b : List Int} (h : openE b = 0) (hv : openV b = []) : leastN b = 0 := by
  have e := open_zero h
  have hm := open_max h
  rw [← e.2, hv] at hm
  have : MaxG [] 0 := by
    refine ⟨⟨[], ⟨by simp, by simp⟩, rfl⟩, fun L hL => ?_⟩
    rcases L with _ | ⟨g, L⟩
    · simp
    · have h1 := (hL.good g (by simp)).1
      have h2 := hL.perm.eq_nil
      simp at h2; exact absurd h2.1 h1
  have h1 := max_uniq hm this
  have h2 : (openL b).length = 0 := by rw [e.1, ← nvK_len, ← e.2, hv]; rfl
  unfold leastN
  rw [if_pos h, h1, h2]; rfl
theorem least_cons {b : List Int} {x : Int} {r : List Int} (h : openE b = 0) (hv : openV b = x :: r) : leastN b = ((r.length + 1 : Nat) : Int) - grp 1 x r [] := by
  have e := open_zero h
  have hm := open_max h
  rw [← e.2, hv] at hm
  have hs := (open_ok h).2.2.1
  rw [nv_sum, ← e.2, hv, List.sum_cons] at hs
  have h1 := max_uniq hm (grp_max hs)
  have h2 : (openL b).length = r.length + 1 := by rw [e.1, ← nvK_len, ← e.2, hv]; rfl
  unfold leastN
  rw [if_pos h, h1, h2]
theorem openV_fit {b : List Int} (h : openE b = 0) : ∀ x ∈ openV b, fitB x := fun x hx => by
  rw [(open_zero h).2, nv_filter (Nat.le_refl _), List.take_length] at hx
  exact (open_ok h).2.1 x (List.mem_filter.1 hx).1
noncomputable def A_rleast : List Int → List PV := fun b => [ints b]
noncomputable def R_rleast : List Int → PV := fun b => .agg [I (leastN b), I (openE b)]
def H_rleast : List Int → Prop := fun b => (openV b).length ≤ 8
noncomputable def e_rleast : Nat × Ent := (15, .v (specOf A_rleast R_rleast H_rleast))
theorem j_rleast : ∀ i j, A_rleast i = A_rleast j → i = j := by
  rintro b₁ b₂ h
  simp only [A_rleast, List.cons.injEq, and_true, PV.lits.injEq, PV.int.injEq, PV.bool.injEq, PV.str.injEq, PV.agg.injEq, PV.func.injEq, Fn.func.injEq, PV.vptr.injEq, true_and, List.map_nil, inj_ints, inj_strs, inj_psts, inj_gaps, inj_pays] at h
  first | exact h | omega | (simp [Prod.ext_iff, h]; done)
theorem s_rleast (b : List Int) : specOf A_rleast R_rleast H_rleast [ints b] = @ite (Option (PV)) ((openV b).length ≤ 8) (Classical.propDecidable _) (some (.agg [I (leastN b), I (openE b)])) none := specOf_if j_rleast b
def C_rleast : Prop := ∀ (b : List Int) (h : (openV b).length ≤ 8) , VC Try.prog 15 [ints b] (.agg [I (leastN b), I (openE b)])
def O_rleast : Prop := EntOK Try.prog e_rleast.1 e_rleast.2
theorem k_rleast (c : C_rleast) : O_rleast := specOf_ok fun b h => c b h
theorem c_rleast : C_rleast := by
  intro b hc
  refine vc_ofU mixed (l := [e_ropen, e_groups]) ((eok_cons o_ropen (eok_cons o_groups eok_nil))) [] []  Try.func15 rfl (by decide +kernel) (N := 31) rfl (by simp) rfl (by kernel_rfl) fun hs => ?_
  simp only [smallL, PV.small, List.length_map, and_true, true_and] at hs
  by_cases he : openE b = 0
  case neg =>
    obtain ⟨e1, e2⟩ := least_not he
    obtain ⟨E, hE⟩ : ∃ E, openE b = E := ⟨_, rfl⟩
    rw [hE] at he
    simp +contextual (maxSteps := 4000000) only [↓ur_seq, ↓ur_ret, ↓ur_region, ↓ur_cond, ↓cont_seq, ↓done_nil, ↓done_seq, ↓ops_consN, ↓ops_guardN, nY_move, nY_pick, nY_alloc, nY_build, nY_load, nY_store, nY_binOp, nilO_int, nY_fieldAddr, nY_callf, nY_callb, ↓ops_nil, opsIf_some, opsIf_none, condC_true, guardC_tf, Option.map_some, Option.bind_some, Option.getD_some, Nat.reduceLT, Bool.false_eq_true, ↓upd_same, ↓upd_ne, Nat.reduceBEq, and_true, List.getD_cons_zero, List.getElem?_toArray, List.getElem?_cons_zero, List.getElem?_cons_succ, endQ, cfg_P, cfg_tab, cfg_muts, cfg_frz, cfg_num, numOf_eq, List.contains_nil, decide_true, Option.some.injEq, exists_eq_left', tabOf_cons, tab_v, pur_ints, Bool.and_self, List.cons_append, List.nil_append, List.append_nil, updO_same, updO_ne, List.length_cons, List.length_nil, Nat.zero_add, List.drop_zero, List.take_zero, Nat.reduceAdd, List.set_cons_zero, nth_zero, Nat.lt_succ_self, Bool.not_false, not_false_eq_true, st0, Nat.le_refl, cells_int, isCell_int, pur_lits, cells_agg, DRx_int, DRx_agg, DRxL_cons, DRxL_nil, ↓ev_tmp, ↓ev_int, ↓ev_bool, ↓ev_func, ↓guardP_eq, grd_some, ↓iop_move, ↓pick3_bool, ↓iop_pick, ↓iop_alloc, ↓iop_build, ↓iop_load, ↓iop_store, ↓iop_binOp, ↓iop_fieldAddr, ↓iop_callv, nrmAll_cons, nrmAll_nil, nrm_lits, pickP_f, pickP_t, loadP_ptr, setCells_agg, storeP_ptr, fieldP_ptr, b_neq, fill_nil, fill_cons, fill1_some, buildP_eq, bldA_none, splice_eq, env0_eq, ires_eq, iresL_1, iresAll_nil, iresAll_cons, iresOne_cell, valT_eq, pursL_cons, pursL_nil, Store.new, Store.set, ↓reduceIte, arr_eq, arrB_some, callP_eq, tsOf_eq, List.take_succ_cons, List.drop_succ_cons, List.drop_nil, List.take_nil, ↓evs_cons, ↓evs_nil, ↓evp_cons, ↓evp_nil, List.all_cons, List.all_nil, see_eq, and_false, Bool.true_eq_false, e_ropen, s_ropen, e_groups, nth_psts, pur_psts, nth_gaps, pur_gaps, nth_pays, pur_pays, Try.f15, ty26, ty34, ty39, ty49, hE, he, e1, e2]
  have hfit := openV_fit he
  rcases hv : openV b with _ | ⟨x, r⟩
  · have e1 := least_nil he hv
    simp +contextual (maxSteps := 4000000) only [↓ur_seq, ↓ur_ret, ↓ur_region, ↓ur_cond, ↓cont_seq, ↓done_nil, ↓done_seq, ↓ops_consN, ↓ops_guardN, nY_move, nY_pick, nY_alloc, nY_build, nY_load, nY_store, nY_binOp, nilO_int, nY_fieldAddr, nY_callf, nY_callb, ↓ops_nil, opsIf_some, opsIf_none, condC_true, guardC_ff, Option.map_some, Option.bind_some, Option.getD_some, Nat.reduceLT, Bool.false_eq_true, ↓upd_same, ↓upd_ne, Nat.reduceBEq, and_true, List.getD_cons_zero, List.getElem?_toArray, List.getElem?_cons_zero, List.getElem?_cons_succ, endQ, cfg_P, cfg_tab, cfg_muts, cfg_frz, cfg_num, numOf_eq, List.map_nil, List.contains_nil, decide_true, decide_false, Option.some.injEq, exists_eq_left', tabOf_cons, tab_v, pur_ints, Bool.and_self, List.cons_append, List.nil_append, List.append_nil, updO_same, updO_ne, List.length_cons, List.length_nil, Nat.zero_add, Nat.add_zero, List.drop_zero, List.take_zero, Nat.reduceAdd, List.set_cons_zero, nth_zero, Nat.lt_succ_self, Bool.not_false, not_true_eq_false, st0, Nat.le_refl, cells_int, isCell_int, pur_lits, cells_agg, DRx_int, DRx_agg, DRxL_cons, DRxL_nil, ↓ev_tmp, ↓ev_int, ↓ev_func, ↓guardP_eq, grd_some, ↓iop_move, ↓pick3_bool, ↓iop_pick, ↓iop_alloc, ↓iop_build, ↓iop_load, ↓iop_store, ↓iop_binOp, ↓iop_fieldAddr, ↓iop_callv, ↓iop_callb, nrmAll_cons, nrmAll_nil, bi_len, lenM_none, nrm_lits, pickP_f, pickP_t, loadP_ptr, setCells_agg, storeP_ptr, fieldP_ptr, lenP_lits, b_eql, b_neq, fill_nil, fill_cons, fill1_some, buildP_eq, bldA_none, splice_eq, env0_eq, ires_eq, iresL_1, iresAll_nil, iresAll_cons, iresOne_cell, valT_eq, pursL_cons, pursL_nil, Store.new, Store.set, ↓reduceIte, arr_eq, arrB_some, callP_eq, tsOf_eq, List.take_succ_cons, List.drop_succ_cons, List.drop_nil, List.take_nil, ↓evs_cons, ↓evs_nil, ↓evp_cons, ↓evp_nil, List.all_cons, List.all_nil, see_eq, and_false, Bool.true_eq_false, Int.cast_ofNat_Int, e_ropen, s_ropen, e_groups, nth_psts, pur_psts, nth_gaps, pur_gaps, nth_pays, pur_pays, Try.f15, ty26, ty34, ty39, ty49, he, e1, hv]
  have e1 := least_cons he hv
  rw [hv] at hc hfit
  simp only [List.length_cons] at hc
  have hpre : grpOK x r [] := by
    have hx := hfit x (by simp)
    unfold fitB at hx
    unfold grpOK
    refine ⟨fun y hy => hfit y (by simp at hy ⊢; exact .inr hy), ?_, ?_, ?_⟩ <;> simp <;> omega
  have hme : meas r [] < 100 := by unfold meas; simp; omega
  have hsp := s_groups 1 x r []
  rw [if_pos ⟨by omega, hpre, hme⟩, show ints [] = PV.lits 1 [] from rfl] at hsp
  have htl : List.take (r.length + 1 - 1) (r.map (PV.int .i64)) = r.map (PV.int .i64) := List.take_of_length_le (by simp)
  have hp1 : 0 < r.length + 1 := by omega
  have hp2 : (1 : Int) ≤ ((r.length + 1 : Nat) : Int) := by omega
  have hb := grp_le 1 x r [] (by omega)
  simp only [List.length_nil] at hb
  have hw : IntKind.i64.wrap (((r.length + 1 : Nat) : Int) - grp 1 x r []) = leastN b := by rw [wrap64 (by omega) (by omega), e1]
  have hz : ¬ ((r.length + 1 : Nat) : Int) = 0 := by omega
  generalize grp 1 x r [] = G at *
  simp +contextual (maxSteps := 4000000) only [↓ur_skip, ↓ur_seq, ↓ur_ret, ↓ur_region, ↓ur_cond, ↓cont_seq, ↓done_nil, ↓ops_consN, ↓ops_guardN, nY_move, nY_pick, nY_alloc, nY_build, nY_load, nY_store, nY_binOp, nilO_tmp, nilO_int, nY_slice, nY_fieldAddr, nY_indexAddr, nY_callf, nY_callb, ↓ops_nil, opsIf_some, opsIf_none, condC_false, guardC_ff, Option.map_some, Option.map_none, Option.bind_some, Option.getD_some, Option.getD_none, Nat.reduceLT, Bool.false_eq_true, ↓upd_same, ↓upd_ne, Nat.reduceBEq, and_true, List.getD_cons_zero, List.getElem?_toArray, List.getElem?_cons_zero, List.getElem?_cons_succ, endQ, cfg_P, cfg_tab, cfg_muts, cfg_frz, cfg_num, numOf_eq, List.map_cons, List.length_map, List.contains_nil, Int.toNat_natCast, decide_false, Option.some.injEq, exists_eq_left', List.lookup_cons, tabOf_cons, tab_v, pur_ints, Bool.and_self, Nat.reduceEqDiff, List.cons_append, List.nil_append, List.append_nil, updO_same, updO_ne, List.length_cons, List.length_nil, Nat.zero_add, Nat.add_zero, List.drop_zero, List.take_zero, Nat.reduceAdd, List.set_cons_zero, Nat.reduceLeDiff, nth_zero, Nat.lt_succ_self, Bool.not_false, not_true_eq_false, Int.reduceLE, Int.reduceToNat, st0, Nat.le_refl, cells_int, pur_int, isCell_int, pur_lits, cells_agg, DRx_int, DRx_agg, DRxL_cons, DRxL_nil, ↓ev_tmp, ↓ev_int, ↓ev_nils, ↓ev_func, ↓guardP_eq, grd_some, ↓iop_move, ↓pick3_bool, ↓iop_pick, ↓iop_alloc, ↓iop_build, ↓iop_load, ↓iop_store, ↓iop_binOp, ↓iop_slice, intOfP_int, slcP_tf, ↓iop_fieldAddr, ↓iop_indexAddr, idxA_int, ↓iop_callv, ↓iop_callb, nrmAll_cons, nrmAll_nil, bi_len, lenM_none, nrm_nils, nrm1_some, nrm_int, nrm_lits, pickP_f, pickP_t, loadP_vptr, loadP_ptr, setCells_agg, storeP_ptr, fieldP_ptr, indexP_lits, lenP_lits, sliceP_lits, b_sub, b_eql, b_neq, fill_nil, fill_cons, fill1_some, buildP_eq, bldA_none, splice_eq, env0_eq, ires_eq, iresL_1, iresAll_nil, iresAll_cons, iresOne_cell, valT_eq, pursL_cons, pursL_nil, Store.new, Store.set, ↓reduceIte, arr_eq, arrB_some, callP_eq, tsOf_eq, List.take_succ_cons, List.drop_succ_cons, List.drop_nil, List.take_nil, ↓evs_cons, ↓evs_nil, ↓evp_cons, ↓evp_nil, Int.le_refl, Int.natCast_pos, beq_self_eq_true, List.all_cons, List.all_nil, see_eq, and_false, Bool.true_eq_false, e_ropen, s_ropen, e_groups, nth_psts, pur_psts, nth_gaps, pur_gaps, nth_pays, pur_pays, Try.f15, ty3, ty26, ty34, ty39, ty49, he, hv, hsp, htl, hp1, hp2, hw, hz]
theorem o_rleast : O_rleast := k_rleast c_rleast
theorem nz_step4 {b : List Int} {k : Nat} : ((nzK b (k + 1)).length : Int) = ((nzK b k).length : Int) + if b.getD k 0 = 0 then 0 else 1 := by
  simp only [nzK]
  split
  · omega
  · rw [List.length_append]; simp
noncomputable def A_law4 : (List Int) × (List Pay) → List PV := fun (b, l) => [ints b, pays l]
noncomputable def R_law4 : (List Int) × (List Pay) → PV := fun (b, l) => B true
def H_law4 : (List Int) × (List Pay) → Prop := fun (b, l) => True
noncomputable def e_law4 : Nat × Ent := (4, .v (specOf A_law4 R_law4 H_law4))
theorem j_law4 : ∀ i j, A_law4 i = A_law4 j → i = j := by
  rintro ⟨b₁, l₁⟩ ⟨b₂, l₂⟩ h
  simp only [A_law4, List.cons.injEq, and_true, PV.lits.injEq, PV.int.injEq, PV.bool.injEq, PV.str.injEq, PV.agg.injEq, PV.func.injEq, Fn.func.injEq, PV.vptr.injEq, true_and, List.map_nil, inj_ints, inj_strs, inj_psts, inj_gaps, inj_pays] at h
  simp [Prod.ext_iff, h] <;> omega
theorem s_law4 (b : List Int) (l : List Pay) : specOf A_law4 R_law4 H_law4 [ints b, pays l] = some (B true) := specOf_app j_law4 (i := (b, l)) trivial
def C_law4 : Prop := ∀ (b : List Int) (l : List Pay) , VC Try.prog 4 [ints b, pays l] (B true)
def O_law4 : Prop := EntOK Try.prog e_law4.1 e_law4.2
theorem k_law4 (c : C_law4) : O_law4 := specOf_ok fun ⟨b, l⟩ h => c b l
theorem c_law4 : C_law4 := by
  intro b l
  refine vc_ofU mixed (l := [e_sanity, e_least, e_rleast, e_pay, e_settles, e_rsettles]) ((eok_cons o_sanity (eok_cons o_least (eok_cons o_rleast (eok_cons o_pay (eok_cons o_settles (eok_cons o_rsettles eok_nil))))))) [] []  Try.func4 rfl (by decide +kernel) (N := 98) rfl (by simp) rfl (by kernel_rfl) fun hs => ?_
  simp only [smallL, PV.small, List.length_map, and_true, true_and] at hs
  have hns := fun k => nz_step4 (b := b) (k := k)
  have hnl := fun k => nzK_len (b := b) k
  simp +contextual (maxSteps := 4000000) only [↓ur_seq, ↓ur_block, ↓ur_region, ↓cont_seq, ↓ops_consN, nY_move, nY_assign, nY_callb, ↓ops_nil, opsIf_some, Option.map_some, Option.getD_some, Nat.reduceLT, ↓upd_same, ↓upd_ne, Nat.reduceBEq, true_and, List.getD_cons_zero, cfg_P, List.length_map, Nat.lt_succ_self, st0, ↓ev_tmp, ↓ev_int, ↓ev_bool, ↓iop_move, ↓iop_assign, ↓iop_callb, bi_len, lenM_none, lenP_lits, env0_eq, ↓reduceIte, ↓evs_cons, ↓evs_nil, e_sanity, e_least, e_rleast, e_pay, e_settles, e_rsettles, nth_psts, pur_psts, nth_gaps, pur_gaps, nth_pays, pur_pays, Try.f4, ty34]
  refine loop_cnt [5, 7, 15, 16, 17, 18, 19, 20, 21, 22, 23] b.length (fun k ρ st' => ρ 15 = I k ∧ ρ 5 = I ((nzK b k).length)) (.refl _) ?_ ?_
  · simp +contextual (maxSteps := 4000000) only [↓upd_same, ↓upd_ne, Nat.reduceBEq, true_and, PV.int.injEq, Int.cast_ofNat_Int, nth_psts, pur_psts, nth_gaps, pur_gaps, nth_pays, pur_pays, Try.f4]
    rfl
  rintro k ρ st' hk ⟨h15, h5⟩
  by_cases hlt : k < b.length
  · have hwk : IntKind.i64.wrap ((k : Int) + 1) = ((k + 1 : Nat) : Int) := by rw [wrap64 (by omega) (by omega)]; omega
    have h1 := hns k
    have h2 := hnl k
    by_cases z : b.getD k 0 = 0
    · rw [if_pos z] at h1
      simp +contextual (maxSteps := 4000000) only [↓ur_skip, ↓ur_seq, ↓ur_block, ↓ur_region, ↓ur_cond, ↓cont_seq, ↓cont_blk, ↓cont_lp, ↓ops_consN, nY_move, nY_assign, nY_load, nY_binOp, nilO_tmp, nilO_int, nY_indexAddr, ↓ops_nil, opsIf_some, condC_true, condC_false, Option.map_some, Option.bind_some, Option.getD_some, Nat.reduceLT, Bool.false_eq_true, ↓upd_same, ↓upd_ne, Nat.reduceBEq, true_and, and_true, List.getElem?_cons_zero, cfg_P, cfg_frz, List.length_map, ↓havoc_in, ↓havoc_out, agree_upd, agree_havoc, List.contains_cons, List.contains_nil, Bool.or_false, Bool.or_true, Int.natCast_nonneg, Int.ofNat_lt, Int.toNat_natCast, nth_int, decide_true, decide_false, PV.int.injEq, Nat.lt_succ_self, Bool.not_false, not_true_eq_false, cells_int, ↓ev_tmp, ↓ev_int, ↓iop_move, ↓iop_assign, ↓iop_load, ↓iop_binOp, ↓iop_indexAddr, idxA_int, pickP_f, loadP_vptr, indexP_lits, b_add, b_neq, b_lss, ↓reduceIte, Int.natCast_inj, beq_self_eq_true, see_eq, nth_psts, pur_psts, nth_gaps, pur_gaps, nth_pays, pur_pays, Try.f4, ty3, ty34, h15, h5, hlt, hwk, z]
      omega
    · rw [if_neg z] at h1
      have hw2 : IntKind.i64.wrap (((nzK b k).length : Int) + 1) = ((nzK b (k + 1)).length : Int) := by rw [wrap64 (by omega) (by omega)]; omega
      simp +contextual (maxSteps := 4000000) only [↓ur_skip, ↓ur_seq, ↓ur_block, ↓ur_region, ↓ur_cond, ↓cont_seq, ↓cont_blk, ↓cont_lp, ↓ops_consN, nY_move, nY_assign, nY_load, nY_binOp, nilO_tmp, nilO_int, nY_indexAddr, ↓ops_nil, opsIf_some, condC_true, Option.map_some, Option.bind_some, Option.getD_some, Nat.reduceLT, Bool.false_eq_true, ↓upd_same, ↓upd_ne, Nat.reduceBEq, and_true, List.getElem?_cons_zero, cfg_P, cfg_frz, List.length_map, ↓havoc_in, ↓havoc_out, agree_upd, agree_havoc, List.contains_cons, List.contains_nil, Bool.or_false, Bool.or_true, Int.natCast_nonneg, Int.ofNat_lt, Int.toNat_natCast, nth_int, decide_true, Nat.lt_succ_self, Bool.not_false, not_false_eq_true, cells_int, ↓ev_tmp, ↓ev_int, ↓iop_move, ↓iop_assign, ↓iop_load, ↓iop_binOp, ↓iop_indexAddr, idxA_int, pickP_f, loadP_vptr, indexP_lits, b_add, b_neq, b_lss, ↓reduceIte, beq_self_eq_true, see_eq, nth_psts, pur_psts, nth_gaps, pur_gaps, nth_pays, pur_pays, Try.f4, ty3, ty34, h15, h5, hlt, hwk, z, hw2]
  have e : k = b.length := by omega
  subst e
  generalize hn : (nzK b b.length).length = n at *
  by_cases c1 : 42 < b.length
  · have c1i : (42 : Int) < (b.length : Int) := by omega
    simp +contextual (maxSteps := 4000000) only [↓ur_seq, ↓ur_exit, ↓ur_ret, ↓ur_region, ↓ur_cond, ↓cont_seq, ↓leave_seq, ↓leave_blk, ↓leave_lp, ↓done_nil, ↓done_seq, ↓ops_consN, ↓ops_guardN, nY_move, nY_assign, nY_pick, nY_binOp, nilO_tmp, nilO_int, nY_callf, nY_callb, ↓ops_nil, opsIf_some, condC_true, condC_false, guardC_u, guardC_tf, Option.map_some, Option.bind_some, Option.getD_some, Nat.reduceLT, Bool.false_eq_true, ↓upd_same, ↓upd_ne, Nat.reduceBEq, and_true, List.getD_cons_zero, List.getElem?_toArray, List.getElem?_cons_zero, List.getElem?_cons_succ, endQ, cfg_P, cfg_tab, cfg_muts, cfg_frz, List.length_map, ↓havoc_in, ↓havoc_out, List.contains_cons, List.contains_nil, Bool.or_false, Bool.or_true, Int.ofNat_lt, decide_true, decide_false, Option.some.injEq, exists_eq_left', tabOf_cons, tab_v, List.append_nil, Nat.reduceAdd, Nat.lt_irrefl, Nat.lt_succ_self, Bool.not_false, DRx_bool, ↓ev_tmp, ↓ev_int, ↓ev_bool, ↓ev_func, ↓guardP_eq, grd_some, ↓iop_move, ↓iop_assign, ↓pick3_bool, ↓iop_pick, ↓iop_binOp, ↓iop_callv, ↓iop_callb, nrmAll_nil, bi_len, lenM_none, lenP_lits, b_lss, b_gtr, env0_eq, ires_eq, iresL_1, iresAll_nil, iresAll_cons, iresOne_tmp, valT_eq, pursL_nil, ↓reduceIte, callP_eq, tsOf_eq, ↓evs_cons, ↓evs_nil, beq_self_eq_true, and_false, Bool.true_eq_false, s_sanity, nth_psts, pur_psts, nth_gaps, pur_gaps, nth_pays, pur_pays, Try.f4, ty34, h15, h5, c1i]
  have c1i : ¬ (42 : Int) < (b.length : Int) := by omega
  by_cases c2 : 8 < n ∧ n ≤ 12
  · have c2i : (8 : Int) < (n : Int) := by omega
    have c2j : (n : Int) ≤ 12 := by omega
    simp +contextual (maxSteps := 4000000) only [↓ur_seq, ↓ur_exit, ↓ur_ret, ↓ur_region, ↓ur_cond, ↓cont_seq, ↓leave_seq, ↓leave_blk, ↓leave_lp, ↓done_nil, ↓done_seq, ↓ops_consN, ↓ops_guardN, nY_move, nY_assign, nY_pick, nY_binOp, nilO_tmp, nilO_int, nY_callf, nY_callb, ↓ops_nil, opsIf_some, condC_true, condC_false, guardC_u, guardC_tt, guardC_tf, guardC_ff, Option.map_some, Option.bind_some, Option.getD_some, Nat.reduceLT, Bool.false_eq_true, ↓upd_same, ↓upd_ne, Nat.reduceBEq, and_true, List.getD_cons_zero, List.getElem?_toArray, List.getElem?_cons_zero, List.getElem?_cons_succ, endQ, cfg_P, cfg_tab, cfg_muts, cfg_frz, List.length_map, ↓havoc_in, ↓havoc_out, List.contains_cons, List.contains_nil, Bool.or_false, Bool.or_true, Int.ofNat_lt, decide_true, decide_false, Option.some.injEq, exists_eq_left', tabOf_cons, tab_v, List.append_nil, Nat.reduceAdd, Nat.lt_irrefl, Nat.lt_succ_self, Bool.not_false, DRx_bool, ↓ev_tmp, ↓ev_int, ↓ev_bool, ↓ev_func, ↓guardP_eq, grd_some, ↓iop_move, ↓iop_assign, ↓pick3_bool, ↓iop_pick, ↓iop_binOp, ↓iop_callv, ↓iop_callb, nrmAll_nil, bi_len, lenM_none, lenP_lits, b_lss, b_leq, b_gtr, env0_eq, ires_eq, iresL_1, iresAll_nil, iresAll_cons, iresOne_tmp, valT_eq, pursL_nil, ↓reduceIte, callP_eq, tsOf_eq, ↓evs_cons, ↓evs_nil, beq_self_eq_true, and_false, Bool.true_eq_false, s_sanity, nth_psts, pur_psts, nth_gaps, pur_gaps, nth_pays, pur_pays, Try.f4, ty34, h15, h5, c1i, c2i, c2j]
  by_cases c3 : 30 < l.length ∧ l.length ≤ 200
  · have c3i : (30 : Int) < (l.length : Int) := by omega
    have c3j : (l.length : Int) ≤ 200 := by omega
    by_cases c : 8 < n
    · have c2i : (8 : Int) < (n : Int) := by omega
      have c2j : ¬ (n : Int) ≤ 12 := by omega
      simp +contextual (maxSteps := 4000000) only [↓ur_seq, ↓ur_exit, ↓ur_ret, ↓ur_region, ↓ur_cond, ↓cont_seq, ↓leave_seq, ↓leave_blk, ↓leave_lp, ↓done_nil, ↓done_seq, ↓ops_consN, ↓ops_guardN, nY_move, nY_assign, nY_pick, nY_binOp, nilO_tmp, nilO_int, nY_callf, nY_callb, ↓ops_nil, opsIf_some, condC_true, condC_false, guardC_tt, guardC_tf, guardC_ff, Option.map_some, Option.bind_some, Option.getD_some, Nat.reduceLT, Bool.false_eq_true, ↓upd_same, ↓upd_ne, Nat.reduceBEq, and_true, List.getD_cons_zero, List.getD_cons_succ, List.getElem?_toArray, List.getElem?_cons_zero, List.getElem?_cons_succ, endQ, cfg_P, cfg_tab, cfg_muts, cfg_frz, List.length_map, ↓havoc_in, ↓havoc_out, List.contains_cons, List.contains_nil, Bool.or_false, Bool.or_true, Int.ofNat_lt, decide_true, decide_false, Option.some.injEq, exists_eq_left', tabOf_cons, tab_v, List.append_nil, Nat.reduceAdd, Nat.lt_irrefl, Nat.lt_succ_self, Bool.not_false, DRx_bool, ↓ev_tmp, ↓ev_int, ↓ev_bool, ↓ev_func, ↓guardP_eq, grd_some, ↓iop_move, ↓iop_assign, ↓pick3_bool, ↓iop_pick, ↓iop_binOp, ↓iop_callv, ↓iop_callb, nrmAll_nil, bi_len, lenM_none, lenP_lits, b_lss, b_leq, b_gtr, env0_eq, ires_eq, iresL_1, iresAll_nil, iresAll_cons, iresOne_tmp, valT_eq, pursL_nil, ↓reduceIte, callP_eq, tsOf_eq, ↓evs_cons, ↓evs_nil, beq_self_eq_true, and_false, Bool.true_eq_false, s_sanity, nth_psts, pur_psts, nth_gaps, pur_gaps, nth_pays, pur_pays, Try.f4, ty34, ty35, h15, h5, c1i, c2i, c2j, c3i, c3j]
    · have c2i : ¬ (8 : Int) < (n : Int) := by omega
      simp +contextual (maxSteps := 4000000) only [↓ur_seq, ↓ur_exit, ↓ur_ret, ↓ur_region, ↓ur_cond, ↓cont_seq, ↓leave_seq, ↓leave_blk, ↓leave_lp, ↓done_nil, ↓done_seq, ↓ops_consN, ↓ops_guardN, nY_move, nY_assign, nY_pick, nY_binOp, nilO_tmp, nilO_int, nY_callf, nY_callb, ↓ops_nil, opsIf_some, condC_true, condC_false, guardC_tt, guardC_tf, guardC_ft, guardC_ff, Option.map_some, Option.bind_some, Option.getD_some, Nat.reduceLT, Bool.false_eq_true, ↓upd_same, ↓upd_ne, Nat.reduceBEq, and_true, List.getD_cons_zero, List.getD_cons_succ, List.getElem?_toArray, List.getElem?_cons_zero, List.getElem?_cons_succ, endQ, cfg_P, cfg_tab, cfg_muts, cfg_frz, List.length_map, ↓havoc_in, ↓havoc_out, List.contains_cons, List.contains_nil, Bool.or_false, Bool.or_true, Int.ofNat_lt, decide_true, decide_false, Option.some.injEq, exists_eq_left', tabOf_cons, tab_v, List.append_nil, Nat.reduceAdd, Nat.lt_irrefl, Nat.lt_succ_self, Bool.not_false, DRx_bool, ↓ev_tmp, ↓ev_int, ↓ev_bool, ↓ev_func, ↓guardP_eq, grd_some, ↓iop_move, ↓iop_assign, ↓pick3_bool, ↓iop_pick, ↓iop_binOp, ↓iop_callv, ↓iop_callb, nrmAll_nil, bi_len, lenM_none, lenP_lits, b_lss, b_leq, b_gtr, env0_eq, ires_eq, iresL_1, iresAll_nil, iresAll_cons, iresOne_tmp, valT_eq, pursL_nil, ↓reduceIte, callP_eq, tsOf_eq, ↓evs_cons, ↓evs_nil, beq_self_eq_true, and_false, Bool.true_eq_false, s_sanity, nth_psts, pur_psts, nth_gaps, pur_gaps, nth_pays, pur_pays, Try.f4, ty34, ty35, h15, h5, c1i, c2i, c3i, c3j]
  have hV8 : (openV b).length ≤ 8 := by
    by_cases he : openE b = 0
    · have := (open_ok he).2.2.2
      rw [(open_zero he).2, nvK_len]; omega
    · rw [(least_not he).2]; simp
  have hpl : ((payM b).length : Int) = leastN b := by
    by_cases he : openE b = 0
    · exact (pay_ok he).2
    · rw [(least_not he).1]; unfold payM; rw [if_neg he]; rfl
  have hbl : b.length ≤ 100000 := by omega
  by_cases c : 8 < n
  · have f1 : (8 : Int) < (n : Int) := by omega
    have f2 : ¬ (n : Int) ≤ 12 := by omega
    by_cases d : 30 < l.length
    · have g1 : (30 : Int) < (l.length : Int) := by omega
      have g2 : ¬ (l.length : Int) ≤ 200 := by omega
      by_cases e : 210 < l.length
      · have k1 : (210 : Int) < (l.length : Int) := by omega
        simp +contextual (maxSteps := 4000000) only [↓ur_seq, ↓ur_exit, ↓ur_ret, ↓ur_region, ↓ur_cond, ↓cont_seq, ↓leave_seq, ↓leave_blk, ↓leave_lp, ↓done_nil, ↓done_seq, ↓ops_consN, ↓ops_guardN, nY_move, nY_assign, nY_pick, nY_binOp, nilO_tmp, nilO_int, nY_callf, nY_callb, ↓ops_nil, opsIf_some, condC_true, condC_false, guardC_tt, guardC_ff, Option.map_some, Option.bind_some, Option.getD_some, Nat.reduceLT, Bool.false_eq_true, ↓upd_same, ↓upd_ne, Nat.reduceBEq, and_true, List.getD_cons_zero, List.getD_cons_succ, List.getElem?_toArray, List.getElem?_cons_zero, List.getElem?_cons_succ, endQ, cfg_P, cfg_tab, cfg_muts, cfg_frz, List.length_map, ↓havoc_in, ↓havoc_out, List.contains_cons, List.contains_nil, Bool.or_false, Bool.or_true, Int.ofNat_lt, decide_true, decide_false, Option.some.injEq, exists_eq_left', tabOf_cons, tab_v, List.append_nil, Nat.reduceAdd, Nat.lt_irrefl, Nat.lt_succ_self, Bool.not_false, DRx_bool, ↓ev_tmp, ↓ev_int, ↓ev_func, ↓guardP_eq, grd_some, ↓iop_move, ↓iop_assign, ↓pick3_bool, ↓iop_pick, ↓iop_binOp, ↓iop_callv, ↓iop_callb, nrmAll_nil, bi_len, lenM_none, lenP_lits, b_lss, b_leq, b_gtr, env0_eq, ires_eq, iresL_1, iresAll_nil, iresAll_cons, iresOne_tmp, valT_eq, pursL_nil, ↓reduceIte, callP_eq, tsOf_eq, ↓evs_cons, ↓evs_nil, beq_self_eq_true, and_false, Bool.true_eq_false, s_sanity, nth_psts, pur_psts, nth_gaps, pur_gaps, nth_pays, pur_pays, Try.f4, ty34, ty35, h15, h5, c1i, f1, f2, g1, g2, k1]
      · have k1 : ¬ (210 : Int) < (l.length : Int) := by omega
        simp +contextual (maxSteps := 4000000) only [↓ur_skip, ↓ur_seq, ↓ur_exit, ↓ur_ret, ↓ur_region, ↓ur_cond, ↓cont_seq, ↓leave_seq, ↓leave_blk, ↓leave_lp, ↓done_nil, ↓ops_consN, ↓ops_guardN, nY_move, nY_assign, nY_pick, nY_alloc, nY_load, nY_store, nY_binOp, nilO_tmp, nilO_int, nY_fieldAddr, nY_extract, nY_callf, nY_callb, ↓ops_nil, opsIf_some, opsIf_none, condC_false, guardC_tt, guardC_ff, Option.map_some, Option.bind_some, Option.getD_some, Nat.reduceLT, Bool.false_eq_true, ↓upd_same, ↓upd_ne, Nat.reduceBEq, and_true, List.getD_cons_zero, List.getD_cons_succ, List.getElem?_toArray, List.getElem?_cons_zero, List.getElem?_cons_succ, endQ, cfg_P, cfg_tab, cfg_muts, cfg_frz, cfg_num, numOf_eq, List.length_map, ↓havoc_in, ↓havoc_out, List.contains_cons, List.contains_nil, Bool.or_false, Bool.or_true, Int.ofNat_lt, decide_true, decide_false, Option.some.injEq, exists_eq_left', tabOf_cons, tab_v, pur_ints, Bool.and_self, Nat.reduceEqDiff, List.nil_append, List.append_nil, updO_same, List.length_cons, List.length_nil, Nat.zero_add, Nat.add_zero, List.take_zero, Nat.reduceAdd, List.set_cons_zero, nth_zero, Nat.lt_irrefl, Nat.lt_succ_self, Bool.not_false, Nat.le_refl, pur_lits, cells_agg, DRx_bool, ↓ev_tmp, ↓ev_int, ↓ev_func, ↓guardP_eq, grd_some, ↓iop_move, ↓iop_assign, ↓pick3_bool, ↓iop_pick, ↓iop_alloc, ↓iop_load, ↓iop_store, ↓iop_binOp, ↓iop_fieldAddr, ↓iop_extract, extr_tuple, ↓iop_callv, ↓iop_callb, nrmAll_cons, nrmAll_nil, bi_len, lenM_none, nrm_lits, pickP_f, loadP_ptr, setCells_agg, storeP_ptr, fieldP_ptr, lenP_lits, b_eql, b_lss, b_leq, b_gtr, splice_eq, env0_eq, ires_eq, iresL_1, iresAll_nil, iresAll_cons, iresOne_tmp, valT_eq, pursL_cons, pursL_nil, Store.new, Store.set, ↓reduceIte, arr_eq, arrB_some, callP_eq, tsOf_eq, List.drop_succ_cons, List.drop_nil, bb_eql', ↓evs_cons, ↓evs_nil, beq_self_eq_true, see_eq, and_false, Bool.true_eq_false, s_sanity, s_least, s_rleast, s_pay, s_settles, s_rsettles, nth_psts, pur_psts, nth_gaps, pur_gaps, nth_pays, pur_pays, Try.f4, ty3, ty4, ty26, ty34, ty35, ty39, h15, h5, c1i, f1, f2, g1, g2, k1, hV8, hpl, hbl]
    · have g1 : ¬ (30 : Int) < (l.length : Int) := by omega
      have k1 : ¬ (210 : Int) < (l.length : Int) := by omega
      simp +contextual (maxSteps := 4000000) only [↓ur_skip, ↓ur_seq, ↓ur_exit, ↓ur_ret, ↓ur_region, ↓ur_cond, ↓cont_seq, ↓leave_seq, ↓leave_blk, ↓leave_lp, ↓done_nil, ↓ops_consN, ↓ops_guardN, nY_move, nY_assign, nY_pick, nY_alloc, nY_load, nY_store, nY_binOp, nilO_tmp, nilO_int, nY_fieldAddr, nY_extract, nY_callf, nY_callb, ↓ops_nil, opsIf_some, opsIf_none, condC_false, guardC_tt, guardC_ft, guardC_ff, Option.map_some, Option.bind_some, Option.getD_some, Nat.reduceLT, Bool.false_eq_true, ↓upd_same, ↓upd_ne, Nat.reduceBEq, and_true, List.getD_cons_zero, List.getD_cons_succ, List.getElem?_toArray, List.getElem?_cons_zero, List.getElem?_cons_succ, endQ, cfg_P, cfg_tab, cfg_muts, cfg_frz, cfg_num, numOf_eq, List.length_map, ↓havoc_in, ↓havoc_out, List.contains_cons, List.contains_nil, Bool.or_false, Bool.or_true, Int.ofNat_lt, decide_true, decide_false, Option.some.injEq, exists_eq_left', tabOf_cons, tab_v, pur_ints, Bool.and_self, Nat.reduceEqDiff, List.nil_append, List.append_nil, updO_same, List.length_cons, List.length_nil, Nat.zero_add, Nat.add_zero, List.take_zero, Nat.reduceAdd, List.set_cons_zero, nth_zero, Nat.lt_irrefl, Nat.lt_succ_self, Bool.not_false, Nat.le_refl, pur_lits, cells_agg, DRx_bool, ↓ev_tmp, ↓ev_int, ↓ev_bool, ↓ev_func, ↓guardP_eq, grd_some, ↓iop_move, ↓iop_assign, ↓pick3_bool, ↓iop_pick, ↓iop_alloc, ↓iop_load, ↓iop_store, ↓iop_binOp, ↓iop_fieldAddr, ↓iop_extract, extr_tuple, ↓iop_callv, ↓iop_callb, nrmAll_cons, nrmAll_nil, bi_len, lenM_none, nrm_lits, pickP_f, loadP_ptr, setCells_agg, storeP_ptr, fieldP_ptr, lenP_lits, b_eql, b_lss, b_leq, b_gtr, splice_eq, env0_eq, ires_eq, iresL_1, iresAll_nil, iresAll_cons, iresOne_tmp, valT_eq, pursL_cons, pursL_nil, Store.new, Store.set, ↓reduceIte, arr_eq, arrB_some, callP_eq, tsOf_eq, List.drop_succ_cons, List.drop_nil, bb_eql', ↓evs_cons, ↓evs_nil, beq_self_eq_true, see_eq, and_false, Bool.true_eq_false, s_sanity, s_least, s_rleast, s_pay, s_settles, s_rsettles, nth_psts, pur_psts, nth_gaps, pur_gaps, nth_pays, pur_pays, Try.f4, ty3, ty4, ty26, ty34, ty35, ty39, h15, h5, c1i, f1, f2, g1, k1, hV8, hpl, hbl]
  · have f1 : ¬ (8 : Int) < (n : Int) := by omega
    by_cases d : 30 < l.length
    · have g1 : (30 : Int) < (l.length : Int) := by omega
      have g2 : ¬ (l.length : Int) ≤ 200 := by omega
      by_cases e : 210 < l.length
      · have k1 : (210 : Int) < (l.length : Int) := by omega
        simp +contextual (maxSteps := 4000000) only [↓ur_seq, ↓ur_exit, ↓ur_ret, ↓ur_region, ↓ur_cond, ↓cont_seq, ↓leave_seq, ↓leave_blk, ↓leave_lp, ↓done_nil, ↓done_seq, ↓ops_consN, ↓ops_guardN, nY_move, nY_assign, nY_pick, nY_binOp, nilO_tmp, nilO_int, nY_callf, nY_callb, ↓ops_nil, opsIf_some, condC_true, condC_false, guardC_tt, guardC_ft, guardC_ff, Option.map_some, Option.bind_some, Option.getD_some, Nat.reduceLT, Bool.false_eq_true, ↓upd_same, ↓upd_ne, Nat.reduceBEq, and_true, List.getD_cons_zero, List.getD_cons_succ, List.getElem?_toArray, List.getElem?_cons_zero, List.getElem?_cons_succ, endQ, cfg_P, cfg_tab, cfg_muts, cfg_frz, List.length_map, ↓havoc_in, ↓havoc_out, List.contains_cons, List.contains_nil, Bool.or_false, Bool.or_true, Int.ofNat_lt, decide_true, decide_false, Option.some.injEq, exists_eq_left', tabOf_cons, tab_v, List.append_nil, Nat.reduceAdd, Nat.lt_irrefl, Nat.lt_succ_self, Bool.not_false, DRx_bool, ↓ev_tmp, ↓ev_int, ↓ev_bool, ↓ev_func, ↓guardP_eq, grd_some, ↓iop_move, ↓iop_assign, ↓pick3_bool, ↓iop_pick, ↓iop_binOp, ↓iop_callv, ↓iop_callb, nrmAll_nil, bi_len, lenM_none, lenP_lits, b_lss, b_leq, b_gtr, env0_eq, ires_eq, iresL_1, iresAll_nil, iresAll_cons, iresOne_tmp, valT_eq, pursL_nil, ↓reduceIte, callP_eq, tsOf_eq, ↓evs_cons, ↓evs_nil, beq_self_eq_true, and_false, Bool.true_eq_false, s_sanity, nth_psts, pur_psts, nth_gaps, pur_gaps, nth_pays, pur_pays, Try.f4, ty34, ty35, h15, h5, c1i, f1, g1, g2, k1]
      · have k1 : ¬ (210 : Int) < (l.length : Int) := by omega
        simp +contextual (maxSteps := 4000000) only [↓ur_skip, ↓ur_seq, ↓ur_exit, ↓ur_ret, ↓ur_region, ↓ur_cond, ↓cont_seq, ↓leave_seq, ↓leave_blk, ↓leave_lp, ↓done_nil, ↓ops_consN, ↓ops_guardN, nY_move, nY_assign, nY_pick, nY_alloc, nY_load, nY_store, nY_binOp, nilO_tmp, nilO_int, nY_fieldAddr, nY_extract, nY_callf, nY_callb, ↓ops_nil, opsIf_some, opsIf_none, condC_false, guardC_tt, guardC_ft, guardC_ff, Option.map_some, Option.bind_some, Option.getD_some, Nat.reduceLT, Bool.false_eq_true, ↓upd_same, ↓upd_ne, Nat.reduceBEq, and_true, List.getD_cons_zero, List.getD_cons_succ, List.getElem?_toArray, List.getElem?_cons_zero, List.getElem?_cons_succ, endQ, cfg_P, cfg_tab, cfg_muts, cfg_frz, cfg_num, numOf_eq, List.length_map, ↓havoc_in, ↓havoc_out, List.contains_cons, List.contains_nil, Bool.or_false, Bool.or_true, Int.ofNat_lt, decide_true, decide_false, Option.some.injEq, exists_eq_left', tabOf_cons, tab_v, pur_ints, Bool.and_self, Nat.reduceEqDiff, List.nil_append, List.append_nil, updO_same, List.length_cons, List.length_nil, Nat.zero_add, Nat.add_zero, List.take_zero, Nat.reduceAdd, List.set_cons_zero, nth_zero, Nat.lt_irrefl, Nat.lt_succ_self, Bool.not_false, Nat.le_refl, pur_lits, cells_agg, DRx_bool, ↓ev_tmp, ↓ev_int, ↓ev_bool, ↓ev_func, ↓guardP_eq, grd_some, ↓iop_move, ↓iop_assign, ↓pick3_bool, ↓iop_pick, ↓iop_alloc, ↓iop_load, ↓iop_store, ↓iop_binOp, ↓iop_fieldAddr, ↓iop_extract, extr_tuple, ↓iop_callv, ↓iop_callb, nrmAll_cons, nrmAll_nil, bi_len, lenM_none, nrm_lits, pickP_f, loadP_ptr, setCells_agg, storeP_ptr, fieldP_ptr, lenP_lits, b_eql, b_lss, b_leq, b_gtr, splice_eq, env0_eq, ires_eq, iresL_1, iresAll_nil, iresAll_cons, iresOne_tmp, valT_eq, pursL_cons, pursL_nil, Store.new, Store.set, ↓reduceIte, arr_eq, arrB_some, callP_eq, tsOf_eq, List.drop_succ_cons, List.drop_nil, bb_eql', ↓evs_cons, ↓evs_nil, beq_self_eq_true, see_eq, and_false, Bool.true_eq_false, s_sanity, s_least, s_rleast, s_pay, s_settles, s_rsettles, nth_psts, pur_psts, nth_gaps, pur_gaps, nth_pays, pur_pays, Try.f4, ty3, ty4, ty26, ty34, ty35, ty39, h15, h5, c1i, f1, g1, g2, k1, hV8, hpl, hbl]
    · have g1 : ¬ (30 : Int) < (l.length : Int) := by omega
      have k1 : ¬ (210 : Int) < (l.length : Int) := by omega
      simp +contextual (maxSteps := 4000000) only [↓ur_skip, ↓ur_seq, ↓ur_exit, ↓ur_ret, ↓ur_region, ↓ur_cond, ↓cont_seq, ↓leave_seq, ↓leave_blk, ↓leave_lp, ↓done_nil, ↓ops_consN, ↓ops_guardN, nY_move, nY_assign, nY_pick, nY_alloc, nY_load, nY_store, nY_binOp, nilO_tmp, nilO_int, nY_fieldAddr, nY_extract, nY_callf, nY_callb, ↓ops_nil, opsIf_some, opsIf_none, condC_false, guardC_tt, guardC_ft, guardC_ff, Option.map_some, Option.bind_some, Option.getD_some, Nat.reduceLT, Bool.false_eq_true, ↓upd_same, ↓upd_ne, Nat.reduceBEq, and_true, List.getD_cons_zero, List.getD_cons_succ, List.getElem?_toArray, List.getElem?_cons_zero, List.getElem?_cons_succ, endQ, cfg_P, cfg_tab, cfg_muts, cfg_frz, cfg_num, numOf_eq, List.length_map, ↓havoc_in, ↓havoc_out, List.contains_cons, List.contains_nil, Bool.or_false, Bool.or_true, Int.ofNat_lt, decide_true, decide_false, Option.some.injEq, exists_eq_left', tabOf_cons, tab_v, pur_ints, Bool.and_self, Nat.reduceEqDiff, List.nil_append, List.append_nil, updO_same, List.length_cons, List.length_nil, Nat.zero_add, Nat.add_zero, List.take_zero, Nat.reduceAdd, List.set_cons_zero, nth_zero, Nat.lt_irrefl, Nat.lt_succ_self, Bool.not_false, Nat.le_refl, pur_lits, cells_agg, DRx_bool, ↓ev_tmp, ↓ev_int, ↓ev_bool, ↓ev_func, ↓guardP_eq, grd_some, ↓iop_move, ↓iop_assign, ↓pick3_bool, ↓iop_pick, ↓iop_alloc, ↓iop_load, ↓iop_store, ↓iop_binOp, ↓iop_fieldAddr, ↓iop_extract, extr_tuple, ↓iop_callv, ↓iop_callb, nrmAll_cons, nrmAll_nil, bi_len, lenM_none, nrm_lits, pickP_f, loadP_ptr, setCells_agg, storeP_ptr, fieldP_ptr, lenP_lits, b_eql, b_lss, b_gtr, splice_eq, env0_eq, ires_eq, iresL_1, iresAll_nil, iresAll_cons, iresOne_tmp, valT_eq, pursL_cons, pursL_nil, Store.new, Store.set, ↓reduceIte, arr_eq, arrB_some, callP_eq, tsOf_eq, List.drop_succ_cons, List.drop_nil, bb_eql', ↓evs_cons, ↓evs_nil, beq_self_eq_true, see_eq, and_false, Bool.true_eq_false, s_sanity, s_least, s_rleast, s_pay, s_settles, s_rsettles, nth_psts, pur_psts, nth_gaps, pur_gaps, nth_pays, pur_pays, Try.f4, ty3, ty4, ty26, ty34, ty35, ty39, h15, h5, c1i, f1, g1, k1, hV8, hpl, hbl]
theorem o_law4 : O_law4 := k_law4 c_law4
end Sim
