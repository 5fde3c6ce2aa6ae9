/- What functions of this seat compute, by values: contracts (lemmas of the statement's proof, under the conditions that each names). -/
import Derived.Test.YtpaaaaijebdphaaQK
namespace Sim
open Go Go.Proofs
set_option maxRecDepth 10000
set_option maxHeartbeats 2000000
set_option linter.unusedVariables false
set_option linter.unusedSimpArgs false
attribute [local congr] opsIf_congr condC_congr guardC_congr grd_congr pick3_congr obind_congr omap_congr nilC_congr opsV_congr
noncomputable def A_rpost : (Int) × (List Pst) × (Pst) → List PV := fun (n, ps, p) => [.agg [I n, psts ps], pstV p]
noncomputable def R_rpost : (Int) × (List Pst) × (Pst) → PV := fun (n, ps, p) => .agg [I (postN n ps p), psts (postL n ps p), I (postE n ps p)]
def H_rpost : (Int) × (List Pst) × (Pst) → Prop := fun (n, ps, p) => True
noncomputable def e_rpost : Nat × Ent := (53, .v (specOf A_rpost R_rpost H_rpost))
theorem j_rpost : ∀ i j, A_rpost i = A_rpost j → i = j := by
  rintro ⟨n₁, ps₁, p₁⟩ ⟨n₂, ps₂, p₂⟩ h
  simp only [A_rpost, List.cons.injEq, and_true, PV.lits.injEq, PV.int.injEq, PV.bool.injEq, PV.str.injEq, PV.agg.injEq, PV.func.injEq, Fn.func.injEq, PV.vptr.injEq, true_and, List.map_nil, inj_ints, inj_strs, inj_psts, inj_gaps, inj_pays] at h
  simp [Prod.ext_iff, h] <;> omega
theorem s_rpost (n : Int) (ps : List Pst) (p : Pst) : specOf A_rpost R_rpost H_rpost [.agg [I n, psts ps], pstV p] = some (.agg [I (postN n ps p), psts (postL n ps p), I (postE n ps p)]) := specOf_app j_rpost (i := (n, ps, p)) trivial
def C_rpost : Prop := ∀ (n : Int) (ps : List Pst) (p : Pst) , VC Try.prog 53 [.agg [I n, psts ps], pstV p] (.agg [I (postN n ps p), psts (postL n ps p), I (postE n ps p)])
def O_rpost : Prop := EntOK Try.prog e_rpost.1 e_rpost.2
theorem k_rpost (c : C_rpost) : O_rpost := specOf_ok fun ⟨n, ps, p⟩ h => c n ps p
theorem c_rpost : C_rpost := by
  intro n ps p
  refine vc_ofU mixed (l := [e_rbook]) ((eok_cons o_rbook eok_nil)) [] [21, 26, 100026]  Try.func53 rfl (by decide +kernel) (N := 33) rfl (by simp) rfl (by kernel_rfl) fun hs => ?_
  simp only [smallL, PV.small, List.length_map, and_true, true_and] at hs
  by_cases h0 : bookE n ps = 0
  case neg =>
    have e : postE n ps p = bookE n ps := by unfold postE; rw [if_neg h0]
    have e2 : postN n ps p = 0 := by unfold postN; rw [if_neg (by rw [e]; exact h0)]
    have e3 : postL n ps p = [] := by unfold postL; rw [if_neg (by rw [e]; exact h0)]
    rw [e2, e3, e]
    obtain ⟨E, hE⟩ : ∃ E, bookE n ps = E := ⟨_, rfl⟩
    rw [hE] at h0 ⊢
    simp +contextual (maxSteps := 4000000) only [↓ur_seq, ↓ur_ret, ↓ur_region, ↓ur_cond, ↓cont_seq, ↓done_nil, ↓done_seq, ↓ops_consN, nY_move, nY_assign, nY_alloc, nY_box, nY_build, nY_load, nY_store, nY_binOp, nilO_int, nY_callf, ↓ops_nil, opsIf_some, opsIf_none, condC_true, Option.map_some, Option.bind_some, Option.getD_some, Nat.reduceLT, Bool.false_eq_true, ↓upd_same, ↓upd_ne, Nat.reduceBEq, and_true, List.getD_cons_zero, List.getD_cons_succ, endQ, cfg_P, cfg_tab, cfg_muts, cfg_frz, cfg_num, numOf_eq, List.map_nil, List.contains_cons, List.contains_nil, Bool.or_false, decide_true, Option.some.injEq, exists_eq_left', List.lookup_cons, List.lookup_nil, tabOf_cons, tab_v, Bool.and_self, List.cons_append, List.nil_append, List.append_nil, updO_same, List.length_cons, List.length_nil, Nat.zero_add, List.drop_zero, List.take_zero, Nat.reduceAdd, List.set_cons_zero, nth_zero, Nat.lt_succ_self, Bool.not_false, not_false_eq_true, st0, Nat.le_refl, cells_int, pur_int, isCell_int, pur_lits, isCell_lits, cells_agg, pur_agg, DRx_int, DRx_nils_lits, DRx_agg, DRxL_cons, DRxL_nil, ↓ev_tmp, ↓ev_int, ↓ev_func, ↓iop_move, ↓iop_assign, ↓iop_alloc, ↓iop_box, ↓iop_build, ↓iop_load, ↓iop_store, ↓iop_binOp, ↓iop_callv, nrmAll_cons, nrmAll_nil, nrm_agg, nrmL_cons, nrmL_nil, nrm1_int, nrm1_lits, pickP_t, loadP_vptr, loadP_ptr, setCells_agg, storeP_ptr, b_neq, fill_nil, fill_cons, fill1_some, buildP_eq, bldA_none, splice_eq, env0_eq, ires_eq, iresL_1, iresAll_nil, iresAll_cons, iresOne_cell, valT_eq, pursL_cons, pursL_nil, Store.new, Store.set, ↓reduceIte, arr_eq, arrB_some, callP_eq, tsOf_eq, boxP_eq, List.take_succ_cons, List.drop_succ_cons, List.drop_nil, List.take_nil, ↓evs_cons, ↓evs_nil, ↓evp_cons, ↓evp_nil, beq_self_eq_true, List.all_cons, List.all_nil, see_eq, and_false, Bool.true_eq_false, e_rbook, s_rbook, nth_psts, pur_psts, nth_gaps, pur_gaps, nth_pays, pur_pays, Try.f53, ty45, ty111, hE, h0]
  have hl := book_len h0
  have e : postE n ps p = bookE n (ps ++ [p]) := by unfold postE; rw [if_pos h0]
  have hl2 : ps.length ≤ 2147483648 := by omega
  have hl3 : ps.length + 1 ≤ 2147483648 := by omega
  have htk : List.take ps.length (ps.map pstV) = ps.map pstV := List.take_of_length_le (by rw [List.length_map]; exact Nat.le_refl _)
  have hmap : ps.map pstV ++ [.agg [I p.1, I p.2.1, I p.2.2.1, I p.2.2.2.1, I p.2.2.2.2.1, I p.2.2.2.2.2]] = (ps ++ [p]).map pstV := by rw [List.map_append]; rfl
  have htk2 : List.take (ps.length + 1) ((ps ++ [p]).map pstV) = (ps ++ [p]).map pstV := List.take_of_length_le (by simp)
  have hl4 : (ps ++ [p]).length = ps.length + 1 := by simp
  have hz1 : ps = [] → [PV.agg [I p.1, I p.2.1, I p.2.2.1, I p.2.2.2.1, I p.2.2.2.2.1, I p.2.2.2.2.2]] = (ps ++ [p]).map pstV := fun h => by rw [h]; rfl
  by_cases h1 : bookE n (ps ++ [p]) = 0
  · have e2 : postN n ps p = n := by unfold postN; rw [if_pos (by rw [e]; exact h1)]
    have e3 : postL n ps p = ps ++ [p] := by unfold postL; rw [if_pos (by rw [e]; exact h1)]
    rw [e2, e3, e, h1]
    by_cases hn : ps.length = 0
    · have hps : ps = [] := List.length_eq_zero_iff.1 hn
      subst hps
      rw [List.nil_append] at *
      have q0 : specOf A_rbook R_rbook H_rbook [.agg [I n, .lits 6 []]] = some (I (bookE n [])) := s_rbook n []
      have q1 : specOf A_rbook R_rbook H_rbook [.agg [I n, .lits 6 [.agg [I p.1, I p.2.1, I p.2.2.1, I p.2.2.2.1, I p.2.2.2.2.1, I p.2.2.2.2.2]]]] = some (I (bookE n [p])) := s_rbook n [p]
      simp +contextual (maxSteps := 4000000) only [↓ur_skip, ↓ur_seq, ↓ur_ret, ↓ur_region, ↓ur_cond, Nat.one_ne_zero, ↓cont_seq, ↓done_nil, ↓ops_consN, nY_move, nY_assign, nY_alloc, nY_box, nY_build, nY_buildSlice, nY_load, nY_store, nY_binOp, nilO_int, nY_fieldAddr, nY_callf, nY_callb, ↓ops_nil, opsIf_some, opsIf_none, condC_false, Option.map_some, Option.bind_some, Option.getD_some, Nat.reduceLT, Bool.false_eq_true, ↓upd_same, ↓upd_ne, Nat.reduceBEq, and_true, List.getD_cons_zero, List.getD_cons_succ, List.getElem?_cons_zero, List.getElem?_cons_succ, endQ, cfg_P, cfg_tab, cfg_muts, cfg_frz, cfg_num, numOf_eq, List.map_cons, List.map_nil, List.contains_cons, List.contains_nil, Bool.or_false, Bool.or_true, decide_false, Option.some.injEq, exists_eq_left', List.lookup_cons, List.lookup_nil, tabOf_cons, tab_v, Bool.and_self, List.cons_append, List.nil_append, List.append_nil, updO_same, updO_ne, List.length_cons, List.length_nil, Nat.zero_add, Nat.add_zero, List.drop_zero, List.take_zero, Nat.reduceAdd, List.replicate_succ, List.replicate_zero, List.set_cons_zero, Nat.reduceMul, Nat.reduceLeDiff, nth_zero, Nat.lt_succ_self, Bool.not_false, reduceCtorEq, not_true_eq_false, not_false_eq_true, or_false, st0, Nat.le_refl, cells_int, pur_int, rdC_int, isCell_int, pur_lits, isCell_lits, cells_ref, rdC_ref, cells_agg, pur_agg, rdP_agg, DRx_int, DRx_lits, DRx_agg, DRxL_cons, DRxL_nil, ↓ev_tmp, ↓ev_int, ↓ev_func, ↓iop_move, ↓iop_assign, ↓iop_alloc, ↓iop_box, ↓iop_build, ↓iop_buildSlice, ↓iop_load, ↓iop_store, ↓iop_binOp, ↓iop_fieldAddr, ↓iop_callv, ↓iop_callb, nrmAll_cons, nrmAll_nil, bi_append, nrm_agg, nrmL_cons, nrmL_nil, nrm1_int, nrm1_lits, nrm1_ref, pickP_f, pickP_t, loadP_vptr, loadP_ptr, setCells_agg, storeP_ptr, fieldP_vptr, fieldP_ptr, elemsP_lits, appendP_nils, b_neq, fill_nil, fill_cons, fill1_some, buildP_eq, bldA_none, bel_nil, bel_cons, splice_eq, env0_eq, ires_eq, iresL_1, iresAll_nil, iresAll_cons, iresOne_cell, frzQ_eq, seal_obj, seal_next, sealO_arr, sealE_agg, sealC_int, sealC_nils, sealC_ref, rdAll_cons, rdAll_nil, rdL_cons, rdL_nil, valT_eq, pursL_cons, pursL_nil, Store.new, Store.set, ↓reduceIte, arr_eq, arrB_some, callP_eq, tsOf_eq, boxP_eq, bslP_eq, ne_eq, List.take_succ_cons, List.drop_succ_cons, List.drop_nil, List.take_nil, ↓evs_cons, ↓evs_nil, ↓evp_cons, ↓evp_nil, only_obj, idsOf_cons, idsOf_nil, idC_agg, idL_cons, idL_nil, idE_ref, idE_int, beq_self_eq_true, List.all_cons, List.all_nil, see_eq, and_false, Bool.true_eq_false, e_rbook, nth_psts, pur_psts, nth_gaps, pur_gaps, nth_pays, pur_pays, Try.f53, ty3, ty22, ty45, ty61, ty111, h0, q0, q1, h1, psts]
    · generalize ps ++ [p] = qs at *
      simp +contextual (maxSteps := 4000000) only [↓ur_skip, ↓ur_seq, ↓ur_ret, ↓ur_region, ↓ur_cond, Nat.one_ne_zero, ↓cont_seq, ↓done_nil, ↓ops_consN, nY_move, nY_assign, nY_alloc, nY_box, nY_build, nY_buildSlice, nY_load, nY_store, nY_binOp, nilO_int, nY_fieldAddr, nY_callf, nY_callb, ↓ops_nil, opsIf_some, opsIf_none, condC_false, Option.map_some, Option.bind_some, Option.getD_some, Nat.reduceLT, Bool.false_eq_true, ↓upd_same, ↓upd_ne, Nat.reduceBEq, and_true, List.getD_cons_zero, List.getD_cons_succ, List.getElem?_cons_zero, List.getElem?_cons_succ, endQ, cfg_P, cfg_tab, cfg_muts, cfg_frz, cfg_num, numOf_eq, List.map_cons, List.map_nil, List.length_map, List.contains_cons, List.contains_nil, Bool.or_false, Bool.or_true, decide_false, Option.some.injEq, exists_eq_left', List.lookup_cons, List.lookup_nil, tabOf_cons, tab_v, Bool.and_self, List.cons_append, List.nil_append, List.append_nil, updO_same, updO_ne, List.length_cons, List.length_nil, Nat.zero_add, Nat.add_zero, List.drop_zero, List.take_zero, Nat.not_succ_le_self, Nat.reduceAdd, List.replicate_succ, List.replicate_zero, List.set_cons_zero, Nat.reduceMul, Nat.reduceLeDiff, nth_zero, Nat.lt_succ_self, Bool.not_false, reduceCtorEq, not_true_eq_false, not_false_eq_true, or_false, st0, Nat.le_refl, cells_int, pur_int, rdC_int, isCell_int, pur_lits, isCell_lits, cells_ref, rdC_ref, cells_agg, pur_agg, rdP_agg, DRx_int, DRx_lits, DRx_agg, DRxL_cons, DRxL_nil, ↓ev_tmp, ↓ev_int, ↓ev_func, ↓iop_move, ↓iop_assign, ↓iop_alloc, ↓iop_box, ↓iop_build, ↓iop_buildSlice, ↓iop_load, ↓iop_store, ↓iop_binOp, ↓iop_fieldAddr, ↓iop_callv, ↓iop_callb, nrmAll_cons, nrmAll_nil, bi_append, nrm_agg, nrmL_cons, nrmL_nil, nrm1_int, nrm1_lits, nrm1_ref, pickP_f, pickP_t, loadP_vptr, loadP_ptr, setCells_agg, storeP_ptr, fieldP_vptr, fieldP_ptr, elemsP_lits, appendP_nils, appendP_ref, b_neq, fill_nil, fill_cons, fill1_some, buildP_eq, bldA_none, bel_nil, bel_cons, splice_eq, env0_eq, ires_eq, iresL_1, iresAll_nil, iresAll_cons, iresOne_cell, frzQ_eq, seal_obj, seal_next, sealO_arr, sealE_agg, sealC_int, sealC_nils, sealC_ref, rdAll_cons, rdAll_nil, rdL_cons, rdL_nil, valT_eq, pursL_cons, pursL_nil, Store.new, Store.set, ↓reduceIte, arr_eq, arrB_some, callP_eq, tsOf_eq, boxP_eq, bslP_eq, ne_eq, List.take_succ_cons, List.drop_succ_cons, List.drop_nil, List.take_nil, ↓evs_cons, ↓evs_nil, ↓evp_cons, ↓evp_nil, only_obj, idsOf_cons, idsOf_nil, idC_agg, idL_cons, idL_nil, idE_ref, idE_int, beq_self_eq_true, List.all_cons, List.all_nil, see_eq, and_false, Bool.true_eq_false, e_rbook, s_rbook, nth_psts, pur_psts, nth_gaps, pur_gaps, nth_pays, pur_pays, Try.f53, ty3, ty22, ty45, ty61, ty111, h0, hn, hl2, hl3, htk, hmap, htk2, h1, hl4]
  · have e2 : postN n ps p = 0 := by unfold postN; rw [if_neg (by rw [e]; exact h1)]
    have e3 : postL n ps p = [] := by unfold postL; rw [if_neg (by rw [e]; exact h1)]
    rw [e2, e3, e]
    by_cases hn : ps.length = 0
    · have hps : ps = [] := List.length_eq_zero_iff.1 hn
      subst hps
      rw [List.nil_append] at *
      have q0 : specOf A_rbook R_rbook H_rbook [.agg [I n, .lits 6 []]] = some (I (bookE n [])) := s_rbook n []
      have q1 : specOf A_rbook R_rbook H_rbook [.agg [I n, .lits 6 [.agg [I p.1, I p.2.1, I p.2.2.1, I p.2.2.2.1, I p.2.2.2.2.1, I p.2.2.2.2.2]]]] = some (I (bookE n [p])) := s_rbook n [p]
      obtain ⟨E, hE⟩ : ∃ E, bookE n [p] = E := ⟨_, rfl⟩
      rw [hE] at h1 ⊢
      simp +contextual (maxSteps := 4000000) only [↓ur_skip, ↓ur_seq, ↓ur_ret, ↓ur_region, ↓ur_cond, Nat.one_ne_zero, ↓cont_seq, ↓done_nil, ↓done_seq, ↓ops_consN, nY_move, nY_assign, nY_alloc, nY_box, nY_build, nY_buildSlice, nY_load, nY_store, nY_binOp, nilO_int, nY_fieldAddr, nY_callf, nY_callb, ↓ops_nil, opsIf_some, opsIf_none, condC_true, condC_false, Option.map_some, Option.bind_some, Option.getD_some, Nat.reduceLT, Bool.false_eq_true, ↓upd_same, ↓upd_ne, Nat.reduceBEq, and_true, List.getD_cons_zero, List.getD_cons_succ, List.getElem?_cons_zero, List.getElem?_cons_succ, endQ, cfg_P, cfg_tab, cfg_muts, cfg_frz, cfg_num, numOf_eq, List.map_cons, List.map_nil, List.contains_cons, List.contains_nil, Bool.or_false, Bool.or_true, decide_true, decide_false, Option.some.injEq, exists_eq_left', List.lookup_cons, List.lookup_nil, tabOf_cons, tab_v, Bool.and_self, List.cons_append, List.nil_append, List.append_nil, updO_same, updO_ne, List.length_cons, List.length_nil, Nat.zero_add, Nat.add_zero, List.drop_zero, List.take_zero, Nat.reduceAdd, List.replicate_succ, List.replicate_zero, List.set_cons_zero, Nat.reduceMul, Nat.reduceLeDiff, nth_zero, Nat.lt_succ_self, Bool.not_false, reduceCtorEq, not_true_eq_false, not_false_eq_true, or_false, st0, Nat.le_refl, cells_int, pur_int, rdC_int, isCell_int, pur_lits, isCell_lits, cells_ref, rdC_ref, cells_agg, pur_agg, rdP_agg, DRx_int, DRx_nils_lits, DRx_agg, DRxL_cons, DRxL_nil, ↓ev_tmp, ↓ev_int, ↓ev_func, ↓iop_move, ↓iop_assign, ↓iop_alloc, ↓iop_box, ↓iop_build, ↓iop_buildSlice, ↓iop_load, ↓iop_store, ↓iop_binOp, ↓iop_fieldAddr, ↓iop_callv, ↓iop_callb, nrmAll_cons, nrmAll_nil, bi_append, nrm_agg, nrmL_cons, nrmL_nil, nrm1_int, nrm1_lits, nrm1_ref, pickP_f, pickP_t, loadP_vptr, loadP_ptr, setCells_agg, storeP_ptr, fieldP_vptr, fieldP_ptr, elemsP_lits, appendP_nils, b_neq, fill_nil, fill_cons, fill1_some, buildP_eq, bldA_none, bel_nil, bel_cons, splice_eq, env0_eq, ires_eq, iresL_1, iresAll_nil, iresAll_cons, iresOne_cell, frzQ_eq, seal_obj, seal_next, sealO_arr, sealE_agg, sealC_int, sealC_nils, rdAll_cons, rdAll_nil, rdL_cons, rdL_nil, valT_eq, pursL_cons, pursL_nil, Store.new, Store.set, ↓reduceIte, arr_eq, arrB_some, callP_eq, tsOf_eq, boxP_eq, bslP_eq, ne_eq, List.take_succ_cons, List.drop_succ_cons, List.drop_nil, List.take_nil, ↓evs_cons, ↓evs_nil, ↓evp_cons, ↓evp_nil, only_obj, idsOf_cons, idsOf_nil, idC_agg, idL_cons, idL_nil, idE_ref, idE_int, beq_self_eq_true, List.all_cons, List.all_nil, see_eq, and_false, Bool.true_eq_false, e_rbook, nth_psts, pur_psts, nth_gaps, pur_gaps, nth_pays, pur_pays, Try.f53, ty3, ty22, ty45, ty61, ty111, h0, q0, q1, hE, h1, psts]
    · generalize ps ++ [p] = qs at *
      obtain ⟨E, hE⟩ : ∃ E, bookE n qs = E := ⟨_, rfl⟩
      rw [hE] at h1 ⊢
      simp +contextual (maxSteps := 4000000) only [↓ur_skip, ↓ur_seq, ↓ur_ret, ↓ur_region, ↓ur_cond, Nat.one_ne_zero, ↓cont_seq, ↓done_nil, ↓done_seq, ↓ops_consN, nY_move, nY_assign, nY_alloc, nY_box, nY_build, nY_buildSlice, nY_load, nY_store, nY_binOp, nilO_int, nY_fieldAddr, nY_callf, nY_callb, ↓ops_nil, opsIf_some, opsIf_none, condC_true, condC_false, Option.map_some, Option.bind_some, Option.getD_some, Nat.reduceLT, Bool.false_eq_true, ↓upd_same, ↓upd_ne, Nat.reduceBEq, and_true, List.getD_cons_zero, List.getD_cons_succ, List.getElem?_cons_zero, List.getElem?_cons_succ, endQ, cfg_P, cfg_tab, cfg_muts, cfg_frz, cfg_num, numOf_eq, List.map_cons, List.map_nil, List.length_map, List.contains_cons, List.contains_nil, Bool.or_false, Bool.or_true, decide_true, decide_false, Option.some.injEq, exists_eq_left', List.lookup_cons, List.lookup_nil, tabOf_cons, tab_v, Bool.and_self, List.cons_append, List.nil_append, List.append_nil, updO_same, updO_ne, List.length_cons, List.length_nil, Nat.zero_add, Nat.add_zero, List.drop_zero, List.take_zero, Nat.not_succ_le_self, Nat.reduceAdd, List.replicate_succ, List.replicate_zero, List.set_cons_zero, Nat.reduceMul, Nat.reduceLeDiff, nth_zero, Nat.lt_succ_self, Bool.not_false, reduceCtorEq, not_true_eq_false, not_false_eq_true, or_false, st0, Nat.le_refl, cells_int, pur_int, rdC_int, isCell_int, pur_lits, isCell_lits, cells_ref, rdC_ref, cells_agg, pur_agg, rdP_agg, DRx_int, DRx_nils_lits, DRx_agg, DRxL_cons, DRxL_nil, ↓ev_tmp, ↓ev_int, ↓ev_func, ↓iop_move, ↓iop_assign, ↓iop_alloc, ↓iop_box, ↓iop_build, ↓iop_buildSlice, ↓iop_load, ↓iop_store, ↓iop_binOp, ↓iop_fieldAddr, ↓iop_callv, ↓iop_callb, nrmAll_cons, nrmAll_nil, bi_append, nrm_agg, nrmL_cons, nrmL_nil, nrm1_int, nrm1_lits, nrm1_ref, pickP_f, pickP_t, loadP_vptr, loadP_ptr, setCells_agg, storeP_ptr, fieldP_vptr, fieldP_ptr, elemsP_lits, appendP_nils, appendP_ref, b_neq, fill_nil, fill_cons, fill1_some, buildP_eq, bldA_none, bel_nil, bel_cons, splice_eq, env0_eq, ires_eq, iresL_1, iresAll_nil, iresAll_cons, iresOne_cell, frzQ_eq, seal_obj, seal_next, sealO_arr, sealE_agg, sealC_int, sealC_nils, rdAll_cons, rdAll_nil, rdL_cons, rdL_nil, valT_eq, pursL_cons, pursL_nil, Store.new, Store.set, ↓reduceIte, arr_eq, arrB_some, callP_eq, tsOf_eq, boxP_eq, bslP_eq, ne_eq, List.take_succ_cons, List.drop_succ_cons, List.drop_nil, List.take_nil, ↓evs_cons, ↓evs_nil, ↓evp_cons, ↓evp_nil, only_obj, idsOf_cons, idsOf_nil, idC_agg, idL_cons, idL_nil, idE_ref, idE_int, beq_self_eq_true, List.all_cons, List.all_nil, see_eq, and_false, Bool.true_eq_false, e_rbook, s_rbook, nth_psts, pur_psts, nth_gaps, pur_gaps, nth_pays, pur_pays, Try.f53, ty3, ty22, ty45, ty61, ty111, h0, hn, hl2, hl3, htk, hmap, htk2, hE, h1, hl4]
theorem o_rpost : O_rpost := k_rpost c_rpost
/-! What books hold. -/
structure BookOK (n : Int) (ps : List Pst) : Prop where
  num : 1 ≤ n ∧ n ≤ 40
  len : ps.length ≤ 10000
  one : ∀ k, k < ps.length → (accO n (ps.getD k dP).1 ∧ accO n (ps.getD k dP).2.1 ∧ ¬ (ps.getD k dP).1 = (ps.getD k dP).2.1) ∧ rngO (ps.getD k dP)
  asc : ∀ k, 0 < k → k < ps.length → (ps.getD (k - 1) dP).2.2.2.1 ≤ (ps.getD k dP).2.2.2.1
theorem one_zero {n : Int} {p : Pst} : oneE n p = 0 ↔ (accO n p.1 ∧ accO n p.2.1 ∧ ¬ p.1 = p.2.1) ∧ rngO p := by
  unfold oneE
  by_cases h1 : accO n p.1 ∧ accO n p.2.1 ∧ ¬ p.1 = p.2.1
  · rw [if_neg (fun h => h h1)]
    by_cases h2 : rngO p
    · rw [if_neg (fun h => h h2)]; exact ⟨fun _ => ⟨h1, h2⟩, fun _ => rfl⟩
    · rw [if_pos h2]; exact ⟨fun h => (by cases h), fun h => absurd h.2 h2⟩
  · rw [if_pos h1]; exact ⟨fun h => (by cases h), fun h => absurd h.1 h1⟩
theorem chk_zero {n : Int} {ps : List Pst} : ∀ k, chkK n ps k = 0 ↔ ∀ j, j < k → oneE n (ps.getD j dP) = 0 ∧ (0 < j → (ps.getD (j - 1) dP).2.2.2.1 ≤ (ps.getD j dP).2.2.2.1)
  | 0 => ⟨fun _ j hj => absurd hj (by omega), fun _ => rfl⟩
  | k + 1 => by
    have ih := chk_zero (n := n) (ps := ps) k
    simp only [chkK]
    constructor
    · intro h j hj
      by_cases h0 : chkK n ps k = 0
      · rw [if_neg (fun g => g h0)] at h
        by_cases e : j = k
        · subst e
          by_cases h1 : oneE n (ps.getD j dP) = 0
          · rw [if_neg (fun g => g h1)] at h
            refine ⟨h1, fun hj0 => ?_⟩
            apply Classical.byContradiction
            intro hc
            rw [if_pos ⟨hj0, by omega⟩] at h; cases h
          · rw [if_pos h1] at h; exact absurd h h1
        · exact ih.1 h0 j (by omega)
      · rw [if_pos h0] at h; exact absurd h h0
    · intro h
      have h0 := ih.2 fun j hj => h j (by omega)
      obtain ⟨h1, h2⟩ := h k (by omega)
      rw [if_neg (fun g => g h0), if_neg (fun g => g h1), if_neg (fun g => by have := h2 g.1; omega)]
theorem book_zero {n : Int} {ps : List Pst} : bookE n ps = 0 ↔ BookOK n ps := by
  unfold bookE
  constructor
  · intro h
    by_cases h1 : n < 1 ∨ 40 < n
    · rw [if_pos h1] at h; cases h
    · rw [if_neg h1] at h
      by_cases h2 : 10000 < ps.length
      · rw [if_pos h2] at h; cases h
      · rw [if_neg h2] at h
        have := (chk_zero _).1 h
        exact ⟨by omega, by omega, fun k hk => one_zero.1 (this k hk).1, fun k h0 hk => (this k hk).2 h0⟩
  · intro h
    have h1 := h.num
    have h2 := h.len
    rw [if_neg (by omega), if_neg (by omega), chk_zero]
    exact fun j hj => ⟨one_zero.2 (h.one j hj), fun h0 => h.asc j h0 hj⟩
/-- What an account gets by a posting, and by the first ones until a tick. -/
def gotQ (p : Pst) (i : Int) : Int := (if p.1 = i then p.2.2.1 else 0) - (if p.2.1 = i then p.2.2.1 else 0)
def balK (ps : List Pst) (i t : Int) : Nat → Int
  | 0 => 0
  | k + 1 => balK ps i t k + if (ps.getD k dP).2.2.2.1 ≤ t then gotQ (ps.getD k dP) i else 0
theorem gotQ_le {n : Int} {p : Pst} (h : rngO p) (hne : ¬ p.1 = p.2.1) (i : Int) : -1099511627776 ≤ gotQ p i ∧ gotQ p i ≤ 1099511627776 := by
  unfold rngO at h
  unfold gotQ
  split <;> split <;> omega
theorem balK_le {n : Int} {ps : List Pst} (ok : BookOK n ps) (i t : Int) : ∀ k, k ≤ ps.length → -(1099511627776 * (k : Int)) ≤ balK ps i t k ∧ balK ps i t k ≤ 1099511627776 * (k : Int)
  | 0, _ => by simp [balK]
  | k + 1, hk => by
    have ih := balK_le ok i t k (by omega)
    obtain ⟨h1, h2⟩ := ok.one k (by omega)
    have := gotQ_le (n := n) h2 h1.2.2 i
    simp only [balK]
    split <;> omega
noncomputable def A_rgot : (Pst) × (Int) → List PV := fun (p, i) => [pstV p, I i]
noncomputable def R_rgot : (Pst) × (Int) → PV := fun (p, i) => I (gotQ p i)
def H_rgot : (Pst) × (Int) → Prop := fun (p, i) => -4611686018427387904 ≤ p.2.2.1 ∧ p.2.2.1 ≤ 4611686018427387904
noncomputable def e_rgot : Nat × Ent := (76, .v (specOf A_rgot R_rgot H_rgot))
theorem j_rgot : ∀ i j, A_rgot i = A_rgot j → i = j := by
  rintro ⟨p₁, i₁⟩ ⟨p₂, i₂⟩ h
  simp only [A_rgot, List.cons.injEq, and_true, PV.lits.injEq, PV.int.injEq, PV.bool.injEq, PV.str.injEq, PV.agg.injEq, PV.func.injEq, Fn.func.injEq, PV.vptr.injEq, true_and, List.map_nil, inj_ints, inj_strs, inj_psts, inj_gaps, inj_pays] at h
  simp [Prod.ext_iff, h] <;> omega
theorem s_rgot (p : Pst) (i : Int) : specOf A_rgot R_rgot H_rgot [pstV p, I i] = @ite (Option (PV)) (-4611686018427387904 ≤ p.2.2.1 ∧ p.2.2.1 ≤ 4611686018427387904) (Classical.propDecidable _) (some (I (gotQ p i))) none := specOf_if j_rgot (p, i)
def C_rgot : Prop := ∀ (p : Pst) (i : Int) (h : -4611686018427387904 ≤ p.2.2.1 ∧ p.2.2.1 ≤ 4611686018427387904) , VC Try.prog 76 [pstV p, I i] (I (gotQ p i))
def O_rgot : Prop := EntOK Try.prog e_rgot.1 e_rgot.2
theorem k_rgot (c : C_rgot) : O_rgot := specOf_ok fun ⟨p, i⟩ h => c p i h
theorem c_rgot : C_rgot := by
  rintro p i ⟨b1, b2⟩
  refine vc_ofU mixed (l := []) (eok_nil) [] []  Try.func76 rfl (by decide +kernel) (N := 23) rfl (by simp) rfl (by kernel_rfl) fun hs => ?_
  simp only [smallL, PV.small, List.length_map, and_true, true_and] at hs
  obtain ⟨R, hR⟩ : ∃ R, gotQ p i = R := ⟨_, rfl⟩
  rw [hR]
  unfold gotQ at hR
  have w1 : IntKind.i64.wrap (0 + p.2.2.1) = p.2.2.1 := by rw [Int.zero_add]; exact wrap64 (by omega) (by omega)
  have w2 : IntKind.i64.wrap (p.2.2.1 - p.2.2.1) = 0 := by rw [Int.sub_self]; rfl
  have w3 : IntKind.i64.wrap (0 - p.2.2.1) = 0 - p.2.2.1 := wrap64 (by omega) (by omega)
  by_cases c1 : p.1 = i
  · rw [if_pos c1] at hR
    by_cases c2 : p.2.1 = i
    · rw [if_pos c2] at hR
      simp +contextual (maxSteps := 4000000) only [↓ur_seq, ↓ur_ret, ↓ur_region, ↓ur_cond, ↓cont_seq, ↓done_nil, ↓ops_consN, nY_move, nY_assign, nY_box, nY_load, nY_binOp, nilO_tmp, nY_fieldAddr, ↓ops_nil, opsIf_some, condC_true, Option.map_some, Option.bind_some, Option.getD_some, Nat.reduceLT, Bool.false_eq_true, ↓upd_same, ↓upd_ne, Nat.reduceBEq, true_and, List.getD_cons_zero, List.getD_cons_succ, List.getElem?_cons_zero, List.getElem?_cons_succ, endQ, cfg_P, cfg_muts, cfg_frz, List.contains_nil, decide_true, Option.some.injEq, exists_eq_left', List.length_cons, List.length_nil, Nat.zero_add, Nat.add_zero, Nat.reduceAdd, Nat.lt_succ_self, Bool.not_false, st0, cells_agg, DRx_int, ↓ev_tmp, ↓ev_int, ↓iop_move, ↓iop_assign, ↓iop_box, ↓iop_load, ↓iop_binOp, ↓iop_fieldAddr, pickP_f, loadP_vptr, fieldP_vptr, b_add, b_sub, b_eql, env0_eq, ires_eq, iresL_1, iresAll_nil, iresAll_cons, iresOne_tmp, ↓reduceIte, boxP_eq, see_eq, nth_psts, pur_psts, nth_gaps, pur_gaps, nth_pays, pur_pays, Try.f76, ty3, ty61, c1, c2, w1, w2]
      omega
    · rw [if_neg c2] at hR
      simp +contextual (maxSteps := 4000000) only [↓ur_skip, ↓ur_seq, ↓ur_ret, ↓ur_region, ↓ur_cond, ↓cont_seq, ↓done_nil, ↓ops_consN, nY_move, nY_assign, nY_box, nY_load, nY_binOp, nilO_tmp, nY_fieldAddr, ↓ops_nil, opsIf_some, condC_true, condC_false, Option.map_some, Option.bind_some, Option.getD_some, Nat.reduceLT, Bool.false_eq_true, ↓upd_same, ↓upd_ne, Nat.reduceBEq, true_and, List.getD_cons_zero, List.getD_cons_succ, List.getElem?_cons_zero, List.getElem?_cons_succ, endQ, cfg_P, cfg_muts, cfg_frz, List.contains_nil, decide_true, decide_false, Option.some.injEq, exists_eq_left', List.length_cons, List.length_nil, Nat.zero_add, Nat.add_zero, Nat.reduceAdd, Nat.lt_succ_self, Bool.not_false, st0, cells_agg, DRx_int, ↓ev_tmp, ↓ev_int, ↓iop_move, ↓iop_assign, ↓iop_box, ↓iop_load, ↓iop_binOp, ↓iop_fieldAddr, pickP_f, loadP_vptr, fieldP_vptr, b_add, b_eql, env0_eq, ires_eq, iresL_1, iresAll_nil, iresAll_cons, iresOne_tmp, ↓reduceIte, boxP_eq, see_eq, nth_psts, pur_psts, nth_gaps, pur_gaps, nth_pays, pur_pays, Try.f76, ty3, ty61, c1, c2, w1]
      omega
  · rw [if_neg c1] at hR
    by_cases c2 : p.2.1 = i
    · rw [if_pos c2] at hR
      simp +contextual (maxSteps := 4000000) only [↓ur_skip, ↓ur_seq, ↓ur_ret, ↓ur_region, ↓ur_cond, ↓cont_seq, ↓done_nil, ↓ops_consN, nY_move, nY_assign, nY_box, nY_load, nY_binOp, nilO_tmp, nY_fieldAddr, ↓ops_nil, opsIf_some, condC_true, condC_false, Option.map_some, Option.bind_some, Option.getD_some, Nat.reduceLT, Bool.false_eq_true, ↓upd_same, ↓upd_ne, Nat.reduceBEq, true_and, List.getD_cons_zero, List.getD_cons_succ, List.getElem?_cons_zero, List.getElem?_cons_succ, endQ, cfg_P, cfg_muts, cfg_frz, List.contains_nil, decide_true, decide_false, Option.some.injEq, exists_eq_left', List.length_cons, List.length_nil, Nat.zero_add, Nat.add_zero, Nat.reduceAdd, Nat.lt_succ_self, Bool.not_false, st0, cells_agg, DRx_int, ↓ev_tmp, ↓ev_int, ↓iop_move, ↓iop_assign, ↓iop_box, ↓iop_load, ↓iop_binOp, ↓iop_fieldAddr, pickP_f, loadP_vptr, fieldP_vptr, b_sub, b_eql, env0_eq, ires_eq, iresL_1, iresAll_nil, iresAll_cons, iresOne_tmp, ↓reduceIte, boxP_eq, see_eq, nth_psts, pur_psts, nth_gaps, pur_gaps, nth_pays, pur_pays, Try.f76, ty3, ty61, c1, c2, w3]
      omega
    · rw [if_neg c2] at hR
      simp +contextual (maxSteps := 4000000) only [↓ur_skip, ↓ur_seq, ↓ur_ret, ↓ur_region, ↓ur_cond, ↓cont_seq, ↓done_nil, ↓ops_consN, nY_move, nY_assign, nY_box, nY_load, nY_binOp, nilO_tmp, nY_fieldAddr, ↓ops_nil, opsIf_some, condC_false, Option.map_some, Option.bind_some, Option.getD_some, Nat.reduceLT, Bool.false_eq_true, ↓upd_same, ↓upd_ne, Nat.reduceBEq, true_and, List.getD_cons_zero, List.getD_cons_succ, List.getElem?_cons_zero, List.getElem?_cons_succ, endQ, cfg_P, cfg_muts, cfg_frz, List.contains_nil, decide_false, Option.some.injEq, exists_eq_left', List.length_cons, List.length_nil, Nat.zero_add, Nat.add_zero, Nat.reduceAdd, Nat.lt_succ_self, Bool.not_false, st0, cells_agg, DRx_int, ↓ev_tmp, ↓ev_int, ↓iop_move, ↓iop_assign, ↓iop_box, ↓iop_load, ↓iop_binOp, ↓iop_fieldAddr, pickP_f, loadP_vptr, fieldP_vptr, b_eql, env0_eq, ires_eq, iresL_1, iresAll_nil, iresAll_cons, iresOne_tmp, ↓reduceIte, boxP_eq, see_eq, nth_psts, pur_psts, nth_gaps, pur_gaps, nth_pays, pur_pays, Try.f76, ty3, ty61, c1, c2]
      omega
theorem o_rgot : O_rgot := k_rgot c_rgot
def rbalE (n : Int) (ps : List Pst) (i : Int) : Int := if ¬ bookE n ps = 0 then bookE n ps else if ¬ accO n i then 8 else 0
def rbalN (n : Int) (ps : List Pst) (i t : Int) : Int := if rbalE n ps i = 0 then balK ps i t ps.length else 0
noncomputable def A_rbal : (Int) × (List Pst) × (Int) × (Int) → List PV := fun (n, ps, i, t) => [.agg [I n, psts ps], I i, I t]
noncomputable def R_rbal : (Int) × (List Pst) × (Int) × (Int) → PV := fun (n, ps, i, t) => .agg [I (rbalN n ps i t), I (rbalE n ps i)]
def H_rbal : (Int) × (List Pst) × (Int) × (Int) → Prop := fun (n, ps, i, t) => True
noncomputable def e_rbal : Nat × Ent := (50, .v (specOf A_rbal R_rbal H_rbal))
theorem j_rbal : ∀ i j, A_rbal i = A_rbal j → i = j := by
  rintro ⟨n₁, ps₁, i₁, t₁⟩ ⟨n₂, ps₂, i₂, t₂⟩ h
  simp only [A_rbal, List.cons.injEq, and_true, PV.lits.injEq, PV.int.injEq, PV.bool.injEq, PV.str.injEq, PV.agg.injEq, PV.func.injEq, Fn.func.injEq, PV.vptr.injEq, true_and, List.map_nil, inj_ints, inj_strs, inj_psts, inj_gaps, inj_pays] at h
  simp [Prod.ext_iff, h] <;> omega
theorem s_rbal (n : Int) (ps : List Pst) (i : Int) (t : Int) : specOf A_rbal R_rbal H_rbal [.agg [I n, psts ps], I i, I t] = some (.agg [I (rbalN n ps i t), I (rbalE n ps i)]) := specOf_app j_rbal (i := (n, ps, i, t)) trivial
def C_rbal : Prop := ∀ (n : Int) (ps : List Pst) (i : Int) (t : Int) , VC Try.prog 50 [.agg [I n, psts ps], I i, I t] (.agg [I (rbalN n ps i t), I (rbalE n ps i)])
def O_rbal : Prop := EntOK Try.prog e_rbal.1 e_rbal.2
theorem k_rbal (c : C_rbal) : O_rbal := specOf_ok fun ⟨n, ps, i, t⟩ h => c n ps i t
theorem c_rbal : C_rbal := by
  intro n ps i t
  refine vc_ofU mixed (l := [e_rbook, e_rin, e_rgot]) ((eok_cons o_rbook (eok_cons o_rin (eok_cons o_rgot eok_nil)))) [] []  Try.func50 rfl (by decide +kernel) (N := 49) rfl (by simp) rfl (by kernel_rfl) fun hs => ?_
  simp only [smallL, PV.small, List.length_map, and_true, true_and] at hs
  by_cases h0 : bookE n ps = 0
  case neg =>
    have e : rbalE n ps i = bookE n ps := by unfold rbalE; rw [if_pos h0]
    have e2 : rbalN n ps i t = 0 := by unfold rbalN; rw [if_neg (by rw [e]; exact h0)]
    rw [e, e2]
    obtain ⟨E, hE⟩ : ∃ E, bookE n ps = E := ⟨_, rfl⟩
    rw [hE] at h0 ⊢
    simp +contextual (maxSteps := 4000000) only [↓ur_seq, ↓ur_ret, ↓ur_region, ↓ur_cond, ↓cont_seq, ↓done_nil, ↓done_seq, ↓ops_consN, nY_move, nY_assign, nY_alloc, nY_box, nY_build, nY_load, nY_store, nY_binOp, nilO_int, nY_callf, ↓ops_nil, opsIf_some, opsIf_none, condC_true, Option.map_some, Option.bind_some, Option.getD_some, Nat.reduceLT, Bool.false_eq_true, ↓upd_same, ↓upd_ne, Nat.reduceBEq, and_true, List.getD_cons_zero, endQ, cfg_P, cfg_tab, cfg_muts, cfg_frz, cfg_num, numOf_eq, List.contains_nil, decide_true, Option.some.injEq, exists_eq_left', List.lookup_cons, List.lookup_nil, tabOf_cons, tab_v, Bool.and_self, List.cons_append, List.nil_append, List.append_nil, updO_same, List.length_cons, List.length_nil, Nat.zero_add, List.drop_zero, List.take_zero, Nat.reduceAdd, List.set_cons_zero, nth_zero, Nat.lt_succ_self, Bool.not_false, not_false_eq_true, st0, Nat.le_refl, cells_int, pur_int, isCell_int, pur_lits, cells_agg, pur_agg, DRx_int, DRx_agg, DRxL_cons, DRxL_nil, ↓ev_tmp, ↓ev_int, ↓ev_func, ↓iop_move, ↓iop_assign, ↓iop_alloc, ↓iop_box, ↓iop_build, ↓iop_load, ↓iop_store, ↓iop_binOp, ↓iop_callv, nrmAll_cons, nrmAll_nil, nrm_agg, nrmL_cons, nrmL_nil, nrm1_int, nrm1_lits, pickP_t, loadP_vptr, loadP_ptr, setCells_agg, storeP_ptr, b_neq, fill_nil, fill_cons, fill1_some, buildP_eq, bldA_none, splice_eq, env0_eq, ires_eq, iresL_1, iresAll_nil, iresAll_cons, iresOne_cell, valT_eq, pursL_cons, pursL_nil, Store.new, Store.set, ↓reduceIte, arr_eq, arrB_some, callP_eq, tsOf_eq, boxP_eq, List.take_succ_cons, List.drop_succ_cons, List.drop_nil, List.take_nil, ↓evs_cons, ↓evs_nil, ↓evp_cons, ↓evp_nil, beq_self_eq_true, List.all_cons, List.all_nil, see_eq, and_false, Bool.true_eq_false, e_rbook, s_rbook, e_rin, e_rgot, nth_psts, pur_psts, nth_gaps, pur_gaps, nth_pays, pur_pays, Try.f50, ty45, ty107, hE, h0]
  by_cases h1 : accO n i
  case neg =>
    have e : rbalE n ps i = 8 := by unfold rbalE; rw [if_neg (fun h => h h0), if_pos h1]
    have e2 : rbalN n ps i t = 0 := by unfold rbalN; rw [if_neg (by rw [e]; decide)]
    rw [e, e2]
    simp +contextual (maxSteps := 4000000) only [↓ur_skip, ↓ur_seq, ↓ur_ret, ↓ur_region, ↓ur_cond, ↓cont_seq, ↓done_nil, ↓done_seq, ↓ops_consN, nY_move, nY_assign, nY_alloc, nY_box, nY_build, nY_load, nY_store, nY_binOp, nilO_int, nY_unOp, nY_callf, ↓ops_nil, opsIf_some, opsIf_none, condC_true, condC_false, Option.map_some, Option.bind_some, Option.getD_some, Nat.reduceLT, Bool.false_eq_true, ↓upd_same, ↓upd_ne, Nat.reduceBEq, and_true, List.getD_cons_zero, List.getD_cons_succ, endQ, cfg_P, cfg_tab, cfg_muts, cfg_frz, cfg_num, numOf_eq, List.contains_nil, decide_false, Option.some.injEq, exists_eq_left', List.lookup_cons, List.lookup_nil, tabOf_cons, tab_v, Bool.and_self, Nat.reduceEqDiff, List.cons_append, List.nil_append, List.append_nil, updO_same, List.length_cons, List.length_nil, Nat.zero_add, List.drop_zero, List.take_zero, Nat.reduceAdd, List.set_cons_zero, nth_zero, Nat.lt_succ_self, Bool.not_false, not_true_eq_false, st0, Nat.le_refl, cells_int, pur_int, isCell_int, pur_lits, cells_agg, pur_agg, DRx_int, DRx_agg, DRxL_cons, DRxL_nil, ↓ev_tmp, ↓ev_int, ↓ev_func, ↓iop_move, ↓iop_assign, ↓iop_alloc, ↓iop_box, ↓iop_build, ↓iop_load, ↓iop_store, ↓iop_binOp, ↓iop_unOp, ↓iop_callv, nrmAll_cons, nrmAll_nil, nrm_agg, nrmL_cons, nrmL_nil, nrm_int, nrm1_int, nrm1_lits, pickP_t, loadP_vptr, loadP_ptr, setCells_agg, storeP_ptr, b_neq, u_not, fill_nil, fill_cons, fill1_some, buildP_eq, bldA_none, splice_eq, env0_eq, ires_eq, iresL_1, iresAll_nil, iresAll_cons, iresOne_cell, valT_eq, pursL_cons, pursL_nil, Store.new, Store.set, ↓reduceIte, arr_eq, arrB_some, callP_eq, tsOf_eq, boxP_eq, List.take_succ_cons, List.drop_succ_cons, List.drop_nil, List.take_nil, ↓evs_cons, ↓evs_nil, ↓evp_cons, ↓evp_nil, beq_self_eq_true, List.all_cons, List.all_nil, see_eq, and_false, Bool.true_eq_false, e_rbook, s_rbook, e_rin, s_rin, e_rgot, nth_psts, pur_psts, nth_gaps, pur_gaps, nth_pays, pur_pays, Try.f50, ty3, ty45, ty107, h0, h1]
  have ok := book_zero.1 h0
  have hlen := ok.len
  have e : rbalE n ps i = 0 := by unfold rbalE; rw [if_neg (fun h => h h0), if_neg (fun h => h h1)]
  have e2 : rbalN n ps i t = balK ps i t ps.length := by unfold rbalN; rw [if_pos e]
  rw [e, e2]
  obtain ⟨R, hR⟩ : ∃ R, balK ps i t ps.length = R := ⟨_, rfl⟩
  rw [hR]
  simp +contextual (maxSteps := 4000000) only [↓ur_skip, ↓ur_seq, ↓ur_block, ↓ur_region, ↓ur_cond, ↓cont_seq, ↓ops_consN, nY_move, nY_assign, nY_alloc, nY_box, nY_load, nY_binOp, nilO_int, nY_unOp, nY_callf, ↓ops_nil, opsIf_some, condC_false, Option.map_some, Option.bind_some, Option.getD_some, Nat.reduceLT, Bool.false_eq_true, ↓upd_same, ↓upd_ne, Nat.reduceBEq, true_and, and_true, List.getD_cons_zero, List.getD_cons_succ, cfg_P, cfg_tab, cfg_muts, cfg_frz, cfg_num, numOf_eq, List.contains_nil, decide_true, decide_false, List.lookup_cons, List.lookup_nil, tabOf_cons, tab_v, Bool.and_self, Nat.reduceEqDiff, List.nil_append, List.append_nil, List.length_cons, List.length_nil, Nat.zero_add, List.drop_zero, Nat.reduceAdd, Bool.not_true, Bool.not_false, not_true_eq_false, st0, Nat.le_refl, pur_int, pur_lits, cells_agg, pur_agg, ↓ev_tmp, ↓ev_int, ↓ev_func, ↓iop_move, ↓iop_assign, ↓iop_alloc, ↓iop_box, ↓iop_load, ↓iop_binOp, ↓iop_unOp, ↓iop_callv, nrmAll_cons, nrmAll_nil, nrm_agg, nrmL_cons, nrmL_nil, nrm_int, nrm1_int, nrm1_lits, pickP_t, loadP_vptr, b_neq, u_not, env0_eq, valT_eq, pursL_cons, pursL_nil, Store.new, ↓reduceIte, callP_eq, tsOf_eq, boxP_eq, List.take_succ_cons, List.take_nil, ↓evs_cons, ↓evs_nil, beq_self_eq_true, see_eq, and_false, Bool.true_eq_false, e_rbook, s_rbook, e_rin, s_rin, e_rgot, nth_psts, pur_psts, nth_gaps, pur_gaps, nth_pays, pur_pays, Try.f50, ty3, ty45, ty107, h0, h1]
  refine loop_cnt [9, 10, 23, 24, 25, 26, 27, 28, 29, 30, 31, 32, 33, 34, 35, 36, 37, 38, 39, 40, 41, 42, 43, 44, 45, 46] ps.length (fun k ρ st' => ρ 10 = I k ∧ ρ 9 = I (balK ps i t k) ∧ st'.obj 0 = some (.arr 0 2 [.agg [I 0, I 0]])) (.refl _) ?_ ?_
  · simp +contextual (maxSteps := 4000000) only [↓upd_same, ↓upd_ne, Nat.reduceBEq, and_true, updO_same, Int.cast_ofNat_Int, nth_psts, pur_psts, nth_gaps, pur_gaps, nth_pays, pur_pays, Try.f50, balK]
  rintro k ρ ⟨ob, M⟩ hk ⟨h10, h9, o0⟩
  dsimp only at o0
  by_cases hlt : k < ps.length
  · have hwk := wrapN' (k := k) (by omega)
    have hst : balK ps i t (k + 1) = balK ps i t k + if (ps.getD k dP).2.2.2.1 ≤ t then gotQ (ps.getD k dP) i else 0 := rfl
    have hb := balK_le ok i t k hk
    obtain ⟨g1, g2⟩ := ok.one k hlt
    have hg := gotQ_le (n := n) g2 g1.2.2 i
    have hrg : -4611686018427387904 ≤ (ps.getD k dP).2.2.1 ∧ (ps.getD k dP).2.2.1 ≤ 4611686018427387904 := by
      unfold rngO at g2; omega
    rw [hst]
    generalize hx : ps.getD k dP = x at *
    by_cases c : x.2.2.2.1 ≤ t
    · rw [if_pos c] at hst ⊢
      have hw : IntKind.i64.wrap (balK ps i t k + gotQ x i) = balK ps i t k + gotQ x i := wrap64 (by omega) (by omega)
      simp +contextual (maxSteps := 4000000) only [↓ur_skip, ↓ur_seq, ↓ur_block, ↓ur_region, ↓ur_cond, ↓cont_seq, ↓cont_blk, ↓cont_lp, ↓ops_consN, nY_move, nY_assign, nY_load, nY_binOp, nilO_tmp, nilO_int, nY_fieldAddr, nY_indexAddr, nY_callf, nY_callb, ↓ops_nil, opsIf_some, condC_true, Option.map_some, Option.bind_some, Option.getD_some, Nat.reduceLT, Bool.false_eq_true, ↓upd_same, ↓upd_ne, Nat.reduceBEq, and_true, List.getD_cons_zero, List.getD_cons_succ, List.getElem?_cons_zero, List.getElem?_cons_succ, cfg_P, cfg_tab, cfg_muts, cfg_frz, List.length_map, ↓havoc_in, ↓havoc_out, agree_upd, agree_havoc, List.contains_cons, List.contains_nil, Bool.or_false, Bool.or_true, Int.natCast_nonneg, Int.ofNat_lt, Int.toNat_natCast, decide_true, List.lookup_nil, tabOf_cons, tab_v, Bool.and_self, Nat.reduceEqDiff, List.nil_append, List.append_nil, List.length_cons, List.length_nil, Nat.zero_add, List.drop_zero, Nat.reduceAdd, Nat.lt_succ_self, Bool.not_false, Nat.le_refl, pur_int, cells_agg, pur_agg, ↓ev_tmp, ↓ev_int, ↓ev_func, ↓iop_move, ↓iop_assign, ↓iop_load, ↓iop_binOp, ↓iop_fieldAddr, ↓iop_indexAddr, idxA_int, ↓iop_callv, ↓iop_callb, nrmAll_cons, nrmAll_nil, bi_len, lenM_none, nrm_agg, nrmL_cons, nrmL_nil, nrm_int, nrm1_int, pickP_f, pickP_t, loadP_vptr, fieldP_vptr, indexP_lits, lenP_lits, b_add, b_lss, b_leq, env0_eq, valT_eq, pursL_cons, pursL_nil, ↓reduceIte, callP_eq, tsOf_eq, List.take_succ_cons, List.take_nil, ↓evs_cons, ↓evs_nil, beq_self_eq_true, see_eq, and_false, Bool.true_eq_false, s_rgot, nth_psts, pur_psts, nth_gaps, pur_gaps, nth_pays, pur_pays, Try.f50, ty3, ty22, ty45, ty61, h10, h9, o0, hlt, hx, c, hrg, hw, hwk]
    · rw [if_neg c, Int.add_zero] at hst ⊢
      simp +contextual (maxSteps := 4000000) only [↓ur_skip, ↓ur_seq, ↓ur_block, ↓ur_region, ↓ur_cond, ↓cont_seq, ↓cont_blk, ↓cont_lp, ↓ops_consN, nY_move, nY_assign, nY_load, nY_binOp, nilO_tmp, nilO_int, nY_fieldAddr, nY_indexAddr, nY_callb, ↓ops_nil, opsIf_some, condC_true, condC_false, Option.map_some, Option.bind_some, Option.getD_some, Nat.reduceLT, Bool.false_eq_true, ↓upd_same, ↓upd_ne, Nat.reduceBEq, and_true, List.getD_cons_zero, List.getD_cons_succ, List.getElem?_cons_zero, List.getElem?_cons_succ, cfg_P, cfg_frz, List.length_map, ↓havoc_in, ↓havoc_out, agree_upd, agree_havoc, List.contains_cons, List.contains_nil, Bool.or_false, Bool.or_true, Int.natCast_nonneg, Int.ofNat_lt, Int.toNat_natCast, decide_true, decide_false, Nat.zero_add, Nat.lt_succ_self, Bool.not_false, cells_agg, ↓ev_tmp, ↓ev_int, ↓iop_move, ↓iop_assign, ↓iop_load, ↓iop_binOp, ↓iop_fieldAddr, ↓iop_indexAddr, idxA_int, ↓iop_callb, bi_len, lenM_none, pickP_f, loadP_vptr, fieldP_vptr, indexP_lits, lenP_lits, b_add, b_lss, b_leq, env0_eq, ↓reduceIte, ↓evs_cons, ↓evs_nil, beq_self_eq_true, see_eq, nth_psts, pur_psts, nth_gaps, pur_gaps, nth_pays, pur_pays, Try.f50, ty3, ty22, ty45, ty61, h10, h9, o0, hlt, hx, c, hwk]
  · have e : k = ps.length := by omega
    subst e
    rw [hR] at h9
    simp +contextual (maxSteps := 4000000) only [↓ur_seq, ↓ur_exit, ↓ur_ret, ↓ur_region, ↓ur_cond, ↓cont_seq, ↓leave_seq, ↓leave_blk, ↓leave_lp, ↓done_nil, ↓ops_consN, nY_move, nY_build, nY_load, nY_store, nY_binOp, nilO_tmp, nY_fieldAddr, nY_callb, ↓ops_nil, opsIf_some, opsIf_none, condC_false, Option.map_some, Option.bind_some, Option.getD_some, Nat.reduceLT, Bool.false_eq_true, ↓upd_same, ↓upd_ne, Nat.reduceBEq, and_true, List.getElem?_cons_zero, List.getElem?_cons_succ, endQ, cfg_P, cfg_frz, List.length_map, ↓havoc_in, ↓havoc_out, List.contains_cons, List.contains_nil, Bool.or_false, Bool.or_true, Int.ofNat_lt, decide_false, Option.some.injEq, exists_eq_left', Bool.and_self, List.cons_append, List.nil_append, List.append_nil, updO_same, List.length_cons, List.length_nil, Nat.zero_add, List.drop_zero, List.take_zero, Nat.reduceAdd, List.set_cons_zero, Nat.reduceLeDiff, nth_zero, Nat.lt_irrefl, Nat.lt_succ_self, Bool.not_false, Nat.le_refl, cells_int, isCell_int, cells_agg, DRx_int, DRx_agg, DRxL_cons, DRxL_nil, ↓ev_tmp, ↓iop_move, ↓iop_build, ↓iop_load, ↓iop_store, ↓iop_binOp, ↓iop_fieldAddr, ↓iop_callb, bi_len, lenM_none, pickP_f, pickP_t, loadP_vptr, loadP_ptr, setCells_agg, storeP_ptr, fieldP_vptr, lenP_lits, b_lss, fill_nil, fill_cons, fill1_some, buildP_eq, bldA_none, splice_eq, ires_eq, iresL_1, iresAll_nil, iresAll_cons, iresOne_cell, Store.set, ↓reduceIte, arr_eq, arrB_some, List.take_succ_cons, List.drop_succ_cons, List.drop_nil, List.take_nil, ↓evs_cons, ↓evs_nil, ↓evp_cons, ↓evp_nil, beq_self_eq_true, List.all_cons, List.all_nil, see_eq, nth_psts, pur_psts, nth_gaps, pur_gaps, nth_pays, pur_pays, Try.f50, ty22, ty45, ty107, h10, h9, o0]
theorem o_rbal : O_rbal := k_rbal c_rbal
end Sim
