/- What functions of this seat compute, by values: contracts (lemmas of the statement's proof, under the conditions that each names). -/
import Derived.Test.YtpaaaaijebdphaaQM
import Derived.Test.YtpaaaaijebdphaaQD
namespace Sim
open Go Go.Proofs
set_option maxRecDepth 10000
set_option maxHeartbeats 2000000
set_option linter.unusedVariables false
set_option linter.unusedSimpArgs false
attribute [local congr] opsIf_congr condC_congr guardC_congr grd_congr pick3_congr obind_congr omap_congr nilC_congr opsV_congr
def payPst (t : Int) (y : Pay) : Pst := (y.1, y.2.1, y.2.2, t, 6, 0)
def qsK (ps : List Pst) (l : List Pay) (t : Int) (k : Nat) : List Pst := ps ++ (l.take k).map (payPst t)
def errK (n : Int) (ps : List Pst) (l : List Pay) (t : Int) : Nat → Int
  | 0 => 0
  | k + 1 => if ¬ errK n ps l t k = 0 then errK n ps l t k else postE n (qsK ps l t k) (payPst t (l.getD k dY))
def clearE (n : Int) (ps : List Pst) (l : List Pay) (t : Int) : Int := if ¬ balsE n ps t = 0 then balsE n ps t else if ¬ settM (balsL n ps t) l = true then 4 else errK n ps l t l.length
def clearN (n : Int) (ps : List Pst) (l : List Pay) (t : Int) : Int := if clearE n ps l t = 0 then n else 0
def clearL (n : Int) (ps : List Pst) (l : List Pay) (t : Int) : List Pst := if clearE n ps l t = 0 then qsK ps l t l.length else []
theorem qsK_step {ps : List Pst} {l : List Pay} {t : Int} {k : Nat} (h : k < l.length) : qsK ps l t (k + 1) = qsK ps l t k ++ [payPst t (l.getD k dY)] := by
  unfold qsK
  rw [List.take_succ_eq_append_getElem h, List.map_append, List.append_assoc]
  simp [h]
theorem err_stay {n : Int} {ps : List Pst} {l : List Pay} {t : Int} {k : Nat} (h : ¬ errK n ps l t k = 0) : ∀ m, errK n ps l t (k + m) = errK n ps l t k
  | 0 => rfl
  | m + 1 => by
    have ih := err_stay h m
    show errK n ps l t (k + m + 1) = _
    simp only [errK]
    rw [if_pos (by rw [ih]; exact h), ih]
theorem err_at {n : Int} {ps : List Pst} {l : List Pay} {t : Int} {k : Nat} (hk : k < l.length) (h : ¬ errK n ps l t (k + 1) = 0) : errK n ps l t l.length = errK n ps l t (k + 1) := by
  have := err_stay h (l.length - (k + 1))
  rwa [show k + 1 + (l.length - (k + 1)) = l.length by omega] at this
theorem bals_len {n : Int} {ps : List Pst} {t : Int} : (balsL n ps t).length ≤ 40 := by
  unfold balsL
  by_cases h : balsE n ps t = 0
  · rw [if_pos h]
    unfold balsE at h
    by_cases h0 : bookE n ps = 0
    · have := (book_zero.1 h0).num
      unfold balsT
      rw [tbl_len]; omega
    · rw [if_pos h0] at h; exact absurd h h0
  · rw [if_neg h]; simp
theorem bals_book {n : Int} {ps : List Pst} {t : Int} (h : balsE n ps t = 0) : bookE n ps = 0 ∧ 0 ≤ t ∧ t ≤ 1000000 := by
  unfold balsE at h
  by_cases h0 : bookE n ps = 0
  · rw [if_neg (fun g => g h0)] at h
    by_cases h1 : 0 ≤ t ∧ t ≤ 1000000
    · exact ⟨h0, h1⟩
    · rw [if_pos h1] at h; cases h
  · rw [if_pos h0] at h; exact absurd h h0
def C_clear : Prop := ∀ (n : Int) (ps : List Pst) (l : List Pay) (t : Int) , VC Try.prog 21 [.agg [I n, psts ps], pays l, I t] (.tuple [.agg [I (clearN n ps l t), psts (clearL n ps l t)], I (clearE n ps l t)])
theorem c_clear : C_clear := by
  intro n ps l t
  refine vc_ofU mixed (l := [e_bals, e_settles, e_cloneP, e_post]) ((eok_cons o_bals (eok_cons o_settles (eok_cons o_cloneP (eok_cons o_post eok_nil))))) [3] []  Try.func21 rfl (by decide +kernel) (N := 56) rfl (by simp) rfl (by kernel_rfl) fun hs => ?_
  simp only [smallL, PV.small, List.length_map, and_true, true_and] at hs
  by_cases h0 : balsE n ps t = 0
  case neg =>
    have e : clearE n ps l t = balsE n ps t := by unfold clearE; rw [if_pos h0]
    have e2 : clearN n ps l t = 0 := by unfold clearN; rw [if_neg (by rw [e]; exact h0)]
    have e3 : clearL n ps l t = [] := by unfold clearL; rw [if_neg (by rw [e]; exact h0)]
    rw [e, e2, e3]
    obtain ⟨E, hE⟩ : ∃ E, balsE n ps t = E := ⟨_, rfl⟩
    rw [hE] at h0 ⊢
    simp +contextual (maxSteps := 4000000) only [↓ur_seq, ↓ur_ret, ↓ur_region, ↓ur_cond, ↓cont_seq, ↓done_nil, ↓done_seq, ↓ops_consN, nY_move, nY_assign, nY_alloc, nY_box, nY_build, nY_load, nY_store, nY_binOp, nilO_int, nY_extract, nY_callf, ↓ops_nil, opsIf_some, opsIf_none, condC_true, Option.map_some, Option.bind_some, Option.getD_some, Nat.reduceLT, Bool.false_eq_true, ↓upd_same, ↓upd_ne, Nat.reduceBEq, and_true, List.getD_cons_zero, List.getD_cons_succ, List.getElem?_cons_zero, List.getElem?_cons_succ, endQ, cfg_P, cfg_tab, cfg_muts, cfg_frz, cfg_num, numOf_eq, List.map_nil, List.contains_cons, List.contains_nil, Bool.or_false, decide_true, Option.some.injEq, exists_eq_left', List.lookup_cons, List.lookup_nil, tabOf_cons, tab_v, Bool.and_self, List.nil_append, List.append_nil, updO_same, updO_ne, List.length_cons, List.length_nil, Nat.zero_add, List.drop_zero, List.take_zero, Nat.reduceAdd, List.set_cons_zero, nth_zero, Nat.lt_succ_self, Bool.not_false, not_false_eq_true, st0, Nat.le_refl, pur_int, isCell_int, pur_lits, isCell_lits, cells_agg, pur_agg, DRx_int, DRx_nils_lits, DRx_agg, DRx_tuple, DRxL_cons, DRxL_nil, ↓ev_tmp, ↓ev_int, ↓ev_func, ↓iop_move, ↓iop_assign, ↓iop_alloc, ↓iop_box, ↓iop_build, ↓iop_load, ↓iop_store, ↓iop_binOp, ↓iop_extract, extr_tuple, ↓iop_callv, nrmAll_cons, nrmAll_nil, nrm_agg, nrmL_cons, nrmL_nil, nrm_int, nrm1_int, nrm1_lits, pickP_t, loadP_ptr, setCells_agg, storeP_ptr, b_neq, fill_nil, buildP_eq, bldA_none, splice_eq, env0_eq, ires_eq, iresL_2, iresAll_nil, iresAll_cons, iresOne_tmp, iresOne_cell, valT_eq, pursL_cons, pursL_nil, Store.new, Store.set, ↓reduceIte, arr_eq, arrB_some, callP_eq, tsOf_eq, boxP_eq, List.take_succ_cons, List.drop_succ_cons, List.drop_nil, List.take_nil, ↓evs_cons, ↓evs_nil, ↓evp_nil, beq_self_eq_true, List.all_cons, List.all_nil, see_eq, and_false, Bool.true_eq_false, e_bals, s_bals, e_settles, e_cloneP, e_post, nth_psts, pur_psts, nth_gaps, pur_gaps, nth_pays, pur_pays, Try.f21, ty3, ty45, hE, h0]
  have hbl := bals_len (n := n) (ps := ps) (t := t)
  have hbl2 : (balsL n ps t).length ≤ 100000 := by omega
  have hbk := bals_book h0
  have hpl := book_len hbk.1
  have hpl2 : ps.length ≤ 2147483648 := by omega
  cases hs : settM (balsL n ps t) l
  case false =>
    have e : clearE n ps l t = 4 := by unfold clearE; rw [if_neg (fun h => h h0), hs]; rfl
    have e2 : clearN n ps l t = 0 := by unfold clearN; rw [if_neg (by rw [e]; decide)]
    have e3 : clearL n ps l t = [] := by unfold clearL; rw [if_neg (by rw [e]; decide)]
    rw [e, e2, e3]
    simp +contextual (maxSteps := 4000000) only [↓ur_skip, ↓ur_seq, ↓ur_ret, ↓ur_region, ↓ur_cond, ↓cont_seq, ↓done_nil, ↓done_seq, ↓ops_consN, nY_move, nY_assign, nY_alloc, nY_box, nY_build, nY_load, nY_store, nY_binOp, nilO_int, nY_unOp, nY_extract, nY_callf, ↓ops_nil, opsIf_some, opsIf_none, condC_true, condC_false, Option.map_some, Option.bind_some, Option.getD_some, Nat.reduceLT, Bool.false_eq_true, ↓upd_same, ↓upd_ne, Nat.reduceBEq, and_true, List.getD_cons_zero, List.getD_cons_succ, List.getElem?_cons_zero, List.getElem?_cons_succ, endQ, cfg_P, cfg_tab, cfg_muts, cfg_frz, cfg_num, numOf_eq, List.map_nil, List.contains_cons, List.contains_nil, Bool.or_false, decide_false, Option.some.injEq, exists_eq_left', List.lookup_cons, List.lookup_nil, tabOf_cons, tab_v, pur_ints, Bool.and_self, Nat.reduceEqDiff, List.nil_append, List.append_nil, updO_same, updO_ne, List.length_cons, List.length_nil, Nat.zero_add, List.drop_zero, List.take_zero, Nat.reduceAdd, List.set_cons_zero, nth_zero, Nat.lt_succ_self, Bool.not_false, not_true_eq_false, st0, Nat.le_refl, pur_int, isCell_int, pur_lits, isCell_lits, cells_agg, pur_agg, DRx_int, DRx_nils_lits, DRx_agg, DRx_tuple, DRxL_cons, DRxL_nil, ↓ev_tmp, ↓ev_int, ↓ev_func, ↓iop_move, ↓iop_assign, ↓iop_alloc, ↓iop_box, ↓iop_build, ↓iop_load, ↓iop_store, ↓iop_binOp, ↓iop_unOp, ↓iop_extract, extr_tuple, ↓iop_callv, nrmAll_cons, nrmAll_nil, nrm_agg, nrmL_cons, nrmL_nil, nrm_int, nrm_lits, nrm1_int, nrm1_lits, pickP_t, loadP_ptr, setCells_agg, storeP_ptr, b_neq, u_not, fill_nil, buildP_eq, bldA_none, splice_eq, env0_eq, ires_eq, iresL_2, iresAll_nil, iresAll_cons, iresOne_tmp, iresOne_cell, valT_eq, pursL_cons, pursL_nil, Store.new, Store.set, ↓reduceIte, arr_eq, arrB_some, callP_eq, tsOf_eq, boxP_eq, List.take_succ_cons, List.drop_succ_cons, List.drop_nil, List.take_nil, ↓evs_cons, ↓evs_nil, ↓evp_nil, beq_self_eq_true, List.all_cons, List.all_nil, see_eq, and_false, Bool.true_eq_false, e_bals, s_bals, e_settles, s_settles, e_cloneP, e_post, nth_psts, pur_psts, nth_gaps, pur_gaps, nth_pays, pur_pays, Try.f21, ty3, ty34, ty35, ty45, h0, hbl2, hs]
  have h200 : l.length ≤ 200 := by
    unfold settM at hs
    simp only [Bool.and_eq_true, decide_eq_true_eq] at hs
    exact hs.1.1.1
  have e : clearE n ps l t = errK n ps l t l.length := by unfold clearE; rw [if_neg (fun h => h h0), if_neg (fun h => h hs)]
  obtain ⟨E, hE⟩ : ∃ E, clearE n ps l t = E := ⟨_, rfl⟩
  obtain ⟨RN, hRN⟩ : ∃ RN, clearN n ps l t = RN := ⟨_, rfl⟩
  obtain ⟨RL, hRL⟩ : ∃ RL, clearL n ps l t = RL := ⟨_, rfl⟩
  rw [hE, hRN, hRL]
  rw [hE] at e
  simp +contextual (maxSteps := 4000000) only [↓ur_skip, ↓ur_seq, ↓ur_block, ↓ur_region, ↓ur_cond, ↓cont_seq, ↓ops_consN, nY_move, nY_assign, nY_alloc, nY_box, nY_load, nY_store, nY_binOp, nilO_int, nY_unOp, nY_fieldAddr, nY_extract, nY_callf, nY_callb, ↓ops_nil, opsIf_some, opsIf_none, condC_false, Option.map_some, Option.bind_some, Option.getD_some, Nat.reduceLT, Bool.false_eq_true, ↓upd_same, ↓upd_ne, Nat.reduceBEq, true_and, and_true, List.getD_cons_zero, List.getD_cons_succ, List.getElem?_cons_zero, List.getElem?_cons_succ, cfg_P, cfg_tab, cfg_muts, cfg_frz, cfg_num, numOf_eq, List.length_map, List.contains_cons, List.contains_nil, Bool.or_false, decide_false, List.lookup_cons, List.lookup_nil, tabOf_cons, tab_v, pur_ints, Bool.and_self, Nat.reduceEqDiff, List.cons_append, List.nil_append, List.append_nil, updO_same, updO_ne, List.length_cons, List.length_nil, Nat.zero_add, List.drop_zero, List.take_zero, Nat.reduceAdd, List.set_cons_zero, nth_zero, Nat.lt_succ_self, Bool.not_true, Bool.not_false, not_true_eq_false, st0, Nat.le_refl, pur_int, cells_lits, pur_lits, cells_agg, pur_agg, ↓ev_tmp, ↓ev_int, ↓ev_func, ↓iop_move, ↓iop_assign, ↓iop_alloc, ↓iop_box, ↓iop_load, ↓iop_store, ↓iop_binOp, ↓iop_unOp, ↓iop_fieldAddr, ↓iop_extract, extr_tuple, ↓iop_callv, ↓iop_callb, nrmAll_cons, nrmAll_nil, bi_len, lenM_none, nrm_agg, nrmL_cons, nrmL_nil, nrm_int, nrm_lits, nrm1_int, nrm1_lits, pickP_f, pickP_t, loadP_ptr, setCells_agg, storeP_ptr, fieldP_ptr, lenP_lits, b_neq, u_not, splice_eq, env0_eq, valT_eq, pursL_cons, pursL_nil, Store.new, Store.set, ↓reduceIte, arr_eq, arrB_some, callP_eq, tsOf_eq, boxP_eq, List.take_succ_cons, List.drop_succ_cons, List.drop_nil, List.take_nil, ↓evs_cons, ↓evs_nil, beq_self_eq_true, see_eq, and_false, Bool.true_eq_false, e_bals, s_bals, e_settles, s_settles, e_cloneP, s_cloneP, e_post, nth_psts, pur_psts, nth_gaps, pur_gaps, nth_pays, pur_pays, Try.f21, ty3, ty22, ty34, ty35, ty45, h0, hbl2, hs, hpl2]
  refine loop_cnt [7, 9, 11, 33, 34, 35, 36, 37, 38, 39, 40, 41, 42, 43, 44, 45, 46, 47, 48, 49, 50, 51, 52, 53, 54] l.length (fun k ρ st' => ρ 33 = I k ∧ errK n ps l t k = 0 ∧ st'.obj 0 = some (.arr 0 2 [.agg [I n, psts (qsK ps l t k)]]) ∧ st'.obj 1 = some (.arr 0 2 [.agg [I 0, .nils]]) ∧ 2 ≤ st'.next) (.refl _) ?_ ?_
  · have : qsK ps l t 0 = ps := by unfold qsK; simp
    simp +contextual (maxSteps := 4000000) only [↓upd_same, Nat.reduceBEq, and_true, updO_same, updO_ne, Nat.le_refl, Int.cast_ofNat_Int, nth_psts, pur_psts, nth_gaps, pur_gaps, nth_pays, pur_pays, Try.f21, errK, this]
  rintro k ρ ⟨ob, M⟩ hk ⟨h33, hz, o0, o1, hM⟩
  dsimp only at o0 o1 hM
  have hM1 : ¬ 0 = M := by omega
  have hM2 : ¬ M = 0 := by omega
  have hM3 : ¬ 1 = M := by omega
  have hM4 : ¬ M = 1 := by omega
  by_cases hlt : k < l.length
  · have hwk := wrapN' (k := k) (by omega)
    have hst : errK n ps l t (k + 1) = postE n (qsK ps l t k) (payPst t (l.getD k dY)) := by simp only [errK]; rw [if_neg (fun h => h hz)]
    have hat := err_at (n := n) (ps := ps) (t := t) hlt
    have hqs := qsK_step (ps := ps) (t := t) hlt
    have hpo : specOf A_post R_post H_post [.agg [I n, psts (qsK ps l t k)], .agg [I (l.getD k dY).1, I (l.getD k dY).2.1, I (l.getD k dY).2.2, I t, I 6, I 0]] = some (.tuple [.agg [I (postN n (qsK ps l t k) (payPst t (l.getD k dY))), psts (postL n (qsK ps l t k) (payPst t (l.getD k dY)))], I (postE n (qsK ps l t k) (payPst t (l.getD k dY)))]) := s_post n (qsK ps l t k) (payPst t (l.getD k dY))
    rw [← hst] at hpo
    by_cases hp : errK n ps l t (k + 1) = 0
    · have q1 : postN n (qsK ps l t k) (payPst t (l.getD k dY)) = n := by unfold postN; rw [if_pos (by rw [← hst]; exact hp)]
      have q2 : postL n (qsK ps l t k) (payPst t (l.getD k dY)) = qsK ps l t (k + 1) := by unfold postL; rw [if_pos (by rw [← hst]; exact hp), hqs]
      rw [q1, q2, hp] at hpo
      generalize qsK ps l t (k + 1) = Q2 at *
      generalize qsK ps l t k = Q1 at *
      simp +contextual (maxSteps := 4000000) only [↓ur_skip, ↓ur_seq, ↓ur_block, ↓ur_region, ↓ur_cond, ↓cont_seq, ↓cont_blk, ↓cont_lp, ↓ops_consN, nY_move, nY_assign, nY_alloc, nY_build, nY_load, nY_store, nY_binOp, nilO_tmp, nilO_int, nY_fieldAddr, nY_indexAddr, nY_extract, nY_callf, ↓ops_nil, opsIf_some, opsIf_none, condC_true, condC_false, Option.map_some, Option.bind_some, Option.getD_some, Nat.reduceLT, Bool.false_eq_true, ↓upd_same, ↓upd_ne, Nat.reduceBEq, true_and, and_true, List.getD_cons_zero, List.getD_cons_succ, List.getElem?_cons_zero, List.getElem?_cons_succ, cfg_P, cfg_tab, cfg_muts, cfg_frz, cfg_num, numOf_eq, List.length_map, ↓havoc_in, ↓havoc_out, agree_upd, agree_havoc, List.contains_cons, List.contains_nil, Bool.or_false, Bool.or_true, Int.natCast_nonneg, Int.ofNat_lt, Int.toNat_natCast, decide_true, decide_false, List.lookup_cons, List.lookup_nil, tabOf_cons, tab_v, Bool.and_self, Nat.reduceEqDiff, List.cons_append, List.nil_append, List.append_nil, updO_same, updO_ne, List.length_cons, List.length_nil, Nat.zero_add, Nat.add_zero, List.drop_zero, List.take_zero, Nat.reduceAdd, List.set_cons_zero, Nat.reduceLeDiff, nth_zero, Nat.lt_succ_self, Bool.not_false, not_true_eq_false, not_false_eq_true, Nat.le_refl, cells_int, pur_int, pur_lits, cells_agg, pur_agg, ↓ev_tmp, ↓ev_int, ↓ev_func, ↓iop_move, ↓iop_assign, ↓iop_alloc, ↓iop_build, ↓iop_load, ↓iop_store, ↓iop_binOp, ↓iop_fieldAddr, ↓iop_indexAddr, idxA_int, ↓iop_extract, extr_tuple, ↓iop_callv, nrmAll_cons, nrmAll_nil, nrm_agg, nrmL_cons, nrmL_nil, nrm1_int, nrm1_lits, pickP_f, pickP_t, loadP_vptr, loadP_ptr, setCells_agg, storeP_ptr, fieldP_ptr, indexP_lits, b_add, b_neq, b_lss, fill_nil, fill_cons, fill1_some, buildP_eq, bldA_none, splice_eq, env0_eq, valT_eq, pursL_cons, pursL_nil, Store.new, Store.set, ↓reduceIte, arr_eq, arrB_some, callP_eq, tsOf_eq, beq_eq_false_iff_ne, ne_eq, List.take_succ_cons, List.drop_succ_cons, List.drop_nil, List.take_nil, ↓evs_cons, ↓evs_nil, ↓evp_cons, ↓evp_nil, beq_self_eq_true, see_eq, and_false, Bool.true_eq_false, nth_psts, pur_psts, nth_gaps, pur_gaps, nth_pays, pur_pays, Try.f21, ty3, ty35, ty45, ty61, ty68, h33, o0, o1, hM1, hM2, hM3, hM4, hlt, hpo, hwk, hp]
      omega
    · have e1 : E = errK n ps l t (k + 1) := by rw [e, hat hp]
      have e2 : RN = 0 := by rw [← hRN]; unfold clearN; rw [if_neg (by rw [hE, e1]; exact hp)]
      have e3 : RL = [] := by rw [← hRL]; unfold clearL; rw [if_neg (by rw [hE, e1]; exact hp)]
      rw [← e1] at hpo hp
      subst e2 e3
      generalize qsK ps l t k = Q1 at *
      simp +contextual (maxSteps := 4000000) only [↓ur_skip, ↓ur_seq, ↓ur_block, ↓ur_ret, ↓ur_region, ↓ur_cond, ↓cont_seq, ↓done_nil, ↓done_seq, ↓done_blk, ↓done_lp, ↓ops_consN, nY_move, nY_assign, nY_alloc, nY_build, nY_load, nY_store, nY_binOp, nilO_tmp, nilO_int, nY_fieldAddr, nY_indexAddr, nY_extract, nY_callf, ↓ops_nil, opsIf_some, opsIf_none, condC_true, Option.map_some, Option.bind_some, Option.getD_some, Nat.reduceLT, Bool.false_eq_true, ↓upd_same, ↓upd_ne, Nat.reduceBEq, and_true, List.getD_cons_zero, List.getD_cons_succ, List.getElem?_cons_zero, List.getElem?_cons_succ, endQ, cfg_P, cfg_tab, cfg_muts, cfg_frz, cfg_num, numOf_eq, List.map_nil, List.length_map, ↓havoc_in, ↓havoc_out, List.contains_cons, List.contains_nil, Bool.or_false, Bool.or_true, Int.natCast_nonneg, Int.ofNat_lt, Int.toNat_natCast, decide_true, Option.some.injEq, exists_eq_left', List.lookup_cons, List.lookup_nil, tabOf_cons, tab_v, Bool.and_self, Nat.reduceEqDiff, List.cons_append, List.nil_append, List.append_nil, updO_same, updO_ne, List.length_cons, List.length_nil, Nat.zero_add, Nat.add_zero, List.drop_zero, List.take_zero, Nat.reduceAdd, List.set_cons_zero, Nat.reduceLeDiff, nth_zero, Nat.lt_succ_self, Bool.not_false, not_false_eq_true, Nat.le_refl, cells_int, pur_int, isCell_int, pur_lits, isCell_lits, cells_agg, pur_agg, DRx_int, DRx_nils_lits, DRx_agg, DRx_tuple, DRxL_cons, DRxL_nil, ↓ev_tmp, ↓ev_int, ↓ev_func, ↓iop_move, ↓iop_assign, ↓iop_alloc, ↓iop_build, ↓iop_load, ↓iop_store, ↓iop_binOp, ↓iop_fieldAddr, ↓iop_indexAddr, idxA_int, ↓iop_extract, extr_tuple, ↓iop_callv, nrmAll_cons, nrmAll_nil, nrm_agg, nrmL_cons, nrmL_nil, nrm1_int, nrm1_lits, pickP_f, pickP_t, loadP_vptr, loadP_ptr, setCells_agg, storeP_ptr, fieldP_ptr, indexP_lits, b_neq, b_lss, fill_nil, fill_cons, fill1_some, buildP_eq, bldA_none, splice_eq, env0_eq, ires_eq, iresL_2, iresAll_nil, iresAll_cons, iresOne_tmp, iresOne_cell, valT_eq, pursL_cons, pursL_nil, Store.new, Store.set, ↓reduceIte, arr_eq, arrB_some, callP_eq, tsOf_eq, beq_eq_false_iff_ne, ne_eq, List.take_succ_cons, List.drop_succ_cons, List.drop_nil, List.take_nil, ↓evs_cons, ↓evs_nil, ↓evp_cons, ↓evp_nil, beq_self_eq_true, List.all_cons, List.all_nil, see_eq, and_false, Bool.true_eq_false, nth_psts, pur_psts, nth_gaps, pur_gaps, nth_pays, pur_pays, Try.f21, ty3, ty35, ty45, ty61, ty68, h33, o0, o1, hM1, hM2, hM3, hM4, hlt, hpo, hp]
  · have e1 : k = l.length := by omega
    subst e1
    have e1 : E = 0 := by rw [e, hz]
    have e2 : RN = n := by rw [← hRN]; unfold clearN; rw [if_pos (by rw [hE, e1])]
    have e3 : RL = qsK ps l t l.length := by rw [← hRL]; unfold clearL; rw [if_pos (by rw [hE, e1])]
    rw [← e3] at o0
    subst e1 e2
    simp +contextual (maxSteps := 4000000) only [↓ur_seq, ↓ur_exit, ↓ur_ret, ↓ur_region, ↓ur_cond, ↓cont_seq, ↓leave_seq, ↓leave_blk, ↓leave_lp, ↓done_nil, ↓ops_consN, nY_assign, nY_load, nY_store, nY_binOp, nilO_tmp, ↓ops_nil, opsIf_some, opsIf_none, condC_false, Option.map_some, Option.bind_some, Option.getD_some, Nat.reduceLT, Bool.false_eq_true, ↓upd_same, ↓upd_ne, Nat.reduceBEq, and_true, endQ, cfg_P, cfg_frz, ↓havoc_in, ↓havoc_out, List.contains_cons, List.contains_nil, Bool.or_false, Bool.or_true, Int.ofNat_lt, decide_false, Option.some.injEq, exists_eq_left', Bool.and_self, List.nil_append, List.append_nil, updO_same, List.length_cons, List.length_nil, Nat.zero_add, List.drop_zero, List.take_zero, Nat.reduceAdd, List.set_cons_zero, nth_zero, Nat.lt_irrefl, Nat.lt_succ_self, Bool.not_false, Nat.le_refl, isCell_int, isCell_lits, cells_agg, DRx_int, DRx_lits, DRx_agg, DRx_tuple, DRxL_cons, DRxL_nil, ↓ev_tmp, ↓ev_int, ↓iop_assign, ↓iop_load, ↓iop_store, ↓iop_binOp, pickP_t, loadP_ptr, setCells_agg, storeP_ptr, b_lss, splice_eq, ires_eq, iresL_2, iresAll_nil, iresAll_cons, iresOne_tmp, iresOne_cell, Store.set, ↓reduceIte, arr_eq, arrB_some, List.take_succ_cons, List.drop_succ_cons, List.drop_nil, List.take_nil, beq_self_eq_true, List.all_cons, List.all_nil, see_eq, nth_psts, pur_psts, nth_gaps, pur_gaps, nth_pays, pur_pays, Try.f21, ty45, h33, o0, o1]
end Sim
