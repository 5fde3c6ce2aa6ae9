/- What functions of this seat compute, by values: contracts (lemmas of the statement's proof, under the conditions that each names). -/
import Derived.Test.YtmgklnbhbomlnaaQL
namespace Sim
open Go Go.Proofs
set_option maxRecDepth 10000
set_option maxHeartbeats 4000000
set_option linter.unusedVariables false
set_option linter.unusedSimpArgs false
attribute [local congr] opsIf_congr condC_congr guardC_congr grd_congr pick3_congr obind_congr omap_congr nilC_congr opsV_congr
def qsP (ps l : List Pst) (k : Nat) : List Pst := ps ++ l.take k
def errP (n : Int) (ps l : List Pst) : Nat → Int
  | 0 => 0
  | k + 1 => if ¬ errP n ps l k = 0 then errP n ps l k else postE n (qsP ps l k) (l.getD k dP)
def setE (n : Int) (ps l : List Pst) : Int := if ¬ bookE n ps = 0 then bookE n ps else errP n ps l l.length
def setN (n : Int) (ps l : List Pst) : Int := if setE n ps l = 0 then n else 0
def setL (n : Int) (ps l : List Pst) : List Pst := if setE n ps l = 0 then ps ++ l else []
theorem qsP_step {ps l : List Pst} {k : Nat} (h : k < l.length) : qsP ps l (k + 1) = qsP ps l k ++ [l.getD k dP] := by
  unfold qsP
  rw [List.take_succ_eq_append_getElem h, List.append_assoc]
  simp [h]
theorem errP_stay {n : Int} {ps l : List Pst} {k : Nat} (h : ¬ errP n ps l k = 0) : ∀ m, errP n ps l (k + m) = errP n ps l k
  | 0 => rfl
  | m + 1 => by
    have ih := errP_stay h m
    show errP n ps l (k + m + 1) = _
    simp only [errP]
    rw [if_pos (by rw [ih]; exact h), ih]
theorem errP_at {n : Int} {ps l : List Pst} {k : Nat} (hk : k < l.length) (h : ¬ errP n ps l (k + 1) = 0) : errP n ps l l.length = errP n ps l (k + 1) := by
  have := errP_stay h (l.length - (k + 1))
  rwa [show k + 1 + (l.length - (k + 1)) = l.length by omega] at this
/-- As long as there is no error, the book is right. -/
theorem errP_book {n : Int} {ps l : List Pst} (h0 : bookE n ps = 0) : ∀ k, k ≤ l.length → errP n ps l k = 0 → bookE n (qsP ps l k) = 0
  | 0, _, _ => by unfold qsP; simpa using h0
  | k + 1, hk, h => by
    simp only [errP] at h
    by_cases c : errP n ps l k = 0
    · rw [if_neg (fun g => g c)] at h
      have ih := errP_book h0 k (by omega) c
      unfold postE at h
      rw [if_pos ih] at h
      rw [qsP_step (by omega)]; exact h
    · rw [if_pos c] at h; exact absurd h c
noncomputable def A_settle : (Int) × (List Pst) × (List Pst) → List PV := fun (n, ps, l) => [.agg [I n, psts ps], psts l]
noncomputable def R_settle : (Int) × (List Pst) × (List Pst) → PV := fun (n, ps, l) => .tuple [.agg [I (setN n ps l), psts (setL n ps l)], I (setE n ps l)]
def H_settle : (Int) × (List Pst) × (List Pst) → Prop := fun (n, ps, l) => l.length ≤ 100000
noncomputable def e_settle : Nat × Ent := (20, .v (specOf A_settle R_settle H_settle))
theorem j_settle : ∀ i j, A_settle i = A_settle j → i = j := by
  rintro ⟨n₁, ps₁, l₁⟩ ⟨n₂, ps₂, l₂⟩ h
  simp only [A_settle, List.cons.injEq, and_true, PV.lits.injEq, PV.int.injEq, PV.bool.injEq, PV.str.injEq, PV.agg.injEq, PV.func.injEq, Fn.func.injEq, PV.vptr.injEq, true_and, List.map_nil, inj_ints, inj_strs, inj_psts, inj_tars, inj_snds, inj_uses, inj_rsts, inj_lnks] at h
  simp [Prod.ext_iff, h] <;> omega
theorem s_settle (n : Int) (ps : List Pst) (l : List Pst) : specOf A_settle R_settle H_settle [.agg [I n, psts ps], psts l] = @ite (Option (PV)) (l.length ≤ 100000) (Classical.propDecidable _) (some (.tuple [.agg [I (setN n ps l), psts (setL n ps l)], I (setE n ps l)])) none := specOf_if j_settle (n, ps, l)
def C_settle : Prop := ∀ (n : Int) (ps : List Pst) (l : List Pst) (h : l.length ≤ 100000) , VC Try.prog 20 [.agg [I n, psts ps], psts l] (.tuple [.agg [I (setN n ps l), psts (setL n ps l)], I (setE n ps l)])
def O_settle : Prop := EntOK Try.prog e_settle.1 e_settle.2
theorem k_settle (c : C_settle) : O_settle := specOf_ok fun ⟨n, ps, l⟩ h => c n ps l h
theorem c_settle : C_settle := by
  intro n ps l hlen
  refine vc_ofU mixed (l := [e_book, e_cloneP, e_post]) ((eok_cons o_book (eok_cons o_cloneP (eok_cons o_post eok_nil)))) [2] []  Try.func20 rfl (by decide +kernel) (N := 40) rfl (by simp) rfl (by kernel_rfl) fun hs => ?_
  simp only [smallL, PV.small, List.length_map, and_true, true_and] at hs
  obtain ⟨E, hE⟩ : ∃ E, setE n ps l = E := ⟨_, rfl⟩
  obtain ⟨RN, hRN⟩ : ∃ RN, setN n ps l = RN := ⟨_, rfl⟩
  obtain ⟨RL, hRL⟩ : ∃ RL, setL n ps l = RL := ⟨_, rfl⟩
  rw [hE, hRN, hRL]
  have bad : ¬ E = 0 → RN = 0 ∧ RL = [] := fun h => by
    rw [← hRN, ← hRL]; unfold setN setL
    rw [if_neg (by rw [hE]; exact h), if_neg (by rw [hE]; exact h)]; exact ⟨rfl, rfl⟩
  by_cases h0 : bookE n ps = 0
  case neg =>
    have e1 : E = bookE n ps := by rw [← hE]; unfold setE; rw [if_pos h0]
    rw [← e1] at h0
    obtain ⟨e2, e3⟩ := bad h0
    have e1' := e1.symm
    subst e2 e3
    simp +contextual (maxSteps := 4000000) only [↓ur_seq, ↓ur_ret, ↓ur_region, ↓ur_cond, ↓cont_seq, ↓done_nil, ↓done_seq, ↓ops_consN, nY_move, nY_assign, nY_alloc, nY_box, nY_build, nY_load, nY_store, nY_binOp, nilO_int, nY_callf, ↓ops_nil, opsIf_some, opsIf_none, condC_true, Option.map_some, Option.bind_some, Option.getD_some, Nat.reduceLT, Bool.false_eq_true, ↓upd_same, ↓upd_ne, Nat.reduceBEq, and_true, List.getD_cons_zero, endQ, cfg_P, cfg_tab, cfg_muts, cfg_frz, cfg_num, numOf_eq, List.map_nil, List.contains_cons, List.contains_nil, Bool.or_false, decide_true, Option.some.injEq, exists_eq_left', List.lookup_cons, List.lookup_nil, tabOf_cons, tab_v, Bool.and_self, List.nil_append, List.append_nil, updO_same, updO_ne, List.length_cons, List.length_nil, Nat.zero_add, List.drop_zero, List.take_zero, Nat.reduceAdd, List.set_cons_zero, nth_zero, Nat.lt_succ_self, Bool.not_false, not_false_eq_true, st0, Nat.le_refl, pur_int, isCell_int, pur_lits, isCell_lits, cells_agg, pur_agg, DRx_int, DRx_nils_lits, DRx_agg, DRx_tuple, DRxL_cons, DRxL_nil, ↓ev_tmp, ↓ev_int, ↓ev_func, ↓iop_move, ↓iop_assign, ↓iop_alloc, ↓iop_box, ↓iop_build, ↓iop_load, ↓iop_store, ↓iop_binOp, ↓iop_callv, nrmAll_cons, nrmAll_nil, nrm_agg, nrmL_cons, nrmL_nil, nrm1_int, nrm1_lits, pickP_t, loadP_ptr, setCells_agg, storeP_ptr, b_neq, fill_nil, buildP_eq, bldA_none, splice_eq, env0_eq, ires_eq, iresL_2, iresAll_nil, iresAll_cons, iresOne_tmp, iresOne_cell, valT_eq, pursL_cons, pursL_nil, Store.new, Store.set, ↓reduceIte, arr_eq, arrB_some, callP_eq, tsOf_eq, boxP_eq, List.take_succ_cons, List.drop_succ_cons, List.drop_nil, List.take_nil, ↓evs_cons, ↓evs_nil, ↓evp_nil, beq_self_eq_true, List.all_cons, List.all_nil, see_eq, and_false, Bool.true_eq_false, e_book, s_book, e_cloneP, e_post, nth_psts, pur_psts, nth_tars, pur_tars, nth_snds, pur_snds, nth_uses, pur_uses, nth_rsts, pur_rsts, nth_lnks, pur_lnks, Try.f20, ty64, e1', h0]
  have e : E = errP n ps l l.length := by rw [← hE]; unfold setE; rw [if_neg (fun h => h h0)]
  have hpl := book_len h0
  have hpl2 : ps.length ≤ 2147483648 := by omega
  simp +contextual (maxSteps := 4000000) only [↓ur_skip, ↓ur_seq, ↓ur_block, ↓ur_region, ↓ur_cond, ↓cont_seq, ↓ops_consN, nY_move, nY_assign, nY_alloc, nY_box, nY_load, nY_store, nY_binOp, nilO_int, nY_fieldAddr, nY_callf, nY_callb, ↓ops_nil, opsIf_some, opsIf_none, condC_false, Option.map_some, Option.bind_some, Option.getD_some, Nat.reduceLT, Bool.false_eq_true, ↓upd_same, ↓upd_ne, Nat.reduceBEq, true_and, and_true, List.getD_cons_zero, List.getD_cons_succ, List.getElem?_cons_zero, List.getElem?_cons_succ, cfg_P, cfg_tab, cfg_muts, cfg_frz, cfg_num, numOf_eq, List.length_map, List.contains_cons, List.contains_nil, Bool.or_false, decide_false, List.lookup_cons, List.lookup_nil, tabOf_cons, tab_v, Bool.and_self, Nat.reduceEqDiff, List.cons_append, List.nil_append, List.append_nil, updO_same, updO_ne, List.length_cons, List.length_nil, Nat.zero_add, List.drop_zero, List.take_zero, Nat.reduceAdd, List.set_cons_zero, nth_zero, Nat.lt_succ_self, Bool.not_false, not_true_eq_false, st0, Nat.le_refl, pur_int, cells_lits, pur_lits, cells_agg, pur_agg, ↓ev_tmp, ↓ev_int, ↓ev_func, ↓iop_move, ↓iop_assign, ↓iop_alloc, ↓iop_box, ↓iop_load, ↓iop_store, ↓iop_binOp, ↓iop_fieldAddr, ↓iop_callv, ↓iop_callb, nrmAll_cons, nrmAll_nil, bi_len, lenM_none, nrm_agg, nrmL_cons, nrmL_nil, nrm_lits, nrm1_int, nrm1_lits, pickP_f, pickP_t, loadP_ptr, setCells_agg, storeP_ptr, fieldP_ptr, lenP_lits, b_neq, splice_eq, env0_eq, valT_eq, pursL_cons, pursL_nil, Store.new, Store.set, ↓reduceIte, arr_eq, arrB_some, callP_eq, tsOf_eq, boxP_eq, List.take_succ_cons, List.drop_succ_cons, List.drop_nil, List.take_nil, ↓evs_cons, ↓evs_nil, beq_self_eq_true, see_eq, and_false, Bool.true_eq_false, e_book, s_book, e_cloneP, s_cloneP, e_post, nth_psts, pur_psts, nth_tars, pur_tars, nth_snds, pur_snds, nth_uses, pur_uses, nth_rsts, pur_rsts, nth_lnks, pur_lnks, Try.f20, ty40, ty64, h0, hpl2]
  refine loop_cnt [5, 8, 9, 10, 23, 24, 25, 26, 27, 28, 29, 30, 31, 32, 33, 34, 35, 36, 37, 38] l.length (fun k ρ st' => ρ 23 = I k ∧ errP n ps l k = 0 ∧ st'.obj 0 = some (.arr 0 2 [.agg [I n, psts (qsP ps l k)]]) ∧ st'.obj 1 = some (.arr 0 2 [.agg [I 0, .nils]]) ∧ 2 ≤ st'.next) (.refl _) ?_ ?_
  · have : qsP ps l 0 = ps := by unfold qsP; simp
    simp +contextual (maxSteps := 4000000) only [↓upd_same, Nat.reduceBEq, and_true, updO_same, updO_ne, Nat.le_refl, Int.cast_ofNat_Int, nth_psts, pur_psts, nth_tars, pur_tars, nth_snds, pur_snds, nth_uses, pur_uses, nth_rsts, pur_rsts, nth_lnks, pur_lnks, Try.f20, errP, this]
  rintro k ρ ⟨ob, M⟩ hk ⟨h23, hz, o0, o1, hM⟩
  dsimp only at o0 o1 hM
  have hM1 : ¬ 0 = M := by omega
  have hM2 : ¬ M = 0 := by omega
  have hM3 : ¬ 1 = M := by omega
  have hM4 : ¬ M = 1 := by omega
  have hM5 : ¬ 0 = M + 1 := by omega
  have hM6 : ¬ M + 1 = 0 := by omega
  have hM7 : ¬ 1 = M + 1 := by omega
  have hM8 : ¬ M + 1 = 1 := by omega
  have hM9 : ¬ M = M + 1 := by omega
  have hM10 : ¬ M + 1 = M := by omega
  by_cases hlt : k < l.length
  · have hwk := wrapN' (k := k) (by omega)
    have hst : errP n ps l (k + 1) = postE n (qsP ps l k) (l.getD k dP) := by simp only [errP]; rw [if_neg (fun h => h hz)]
    have hat := errP_at (n := n) (ps := ps) hlt
    have hqs := qsP_step (ps := ps) hlt
    generalize hx : l.getD k dP = x at *
    have hpo : specOf A_post R_post H_post [.agg [I n, psts (qsP ps l k)], .agg [I x.1, I x.2.1, I x.2.2.1, I x.2.2.2.1, I x.2.2.2.2.1, I x.2.2.2.2.2]] = some (.tuple [.agg [I (postN n (qsP ps l k) x), psts (postL n (qsP ps l k) x)], I (postE n (qsP ps l k) x)]) := s_post n (qsP ps l k) x
    rw [← hst] at hpo
    by_cases hp : errP n ps l (k + 1) = 0
    · have q1 : postN n (qsP ps l k) x = n := by unfold postN; rw [if_pos (by rw [← hst]; exact hp)]
      have q2 : postL n (qsP ps l k) x = qsP ps l (k + 1) := by unfold postL; rw [if_pos (by rw [← hst]; exact hp), hqs]
      rw [q1, q2, hp] at hpo
      generalize qsP ps l (k + 1) = Q2 at *
      generalize qsP ps l k = Q1 at *
      simp +contextual (maxSteps := 4000000) only [↓ur_skip, ↓ur_seq, ↓ur_block, ↓ur_region, ↓ur_cond, ↓cont_seq, ↓cont_blk, ↓cont_lp, ↓ops_consN, nY_move, nY_assign, nY_alloc, nY_load, nY_store, nY_binOp, nilO_tmp, nilO_int, nY_indexAddr, nY_extract, nY_callf, ↓ops_nil, opsIf_some, opsIf_none, condC_true, condC_false, Option.map_some, Option.bind_some, Option.getD_some, Nat.reduceLT, Bool.false_eq_true, ↓upd_same, ↓upd_ne, Nat.reduceBEq, and_true, List.getElem?_cons_zero, List.getElem?_cons_succ, cfg_P, cfg_tab, cfg_muts, cfg_frz, cfg_num, numOf_eq, List.length_map, ↓havoc_in, ↓havoc_out, agree_upd, agree_havoc, List.contains_cons, List.contains_nil, Bool.or_false, Bool.or_true, Int.natCast_nonneg, Int.ofNat_lt, Int.toNat_natCast, decide_true, decide_false, List.lookup_cons, List.lookup_nil, tabOf_cons, tab_v, Bool.and_self, Nat.reduceEqDiff, List.nil_append, List.append_nil, updO_same, updO_ne, List.length_cons, List.length_nil, Nat.zero_add, List.drop_zero, List.take_zero, Nat.reduceAdd, List.set_cons_zero, Nat.reduceLeDiff, nth_zero, Nat.lt_succ_self, Bool.not_false, not_true_eq_false, not_false_eq_true, Nat.le_refl, pur_int, pur_lits, cells_agg, pur_agg, ↓ev_tmp, ↓ev_int, ↓ev_func, ↓iop_move, ↓iop_assign, ↓iop_alloc, ↓iop_load, ↓iop_store, ↓iop_binOp, ↓iop_indexAddr, idxA_int, ↓iop_extract, extr_tuple, ↓iop_callv, nrmAll_cons, nrmAll_nil, nrm_agg, nrmL_cons, nrmL_nil, nrm1_int, nrm1_lits, pickP_t, loadP_vptr, loadP_ptr, setCells_agg, storeP_ptr, indexP_lits, b_add, b_neq, b_lss, splice_eq, valT_eq, pursL_cons, pursL_nil, Store.new, Store.set, ↓reduceIte, arr_eq, arrB_some, callP_eq, tsOf_eq, beq_eq_false_iff_ne, ne_eq, Nat.reduceBeqDiff, List.take_succ_cons, List.drop_succ_cons, List.drop_nil, List.take_nil, ↓evs_cons, ↓evs_nil, beq_self_eq_true, see_eq, and_false, Bool.true_eq_false, nth_psts, pur_psts, nth_tars, pur_tars, nth_snds, pur_snds, nth_uses, pur_uses, nth_rsts, pur_rsts, nth_lnks, pur_lnks, Try.f20, ty40, ty54, ty64, h23, o0, o1, hM1, hM2, hM3, hM4, hM5, hM6, hM7, hM8, hM9, hM10, hlt, hx, hpo, hwk, hp]
      try omega
    · have e1 : E = errP n ps l (k + 1) := by rw [e, hat hp]
      rw [← e1] at hpo hp
      obtain ⟨e2, e3⟩ := bad hp
      subst e2 e3
      generalize qsP ps l k = Q1 at *
      simp +contextual (maxSteps := 4000000) only [↓ur_skip, ↓ur_seq, ↓ur_block, ↓ur_ret, ↓ur_region, ↓ur_cond, ↓cont_seq, ↓done_nil, ↓done_seq, ↓done_blk, ↓done_lp, ↓ops_consN, nY_move, nY_assign, nY_alloc, nY_build, nY_load, nY_store, nY_binOp, nilO_tmp, nilO_int, nY_indexAddr, nY_extract, nY_callf, ↓ops_nil, opsIf_some, opsIf_none, condC_true, Option.map_some, Option.bind_some, Option.getD_some, Nat.reduceLT, Bool.false_eq_true, ↓upd_same, ↓upd_ne, Nat.reduceBEq, and_true, List.getElem?_cons_zero, List.getElem?_cons_succ, endQ, cfg_P, cfg_tab, cfg_muts, cfg_frz, cfg_num, numOf_eq, List.map_nil, List.length_map, ↓havoc_in, ↓havoc_out, List.contains_cons, List.contains_nil, Bool.or_false, Bool.or_true, Int.natCast_nonneg, Int.ofNat_lt, Int.toNat_natCast, decide_true, Option.some.injEq, exists_eq_left', List.lookup_cons, List.lookup_nil, tabOf_cons, tab_v, Bool.and_self, Nat.reduceEqDiff, List.nil_append, List.append_nil, updO_same, updO_ne, List.length_cons, List.length_nil, Nat.zero_add, List.drop_zero, List.take_zero, Nat.reduceAdd, List.set_cons_zero, nth_zero, Nat.lt_succ_self, Bool.not_false, not_false_eq_true, Nat.le_refl, pur_int, isCell_int, pur_lits, isCell_lits, cells_agg, pur_agg, DRx_int, DRx_nils_lits, DRx_agg, DRx_tuple, DRxL_cons, DRxL_nil, ↓ev_tmp, ↓ev_int, ↓ev_func, ↓iop_move, ↓iop_assign, ↓iop_alloc, ↓iop_build, ↓iop_load, ↓iop_store, ↓iop_binOp, ↓iop_indexAddr, idxA_int, ↓iop_extract, extr_tuple, ↓iop_callv, nrmAll_cons, nrmAll_nil, nrm_agg, nrmL_cons, nrmL_nil, nrm1_int, nrm1_lits, pickP_t, loadP_vptr, loadP_ptr, setCells_agg, storeP_ptr, indexP_lits, b_neq, b_lss, fill_nil, buildP_eq, bldA_none, splice_eq, ires_eq, iresL_2, iresAll_nil, iresAll_cons, iresOne_tmp, iresOne_cell, valT_eq, pursL_cons, pursL_nil, Store.new, Store.set, ↓reduceIte, arr_eq, arrB_some, callP_eq, tsOf_eq, beq_eq_false_iff_ne, ne_eq, Nat.reduceBeqDiff, List.take_succ_cons, List.drop_succ_cons, List.drop_nil, List.take_nil, ↓evs_cons, ↓evs_nil, ↓evp_nil, beq_self_eq_true, List.all_cons, List.all_nil, see_eq, and_false, Bool.true_eq_false, nth_psts, pur_psts, nth_tars, pur_tars, nth_snds, pur_snds, nth_uses, pur_uses, nth_rsts, pur_rsts, nth_lnks, pur_lnks, Try.f20, ty40, ty54, ty64, h23, o0, o1, hM1, hM2, hM3, hM4, hM5, hM6, hM7, hM8, hM9, hM10, hlt, hx, hpo, hp]
  · have e1 : k = l.length := by omega
    subst e1
    have e1 : E = 0 := by rw [e, hz]
    have e2 : RN = n := by rw [← hRN]; unfold setN; rw [if_pos (by rw [hE, e1])]
    have e3 : RL = qsP ps l l.length := by rw [← hRL]; unfold setL; rw [if_pos (by rw [hE, e1])]; unfold qsP; rw [List.take_length]
    rw [← e3] at o0
    subst e1 e2
    simp +contextual (maxSteps := 4000000) only [↓ur_seq, ↓ur_exit, ↓ur_ret, ↓ur_region, ↓ur_cond, ↓cont_seq, ↓leave_seq, ↓leave_blk, ↓leave_lp, ↓done_nil, ↓ops_consN, nY_assign, nY_load, nY_store, nY_binOp, nilO_tmp, ↓ops_nil, opsIf_some, opsIf_none, condC_false, Option.map_some, Option.bind_some, Option.getD_some, Nat.reduceLT, Bool.false_eq_true, ↓upd_same, ↓upd_ne, Nat.reduceBEq, and_true, endQ, cfg_P, cfg_frz, ↓havoc_in, ↓havoc_out, List.contains_cons, List.contains_nil, Bool.or_false, Bool.or_true, Int.ofNat_lt, decide_false, Option.some.injEq, exists_eq_left', Bool.and_self, List.nil_append, List.append_nil, updO_same, List.length_cons, List.length_nil, Nat.zero_add, List.drop_zero, List.take_zero, Nat.reduceAdd, List.set_cons_zero, nth_zero, Nat.lt_irrefl, Nat.lt_succ_self, Bool.not_false, Nat.le_refl, isCell_int, isCell_lits, cells_agg, DRx_int, DRx_lits, DRx_agg, DRx_tuple, DRxL_cons, DRxL_nil, ↓ev_tmp, ↓ev_int, ↓iop_assign, ↓iop_load, ↓iop_store, ↓iop_binOp, pickP_t, loadP_ptr, setCells_agg, storeP_ptr, b_lss, splice_eq, ires_eq, iresL_2, iresAll_nil, iresAll_cons, iresOne_tmp, iresOne_cell, Store.set, ↓reduceIte, arr_eq, arrB_some, List.take_succ_cons, List.drop_succ_cons, List.drop_nil, List.take_nil, beq_self_eq_true, List.all_cons, List.all_nil, see_eq, nth_psts, pur_psts, nth_tars, pur_tars, nth_snds, pur_snds, nth_uses, pur_uses, nth_rsts, pur_rsts, nth_lnks, pur_lnks, Try.f20, ty64, h23, o0, o1]
theorem o_settle : O_settle := k_settle c_settle
end Sim
