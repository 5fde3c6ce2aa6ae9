/- What functions of this seat compute, by values: contracts (lemmas of the statement's proof, under the conditions that each names). -/
import Derived.Test.YtmgklnbhbomlnaaQE4
import Derived.Test.YtmgklnbhbomlnaaQZ
namespace Sim
open Go Go.Proofs
set_option maxRecDepth 10000
set_option maxHeartbeats 8000000
set_option linter.unusedVariables false
set_option linter.unusedSimpArgs false
attribute [local congr] opsIf_congr condC_congr guardC_congr grd_congr pick3_congr obind_congr omap_congr nilC_congr opsV_congr
theorem run_envS {X : Cfg} {N : Nat} {Q : IExit → IState → Prop} {c : Code} {ks : List Kf} {A : Prop} (T : (Nat → PV) → Store → Prop) (h1 : (∀ ρ st, T ρ st → run X N Q c ks ⟨ρ, st⟩) → A) (h2 : ∀ ρ st, T ρ st → run X N Q c ks ⟨ρ, st⟩) : A := h1 h2
def C_law4 : Prop := ∀ (n : Int) (ps : List Pst) (t : List Tar) (hn : Int) (ls : List Lnk) (l : List Use) (a : Int) (h : 0 ≤ a ∧ a ≤ 65535) , VC Try.prog 6 [.agg [I n, psts ps], tars t, .agg [I hn, lnks ls], uses l, .int .u16 a] (B true)
theorem c_law4 : C_law4 := by
  rintro n ps t hn ls l a ⟨a0, a1⟩
  refine vc_ofU mixed (l := [e_sanity, e_few, e_book, e_period, e_settle, e_rsettle, e_sameB, e_Balance, e_Totals]) ((eok_cons o_sanity (eok_cons o_few (eok_cons o_book (eok_cons o_period (eok_cons o_settle (eok_cons o_rsettle (eok_cons o_sameB (eok_cons o_Balance (eok_cons o_Totals eok_nil)))))))))) [5] []  Try.func6 rfl (by decide +kernel) (N := 223) rfl (by simp) rfl (by kernel_rfl) fun hs => ?_
  simp only [smallL, PV.small, List.length_map, and_true, true_and] at hs
  by_cases c1 : fewO ls l
  case neg => simp +contextual (maxSteps := 4000000) only [↓ur_seq, ↓ur_ret, ↓ur_region, ↓ur_cond, ↓cont_seq, ↓done_nil, ↓done_seq, ↓ops_consN, ↓ops_guardN, nY_move, nY_assign, nY_pick, nY_box, nY_load, nY_store, nY_binOp, nilO_int, nY_unOp, nY_fieldAddr, nY_callf, nY_callb, ↓ops_nil, opsIf_some, opsIf_none, condC_true, guardC_tf, Option.map_some, Option.bind_some, Option.getD_some, Nat.reduceLT, Bool.false_eq_true, ↓upd_same, ↓upd_ne, Nat.reduceBEq, and_true, List.getD_cons_zero, List.getD_cons_succ, List.getElem?_toArray, List.getElem?_cons_zero, List.getElem?_cons_succ, endQ, cfg_P, cfg_tab, cfg_muts, cfg_frz, List.contains_cons, List.contains_nil, Bool.or_false, decide_false, Option.some.injEq, exists_eq_left', List.lookup_cons, List.lookup_nil, tabOf_cons, tab_v, Bool.and_self, Nat.reduceEqDiff, List.cons_append, List.nil_append, List.append_nil, updO_same, List.length_cons, List.length_nil, Nat.zero_add, Nat.add_zero, List.drop_zero, List.take_zero, Nat.reduceAdd, List.set_cons_zero, Nat.reduceLeDiff, nth_zero, Nat.lt_succ_self, Bool.not_false, st0, Nat.le_refl, cells_int, pur_int, pur_lits, cells_agg, pur_agg, DRx_bool, ↓ev_tmp, ↓ev_int, ↓ev_bool, ↓ev_func, ↓guardP_eq, grd_some, ↓iop_move, ↓iop_assign, ↓pick3_bool, ↓iop_pick, ↓iop_box, ↓iop_load, ↓iop_store, ↓iop_unOp, ↓iop_fieldAddr, ↓iop_callv, nrmAll_cons, nrmAll_nil, nrm_agg, nrmL_cons, nrmL_nil, nrm_lits, nrm1_int, nrm1_lits, pickP_t, loadP_vptr, setCells_agg, storeP_ptr, fieldP_ptr, u_not, splice_eq, env0_eq, ires_eq, iresL_1, iresAll_nil, iresAll_cons, iresOne_tmp, valT_eq, pursL_cons, pursL_nil, Store.new, Store.set, ↓reduceIte, arr_eq, arrB_some, callP_eq, tsOf_eq, boxP_eq, List.take_succ_cons, List.drop_succ_cons, List.take_nil, ↓evs_cons, ↓evs_nil, beq_self_eq_true, see_eq, and_false, Bool.true_eq_false, e_sanity, s_sanity, e_few, s_few, e_book, e_period, e_settle, e_rsettle, e_sameB, e_Balance, e_Totals, nth_psts, pur_psts, nth_tars, pur_tars, nth_snds, pur_snds, nth_uses, pur_uses, nth_rsts, pur_rsts, nth_lnks, pur_lnks, Try.f6, ty3, ty26, ty27, ty64, c1]
  by_cases c2 : 20 < l.length
  · have c2i : (20 : Int) < (l.length : Int) := by omega
    simp +contextual (maxSteps := 4000000) only [↓ur_seq, ↓ur_ret, ↓ur_region, ↓ur_cond, ↓cont_seq, ↓done_nil, ↓done_seq, ↓ops_consN, ↓ops_guardN, nY_move, nY_assign, nY_pick, nY_box, nY_load, nY_store, nY_binOp, nilO_int, nY_unOp, nY_fieldAddr, nY_callf, nY_callb, ↓ops_nil, opsIf_some, opsIf_none, condC_true, guardC_tf, guardC_ff, Option.map_some, Option.bind_some, Option.getD_some, Nat.reduceLT, Bool.false_eq_true, ↓upd_same, ↓upd_ne, Nat.reduceBEq, and_true, List.getD_cons_zero, List.getD_cons_succ, List.getElem?_toArray, List.getElem?_cons_zero, List.getElem?_cons_succ, endQ, cfg_P, cfg_tab, cfg_muts, cfg_frz, List.length_map, List.contains_cons, List.contains_nil, Bool.or_false, decide_true, Option.some.injEq, exists_eq_left', List.lookup_cons, List.lookup_nil, tabOf_cons, tab_v, Bool.and_self, Nat.reduceEqDiff, List.cons_append, List.nil_append, List.append_nil, updO_same, List.length_cons, List.length_nil, Nat.zero_add, Nat.add_zero, List.drop_zero, List.take_zero, Nat.reduceAdd, List.set_cons_zero, Nat.reduceLeDiff, nth_zero, Nat.lt_succ_self, Bool.not_true, Bool.not_false, st0, Nat.le_refl, cells_int, pur_int, pur_lits, cells_agg, pur_agg, DRx_bool, ↓ev_tmp, ↓ev_int, ↓ev_bool, ↓ev_func, ↓guardP_eq, grd_some, ↓iop_move, ↓iop_assign, ↓pick3_bool, ↓iop_pick, ↓iop_box, ↓iop_load, ↓iop_store, ↓iop_binOp, ↓iop_unOp, ↓iop_fieldAddr, ↓iop_callv, ↓iop_callb, nrmAll_cons, nrmAll_nil, bi_len, lenM_none, nrm_agg, nrmL_cons, nrmL_nil, nrm_lits, nrm1_int, nrm1_lits, pickP_t, loadP_vptr, setCells_agg, storeP_ptr, fieldP_ptr, lenP_lits, b_gtr, u_not, splice_eq, env0_eq, ires_eq, iresL_1, iresAll_nil, iresAll_cons, iresOne_tmp, valT_eq, pursL_cons, pursL_nil, Store.new, Store.set, ↓reduceIte, arr_eq, arrB_some, callP_eq, tsOf_eq, boxP_eq, List.take_succ_cons, List.drop_succ_cons, List.take_nil, ↓evs_cons, ↓evs_nil, beq_self_eq_true, see_eq, and_false, Bool.true_eq_false, e_sanity, s_sanity, e_few, s_few, e_book, e_period, e_settle, e_rsettle, e_sameB, e_Balance, e_Totals, nth_psts, pur_psts, nth_tars, pur_tars, nth_snds, pur_snds, nth_uses, pur_uses, nth_rsts, pur_rsts, nth_lnks, pur_lnks, Try.f6, ty3, ty26, ty27, ty64, c1, c2, c2i]
  have c2i : ¬ (20 : Int) < (l.length : Int) := by omega
  by_cases c3 : 20 < ps.length
  · have c3i : (20 : Int) < (ps.length : Int) := by omega
    simp +contextual (maxSteps := 4000000) only [↓ur_seq, ↓ur_ret, ↓ur_region, ↓ur_cond, ↓cont_seq, ↓done_nil, ↓done_seq, ↓ops_consN, ↓ops_guardN, nY_move, nY_assign, nY_pick, nY_box, nY_load, nY_store, nY_binOp, nilO_int, nY_unOp, nY_fieldAddr, nY_callf, nY_callb, ↓ops_nil, opsIf_some, opsIf_none, condC_true, guardC_tf, guardC_ff, Option.map_some, Option.bind_some, Option.getD_some, Nat.reduceLT, Bool.false_eq_true, ↓upd_same, ↓upd_ne, Nat.reduceBEq, and_true, List.getD_cons_zero, List.getD_cons_succ, List.getElem?_toArray, List.getElem?_cons_zero, List.getElem?_cons_succ, endQ, cfg_P, cfg_tab, cfg_muts, cfg_frz, List.length_map, List.contains_cons, List.contains_nil, Bool.or_false, decide_true, decide_false, Option.some.injEq, exists_eq_left', List.lookup_cons, List.lookup_nil, tabOf_cons, tab_v, Bool.and_self, Nat.reduceEqDiff, List.cons_append, List.nil_append, List.append_nil, updO_same, List.length_cons, List.length_nil, Nat.zero_add, Nat.add_zero, List.drop_zero, List.take_zero, Nat.reduceAdd, List.set_cons_zero, Nat.reduceLeDiff, nth_zero, Nat.lt_succ_self, Bool.not_true, Bool.not_false, st0, Nat.le_refl, cells_int, pur_int, pur_lits, cells_agg, pur_agg, DRx_bool, ↓ev_tmp, ↓ev_int, ↓ev_bool, ↓ev_func, ↓guardP_eq, grd_some, ↓iop_move, ↓iop_assign, ↓pick3_bool, ↓iop_pick, ↓iop_box, ↓iop_load, ↓iop_store, ↓iop_binOp, ↓iop_unOp, ↓iop_fieldAddr, ↓iop_callv, ↓iop_callb, nrmAll_cons, nrmAll_nil, bi_len, lenM_none, nrm_agg, nrmL_cons, nrmL_nil, nrm_lits, nrm1_int, nrm1_lits, pickP_f, pickP_t, loadP_vptr, loadP_ptr, setCells_agg, storeP_ptr, fieldP_ptr, lenP_lits, b_gtr, u_not, splice_eq, env0_eq, ires_eq, iresL_1, iresAll_nil, iresAll_cons, iresOne_tmp, valT_eq, pursL_cons, pursL_nil, Store.new, Store.set, ↓reduceIte, arr_eq, arrB_some, callP_eq, tsOf_eq, boxP_eq, List.take_succ_cons, List.drop_succ_cons, List.take_nil, ↓evs_cons, ↓evs_nil, beq_self_eq_true, see_eq, and_false, Bool.true_eq_false, e_sanity, s_sanity, e_few, s_few, e_book, e_period, e_settle, e_rsettle, e_sameB, e_Balance, e_Totals, nth_psts, pur_psts, nth_tars, pur_tars, nth_snds, pur_snds, nth_uses, pur_uses, nth_rsts, pur_rsts, nth_lnks, pur_lnks, Try.f6, ty3, ty26, ty27, ty40, ty64, c1, c2, c2i, c3, c3i]
  have c3i : ¬ (20 : Int) < (ps.length : Int) := by omega
  by_cases c4 : bookE 40 ps = 0
  case neg =>
    generalize hE : bookE 40 ps = E at *
    simp +contextual (maxSteps := 4000000) only [↓ur_seq, ↓ur_ret, ↓ur_region, ↓ur_cond, ↓cont_seq, ↓done_nil, ↓done_seq, ↓ops_consN, ↓ops_guardN, nY_move, nY_assign, nY_pick, nY_box, nY_load, nY_store, nY_binOp, nilO_int, nY_unOp, nY_fieldAddr, nY_callf, nY_callb, ↓ops_nil, opsIf_some, opsIf_none, condC_true, guardC_ff, Option.map_some, Option.bind_some, Option.getD_some, Nat.reduceLT, Bool.false_eq_true, ↓upd_same, ↓upd_ne, Nat.reduceBEq, and_true, List.getD_cons_zero, List.getD_cons_succ, List.getElem?_toArray, List.getElem?_cons_zero, List.getElem?_cons_succ, endQ, cfg_P, cfg_tab, cfg_muts, cfg_frz, List.length_map, List.contains_cons, List.contains_nil, Bool.or_false, decide_true, decide_false, Option.some.injEq, exists_eq_left', List.lookup_cons, List.lookup_nil, tabOf_cons, tab_v, Bool.and_self, Nat.reduceEqDiff, List.cons_append, List.nil_append, List.append_nil, updO_same, List.length_cons, List.length_nil, Nat.zero_add, Nat.add_zero, List.drop_zero, List.take_zero, Nat.reduceAdd, List.set_cons_zero, Nat.reduceLeDiff, nth_zero, Nat.lt_succ_self, Bool.not_true, Bool.not_false, not_false_eq_true, st0, Nat.le_refl, cells_int, pur_int, pur_lits, cells_agg, pur_agg, DRx_bool, ↓ev_tmp, ↓ev_int, ↓ev_bool, ↓ev_func, ↓guardP_eq, grd_some, ↓iop_move, ↓iop_assign, ↓pick3_bool, ↓iop_pick, ↓iop_box, ↓iop_load, ↓iop_store, ↓iop_binOp, ↓iop_unOp, ↓iop_fieldAddr, ↓iop_callv, ↓iop_callb, nrmAll_cons, nrmAll_nil, bi_len, lenM_none, nrm_agg, nrmL_cons, nrmL_nil, nrm_lits, nrm1_int, nrm1_lits, pickP_f, pickP_t, loadP_vptr, loadP_ptr, setCells_agg, storeP_ptr, fieldP_ptr, lenP_lits, b_neq, b_gtr, u_not, splice_eq, env0_eq, ires_eq, iresL_1, iresAll_nil, iresAll_cons, iresOne_tmp, valT_eq, pursL_cons, pursL_nil, Store.new, Store.set, ↓reduceIte, arr_eq, arrB_some, callP_eq, tsOf_eq, boxP_eq, List.take_succ_cons, List.drop_succ_cons, List.take_nil, ↓evs_cons, ↓evs_nil, beq_self_eq_true, see_eq, and_false, Bool.true_eq_false, e_sanity, s_sanity, e_few, s_few, e_book, s_book, e_period, e_settle, e_rsettle, e_sameB, e_Balance, e_Totals, nth_psts, pur_psts, nth_tars, pur_tars, nth_snds, pur_snds, nth_uses, pur_uses, nth_rsts, pur_rsts, nth_lnks, pur_lnks, Try.f6, ty3, ty26, ty27, ty40, ty64, c1, c2, c2i, c3, c3i, hE, c4]
  have ok := book_zero.1 c4
  have hlt := lastT_in ok
  have hltle := lastT_le ok
  have wa : IntKind.i64.wrap a = a := wrap64 (by omega) (by omega)
  have wt : IntKind.i64.wrap (a + lastT ps) = a + lastT ps := wrap64 (by omega) (by omega)
  have huse : ∀ u ∈ l, useP hn ls u := fun u _ => by unfold useP; omega
  have hper : specOf A_period R_period H_period [rsts [], tars t, .agg [I hn, lnks ls], uses l, I (a + lastT ps)] = some (.tuple [psts (perL [] t hn ls l (a + lastT ps)), rsts (perR [] t hn ls l (a + lastT ps)), I (perE [] t hn ls l (a + lastT ps))]) := by
    rw [s_period, if_pos ⟨by simp, huse⟩]
  rw [show rsts [] = PV.lits 4 [] from rfl] at hper
  have hPl := (per_len (rs := []) (t := t) (hn := hn) (ls := ls) (l := l) (tick := a + lastT ps)).1
  have hPt := fun x hx => ps_at (rs := []) (t := t) (hn := hn) (ls := ls) (l := l) (tick := a + lastT ps) x hx
  have hTk : perE [] t hn ls l (a + lastT ps) = 0 → 0 ≤ a + lastT ps ∧ a + lastT ps ≤ 1000000 := fun h => by
    unfold perE at h
    by_cases g1 : mchkE t l = 0
    · rw [if_neg (fun g => g g1)] at h
      by_cases g2 : inM (a + lastT ps) 1000000
      · exact g2
      · rw [if_pos g2] at h; cases h
    · rw [if_pos g1] at h; exact absurd h g1
  have hle0 : ps.length = 0 → a + lastT ps = a := fun h => by unfold lastT; rw [if_pos h]; omega
  have hle1 : ¬ ps.length = 0 → lastT ps = (ps.getD (ps.length - 1) dP).2.2.2.1 := fun h => by unfold lastT; rw [if_neg h]
  generalize hP : perL [] t hn ls l (a + lastT ps) = P at *
  generalize perR [] t hn ls l (a + lastT ps) = R at *
  generalize perE [] t hn ls l (a + lastT ps) = PE at *
  have hP1 : ∀ x ∈ P, x.2.2.2.1 = a + lastT ps ∧ (1 ≤ x.2.2.1 ∧ x.2.2.1 ≤ 1099511627776) := fun x hx => by
    obtain ⟨g1, g2, q, _, g3, _⟩ := hPt x hx
    exact ⟨g1, g2, by omega⟩
  clear hPt
  simp only [List.length_nil, Nat.zero_add] at hPl
  have hPl2 : P.length ≤ 100000 := by omega
  have hsb : specOf A_sameB R_sameB H_sameB [.agg [I (setN 40 ps P), psts (setL 40 ps P)], .agg [I (setN 40 ps P), psts (setL 40 ps P)]] = some (B true) := by
    rw [s_sameB, if_pos]
    · simp
    · unfold setL; split
      · rw [List.length_append]; omega
      · simp
  have hse : setE 40 ps P = 0 → setN 40 ps P = 40 ∧ setL 40 ps P = ps ++ P ∧ BookOK 40 (ps ++ P) := fun h => by
    refine ⟨by unfold setN; rw [if_pos h], by unfold setL; rw [if_pos h], ?_⟩
    unfold setE at h
    rw [if_neg (fun g => g c4)] at h
    have := errP_book c4 P.length (Nat.le_refl _) h
    unfold qsP at this
    rw [List.take_length] at this
    exact book_zero.1 this
  generalize hTick : a + lastT ps = tk at *
  have hsl : (setL 40 ps P).length ≤ 100000 := by
    unfold setL; split
    · rw [List.length_append]; omega
    · simp
  have wa0 : ps.length = 0 → IntKind.i64.wrap a = tk := fun h => by rw [hle0 h]; exact wa
  have hn0 : ps.length = 0 ∨ 0 < ps.length := by omega
  have hpl1 : ps.length - 1 < ps.length ∨ ps.length = 0 := by omega
  have wl : 0 < ps.length → IntKind.i64.wrap ((ps.length : Int) - 1) = ((ps.length - 1 : Nat) : Int) := fun h => by rw [wrap64 (by omega) (by omega)]; omega
  generalize hy : ps.getD (ps.length - 1) dP = y at *
  have wy : 0 < ps.length → IntKind.i64.wrap (a + y.2.2.2.1) = tk := fun h => by rw [← hle1 (by omega), hTick] at *; exact wt
  by_cases pE : PE = 0
  case neg =>
    rcases hn0 with n0 | n0
    · have wa' := wa0 n0
      have n0' : ¬ 0 < ps.length := by omega
      simp +contextual (maxSteps := 4000000) only [↓ur_skip, ↓ur_seq, ↓ur_ret, ↓ur_region, ↓ur_cond, ↓cont_seq, ↓done_nil, ↓done_seq, ↓ops_consN, ↓ops_guardN, nY_move, nY_assign, nY_pick, nY_box, nY_load, nY_store, nY_binOp, nilO_int, nY_unOp, nY_convert, nY_fieldAddr, nY_extract, nY_callf, nY_callb, ↓ops_nil, opsIf_some, opsIf_none, condC_true, condC_false, guardC_ff, Option.map_some, Option.bind_some, Option.getD_some, Nat.reduceLT, Bool.false_eq_true, ↓upd_same, ↓upd_ne, Nat.reduceBEq, and_true, List.getD_cons_zero, List.getD_cons_succ, List.getElem?_toArray, List.getElem?_cons_zero, List.getElem?_cons_succ, endQ, cfg_P, cfg_tab, cfg_muts, cfg_frz, List.length_map, List.contains_cons, List.contains_nil, Bool.or_false, decide_true, decide_false, Option.some.injEq, exists_eq_left', List.lookup_cons, List.lookup_nil, tabOf_cons, tab_v, Bool.and_self, Nat.reduceEqDiff, List.cons_append, List.nil_append, List.append_nil, updO_same, List.length_cons, List.length_nil, Nat.zero_add, Nat.add_zero, List.drop_zero, List.take_zero, Nat.reduceAdd, List.set_cons_zero, Nat.reduceLeDiff, nth_zero, Nat.lt_succ_self, Bool.not_true, Bool.not_false, not_true_eq_false, not_false_eq_true, Int.reduceLT, st0, Nat.le_refl, cells_int, pur_int, pur_lits, cells_agg, pur_agg, DRx_bool, ↓ev_tmp, ↓ev_int, ↓ev_bool, ↓ev_nils, ↓ev_func, ↓guardP_eq, grd_some, ↓iop_move, ↓iop_assign, ↓pick3_bool, ↓iop_pick, ↓iop_box, ↓iop_load, ↓iop_store, ↓iop_binOp, ↓iop_unOp, ↓iop_convert, ↓iop_fieldAddr, ↓iop_extract, extr_tuple, ↓iop_callv, ↓iop_callb, nrmAll_cons, nrmAll_nil, bi_len, lenM_none, nrm_agg, nrmL_cons, nrmL_nil, nrm_nils, nrm1_some, nrm_int, nrm_lits, nrm1_int, nrm1_lits, pickP_f, pickP_t, loadP_vptr, loadP_ptr, setCells_agg, storeP_ptr, fieldP_ptr, lenP_lits, b_neq, b_gtr, u_not, cv_int, splice_eq, env0_eq, ires_eq, iresL_1, iresAll_nil, iresAll_cons, iresOne_tmp, valT_eq, pursL_cons, pursL_nil, Store.new, Store.set, ↓reduceIte, arr_eq, arrB_some, callP_eq, tsOf_eq, boxP_eq, List.take_succ_cons, List.drop_succ_cons, List.take_nil, ↓evs_cons, ↓evs_nil, beq_self_eq_true, see_eq, and_false, Bool.true_eq_false, Int.cast_ofNat_Int, e_sanity, s_sanity, e_few, s_few, e_book, s_book, e_period, e_settle, e_rsettle, e_sameB, e_Balance, e_Totals, nth_psts, pur_psts, nth_tars, pur_tars, nth_snds, pur_snds, nth_uses, pur_uses, nth_rsts, pur_rsts, nth_lnks, pur_lnks, Try.f6, ty3, ty22, ty23, ty26, ty27, ty40, ty64, ty65, c1, c2, c2i, c3, c3i, c4, n0, n0', wa', hper, pE]
    · have n1 : ps.length - 1 < ps.length := by omega
      simp +contextual (maxSteps := 4000000) only [↓ur_skip, ↓ur_seq, ↓ur_ret, ↓ur_region, ↓ur_cond, ↓cont_seq, ↓done_nil, ↓done_seq, ↓ops_consN, ↓ops_guardN, nY_move, nY_assign, nY_pick, nY_box, nY_load, nY_store, nY_binOp, nilO_tmp, nilO_int, nY_unOp, nY_convert, nY_fieldAddr, nY_indexAddr, nY_extract, nY_callf, nY_callb, ↓ops_nil, opsIf_some, opsIf_none, condC_true, condC_false, guardC_ff, Option.map_some, Option.bind_some, Option.getD_some, Nat.reduceLT, Bool.false_eq_true, ↓upd_same, ↓upd_ne, Nat.reduceBEq, and_true, List.getD_cons_zero, List.getD_cons_succ, List.getElem?_toArray, List.getElem?_cons_zero, List.getElem?_cons_succ, endQ, cfg_P, cfg_tab, cfg_muts, cfg_frz, List.length_map, List.contains_cons, List.contains_nil, Bool.or_false, Int.natCast_nonneg, Int.ofNat_lt, Int.toNat_natCast, decide_true, decide_false, Option.some.injEq, exists_eq_left', List.lookup_cons, List.lookup_nil, tabOf_cons, tab_v, Bool.and_self, Nat.reduceEqDiff, List.cons_append, List.nil_append, List.append_nil, updO_same, List.length_cons, List.length_nil, Nat.zero_add, Nat.add_zero, List.drop_zero, List.take_zero, Nat.reduceAdd, List.set_cons_zero, Nat.reduceLeDiff, nth_zero, Nat.lt_succ_self, Bool.not_true, Bool.not_false, not_true_eq_false, not_false_eq_true, st0, Nat.le_refl, cells_int, pur_int, pur_lits, cells_agg, pur_agg, DRx_bool, ↓ev_tmp, ↓ev_int, ↓ev_bool, ↓ev_nils, ↓ev_func, ↓guardP_eq, grd_some, ↓iop_move, ↓iop_assign, ↓pick3_bool, ↓iop_pick, ↓iop_box, ↓iop_load, ↓iop_store, ↓iop_binOp, ↓iop_unOp, ↓iop_convert, ↓iop_fieldAddr, ↓iop_indexAddr, idxA_int, ↓iop_extract, extr_tuple, ↓iop_callv, ↓iop_callb, nrmAll_cons, nrmAll_nil, bi_len, lenM_none, nrm_agg, nrmL_cons, nrmL_nil, nrm_nils, nrm1_some, nrm_int, nrm_lits, nrm1_int, nrm1_lits, pickP_f, pickP_t, loadP_vptr, loadP_ptr, setCells_agg, storeP_ptr, fieldP_vptr, fieldP_ptr, indexP_lits, lenP_lits, b_add, b_sub, b_neq, b_gtr, u_not, cv_int, splice_eq, env0_eq, ires_eq, iresL_1, iresAll_nil, iresAll_cons, iresOne_tmp, valT_eq, pursL_cons, pursL_nil, Store.new, Store.set, ↓reduceIte, arr_eq, arrB_some, callP_eq, tsOf_eq, boxP_eq, List.take_succ_cons, List.drop_succ_cons, List.take_nil, ↓evs_cons, ↓evs_nil, Int.natCast_pos, beq_self_eq_true, see_eq, and_false, Bool.true_eq_false, e_sanity, s_sanity, e_few, s_few, e_book, s_book, e_period, e_settle, e_rsettle, e_sameB, e_Balance, e_Totals, nth_psts, pur_psts, nth_tars, pur_tars, nth_snds, pur_snds, nth_uses, pur_uses, nth_rsts, pur_rsts, nth_lnks, pur_lnks, Try.f6, ty3, ty22, ty23, ty26, ty27, ty40, ty54, ty64, ty65, c1, c2, c2i, c3, c3i, c4, n0, n1, wa, wl n0, hy, wy n0, hper, pE]
  by_cases sE : setE 40 ps P = 0
  case neg =>
    rcases hn0 with n0 | n0
    · have wa' := wa0 n0
      have n0' : ¬ 0 < ps.length := by omega
      simp +contextual (maxSteps := 4000000) only [↓ur_skip, ↓ur_seq, ↓ur_ret, ↓ur_region, ↓ur_cond, ↓cont_seq, ↓done_nil, ↓done_seq, ↓ops_consN, ↓ops_guardN, nY_move, nY_assign, nY_pick, nY_alloc, nY_box, nY_load, nY_store, nY_binOp, nilO_tmp, nilO_int, nY_unOp, nY_convert, nY_fieldAddr, nY_extract, nY_callf, nY_callb, ↓ops_nil, opsIf_some, opsIf_none, condC_true, condC_false, guardC_tt, guardC_ff, Option.map_some, Option.bind_some, Option.getD_some, Nat.reduceLT, Bool.false_eq_true, ↓upd_same, ↓upd_ne, Nat.reduceBEq, and_true, List.getD_cons_zero, List.getD_cons_succ, List.getElem?_toArray, List.getElem?_cons_zero, List.getElem?_cons_succ, endQ, cfg_P, cfg_tab, cfg_muts, cfg_frz, cfg_num, numOf_eq, List.length_map, List.contains_cons, List.contains_nil, Bool.or_false, decide_true, decide_false, Option.some.injEq, exists_eq_left', List.lookup_cons, List.lookup_nil, tabOf_cons, tab_v, Bool.and_self, Nat.reduceEqDiff, List.cons_append, List.nil_append, List.append_nil, updO_same, updO_ne, List.length_cons, List.length_nil, Nat.zero_add, Nat.add_zero, List.drop_zero, List.take_zero, Nat.reduceAdd, List.set_cons_zero, Nat.reduceLeDiff, nth_zero, Nat.lt_succ_self, Bool.not_true, Bool.not_false, not_true_eq_false, not_false_eq_true, Int.reduceLT, st0, Nat.le_refl, cells_int, pur_int, pur_lits, cells_agg, pur_agg, DRx_bool, ↓ev_tmp, ↓ev_int, ↓ev_bool, ↓ev_nils, ↓ev_func, ↓guardP_eq, grd_some, ↓iop_move, ↓iop_assign, ↓pick3_bool, ↓iop_pick, ↓iop_alloc, ↓iop_box, ↓iop_load, ↓iop_store, ↓iop_binOp, ↓iop_unOp, ↓iop_convert, ↓iop_fieldAddr, ↓iop_extract, extr_tuple, ↓iop_callv, ↓iop_callb, nrmAll_cons, nrmAll_nil, bi_len, lenM_none, nrm_agg, nrmL_cons, nrmL_nil, nrm_nils, nrm1_some, nrm_int, nrm_lits, nrm1_int, nrm1_lits, pickP_f, pickP_t, loadP_vptr, loadP_ptr, setCells_agg, storeP_ptr, fieldP_ptr, lenP_lits, b_eql, b_neq, b_gtr, u_not, cv_int, splice_eq, env0_eq, ires_eq, iresL_1, iresAll_nil, iresAll_cons, iresOne_tmp, valT_eq, pursL_cons, pursL_nil, Store.new, Store.set, ↓reduceIte, arr_eq, arrB_some, callP_eq, tsOf_eq, boxP_eq, List.take_succ_cons, List.drop_succ_cons, List.drop_nil, List.take_nil, ↓evs_cons, ↓evs_nil, beq_self_eq_true, see_eq, and_false, Bool.true_eq_false, Int.cast_ofNat_Int, e_sanity, s_sanity, e_few, s_few, e_book, s_book, e_period, e_settle, s_settle, e_rsettle, s_rsettle, e_sameB, e_Balance, e_Totals, nth_psts, pur_psts, nth_tars, pur_tars, nth_snds, pur_snds, nth_uses, pur_uses, nth_rsts, pur_rsts, nth_lnks, pur_lnks, Try.f6, ty3, ty22, ty23, ty26, ty27, ty30, ty40, ty64, ty65, ty70, c1, c2, c2i, c3, c3i, c4, n0, n0', wa', hper, pE, hPl2, hsl, hsb, sE]
    · have n1 : ps.length - 1 < ps.length := by omega
      simp +contextual (maxSteps := 4000000) only [↓ur_skip, ↓ur_seq, ↓ur_ret, ↓ur_region, ↓ur_cond, ↓cont_seq, ↓done_nil, ↓done_seq, ↓ops_consN, ↓ops_guardN, nY_move, nY_assign, nY_pick, nY_alloc, nY_box, nY_load, nY_store, nY_binOp, nilO_tmp, nilO_int, nY_unOp, nY_convert, nY_fieldAddr, nY_indexAddr, nY_extract, nY_callf, nY_callb, ↓ops_nil, opsIf_some, opsIf_none, condC_true, condC_false, guardC_tt, guardC_ff, Option.map_some, Option.bind_some, Option.getD_some, Nat.reduceLT, Bool.false_eq_true, ↓upd_same, ↓upd_ne, Nat.reduceBEq, and_true, List.getD_cons_zero, List.getD_cons_succ, List.getElem?_toArray, List.getElem?_cons_zero, List.getElem?_cons_succ, endQ, cfg_P, cfg_tab, cfg_muts, cfg_frz, cfg_num, numOf_eq, List.length_map, List.contains_cons, List.contains_nil, Bool.or_false, Int.natCast_nonneg, Int.ofNat_lt, Int.toNat_natCast, decide_true, decide_false, Option.some.injEq, exists_eq_left', List.lookup_cons, List.lookup_nil, tabOf_cons, tab_v, Bool.and_self, Nat.reduceEqDiff, List.cons_append, List.nil_append, List.append_nil, updO_same, updO_ne, List.length_cons, List.length_nil, Nat.zero_add, Nat.add_zero, List.drop_zero, List.take_zero, Nat.reduceAdd, List.set_cons_zero, Nat.reduceLeDiff, nth_zero, Nat.lt_succ_self, Bool.not_true, Bool.not_false, not_true_eq_false, not_false_eq_true, st0, Nat.le_refl, cells_int, pur_int, pur_lits, cells_agg, pur_agg, DRx_bool, ↓ev_tmp, ↓ev_int, ↓ev_bool, ↓ev_nils, ↓ev_func, ↓guardP_eq, grd_some, ↓iop_move, ↓iop_assign, ↓pick3_bool, ↓iop_pick, ↓iop_alloc, ↓iop_box, ↓iop_load, ↓iop_store, ↓iop_binOp, ↓iop_unOp, ↓iop_convert, ↓iop_fieldAddr, ↓iop_indexAddr, idxA_int, ↓iop_extract, extr_tuple, ↓iop_callv, ↓iop_callb, nrmAll_cons, nrmAll_nil, bi_len, lenM_none, nrm_agg, nrmL_cons, nrmL_nil, nrm_nils, nrm1_some, nrm_int, nrm_lits, nrm1_int, nrm1_lits, pickP_f, pickP_t, loadP_vptr, loadP_ptr, setCells_agg, storeP_ptr, fieldP_vptr, fieldP_ptr, indexP_lits, lenP_lits, b_add, b_sub, b_eql, b_neq, b_gtr, u_not, cv_int, splice_eq, env0_eq, ires_eq, iresL_1, iresAll_nil, iresAll_cons, iresOne_tmp, valT_eq, pursL_cons, pursL_nil, Store.new, Store.set, ↓reduceIte, arr_eq, arrB_some, callP_eq, tsOf_eq, boxP_eq, List.take_succ_cons, List.drop_succ_cons, List.drop_nil, List.take_nil, ↓evs_cons, ↓evs_nil, Int.natCast_pos, beq_self_eq_true, see_eq, and_false, Bool.true_eq_false, e_sanity, s_sanity, e_few, s_few, e_book, s_book, e_period, e_settle, s_settle, e_rsettle, s_rsettle, e_sameB, e_Balance, e_Totals, nth_psts, pur_psts, nth_tars, pur_tars, nth_snds, pur_snds, nth_uses, pur_uses, nth_rsts, pur_rsts, nth_lnks, pur_lnks, Try.f6, ty3, ty22, ty23, ty26, ty27, ty30, ty40, ty54, ty64, ty65, ty70, c1, c2, c2i, c3, c3i, c4, n0, n1, wa, wl n0, hy, wy n0, hper, pE, hPl2, hsl, hsb, sE]
  obtain ⟨e1, e2, ok2⟩ := hse sE
  rw [e1, e2] at hsb
  rw [e2] at hsl
  have hTk := hTk pE
  refine run_envS (X := ?X) (N := ?N) (Q := ?Q) (c := ?c) (ks := ?ks) (fun ρ st => ρ 4 = .int .u16 a ∧ ρ 5 = .ptr 0 0 0 0 ∧ ρ 11 = I tk ∧ ρ 12 = psts P ∧ ρ 15 = .ptr 1 0 0 0 ∧ ρ 18 = I 0 ∧ ρ 117 = I 0 ∧ st.obj 0 = some (.arr 0 2 [.agg [I 40, psts ps]]) ∧ st.obj 1 = some (.arr 0 2 [.agg [I 40, psts (ps ++ P)]]) ∧ st.next = 3) ?h1 ?h2
  case h1 =>
    intro tail
    rcases hn0 with n0 | n0
    · have wa' := wa0 n0
      have n0' : ¬ 0 < ps.length := by omega
      simp +contextual (maxSteps := 4000000) only [↓ur_skip, ↓ur_seq, ↓ur_block, ↓ur_region, ↓ur_cond, ↓cont_seq, ↓ops_consN, ↓ops_guardN, nY_move, nY_assign, nY_pick, nY_alloc, nY_box, nY_load, nY_store, nY_binOp, nilO_tmp, nilO_int, nY_unOp, nY_convert, nY_fieldAddr, nY_extract, nY_callf, nY_callb, ↓ops_nil, opsIf_some, opsIf_none, condC_false, guardC_ff, Option.map_some, Option.bind_some, Option.getD_some, Nat.reduceLT, Bool.false_eq_true, ↓upd_same, ↓upd_ne, Nat.reduceBEq, true_and, and_true, List.getD_cons_zero, List.getD_cons_succ, List.getElem?_toArray, List.getElem?_cons_zero, List.getElem?_cons_succ, cfg_P, cfg_tab, cfg_muts, cfg_frz, cfg_num, numOf_eq, List.length_map, List.contains_cons, List.contains_nil, Bool.or_false, decide_true, decide_false, List.lookup_cons, List.lookup_nil, tabOf_cons, tab_v, Bool.and_self, Nat.reduceEqDiff, List.cons_append, List.nil_append, List.append_nil, updO_same, updO_ne, List.length_cons, List.length_nil, Nat.zero_add, Nat.add_zero, List.drop_zero, List.take_zero, Nat.reduceAdd, List.set_cons_zero, Nat.reduceLeDiff, nth_zero, Nat.lt_succ_self, Bool.not_true, Bool.not_false, not_true_eq_false, Int.reduceLT, st0, Nat.le_refl, cells_int, pur_int, pur_lits, cells_agg, pur_agg, ↓ev_tmp, ↓ev_int, ↓ev_bool, ↓ev_nils, ↓ev_func, ↓guardP_eq, grd_some, ↓iop_move, ↓iop_assign, ↓pick3_bool, ↓iop_pick, ↓iop_alloc, ↓iop_box, ↓iop_load, ↓iop_store, ↓iop_binOp, ↓iop_unOp, ↓iop_convert, ↓iop_fieldAddr, ↓iop_extract, extr_tuple, ↓iop_callv, ↓iop_callb, nrmAll_cons, nrmAll_nil, bi_len, lenM_none, nrm_agg, nrmL_cons, nrmL_nil, nrm_nils, nrm1_some, nrm_int, nrm_lits, nrm1_int, nrm1_lits, pickP_f, pickP_t, loadP_vptr, loadP_ptr, setCells_agg, storeP_ptr, fieldP_ptr, lenP_lits, b_neq, b_gtr, u_not, cv_int, splice_eq, env0_eq, valT_eq, pursL_cons, pursL_nil, Store.new, Store.set, ↓reduceIte, arr_eq, arrB_some, callP_eq, tsOf_eq, boxP_eq, List.take_succ_cons, List.drop_succ_cons, List.drop_nil, List.take_nil, ↓evs_cons, ↓evs_nil, beq_self_eq_true, see_eq, and_false, Bool.true_eq_false, Int.cast_ofNat_Int, e_sanity, e_few, s_few, e_book, s_book, e_period, e_settle, s_settle, e_rsettle, s_rsettle, e_sameB, e_Balance, e_Totals, nth_psts, pur_psts, nth_tars, pur_tars, nth_snds, pur_snds, nth_uses, pur_uses, nth_rsts, pur_rsts, nth_lnks, pur_lnks, Try.f6, ty3, ty22, ty23, ty26, ty27, ty30, ty40, ty64, ty65, ty70, c1, c2, c2i, c3, c3i, c4, n0, n0', wa', hper, pE, hPl2, e1, e2, hsl, hsb, sE]
      refine tail _ _ ?_
      simp +contextual (maxSteps := 4000000) only [↓upd_same, ↓upd_ne, Nat.reduceBEq, and_true, List.getD_cons_zero, List.getD_cons_succ, updO_same, updO_ne, env0_eq, nth_psts, pur_psts, nth_tars, pur_tars, nth_snds, pur_snds, nth_uses, pur_uses, nth_rsts, pur_rsts, nth_lnks, pur_lnks, Try.f6, c1, c2, c2i, c3, c3i, c4, n0, n0', wa', hper, pE, hPl2, e1, e2, hsl, hsb, sE]
    · have n1 : ps.length - 1 < ps.length := by omega
      simp +contextual (maxSteps := 4000000) only [↓ur_skip, ↓ur_seq, ↓ur_block, ↓ur_region, ↓ur_cond, ↓cont_seq, ↓ops_consN, ↓ops_guardN, nY_move, nY_assign, nY_pick, nY_alloc, nY_box, nY_load, nY_store, nY_binOp, nilO_tmp, nilO_int, nY_unOp, nY_convert, nY_fieldAddr, nY_indexAddr, nY_extract, nY_callf, nY_callb, ↓ops_nil, opsIf_some, opsIf_none, condC_true, condC_false, guardC_ff, Option.map_some, Option.bind_some, Option.getD_some, Nat.reduceLT, Bool.false_eq_true, ↓upd_same, ↓upd_ne, Nat.reduceBEq, true_and, and_true, List.getD_cons_zero, List.getD_cons_succ, List.getElem?_toArray, List.getElem?_cons_zero, List.getElem?_cons_succ, cfg_P, cfg_tab, cfg_muts, cfg_frz, cfg_num, numOf_eq, List.length_map, List.contains_cons, List.contains_nil, Bool.or_false, Int.natCast_nonneg, Int.ofNat_lt, Int.toNat_natCast, decide_true, decide_false, List.lookup_cons, List.lookup_nil, tabOf_cons, tab_v, Bool.and_self, Nat.reduceEqDiff, List.cons_append, List.nil_append, List.append_nil, updO_same, updO_ne, List.length_cons, List.length_nil, Nat.zero_add, Nat.add_zero, List.drop_zero, List.take_zero, Nat.reduceAdd, List.set_cons_zero, Nat.reduceLeDiff, nth_zero, Nat.lt_succ_self, Bool.not_true, Bool.not_false, not_true_eq_false, st0, Nat.le_refl, cells_int, pur_int, pur_lits, cells_agg, pur_agg, ↓ev_tmp, ↓ev_int, ↓ev_bool, ↓ev_nils, ↓ev_func, ↓guardP_eq, grd_some, ↓iop_move, ↓iop_assign, ↓pick3_bool, ↓iop_pick, ↓iop_alloc, ↓iop_box, ↓iop_load, ↓iop_store, ↓iop_binOp, ↓iop_unOp, ↓iop_convert, ↓iop_fieldAddr, ↓iop_indexAddr, idxA_int, ↓iop_extract, extr_tuple, ↓iop_callv, ↓iop_callb, nrmAll_cons, nrmAll_nil, bi_len, lenM_none, nrm_agg, nrmL_cons, nrmL_nil, nrm_nils, nrm1_some, nrm_int, nrm_lits, nrm1_int, nrm1_lits, pickP_f, pickP_t, loadP_vptr, loadP_ptr, setCells_agg, storeP_ptr, fieldP_vptr, fieldP_ptr, indexP_lits, lenP_lits, b_add, b_sub, b_neq, b_gtr, u_not, cv_int, splice_eq, env0_eq, valT_eq, pursL_cons, pursL_nil, Store.new, Store.set, ↓reduceIte, arr_eq, arrB_some, callP_eq, tsOf_eq, boxP_eq, List.take_succ_cons, List.drop_succ_cons, List.drop_nil, List.take_nil, ↓evs_cons, ↓evs_nil, Int.natCast_pos, beq_self_eq_true, see_eq, and_false, Bool.true_eq_false, e_sanity, e_few, s_few, e_book, s_book, e_period, e_settle, s_settle, e_rsettle, s_rsettle, e_sameB, e_Balance, e_Totals, nth_psts, pur_psts, nth_tars, pur_tars, nth_snds, pur_snds, nth_uses, pur_uses, nth_rsts, pur_rsts, nth_lnks, pur_lnks, Try.f6, ty3, ty22, ty23, ty26, ty27, ty30, ty40, ty54, ty64, ty65, ty70, c1, c2, c2i, c3, c3i, c4, n0, n1, wa, wl n0, hy, wy n0, hper, pE, hPl2, e1, e2, hsl, hsb, sE]
      refine tail _ _ ?_
      simp +contextual (maxSteps := 4000000) only [↓upd_same, ↓upd_ne, Nat.reduceBEq, and_true, List.getD_cons_zero, List.getD_cons_succ, updO_same, updO_ne, env0_eq, nth_psts, pur_psts, nth_tars, pur_tars, nth_snds, pur_snds, nth_uses, pur_uses, nth_rsts, pur_rsts, nth_lnks, pur_lnks, Try.f6, c1, c2, c2i, c3, c3i, c4, n0, n1, wa, wl n0, hy, wy n0, hper, pE, hPl2, e1, e2, hsl, hsb, sE]
  case h2 =>
    rintro ρ0 ⟨ob0, M0⟩ ⟨r4, r5, r11, r12, r15, r18, r117, o0, o1, hM0⟩
    dsimp only at o0 o1 hM0
    subst hM0
    have hall : ∀ p ∈ ps ++ P, 1 ≤ p.2.2.1 ∧ p.2.2.1 ≤ 1099511627776 := fun p hp => by
      have := (book_mem ok2 hp).2
      unfold rngO at this
      omega
    have hallP : ∀ p ∈ P, 1 ≤ p.2.2.1 ∧ p.2.2.1 ≤ 1099511627776 := fun p hp => hall p (List.mem_append.2 (.inr hp))
    have hln : (ps ++ P).length ≤ 1000 := by rw [List.length_append]; omega
    have hbef : ∀ qs : List Pst, BookOK 40 qs → befOK 40 qs 1000000 := fun qs h => ⟨h, by omega, fun p hp => by
      have := (book_mem h hp).2
      unfold rngO at this
      omega⟩
    have hacO : ∀ k : Nat, k < 40 → accO 40 (k : Int) := fun k hk => by unfold accO; omega
    refine loop_cnt [10, 18, 19, 20, 21, 22, 23, 24, 25, 27, 28, 29, 30, 117, 118, 119, 120, 121, 122, 123, 124, 125, 126, 127, 128, 129, 130, 131, 132, 133, 134, 135, 136, 137, 138, 139, 140, 141, 142, 143, 144, 145, 146, 147, 148, 149, 150, 151, 152, 153, 154, 155, 156, 157, 158, 159, 160, 161, 162, 163, 164, 165, 166, 167, 168, 169, 170, 171, 172, 173, 174, 175, 176, 177, 178, 179, 180, 181, 182, 183, 184, 185, 186, 187, 188, 189, 190, 191, 192, 193, 194, 195, 196, 197, 198, 199, 200, 201, 202, 203, 204, 205, 206, 207, 208, 209, 210, 211, 212, 213, 214, 215, 216, 217] 40 (fun k ρ st' => ρ 117 = I k ∧ ρ 18 = I (accS (ps ++ P) k) ∧ st'.obj 0 = some (.arr 0 2 [.agg [I 40, psts ps]]) ∧ st'.obj 1 = some (.arr 0 2 [.agg [I 40, psts (ps ++ P)]]) ∧ 3 ≤ st'.next) (.refl _) ?_ ?_
    · exact ⟨r117, r18, o0, o1, by simp⟩
    clear o0 o1
    rintro k ρ ⟨ob, M⟩ hk ⟨h117, h18, o0, o1, hM⟩
    dsimp only at o0 o1 hM
    by_cases hlt : k < 40
    case neg =>
      have e : k = 40 := by omega
      subst e
      have e0 : accS (ps ++ P) 40 = 0 := acc_zero fun p hp => by
        have := (book_mem ok2 hp).1
        unfold accO at this
        omega
      rw [e0] at h18
      simp +contextual (maxSteps := 4000000) only [↓ur_seq, ↓ur_exit, ↓ur_ret, ↓ur_region, ↓ur_cond, ↓cont_seq, ↓leave_seq, ↓leave_blk, ↓leave_lp, ↓done_nil, ↓ops_consN, ↓ops_guardN, nY_move, nY_assign, nY_pick, nY_binOp, nilO_int, nY_callf, ↓ops_nil, opsIf_some, condC_false, guardC_tt, Option.map_some, Option.bind_some, Option.getD_some, Nat.reduceLT, Bool.false_eq_true, ↓upd_same, ↓upd_ne, Nat.reduceBEq, and_true, List.getElem?_toArray, List.getElem?_cons_zero, List.getElem?_cons_succ, endQ, cfg_P, cfg_tab, cfg_muts, cfg_frz, ↓havoc_in, List.contains_cons, List.contains_nil, Bool.or_false, Bool.or_true, decide_true, decide_false, Option.some.injEq, exists_eq_left', tabOf_cons, tab_v, List.append_nil, Nat.reduceAdd, Nat.lt_succ_self, Bool.not_false, Int.reduceLT, DRx_bool, ↓ev_tmp, ↓ev_int, ↓ev_func, ↓guardP_eq, grd_some, ↓iop_move, ↓iop_assign, ↓pick3_bool, ↓iop_pick, ↓iop_binOp, ↓iop_callv, nrmAll_nil, b_eql, b_lss, ires_eq, iresL_1, iresAll_nil, iresAll_cons, iresOne_tmp, valT_eq, pursL_nil, ↓reduceIte, callP_eq, tsOf_eq, ↓evs_nil, beq_self_eq_true, and_false, Bool.true_eq_false, Int.cast_ofNat_Int, s_sanity, nth_psts, pur_psts, nth_tars, pur_tars, nth_snds, pur_snds, nth_uses, pur_uses, nth_rsts, pur_rsts, nth_lnks, pur_lnks, Try.f6, h117, h18]
    have hwk := wrapN' (k := k) (by omega)
    have hlti : (k : Int) < 40 := by omega
    have hb1 : specOf A_Balance R_Balance H_Balance [.agg [I 40, psts ps], I k, I 1000000] = some (.tuple [I (sumQ ps k), I 0]) := by
      rw [s_Balance, if_pos ⟨hbef _ ok, hacO k hlt⟩, of_all ok]
    have hb2 : specOf A_Balance R_Balance H_Balance [.agg [I 40, psts (ps ++ P)], I k, I 1000000] = some (.tuple [I (sumQ (ps ++ P) k), I 0]) := by
      rw [s_Balance, if_pos ⟨hbef _ ok2, hacO k hlt⟩, of_all ok2]
    have hs1 := sumQ_in (i := (k : Int)) hall
    have hs2 := sumQ_in (i := (k : Int)) hallP
    have hac := accS_in hall hln k
    have hac1 : accS (ps ++ P) (k + 1) = accS (ps ++ P) k + sumQ (ps ++ P) k := rfl
    have hsub : IntKind.i64.wrap (sumQ (ps ++ P) k - sumQ ps k) = sumQ P k := by
      rw [sumQ_app, wrap64 (by omega) (by omega)]; omega
    have hwacc : IntKind.i64.wrap (accS (ps ++ P) k + sumQ (ps ++ P) k) = accS (ps ++ P) (k + 1) := by
      rw [hac1]; exact wrap64 (by omega) (by omega)
    have hTot : ¬ a = 0 → specOf A_Totals R_Totals H_Totals [.agg [I 40, psts (ps ++ P)], I k, I tk, I (tk + 1)] = some (.tuple [ints (tbl 8 (gainK P k)), I 0]) := fun ha => by
      rw [s_Totals, if_pos]
      · unfold totL
        rw [tbl_ext fun w _ => gain_tot (w := w) ok2 (fun p hp => by have := hltle p hp; omega) fun p hp => (hP1 p hp).1]
      · exact ⟨⟨ok2, fun p hp => by
          rcases List.mem_append.1 hp with g | g
          · have := hltle p g; omega
          · have := (hP1 p g).1; omega⟩, hacO k hlt, by omega, by omega, by omega⟩
    have hpk : ∀ j, j < P.length → ¬ (P.getD j dP).1 = (P.getD j dP).2.1 ∧ 1 ≤ (P.getD j dP).2.2.2.2.1 ∧ (P.getD j dP).2.2.2.2.1 ≤ 7 := fun j hj => by
      have := book_mem ok2 (List.mem_append.2 (.inr (at_in hj)))
      unfold rngO at this
      exact ⟨this.1.2.2, this.2.2.2.1⟩
    have wtk : IntKind.i64.wrap (tk + 1) = tk + 1 := wrap64 (by omega) (by omega)
    clear hac1
    generalize accS (ps ++ P) (k + 1) = acc2 at *
    generalize accS (ps ++ P) k = acc1 at *
    generalize sumQ (ps ++ P) k = sq2 at *
    generalize sumQ ps k = sq1 at *
    generalize ps ++ P = BP at *
    have m0 : ¬ 0 = M := by omega
    have m1 : ¬ 1 = M := by omega
    have m2 : ¬ M = 0 := by omega
    have m3 : ¬ M = 1 := by omega
    have hz8 : [I 0, I 0, I 0, I 0, I 0, I 0, I 0, I 0] = (tbl 8 (gainK [] k)).map (PV.int .i64) := rfl
    have hz0 : sumQ [] (k : Int) = 0 := rfl
    simp +contextual (maxSteps := 4000000) only [↓ur_skip, ↓ur_seq, ↓ur_block, ↓ur_region, ↓ur_cond, ↓cont_seq, ↓ops_consN, nY_move, nY_assign, nY_alloc, nY_load, nY_binOp, nilO_int, nY_extract, nY_callf, nY_callb, ↓ops_nil, opsIf_some, condC_true, Option.map_some, Option.bind_some, Option.getD_some, Nat.reduceLT, Bool.false_eq_true, ↓upd_same, ↓upd_ne, Nat.reduceBEq, true_and, and_true, List.getElem?_cons_zero, List.getElem?_cons_succ, cfg_P, cfg_tab, cfg_muts, cfg_frz, cfg_num, numOf_eq, List.length_map, ↓havoc_in, ↓havoc_out, List.contains_cons, List.contains_nil, Bool.or_false, Bool.or_true, decide_true, List.lookup_cons, List.lookup_nil, tabOf_cons, tab_v, Bool.and_self, Nat.reduceEqDiff, List.nil_append, List.append_nil, List.length_cons, List.length_nil, Nat.zero_add, List.drop_zero, Nat.reduceAdd, nth_zero, Bool.not_false, Nat.le_refl, pur_int, pur_lits, cells_agg, pur_agg, ↓ev_tmp, ↓ev_int, ↓ev_func, ↓iop_move, ↓iop_assign, ↓iop_alloc, ↓iop_load, ↓iop_binOp, ↓iop_extract, extr_tuple, ↓iop_callv, ↓iop_callb, nrmAll_cons, nrmAll_nil, bi_len, lenM_none, nrm_agg, nrmL_cons, nrmL_nil, nrm_int, nrm1_int, nrm1_lits, pickP_t, loadP_ptr, lenP_lits, b_lss, valT_eq, pursL_cons, pursL_nil, Store.new, ↓reduceIte, arr_eq, arrB_some, callP_eq, tsOf_eq, List.take_succ_cons, List.take_nil, ↓evs_cons, ↓evs_nil, beq_self_eq_true, see_eq, and_false, Bool.true_eq_false, nth_psts, pur_psts, nth_tars, pur_tars, nth_snds, pur_snds, nth_uses, pur_uses, nth_rsts, pur_rsts, nth_lnks, pur_lnks, Try.f6, ty3, ty40, ty64, ty74, h117, h18, hlti, r4, r5, r11, r12, r15, o0, o1, m0, m1, m2, m3, hb1, hb2]
    refine loop_cnt [25, 27, 134, 135, 136, 137, 138, 139, 140, 141, 142, 143, 144, 145, 146, 147, 148, 149, 150, 151, 152, 153, 154, 155, 156, 157, 158, 159, 160, 161, 162, 163, 164, 165, 166, 167, 168, 169, 170] P.length (fun j ρ st' => ρ 134 = I j ∧ ρ 25 = I (sumQ (P.take j) k) ∧ st'.obj 0 = some (.arr 0 2 [.agg [I 40, psts ps]]) ∧ st'.obj 1 = some (.arr 0 2 [.agg [I 40, psts BP]]) ∧ st'.obj M = some (.arr 0 8 [.agg ((tbl 8 (gainK (P.take j) k)).map (PV.int .i64))]) ∧ M < st'.next) (.refl _) ?_ ?_
    · simp +contextual (maxSteps := 4000000) only [↓upd_same, ↓upd_ne, Nat.reduceBEq, true_and, and_true, Option.some.injEq, PV.agg.injEq, List.cons.injEq, updO_same, updO_ne, List.take_zero, IObj.arr.injEq, Nat.lt_succ_self, not_false_eq_true, beq_eq_false_iff_ne, ne_eq, Int.cast_ofNat_Int, nth_psts, pur_psts, nth_tars, pur_tars, nth_snds, pur_snds, nth_uses, pur_uses, nth_rsts, pur_rsts, nth_lnks, pur_lnks, Try.f6, o0, o1, m0, m1, m2, m3, hz0]
      exact hz8
    rintro j ρ2 ⟨ob2, M2⟩ hj ⟨h134, h25, p0, p1, pM, hM2⟩
    dsimp only at p0 p1 pM hM2
    have q0 : ¬ 0 = M2 := by omega
    have q1 : ¬ 1 = M2 := by omega
    have q2 : ¬ M2 = 0 := by omega
    have q3 : ¬ M2 = 1 := by omega
    have q4 : ¬ M = M2 := by omega
    have q5 : ¬ M2 = M := by omega
    by_cases hjl : j < P.length
    · have hwj := wrapN' (k := j) (by omega)
      have hst := sumQ_step (i := (k : Int)) hjl
      have htk : P.take (j + 1) = P.take j ++ [P.getD j dP] := by
        rw [List.take_succ_eq_append_getElem hjl]; simp [hjl]
      have hgs := fun w => gain_app (P := P.take j) (x := P.getD j dP) (a := (k : Int)) (w := w)
      rw [← htk] at hgs
      have hgi := fun w => gain_in (a := (k : Int)) (w := w) (ps := P.take j) fun p hp => hallP p (List.mem_of_mem_take hp)
      have hsi := sumQ_in (i := (k : Int)) (ps := P.take j) fun p hp => hallP p (List.mem_of_mem_take hp)
      have hlj : (P.take j).length ≤ 200 := by rw [List.length_take]; omega
      obtain ⟨hne, hy1, hy7⟩ := hpk j hjl
      have ham := hallP _ (at_in hjl)
      generalize hx : P.getD j dP = x at *
      have hu8 : x.2.2.2.2.1.toNat < 8 := by omega
      have hu := Int.toNat_of_nonneg (show 0 ≤ x.2.2.2.2.1 by omega)
      generalize hun : x.2.2.2.2.1.toNat = u at *
      have hgu := hgi u
      have hTg : (tbl 8 (gainK (P.take j) k)).getD u 0 = gainK (P.take j) k u := tbl_at hu8
      have hTl : (tbl 8 (gainK (P.take j) k)).length = 8 := tbl_len
      have hT2 : ∀ d, gotQ x k = d → (tbl 8 (gainK (P.take j) k)).set u ((tbl 8 (gainK (P.take j) k)).getD u 0 + d) = tbl 8 (gainK (P.take (j + 1)) k) := fun d hd => by
        rw [hTg, tbl_set]
        refine tbl_ext fun i hi => ?_
        rw [hgs i, hd, ← hu]
        by_cases c : i = u
        · subst c; rw [if_pos rfl, if_pos rfl]
        · rw [if_neg c, if_neg (by omega)]; omega
      rw [← hTg] at hgu
      clear hgs hgi hTg
      have hT3 : gotQ x k = 0 → tbl 8 (gainK (P.take (j + 1)) k) = tbl 8 (gainK (P.take j) k) := fun h => by
        rw [← hT2 0 h, Int.add_zero]
        apply List.ext_getElem
        · simp
        · intro i h1 h2
          rw [List.getElem_set]
          split
          · rename_i e; subst e; simp [h2]
          · rfl
      generalize tbl 8 (gainK (P.take (j + 1)) k) = T2 at *
      generalize tbl 8 (gainK (P.take j) k) = T at *
      generalize sumQ (P.take (j + 1)) k = sj2 at *
      generalize sumQ (P.take j) k = sj at *
      have hui : (u : Int) < 8 := by omega
      have un0 : ¬ (u : Int) < 0 := by omega
      have un1 : ¬ 8 ≤ (u : Int) := by omega
      have hg1 := get_int8 (l := T) (k := u) (by omega)
      by_cases d1 : x.1 = (k : Int)
      · have d2 : ¬ x.2.1 = (k : Int) := fun h => hne (by rw [d1, h])
        have hgq : gotQ x k = x.2.2.1 := by unfold gotQ; rw [if_pos d1, if_neg d2]; omega
        rw [hgq] at hst
        have hT2 := hT2 _ hgq
        have w1 : IntKind.i64.wrap (T.getD u 0 + x.2.2.1) = T.getD u 0 + x.2.2.1 := wrap64 (by omega) (by omega)
        have w2 : IntKind.i64.wrap (sj + x.2.2.1) = sj2 := by rw [hst]; exact wrap64 (by omega) (by omega)
        have sp1 := spl_int8 (l := T) (o := u) (v := T.getD u 0 + x.2.2.1) (by omega)
        rw [hT2] at sp1
        simp +contextual (maxSteps := 4000000) only [↓ur_skip, ↓ur_seq, ↓ur_block, ↓ur_region, ↓ur_cond, ↓cont_seq, ↓cont_blk, ↓cont_lp, ↓ops_consN, nY_move, nY_assign, nY_alloc, nY_load, nY_store, nY_binOp, nilO_tmp, nilO_int, nY_fieldAddr, nY_indexAddr, ↓ops_nil, opsIf_some, opsIf_none, opsIf_if, map_if, condC_true, condC_false, Option.map_some, Option.map_none, Option.bind_some, Option.getD_some, Nat.reduceLT, Bool.false_eq_true, ↓upd_same, ↓upd_ne, Nat.reduceBEq, true_and, and_true, List.getElem?_cons_zero, List.getElem?_cons_succ, cfg_P, cfg_frz, cfg_num, numOf_eq, List.length_map, ↓havoc_in, ↓havoc_out, agree_upd, agree_havoc, List.contains_cons, List.contains_nil, Bool.or_false, Bool.or_true, Int.natCast_nonneg, Int.ofNat_lt, Int.toNat_natCast, decide_true, decide_false, List.nil_append, List.append_nil, updO_same, updO_ne, List.length_cons, List.length_nil, Nat.zero_add, Nat.add_zero, List.drop_zero, List.take_zero, Nat.reduceAdd, List.set_cons_zero, Nat.reduceLeDiff, nth_zero, Nat.lt_succ_self, Bool.not_false, not_false_eq_true, Nat.le_refl, cells_int, cells_agg, ↓ev_tmp, ↓ev_int, ↓iop_move, ↓iop_assign, ↓iop_alloc, ↓iop_load, ↓iop_store, ↓iop_binOp, ↓iop_fieldAddr, ↓iop_indexAddr, idxA_int, pickP_f, pickP_t, loadP_vptr, loadP_ptr, setCells_agg, storeP_ptr, fieldP_ptr, indexP_lits, indexP_ptr, b_add, b_eql, b_lss, splice_eq, Store.new, Store.set, ↓reduceIte, arr_eq, arrB_some, beq_eq_false_iff_ne, ne_eq, List.take_succ_cons, List.drop_succ_cons, List.drop_nil, List.take_nil, beq_self_eq_true, see_eq, Int.cast_ofNat_Int, nth_psts, pur_psts, nth_tars, pur_tars, nth_snds, pur_snds, nth_uses, pur_uses, nth_rsts, pur_rsts, nth_lnks, pur_lnks, Try.f6, ty3, ty40, ty54, ty74, h134, h25, hjl, hx, p0, p1, pM, q0, q1, q2, q3, q4, q5, d1, d2, ← hu, hu8, hui, un0, un1, hg1, w1, w2, sp1, hTl, hwj, Nat.mul_one, m0, m1, m2, m3]
        omega
      · by_cases d2 : x.2.1 = (k : Int)
        · have hgq : gotQ x k = -x.2.2.1 := by unfold gotQ; rw [if_neg d1, if_pos d2]; omega
          rw [hgq] at hst
          have hT2 := hT2 _ hgq
          have w1 : IntKind.i64.wrap (T.getD u 0 - x.2.2.1) = T.getD u 0 + -x.2.2.1 := by rw [wrap64 (by omega) (by omega)]; omega
          have w2 : IntKind.i64.wrap (sj - x.2.2.1) = sj2 := by rw [hst, wrap64 (by omega) (by omega)]; omega
          have sp1 := spl_int8 (l := T) (o := u) (v := T.getD u 0 + -x.2.2.1) (by omega)
          rw [hT2] at sp1
          simp +contextual (maxSteps := 4000000) only [↓ur_skip, ↓ur_seq, ↓ur_block, ↓ur_region, ↓ur_cond, ↓cont_seq, ↓cont_blk, ↓cont_lp, ↓ops_consN, nY_move, nY_assign, nY_alloc, nY_load, nY_store, nY_binOp, nilO_tmp, nilO_int, nY_fieldAddr, nY_indexAddr, ↓ops_nil, opsIf_some, opsIf_none, opsIf_if, map_if, condC_true, condC_false, Option.map_some, Option.map_none, Option.bind_some, Option.getD_some, Nat.reduceLT, Bool.false_eq_true, ↓upd_same, ↓upd_ne, Nat.reduceBEq, true_and, and_true, List.getElem?_cons_zero, List.getElem?_cons_succ, cfg_P, cfg_frz, cfg_num, numOf_eq, List.length_map, ↓havoc_in, ↓havoc_out, agree_upd, agree_havoc, List.contains_cons, List.contains_nil, Bool.or_false, Bool.or_true, Int.natCast_nonneg, Int.ofNat_lt, Int.toNat_natCast, decide_true, decide_false, List.nil_append, List.append_nil, updO_same, updO_ne, List.length_cons, List.length_nil, Nat.zero_add, Nat.add_zero, List.drop_zero, List.take_zero, Nat.reduceAdd, List.set_cons_zero, Nat.reduceLeDiff, nth_zero, Nat.lt_succ_self, Bool.not_false, not_false_eq_true, Nat.le_refl, cells_int, cells_agg, ↓ev_tmp, ↓ev_int, ↓iop_move, ↓iop_assign, ↓iop_alloc, ↓iop_load, ↓iop_store, ↓iop_binOp, ↓iop_fieldAddr, ↓iop_indexAddr, idxA_int, pickP_f, pickP_t, loadP_vptr, loadP_ptr, setCells_agg, storeP_ptr, fieldP_ptr, indexP_lits, indexP_ptr, b_add, b_sub, b_eql, b_lss, splice_eq, Store.new, Store.set, ↓reduceIte, arr_eq, arrB_some, beq_eq_false_iff_ne, ne_eq, List.take_succ_cons, List.drop_succ_cons, List.drop_nil, List.take_nil, beq_self_eq_true, see_eq, Int.cast_ofNat_Int, nth_psts, pur_psts, nth_tars, pur_tars, nth_snds, pur_snds, nth_uses, pur_uses, nth_rsts, pur_rsts, nth_lnks, pur_lnks, Try.f6, ty3, ty40, ty54, ty74, h134, h25, hjl, hx, p0, p1, pM, q0, q1, q2, q3, q4, q5, d1, d2, ← hu, hu8, hui, un0, un1, hg1, w1, w2, sp1, hTl, hwj, Nat.mul_one, m0, m1, m2, m3]
          omega
        · have hgq : gotQ x k = 0 := by unfold gotQ; rw [if_neg d1, if_neg d2]; rfl
          rw [hgq, Int.add_zero] at hst
          have hT3 := hT3 hgq
          subst hst hT3
          simp +contextual (maxSteps := 4000000) only [↓ur_skip, ↓ur_seq, ↓ur_block, ↓ur_region, ↓ur_cond, ↓cont_seq, ↓cont_blk, ↓cont_lp, ↓ops_consN, nY_move, nY_alloc, nY_load, nY_store, nY_binOp, nilO_tmp, nilO_int, nY_fieldAddr, nY_indexAddr, ↓ops_nil, opsIf_some, opsIf_none, condC_true, condC_false, Option.map_some, Option.bind_some, Option.getD_some, Nat.reduceLT, Bool.false_eq_true, ↓upd_same, ↓upd_ne, Nat.reduceBEq, true_and, and_true, List.getElem?_cons_zero, List.getElem?_cons_succ, cfg_P, cfg_frz, cfg_num, numOf_eq, List.length_map, ↓havoc_in, ↓havoc_out, agree_upd, agree_havoc, List.contains_cons, List.contains_nil, Bool.or_false, Bool.or_true, Int.natCast_nonneg, Int.ofNat_lt, Int.toNat_natCast, decide_true, decide_false, List.nil_append, List.append_nil, updO_same, updO_ne, List.length_cons, List.length_nil, Nat.zero_add, Nat.add_zero, List.drop_zero, List.take_zero, Nat.reduceAdd, List.set_cons_zero, nth_zero, Nat.lt_succ_self, Bool.not_false, not_false_eq_true, Nat.le_refl, cells_agg, ↓ev_tmp, ↓ev_int, ↓iop_move, ↓iop_alloc, ↓iop_load, ↓iop_store, ↓iop_binOp, ↓iop_fieldAddr, ↓iop_indexAddr, idxA_int, pickP_f, pickP_t, loadP_vptr, loadP_ptr, setCells_agg, storeP_ptr, fieldP_ptr, indexP_lits, b_add, b_eql, b_lss, splice_eq, Store.new, Store.set, ↓reduceIte, arr_eq, arrB_some, beq_eq_false_iff_ne, ne_eq, List.take_succ_cons, List.drop_succ_cons, List.drop_nil, List.take_nil, beq_self_eq_true, see_eq, nth_psts, pur_psts, nth_tars, pur_tars, nth_snds, pur_snds, nth_uses, pur_uses, nth_rsts, pur_rsts, nth_lnks, pur_lnks, Try.f6, ty3, ty40, ty54, h134, h25, hjl, hx, p0, p1, pM, q0, q1, q2, q3, q4, q5, d1, d2, hwj]
          omega
    have e : j = P.length := by omega
    subst e
    rw [List.take_length] at h25 pM
    have hTl : (tbl 8 (gainK P k)).length = 8 := tbl_len
    generalize tbl 8 (gainK P k) = T at *
    by_cases ha : a = 0
    · simp +contextual (maxSteps := 4000000) only [↓ur_skip, ↓ur_seq, ↓ur_exit, ↓ur_region, ↓ur_cond, ↓cont_seq, ↓cont_lp, ↓leave_seq, ↓leave_blk, ↓leave_lp, ↓ops_consN, ↓ops_guardN, nY_move, nY_assign, nY_pick, nY_binOp, nilO_tmp, nilO_int, ↓ops_nil, opsIf_some, condC_true, condC_false, guardC_ff, Option.map_some, Option.bind_some, Nat.reduceLT, Bool.false_eq_true, ↓upd_same, ↓upd_ne, Nat.reduceBEq, true_and, List.getElem?_toArray, List.getElem?_cons_zero, List.getElem?_cons_succ, cfg_P, ↓havoc_in, ↓havoc_out, agree_upd, List.contains_cons, List.contains_nil, Bool.or_false, Bool.or_true, Int.ofNat_lt, decide_true, decide_false, Nat.lt_irrefl, Bool.not_false, not_true_eq_false, ↓ev_tmp, ↓ev_int, ↓guardP_eq, grd_some, ↓iop_move, ↓iop_assign, ↓pick3_bool, ↓iop_pick, ↓iop_binOp, b_add, b_sub, b_eql, b_neq, b_lss, ↓reduceIte, beq_self_eq_true, nth_psts, pur_psts, nth_tars, pur_tars, nth_snds, pur_snds, nth_uses, pur_uses, nth_rsts, pur_rsts, nth_lnks, pur_lnks, Try.f6, h134, h25, h18, h117, r4, p0, p1, hsub, hwacc, ha, hwk]
      refine ⟨hlt, ?_, by omega⟩
      rw [agree_havoc_sub (by decide +kernel)]; simp +contextual (maxSteps := 4000000) only [Nat.reduceBEq, agree_upd, agree_havoc, List.contains_cons, List.contains_nil, Bool.or_false, Bool.or_true, beq_self_eq_true, nth_psts, pur_psts, nth_tars, pur_tars, nth_snds, pur_snds, nth_uses, pur_uses, nth_rsts, pur_rsts, nth_lnks, pur_lnks, Try.f6]
    have hTot := hTot ha
    simp +contextual (maxSteps := 4000000) only [↓ur_skip, ↓ur_seq, ↓ur_block, ↓ur_exit, ↓ur_region, ↓ur_cond, ↓cont_seq, ↓leave_seq, ↓leave_blk, ↓leave_lp, ↓ops_consN, ↓ops_guardN, nY_move, nY_assign, nY_pick, nY_load, nY_binOp, nilO_tmp, nilO_int, nY_extract, nY_callf, nY_callb, ↓ops_nil, opsIf_some, condC_false, guardC_ff, Option.map_some, Option.bind_some, Option.getD_some, Nat.reduceLT, Bool.false_eq_true, ↓upd_same, ↓upd_ne, Nat.reduceBEq, true_and, List.getElem?_toArray, List.getElem?_cons_zero, List.getElem?_cons_succ, cfg_P, cfg_tab, cfg_muts, cfg_frz, List.length_map, ↓havoc_in, ↓havoc_out, List.contains_cons, List.contains_nil, Bool.or_false, Bool.or_true, Int.ofNat_lt, decide_false, List.lookup_cons, List.lookup_nil, tabOf_cons, tab_v, Bool.and_self, Nat.reduceEqDiff, List.nil_append, List.append_nil, List.length_cons, List.length_nil, Nat.zero_add, List.drop_zero, Nat.reduceAdd, nth_zero, Nat.lt_irrefl, Nat.lt_succ_self, Bool.not_false, not_true_eq_false, Nat.le_refl, pur_int, pur_lits, cells_agg, pur_agg, ↓ev_tmp, ↓ev_int, ↓ev_func, ↓guardP_eq, grd_some, ↓iop_move, ↓iop_assign, ↓pick3_bool, ↓iop_pick, ↓iop_load, ↓iop_binOp, ↓iop_extract, extr_tuple, ↓iop_callv, ↓iop_callb, nrmAll_cons, nrmAll_nil, bi_len, lenM_none, nrm_agg, nrmL_cons, nrmL_nil, nrm_int, nrm1_int, nrm1_lits, pickP_t, loadP_ptr, lenP_lits, b_add, b_sub, b_eql, b_neq, b_lss, valT_eq, pursL_cons, pursL_nil, ↓reduceIte, arr_eq, arrB_some, callP_eq, tsOf_eq, List.take_succ_cons, List.take_nil, ↓evs_cons, ↓evs_nil, beq_self_eq_true, see_eq, and_false, Bool.true_eq_false, Int.cast_ofNat_Int, nth_psts, pur_psts, nth_tars, pur_tars, nth_snds, pur_snds, nth_uses, pur_uses, nth_rsts, pur_rsts, nth_lnks, pur_lnks, Try.f6, ty3, ty64, ty75, h134, h25, h18, h117, r4, r11, r15, p0, p1, hsub, hwacc, ha, wtk, hTot, hTl]
    refine loop_cnt [10, 30, 205, 206, 207, 208, 209, 210, 211, 212, 213, 214, 215, 216] 8 (fun w ρ st' => ρ 205 = I w ∧ st'.obj 0 = some (.arr 0 2 [.agg [I 40, psts ps]]) ∧ st'.obj 1 = some (.arr 0 2 [.agg [I 40, psts BP]]) ∧ st'.obj M = some (.arr 0 8 [.agg (T.map (PV.int .i64))]) ∧ M < st'.next) (.refl _) ?_ ?_
    · simp +contextual (maxSteps := 4000000) only [↓upd_same, true_and, Int.cast_ofNat_Int, nth_psts, pur_psts, nth_tars, pur_tars, nth_snds, pur_snds, nth_uses, pur_uses, nth_rsts, pur_rsts, nth_lnks, pur_lnks, Try.f6]
      exact ⟨p0, p1, pM, hM2⟩
    rintro w ρ3 ⟨ob3, M3⟩ hw ⟨h205, s0, s1, sM, hM3⟩
    dsimp only at s0 s1 sM hM3
    by_cases hw8 : w < 8
    · have hww := wrapN' (k := w) (by omega)
      have hwi : (w : Int) < 8 := by omega
      have un0 : ¬ (w : Int) < 0 := by omega
      have un1 : ¬ 8 ≤ (w : Int) := by omega
      have hg1 := get_int8 (l := T) (k := w) (by omega)
      simp +contextual (maxSteps := 4000000) only [↓ur_skip, ↓ur_seq, ↓ur_block, ↓ur_region, ↓ur_cond, ↓cont_seq, ↓cont_blk, ↓cont_lp, ↓ops_consN, nY_move, nY_assign, nY_load, nY_binOp, nilO_tmp, nilO_int, nY_indexAddr, ↓ops_nil, opsIf_some, condC_true, condC_false, Option.map_some, Option.bind_some, Option.getD_some, Nat.reduceLT, Bool.false_eq_true, ↓upd_same, ↓upd_ne, Nat.reduceBEq, true_and, and_true, List.getElem?_cons_zero, cfg_P, cfg_frz, List.length_map, ↓havoc_in, ↓havoc_out, agree_upd, agree_havoc, List.contains_cons, List.contains_nil, Bool.or_false, Bool.or_true, Int.natCast_nonneg, Int.toNat_natCast, nth_int, decide_true, decide_false, Nat.zero_add, Nat.reduceAdd, nth_zero, Nat.lt_succ_self, Bool.not_false, not_true_eq_false, cells_int, cells_agg, ↓ev_tmp, ↓ev_int, ↓iop_move, ↓iop_assign, ↓iop_load, ↓iop_binOp, ↓iop_indexAddr, idxA_int, pickP_f, loadP_vptr, loadP_ptr, indexP_lits, indexP_ptr, b_add, b_neq, b_lss, ↓reduceIte, arr_eq, arrB_some, beq_self_eq_true, see_eq, Int.cast_ofNat_Int, nth_psts, pur_psts, nth_tars, pur_tars, nth_snds, pur_snds, nth_uses, pur_uses, nth_rsts, pur_rsts, nth_lnks, pur_lnks, Try.f6, ty3, ty74, ty75, h205, s0, s1, sM, hw8, hwi, un0, un1, hg1, hTl, hww, Nat.mul_one]
      exact hM3
    · have e : w = 8 := by omega
      subst e
      simp +contextual (maxSteps := 4000000) only [↓ur_seq, ↓ur_exit, ↓ur_region, ↓ur_cond, ↓cont_seq, ↓cont_blk, ↓cont_lp, ↓leave_seq, ↓leave_blk, ↓leave_lp, ↓ops_consN, nY_move, nY_binOp, nilO_int, ↓ops_nil, opsIf_some, condC_false, Option.map_some, Nat.reduceLT, ↓upd_same, ↓upd_ne, Nat.reduceBEq, true_and, cfg_P, ↓havoc_in, ↓havoc_out, agree_upd, List.contains_cons, List.contains_nil, Bool.or_false, Bool.or_true, decide_false, Bool.not_false, Int.reduceLT, ↓ev_tmp, ↓ev_int, ↓iop_move, ↓iop_binOp, b_add, b_lss, ↓reduceIte, beq_self_eq_true, Int.cast_ofNat_Int, nth_psts, pur_psts, nth_tars, pur_tars, nth_snds, pur_snds, nth_uses, pur_uses, nth_rsts, pur_rsts, nth_lnks, pur_lnks, Try.f6, h205, h117, s0, s1, hwk]
      refine ⟨hlt, ?_, by omega⟩
      rw [agree_havoc_sub (by decide +kernel)]; simp +contextual (maxSteps := 4000000) only [Nat.reduceBEq, agree_upd, List.contains_cons, List.contains_nil, Bool.or_false, Bool.or_true, beq_self_eq_true, nth_psts, pur_psts, nth_tars, pur_tars, nth_snds, pur_snds, nth_uses, pur_uses, nth_rsts, pur_rsts, nth_lnks, pur_lnks, Try.f6]
      rw [agree_havoc_sub (by decide +kernel)]; simp +contextual (maxSteps := 4000000) only [Nat.reduceBEq, agree_upd, agree_havoc, List.contains_cons, List.contains_nil, Bool.or_false, Bool.or_true, beq_self_eq_true, nth_psts, pur_psts, nth_tars, pur_tars, nth_snds, pur_snds, nth_uses, pur_uses, nth_rsts, pur_rsts, nth_lnks, pur_lnks, Try.f6]
end Sim
