/- What functions of this seat compute, by values: contracts (lemmas of the statement's proof, under the conditions that each names). -/
import Derived.Test.YtpdaiflnibekaaaQX
import Derived.Test.YtpdaiflnibekaaaQY5
namespace Sim
open Go Go.Proofs
set_option maxRecDepth 10000
set_option maxHeartbeats 2000000
set_option linter.unusedVariables false
set_option linter.unusedSimpArgs false
attribute [local congr] opsIf_congr condC_congr guardC_congr grd_congr pick3_congr obind_congr omap_congr
abbrev Mr := Int × Int × Int
abbrev dM : Mr := (0, 0, 0)
abbrev moreV (m : Mr) : PV := .agg [.int .u16 m.1, .int .u16 m.2.1, .int .u16 m.2.2]
abbrev mores (l : List Mr) : PV := .lits 3 (l.map moreV)
theorem nth_more {l : List Mr} {k : Nat} (h : k < l.length) : nth (l.map moreV) k = .agg [.int .u16 (l.getD k dM).1, .int .u16 (l.getD k dM).2.1, .int .u16 (l.getD k dM).2.2] := nth_mapD dM h
theorem pur_more {l : List Mr} : pursL (l.map moreV) = true := pur_map fun x => by simp [pur_agg, pursL_cons, pur_int, pursL_nil]
def dRep (r : Rep) (m : Mr) : Rep := (r.1, (if r.2.1 + m.1 < 1000000 then r.2.1 + m.1 else 1000000), (if 0 < r.2.2.1 - m.2.1 then r.2.2.1 - m.2.1 else 0), ((r.2.2.2.toNat &&& m.2.2.toNat : Nat) : Int))
def drT (rs : List Rep) (ms : List Mr) : Nat → List Rep
  | 0 => []
  | k + 1 => drT rs ms k ++ [dRep (rs.getD k dR) (ms.getD k dM)]
theorem drT_len {rs : List Rep} {ms : List Mr} : ∀ k, (drT rs ms k).length = k
  | 0 => rfl
  | k + 1 => by simp [drT, drT_len k]
def inM (m : Mr) : Prop := (0 ≤ m.1 ∧ m.1 < 65536) ∧ (0 ≤ m.2.1 ∧ m.2.1 < 65536) ∧ (0 ≤ m.2.2 ∧ m.2.2 < 65536)
theorem drT_rel {st : Int} {rs : List Rep} {ms : List Mr} (hc : OKc st rs) (hm : ∀ m ∈ ms, inM m) (hl : rs.length ≤ ms.length) : ∀ k, k ≤ rs.length → RelL (rs.take k) (drT rs ms k)
  | 0, _ => ⟨by simp [drT], fun k hk => by simp at hk⟩
  | k + 1, hk => by
    rw [take_succ_getD dR (by omega)]
    refine rel_app (drT_rel hc hm hl k (by omega)) ?_
    obtain ⟨⟨h1, h2, h3⟩, _⟩ := hc.rep k (by omega)
    obtain ⟨g1, g2, g3⟩ := hm _ (getD_mem dM (show k < ms.length by omega))
    refine ⟨rfl, ?_, ?_, ?_⟩
    · simp only [dRep]; split <;> omega
    · simp only [dRep]; split <;> omega
    · simp only [dRep]
      refine ⟨by omega, ?_⟩
      rw [Int.toNat_natCast]
      exact sub_iff.2 fun i hi => by rw [Nat.testBit_and, Bool.and_eq_true] at hi; exact hi.1
theorem c_law14 (st : Int) (rs : List Rep) (ms : List Mr) (hms : ∀ m ∈ ms, inM m) : VC Try.prog 10 [.agg [I st, reps rs], mores ms] (B true) := by
  refine vc_ofU mixed (l := [e_sanity, e_rcheck, e_Best, e_Cost, e_Give, e_chance]) ((eok_cons o_sanity (eok_cons o_rcheck (eok_cons o_Best (eok_cons o_Cost (eok_cons o_Give (eok_cons o_chance eok_nil))))))) [] [89, 100089]  Try.func10 rfl (by decide +kernel) (N := 149) rfl (by simp) rfl (by kernel_rfl) fun hs => ?_
  simp only [smallL, PV.small, List.length_map, and_true, true_and] at hs
  by_cases h0 : checkM st rs = 0
  case neg =>
    generalize hr : checkM st rs = r at *
    simp +contextual (maxSteps := 4000000) only [↓ur_seq, ↓ur_ret, ↓ur_region, ↓ur_cond, ↓cont_seq, ↓done_nil, ↓done_seq, ↓ops_consN, ↓ops_guardN, nY_move, nY_assign, nY_pick, nY_box, nY_load, nY_binOp, nY_fieldAddr, nY_callf, nY_callb, ↓ops_nil, opsIf_some, condC_true, guardC_tf, Option.map_some, Option.bind_some, Option.getD_some, Nat.reduceLT, Bool.false_eq_true, ↓upd_same, ↓upd_ne, Nat.reduceBEq, and_true, List.getD_cons_zero, List.getElem?_toArray, List.getElem?_cons_zero, List.getElem?_cons_succ, endQ, cfg_P, cfg_tab, cfg_muts, cfg_frz, List.contains_cons, List.contains_nil, Bool.or_false, decide_true, Option.some.injEq, exists_eq_left', List.lookup_cons, List.lookup_nil, tabOf_cons, tab_v, Bool.and_self, Nat.reduceEqDiff, List.nil_append, List.append_nil, List.length_cons, List.length_nil, Nat.zero_add, List.drop_zero, Nat.reduceAdd, not_false_eq_true, st0, Nat.le_refl, pur_int, pur_lits, cells_agg, pur_agg, DRx_bool, ↓ev_tmp, ↓ev_int, ↓ev_bool, ↓ev_func, ↓guardP_eq, grd_some, ↓iop_move, ↓iop_assign, ↓pick3_bool, ↓iop_pick, ↓iop_box, ↓iop_load, ↓iop_binOp, ↓iop_callv, nrmAll_cons, nrmAll_nil, nrm_agg, nrmL_cons, nrmL_nil, nrm1_int, nrm1_lits, pickP_t, loadP_vptr, b_neq, env0_eq, ires_eq, iresL_1, iresAll_nil, iresAll_cons, iresOne_tmp, valT_eq, pursL_cons, pursL_nil, ↓reduceIte, callP_eq, boxP_eq, List.take_succ_cons, List.take_nil, ↓evs_cons, ↓evs_nil, beq_self_eq_true, see_eq, and_false, Bool.true_eq_false, e_sanity, s_sanity, e_rcheck, s_rcheck, e_Best, e_Cost, e_Give, e_chance, nth_reps, pur_reps, Try.f10, ty24, h0, hr]
  by_cases h1 : (ms.length : Int) < rs.length
  · simp +contextual (maxSteps := 4000000) only [↓ur_seq, ↓ur_ret, ↓ur_region, ↓ur_cond, ↓cont_seq, ↓done_nil, ↓done_seq, ↓ops_consN, ↓ops_guardN, nY_move, nY_assign, nY_pick, nY_box, nY_load, nY_binOp, nY_fieldAddr, nY_callf, nY_callb, ↓ops_nil, opsIf_some, condC_true, guardC_ff, Option.map_some, Option.bind_some, Option.getD_some, Nat.reduceLT, Bool.false_eq_true, ↓upd_same, ↓upd_ne, Nat.reduceBEq, and_true, List.getD_cons_zero, List.getD_cons_succ, List.getElem?_toArray, List.getElem?_cons_zero, List.getElem?_cons_succ, endQ, cfg_P, cfg_tab, cfg_muts, cfg_frz, List.length_map, List.contains_cons, List.contains_nil, Bool.or_false, decide_true, decide_false, Option.some.injEq, exists_eq_left', List.lookup_cons, List.lookup_nil, tabOf_cons, tab_v, Bool.and_self, Nat.reduceEqDiff, List.nil_append, List.append_nil, List.length_cons, List.length_nil, Nat.zero_add, List.drop_zero, Nat.reduceAdd, Nat.lt_succ_self, not_true_eq_false, st0, Nat.le_refl, pur_int, pur_lits, cells_agg, pur_agg, DRx_bool, ↓ev_tmp, ↓ev_int, ↓ev_bool, ↓ev_func, ↓guardP_eq, grd_some, ↓iop_move, ↓iop_assign, ↓pick3_bool, ↓iop_pick, ↓iop_box, ↓iop_load, ↓iop_binOp, ↓iop_fieldAddr, ↓iop_callv, ↓iop_callb, nrmAll_cons, nrmAll_nil, bi_len, lenM_none, nrm_agg, nrmL_cons, nrmL_nil, nrm1_int, nrm1_lits, pickP_f, pickP_t, loadP_vptr, fieldP_vptr, lenP_lits, b_neq, b_lss, env0_eq, ires_eq, iresL_1, iresAll_nil, iresAll_cons, iresOne_tmp, valT_eq, pursL_cons, pursL_nil, ↓reduceIte, callP_eq, boxP_eq, List.take_succ_cons, List.take_nil, ↓evs_cons, ↓evs_nil, beq_self_eq_true, see_eq, and_false, Bool.true_eq_false, e_sanity, s_sanity, e_rcheck, s_rcheck, e_Best, e_Cost, e_Give, e_chance, nth_reps, pur_reps, Try.f10, ty22, ty24, ty57, h0, h1]
  have hc := check_zero.1 h0
  have h10 := hc.len
  have hw : ∀ i : Nat, i < rs.length → IntKind.i64.wrap ((i : Int) + 1) = ((i + 1 : Nat) : Int) := fun i g => by rw [wrap64 (by omega) (by omega)]; omega
  simp +contextual (maxSteps := 4000000) only [↓ur_skip, ↓ur_seq, ↓ur_block, ↓ur_region, ↓ur_cond, ↓cont_seq, ↓ops_consN, ↓ops_guardN, nY_move, nY_assign, nY_pick, nY_alloc, nY_box, nY_build, nY_load, nY_store, nY_binOp, nY_fieldAddr, nY_callf, nY_callb, ↓ops_nil, opsIf_some, opsIf_none, condC_false, guardC_ff, Option.map_some, Option.bind_some, Option.getD_some, Nat.reduceLT, Bool.false_eq_true, ↓upd_same, ↓upd_ne, Nat.reduceBEq, true_and, and_true, List.getD_cons_zero, List.getD_cons_succ, List.getElem?_toArray, List.getElem?_cons_zero, List.getElem?_cons_succ, cfg_P, cfg_tab, cfg_muts, cfg_frz, cfg_num, numOf_eq, List.length_map, List.contains_cons, List.contains_nil, Bool.or_false, decide_false, List.lookup_cons, List.lookup_nil, tabOf_cons, tab_v, Bool.and_self, Nat.reduceEqDiff, List.cons_append, List.nil_append, List.append_nil, updO_same, List.length_cons, List.length_nil, Nat.zero_add, Nat.add_zero, List.drop_zero, List.take_zero, Nat.reduceAdd, List.set_cons_zero, Nat.reduceLeDiff, nth_zero, Nat.lt_succ_self, not_true_eq_false, st0, Nat.le_refl, cells_int, pur_int, pur_lits, cells_agg, pur_agg, ↓ev_tmp, ↓ev_int, ↓ev_bool, ↓ev_func, ↓guardP_eq, grd_some, ↓iop_move, ↓iop_assign, ↓pick3_bool, ↓iop_pick, ↓iop_alloc, ↓iop_box, ↓iop_build, ↓iop_load, ↓iop_store, ↓iop_binOp, ↓iop_fieldAddr, ↓iop_callv, ↓iop_callb, nrmAll_cons, nrmAll_nil, bi_len, lenM_none, nrm_agg, nrmL_cons, nrmL_nil, nrm1_int, nrm1_lits, pickP_f, pickP_t, loadP_vptr, setCells_agg, storeP_ptr, fieldP_vptr, lenP_lits, b_neq, b_lss, fill_nil, fill_cons, fill1_some, buildP_eq, bldA_none, splice_eq, env0_eq, valT_eq, pursL_cons, pursL_nil, Store.new, Store.set, ↓reduceIte, arr_eq, arrB_some, callP_eq, boxP_eq, List.take_succ_cons, List.drop_succ_cons, List.drop_nil, List.take_nil, ↓evs_cons, ↓evs_nil, ↓evp_cons, ↓evp_nil, beq_self_eq_true, see_eq, and_false, Bool.true_eq_false, e_sanity, e_rcheck, s_rcheck, e_Best, e_Cost, e_Give, e_chance, nth_reps, pur_reps, Try.f10, ty3, ty22, ty24, ty57, h0, h1]
  refine loop_cnt [6, 7, 38, 39, 40, 41, 42, 43, 44, 45, 46, 47, 48, 49, 50, 51, 52, 53, 54, 55, 56, 57, 58, 59, 60, 61, 62, 63, 64, 65, 66, 67, 68, 69, 70, 71, 72, 73, 74, 75, 76, 77, 78, 79, 80, 81] rs.length (fun k ρ st' => ρ 38 = I k ∧ (∃ p, st'.obj 0 = some (.arr 0 2 [.agg [I st, p]]) ∧ GS st' p 1 4 ((drT rs ms k).map repV)) ∧ 1 < st'.next) (.cell _ 0 0 2 4 [.agg [I st, .nils]] 0 1 ?_ ?_ ?_) ?_ ?_
  · simp +contextual (maxSteps := 4000000) only [updO_same, nth_reps, pur_reps, Try.f10]
  · rfl
  · decide
  · simp +contextual (maxSteps := 4000000) only [↓upd_same, Nat.reduceBEq, true_and, and_true, List.length_map, Option.some.injEq, exists_eq_left', PV.agg.injEq, List.cons.injEq, List.cons_append, List.nil_append, List.append_nil, GS_ref, updO_same, updO_ne, List.length_cons, List.length_nil, Nat.zero_add, List.take_zero, Nat.reduceAdd, List.set_cons_zero, nth_zero, IObj.arr.injEq, Nat.lt_succ_self, setCells_agg, splice_eq, Store.new, Store.set, List.take_succ_cons, List.drop_succ_cons, List.drop_nil, Int.cast_ofNat_Int, nth_reps, pur_reps, Try.f10]
    simp [drT]
  · rintro k ρ ⟨ob, M⟩ hk ⟨h38, ⟨p, ho, g, rfl, ho1⟩, hM⟩
    dsimp only at ho ho1 hM
    have n0 : ¬ 0 = M := by omega
    have n1 : ¬ 1 = M := by omega
    have m0 : ¬ M = 0 := by omega
    have m1 : ¬ M = 1 := by omega
    have hdl := drT_len (rs := rs) (ms := ms) k
    by_cases hlt : k < rs.length
    · have hkm : k < ms.length := by omega
      obtain ⟨q1, q2, q3⟩ := hms _ (getD_mem dM hkm)
      obtain ⟨⟨r1, r2, r3⟩, ra, rb, _⟩ := hc.rep k hlt
      have w1 : IntKind.i64.wrap (ms.getD k dM).1 = (ms.getD k dM).1 := wrap64 (by omega) (by omega)
      have w2 : IntKind.i64.wrap (ms.getD k dM).2.1 = (ms.getD k dM).2.1 := wrap64 (by omega) (by omega)
      have w3 : IntKind.i64.wrap (ms.getD k dM).2.2 = (ms.getD k dM).2.2 := wrap64 (by omega) (by omega)
      have w4 : IntKind.i64.wrap ((rs.getD k dR).2.1 + (ms.getD k dM).1) = (rs.getD k dR).2.1 + (ms.getD k dM).1 := wrap64 (by omega) (by omega)
      have w5 : IntKind.i64.wrap ((rs.getD k dR).2.2.1 - (ms.getD k dM).2.1) = (rs.getD k dR).2.2.1 - (ms.getD k dM).2.1 := wrap64 (by omega) (by omega)
      have hp := pow1024 (k := rs.length) h10
      have hand : andI (rs.getD k dR).2.2.2 (ms.getD k dM).2.2 = (((rs.getD k dR).2.2.2.toNat &&& (ms.getD k dM).2.2.toNat : Nat) : Int) := by
        have e1 : (rs.getD k dR).2.2.2 = ((ac rs k : Nat) : Int) := ra
        have e2 : (ms.getD k dM).2.2 = (((ms.getD k dM).2.2.toNat : Nat) : Int) := by omega
        have := andI_nat (a := ac rs k) (b := (ms.getD k dM).2.2.toNat) (by omega) (by omega)
        rw [← e1, ← e2] at this
        exact this
      simp +contextual (maxSteps := 4000000) only [↓ur_skip, ↓ur_seq, ↓ur_block, ↓ur_region, ↓ur_cond, ↓cont_seq, ↓cont_blk, ↓cont_lp, ↓ops_consN, nY_move, nY_assign, nY_alloc, nY_buildSlice, nY_load, nY_store, nY_binOp, nY_convert, nY_fieldAddr, nY_indexAddr, nY_callb, ↓ops_nil, opsIf_some, opsIf_none, opsIf_if, condC_true, Option.map_some, Option.bind_some, Option.getD_some, Nat.reduceLT, Bool.false_eq_true, ↓upd_same, ↓upd_ne, Nat.reduceBEq, true_and, and_true, List.getD_cons_zero, List.getD_cons_succ, List.getElem?_cons_zero, List.getElem?_cons_succ, cfg_P, cfg_muts, cfg_frz, cfg_num, numOf_eq, List.length_map, ↓havoc_in, ↓havoc_out, agree_upd, agree_havoc, List.contains_cons, List.contains_nil, Bool.or_false, Bool.or_true, Int.natCast_nonneg, Int.ofNat_lt, Int.toNat_natCast, decide_true, Option.some.injEq, exists_eq_left', PV.int.injEq, PV.agg.injEq, List.cons.injEq, List.cons_append, List.nil_append, List.append_nil, GS_ref, updO_same, updO_ne, List.length_cons, List.length_nil, Nat.zero_add, Nat.add_zero, List.drop_zero, List.take_zero, Nat.not_succ_le_self, Nat.reduceAdd, List.replicate_succ, List.replicate_zero, List.set_cons_zero, Nat.reduceMul, Nat.reduceLeDiff, nth_zero, IObj.arr.injEq, Nat.lt_succ_self, reduceCtorEq, not_false_eq_true, Int.reduceLT, Int.reduceLE, Int.reduceToNat, or_false, Nat.le_refl, cells_int, cells_ref, cells_agg, ↓ev_tmp, ↓ev_int, ↓iop_move, ↓iop_assign, ↓iop_alloc, ↓iop_buildSlice, ↓iop_load, ↓iop_store, ↓iop_binOp, ↓iop_convert, ↓iop_fieldAddr, ↓iop_indexAddr, idxA_int, ↓iop_callb, bi_append, bi_min, bi_max, pickP_f, pickP_t, loadP_vptr, loadP_ptr, setCells_agg, storeP_ptr, fieldP_ptr, indexP_lits, indexP_vptr, elemsP_lits, appendP_ref, b_add, b_sub, b_and, b_lss, cv_int, bel_nil, bel_cons, splice_eq, env0_eq, Store.new, Store.set, ↓reduceIte, arr_eq, arrB_some, bslP_eq, beq_eq_false_iff_ne, ne_eq, List.take_succ_cons, List.drop_succ_cons, List.drop_nil, List.take_nil, ↓evs_cons, ↓evs_nil, ↓evp_cons, ↓evp_nil, Int.le_refl, beq_self_eq_true, see_eq, Int.cast_ofNat_Int, nth_reps, pur_reps, Try.f10, ty3, ty22, ty24, ty56, ty57, ty58, ty59, h38, ho, ho1, hdl, n0, n1, m0, m1, hlt, hkm, nth_more, pur_more, w1, w2, w3, w4, w5, and_i64, hand]
      refine ⟨by omega, hw k hlt, ⟨by rw [drT_len], ?_⟩, by omega⟩
      rw [List.take_of_length_le (by simp [hdl])]
      simp [drT, dRep]
    · have e : k = rs.length := by omega
      subst e
      have hrel := drT_rel hc hms (by omega) rs.length (Nat.le_refl _)
      rw [List.take_of_length_le (Nat.le_refl _)] at hrel
      generalize drT rs ms rs.length = ds at *
      have htake : List.take rs.length (List.map repV ds) = List.map repV ds := List.take_of_length_le (by simp [hdl])
      have hcd := rel_ok hc hrel
      have hgm : giveM st rs = (((giveT st rs (2 ^ rs.length)).1 : Int), 0) := by simp [giveM, h0]
      have hgd : giveM st ds = (((giveT st ds (2 ^ ds.length)).1 : Int), 0) := by simp [giveM, check_zero.2 hcd]
      have hrg := rel_give hc hrel
      have hu := (give_ok hc).1
      have hud := (give_ok hcd).1
      have hp := pow1024 (k := rs.length) h10
      rw [hdl] at hud hgd hrg
      generalize (giveT st rs (2 ^ rs.length)).1 = gr at *
      generalize (giveT st ds (2 ^ rs.length)).1 = gd at *
      have hr2 : gr < 9223372036854775808 := by omega
      have hd2 : gd < 9223372036854775808 := by omega
      have hch := hc.ch
      have hchd := hcd.ch
      by_cases he : (bestM st rs).2 = 0
      · obtain ⟨v, hv, c1, c2⟩ := best_cost he
        obtain ⟨w, hw', hle⟩ := rel_V hc hrel hv
        have hed : (bestM st ds).2 = 0 := (best_err (check_zero.2 hcd)).1.2 (by rw [hw']; simp)
        obtain ⟨w2, hw2, d1, d2⟩ := best_cost hed
        rw [hw'] at hw2; cases hw2
        have hnlt : ¬ v < w := by omega
        simp +contextual (maxSteps := 4000000) only [↓ur_skip, ↓ur_seq, ↓ur_exit, ↓ur_ret, ↓ur_region, ↓ur_cond, Nat.one_ne_zero, ↓cont_seq, ↓leave_seq, ↓leave_blk, ↓leave_lp, ↓done_nil, ↓ops_consN, ↓ops_guardN, nY_move, nY_assign, nY_pick, nY_load, nY_binOp, nY_extract, nY_callf, ↓ops_nil, opsIf_some, condC_true, condC_false, guardC_tt, guardC_ff, Option.map_some, Option.bind_some, Option.getD_some, Nat.reduceLT, Bool.false_eq_true, ↓upd_same, ↓upd_ne, Nat.reduceBEq, and_true, List.getElem?_toArray, List.getElem?_cons_zero, List.getElem?_cons_succ, endQ, cfg_P, cfg_tab, cfg_muts, cfg_frz, cfg_num, numOf_eq, List.map_cons, List.map_nil, List.length_map, ↓havoc_in, ↓havoc_out, List.contains_cons, List.contains_nil, Bool.or_false, Bool.or_true, Int.ofNat_lt, decide_true, decide_false, Option.some.injEq, exists_eq_left', List.lookup_cons, List.lookup_nil, tabOf_cons, tab_v, pur_ints, Bool.and_self, Nat.reduceEqDiff, List.nil_append, List.append_nil, List.length_cons, List.length_nil, Nat.zero_add, List.drop_zero, Nat.reduceAdd, nth_zero, Nat.lt_irrefl, Nat.lt_succ_self, not_true_eq_false, Nat.le_refl, pur_int, rdC_int, isCell_int, pur_lits, isCell_lits, rdC_ref, cells_agg, pur_agg, rdP_agg, DRx_bool, ↓ev_tmp, ↓ev_int, ↓ev_func, ↓guardP_eq, grd_some, ↓iop_move, ↓iop_assign, ↓pick3_bool, ↓iop_pick, ↓iop_load, ↓iop_binOp, ↓iop_extract, extr_tuple, ↓iop_callv, nrmAll_cons, nrmAll_nil, nrm_agg, nrmL_cons, nrmL_nil, nrm_int, nrm_lits, nrm1_int, nrm1_lits, nrm1_ref, pickP_t, loadP_vptr, loadP_ptr, b_eql, b_neq, b_lss, b_leq, b_gtr, ires_eq, iresL_1, iresAll_nil, iresAll_cons, iresOne_tmp, frzQ_eq, seal_obj, sealO_arr, sealE_agg, sealC_int, sealC_ref, rdAll_cons, rdAll_nil, rdL_cons, rdL_nil, valT_eq, pursL_cons, pursL_nil, ↓reduceIte, arr_eq, arrB_some, callP_eq, List.take_succ_cons, List.take_nil, ↓evs_cons, ↓evs_nil, only_obj, idsOf_cons, idsOf_nil, idC_agg, idL_cons, idL_nil, idE_ref, idE_int, beq_self_eq_true, List.all_cons, List.all_nil, see_eq, and_false, Bool.true_eq_false, s_sanity, s_Best, s_Cost, s_Give, s_chance, nth_reps, pur_reps, Try.f10, ty3, ty24, ty25, h38, ho, ho1, hdl, htake, pur_reps, hgm, hgd, he, hed, c1, c2, d1, d2, hnlt, hch, hchd, hr2, hd2, hrg]
      · simp +contextual (maxSteps := 4000000) only [↓ur_skip, ↓ur_seq, ↓ur_exit, ↓ur_ret, ↓ur_region, ↓ur_cond, Nat.one_ne_zero, ↓cont_seq, ↓leave_seq, ↓leave_blk, ↓leave_lp, ↓done_nil, ↓ops_consN, ↓ops_guardN, nY_move, nY_assign, nY_pick, nY_load, nY_binOp, nY_extract, nY_callf, ↓ops_nil, opsIf_some, condC_false, guardC_tt, Option.map_some, Option.bind_some, Option.getD_some, Nat.reduceLT, Bool.false_eq_true, ↓upd_same, ↓upd_ne, Nat.reduceBEq, and_true, List.getElem?_toArray, List.getElem?_cons_zero, List.getElem?_cons_succ, endQ, cfg_P, cfg_tab, cfg_muts, cfg_frz, cfg_num, numOf_eq, List.map_cons, List.map_nil, List.length_map, ↓havoc_in, ↓havoc_out, List.contains_cons, List.contains_nil, Bool.or_false, Bool.or_true, Int.ofNat_lt, decide_true, decide_false, Option.some.injEq, exists_eq_left', List.lookup_cons, List.lookup_nil, tabOf_cons, tab_v, Bool.and_self, Nat.reduceEqDiff, List.nil_append, List.append_nil, List.length_cons, List.length_nil, Nat.zero_add, List.drop_zero, Nat.reduceAdd, nth_zero, Nat.lt_irrefl, Nat.lt_succ_self, Nat.le_refl, pur_int, rdC_int, isCell_int, pur_lits, isCell_lits, rdC_ref, cells_agg, pur_agg, rdP_agg, DRx_bool, ↓ev_tmp, ↓ev_int, ↓ev_func, ↓guardP_eq, grd_some, ↓iop_move, ↓iop_assign, ↓pick3_bool, ↓iop_pick, ↓iop_load, ↓iop_binOp, ↓iop_extract, extr_tuple, ↓iop_callv, nrmAll_cons, nrmAll_nil, nrm_agg, nrmL_cons, nrmL_nil, nrm_int, nrm1_int, nrm1_lits, nrm1_ref, pickP_t, loadP_vptr, loadP_ptr, b_eql, b_lss, b_leq, ires_eq, iresL_1, iresAll_nil, iresAll_cons, iresOne_tmp, frzQ_eq, seal_obj, sealO_arr, sealE_agg, sealC_int, sealC_ref, rdAll_cons, rdAll_nil, rdL_cons, rdL_nil, valT_eq, pursL_cons, pursL_nil, ↓reduceIte, arr_eq, arrB_some, callP_eq, List.take_succ_cons, List.take_nil, ↓evs_cons, ↓evs_nil, only_obj, idsOf_cons, idsOf_nil, idC_agg, idL_cons, idL_nil, idE_ref, idE_int, beq_self_eq_true, List.all_cons, List.all_nil, see_eq, and_false, Bool.true_eq_false, s_sanity, s_Best, s_Give, s_chance, nth_reps, pur_reps, Try.f10, ty3, ty24, h38, ho, ho1, hdl, htake, pur_reps, hgm, hgd, he, hch, hchd, hr2, hd2, hrg]
end Sim
