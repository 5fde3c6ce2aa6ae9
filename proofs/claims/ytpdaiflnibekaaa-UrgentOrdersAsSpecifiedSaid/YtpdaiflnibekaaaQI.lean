/- What functions of this seat compute, by values: contracts (lemmas of the statement's proof, under the conditions that each names). -/
import Derived.Test.YtpdaiflnibekaaaQH
namespace Sim
open Go Go.Proofs
set_option maxRecDepth 10000
set_option maxHeartbeats 2000000
set_option linter.unusedVariables false
set_option linter.unusedSimpArgs false
attribute [local congr] opsIf_congr condC_congr guardC_congr grd_congr pick3_congr obind_congr omap_congr

theorem and_zero {a g : Nat} : a &&& g = 0 ↔ ∀ i, ¬ (g.testBit i = true ∧ a.testBit i = true) := by
  constructor
  · intro h i ⟨h1, h2⟩
    have := Nat.testBit_and a g i
    rw [h, h1, h2] at this
    simp at this
  · intro h
    apply Nat.eq_of_testBit_eq
    intro i
    rw [Nat.testBit_and, Nat.zero_testBit]
    have := h i
    cases h1 : g.testBit i <;> cases h2 : a.testBit i <;> simp [h1, h2] at this ⊢
theorem and_zero_lt {a g n : Nat} (ha : a < 2 ^ n) : a &&& g = 0 ↔ ∀ i, i < n → ¬ (g.testBit i = true ∧ a.testBit i = true) := by
  rw [and_zero]
  refine ⟨fun h i _ => h i, fun h i hi => ?_⟩
  rcases Nat.lt_or_ge i n with g1 | g1
  · exact h i g1 hi
  · rw [Nat.testBit_lt_two_pow (Nat.lt_of_lt_of_le ha (Nat.pow_le_pow_right (by omega) g1))] at hi; cases hi.2
theorem bit_top {a k : Nat} (h : a < 2 ^ k) : a.testBit k = false := Nat.testBit_lt_two_pow h
noncomputable def A_rWith : (Int) × (List Rep) × (Int) → List PV := fun (st, rs, s) => [.agg [I st, reps rs], I s]
noncomputable def R_rWith : (Int) × (List Rep) × (Int) → PV := fun (st, rs, s) => .agg [I (withM st rs s).1.1, reps (withM st rs s).1.2, I (withM st rs s).2]
def H_rWith : (Int) × (List Rep) × (Int) → Prop := fun (st, rs, s) => True
noncomputable def e_rWith : Nat × Ent := (20, .v (specOf A_rWith R_rWith H_rWith))
theorem j_rWith : ∀ i j, A_rWith i = A_rWith j → i = j := by
  rintro ⟨st₁, rs₁, s₁⟩ ⟨st₂, rs₂, s₂⟩ h
  simp only [A_rWith, List.cons.injEq, and_true, PV.lits.injEq, PV.int.injEq, PV.bool.injEq, PV.str.injEq, PV.agg.injEq, PV.func.injEq, PV.vptr.injEq, true_and, List.map_nil, inj_ints, inj_strs, inj_reps] at h
  simp [Prod.ext_iff, h] <;> omega
theorem s_rWith (st : Int) (rs : List Rep) (s : Int) : specOf A_rWith R_rWith H_rWith [.agg [I st, reps rs], I s] = some (.agg [I (withM st rs s).1.1, reps (withM st rs s).1.2, I (withM st rs s).2]) := specOf_app j_rWith (i := (st, rs, s)) trivial
def C_rWith : Prop := ∀ (st : Int) (rs : List Rep) (s : Int) , VC Try.prog 20 [.agg [I st, reps rs], I s] (.agg [I (withM st rs s).1.1, reps (withM st rs s).1.2, I (withM st rs s).2])
def O_rWith : Prop := EntOK Try.prog e_rWith.1 e_rWith.2
theorem k_rWith (c : C_rWith) : O_rWith := specOf_ok fun ⟨st, rs, s⟩ h => c st rs s
theorem c_rWith : C_rWith := by
  rintro st rs s
  refine vc_ofU mixed (l := [e_rcheck, e_bit, e_in]) ((eok_cons o_rcheck (eok_cons o_bit (eok_cons o_in eok_nil)))) [] []  Try.func20 rfl (by decide +kernel) (N := 94) rfl (by simp) rfl (by kernel_rfl) fun hs => ?_
  simp only [smallL, PV.small, List.length_map, and_true, true_and] at hs
  by_cases h : checkM st rs = 0
  case neg =>
    rw [show withM st rs s = ((0, []), checkM st rs) by simp [withM, h]]
    generalize hr : checkM st rs = r at *
    simp +contextual (maxSteps := 4000000) only [↓ur_seq, ↓ur_ret, ↓ur_region, ↓ur_cond, ↓cont_seq, ↓done_nil, ↓done_seq, ↓ops_consN, nY_move, nY_assign, nY_alloc, nY_box, nY_build, nY_load, nY_store, nY_binOp, nY_callf, ↓ops_nil, opsIf_some, opsIf_none, condC_true, Option.map_some, Option.bind_some, Option.getD_some, Nat.reduceLT, Bool.false_eq_true, ↓upd_same, ↓upd_ne, Nat.reduceBEq, and_true, List.getD_cons_zero, endQ, cfg_P, cfg_tab, cfg_muts, cfg_frz, cfg_num, numOf_eq, List.map_nil, List.contains_nil, decide_true, Option.some.injEq, exists_eq_left', List.lookup_cons, List.lookup_nil, tabOf_cons, tab_v, Bool.and_self, List.cons_append, List.nil_append, List.append_nil, updO_same, List.length_cons, List.length_nil, Nat.zero_add, List.drop_zero, List.take_zero, Nat.reduceAdd, List.set_cons_zero, nth_zero, Nat.lt_succ_self, not_false_eq_true, st0, Nat.le_refl, cells_int, pur_int, isCell_int, pur_lits, isCell_lits, cells_agg, pur_agg, DRx_int, DRx_nils_lits, DRx_agg, DRxL_cons, DRxL_nil, ↓ev_tmp, ↓ev_int, ↓ev_func, ↓iop_move, ↓iop_assign, ↓iop_alloc, ↓iop_box, ↓iop_build, ↓iop_load, ↓iop_store, ↓iop_binOp, ↓iop_callv, nrmAll_cons, nrmAll_nil, nrm_agg, nrmL_cons, nrmL_nil, nrm1_int, nrm1_lits, pickP_t, loadP_vptr, loadP_ptr, setCells_agg, storeP_ptr, b_neq, fill_nil, fill_cons, fill1_some, buildP_eq, bldA_none, splice_eq, env0_eq, ires_eq, iresL_1, iresAll_nil, iresAll_cons, iresOne_cell, valT_eq, pursL_cons, pursL_nil, Store.new, Store.set, ↓reduceIte, arr_eq, arrB_some, callP_eq, boxP_eq, List.take_succ_cons, List.drop_succ_cons, List.drop_nil, List.take_nil, ↓evs_cons, ↓evs_nil, ↓evp_cons, ↓evp_nil, beq_self_eq_true, List.all_cons, List.all_nil, see_eq, and_false, Bool.true_eq_false, e_rcheck, s_rcheck, e_bit, e_in, nth_reps, pur_reps, Try.f20, ty24, ty44, h, hr]
  have hc := check_zero.1 h
  have h10 := hc.len
  have hwm : withM st rs s = if ¬ (0 ≤ s ∧ s ≤ ((2 ^ rs.length - 1 : Nat) : Int)) then ((0, []), 1) else if badW rs s.toNat rs.length = true then ((0, []), 4) else ((st, withT rs s.toNat rs.length), 0) := by simp [withM, h]
  generalize hr : withM st rs s = r
  have hp := pow1024 (k := rs.length) h10
  have hp1 := one_le_pow rs.length
  have h60 : rs.length ≤ 60 := by omega
  by_cases hin : 0 ≤ s ∧ s ≤ ((2 ^ rs.length - 1 : Nat) : Int)
  case neg =>
    rw [if_pos hin] at hwm
    rw [hwm] at hr
    subst hr
    by_cases h1 : s < 0
    · simp +contextual (maxSteps := 4000000) only [↓ur_skip, ↓ur_seq, ↓ur_ret, ↓ur_region, ↓ur_cond, ↓cont_seq, ↓done_nil, ↓done_seq, ↓ops_consN, ↓ops_guardN, nY_move, nY_assign, nY_pick, nY_alloc, nY_box, nY_build, nY_load, nY_store, nY_binOp, nY_fieldAddr, nY_callf, nY_callb, ↓ops_nil, opsIf_some, opsIf_none, condC_true, condC_false, guardC_tf, Option.map_some, Option.bind_some, Option.getD_some, Nat.reduceLT, Bool.false_eq_true, ↓upd_same, ↓upd_ne, Nat.reduceBEq, and_true, List.getD_cons_zero, List.getD_cons_succ, List.getElem?_toArray, List.getElem?_cons_zero, List.getElem?_cons_succ, endQ, cfg_P, cfg_tab, cfg_muts, cfg_frz, cfg_num, numOf_eq, List.map_nil, List.contains_nil, decide_true, decide_false, Option.some.injEq, exists_eq_left', List.lookup_cons, List.lookup_nil, tabOf_cons, tab_v, Bool.and_self, List.cons_append, List.nil_append, List.append_nil, updO_same, List.length_cons, List.length_nil, Nat.zero_add, List.drop_zero, List.take_zero, Nat.reduceAdd, List.set_cons_zero, nth_zero, Nat.lt_succ_self, not_true_eq_false, st0, Nat.le_refl, cells_int, pur_int, isCell_int, pur_lits, isCell_lits, cells_agg, pur_agg, DRx_int, DRx_nils_lits, DRx_agg, DRxL_cons, DRxL_nil, ↓ev_tmp, ↓ev_int, ↓ev_bool, ↓ev_func, ↓guardP_eq, grd_some, ↓iop_move, ↓iop_assign, ↓pick3_bool, ↓iop_pick, ↓iop_alloc, ↓iop_box, ↓iop_build, ↓iop_load, ↓iop_store, ↓iop_binOp, ↓iop_callv, nrmAll_cons, nrmAll_nil, nrm_agg, nrmL_cons, nrmL_nil, nrm1_int, nrm1_lits, pickP_t, loadP_vptr, loadP_ptr, setCells_agg, storeP_ptr, b_neq, b_lss, fill_nil, fill_cons, fill1_some, buildP_eq, bldA_none, splice_eq, env0_eq, ires_eq, iresL_1, iresAll_nil, iresAll_cons, iresOne_cell, valT_eq, pursL_cons, pursL_nil, Store.new, Store.set, ↓reduceIte, arr_eq, arrB_some, callP_eq, boxP_eq, List.take_succ_cons, List.drop_succ_cons, List.drop_nil, List.take_nil, ↓evs_cons, ↓evs_nil, ↓evp_cons, ↓evp_nil, beq_self_eq_true, List.all_cons, List.all_nil, see_eq, and_false, Bool.true_eq_false, e_rcheck, s_rcheck, e_bit, e_in, nth_reps, pur_reps, Try.f20, ty24, ty44, h, h1]
    · have h2 : ((2 ^ rs.length : Nat) : Int) ≤ s := by
        generalize 2 ^ rs.length = q at *
        omega
      simp +contextual (maxSteps := 4000000) only [↓ur_skip, ↓ur_seq, ↓ur_ret, ↓ur_region, ↓ur_cond, ↓cont_seq, ↓done_nil, ↓done_seq, ↓ops_consN, ↓ops_guardN, nY_move, nY_assign, nY_pick, nY_alloc, nY_box, nY_build, nY_load, nY_store, nY_binOp, nY_fieldAddr, nY_callf, nY_callb, ↓ops_nil, opsIf_some, opsIf_none, condC_true, condC_false, guardC_ff, Option.map_some, Option.bind_some, Option.getD_some, Nat.reduceLT, Bool.false_eq_true, ↓upd_same, ↓upd_ne, Nat.reduceBEq, and_true, List.getD_cons_zero, List.getD_cons_succ, List.getElem?_toArray, List.getElem?_cons_zero, List.getElem?_cons_succ, endQ, cfg_P, cfg_tab, cfg_muts, cfg_frz, cfg_num, numOf_eq, List.map_nil, List.length_map, List.contains_nil, decide_true, decide_false, Option.some.injEq, exists_eq_left', List.lookup_cons, List.lookup_nil, tabOf_cons, tab_v, Bool.and_self, Nat.reduceEqDiff, List.cons_append, List.nil_append, List.append_nil, updO_same, List.length_cons, List.length_nil, Nat.zero_add, List.drop_zero, List.take_zero, Nat.reduceAdd, List.set_cons_zero, nth_zero, Nat.lt_succ_self, not_true_eq_false, st0, Nat.le_refl, cells_int, pur_int, isCell_int, pur_lits, isCell_lits, cells_agg, pur_agg, DRx_int, DRx_nils_lits, DRx_agg, DRxL_cons, DRxL_nil, ↓ev_tmp, ↓ev_int, ↓ev_func, ↓guardP_eq, grd_some, ↓iop_move, ↓iop_assign, ↓pick3_bool, ↓iop_pick, ↓iop_alloc, ↓iop_box, ↓iop_build, ↓iop_load, ↓iop_store, ↓iop_binOp, ↓iop_fieldAddr, ↓iop_callv, ↓iop_callb, nrmAll_cons, nrmAll_nil, bi_len, lenM_none, nrm_agg, nrmL_cons, nrmL_nil, nrm_int, nrm1_int, nrm1_lits, pickP_f, pickP_t, loadP_vptr, loadP_ptr, setCells_agg, storeP_ptr, fieldP_vptr, lenP_lits, b_neq, b_lss, b_geq, fill_nil, fill_cons, fill1_some, buildP_eq, bldA_none, splice_eq, env0_eq, ires_eq, iresL_1, iresAll_nil, iresAll_cons, iresOne_cell, valT_eq, pursL_cons, pursL_nil, Store.new, Store.set, ↓reduceIte, arr_eq, arrB_some, callP_eq, boxP_eq, List.take_succ_cons, List.drop_succ_cons, List.drop_nil, List.take_nil, ↓evs_cons, ↓evs_nil, ↓evp_cons, ↓evp_nil, beq_self_eq_true, List.all_cons, List.all_nil, see_eq, and_false, Bool.true_eq_false, e_rcheck, s_rcheck, e_bit, s_bit, e_in, nth_reps, pur_reps, Try.f20, ty3, ty22, ty24, ty44, h, h1, h60, h2]
  rw [if_neg (fun hn => hn hin)] at hwm
  obtain ⟨g, hg⟩ : ∃ g : Nat, s = g := ⟨s.toNat, by omega⟩
  subst hg
  simp only [Int.toNat_natCast] at hwm
  have hg2 : g < 9223372036854775808 := by
    generalize 2 ^ rs.length = q at *
    omega
  have hs1 : ¬ (g : Int) < 0 := by omega
  have hs2 : ¬ ((2 ^ rs.length : Nat) : Int) ≤ (g : Int) := by
    generalize 2 ^ rs.length = q at *
    omega
  have hw : ∀ i : Nat, i < rs.length → IntKind.i64.wrap ((i : Int) + 1) = ((i + 1 : Nat) : Int) := fun i g => by rw [wrap64 (by omega) (by omega)]; omega
  simp +contextual (maxSteps := 4000000) only [↓ur_skip, ↓ur_seq, ↓ur_block, ↓ur_region, ↓ur_cond, ↓cont_seq, ↓ops_consN, ↓ops_guardN, nY_move, nY_assign, nY_pick, nY_alloc, nY_box, nY_build, nY_load, nY_store, nY_binOp, nY_fieldAddr, nY_callf, nY_callb, ↓ops_nil, opsIf_some, opsIf_none, condC_false, guardC_ff, Option.map_some, Option.bind_some, Option.getD_some, Nat.reduceLT, Bool.false_eq_true, ↓upd_same, ↓upd_ne, Nat.reduceBEq, true_and, and_true, List.getD_cons_zero, List.getD_cons_succ, List.getElem?_toArray, List.getElem?_cons_zero, List.getElem?_cons_succ, cfg_P, cfg_tab, cfg_muts, cfg_frz, cfg_num, numOf_eq, List.length_map, List.contains_nil, decide_false, List.lookup_cons, List.lookup_nil, tabOf_cons, tab_v, Bool.and_self, Nat.reduceEqDiff, List.cons_append, List.nil_append, List.append_nil, updO_same, List.length_cons, List.length_nil, Nat.zero_add, Nat.add_zero, List.drop_zero, List.take_zero, Nat.reduceAdd, List.set_cons_zero, Nat.reduceLeDiff, nth_zero, Nat.lt_succ_self, not_true_eq_false, st0, Nat.le_refl, cells_int, pur_int, pur_lits, cells_agg, pur_agg, ↓ev_tmp, ↓ev_int, ↓ev_func, ↓guardP_eq, grd_some, ↓iop_move, ↓iop_assign, ↓pick3_bool, ↓iop_pick, ↓iop_alloc, ↓iop_box, ↓iop_build, ↓iop_load, ↓iop_store, ↓iop_binOp, ↓iop_fieldAddr, ↓iop_callv, ↓iop_callb, nrmAll_cons, nrmAll_nil, bi_len, lenM_none, nrm_agg, nrmL_cons, nrmL_nil, nrm_int, nrm1_int, nrm1_lits, pickP_f, pickP_t, loadP_vptr, setCells_agg, storeP_ptr, fieldP_vptr, lenP_lits, b_neq, b_lss, b_geq, fill_nil, fill_cons, fill1_some, buildP_eq, bldA_none, splice_eq, env0_eq, valT_eq, pursL_cons, pursL_nil, Store.new, Store.set, ↓reduceIte, arr_eq, arrB_some, callP_eq, boxP_eq, List.take_succ_cons, List.drop_succ_cons, List.drop_nil, List.take_nil, ↓evs_cons, ↓evs_nil, ↓evp_cons, ↓evp_nil, beq_self_eq_true, see_eq, and_false, Bool.true_eq_false, e_rcheck, s_rcheck, e_bit, s_bit, e_in, nth_reps, pur_reps, Try.f20, ty3, ty22, ty24, ty44, h, h60, hs1, hs2]
  refine loop_cnt [7, 8, 9, 10, 11, 12, 13, 14, 35, 36, 37, 38, 39, 40, 41, 42, 43, 44, 45, 46, 47, 48, 49, 50, 51, 52, 53, 54, 55, 56, 57, 58, 59, 60, 61, 62, 63, 64, 65, 66, 67, 68, 69, 70, 71, 72, 73, 74, 75, 76, 77, 78, 79, 80, 81, 82, 83, 84, 85, 86, 87, 88, 89, 90, 91] rs.length (fun k ρ st' => ρ 7 = I k ∧ badW rs g k = false ∧ st'.obj 0 = some (.arr 0 3 [.agg [I 0, .nils, I 0]]) ∧ (∃ p, st'.obj 1 = some (.arr 0 2 [.agg [I st, p]]) ∧ GS st' p 2 4 ((withT rs g k).map repV)) ∧ 2 < st'.next) (.cell _ 1 0 2 4 [.agg [I st, .nils]] 0 1 ?_ ?_ ?_) ?_ ?_
  · simp +contextual (maxSteps := 4000000) only [updO_same, nth_reps, pur_reps, Try.f20]
  · rfl
  · decide
  · simp +contextual (maxSteps := 4000000) only [↓upd_same, Nat.reduceBEq, true_and, and_true, List.length_map, Option.some.injEq, exists_eq_left', PV.agg.injEq, List.cons.injEq, List.cons_append, List.nil_append, List.append_nil, GS_ref, updO_same, updO_ne, List.length_cons, List.length_nil, Nat.zero_add, List.take_zero, Nat.reduceAdd, List.set_cons_zero, nth_zero, IObj.arr.injEq, Nat.lt_succ_self, setCells_agg, splice_eq, Store.new, Store.set, List.take_succ_cons, List.drop_succ_cons, List.drop_nil, Int.cast_ofNat_Int, nth_reps, pur_reps, Try.f20]
    simp [badW, withT]
  · rintro k ρ ⟨ob, M⟩ hk ⟨h36, hb, h0, ⟨p, h1, gn, rfl, h2⟩, hM⟩
    dsimp only at h0 h1 h2 hM
    have n0 : ¬ 0 = M := by omega
    have n1 : ¬ 1 = M := by omega
    have n2 : ¬ 2 = M := by omega
    have m0 : ¬ M = 0 := by omega
    have m1 : ¬ M = 1 := by omega
    have m2 : ¬ M = 2 := by omega
    by_cases hlt : k < rs.length
    · have hk64 : k ≤ 64 := by omega
      cases hgk : g.testBit k
      case true =>
        simp +contextual (maxSteps := 4000000) only [↓ur_skip, ↓ur_seq, ↓ur_block, ↓ur_exit, ↓ur_region, ↓ur_cond, ↓cont_seq, ↓cont_lp, ↓leave_seq, ↓leave_blk, ↓ops_consN, nY_move, nY_assign, nY_load, nY_binOp, nY_fieldAddr, nY_callf, nY_callb, ↓ops_nil, opsIf_some, condC_true, Option.map_some, Option.bind_some, Option.getD_some, Nat.reduceLT, Bool.false_eq_true, ↓upd_same, ↓upd_ne, Nat.reduceBEq, true_and, and_true, List.getD_cons_zero, List.getD_cons_succ, List.getElem?_cons_zero, List.getElem?_cons_succ, cfg_P, cfg_tab, cfg_muts, cfg_frz, List.length_map, ↓havoc_in, ↓havoc_out, agree_upd, agree_havoc, List.contains_cons, List.contains_nil, Bool.or_false, Bool.or_true, Int.ofNat_lt, decide_true, Option.some.injEq, exists_eq_left', PV.int.injEq, PV.agg.injEq, List.cons.injEq, tabOf_cons, tab_v, Bool.and_self, Nat.reduceEqDiff, List.nil_append, List.append_nil, GS_ref, Nat.zero_add, IObj.arr.injEq, Nat.lt_succ_self, Bool.not_true, pur_int, ↓ev_tmp, ↓ev_int, ↓ev_func, ↓iop_move, ↓iop_assign, ↓iop_load, ↓iop_binOp, ↓iop_fieldAddr, ↓iop_callv, ↓iop_callb, nrmAll_cons, nrmAll_nil, bi_len, lenM_none, nrm_int, pickP_f, loadP_vptr, fieldP_vptr, lenP_lits, b_add, b_lss, env0_eq, valT_eq, pursL_cons, pursL_nil, ↓reduceIte, callP_eq, ↓evs_cons, ↓evs_nil, beq_self_eq_true, see_eq, and_false, Bool.true_eq_false, s_in, nth_reps, pur_reps, Try.f20, ty3, ty22, ty24, h36, h0, h1, h2, n0, n1, n2, m0, m1, m2, hlt, hg2, hk64, hgk, badW, withT]
        exact ⟨hw k hlt, by simpa using hb, by omega⟩
      have hl := hc.rep k hlt
      have hac : ac rs k < 9223372036854775808 := by omega
      simp +contextual (maxSteps := 4000000) only [↓ur_skip, ↓ur_seq, ↓ur_block, ↓ur_region, ↓ur_cond, ↓cont_seq, ↓ops_consN, nY_move, nY_assign, nY_alloc, nY_load, nY_store, nY_binOp, nY_fieldAddr, nY_indexAddr, nY_callf, nY_callb, ↓ops_nil, opsIf_some, opsIf_none, condC_true, condC_false, Option.map_some, Option.bind_some, Option.getD_some, Nat.reduceLT, Bool.false_eq_true, ↓upd_same, ↓upd_ne, Nat.reduceBEq, true_and, and_true, List.getD_cons_zero, List.getD_cons_succ, List.getElem?_cons_zero, List.getElem?_cons_succ, cfg_P, cfg_tab, cfg_muts, cfg_frz, cfg_num, numOf_eq, List.length_map, ↓havoc_in, ↓havoc_out, List.contains_cons, List.contains_nil, Bool.or_false, Int.natCast_nonneg, Int.ofNat_lt, Int.toNat_natCast, decide_true, tabOf_cons, tab_v, Bool.and_self, Nat.reduceEqDiff, List.nil_append, List.append_nil, updO_same, List.length_cons, List.length_nil, Nat.zero_add, List.drop_zero, List.take_zero, Nat.reduceAdd, List.set_cons_zero, nth_zero, Nat.lt_succ_self, Nat.le_refl, pur_int, cells_agg, ↓ev_tmp, ↓ev_int, ↓ev_func, ↓iop_move, ↓iop_assign, ↓iop_alloc, ↓iop_load, ↓iop_store, ↓iop_binOp, ↓iop_fieldAddr, ↓iop_indexAddr, idxA_int, ↓iop_callv, ↓iop_callb, nrmAll_cons, nrmAll_nil, bi_len, lenM_none, nrm_int, pickP_f, pickP_t, loadP_vptr, setCells_agg, storeP_ptr, fieldP_vptr, indexP_lits, lenP_lits, b_lss, splice_eq, env0_eq, valT_eq, pursL_cons, pursL_nil, Store.new, Store.set, ↓reduceIte, arr_eq, arrB_some, callP_eq, List.take_succ_cons, List.drop_succ_cons, List.drop_nil, List.take_nil, ↓evs_cons, ↓evs_nil, beq_self_eq_true, see_eq, and_false, Bool.true_eq_false, s_in, nth_reps, pur_reps, Try.f20, ty3, ty22, ty24, ty56, h36, h0, h1, h2, n0, n1, n2, m0, m1, m2, hlt, hg2, hk64, hgk]
      refine loop_cnt [10, 11, 12, 13, 14, 51, 52, 53, 54, 55, 56, 57, 58, 59, 60, 61, 62, 63, 64, 65, 66, 67, 68, 69, 70, 71, 72, 73, 74, 75, 76, 77, 78] rs.length (fun i ρ st' => ρ 12 = I i ∧ ρ 10 = I (sqT (ac rs k) g i : Nat) ∧ ρ 11 = I (atT g i : Nat) ∧ (∀ j, j < i → ¬ (g.testBit j = true ∧ (ac rs k).testBit j = true)) ∧ st'.obj 0 = some (.arr 0 3 [.agg [I 0, .nils, I 0]]) ∧ st'.obj 1 = some (.arr 0 2 [.agg [I st, .ref 2 gn 0 (withT rs g k).length]]) ∧ st'.obj 2 = some (.arr gn 4 ((withT rs g k).map repV)) ∧ st'.obj M = some (.arr 0 4 [repV (rs.getD k dR)]) ∧ st'.next = M + 1) (.refl _) ?_ ?_
      · simp +contextual (maxSteps := 4000000) only [↓upd_same, ↓upd_ne, Nat.reduceBEq, true_and, and_true, List.length_map, Option.some.injEq, PV.agg.injEq, List.cons.injEq, updO_same, updO_ne, IObj.arr.injEq, not_false_eq_true, beq_eq_false_iff_ne, ne_eq, Int.cast_ofNat_Int, nth_reps, pur_reps, Try.f20, h0, h1, h2, n0, n1, n2, m0, m1, m2, af_at, hl.2.1, sqT, atT]
        exact fun j hj => by omega
      · rintro i ρ2 ⟨ob2, M2⟩ hi ⟨h53, h11, h12, hno, h02, h12', h22, hm2, hM2⟩
        dsimp only at h02 h12' h22 hm2 hM2
        subst hM2
        have hat := atT_le (g := g) i
        by_cases hilt : i < rs.length
        · have hi64 : i ≤ 64 := by omega
          have hno' : ¬ (g.testBit i = true ∧ (ac rs k).testBit i = true) → ∀ j, j < i + 1 → ¬ (g.testBit j = true ∧ (ac rs k).testBit j = true) := fun h j hj => by
            by_cases e : j = i
            · subst e; exact h
            · exact hno j (by omega)
          have hsq := sqT_lt (a := ac rs k) (g := g) i
          have hpa := pow1024 (k := atT g i) (by omega)
          have hat60 : atT g i ≤ 60 := by omega
          have hor := or_add (bit_top hsq)
          have hwb : IntKind.i64.wrap (((sqT (ac rs k) g i : Nat) : Int) + ((2 ^ atT g i : Nat) : Int)) = ((sqT (ac rs k) g i + 2 ^ atT g i : Nat) : Int) := by
            generalize 2 ^ atT g i = q at *
            rw [wrap64 (by omega) (by omega)]; omega
          have hwa : IntKind.i64.wrap (((atT g i : Nat) : Int) + 1) = ((atT g i + 1 : Nat) : Int) := by rw [wrap64 (by omega) (by omega)]; omega
          cases hgi : g.testBit i <;> cases hai : (ac rs k).testBit i <;> rw [hgi, hai] at hno'
          · simp +contextual (maxSteps := 4000000) only [↓ur_skip, ↓ur_seq, ↓ur_block, ↓ur_region, ↓ur_cond, ↓cont_seq, ↓cont_blk, ↓cont_lp, ↓ops_consN, ↓ops_guardN, nY_move, nY_assign, nY_pick, nY_load, nY_binOp, nY_unOp, nY_fieldAddr, nY_callf, nY_callb, ↓ops_nil, opsIf_some, condC_true, condC_false, guardC_ft, Option.map_some, Option.bind_some, Option.getD_some, Nat.reduceLT, Bool.false_eq_true, ↓upd_same, ↓upd_ne, Nat.reduceBEq, true_and, and_true, List.getD_cons_zero, List.getD_cons_succ, List.getElem?_toArray, List.getElem?_cons_zero, List.getElem?_cons_succ, cfg_P, cfg_tab, cfg_muts, cfg_frz, List.length_map, ↓havoc_in, ↓havoc_out, agree_upd, agree_havoc, List.contains_cons, List.contains_nil, Bool.or_false, Bool.or_true, Int.ofNat_lt, decide_true, PV.int.injEq, tabOf_cons, tab_v, Bool.and_self, Nat.reduceEqDiff, List.nil_append, List.append_nil, Nat.zero_add, nth_zero, Nat.lt_succ_self, Bool.not_false, pur_int, cells_agg, ↓ev_tmp, ↓ev_int, ↓ev_bool, ↓ev_func, ↓guardP_eq, grd_some, ↓iop_move, ↓iop_assign, ↓pick3_bool, ↓iop_pick, ↓iop_load, ↓iop_binOp, ↓iop_unOp, ↓iop_fieldAddr, ↓iop_callv, ↓iop_callb, nrmAll_cons, nrmAll_nil, bi_len, lenM_none, nrm_int, pickP_f, loadP_vptr, loadP_ptr, fieldP_vptr, fieldP_ptr, lenP_lits, b_add, b_lss, u_not, env0_eq, valT_eq, pursL_cons, pursL_nil, ↓reduceIte, arr_eq, arrB_some, callP_eq, ↓evs_cons, ↓evs_nil, beq_self_eq_true, see_eq, and_false, Bool.true_eq_false, s_in, nth_reps, pur_reps, Try.f20, ty3, ty22, ty24, ty56, h53, h11, h12, h02, h12', h22, hm2, n0, n1, n2, m0, m1, m2, hilt, hg2, hi64, hgi, hai, hac, af_at, hl.2.1, hat60, hwa, sqT, atT]
            exact ⟨hw i hilt, hno' (by simp)⟩
          · simp +contextual (maxSteps := 4000000) only [↓ur_skip, ↓ur_seq, ↓ur_block, ↓ur_region, ↓ur_cond, ↓cont_seq, ↓cont_blk, ↓cont_lp, ↓ops_consN, ↓ops_guardN, nY_move, nY_assign, nY_pick, nY_load, nY_binOp, nY_unOp, nY_fieldAddr, nY_callf, nY_callb, ↓ops_nil, opsIf_some, condC_true, condC_false, guardC_ft, Option.map_some, Option.bind_some, Option.getD_some, Nat.reduceLT, Bool.false_eq_true, ↓upd_same, ↓upd_ne, Nat.reduceBEq, true_and, and_true, List.getD_cons_zero, List.getD_cons_succ, List.getElem?_toArray, List.getElem?_cons_zero, List.getElem?_cons_succ, cfg_P, cfg_tab, cfg_muts, cfg_frz, List.length_map, ↓havoc_in, ↓havoc_out, agree_upd, agree_havoc, List.contains_cons, List.contains_nil, Bool.or_false, Bool.or_true, Int.ofNat_lt, decide_true, PV.int.injEq, tabOf_cons, tab_v, Bool.and_self, Nat.reduceEqDiff, List.nil_append, List.append_nil, Nat.zero_add, nth_zero, Nat.lt_succ_self, Bool.not_false, pur_int, cells_agg, ↓ev_tmp, ↓ev_int, ↓ev_bool, ↓ev_func, ↓guardP_eq, grd_some, ↓iop_move, ↓iop_assign, ↓pick3_bool, ↓iop_pick, ↓iop_load, ↓iop_binOp, ↓iop_unOp, ↓iop_fieldAddr, ↓iop_callv, ↓iop_callb, nrmAll_cons, nrmAll_nil, bi_len, lenM_none, nrm_int, pickP_f, loadP_vptr, loadP_ptr, fieldP_vptr, fieldP_ptr, lenP_lits, b_add, b_lss, u_not, env0_eq, valT_eq, pursL_cons, pursL_nil, ↓reduceIte, arr_eq, arrB_some, callP_eq, ↓evs_cons, ↓evs_nil, beq_self_eq_true, see_eq, and_false, Bool.true_eq_false, s_bit, s_in, nth_reps, pur_reps, Try.f20, ty3, ty22, ty24, ty56, h53, h11, h12, h02, h12', h22, hm2, n0, n1, n2, m0, m1, m2, hilt, hg2, hi64, hgi, hai, hac, af_at, hl.2.1, hat60, hwa, hwb, hor, sqT, atT]
            exact ⟨hw i hilt, hno' (by simp)⟩
          · simp +contextual (maxSteps := 4000000) only [↓ur_skip, ↓ur_seq, ↓ur_block, ↓ur_region, ↓ur_cond, ↓cont_seq, ↓cont_blk, ↓cont_lp, ↓ops_consN, ↓ops_guardN, nY_move, nY_assign, nY_pick, nY_load, nY_binOp, nY_unOp, nY_fieldAddr, nY_callf, nY_callb, ↓ops_nil, opsIf_some, condC_true, condC_false, guardC_tt, Option.map_some, Option.bind_some, Option.getD_some, Nat.reduceLT, Bool.false_eq_true, ↓upd_same, ↓upd_ne, Nat.reduceBEq, true_and, and_true, List.getD_cons_zero, List.getD_cons_succ, List.getElem?_toArray, List.getElem?_cons_zero, List.getElem?_cons_succ, cfg_P, cfg_tab, cfg_muts, cfg_frz, List.length_map, ↓havoc_in, ↓havoc_out, agree_upd, agree_havoc, List.contains_cons, List.contains_nil, Bool.or_false, Bool.or_true, Int.ofNat_lt, decide_true, PV.int.injEq, tabOf_cons, tab_v, Bool.and_self, Nat.reduceEqDiff, List.nil_append, List.append_nil, Nat.zero_add, nth_zero, Nat.lt_succ_self, Bool.not_true, pur_int, cells_agg, ↓ev_tmp, ↓ev_int, ↓ev_func, ↓guardP_eq, grd_some, ↓iop_move, ↓iop_assign, ↓pick3_bool, ↓iop_pick, ↓iop_load, ↓iop_binOp, ↓iop_unOp, ↓iop_fieldAddr, ↓iop_callv, ↓iop_callb, nrmAll_cons, nrmAll_nil, bi_len, lenM_none, nrm_int, pickP_f, loadP_vptr, loadP_ptr, fieldP_vptr, fieldP_ptr, lenP_lits, b_add, b_lss, u_not, env0_eq, valT_eq, pursL_cons, pursL_nil, ↓reduceIte, arr_eq, arrB_some, callP_eq, ↓evs_cons, ↓evs_nil, beq_self_eq_true, see_eq, and_false, Bool.true_eq_false, s_in, nth_reps, pur_reps, Try.f20, ty3, ty22, ty24, ty56, h53, h11, h12, h02, h12', h22, hm2, n0, n1, n2, m0, m1, m2, hilt, hg2, hi64, hgi, hai, hac, af_at, hl.2.1, hat60, hwa, sqT, atT]
            exact ⟨hw i hilt, hno' (by simp)⟩
          · have hz : ¬ ac rs k &&& g = 0 := fun h => and_zero.1 h i ⟨hgi, hai⟩
            have hbs : badW rs g (k + 1) = true := by simp [badW, hgk, hz]
            rw [if_pos (badW_end hbs (n := rs.length) (by omega))] at hwm
            rw [hwm] at hr
            subst hr
            simp +contextual (maxSteps := 4000000) only [↓ur_skip, ↓ur_seq, ↓ur_block, ↓ur_ret, ↓ur_region, ↓ur_cond, ↓cont_seq, ↓done_nil, ↓done_seq, ↓done_blk, ↓done_lp, ↓ops_consN, ↓ops_guardN, nY_move, nY_assign, nY_pick, nY_build, nY_load, nY_store, nY_binOp, nY_fieldAddr, nY_callf, nY_callb, ↓ops_nil, opsIf_some, opsIf_none, condC_true, guardC_tt, Option.map_some, Option.bind_some, Option.getD_some, Nat.reduceLT, Bool.false_eq_true, ↓upd_same, ↓upd_ne, Nat.reduceBEq, and_true, List.getD_cons_zero, List.getD_cons_succ, List.getElem?_toArray, List.getElem?_cons_zero, List.getElem?_cons_succ, endQ, cfg_P, cfg_tab, cfg_muts, cfg_frz, List.map_nil, List.length_map, ↓havoc_in, ↓havoc_out, List.contains_cons, List.contains_nil, Bool.or_false, Bool.or_true, Int.ofNat_lt, decide_true, Option.some.injEq, exists_eq_left', tabOf_cons, tab_v, Bool.and_self, Nat.reduceEqDiff, List.cons_append, List.nil_append, List.append_nil, updO_same, List.length_cons, List.length_nil, Nat.zero_add, List.drop_zero, List.take_zero, Nat.reduceAdd, List.set_cons_zero, nth_zero, Nat.lt_succ_self, Nat.le_refl, cells_int, pur_int, isCell_int, isCell_lits, cells_agg, DRx_int, DRx_nils_lits, DRx_agg, DRxL_cons, DRxL_nil, ↓ev_tmp, ↓ev_int, ↓ev_func, ↓guardP_eq, grd_some, ↓iop_move, ↓iop_assign, ↓pick3_bool, ↓iop_pick, ↓iop_build, ↓iop_load, ↓iop_store, ↓iop_binOp, ↓iop_fieldAddr, ↓iop_callv, ↓iop_callb, nrmAll_cons, nrmAll_nil, bi_len, lenM_none, nrm_int, pickP_f, pickP_t, loadP_vptr, loadP_ptr, setCells_agg, storeP_ptr, fieldP_vptr, fieldP_ptr, lenP_lits, b_lss, fill_nil, fill_cons, fill1_some, buildP_eq, bldA_none, splice_eq, env0_eq, ires_eq, iresL_1, iresAll_nil, iresAll_cons, iresOne_cell, valT_eq, pursL_cons, pursL_nil, Store.set, ↓reduceIte, arr_eq, arrB_some, callP_eq, List.take_succ_cons, List.drop_succ_cons, List.drop_nil, List.take_nil, ↓evs_cons, ↓evs_nil, ↓evp_cons, ↓evp_nil, beq_self_eq_true, List.all_cons, List.all_nil, see_eq, and_false, Bool.true_eq_false, s_in, nth_reps, pur_reps, Try.f20, ty3, ty22, ty24, ty44, ty56, h53, h11, h12, h02, h12', h22, hm2, n0, n1, n2, m0, m1, m2, hilt, hg2, hi64, hgi, hai, hac, af_at, hl.2.1]
        · have e : i = rs.length := by omega
          subst e
          have hwl := withT_len (rs := rs) (g := g) k
          have hz : ac rs k &&& g = 0 := (and_zero_lt hl.2.2.1).2 hno
          have hbs : badW rs g (k + 1) = false := by simp [badW, hgk, hz, hb]
          simp +contextual (maxSteps := 4000000) only [↓ur_seq, ↓ur_exit, ↓ur_region, ↓ur_cond, ↓cont_seq, ↓cont_blk, ↓cont_lp, ↓leave_seq, ↓leave_blk, ↓leave_lp, ↓ops_consN, nY_move, nY_assign, nY_build, nY_buildSlice, nY_load, nY_store, nY_binOp, nY_fieldAddr, nY_callb, ↓ops_nil, opsIf_some, opsIf_none, opsIf_if, condC_false, Option.map_some, Option.bind_some, Option.getD_some, Nat.reduceLT, Bool.false_eq_true, ↓upd_same, ↓upd_ne, Nat.reduceBEq, true_and, and_true, List.getElem?_cons_zero, List.getElem?_cons_succ, cfg_P, cfg_muts, cfg_frz, cfg_num, numOf_eq, List.length_map, ↓havoc_in, ↓havoc_out, agree_upd, List.contains_cons, List.contains_nil, Bool.or_false, Bool.or_true, Int.ofNat_lt, decide_false, Option.some.injEq, exists_eq_left', PV.int.injEq, PV.agg.injEq, List.cons.injEq, List.cons_append, List.nil_append, List.append_nil, GS_ref, updO_same, updO_ne, List.length_cons, List.length_nil, Nat.zero_add, Nat.add_zero, List.drop_zero, List.take_zero, Nat.not_succ_le_self, Nat.reduceAdd, List.replicate_succ, List.replicate_zero, List.set_cons_zero, Nat.reduceMul, Nat.reduceLeDiff, nth_zero, IObj.arr.injEq, Nat.lt_irrefl, Nat.lt_succ_self, reduceCtorEq, not_false_eq_true, take_map_len, or_false, Nat.le_refl, cells_int, cells_ref, cells_agg, ↓ev_tmp, ↓ev_int, ↓iop_move, ↓iop_assign, ↓iop_build, ↓iop_buildSlice, ↓iop_load, ↓iop_store, ↓iop_binOp, ↓iop_fieldAddr, ↓iop_callb, bi_len, lenM_none, bi_append, pickP_f, loadP_vptr, loadP_ptr, setCells_agg, storeP_ptr, fieldP_vptr, fieldP_ptr, lenP_lits, elemsP_lits, appendP_ref, b_add, b_lss, fill_nil, fill_cons, fill1_some, buildP_eq, bldA_none, bel_nil, bel_cons, splice_eq, Store.set, ↓reduceIte, arr_eq, arrB_some, bslP_eq, ne_eq, List.take_succ_cons, List.drop_succ_cons, List.drop_nil, ↓evs_cons, ↓evs_nil, ↓evp_cons, ↓evp_nil, beq_self_eq_true, see_eq, nth_reps, pur_reps, Try.f20, ty3, ty22, ty24, ty56, h53, h11, h12, h02, h12', h22, hm2, n0, n1, n2, m0, m1, m2, h36, tk_at, du_at, ch_at, af_at, hl.2.1]
          refine ⟨by omega, ?_, hw k hlt, hbs, ⟨by simp [withT, hgk], by simp [withT, hgk, withR]⟩, by omega⟩
          rw [agree_havoc_sub (by decide +kernel)]; simp +contextual (maxSteps := 4000000) only [Nat.reduceBEq, agree_upd, agree_havoc, List.contains_cons, List.contains_nil, Bool.or_false, Bool.or_true, beq_self_eq_true, nth_reps, pur_reps, Try.f20]
    · have e : k = rs.length := by omega
      subst e
      rw [hb, if_neg (by simp)] at hwm
      rw [hwm] at hr
      subst hr
      simp +contextual (maxSteps := 4000000) only [↓ur_seq, ↓ur_exit, ↓ur_ret, ↓ur_region, ↓ur_cond, ↓cont_seq, ↓leave_seq, ↓leave_blk, ↓leave_lp, ↓done_nil, ↓ops_consN, nY_move, nY_build, nY_load, nY_store, nY_binOp, nY_fieldAddr, nY_callb, ↓ops_nil, opsIf_some, opsIf_none, condC_false, Option.map_some, Option.bind_some, Option.getD_some, Nat.reduceLT, Bool.false_eq_true, ↓upd_same, ↓upd_ne, Nat.reduceBEq, true_and, and_true, List.getElem?_cons_zero, List.getElem?_cons_succ, endQ, cfg_P, cfg_frz, List.length_map, ↓havoc_in, ↓havoc_out, List.contains_cons, List.contains_nil, Bool.or_false, Int.ofNat_lt, decide_false, Option.some.injEq, exists_eq_left', Bool.and_self, List.cons_append, List.nil_append, List.append_nil, updO_same, updO_ne, List.length_cons, List.length_nil, Nat.zero_add, List.drop_zero, List.take_zero, Nat.reduceAdd, List.set_cons_zero, Nat.reduceLeDiff, nth_zero, Prod.mk.injEq, Nat.lt_irrefl, Nat.lt_succ_self, take_map_len, Nat.le_refl, isCell_int, isCell_lits, cells_agg, DRx_int, DRx_ref, DRx_agg, DRxL_cons, DRxL_nil, ↓ev_tmp, ↓iop_move, ↓iop_build, ↓iop_load, ↓iop_store, ↓iop_binOp, ↓iop_fieldAddr, ↓iop_callb, bi_len, lenM_none, pickP_f, pickP_t, loadP_vptr, loadP_ptr, setCells_agg, storeP_ptr, fieldP_vptr, lenP_lits, b_lss, fill_nil, fill_cons, fill1_some, buildP_eq, bldA_none, splice_eq, ires_eq, iresL_1, iresAll_nil, iresAll_cons, iresOne_cell, Store.set, ↓reduceIte, arr_eq, arrB_some, List.take_succ_cons, List.drop_succ_cons, List.drop_nil, List.take_nil, ↓evs_cons, ↓evs_nil, ↓evp_cons, ↓evp_nil, beq_self_eq_true, List.all_cons, List.all_nil, see_eq, nth_reps, pur_reps, Try.f20, ty22, ty24, ty44, h36, h0, h1, h2]
theorem o_rWith : O_rWith := k_rWith c_rWith

/-! Crowds. -/
def maxT (im : List Int) (g : Nat) : Nat → Int
  | 0 => -1099511627776
  | k + 1 => if g.testBit k = true then (if maxT im g k < im.getD k 0 then im.getD k 0 else maxT im g k) else maxT im g k
def crowdedM (st : Int) (rs : List Rep) (s : Int) : Bool :=
  decide (checkM st rs = 0) && (decide (1 ≤ s ∧ s ≤ ((2 ^ rs.length - 1 : Nat) : Int)) && decide (maxT (impM rs) s.toNat rs.length < st + loadM rs s.toNat))
theorem impM_len {rs : List Rep} : (impM rs).length = rs.length := impR_len _
noncomputable def A_Crowded : (Int) × (List Rep) × (Int) → List PV := fun (st, rs, s) => [.agg [I st, reps rs], I s]
noncomputable def R_Crowded : (Int) × (List Rep) × (Int) → PV := fun (st, rs, s) => B (crowdedM st rs s)
def H_Crowded : (Int) × (List Rep) × (Int) → Prop := fun (st, rs, s) => True
noncomputable def e_Crowded : Nat × Ent := (25, .v (specOf A_Crowded R_Crowded H_Crowded))
theorem j_Crowded : ∀ i j, A_Crowded i = A_Crowded j → i = j := by
  rintro ⟨st₁, rs₁, s₁⟩ ⟨st₂, rs₂, s₂⟩ h
  simp only [A_Crowded, List.cons.injEq, and_true, PV.lits.injEq, PV.int.injEq, PV.bool.injEq, PV.str.injEq, PV.agg.injEq, PV.func.injEq, PV.vptr.injEq, true_and, List.map_nil, inj_ints, inj_strs, inj_reps] at h
  simp [Prod.ext_iff, h] <;> omega
theorem s_Crowded (st : Int) (rs : List Rep) (s : Int) : specOf A_Crowded R_Crowded H_Crowded [.agg [I st, reps rs], I s] = some (B (crowdedM st rs s)) := specOf_app j_Crowded (i := (st, rs, s)) trivial
def C_Crowded : Prop := ∀ (st : Int) (rs : List Rep) (s : Int) , VC Try.prog 25 [.agg [I st, reps rs], I s] (B (crowdedM st rs s))
def O_Crowded : Prop := EntOK Try.prog e_Crowded.1 e_Crowded.2
theorem k_Crowded (c : C_Crowded) : O_Crowded := specOf_ok fun ⟨st, rs, s⟩ h => c st rs s
theorem c_Crowded : C_Crowded := by
  rintro st rs s
  refine vc_ofU mixed (l := [e_check, e_win, e_has, e_imp, e_load]) ((eok_cons o_check (eok_cons o_win (eok_cons o_has (eok_cons o_imp (eok_cons o_load eok_nil)))))) [] []  Try.func25 rfl (by decide +kernel) (N := 47) rfl (by simp) rfl (by kernel_rfl) fun hs => ?_
  simp only [smallL, PV.small, List.length_map, and_true, true_and] at hs
  by_cases h : checkM st rs = 0
  case neg =>
    rw [show crowdedM st rs s = false by simp [crowdedM, h]]
    generalize hr : checkM st rs = r at *
    simp +contextual (maxSteps := 4000000) only [↓ur_seq, ↓ur_ret, ↓ur_region, ↓ur_cond, ↓cont_seq, ↓done_nil, ↓done_seq, ↓ops_consN, ↓ops_guardN, nY_move, nY_assign, nY_pick, nY_box, nY_load, nY_binOp, nY_unOp, nY_fieldAddr, nY_callf, nY_callb, ↓ops_nil, opsIf_some, condC_true, guardC_tf, Option.map_some, Option.bind_some, Option.getD_some, Nat.reduceLT, Bool.false_eq_true, ↓upd_same, ↓upd_ne, Nat.reduceBEq, and_true, List.getD_cons_zero, List.getElem?_toArray, List.getElem?_cons_zero, List.getElem?_cons_succ, endQ, cfg_P, cfg_tab, cfg_muts, cfg_frz, List.contains_nil, decide_true, Option.some.injEq, exists_eq_left', List.lookup_cons, List.lookup_nil, tabOf_cons, tab_v, Bool.and_self, List.nil_append, List.append_nil, List.length_cons, List.length_nil, Nat.zero_add, List.drop_zero, Nat.reduceAdd, not_false_eq_true, st0, Nat.le_refl, pur_int, pur_lits, cells_agg, pur_agg, DRx_bool, ↓ev_tmp, ↓ev_int, ↓ev_bool, ↓ev_func, ↓guardP_eq, grd_some, ↓iop_move, ↓iop_assign, ↓pick3_bool, ↓iop_pick, ↓iop_box, ↓iop_load, ↓iop_binOp, ↓iop_callv, nrmAll_cons, nrmAll_nil, nrm_agg, nrmL_cons, nrmL_nil, nrm1_int, nrm1_lits, pickP_t, loadP_vptr, b_neq, env0_eq, ires_eq, iresL_1, iresAll_nil, iresAll_cons, iresOne_tmp, valT_eq, pursL_cons, pursL_nil, ↓reduceIte, callP_eq, boxP_eq, List.take_succ_cons, List.take_nil, ↓evs_cons, ↓evs_nil, beq_self_eq_true, see_eq, and_false, Bool.true_eq_false, e_check, s_check, e_win, e_has, e_imp, e_load, nth_reps, pur_reps, Try.f25, ty24, h, hr]
  have hc := check_zero.1 h
  have h10 := hc.len
  have hwm : crowdedM st rs s = (decide (1 ≤ s ∧ s ≤ ((2 ^ rs.length - 1 : Nat) : Int)) && decide (maxT (impM rs) s.toNat rs.length < st + loadM rs s.toNat)) := by simp [crowdedM, h]
  generalize hr : crowdedM st rs s = r
  have hp := pow1024 (k := rs.length) h10
  have hp1 := one_le_pow rs.length
  have hsh := shl1 (k := rs.length) (by omega)
  have h64 : rs.length ≤ 64 := by omega
  have hw1 : IntKind.i64.wrap (((2 ^ rs.length : Nat) : Int) - 1) = ((2 ^ rs.length - 1 : Nat) : Int) := by
    generalize 2 ^ rs.length = q at *
    rw [wrap64 (by omega) (by omega)]; omega
  by_cases hin : 1 ≤ s ∧ s ≤ ((2 ^ rs.length - 1 : Nat) : Int)
  case neg =>
    have : r = false := by rw [← hr, hwm]; simp only [hin, decide_false, Bool.false_and]
    subst this
    simp +contextual (maxSteps := 4000000) only [↓ur_seq, ↓ur_ret, ↓ur_region, ↓ur_cond, ↓cont_seq, ↓done_nil, ↓done_seq, ↓ops_consN, ↓ops_guardN, nY_move, nY_assign, nY_pick, nY_box, nY_load, nY_binOp, nY_unOp, nY_fieldAddr, nY_callf, nY_callb, ↓ops_nil, opsIf_some, opsIf_if', map_if, condC_true, guardC_ff, Option.map_some, Option.map_none, Option.bind_some, Option.getD_some, Nat.reduceLT, Bool.false_eq_true, ↓upd_same, ↓upd_ne, Nat.reduceBEq, true_and, and_true, List.getD_cons_zero, List.getD_cons_succ, List.getElem?_toArray, List.getElem?_cons_zero, List.getElem?_cons_succ, endQ, cfg_P, cfg_tab, cfg_muts, cfg_frz, List.length_map, List.contains_nil, Int.toNat_natCast, decide_false, Option.some.injEq, exists_eq_left', List.lookup_cons, List.lookup_nil, tabOf_cons, tab_v, Bool.and_self, Nat.reduceEqDiff, List.nil_append, List.append_nil, List.length_cons, List.length_nil, Nat.zero_add, List.drop_zero, Nat.reduceAdd, Nat.lt_succ_self, Bool.not_false, not_true_eq_false, st0, Nat.le_refl, pur_int, pur_lits, cells_agg, pur_agg, DRx_bool, ↓ev_tmp, ↓ev_int, ↓ev_bool, ↓ev_func, ↓guardP_eq, grd_some, ↓iop_move, ↓iop_assign, ↓pick3_bool, ↓iop_pick, ↓iop_box, ↓iop_load, ↓iop_binOp, ↓iop_unOp, ↓iop_fieldAddr, ↓iop_callv, ↓iop_callb, nrmAll_cons, nrmAll_nil, bi_len, lenM_none, nrm_agg, nrmL_cons, nrmL_nil, nrm_int, nrm1_int, nrm1_lits, pickP_f, pickP_t, loadP_vptr, fieldP_vptr, lenP_lits, b_sub, b_neq, b_shl, u_not, env0_eq, ires_eq, iresL_1, iresAll_nil, iresAll_cons, iresOne_tmp, valT_eq, pursL_cons, pursL_nil, ↓reduceIte, callP_eq, boxP_eq, List.take_succ_cons, List.take_nil, ↓evs_cons, ↓evs_nil, beq_self_eq_true, see_eq, and_false, Bool.true_eq_false, bits_i64, Nat.min_def, e_check, s_check, e_win, s_win, e_has, e_imp, e_load, nth_reps, pur_reps, Try.f25, ty3, ty22, ty24, h, h64, hsh, hw1, hin]
    omega
  obtain ⟨g, hg⟩ : ∃ g : Nat, s = g := ⟨s.toNat, by omega⟩
  subst hg
  have hwm : crowdedM st rs g = decide (maxT (impM rs) g rs.length < st + loadM rs g) := by rw [hwm]; simp only [hin, and_self, decide_true, Bool.true_and, Int.toNat_natCast]
  have hg2 : g < 9223372036854775808 := by
    generalize 2 ^ rs.length = q at *
    omega
  have hw : ∀ i : Nat, i < rs.length → IntKind.i64.wrap ((i : Int) + 1) = ((i + 1 : Nat) : Int) := fun i g => by rw [wrap64 (by omega) (by omega)]; omega
  simp +contextual (maxSteps := 4000000) only [↓ur_skip, ↓ur_seq, ↓ur_block, ↓ur_region, ↓ur_cond, ↓cont_seq, ↓ops_consN, ↓ops_guardN, nY_move, nY_assign, nY_pick, nY_box, nY_load, nY_binOp, nY_unOp, nY_makeFunc, nY_fieldAddr, nY_callf, nY_callb, ↓ops_nil, opsIf_some, opsIf_if', map_if, condC_false, guardC_ff, Option.map_some, Option.map_none, Option.bind_some, Option.getD_some, Nat.reduceLT, Bool.false_eq_true, ↓upd_same, ↓upd_ne, Nat.reduceBEq, true_and, and_true, List.getD_cons_zero, List.getD_cons_succ, List.getElem?_toArray, List.getElem?_cons_zero, List.getElem?_cons_succ, cfg_P, cfg_tab, cfg_muts, cfg_frz, List.length_map, List.contains_nil, Int.toNat_natCast, decide_true, decide_false, List.lookup_cons, List.lookup_nil, tabOf_cons, tab_v, Bool.and_self, Nat.reduceEqDiff, List.nil_append, List.append_nil, List.length_cons, List.length_nil, Nat.zero_add, List.drop_zero, Nat.reduceAdd, Nat.lt_succ_self, Bool.not_true, not_true_eq_false, st0, Nat.le_refl, pur_int, pur_lits, cells_agg, pur_agg, ↓ev_tmp, ↓ev_int, ↓ev_bool, ↓ev_func, ↓guardP_eq, grd_some, ↓iop_move, ↓iop_assign, ↓pick3_bool, ↓iop_pick, ↓iop_box, ↓iop_load, ↓iop_binOp, ↓iop_unOp, ↓iop_makeFunc, ↓iop_fieldAddr, ↓iop_callv, ↓iop_callb, nrmAll_cons, nrmAll_nil, bi_len, lenM_none, nrm_agg, nrmL_cons, nrmL_nil, nrm_int, nrm1_int, nrm1_lits, pickP_f, pickP_t, loadP_vptr, fieldP_vptr, lenP_lits, b_sub, b_neq, b_shl, u_not, env0_eq, valT_eq, pursL_cons, pursL_nil, ↓reduceIte, callP_eq, boxP_eq, List.take_succ_cons, List.take_nil, ↓evs_cons, ↓evs_nil, beq_self_eq_true, see_eq, and_false, Bool.true_eq_false, bits_i64, Nat.min_def, e_check, s_check, e_win, s_win, e_has, e_imp, s_imp, e_load, nth_reps, pur_reps, Try.f25, ty3, ty22, ty24, ty25, h, h64, hsh, hw1, hin, hc]
  refine ⟨by omega, ?_⟩
  refine loop_cnt [6, 7, 8, 27, 28, 29, 30, 31, 32, 33, 34, 35, 36, 37, 38] rs.length (fun k ρ st' => ρ 27 = I k ∧ ρ 6 = I (maxT (impM rs) g k)) (.refl _) ?_ ?_
  · simp +contextual (maxSteps := 4000000) only [↓upd_same, ↓upd_ne, Nat.reduceBEq, true_and, PV.int.injEq, Int.cast_ofNat_Int, nth_reps, pur_reps, Try.f25]
    simp [maxT]
  · rintro k ρ ⟨ob, M⟩ hk ⟨h36, h6⟩
    by_cases hlt : k < rs.length
    · have hk64 : k ≤ 64 := by omega
      cases hgk : g.testBit k <;> simp +contextual (maxSteps := 4000000) only [↓ur_skip, ↓ur_seq, ↓ur_block, ↓ur_region, ↓ur_cond, ↓cont_seq, ↓cont_blk, ↓cont_lp, ↓ops_consN, nY_move, nY_assign, nY_load, nY_binOp, nY_indexAddr, nY_callb, nY_callt, isNone_none, cfg_yl, ↓ops_nil, opsIf_some, condC_true, condC_false, Option.map_some, Option.bind_some, Option.getD_some, Nat.reduceLT, Bool.false_eq_true, ↓upd_same, ↓upd_ne, Nat.reduceBEq, true_and, and_true, List.getElem?_cons_zero, cfg_P, cfg_tab, cfg_muts, cfg_frz, List.length_map, ↓havoc_in, ↓havoc_out, agree_upd, agree_havoc, List.contains_cons, List.contains_nil, Bool.or_false, Bool.or_true, Int.natCast_nonneg, Int.ofNat_lt, Int.toNat_natCast, nth_int, decide_true, PV.int.injEq, tabOf_cons, tab_v, Bool.and_self, Nat.reduceEqDiff, List.cons_append, List.nil_append, List.append_nil, Nat.lt_succ_self, cells_int, pur_int, ↓ev_tmp, ↓ev_int, ↓iop_move, ↓iop_assign, ↓iop_load, ↓iop_binOp, ↓iop_indexAddr, idxA_int, ↓iop_callv, ↓iop_callb, nrmAll_cons, nrmAll_nil, bi_max, nrm_int, pickP_f, loadP_vptr, indexP_lits, b_add, b_lss, valT_eq, pursL_cons, pursL_nil, ↓reduceIte, callP_eq, ↓evs_cons, ↓evs_nil, beq_self_eq_true, see_eq, and_false, Bool.true_eq_false, s_has, nth_reps, pur_reps, Try.f25, ty3, ty25, h36, h6, impM_len, hlt, hg2, hk64, hgk, maxT]
      · exact hw k hlt
      · exact hw k hlt
    · have e : k = rs.length := by omega
      subst e
      have hb := load_bound hc.tk g rs.length (Nat.le_refl _)
      have hst := hc.start
      have hwl : IntKind.i64.wrap (st + loadM rs g) = st + loadM rs g := wrap64 (by unfold loadM; omega) (by unfold loadM; omega)
      simp +contextual (maxSteps := 4000000) only [↓ur_seq, ↓ur_exit, ↓ur_ret, ↓ur_region, ↓ur_cond, ↓cont_seq, ↓leave_seq, ↓leave_blk, ↓leave_lp, ↓done_nil, ↓ops_consN, nY_move, nY_assign, nY_load, nY_binOp, nY_fieldAddr, nY_callf, ↓ops_nil, opsIf_some, condC_false, Option.map_some, Option.bind_some, Option.getD_some, Nat.reduceLT, Bool.false_eq_true, ↓upd_same, ↓upd_ne, Nat.reduceBEq, true_and, and_true, List.getElem?_cons_zero, endQ, cfg_P, cfg_tab, cfg_muts, cfg_frz, ↓havoc_in, ↓havoc_out, List.contains_cons, List.contains_nil, Bool.or_false, Bool.or_true, Int.ofNat_lt, decide_false, Option.some.injEq, exists_eq_left', List.lookup_cons, List.lookup_nil, tabOf_cons, tab_v, Bool.and_self, Nat.reduceEqDiff, List.nil_append, List.append_nil, List.length_cons, List.length_nil, Nat.zero_add, Nat.add_zero, List.drop_zero, Nat.reduceAdd, Nat.lt_irrefl, Nat.lt_succ_self, Nat.le_refl, pur_int, pur_lits, pur_func, pur_agg, DRx_bool, ↓ev_tmp, ↓ev_func, ↓iop_move, ↓iop_assign, ↓iop_load, ↓iop_binOp, ↓iop_fieldAddr, ↓iop_callv, nrmAll_cons, nrmAll_nil, nrm_agg, nrmL_cons, nrmL_nil, nrm_func, nrm1_int, nrm1_lits, pickP_f, pickP_t, loadP_vptr, fieldP_vptr, b_add, b_lss, b_gtr, ires_eq, iresL_1, iresAll_nil, iresAll_cons, iresOne_tmp, valT_eq, pursL_cons, pursL_nil, ↓reduceIte, callP_eq, List.take_succ_cons, List.take_nil, ↓evs_cons, ↓evs_nil, beq_self_eq_true, see_eq, and_false, Bool.true_eq_false, s_load, nth_reps, pur_reps, Try.f25, ty3, ty24, ty66, h36, h6, impM_len, hg2, hc.tk, hwl]
      rw [← hr, hwm]
theorem o_Crowded : O_Crowded := k_Crowded c_Crowded
end Sim
