/- What functions of this seat compute, by values: contracts (lemmas of the statement's proof, under the conditions that each names). -/
import Derived.Test.YtpdaiflnibekaaaQB1
import Derived.Test.YtpdaiflnibekaaaQI
namespace Sim
open Go Go.Proofs
set_option maxRecDepth 10000
set_option maxHeartbeats 2000000
set_option linter.unusedVariables false
set_option linter.unusedSimpArgs false
attribute [local congr] opsIf_congr condC_congr guardC_congr grd_congr pick3_congr obind_congr omap_congr

local instance : Fuel := ⟨11⟩
theorem o_rbest : O_rbest := o_rbest11
def rbestM (st : Int) (rs : List Rep) : List Int × Int := if checkM st rs ≠ 0 then ([], checkM st rs) else refB st rs rs.length []
noncomputable def A_rBest : (Int) × (List Rep) → List PV := fun (st, rs) => [.agg [I st, reps rs]]
noncomputable def R_rBest : (Int) × (List Rep) → PV := fun (st, rs) => .agg [ints (rbestM st rs).1, I (rbestM st rs).2]
def H_rBest : (Int) × (List Rep) → Prop := fun (st, rs) => True
noncomputable def e_rBest : Nat × Ent := (28, .v (specOf A_rBest R_rBest H_rBest))
theorem j_rBest : ∀ i j, A_rBest i = A_rBest j → i = j := by
  rintro ⟨st₁, rs₁⟩ ⟨st₂, rs₂⟩ h
  simp only [A_rBest, List.cons.injEq, and_true, PV.lits.injEq, PV.int.injEq, PV.bool.injEq, PV.str.injEq, PV.agg.injEq, PV.func.injEq, PV.vptr.injEq, true_and, List.map_nil, inj_ints, inj_strs, inj_reps] at h
  simp [Prod.ext_iff, h] <;> omega
theorem s_rBest (st : Int) (rs : List Rep) : specOf A_rBest R_rBest H_rBest [.agg [I st, reps rs]] = some (.agg [ints (rbestM st rs).1, I (rbestM st rs).2]) := specOf_app j_rBest (i := (st, rs)) trivial
def C_rBest : Prop := ∀ (st : Int) (rs : List Rep) , VC Try.prog 28 [.agg [I st, reps rs]] (.agg [ints (rbestM st rs).1, I (rbestM st rs).2])
def O_rBest : Prop := EntOK Try.prog e_rBest.1 e_rBest.2
theorem k_rBest (c : C_rBest) : O_rBest := specOf_ok fun ⟨st, rs⟩ h => c st rs
theorem c_rBest : C_rBest := by
  intro st rs
  refine vc_ofU mixed (l := [e_rcheck, e_rbest]) ((eok_cons o_rcheck (eok_cons o_rbest eok_nil))) [] []  Try.func28 rfl (by decide +kernel) (N := 12) rfl (by simp) rfl (by kernel_rfl) fun hs => ?_
  simp only [smallL, PV.small, List.length_map, and_true, true_and] at hs
  by_cases h : checkM st rs = 0
  case neg =>
    rw [show rbestM st rs = ([], checkM st rs) by simp [rbestM, h]]
    generalize hr : checkM st rs = r at *
    simp +contextual (maxSteps := 4000000) only [↓ur_seq, ↓ur_ret, ↓ur_region, ↓ur_cond, ↓cont_seq, ↓done_nil, ↓done_seq, ↓ops_consN, nY_move, nY_assign, nY_alloc, nY_box, nY_build, nY_load, nY_store, nY_binOp, nY_callf, ↓ops_nil, opsIf_some, opsIf_none, condC_true, Option.map_some, Option.bind_some, Option.getD_some, Nat.reduceLT, Bool.false_eq_true, ↓upd_same, ↓upd_ne, Nat.reduceBEq, and_true, List.getD_cons_zero, endQ, cfg_P, cfg_tab, cfg_muts, cfg_frz, cfg_num, numOf_eq, List.map_nil, List.contains_nil, decide_true, Option.some.injEq, exists_eq_left', List.lookup_cons, List.lookup_nil, tabOf_cons, tab_v, Bool.and_self, List.cons_append, List.nil_append, List.append_nil, updO_same, List.length_cons, List.length_nil, Nat.zero_add, List.drop_zero, List.take_zero, Nat.reduceAdd, List.set_cons_zero, nth_zero, Nat.lt_succ_self, not_false_eq_true, st0, Nat.le_refl, cells_int, pur_int, isCell_int, pur_lits, isCell_lits, cells_agg, pur_agg, DRx_int, DRx_nils_lits, DRx_agg, DRxL_cons, DRxL_nil, ↓ev_tmp, ↓ev_int, ↓ev_func, ↓iop_move, ↓iop_assign, ↓iop_alloc, ↓iop_box, ↓iop_build, ↓iop_load, ↓iop_store, ↓iop_binOp, ↓iop_callv, nrmAll_cons, nrmAll_nil, nrm_agg, nrmL_cons, nrmL_nil, nrm1_int, nrm1_lits, pickP_t, loadP_vptr, loadP_ptr, setCells_agg, storeP_ptr, b_neq, fill_nil, fill_cons, fill1_some, buildP_eq, bldA_none, splice_eq, env0_eq, ires_eq, iresL_1, iresAll_nil, iresAll_cons, iresOne_cell, valT_eq, pursL_cons, pursL_nil, Store.new, Store.set, ↓reduceIte, arr_eq, arrB_some, callP_eq, boxP_eq, List.take_succ_cons, List.drop_succ_cons, List.drop_nil, List.take_nil, ↓evs_cons, ↓evs_nil, ↓evp_cons, ↓evp_nil, beq_self_eq_true, List.all_cons, List.all_nil, see_eq, and_false, Bool.true_eq_false, e_rcheck, s_rcheck, e_rbest, nth_reps, pur_reps, Try.f28, ty24, ty32, h, hr]
  have h10 := (check_zero.1 h).len
  rw [show rbestM st rs = refB st rs rs.length [] by simp [rbestM, h]]
  have hs0 : specOf A_rbest R_rbest H_rbest [.agg [I st, .lits 4 (rs.map repV)], .lits 1 []] = some (.agg [ints (refB st rs rs.length []).1, I (refB st rs rs.length []).2]) := by
    have := s_rbest st rs []
    rw [if_pos ⟨h10, Nat.zero_le _, show rs.length - 0 < 11 by omega⟩] at this
    exact this
  generalize refB st rs rs.length [] = b at *
  simp +contextual (maxSteps := 4000000) only [↓ur_skip, ↓ur_seq, ↓ur_ret, ↓ur_region, ↓ur_cond, ↓cont_seq, ↓done_nil, ↓ops_consN, nY_move, nY_assign, nY_alloc, nY_box, nY_load, nY_store, nY_binOp, nY_callf, ↓ops_nil, opsIf_some, opsIf_none, condC_false, Option.map_some, Option.bind_some, Option.getD_some, Nat.reduceLT, Bool.false_eq_true, ↓upd_same, ↓upd_ne, Nat.reduceBEq, and_true, List.getD_cons_zero, endQ, cfg_P, cfg_tab, cfg_muts, cfg_frz, cfg_num, numOf_eq, List.contains_nil, decide_false, Option.some.injEq, exists_eq_left', List.lookup_cons, List.lookup_nil, tabOf_cons, tab_v, pur_ints, Bool.and_self, Nat.reduceEqDiff, List.nil_append, List.append_nil, updO_same, List.length_cons, List.length_nil, Nat.zero_add, List.drop_zero, List.take_zero, Nat.reduceAdd, List.set_cons_zero, nth_zero, Nat.lt_succ_self, not_true_eq_false, st0, Nat.le_refl, pur_int, isCell_int, pur_lits, isCell_lits, cells_agg, pur_agg, DRx_int, DRx_lits, DRx_agg, DRxL_cons, DRxL_nil, ↓ev_tmp, ↓ev_int, ↓ev_nils, ↓ev_func, ↓iop_move, ↓iop_assign, ↓iop_alloc, ↓iop_box, ↓iop_load, ↓iop_store, ↓iop_binOp, ↓iop_callv, nrmAll_cons, nrmAll_nil, nrm_agg, nrmL_cons, nrmL_nil, nrm_nils, nrm1_some, nrm1_int, nrm1_lits, pickP_t, loadP_vptr, loadP_ptr, setCells_agg, storeP_ptr, b_neq, splice_eq, env0_eq, ires_eq, iresL_1, iresAll_nil, iresAll_cons, iresOne_cell, valT_eq, pursL_cons, pursL_nil, Store.new, Store.set, ↓reduceIte, arr_eq, arrB_some, callP_eq, boxP_eq, List.take_succ_cons, List.drop_succ_cons, List.drop_nil, List.take_nil, ↓evs_cons, ↓evs_nil, beq_self_eq_true, List.all_cons, List.all_nil, see_eq, and_false, Bool.true_eq_false, e_rcheck, s_rcheck, e_rbest, nth_reps, pur_reps, Try.f28, ty24, ty25, ty32, h, hs0]
theorem o_rBest : O_rBest := k_rBest c_rBest

/-- The set given up, as the document has it. -/
def rgS (st : Int) (rs : List Rep) (s : Nat) : Option Nat → Option Nat
  | none => if (withM st rs (s : Int)).2 = 0 then if (rbestM (withM st rs (s : Int)).1.1 (withM st rs (s : Int)).1.2).2 = 0 then some s else none else none
  | some n => if (withM st rs (s : Int)).2 = 0 then if chanceM rs s < chanceM rs n then if (rbestM (withM st rs (s : Int)).1.1 (withM st rs (s : Int)).1.2).2 = 0 then some s else some n else some n else some n
def rgT (st : Int) (rs : List Rep) : Nat → Option Nat
  | 0 => none
  | s + 1 => rgS st rs s (rgT st rs s)
def rgI : Option Nat → Int
  | none => -1
  | some n => n
def rgiveM (st : Int) (rs : List Rep) : Int × Int := if checkM st rs ≠ 0 then (0, checkM st rs) else (rgI (rgT st rs (2 ^ rs.length)), 0)
theorem rgT_lt {st : Int} {rs : List Rep} : ∀ {s n : Nat}, rgT st rs s = some n → n < s
  | 0, n, h => by cases h
  | s + 1, n, h => by
    have ih := @rgT_lt st rs s
    simp only [rgT] at h
    generalize rgT st rs s = a at *
    cases a with
    | none =>
      simp only [rgS] at h
      repeat' split at h
      all_goals first | (cases h; omega) | cases h
    | some m =>
      have := ih (n := m) rfl
      simp only [rgS] at h
      repeat' split at h
      all_goals (cases h; omega)
noncomputable def A_rGive : (Int) × (List Rep) → List PV := fun (st, rs) => [.agg [I st, reps rs]]
noncomputable def R_rGive : (Int) × (List Rep) → PV := fun (st, rs) => .agg [I (rgiveM st rs).1, I (rgiveM st rs).2]
def H_rGive : (Int) × (List Rep) → Prop := fun (st, rs) => True
noncomputable def e_rGive : Nat × Ent := (30, .v (specOf A_rGive R_rGive H_rGive))
theorem j_rGive : ∀ i j, A_rGive i = A_rGive j → i = j := by
  rintro ⟨st₁, rs₁⟩ ⟨st₂, rs₂⟩ h
  simp only [A_rGive, List.cons.injEq, and_true, PV.lits.injEq, PV.int.injEq, PV.bool.injEq, PV.str.injEq, PV.agg.injEq, PV.func.injEq, PV.vptr.injEq, true_and, List.map_nil, inj_ints, inj_strs, inj_reps] at h
  simp [Prod.ext_iff, h] <;> omega
theorem s_rGive (st : Int) (rs : List Rep) : specOf A_rGive R_rGive H_rGive [.agg [I st, reps rs]] = some (.agg [I (rgiveM st rs).1, I (rgiveM st rs).2]) := specOf_app j_rGive (i := (st, rs)) trivial
def C_rGive : Prop := ∀ (st : Int) (rs : List Rep) , VC Try.prog 30 [.agg [I st, reps rs]] (.agg [I (rgiveM st rs).1, I (rgiveM st rs).2])
def O_rGive : Prop := EntOK Try.prog e_rGive.1 e_rGive.2
theorem k_rGive (c : C_rGive) : O_rGive := specOf_ok fun ⟨st, rs⟩ h => c st rs
theorem c_rGive : C_rGive := by
  intro st rs
  refine vc_ofU mixed (l := [e_rcheck, e_bit, e_rWith, e_chance, e_rBest]) ((eok_cons o_rcheck (eok_cons o_bit (eok_cons o_rWith (eok_cons o_chance (eok_cons o_rBest eok_nil)))))) [] []  Try.func30 rfl (by decide +kernel) (N := 50) rfl (by simp) rfl (by kernel_rfl) fun hs => ?_
  simp only [smallL, PV.small, List.length_map, and_true, true_and] at hs
  by_cases h : checkM st rs = 0
  case neg =>
    rw [show rgiveM st rs = (0, checkM st rs) by simp [rgiveM, h]]
    generalize hr : checkM st rs = r at *
    simp +contextual (maxSteps := 4000000) only [↓ur_seq, ↓ur_ret, ↓ur_region, ↓ur_cond, ↓cont_seq, ↓done_nil, ↓done_seq, ↓ops_consN, nY_move, nY_assign, nY_alloc, nY_box, nY_build, nY_load, nY_store, nY_binOp, nY_callf, ↓ops_nil, opsIf_some, opsIf_none, condC_true, Option.map_some, Option.bind_some, Option.getD_some, Nat.reduceLT, Bool.false_eq_true, ↓upd_same, ↓upd_ne, Nat.reduceBEq, and_true, List.getD_cons_zero, endQ, cfg_P, cfg_tab, cfg_muts, cfg_frz, cfg_num, numOf_eq, List.contains_nil, decide_true, Option.some.injEq, exists_eq_left', List.lookup_cons, List.lookup_nil, tabOf_cons, tab_v, Bool.and_self, List.cons_append, List.nil_append, List.append_nil, updO_same, List.length_cons, List.length_nil, Nat.zero_add, List.drop_zero, List.take_zero, Nat.reduceAdd, List.set_cons_zero, nth_zero, Nat.lt_succ_self, not_false_eq_true, st0, Nat.le_refl, cells_int, pur_int, isCell_int, pur_lits, cells_agg, pur_agg, DRx_int, DRx_agg, DRxL_cons, DRxL_nil, ↓ev_tmp, ↓ev_int, ↓ev_func, ↓iop_move, ↓iop_assign, ↓iop_alloc, ↓iop_box, ↓iop_build, ↓iop_load, ↓iop_store, ↓iop_binOp, ↓iop_callv, nrmAll_cons, nrmAll_nil, nrm_agg, nrmL_cons, nrmL_nil, nrm1_int, nrm1_lits, pickP_t, loadP_vptr, loadP_ptr, setCells_agg, storeP_ptr, b_neq, fill_nil, fill_cons, fill1_some, buildP_eq, bldA_none, splice_eq, env0_eq, ires_eq, iresL_1, iresAll_nil, iresAll_cons, iresOne_cell, valT_eq, pursL_cons, pursL_nil, Store.new, Store.set, ↓reduceIte, arr_eq, arrB_some, callP_eq, boxP_eq, List.take_succ_cons, List.drop_succ_cons, List.drop_nil, List.take_nil, ↓evs_cons, ↓evs_nil, ↓evp_cons, ↓evp_nil, beq_self_eq_true, List.all_cons, List.all_nil, see_eq, and_false, Bool.true_eq_false, e_rcheck, s_rcheck, e_bit, e_rWith, e_chance, e_rBest, nth_reps, pur_reps, Try.f30, ty24, ty39, h, hr]
  have hc := check_zero.1 h
  have h10 := hc.len
  have hch := hc.ch
  rw [show rgiveM st rs = (rgI (rgT st rs (2 ^ rs.length)), 0) by simp [rgiveM, h]]
  have hp := pow1024 (k := rs.length) h10
  have hp1 := one_le_pow rs.length
  have h60 : rs.length ≤ 60 := by omega
  simp +contextual (maxSteps := 4000000) only [↓ur_skip, ↓ur_seq, ↓ur_block, ↓ur_region, ↓ur_cond, ↓cont_seq, ↓ops_consN, nY_move, nY_assign, nY_alloc, nY_box, nY_load, nY_binOp, nY_callf, ↓ops_nil, opsIf_some, condC_false, Option.map_some, Option.bind_some, Option.getD_some, Nat.reduceLT, Bool.false_eq_true, ↓upd_same, ↓upd_ne, Nat.reduceBEq, true_and, and_true, List.getD_cons_zero, cfg_P, cfg_tab, cfg_muts, cfg_frz, cfg_num, numOf_eq, List.contains_nil, decide_false, List.lookup_cons, List.lookup_nil, tabOf_cons, tab_v, Bool.and_self, List.nil_append, List.append_nil, List.length_cons, List.length_nil, Nat.zero_add, List.drop_zero, Nat.reduceAdd, not_true_eq_false, st0, Nat.le_refl, pur_int, pur_lits, cells_agg, pur_agg, ↓ev_tmp, ↓ev_int, ↓ev_func, ↓iop_move, ↓iop_assign, ↓iop_alloc, ↓iop_box, ↓iop_load, ↓iop_binOp, ↓iop_callv, nrmAll_cons, nrmAll_nil, nrm_agg, nrmL_cons, nrmL_nil, nrm1_int, nrm1_lits, pickP_t, loadP_vptr, b_neq, env0_eq, valT_eq, pursL_cons, pursL_nil, Store.new, ↓reduceIte, callP_eq, boxP_eq, List.take_succ_cons, List.take_nil, ↓evs_cons, ↓evs_nil, beq_self_eq_true, see_eq, and_false, Bool.true_eq_false, e_rcheck, s_rcheck, e_bit, e_rWith, e_chance, e_rBest, nth_reps, pur_reps, Try.f30, ty24, ty39, h]
  refine loop_cnt [4, 5, 6, 7, 8, 15, 16, 17, 18, 19, 20, 21, 22, 23, 24, 25, 26, 27, 28, 29, 30, 31, 32, 33, 34, 35, 36, 37, 38, 39, 40, 41, 42, 43, 44, 45, 46, 47] (2 ^ rs.length) (fun s ρ st' => ρ 5 = I s ∧ ρ 4 = I (rgI (rgT st rs s)) ∧ st'.obj 0 = some (.arr 0 2 [.agg [I 0, I 0]]) ∧ 0 < st'.next) (.refl _) ?_ ?_
  · simp +contextual (maxSteps := 4000000) only [↓upd_same, ↓upd_ne, Nat.reduceBEq, and_true, updO_same, Nat.lt_succ_self, Int.cast_ofNat_Int, nth_reps, pur_reps, Try.f30, rgT, rgI]
  · rintro s ρ ⟨ob, M⟩ hs ⟨h5, h4, h0, hM⟩
    dsimp only at h0 hM
    have n0 : ¬ 0 = M := by omega
    have m0 : ¬ M = 0 := by omega
    have n1 : ¬ M = M + 1 := by omega
    have n2 : ¬ 0 = M + 1 := by omega
    by_cases hlt : s < 2 ^ rs.length
    · have hw : IntKind.i64.wrap ((s : Int) + 1) = ((s + 1 : Nat) : Int) := by rw [wrap64 (by omega) (by omega)]; omega
      have hs2 : s < 9223372036854775808 := by omega
      have hstep : rgT st rs (s + 1) = rgS st rs s (rgT st rs s) := rfl
      have hlt2 := @rgT_lt st rs s
      generalize rgT st rs s = a at *
      cases a with
      | none =>
        simp only [rgI] at h4
        simp only [rgS] at hstep
        simp +contextual (maxSteps := 4000000) only [↓ur_skip, ↓ur_seq, ↓ur_block, ↓ur_region, ↓ur_cond, ↓cont_seq, ↓cont_blk, ↓cont_lp, ↓ops_consN, ↓ops_guardN, nY_move, nY_assign, nY_pick, nY_alloc, nY_load, nY_store, nY_binOp, nY_fieldAddr, nY_callf, nY_callb, ↓ops_nil, opsIf_some, opsIf_none, condC_true, guardC_tf, Option.map_some, Option.bind_some, Option.getD_some, Nat.reduceLT, Bool.false_eq_true, ↓upd_same, ↓upd_ne, Nat.reduceBEq, true_and, and_true, List.getElem?_toArray, List.getElem?_cons_zero, List.getElem?_cons_succ, cfg_P, cfg_tab, cfg_muts, cfg_frz, cfg_num, numOf_eq, List.length_map, ↓havoc_in, ↓havoc_out, agree_upd, agree_havoc, List.contains_cons, List.contains_nil, Bool.or_false, Bool.or_true, Int.ofNat_lt, decide_true, decide_false, PV.int.injEq, List.lookup_cons, List.lookup_nil, tabOf_cons, tab_v, Bool.and_self, Nat.reduceEqDiff, List.nil_append, List.append_nil, updO_same, updO_ne, List.length_cons, List.length_nil, Nat.zero_add, Nat.add_zero, List.drop_zero, List.take_zero, Nat.reduceAdd, List.set_cons_zero, Nat.reduceLeDiff, nth_zero, Nat.lt_succ_self, not_false_eq_true, Int.reduceLT, Nat.le_refl, pur_int, pur_lits, cells_agg, pur_agg, ↓ev_tmp, ↓ev_int, ↓ev_bool, ↓ev_func, ↓guardP_eq, grd_some, ↓iop_move, ↓iop_assign, ↓pick3_bool, ↓iop_pick, ↓iop_alloc, ↓iop_load, ↓iop_store, ↓iop_binOp, ↓iop_fieldAddr, ↓iop_callv, ↓iop_callb, nrmAll_cons, nrmAll_nil, bi_len, lenM_none, nrm_agg, nrmL_cons, nrmL_nil, nrm_int, nrm1_int, nrm1_lits, pickP_f, pickP_t, loadP_vptr, loadP_ptr, setCells_agg, storeP_ptr, fieldP_vptr, fieldP_ptr, lenP_lits, b_add, b_eql, b_lss, splice_eq, valT_eq, pursL_cons, pursL_nil, Store.new, Store.set, ↓reduceIte, arr_eq, arrB_some, callP_eq, beq_eq_false_iff_ne, ne_eq, Nat.reduceBeqDiff, List.take_succ_cons, List.drop_succ_cons, List.drop_nil, List.take_nil, condC_d, ↓evs_cons, ↓evs_nil, beq_self_eq_true, see_eq, and_false, Bool.true_eq_false, s_bit, s_rWith, s_chance, s_rBest, nth_reps, pur_reps, Try.f30, ty3, ty22, ty24, ty28, ty32, ty44, h5, h4, h0, n0, m0, n1, n2, hlt, hp, h60, hs2, hch, hw]
        rw [hstep]
        generalize withM st rs (s : Int) = w
        generalize rbestM w.1.1 w.1.2 = b
        refine ⟨fun h1 => ⟨fun h2 => ?_, fun h2 => ?_⟩, fun h1 => ?_⟩
        · rw [if_pos h1, if_pos h2]; exact ⟨rfl, by omega⟩
        · rw [if_pos h1, if_neg h2]; exact ⟨rfl, by omega⟩
        · rw [if_neg h1]; exact ⟨rfl, by omega⟩
      | some n =>
        have hn := hlt2 rfl
        simp only [rgI] at h4
        simp only [rgS] at hstep
        have hn2 : n < 9223372036854775808 := by omega
        have hn3 : ¬ (n : Int) < 0 := by omega
        simp +contextual (maxSteps := 4000000) only [↓ur_skip, ↓ur_seq, ↓ur_block, ↓ur_region, ↓ur_cond, ↓cont_seq, ↓cont_blk, ↓cont_lp, ↓ops_consN, ↓ops_guardN, nY_move, nY_assign, nY_pick, nY_alloc, nY_load, nY_store, nY_binOp, nY_fieldAddr, nY_callf, nY_callb, ↓ops_nil, opsIf_some, opsIf_none, condC_true, guardC_ff, Option.map_some, Option.bind_some, Option.getD_some, Nat.reduceLT, Bool.false_eq_true, ↓upd_same, ↓upd_ne, Nat.reduceBEq, true_and, and_true, List.getElem?_toArray, List.getElem?_cons_zero, List.getElem?_cons_succ, cfg_P, cfg_tab, cfg_muts, cfg_frz, cfg_num, numOf_eq, List.length_map, ↓havoc_in, ↓havoc_out, agree_upd, agree_havoc, List.contains_cons, List.contains_nil, Bool.or_false, Bool.or_true, Int.ofNat_lt, decide_true, decide_false, PV.int.injEq, List.lookup_cons, List.lookup_nil, tabOf_cons, tab_v, Bool.and_self, Nat.reduceEqDiff, List.nil_append, List.append_nil, updO_same, updO_ne, List.length_cons, List.length_nil, Nat.zero_add, Nat.add_zero, List.drop_zero, List.take_zero, Nat.reduceAdd, List.set_cons_zero, Nat.reduceLeDiff, nth_zero, Nat.lt_succ_self, not_false_eq_true, Nat.le_refl, pur_int, pur_lits, cells_agg, pur_agg, ↓ev_tmp, ↓ev_int, ↓ev_func, ↓guardP_eq, grd_some, ↓iop_move, ↓iop_assign, ↓pick3_bool, ↓iop_pick, ↓iop_alloc, ↓iop_load, ↓iop_store, ↓iop_binOp, ↓iop_fieldAddr, ↓iop_callv, ↓iop_callb, nrmAll_cons, nrmAll_nil, bi_len, lenM_none, nrm_agg, nrmL_cons, nrmL_nil, nrm_int, nrm1_int, nrm1_lits, pickP_f, pickP_t, loadP_vptr, loadP_ptr, setCells_agg, storeP_ptr, fieldP_vptr, fieldP_ptr, lenP_lits, b_add, b_eql, b_lss, splice_eq, valT_eq, pursL_cons, pursL_nil, Store.new, Store.set, ↓reduceIte, arr_eq, arrB_some, callP_eq, beq_eq_false_iff_ne, ne_eq, Nat.reduceBeqDiff, List.take_succ_cons, List.drop_succ_cons, List.drop_nil, List.take_nil, condC_d, ↓evs_cons, ↓evs_nil, beq_self_eq_true, see_eq, and_false, Bool.true_eq_false, s_bit, s_rWith, s_chance, s_rBest, nth_reps, pur_reps, Try.f30, ty3, ty22, ty24, ty28, ty32, ty44, h5, h4, h0, n0, m0, n1, n2, hlt, hp, h60, hs2, hch, hw, hn2, hn3]
        rw [hstep]
        generalize withM st rs (s : Int) = w
        generalize rbestM w.1.1 w.1.2 = b
        refine ⟨fun h1 => ⟨fun h2 => ⟨fun h3 => ?_, fun h3 => ?_⟩, fun h2 => ?_⟩, fun h1 => ?_⟩
        · rw [if_pos h1, if_pos h2, if_pos h3]; exact ⟨rfl, by omega⟩
        · rw [if_pos h1, if_pos h2, if_neg h3]; exact ⟨rfl, by omega⟩
        · rw [if_pos h1, if_neg h2]; exact ⟨rfl, by omega⟩
        · rw [if_neg h1]; exact ⟨rfl, by omega⟩
    · have e : s = 2 ^ rs.length := by omega
      subst e
      simp +contextual (maxSteps := 4000000) only [↓ur_seq, ↓ur_exit, ↓ur_ret, ↓ur_region, ↓ur_cond, ↓cont_seq, ↓leave_seq, ↓leave_blk, ↓leave_lp, ↓done_nil, ↓ops_consN, nY_move, nY_build, nY_load, nY_store, nY_binOp, nY_fieldAddr, nY_callf, nY_callb, ↓ops_nil, opsIf_some, opsIf_none, condC_false, Option.map_some, Option.bind_some, Option.getD_some, Nat.reduceLT, Bool.false_eq_true, ↓upd_same, ↓upd_ne, Nat.reduceBEq, and_true, List.getElem?_cons_zero, List.getElem?_cons_succ, endQ, cfg_P, cfg_tab, cfg_muts, cfg_frz, List.length_map, ↓havoc_in, ↓havoc_out, List.contains_cons, List.contains_nil, Bool.or_false, Bool.or_true, Int.ofNat_lt, decide_false, Option.some.injEq, exists_eq_left', tabOf_cons, tab_v, Bool.and_self, Nat.reduceEqDiff, List.cons_append, List.nil_append, List.append_nil, updO_same, List.length_cons, List.length_nil, Nat.zero_add, List.drop_zero, List.take_zero, Nat.reduceAdd, List.set_cons_zero, Nat.reduceLeDiff, nth_zero, Nat.lt_irrefl, Nat.lt_succ_self, Nat.le_refl, cells_int, pur_int, isCell_int, cells_agg, DRx_int, DRx_agg, DRxL_cons, DRxL_nil, ↓ev_tmp, ↓ev_func, ↓iop_move, ↓iop_build, ↓iop_load, ↓iop_store, ↓iop_binOp, ↓iop_fieldAddr, ↓iop_callv, ↓iop_callb, nrmAll_cons, nrmAll_nil, bi_len, lenM_none, nrm_int, pickP_f, pickP_t, loadP_vptr, loadP_ptr, setCells_agg, storeP_ptr, fieldP_vptr, lenP_lits, b_lss, fill_nil, fill_cons, fill1_some, buildP_eq, bldA_none, splice_eq, ires_eq, iresL_1, iresAll_nil, iresAll_cons, iresOne_cell, valT_eq, pursL_cons, pursL_nil, Store.set, ↓reduceIte, arr_eq, arrB_some, callP_eq, List.take_succ_cons, List.drop_succ_cons, List.drop_nil, List.take_nil, ↓evs_cons, ↓evs_nil, ↓evp_cons, ↓evp_nil, beq_self_eq_true, List.all_cons, List.all_nil, see_eq, and_false, Bool.true_eq_false, s_bit, nth_reps, pur_reps, Try.f30, ty3, ty22, ty24, ty39, h5, h4, h0, h60]
theorem o_rGive : O_rGive := k_rGive c_rGive
end Sim
