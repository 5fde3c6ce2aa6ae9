/- What functions of this seat compute, by values: contracts (lemmas of the statement's proof, under the conditions that each names). -/
import Derived.Test.YtbojbamchaohpaaQP
namespace Sim
open Go Go.Proofs
set_option maxRecDepth 10000
set_option maxHeartbeats 4000000
set_option linter.unusedVariables false
set_option linter.unusedSimpArgs false
attribute [local congr] opsIf_congr condC_congr guardC_congr grd_congr pick3_congr obind_congr omap_congr
def fckM (hn : Int) (ls : List Lnk) (us : List Snd) (d : Dem) : Int := if fitM hn ls us ≠ 0 then fitM hn ls us else if demM hn d = false then 1 else if 32 < d.2.2.2.2 - d.2.2.2.1 then 2 else 0
theorem fck_zero {hn : Int} {ls : List Lnk} {us : List Snd} {d : Dem} : fckM hn ls us d = 0 ↔ fitM hn ls us = 0 ∧ demM hn d = true ∧ d.2.2.2.2 - d.2.2.2.1 ≤ 32 := by
 unfold fckM
 by_cases h1 : fitM hn ls us = 0
 ·rw [if_neg (fun g => g h1)]
  by_cases h2 : demM hn d = false
  ·rw [if_pos h2]; simp [h2]
  ·rw [if_neg h2]
   by_cases h3 : 32 < d.2.2.2.2 - d.2.2.2.1
   ·rw [if_pos h3]; simp; intro _ _; omega
   ·rw [if_neg h3]; simp [h1]; exact ⟨by simpa using h2, by omega⟩
 ·rw [if_pos h1]; simp [h1]
theorem right_nil {hn : Int} {ls : List Lnk} {us : List Snd} (h : fitM hn ls us = 0) : rightM hn ls [] = 0 := right_zero.2 ⟨(fit_ok h).1.net, by simp, by simp, by simp, by simp, by simp⟩
theorem stock_nil {hn : Int} {ls : List Lnk} {us : List Snd} {d : Dem} (h : fitM hn ls us = 0) : (stockM hn ls [] d 0 0).2 = if demM hn d = false then 1 else 0 := by
 have hh := (fit_ok h).1.net.houses
 unfold stockM
 rw [if_neg (fun g => g (right_nil h))]
 by_cases c : demM hn d = false
 ·rw [if_pos (.inl c), if_pos c]
 ·rw [if_neg (by simp [c, hOK]; omega), if_neg c]
noncomputable def A_fcheck : (Int) × (List Lnk) × (List Snd) × (Dem) → List PV := fun (hn, ls, us, d) => [.agg [I hn, lnks ls], snds us, demV d]
noncomputable def R_fcheck : (Int) × (List Lnk) × (List Snd) × (Dem) → PV := fun (hn, ls, us, d) => I (fckM hn ls us d)
def H_fcheck : (Int) × (List Lnk) × (List Snd) × (Dem) → Prop := fun (hn, ls, us, d) => True
noncomputable def e_fcheck : Nat × Ent := (10, .v (specOf A_fcheck R_fcheck H_fcheck))
theorem j_fcheck : ∀ i j, A_fcheck i = A_fcheck j → i = j := by
 rintro ⟨hn₁, ls₁, us₁, d₁⟩ ⟨hn₂, ls₂, us₂, d₂⟩ h
 simp only [A_fcheck, List.cons.injEq, and_true, PV.lits.injEq, PV.int.injEq, PV.bool.injEq, PV.str.injEq, PV.agg.injEq, PV.func.injEq, Fn.func.injEq, PV.vptr.injEq, true_and, List.map_nil, inj_ints, inj_strs, inj_its, inj_arcs, inj_snds, inj_lnks] at h
 simp [Prod.ext_iff, h] <;> omega
theorem s_fcheck (hn : Int) (ls : List Lnk) (us : List Snd) (d : Dem) : specOf A_fcheck R_fcheck H_fcheck [.agg [I hn, lnks ls], snds us, demV d] = some (I (fckM hn ls us d)) := specOf_app j_fcheck (i := (hn, ls, us, d)) trivial
def C_fcheck : Prop := ∀ (hn : Int) (ls : List Lnk) (us : List Snd) (d : Dem) , VC Try.prog 10 [.agg [I hn, lnks ls], snds us, demV d] (I (fckM hn ls us d))
def O_fcheck : Prop := EntOK Try.prog e_fcheck.1 e_fcheck.2
theorem k_fcheck (c : C_fcheck) : O_fcheck := specOf_ok fun ⟨hn, ls, us, d⟩ h => c hn ls us d
theorem c_fcheck : C_fcheck := by
 intro hn ls us d
 refine vc_ofU mixed (l := [e_fits, e_Stock]) ((eok_cons o_fits (eok_cons o_Stock eok_nil))) [] []  Try.func10 rfl (by decide +kernel) (N := 31) rfl (by simp) rfl (by kernel_rfl) fun hs => ?_
 simp only [smallL, PV.small, List.length_map, and_true, true_and] at hs
 unfold fckM
 by_cases h1 : fitM hn ls us = 0
 case neg =>
  rw [if_pos h1]
  generalize hr : fitM hn ls us = r at *
  simp +contextual (maxSteps := 4000000) only [↓ur_seq, ↓ur_ret, ↓ur_region, ↓ur_cond, ↓cont_seq, ↓done_nil, ↓done_seq, ↓ops_consN, nY_move, nY_assign, nY_box, nY_load, nY_binOp, nilO_int, nY_callf, ↓ops_nil, opsIf_some, condC_true, Option.map_some, Option.bind_some, Option.getD_some, Nat.reduceLT, Bool.false_eq_true, ↓upd_same, ↓upd_ne, Nat.reduceBEq, and_true, List.getD_cons_zero, List.getD_cons_succ, endQ, cfg_P, cfg_tab, cfg_muts, cfg_frz, List.contains_nil, decide_true, Option.some.injEq, exists_eq_left', List.lookup_cons, List.lookup_nil, tabOf_cons, tab_v, Bool.and_self, List.nil_append, List.append_nil, List.length_cons, List.length_nil, Nat.zero_add, List.drop_zero, Nat.reduceAdd, Bool.not_false, not_false_eq_true, st0, Nat.le_refl, pur_int, pur_lits, cells_agg, pur_agg, DRx_int, ↓ev_tmp, ↓ev_int, ↓ev_func, ↓iop_move, ↓iop_assign, ↓iop_box, ↓iop_load, ↓iop_binOp, ↓iop_callv, nrmAll_cons, nrmAll_nil, nrm_agg, nrmL_cons, nrmL_nil, nrm_lits, nrm1_int, nrm1_lits, pickP_t, loadP_vptr, b_neq, env0_eq, ires_eq, iresL_1, iresAll_nil, iresAll_cons, iresOne_tmp, valT_eq, pursL_cons, pursL_nil, ↓reduceIte, callP_eq, tsOf_eq, boxP_eq, List.take_succ_cons, List.take_nil, ↓evs_cons, ↓evs_nil, beq_self_eq_true, see_eq, and_false, Bool.true_eq_false, e_fits, s_fits, e_Stock, nth_its, pur_its, nth_arcs, pur_arcs, nth_snds, pur_snds, nth_lnks, pur_lnks, lkC_len, lkC_0, lkC_1, lkC_cap, lkC_pri, lkC_take, pur_lkC, Nat.mul_one, Try.f10, ty24, ty25, h1, hr]
 rw [if_neg (fun g => g h1)]
 have hsp := s_Stock (hn := hn) (ls := ls) (l := []) (d := d) (at_ := 0) (tick := 0)
 rw [show snds [] = PV.lits 3 [] from rfl] at hsp
 have hst := stock_nil (d := d) h1
 generalize stockM hn ls [] d 0 0 = q at *
 by_cases h2 : demM hn d = false
 ·rw [if_pos h2] at hst ⊢
  rw [hst] at hsp
  simp +contextual (maxSteps := 4000000) only [↓ur_skip, ↓ur_seq, ↓ur_ret, ↓ur_region, ↓ur_cond, ↓cont_seq, ↓done_nil, ↓done_seq, ↓ops_consN, nY_move, nY_assign, nY_box, nY_load, nY_binOp, nilO_int, nY_extract, nY_callf, ↓ops_nil, opsIf_some, condC_true, condC_false, Option.map_some, Option.bind_some, Option.getD_some, Nat.reduceLT, Bool.false_eq_true, ↓upd_same, ↓upd_ne, Nat.reduceBEq, and_true, List.getD_cons_zero, List.getD_cons_succ, List.getElem?_cons_zero, List.getElem?_cons_succ, endQ, cfg_P, cfg_tab, cfg_muts, cfg_frz, List.contains_nil, decide_true, decide_false, Option.some.injEq, exists_eq_left', List.lookup_cons, List.lookup_nil, tabOf_cons, tab_v, Bool.and_self, Nat.reduceEqDiff, List.nil_append, List.append_nil, List.length_cons, List.length_nil, Nat.zero_add, List.drop_zero, Nat.reduceAdd, Bool.not_false, not_true_eq_false, not_false_eq_true, Int.reduceEq, st0, Nat.le_refl, pur_int, pur_lits, cells_agg, pur_agg, DRx_int, ↓ev_tmp, ↓ev_int, ↓ev_nils, ↓ev_func, ↓iop_move, ↓iop_assign, ↓iop_box, ↓iop_load, ↓iop_binOp, ↓iop_extract, extr_tuple, ↓iop_callv, nrmAll_cons, nrmAll_nil, nrm_agg, nrmL_cons, nrmL_nil, nrm_nils, nrm1_some, nrm_int, nrm_lits, nrm1_int, nrm1_lits, pickP_t, loadP_vptr, b_neq, env0_eq, ires_eq, iresL_1, iresAll_nil, iresAll_cons, iresOne_tmp, valT_eq, pursL_cons, pursL_nil, ↓reduceIte, callP_eq, tsOf_eq, boxP_eq, List.take_succ_cons, List.take_nil, ↓evs_cons, ↓evs_nil, beq_self_eq_true, see_eq, and_false, Bool.true_eq_false, e_fits, s_fits, e_Stock, nth_its, pur_its, nth_arcs, pur_arcs, nth_snds, pur_snds, nth_lnks, pur_lnks, lkC_len, lkC_0, lkC_1, lkC_cap, lkC_pri, lkC_take, pur_lkC, Nat.mul_one, Try.f10, ty3, ty24, ty25, ty27, h1, hsp]
 rw [if_neg h2] at hst ⊢
 rw [hst] at hsp
 obtain ⟨_, _, hr⟩ := dem_ok (hn := hn) (d := d) (by simpa using h2)
 have hr0 := hr.2.2.1
 have hr1 := hr.2.2.2.1
 have hr2 := hr.2.2.2.2
 have wD : IntKind.i64.wrap (d.2.2.2.2 - d.2.2.2.1) = d.2.2.2.2 - d.2.2.2.1 := wrap64 (by omega) (by omega)
 by_cases h3 : 32 < d.2.2.2.2 - d.2.2.2.1
 ·rw [if_pos h3]
  simp +contextual (maxSteps := 4000000) only [↓ur_skip, ↓ur_seq, ↓ur_ret, ↓ur_region, ↓ur_cond, ↓cont_seq, ↓done_nil, ↓done_seq, ↓ops_consN, nY_move, nY_assign, nY_box, nY_load, nY_binOp, nilO_tmp, nilO_int, nY_fieldAddr, nY_extract, nY_callf, ↓ops_nil, opsIf_some, condC_true, condC_false, Option.map_some, Option.bind_some, Option.getD_some, Nat.reduceLT, Bool.false_eq_true, ↓upd_same, ↓upd_ne, Nat.reduceBEq, and_true, List.getD_cons_zero, List.getD_cons_succ, List.getElem?_cons_zero, List.getElem?_cons_succ, endQ, cfg_P, cfg_tab, cfg_muts, cfg_frz, List.contains_nil, decide_true, decide_false, Option.some.injEq, exists_eq_left', List.lookup_cons, List.lookup_nil, tabOf_cons, tab_v, Bool.and_self, Nat.reduceEqDiff, List.nil_append, List.append_nil, List.length_cons, List.length_nil, Nat.zero_add, List.drop_zero, Nat.reduceAdd, Nat.lt_succ_self, Bool.not_false, not_true_eq_false, st0, Nat.le_refl, pur_int, pur_lits, cells_agg, pur_agg, DRx_int, ↓ev_tmp, ↓ev_int, ↓ev_nils, ↓ev_func, ↓iop_move, ↓iop_assign, ↓iop_box, ↓iop_load, ↓iop_binOp, ↓iop_fieldAddr, ↓iop_extract, extr_tuple, ↓iop_callv, nrmAll_cons, nrmAll_nil, nrm_agg, nrmL_cons, nrmL_nil, nrm_nils, nrm1_some, nrm_int, nrm_lits, nrm1_int, nrm1_lits, pickP_f, pickP_t, loadP_vptr, fieldP_vptr, b_sub, b_neq, b_gtr, env0_eq, ires_eq, iresL_1, iresAll_nil, iresAll_cons, iresOne_tmp, valT_eq, pursL_cons, pursL_nil, ↓reduceIte, callP_eq, tsOf_eq, boxP_eq, List.take_succ_cons, List.take_nil, ↓evs_cons, ↓evs_nil, beq_self_eq_true, see_eq, and_false, Bool.true_eq_false, e_fits, s_fits, e_Stock, nth_its, pur_its, nth_arcs, pur_arcs, nth_snds, pur_snds, nth_lnks, pur_lnks, lkC_len, lkC_0, lkC_1, lkC_cap, lkC_pri, lkC_take, pur_lkC, Nat.mul_one, Try.f10, ty3, ty24, ty25, ty27, h1, hsp, wD, h3]
 ·rw [if_neg h3]
  simp +contextual (maxSteps := 4000000) only [↓ur_skip, ↓ur_seq, ↓ur_ret, ↓ur_region, ↓ur_cond, ↓cont_seq, ↓done_nil, ↓ops_consN, nY_move, nY_assign, nY_box, nY_load, nY_binOp, nilO_tmp, nilO_int, nY_fieldAddr, nY_extract, nY_callf, ↓ops_nil, opsIf_some, condC_false, Option.map_some, Option.bind_some, Option.getD_some, Nat.reduceLT, Bool.false_eq_true, ↓upd_same, ↓upd_ne, Nat.reduceBEq, and_true, List.getD_cons_zero, List.getD_cons_succ, List.getElem?_cons_zero, List.getElem?_cons_succ, endQ, cfg_P, cfg_tab, cfg_muts, cfg_frz, List.contains_nil, decide_false, Option.some.injEq, exists_eq_left', List.lookup_cons, List.lookup_nil, tabOf_cons, tab_v, Bool.and_self, Nat.reduceEqDiff, List.nil_append, List.append_nil, List.length_cons, List.length_nil, Nat.zero_add, List.drop_zero, Nat.reduceAdd, Nat.lt_succ_self, Bool.not_false, not_true_eq_false, st0, Nat.le_refl, pur_int, pur_lits, cells_agg, pur_agg, DRx_int, ↓ev_tmp, ↓ev_int, ↓ev_nils, ↓ev_func, ↓iop_move, ↓iop_assign, ↓iop_box, ↓iop_load, ↓iop_binOp, ↓iop_fieldAddr, ↓iop_extract, extr_tuple, ↓iop_callv, nrmAll_cons, nrmAll_nil, nrm_agg, nrmL_cons, nrmL_nil, nrm_nils, nrm1_some, nrm_int, nrm_lits, nrm1_int, nrm1_lits, pickP_f, pickP_t, loadP_vptr, fieldP_vptr, b_sub, b_neq, b_gtr, env0_eq, ires_eq, iresL_1, iresAll_nil, iresAll_cons, iresOne_tmp, valT_eq, pursL_cons, pursL_nil, ↓reduceIte, callP_eq, tsOf_eq, boxP_eq, List.take_succ_cons, List.take_nil, ↓evs_cons, ↓evs_nil, beq_self_eq_true, see_eq, and_false, Bool.true_eq_false, e_fits, s_fits, e_Stock, nth_its, pur_its, nth_arcs, pur_arcs, nth_snds, pur_snds, nth_lnks, pur_lnks, lkC_len, lkC_0, lkC_1, lkC_cap, lkC_pri, lkC_take, pur_lkC, Nat.mul_one, Try.f10, ty3, ty24, ty25, ty27, h1, hsp, wD, h3]
theorem o_fcheck : O_fcheck := k_fcheck c_fcheck
theorem fck_ok {hn : Int} {ls : List Lnk} {us : List Snd} {d : Dem} (h : fckM hn ls us d = 0) : fitM hn ls us = 0 ∧ demM hn d = true ∧ durM d ≤ 32 ∧ d.2.2.2.2 = d.2.2.2.1 + (durM d : Nat) := by
 obtain ⟨h1, h2, h3⟩ := fck_zero.1 h
 obtain ⟨_, _, hr⟩ := dem_ok h2
 have := hr.2.2.2.1
 exact ⟨h1, h2, by unfold durM; omega, by unfold durM; omega⟩
theorem hplan0 {hn : Int} {ls : List Lnk} {us : List Snd} {d : Dem} {b : Int} (h : fckM hn ls us d = 0) (hb : 0 ≤ b ∧ b ≤ 1099511627776) : H_plan ⟨hn, ls, us, d, b⟩ ⟨fun _ => none, 0⟩ := by
 obtain ⟨h1, h2, h3, _⟩ := fck_ok h
 exact ⟨fun i o hi => (by cases hi), fun i r hi => (by cases hi), h1, h2, (by dsimp only; omega), hb⟩
noncomputable def mostM (hn : Int) (ls : List Lnk) (us : List Snd) (d : Dem) : Int := if fckM hn ls us d = 0 then (planR hn ls us d 1099511627776).2 else 0
noncomputable def A_most : (Int) × (List Lnk) × (List Snd) × (Dem) → List PV := fun (hn, ls, us, d) => [.agg [I hn, lnks ls], snds us, demV d]
noncomputable def R_most : (Int) × (List Lnk) × (List Snd) × (Dem) → PV := fun (hn, ls, us, d) => .tuple [I (mostM hn ls us d), I (fckM hn ls us d)]
def H_most : (Int) × (List Lnk) × (List Snd) × (Dem) → Prop := fun (hn, ls, us, d) => True
noncomputable def e_most : Nat × Ent := (11, .v (specOf A_most R_most H_most))
theorem j_most : ∀ i j, A_most i = A_most j → i = j := by
 rintro ⟨hn₁, ls₁, us₁, d₁⟩ ⟨hn₂, ls₂, us₂, d₂⟩ h
 simp only [A_most, List.cons.injEq, and_true, PV.lits.injEq, PV.int.injEq, PV.bool.injEq, PV.str.injEq, PV.agg.injEq, PV.func.injEq, Fn.func.injEq, PV.vptr.injEq, true_and, List.map_nil, inj_ints, inj_strs, inj_its, inj_arcs, inj_snds, inj_lnks] at h
 simp [Prod.ext_iff, h] <;> omega
theorem s_most (hn : Int) (ls : List Lnk) (us : List Snd) (d : Dem) : specOf A_most R_most H_most [.agg [I hn, lnks ls], snds us, demV d] = some (.tuple [I (mostM hn ls us d), I (fckM hn ls us d)]) := specOf_app j_most (i := (hn, ls, us, d)) trivial
def C_most : Prop := ∀ (hn : Int) (ls : List Lnk) (us : List Snd) (d : Dem) , VC Try.prog 11 [.agg [I hn, lnks ls], snds us, demV d] (.tuple [I (mostM hn ls us d), I (fckM hn ls us d)])
def O_most : Prop := EntOK Try.prog e_most.1 e_most.2
theorem k_most (c : C_most) : O_most := specOf_ok fun ⟨hn, ls, us, d⟩ h => c hn ls us d
theorem c_most : C_most := by
 intro hn ls us d
 refine vc_ofU mixed (l := [e_fcheck, e_plan]) ((eok_cons o_fcheck (eok_cons o_plan eok_nil))) [] []  Try.func11 rfl (by decide +kernel) (N := 26) rfl (by simp) rfl (by kernel_rfl) fun hs => ?_
 simp only [smallL, PV.small, List.length_map, and_true, true_and] at hs
 unfold mostM
 by_cases h1 : fckM hn ls us d = 0
 case neg =>
  rw [if_neg h1]
  generalize hr : fckM hn ls us d = r at *
  simp +contextual (maxSteps := 4000000) only [↓ur_seq, ↓ur_ret, ↓ur_region, ↓ur_cond, ↓cont_seq, ↓done_nil, ↓done_seq, ↓ops_consN, nY_move, nY_assign, nY_box, nY_load, nY_binOp, nilO_int, nY_callf, ↓ops_nil, opsIf_some, condC_true, Option.map_some, Option.bind_some, Option.getD_some, Nat.reduceLT, Bool.false_eq_true, ↓upd_same, ↓upd_ne, Nat.reduceBEq, and_true, List.getD_cons_zero, List.getD_cons_succ, endQ, cfg_P, cfg_tab, cfg_muts, cfg_frz, List.contains_nil, decide_true, Option.some.injEq, exists_eq_left', List.lookup_cons, List.lookup_nil, tabOf_cons, tab_v, Bool.and_self, List.nil_append, List.append_nil, List.length_cons, List.length_nil, Nat.zero_add, List.drop_zero, Nat.reduceAdd, Bool.not_false, not_false_eq_true, st0, Nat.le_refl, pur_int, pur_lits, cells_agg, pur_agg, DRx_int, DRx_tuple, DRxL_cons, DRxL_nil, ↓ev_tmp, ↓ev_int, ↓ev_func, ↓iop_move, ↓iop_assign, ↓iop_box, ↓iop_load, ↓iop_binOp, ↓iop_callv, nrmAll_cons, nrmAll_nil, nrm_agg, nrmL_cons, nrmL_nil, nrm_lits, nrm1_int, nrm1_lits, pickP_t, loadP_vptr, b_neq, env0_eq, ires_eq, iresL_2, iresAll_nil, iresAll_cons, iresOne_tmp, valT_eq, pursL_cons, pursL_nil, ↓reduceIte, callP_eq, tsOf_eq, boxP_eq, List.take_succ_cons, List.take_nil, ↓evs_cons, ↓evs_nil, beq_self_eq_true, see_eq, and_false, Bool.true_eq_false, e_fcheck, s_fcheck, e_plan, nth_its, pur_its, nth_arcs, pur_arcs, nth_snds, pur_snds, nth_lnks, pur_lnks, lkC_len, lkC_0, lkC_1, lkC_cap, lkC_pri, lkC_take, pur_lkC, Nat.mul_one, Try.f11, ty24, ty25, ty27, h1, hr]
 rw [if_pos h1, h1]
 have sp := s_plan ⟨hn, ls, us, d, 1099511627776⟩ (st := ⟨fun _ => none, 0⟩) (hplan0 h1 ⟨by decide, by decide⟩)
 simp only [R_plan] at sp
 unfold gP at sp
 dsimp only [netV, demV] at sp
 generalize planR hn ls us d 1099511627776 = q at *
 simp +contextual (maxSteps := 4000000) only [↓ur_skip, ↓ur_seq, ↓ur_ret, ↓ur_region, ↓ur_cond, ↓cont_seq, ↓done_nil, ↓ops_consN, nY_move, nY_assign, nY_box, nY_load, nY_binOp, nilO_int, nY_extract, nY_callf, ↓ops_nil, opsIf_some, condC_false, Option.map_some, Option.bind_some, Option.getD_some, Nat.reduceLT, Bool.false_eq_true, ↓upd_same, ↓upd_ne, Nat.reduceBEq, and_true, List.getD_cons_zero, List.getD_cons_succ, List.getElem?_cons_zero, List.getElem?_cons_succ, endQ, cfg_P, cfg_tab, cfg_muts, cfg_frz, List.contains_nil, decide_false, Option.some.injEq, exists_eq_left', List.lookup_cons, List.lookup_nil, tabOf_cons, tab_v, tab_x, Bool.and_self, Nat.reduceEqDiff, List.nil_append, List.append_nil, List.length_cons, List.length_nil, Nat.zero_add, List.drop_zero, Nat.reduceAdd, Nat.lt_succ_self, Bool.not_false, not_true_eq_false, st0, Nat.le_refl, pur_int, pur_lits, cells_agg, pur_agg, DRx_int, DRx_tuple, DRxL_cons, DRxL_nil, ↓ev_tmp, ↓ev_int, ↓ev_func, ↓iop_move, ↓iop_assign, ↓iop_box, ↓iop_load, ↓iop_binOp, ↓iop_extract, extr_tuple, ↓iop_callv, nrmAll_cons, nrmAll_nil, nrm_agg, nrmL_cons, nrmL_nil, nrm_int, nrm_lits, nrm1_int, nrm1_lits, pickP_t, loadP_vptr, b_neq, env0_eq, ires_eq, iresL_2, iresAll_nil, iresAll_cons, iresOne_tmp, valT_eq, pursL_cons, pursL_nil, ↓reduceIte, callP_eq, tsOf_eq, boxP_eq, List.take_succ_cons, List.take_nil, ↓evs_cons, ↓evs_nil, beq_self_eq_true, see_eq, and_false, Bool.true_eq_false, e_fcheck, s_fcheck, e_plan, nth_its, pur_its, nth_arcs, pur_arcs, nth_snds, pur_snds, nth_lnks, pur_lnks, lkC_len, lkC_0, lkC_1, lkC_cap, lkC_pri, lkC_take, pur_lkC, Nat.mul_one, Try.f11, ty3, ty24, ty25, ty27, h1, sp]
theorem o_most : O_most := k_most c_most
end Sim
