/- What functions of this seat compute, by values: contracts (lemmas of the statement's proof, under the conditions that each names). -/
import Derived.Test.YtbojbamchaohpaaQQ
namespace Sim
open Go Go.Proofs
set_option maxRecDepth 10000
set_option maxHeartbeats 4000000
set_option linter.unusedVariables false
set_option linter.unusedSimpArgs false
attribute [local congr] opsIf_congr condC_congr guardC_congr grd_congr pick3_congr obind_congr omap_congr
def outP (A : List Arc) (h W : Nat) (r : Int) : Nat → List Snd
 | 0 => []
 | i + 1 => outP A h W r i ++ if h ≤ i % W ∧ 0 < flA A i then [(((i % W - h : Nat) : Int), r + ((i / W : Nat) : Int), flA A i)] else []
theorem outP_len {A : List Arc} {h W : Nat} {r : Int} : ∀ n, (outP A h W r n).length ≤ n
 | 0 => Nat.le_refl _
 | n + 1 => by
  have := outP_len (A := A) (h := h) (W := W) (r := r) n
  rw [outP, List.length_append]
  split <;> simp <;> omega
noncomputable def chpE (hn : Int) (ls : List Lnk) (us : List Snd) (d : Dem) : Int := if fckM hn ls us d ≠ 0 then fckM hn ls us d else if (planR hn ls us d d.2.2.1).2 < d.2.2.1 then 21 else 0
noncomputable def chpL (hn : Int) (ls : List Lnk) (us : List Snd) (d : Dem) : List Snd := if chpE hn ls us d = 0 then outP (planR hn ls us d d.2.2.1).1 hn.toNat (hn.toNat + ls.length) d.2.2.2.1 (pairsM hn ls d) else []
noncomputable def A_cheap : (Int) × (List Lnk) × (List Snd) × (Dem) → List PV := fun (hn, ls, us, d) => [.agg [I hn, lnks ls], snds us, demV d]
noncomputable def R_cheap : (Int) × (List Lnk) × (List Snd) × (Dem) → PV := fun (hn, ls, us, d) => .tuple [snds (chpL hn ls us d), I (chpE hn ls us d)]
def H_cheap : (Int) × (List Lnk) × (List Snd) × (Dem) → Prop := fun (hn, ls, us, d) => True
noncomputable def e_cheap : Nat × Ent := (13, .v (specOf A_cheap R_cheap H_cheap))
theorem j_cheap : ∀ i j, A_cheap i = A_cheap j → i = j := by
 rintro ⟨hn₁, ls₁, us₁, d₁⟩ ⟨hn₂, ls₂, us₂, d₂⟩ h
 simp only [A_cheap, List.cons.injEq, and_true, PV.lits.injEq, PV.int.injEq, PV.bool.injEq, PV.str.injEq, PV.agg.injEq, PV.func.injEq, Fn.func.injEq, PV.vptr.injEq, true_and, List.map_nil, inj_ints, inj_strs, inj_its, inj_arcs, inj_snds, inj_lnks] at h
 simp [Prod.ext_iff, h] <;> omega
theorem s_cheap (hn : Int) (ls : List Lnk) (us : List Snd) (d : Dem) : specOf A_cheap R_cheap H_cheap [.agg [I hn, lnks ls], snds us, demV d] = some (.tuple [snds (chpL hn ls us d), I (chpE hn ls us d)]) := specOf_app j_cheap (i := (hn, ls, us, d)) trivial
def C_cheap : Prop := ∀ (hn : Int) (ls : List Lnk) (us : List Snd) (d : Dem) , VC Try.prog 13 [.agg [I hn, lnks ls], snds us, demV d] (.tuple [snds (chpL hn ls us d), I (chpE hn ls us d)])
def O_cheap : Prop := EntOK Try.prog e_cheap.1 e_cheap.2
theorem k_cheap (c : C_cheap) : O_cheap := specOf_ok fun ⟨hn, ls, us, d⟩ h => c hn ls us d
theorem c_cheap : C_cheap := by
 intro hn ls us d
 refine vc_ofU mixed (l := [e_fcheck, e_plan]) ((eok_cons o_fcheck (eok_cons o_plan eok_nil))) [] []  Try.func13 rfl (by decide +kernel) (N := 91) rfl (by simp) rfl (by kernel_rfl) fun hs => ?_
 simp only [smallL, PV.small, List.length_map, and_true, true_and] at hs
 by_cases h1 : fckM hn ls us d = 0
 case neg =>
  have e1 : chpE hn ls us d = fckM hn ls us d := by unfold chpE; rw [if_pos h1]
  have e2 : chpL hn ls us d = [] := by unfold chpL; rw [e1, if_neg h1]
  rw [e1, e2]
  generalize hr : fckM hn ls us d = r at *
  simp +contextual (maxSteps := 4000000) only [↓ur_seq, ↓ur_ret, ↓ur_region, ↓ur_cond, ↓cont_seq, ↓done_nil, ↓done_seq, ↓ops_consN, nY_move, nY_assign, nY_box, nY_load, nY_binOp, nilO_int, nY_callf, ↓ops_nil, opsIf_some, condC_true, Option.map_some, Option.bind_some, Option.getD_some, Nat.reduceLT, Bool.false_eq_true, ↓upd_same, ↓upd_ne, Nat.reduceBEq, and_true, List.getD_cons_zero, List.getD_cons_succ, endQ, cfg_P, cfg_tab, cfg_muts, cfg_frz, List.map_nil, List.contains_nil, decide_true, Option.some.injEq, exists_eq_left', List.lookup_cons, List.lookup_nil, tabOf_cons, tab_v, Bool.and_self, List.nil_append, List.append_nil, List.length_cons, List.length_nil, Nat.zero_add, List.drop_zero, Nat.reduceAdd, Bool.not_false, not_false_eq_true, st0, Nat.le_refl, pur_int, pur_lits, cells_agg, pur_agg, DRx_int, DRx_nils_lits, DRx_tuple, DRxL_cons, DRxL_nil, ↓ev_tmp, ↓ev_int, ↓ev_nils, ↓ev_func, ↓iop_move, ↓iop_assign, ↓iop_box, ↓iop_load, ↓iop_binOp, ↓iop_callv, nrmAll_cons, nrmAll_nil, nrm_agg, nrmL_cons, nrmL_nil, nrm_lits, nrm1_int, nrm1_lits, pickP_t, loadP_vptr, b_neq, env0_eq, ires_eq, iresL_2, iresAll_nil, iresAll_cons, iresOne_tmp, valT_eq, pursL_cons, pursL_nil, ↓reduceIte, callP_eq, tsOf_eq, boxP_eq, List.take_succ_cons, List.take_nil, ↓evs_cons, ↓evs_nil, beq_self_eq_true, see_eq, and_false, Bool.true_eq_false, e_fcheck, s_fcheck, e_plan, nth_its, pur_its, nth_arcs, pur_arcs, nth_snds, pur_snds, nth_lnks, pur_lnks, lkC_len, lkC_0, lkC_1, lkC_cap, lkC_pri, lkC_take, pur_lkC, Nat.mul_one, Try.f13, ty24, ty25, ty27, h1, hr]
 obtain ⟨hf, hd, hD, hdu⟩ := fck_ok h1
 obtain ⟨_, _, hr⟩ := dem_ok hd
 have hr0 := hr.1
 have hr1 := hr.2.1
 have hr2 := hr.2.2.1
 have hr3 := hr.2.2.2.2
 have hh := (fit_ok hf).1.net.houses
 have hln := (fit_ok hf).1.net.len
 have hP := planR_ok (bytes := d.2.2.1) hf hd (by omega)
 have sp := s_plan ⟨hn, ls, us, d, d.2.2.1⟩ (st := ⟨fun _ => none, 0⟩) (hplan0 h1 ⟨by omega, by omega⟩)
 simp only [R_plan] at sp
 unfold gP at sp
 dsimp only [netV, demV] at sp
 have hn1 := hP.n1
 have hlen := hP.len
 obtain ⟨h, hhe⟩ : ∃ h : Nat, hn = (h : Int) := ⟨hn.toNat, by omega⟩
 have hnb : pairsM hn ls d ≤ 2304 := Nat.le_trans (Nat.mul_le_mul hD (show hn.toNat + ls.length ≤ 72 by omega)) (by decide)
 by_cases h2 : (planR hn ls us d d.2.2.1).2 < d.2.2.1
 ·have e1 : chpE hn ls us d = 21 := by unfold chpE; rw [if_neg (fun g => g h1), if_pos h2]
  have e2 : chpL hn ls us d = [] := by unfold chpL; rw [e1, if_neg (by decide)]
  rw [e1, e2]
  generalize planR hn ls us d d.2.2.1 = q at *
  simp +contextual (maxSteps := 4000000) only [↓ur_skip, ↓ur_seq, ↓ur_ret, ↓ur_region, ↓ur_cond, ↓cont_seq, ↓done_nil, ↓done_seq, ↓ops_consN, nY_move, nY_assign, nY_box, nY_load, nY_binOp, nilO_tmp, nilO_int, nY_fieldAddr, nY_extract, nY_callf, ↓ops_nil, opsIf_some, condC_true, condC_false, Option.map_some, Option.bind_some, Option.getD_some, Nat.reduceLT, Bool.false_eq_true, ↓upd_same, ↓upd_ne, Nat.reduceBEq, and_true, List.getD_cons_zero, List.getD_cons_succ, List.getElem?_cons_zero, List.getElem?_cons_succ, endQ, cfg_P, cfg_tab, cfg_muts, cfg_frz, List.map_nil, List.contains_nil, decide_true, decide_false, Option.some.injEq, exists_eq_left', List.lookup_cons, List.lookup_nil, tabOf_cons, tab_v, tab_x, Bool.and_self, Nat.reduceEqDiff, List.nil_append, List.append_nil, List.length_cons, List.length_nil, Nat.zero_add, List.drop_zero, Nat.reduceAdd, Nat.lt_succ_self, Bool.not_false, not_true_eq_false, st0, Nat.le_refl, pur_int, pur_lits, cells_agg, pur_agg, DRx_int, DRx_nils_lits, DRx_tuple, DRxL_cons, DRxL_nil, ↓ev_tmp, ↓ev_int, ↓ev_nils, ↓ev_func, ↓iop_move, ↓iop_assign, ↓iop_box, ↓iop_load, ↓iop_binOp, ↓iop_fieldAddr, ↓iop_extract, extr_tuple, ↓iop_callv, nrmAll_cons, nrmAll_nil, nrm_agg, nrmL_cons, nrmL_nil, nrm_int, nrm_lits, nrm1_int, nrm1_lits, pickP_f, pickP_t, loadP_vptr, fieldP_vptr, b_neq, b_lss, env0_eq, ires_eq, iresL_2, iresAll_nil, iresAll_cons, iresOne_tmp, valT_eq, pursL_cons, pursL_nil, ↓reduceIte, callP_eq, tsOf_eq, boxP_eq, List.take_succ_cons, List.take_nil, ↓evs_cons, ↓evs_nil, beq_self_eq_true, see_eq, and_false, Bool.true_eq_false, e_fcheck, s_fcheck, e_plan, nth_its, pur_its, nth_arcs, pur_arcs, nth_snds, pur_snds, nth_lnks, pur_lnks, lkC_len, lkC_0, lkC_1, lkC_cap, lkC_pri, lkC_take, pur_lkC, Nat.mul_one, Try.f13, ty3, ty24, ty25, ty27, h1, sp, h2]
 have e1 : chpE hn ls us d = 0 := by unfold chpE; rw [if_neg (fun g => g h1), if_neg h2]
 have e2 : chpL hn ls us d = outP (planR hn ls us d d.2.2.1).1 hn.toNat (hn.toNat + ls.length) d.2.2.2.1 (pairsM hn ls d) := by unfold chpL; rw [if_pos e1]
 rw [e1, e2]
 clear e1 e2
 subst hhe
 rw [Int.toNat_natCast] at *
 generalize pairsM (h : Int) ls d = n at *
 generalize nodesM (h : Int) d = N at *
 have wW : IntKind.i64.wrap ((h : Int) + (ls.length : Int)) = ((h + ls.length : Nat) : Int) := by rw [← Int.natCast_add, wrap64 (by omega) (by omega)]
 obtain ⟨W, hW⟩ : ∃ W, h + ls.length = W := ⟨_, rfl⟩
 rw [hW] at wW ⊢
 generalize planR (h : Int) ls us d d.2.2.1 = q at *
 obtain ⟨A, sn⟩ := q
 dsimp only at sp hn1 hlen h2 ⊢
 clear hP
 have hW0 : 0 < W := by omega
 have hO2 : plO (fun _ => none) 0 n N A 2 = some (.arr 0 3 [gBx 0 n N]) := rfl
 have hO4 : plO (fun _ => none) 0 n N A 4 = some (.arr n 4 (A.map arcV)) := rfl
 unfold gBx at hO2
 generalize plO (fun _ => none) 0 n N A = O at *
 simp +contextual (maxSteps := 4000000) only [↓ur_skip, ↓ur_seq, ↓ur_block, ↓ur_region, ↓ur_cond, ↓cont_seq, ↓ops_consN, nY_move, nY_assign, nY_box, nY_load, nY_binOp, nilO_tmp, nilO_int, nY_fieldAddr, nY_extract, nY_callf, nY_callb, ↓ops_nil, opsIf_some, condC_false, Option.map_some, Option.bind_some, Option.getD_some, Nat.reduceLT, Bool.false_eq_true, ↓upd_same, ↓upd_ne, Nat.reduceBEq, true_and, List.getD_cons_zero, List.getD_cons_succ, List.getElem?_cons_zero, List.getElem?_cons_succ, cfg_P, cfg_tab, cfg_muts, cfg_frz, List.length_map, List.contains_nil, decide_false, List.lookup_cons, List.lookup_nil, tabOf_cons, tab_v, tab_x, Bool.and_self, Nat.reduceEqDiff, List.nil_append, List.append_nil, List.length_cons, List.length_nil, Nat.zero_add, Nat.add_zero, List.drop_zero, Nat.reduceAdd, Nat.lt_succ_self, Bool.not_false, not_true_eq_false, st0, Nat.le_refl, pur_int, pur_lits, cells_agg, pur_agg, ↓ev_tmp, ↓ev_int, ↓ev_nils, ↓ev_func, ↓iop_move, ↓iop_assign, ↓iop_box, ↓iop_load, ↓iop_binOp, ↓iop_fieldAddr, ↓iop_extract, extr_tuple, ↓iop_callv, ↓iop_callb, nrmAll_cons, nrmAll_nil, bi_len, lenM_none, nrm_agg, nrmL_cons, nrmL_nil, nrm_int, nrm_lits, nrm1_int, nrm1_lits, pickP_f, pickP_t, loadP_vptr, fieldP_vptr, lenP_lits, b_add, b_neq, b_lss, env0_eq, valT_eq, pursL_cons, pursL_nil, ↓reduceIte, callP_eq, tsOf_eq, boxP_eq, List.take_succ_cons, List.take_nil, ↓evs_cons, ↓evs_nil, beq_self_eq_true, see_eq, and_false, Bool.true_eq_false, e_fcheck, s_fcheck, e_plan, nth_its, pur_its, nth_arcs, pur_arcs, nth_snds, pur_snds, nth_lnks, pur_lnks, lkC_len, lkC_0, lkC_1, lkC_cap, lkC_pri, lkC_take, pur_lkC, Nat.mul_one, Try.f13, ty3, ty22, ty24, ty25, ty27, h1, sp, h2, wW]
 refine loop_cnt [11, 13, 14, 15, 16, 43, 44, 45, 46, 47, 48, 49, 50, 51, 52, 53, 54, 55, 56, 57, 58, 59, 60, 61, 62, 63, 64, 65, 66, 67, 68, 69, 70, 71, 72, 73, 74, 75, 76, 77, 78, 79, 80, 81, 82, 83, 84, 85, 86, 87, 88, 89] n (fun j ρ st' => ρ 13 = I ((2 * j : Nat) : Int) ∧ GS st' (ρ 11) 5 3 ((outP A h W d.2.2.2.1 j).map sndV) ∧ st'.obj 2 = some (.arr 0 3 [.agg [.ref (0 + 4) n 0 (2 * n), .ref 0 1 0 N, .ref (0 + 1) 1 0 N]]) ∧ st'.obj 4 = some (.arr n 4 (A.map arcV))) (.slot _ 11 3 ?_ ?_) ?_ ?_
 ·simp +contextual (maxSteps := 4000000) only [↓upd_same, ↓upd_ne, Nat.reduceBEq, nth_its, pur_its, nth_arcs, pur_arcs, nth_snds, pur_snds, nth_lnks, pur_lnks, lkC_len, lkC_0, lkC_1, lkC_cap, lkC_pri, lkC_take, pur_lkC, Nat.mul_one, Try.f13]
 ·decide
 ·simp +contextual (maxSteps := 4000000) only [↓upd_same, ↓upd_ne, Nat.reduceBEq, true_and, and_true, List.length_map, Option.some.injEq, GS_ref, updO_same, updO_ne, Nat.zero_add, Nat.reduceAdd, Nat.reduceMul, IObj.arr.injEq, Store.new, Int.cast_ofNat_Int, nth_its, pur_its, nth_arcs, pur_arcs, nth_snds, pur_snds, nth_lnks, pur_lnks, lkC_len, lkC_0, lkC_1, lkC_cap, lkC_pri, lkC_take, pur_lkC, Nat.mul_one, Try.f13, hO2, hO4]
  simp [outP]
 rintro j ρ ⟨ob, M⟩ hj ⟨h13, ⟨g, h11, ho⟩, ho2, ho4⟩
 dsimp only at ho ho2 ho4
 rw [List.length_map] at h11
 rw [Nat.zero_add] at ho2
 by_cases hlt : j < n
 ·have hol := outP_len (A := A) (h := h) (W := W) (r := d.2.2.2.1) j
  have hstep : outP A h W d.2.2.2.1 (j + 1) = outP A h W d.2.2.2.1 j ++ if h ≤ j % W ∧ 0 < flA A j then [(((j % W - h : Nat) : Int), d.2.2.2.1 + ((j / W : Nat) : Int), flA A j)] else [] := rfl
  have hlen2 : 2 * j + 1 < A.length := by omega
  have hnA := nth_arcs hlen2
  have hfl : (A.getD (2 * j + 1) dA).2.2.1 = flA A j := rfl
  rw [hfl] at hnA
  have c1 : ((2 * j : Nat) : Int) < ((2 * n : Nat) : Int) := by omega
  have w1 : IntKind.i64.wrap (((2 * j : Nat) : Int) + 1) = ((2 * j + 1 : Nat) : Int) := wrapN' (by omega)
  have w2 : IntKind.i64.wrap (((2 * j : Nat) : Int) + 2) = ((2 * (j + 1) : Nat) : Int) := by rw [wrap64 (by omega) (by omega)]; omega
  have t1 : Int.tdiv ((2 * j : Nat) : Int) 2 = (j : Int) := by rw [Int.tdiv_eq_ediv_of_nonneg (by omega)]; omega
  have t2 : Int.tdiv (j : Int) (W : Int) = ((j / W : Nat) : Int) := by rw [Int.tdiv_eq_ediv_of_nonneg (by omega)]; rfl
  have t3 : Int.tmod (j : Int) (W : Int) = ((j % W : Nat) : Int) := by rw [Int.tmod_eq_emod_of_nonneg (by omega)]; rfl
  have hdv : j / W ≤ j := Nat.div_le_self _ _
  have hml : j % W < W := Nat.mod_lt _ hW0
  generalize j / W = qd at *
  generalize j % W = md at *
  have w3 : IntKind.i64.wrap (j : Int) = (j : Int) := wrap64 (by omega) (by omega)
  have w4 : IntKind.i64.wrap ((qd : Nat) : Int) = ((qd : Nat) : Int) := wrap64 (by omega) (by omega)
  have w5 : IntKind.i64.wrap (d.2.2.2.1 + ((qd : Nat) : Int)) = d.2.2.2.1 + ((qd : Nat) : Int) := wrap64 (by omega) (by omega)
  have hWn : ¬ (W : Int) = 0 := by omega
  have hWn' : ¬ W = 0 := by omega
  have hl2 : ((2 * j + 1 : Nat) : Int) < ((2 * n : Nat) : Int) := by omega
  have hAl : (A.map arcV).length = 2 * n := by rw [List.length_map, hlen]
  have hol1 : (outP A h W d.2.2.2.1 j).length + 1 ≤ 2147483648 := by omega
  have htk : ∀ z, List.take ((outP A h W d.2.2.2.1 j).length + 1) (List.map sndV (outP A h W d.2.2.2.1 j) ++ [z]) = List.map sndV (outP A h W d.2.2.2.1 j) ++ [z] := fun z => List.take_of_length_le (by simp)
  by_cases hc : h ≤ md
  ·have w6 : IntKind.i64.wrap (((md : Nat) : Int) - (h : Int)) = ((md - h : Nat) : Int) := by rw [wrap64 (by omega) (by omega)]; omega
   have hci : (h : Int) ≤ ((md : Nat) : Int) := by omega
   by_cases hp : 0 < flA A j
   ·rw [if_pos ⟨hc, hp⟩] at hstep
    generalize outP A h W d.2.2.2.1 (j + 1) = o2 at *
    generalize outP A h W d.2.2.2.1 j = o1 at *
    generalize flA A j = fl at *
    simp +contextual (maxSteps := 4000000) only [↓ur_skip, ↓ur_seq, ↓ur_block, ↓ur_region, ↓ur_cond, ↓cont_seq, ↓cont_blk, ↓cont_lp, ↓ops_consN, ↓ops_guardN, nY_move, nY_assign, nY_pick, nY_build, nY_buildSlice, nY_load, nY_nilCheck, nY_binOp, nilO_tmp, nilO_int, nY_fieldAddr, nY_indexAddr, nY_callb, ↓ops_nil, opsIf_some, condC_true, guardC_tt, Option.map_some, Option.bind_some, Option.getD_some, Nat.reduceLT, Bool.false_eq_true, ↓upd_same, ↓upd_ne, Nat.reduceBEq, true_and, and_true, List.getElem?_toArray, List.getElem?_cons_zero, List.getElem?_cons_succ, cfg_P, cfg_muts, cfg_frz, cfg_num, numOf_eq, List.length_map, ↓havoc_in, ↓havoc_out, agree_upd, agree_havoc, List.contains_cons, List.contains_nil, Bool.or_false, Bool.or_true, Int.natCast_nonneg, Int.toNat_natCast, decide_true, decide_false, Option.some.injEq, Bool.and_self, Bool.true_and, List.cons_append, List.nil_append, List.append_nil, GS_ref, updO_same, updO_ne, List.length_append, List.length_cons, List.length_nil, Nat.zero_add, Nat.add_zero, List.drop_zero, List.take_zero, Nat.not_succ_le_self, Nat.reduceAdd, List.replicate_succ, List.replicate_zero, List.set_cons_zero, Nat.reduceMul, Nat.reduceLeDiff, nth_zero, IObj.arr.injEq, Nat.lt_succ_self, Bool.not_false, reduceCtorEq, not_false_eq_true, Int.reduceEq, take_map_len, or_false, Nat.le_refl, cells_int, cells_agg, ↓ev_tmp, ↓ev_int, ↓guardP_eq, grd_some, ↓iop_move, ↓iop_assign, ↓pick3_bool, ↓iop_pick, ↓iop_build, ↓iop_buildSlice, ↓iop_load, ↓iop_nilCheck, nilCk_ptr, ↓iop_binOp, ↓iop_fieldAddr, ↓iop_indexAddr, idxA_int, ↓iop_callb, isInt1_int, isInt_agg, softA_ref, List.all_cons, List.all_nil, bi_len, lenM_none, bi_append, pickP_f, loadP_vptr, loadP_ptr, fieldP_vptr, fieldP_ptr, indexP_ref, lenP_ref, elemsP_lits, appendP_ref, b_add, b_sub, b_quo, b_rem, b_lss, b_gtr, b_geq, fill_nil, fill_cons, fill1_some, buildP_eq, bldA_none, bel_nil, bel_cons, splice_eq, Store.set, ↓reduceIte, arr_eq, arrB_some, bslP_eq, ne_eq, List.take_succ_cons, List.drop_succ_cons, List.drop_nil, ↓evs_cons, ↓evs_nil, ↓evp_cons, ↓evp_nil, beq_self_eq_true, List.all_cons, List.all_nil, see_eq, false_and, nth_its, pur_its, nth_arcs, pur_arcs, nth_snds, pur_snds, nth_lnks, pur_lnks, lkC_len, lkC_0, lkC_1, lkC_cap, lkC_pri, lkC_take, pur_lkC, Nat.mul_one, Try.f13, ty3, ty24, ty25, ty27, ty56, ty65, ty68, ty70, h13, h11, ho, ho2, ho4, c1, w1, w2, t1, t2, t3, w3, w4, w5, w6, hWn, hWn', hl2, hlen2, hAl, hnA, hc, hci, hp, hol1, htk, hstep]
    exact ⟨hlt, by rw [List.map_append]; rfl⟩
   ·rw [if_neg (fun g => hp g.2), List.append_nil] at hstep
    generalize outP A h W d.2.2.2.1 (j + 1) = o2 at *
    generalize outP A h W d.2.2.2.1 j = o1 at *
    generalize flA A j = fl at *
    simp +contextual (maxSteps := 4000000) only [↓ur_skip, ↓ur_seq, ↓ur_block, ↓ur_region, ↓ur_cond, ↓cont_seq, ↓cont_blk, ↓cont_lp, ↓ops_consN, ↓ops_guardN, nY_move, nY_assign, nY_pick, nY_load, nY_nilCheck, nY_binOp, nilO_tmp, nilO_int, nY_fieldAddr, nY_indexAddr, nY_callb, ↓ops_nil, opsIf_some, condC_true, condC_false, guardC_tt, Option.map_some, Option.bind_some, Option.getD_some, Nat.reduceLT, Bool.false_eq_true, ↓upd_same, ↓upd_ne, Nat.reduceBEq, true_and, and_true, List.getElem?_toArray, List.getElem?_cons_zero, List.getElem?_cons_succ, cfg_P, cfg_frz, List.length_map, ↓havoc_in, ↓havoc_out, agree_upd, agree_havoc, List.contains_cons, List.contains_nil, Bool.or_false, Bool.or_true, Int.natCast_nonneg, Int.toNat_natCast, decide_true, decide_false, GS_ref, Nat.zero_add, Nat.add_zero, Nat.reduceAdd, nth_zero, Nat.lt_succ_self, Bool.not_false, Int.reduceEq, Nat.le_refl, cells_agg, ↓ev_tmp, ↓ev_int, ↓guardP_eq, grd_some, ↓iop_move, ↓iop_assign, ↓pick3_bool, ↓iop_pick, ↓iop_load, ↓iop_nilCheck, nilCk_ptr, ↓iop_binOp, ↓iop_fieldAddr, ↓iop_indexAddr, idxA_int, ↓iop_callb, bi_len, lenM_none, pickP_f, loadP_vptr, loadP_ptr, fieldP_vptr, fieldP_ptr, indexP_ref, lenP_ref, b_add, b_quo, b_rem, b_lss, b_gtr, b_geq, ↓reduceIte, arr_eq, arrB_some, ↓evs_cons, ↓evs_nil, beq_self_eq_true, see_eq, nth_its, pur_its, nth_arcs, pur_arcs, nth_snds, pur_snds, nth_lnks, pur_lnks, lkC_len, lkC_0, lkC_1, lkC_cap, lkC_pri, lkC_take, pur_lkC, Nat.mul_one, Try.f13, ty3, ty24, ty65, ty68, ty70, h13, h11, ho, ho2, ho4, c1, w1, w2, t1, t2, t3, w3, w4, w5, w6, hWn, hWn', hl2, hlen2, hAl, hnA, hc, hci, hp, hol1, htk, hstep]
    exact hlt
  ·have hci : ¬ (h : Int) ≤ ((md : Nat) : Int) := by omega
   rw [if_neg (fun g => hc g.1), List.append_nil] at hstep
   generalize outP A h W d.2.2.2.1 (j + 1) = o2 at *
   generalize outP A h W d.2.2.2.1 j = o1 at *
   generalize flA A j = fl at *
   simp +contextual (maxSteps := 4000000) only [↓ur_skip, ↓ur_seq, ↓ur_block, ↓ur_region, ↓ur_cond, ↓cont_seq, ↓cont_blk, ↓cont_lp, ↓ops_consN, ↓ops_guardN, nY_move, nY_assign, nY_pick, nY_load, nY_nilCheck, nY_binOp, nilO_tmp, nilO_int, nY_fieldAddr, nY_indexAddr, nY_callb, ↓ops_nil, opsIf_some, condC_true, condC_false, guardC_ft, Option.map_some, Option.bind_some, Option.getD_some, Nat.reduceLT, Bool.false_eq_true, ↓upd_same, ↓upd_ne, Nat.reduceBEq, true_and, and_true, List.getElem?_toArray, List.getElem?_cons_zero, List.getElem?_cons_succ, cfg_P, cfg_frz, List.length_map, ↓havoc_in, ↓havoc_out, agree_upd, agree_havoc, List.contains_cons, List.contains_nil, Bool.or_false, Bool.or_true, Int.natCast_nonneg, Int.toNat_natCast, decide_true, decide_false, GS_ref, Nat.zero_add, Nat.add_zero, Nat.reduceAdd, nth_zero, Nat.lt_succ_self, Bool.not_false, Int.reduceEq, Nat.le_refl, cells_agg, ↓ev_tmp, ↓ev_int, ↓ev_bool, ↓guardP_eq, grd_some, ↓iop_move, ↓iop_assign, ↓pick3_bool, ↓iop_pick, ↓iop_load, ↓iop_nilCheck, nilCk_ptr, ↓iop_binOp, ↓iop_fieldAddr, ↓iop_indexAddr, idxA_int, ↓iop_callb, bi_len, lenM_none, pickP_f, loadP_vptr, loadP_ptr, fieldP_vptr, fieldP_ptr, indexP_ref, lenP_ref, b_add, b_quo, b_rem, b_lss, b_geq, ↓reduceIte, arr_eq, arrB_some, ↓evs_cons, ↓evs_nil, beq_self_eq_true, see_eq, nth_its, pur_its, nth_arcs, pur_arcs, nth_snds, pur_snds, nth_lnks, pur_lnks, lkC_len, lkC_0, lkC_1, lkC_cap, lkC_pri, lkC_take, pur_lkC, Nat.mul_one, Try.f13, ty3, ty24, ty65, ty68, ty70, h13, h11, ho, ho2, ho4, c1, w1, w2, t1, t2, t3, w3, w4, w5, hWn, hWn', hl2, hlen2, hAl, hnA, hc, hci, hol1, htk, hstep]
   exact hlt
 ·have e : j = n := by omega
  subst e
  have c1 : ¬ ((2 * j : Nat) : Int) < ((2 * j : Nat) : Int) := by omega
  generalize outP A h W d.2.2.2.1 j = o1 at *
  simp +contextual (maxSteps := 4000000) only [↓ur_seq, ↓ur_exit, ↓ur_ret, ↓ur_region, ↓ur_cond, ↓cont_seq, ↓leave_seq, ↓leave_blk, ↓leave_lp, ↓done_nil, ↓ops_consN, nY_move, nY_assign, nY_load, nY_nilCheck, nY_binOp, nilO_tmp, nY_fieldAddr, nY_callb, ↓ops_nil, opsIf_some, condC_false, Option.map_some, Option.bind_some, Option.getD_some, Nat.reduceLT, Bool.false_eq_true, ↓upd_same, ↓upd_ne, Nat.reduceBEq, true_and, and_true, List.getElem?_cons_zero, endQ, cfg_P, cfg_frz, List.length_map, ↓havoc_in, ↓havoc_out, List.contains_cons, List.contains_nil, Bool.or_false, Bool.or_true, decide_false, Option.some.injEq, exists_eq_left', Nat.zero_add, Nat.add_zero, List.drop_zero, Nat.reduceAdd, nth_zero, Prod.mk.injEq, Nat.lt_succ_self, Bool.not_false, take_map_len, Nat.le_refl, cells_agg, DRx_int, DRx_ref, DRx_tuple, DRxL_cons, DRxL_nil, ↓ev_tmp, ↓ev_int, ↓iop_move, ↓iop_assign, ↓iop_load, ↓iop_nilCheck, nilCk_ptr, ↓iop_binOp, ↓iop_fieldAddr, ↓iop_callb, bi_len, lenM_none, pickP_f, loadP_ptr, fieldP_ptr, lenP_ref, b_lss, ires_eq, iresL_2, iresAll_nil, iresAll_cons, iresOne_tmp, ↓reduceIte, arr_eq, arrB_some, ↓evs_cons, ↓evs_nil, beq_self_eq_true, see_eq, nth_its, pur_its, nth_arcs, pur_arcs, nth_snds, pur_snds, nth_lnks, pur_lnks, lkC_len, lkC_0, lkC_1, lkC_cap, lkC_pri, lkC_take, pur_lkC, Nat.mul_one, Try.f13, ty65, ty68, h13, h11, ho, ho2, ho4, c1]
theorem o_cheap : O_cheap := k_cheap c_cheap
end Sim
