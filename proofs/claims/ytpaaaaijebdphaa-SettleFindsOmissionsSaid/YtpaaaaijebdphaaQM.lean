/- What functions of this seat compute, by values: contracts (lemmas of the statement's proof, under the conditions that each names). -/
import Derived.Test.YtpaaaaijebdphaaQL
namespace Sim
open Go Go.Proofs
set_option maxRecDepth 10000
set_option maxHeartbeats 2000000
set_option linter.unusedVariables false
set_option linter.unusedSimpArgs false
attribute [local congr] opsIf_congr condC_congr guardC_congr grd_congr pick3_congr obind_congr omap_congr nilC_congr opsV_congr
def balsE (n : Int) (ps : List Pst) (t : Int) : Int := if ¬ bookE n ps = 0 then bookE n ps else if ¬ (0 ≤ t ∧ t ≤ 1000000) then 3 else 0
def balsT (n : Int) (ps : List Pst) (t : Int) (k : Nat) : List Int := tbl n.toNat fun i => balK ps (i : Int) t k
def balsL (n : Int) (ps : List Pst) (t : Int) : List Int := if balsE n ps t = 0 then balsT n ps t ps.length else []
theorem bals_step {n : Int} {ps : List Pst} {t : Int} {k u v : Nat} {p : Pst} (hp : ps.getD k dP = p) (ht : p.2.2.2.1 ≤ t) (hu : (u : Int) = p.1) (hv : (v : Int) = p.2.1) (hne : ¬ u = v) (hun : u < n.toNat) (hvn : v < n.toNat) :
    ((balsT n ps t k).set u ((balsT n ps t k).getD u 0 + p.2.2.1)).set v ((balsT n ps t k).getD v 0 - p.2.2.1) = balsT n ps t (k + 1) := by
  unfold balsT
  rw [tbl_at hun, tbl_at hvn, tbl_set, tbl_set]
  refine tbl_ext fun i hi => ?_
  simp only [balK, hp, if_pos ht, gotQ]
  rw [← hu, ← hv]
  by_cases c1 : i = v
  · subst c1
    rw [if_pos rfl, if_neg (show ¬ (u : Int) = (i : Int) by omega), if_pos rfl]; omega
  · rw [if_neg c1]
    by_cases c2 : i = u
    · subst c2
      rw [if_pos rfl, if_pos rfl, if_neg (show ¬ (v : Int) = (i : Int) by omega)]; omega
    · rw [if_neg c2, if_neg (show ¬ (u : Int) = (i : Int) by omega), if_neg (show ¬ (v : Int) = (i : Int) by omega)]; omega
noncomputable def A_bals : (Int) × (List Pst) × (Int) → List PV := fun (n, ps, t) => [.agg [I n, psts ps], I t]
noncomputable def R_bals : (Int) × (List Pst) × (Int) → PV := fun (n, ps, t) => .tuple [ints (balsL n ps t), I (balsE n ps t)]
def H_bals : (Int) × (List Pst) × (Int) → Prop := fun (n, ps, t) => True
noncomputable def e_bals : Nat × Ent := (19, .v (specOf A_bals R_bals H_bals))
theorem j_bals : ∀ i j, A_bals i = A_bals j → i = j := by
  rintro ⟨n₁, ps₁, t₁⟩ ⟨n₂, ps₂, t₂⟩ h
  simp only [A_bals, List.cons.injEq, and_true, PV.lits.injEq, PV.int.injEq, PV.bool.injEq, PV.str.injEq, PV.agg.injEq, PV.func.injEq, Fn.func.injEq, PV.vptr.injEq, true_and, List.map_nil, inj_ints, inj_strs, inj_psts, inj_gaps, inj_pays] at h
  simp [Prod.ext_iff, h] <;> omega
theorem s_bals (n : Int) (ps : List Pst) (t : Int) : specOf A_bals R_bals H_bals [.agg [I n, psts ps], I t] = some (.tuple [ints (balsL n ps t), I (balsE n ps t)]) := specOf_app j_bals (i := (n, ps, t)) trivial
def C_bals : Prop := ∀ (n : Int) (ps : List Pst) (t : Int) , VC Try.prog 19 [.agg [I n, psts ps], I t] (.tuple [ints (balsL n ps t), I (balsE n ps t)])
def O_bals : Prop := EntOK Try.prog e_bals.1 e_bals.2
theorem k_bals (c : C_bals) : O_bals := specOf_ok fun ⟨n, ps, t⟩ h => c n ps t
theorem c_bals : C_bals := by
  intro n ps t
  refine vc_ofU mixed (l := [e_book, e_win]) ((eok_cons o_book (eok_cons o_win eok_nil))) [] []  Try.func19 rfl (by decide +kernel) (N := 52) rfl (by simp) rfl (by kernel_rfl) fun hs => ?_
  simp only [smallL, PV.small, List.length_map, and_true, true_and] at hs
  by_cases h0 : bookE n ps = 0
  case neg =>
    have e : balsE n ps t = bookE n ps := by unfold balsE; rw [if_pos h0]
    have e2 : balsL n ps t = [] := by unfold balsL; rw [if_neg (by rw [e]; exact h0)]
    rw [e, e2]
    obtain ⟨E, hE⟩ : ∃ E, bookE n ps = E := ⟨_, rfl⟩
    rw [hE] at h0 ⊢
    simp +contextual (maxSteps := 4000000) only [↓ur_seq, ↓ur_ret, ↓ur_region, ↓ur_cond, ↓cont_seq, ↓done_nil, ↓done_seq, ↓ops_consN, nY_move, nY_assign, nY_box, nY_load, nY_binOp, nilO_int, nY_callf, ↓ops_nil, opsIf_some, condC_true, Option.map_some, Option.bind_some, Option.getD_some, Nat.reduceLT, Bool.false_eq_true, ↓upd_same, ↓upd_ne, Nat.reduceBEq, and_true, List.getD_cons_zero, endQ, cfg_P, cfg_tab, cfg_muts, cfg_frz, List.map_nil, List.contains_nil, decide_true, Option.some.injEq, exists_eq_left', List.lookup_cons, List.lookup_nil, tabOf_cons, tab_v, Bool.and_self, List.nil_append, List.append_nil, List.length_cons, List.length_nil, Nat.zero_add, List.drop_zero, Nat.reduceAdd, Bool.not_false, not_false_eq_true, st0, Nat.le_refl, pur_int, pur_lits, cells_agg, pur_agg, DRx_int, DRx_nils_lits, DRx_tuple, DRxL_cons, DRxL_nil, ↓ev_tmp, ↓ev_int, ↓ev_nils, ↓ev_func, ↓iop_move, ↓iop_assign, ↓iop_box, ↓iop_load, ↓iop_binOp, ↓iop_callv, nrmAll_cons, nrmAll_nil, nrm_agg, nrmL_cons, nrmL_nil, nrm1_int, nrm1_lits, pickP_t, loadP_vptr, b_neq, env0_eq, ires_eq, iresL_2, iresAll_nil, iresAll_cons, iresOne_tmp, valT_eq, pursL_cons, pursL_nil, ↓reduceIte, callP_eq, tsOf_eq, boxP_eq, List.take_succ_cons, List.take_nil, ↓evs_cons, ↓evs_nil, beq_self_eq_true, see_eq, and_false, Bool.true_eq_false, e_book, s_book, e_win, nth_psts, pur_psts, nth_gaps, pur_gaps, nth_pays, pur_pays, Try.f19, ty45, hE, h0]
  by_cases h1 : 0 ≤ t ∧ t ≤ 1000000
  case neg =>
    have e : balsE n ps t = 3 := by unfold balsE; rw [if_neg (fun h => h h0), if_pos h1]
    have e2 : balsL n ps t = [] := by unfold balsL; rw [if_neg (by rw [e]; decide)]
    rw [e, e2]
    simp +contextual (maxSteps := 4000000) only [↓ur_skip, ↓ur_seq, ↓ur_ret, ↓ur_region, ↓ur_cond, ↓cont_seq, ↓done_nil, ↓done_seq, ↓ops_consN, nY_move, nY_assign, nY_box, nY_load, nY_binOp, nilO_int, nY_unOp, nY_callf, ↓ops_nil, opsIf_some, condC_true, condC_false, Option.map_some, Option.bind_some, Option.getD_some, Nat.reduceLT, Bool.false_eq_true, ↓upd_same, ↓upd_ne, Nat.reduceBEq, and_true, List.getD_cons_zero, List.getD_cons_succ, endQ, cfg_P, cfg_tab, cfg_muts, cfg_frz, List.map_nil, List.contains_nil, decide_false, Option.some.injEq, exists_eq_left', List.lookup_cons, List.lookup_nil, tabOf_cons, tab_v, Bool.and_self, Nat.reduceEqDiff, List.nil_append, List.append_nil, List.length_cons, List.length_nil, Nat.zero_add, List.drop_zero, Nat.reduceAdd, Bool.not_false, not_true_eq_false, st0, Nat.le_refl, pur_int, pur_lits, cells_agg, pur_agg, DRx_int, DRx_nils_lits, DRx_tuple, DRxL_cons, DRxL_nil, ↓ev_tmp, ↓ev_int, ↓ev_nils, ↓ev_func, ↓iop_move, ↓iop_assign, ↓iop_box, ↓iop_load, ↓iop_binOp, ↓iop_unOp, ↓iop_callv, nrmAll_cons, nrmAll_nil, nrm_agg, nrmL_cons, nrmL_nil, nrm_int, nrm1_int, nrm1_lits, pickP_t, loadP_vptr, b_neq, u_not, env0_eq, ires_eq, iresL_2, iresAll_nil, iresAll_cons, iresOne_tmp, valT_eq, pursL_cons, pursL_nil, ↓reduceIte, callP_eq, tsOf_eq, boxP_eq, List.take_succ_cons, List.take_nil, ↓evs_cons, ↓evs_nil, beq_self_eq_true, see_eq, and_false, Bool.true_eq_false, e_book, s_book, e_win, s_win, nth_psts, pur_psts, nth_gaps, pur_gaps, nth_pays, pur_pays, Try.f19, ty3, ty45, h0, h1]
  have ok := book_zero.1 h0
  have hlen := ok.len
  have hnum := ok.num
  have e : balsE n ps t = 0 := by unfold balsE; rw [if_neg (fun h => h h0), if_neg (fun h => h h1)]
  have e2 : balsL n ps t = balsT n ps t ps.length := by unfold balsL; rw [if_pos e]
  rw [e, e2]
  obtain ⟨N, rfl⟩ : ∃ N : Nat, n = (N : Int) := ⟨n.toNat, by omega⟩
  have hNn : (N : Int).toNat = N := by omega
  have hNb : (N : Int) ≤ 4294967296 := by omega
  have hl1 : ∀ k, (balsT (N : Int) ps t k).length = N := fun k => by
    have : (balsT (N : Int) ps t k).length = (N : Int).toNat := tbl_len
    rw [this, hNn]
  obtain ⟨R, hR⟩ : ∃ R, balsT (N : Int) ps t ps.length = R := ⟨_, rfl⟩
  rw [hR]
  simp +contextual (maxSteps := 4000000) only [↓ur_skip, ↓ur_seq, ↓ur_block, ↓ur_region, ↓ur_cond, ↓cont_seq, ↓ops_consN, nY_move, nY_assign, nY_box, nY_load, nY_binOp, nilO_int, nY_unOp, nY_makeSlice, nY_fieldAddr, nY_callf, nY_callb, ↓ops_nil, opsIf_some, condC_false, Option.map_some, Option.bind_some, Option.getD_some, Nat.reduceLT, Bool.false_eq_true, ↓upd_same, ↓upd_ne, Nat.reduceBEq, true_and, and_true, List.getD_cons_zero, List.getD_cons_succ, List.getElem?_cons_zero, List.getElem?_cons_succ, cfg_P, cfg_tab, cfg_muts, cfg_frz, cfg_num, numOf_eq, List.length_map, List.contains_nil, Int.natCast_nonneg, Int.toNat_natCast, decide_true, decide_false, List.lookup_cons, List.lookup_nil, tabOf_cons, tab_v, Bool.and_self, Nat.reduceEqDiff, List.nil_append, List.append_nil, List.length_cons, List.length_nil, Nat.zero_add, Nat.add_zero, List.drop_zero, Nat.reduceAdd, Nat.lt_succ_self, Bool.not_true, Bool.not_false, not_true_eq_false, st0, Nat.le_refl, pur_int, pur_lits, cells_agg, pur_agg, ↓ev_tmp, ↓ev_int, ↓ev_nils, ↓ev_func, ↓iop_move, ↓iop_assign, ↓iop_box, ↓iop_load, ↓iop_binOp, ↓iop_unOp, ↓iop_makeSlice, mkSl_int, ↓iop_fieldAddr, ↓iop_callv, ↓iop_callb, nrmAll_cons, nrmAll_nil, bi_len, lenM_none, nrm_agg, nrmL_cons, nrmL_nil, nrm_int, nrm1_int, nrm1_lits, pickP_f, pickP_t, loadP_vptr, fieldP_vptr, lenP_lits, b_neq, u_not, env0_eq, valT_eq, pursL_cons, pursL_nil, Store.new, ↓reduceIte, callP_eq, tsOf_eq, boxP_eq, List.take_succ_cons, List.take_nil, ↓evs_cons, ↓evs_nil, Int.le_refl, beq_self_eq_true, see_eq, and_false, Bool.true_eq_false, e_book, s_book, e_win, s_win, nth_psts, pur_psts, nth_gaps, pur_gaps, nth_pays, pur_pays, Try.f19, ty3, ty22, ty34, ty45, h0, h1, hNb]
  refine loop_cnt [9, 24, 25, 26, 27, 28, 29, 30, 31, 32, 33, 34, 35, 36, 37, 38, 39, 40, 41, 42, 43, 44, 45, 46, 47, 48, 49, 50] ps.length (fun k ρ st' => ρ 24 = I k ∧ st'.obj 0 = some (.arr 0 1 ((balsT (N : Int) ps t k).map (PV.int .i64))) ∧ 1 ≤ st'.next) (.refl _) ?_ ?_
  · simp +contextual (maxSteps := 4000000) only [↓upd_same, true_and, and_true, Option.some.injEq, updO_same, IObj.arr.injEq, Nat.le_refl, Int.cast_ofNat_Int, nth_psts, pur_psts, nth_gaps, pur_gaps, nth_pays, pur_pays, Try.f19, tbl_zero]
    unfold balsT
    rw [hNn]
    rfl
  rintro k ρ ⟨ob, M⟩ hk ⟨h24, o0, hM⟩
  dsimp only at o0 hM
  have hM1 : ¬ 0 = M := by omega
  have hM2 : ¬ M = 0 := by omega
  have hbl := hl1 k
  by_cases hlt : k < ps.length
  · have hwk := wrapN' (k := k) (by omega)
    obtain ⟨g1, g2⟩ := ok.one k hlt
    have hst := fun h => bals_step (n := (N : Int)) (ps := ps) (t := t) (k := k) (u := (ps.getD k dP).1.toNat) (v := (ps.getD k dP).2.1.toNat) rfl h (by have := g1.1; unfold accO at this; omega) (by have := g1.2.1; unfold accO at this; omega) (by have h1 := g1.1; have h2 := g1.2.1; have h3 := g1.2.2; unfold accO at h1 h2; omega) (by have := g1.1; unfold accO at this; omega) (by have := g1.2.1; unfold accO at this; omega)
    have hsk : ¬ (ps.getD k dP).2.2.2.1 ≤ t → balsT (N : Int) ps t (k + 1) = balsT (N : Int) ps t k := fun h => by
      unfold balsT
      refine tbl_ext fun i _ => ?_
      simp only [balK]; rw [if_neg h, Int.add_zero]
    have hbnd : ∀ i, i < N → -(10995116277760000) ≤ (balsT (N : Int) ps t k).getD i 0 ∧ (balsT (N : Int) ps t k).getD i 0 ≤ 10995116277760000 := fun i hi => by
      have := balK_le ok (i : Int) t k hk
      unfold balsT
      rw [tbl_at (by omega)]
      omega
    generalize hx : ps.getD k dP = x at *
    by_cases c : x.2.2.2.1 ≤ t
    · have hst := hst c
      rw [← hst]
      unfold accO at g1
      unfold rngO at g2
      have e1 := Int.toNat_of_nonneg g1.1.1
      have e2 := Int.toNat_of_nonneg g1.2.1.1
      have hun : x.1.toNat < N := by omega
      have hvn : x.2.1.toNat < N := by omega
      have huv : ¬ x.1.toNat = x.2.1.toNat := by omega
      have b1 := hbnd _ hun
      have b2 := hbnd _ hvn
      have hs1 : ((balsT (N : Int) ps t k).set x.1.toNat ((balsT (N : Int) ps t k).getD x.1.toNat 0 + x.2.2.1)).getD x.2.1.toNat 0 = (balsT (N : Int) ps t k).getD x.2.1.toNat 0 := by
        simp only [List.getD_eq_getElem?_getD, List.getElem?_set, if_neg huv]
      have w1 : IntKind.i64.wrap ((balsT (N : Int) ps t k).getD x.1.toNat 0 + x.2.2.1) = (balsT (N : Int) ps t k).getD x.1.toNat 0 + x.2.2.1 := wrap64 (by omega) (by omega)
      have w2 : IntKind.i64.wrap ((balsT (N : Int) ps t k).getD x.2.1.toNat 0 - x.2.2.1) = (balsT (N : Int) ps t k).getD x.2.1.toNat 0 - x.2.2.1 := wrap64 (by omega) (by omega)
      generalize x.1.toNat = u at *
      generalize x.2.1.toNat = v at *
      generalize balsT (N : Int) ps t k = T at *
      simp +contextual (maxSteps := 4000000) only [↓ur_skip, ↓ur_seq, ↓ur_block, ↓ur_region, ↓ur_cond, ↓cont_seq, ↓cont_blk, ↓cont_lp, ↓ops_consN, nY_move, nY_alloc, nY_load, nY_store, nY_binOp, nilO_tmp, nilO_int, nY_fieldAddr, nY_indexAddr, ↓ops_nil, opsIf_some, opsIf_none, condC_true, Option.map_some, Option.bind_some, Option.getD_some, Nat.reduceLT, Bool.false_eq_true, ↓upd_same, ↓upd_ne, Nat.reduceBEq, and_true, List.getD_cons_zero, List.getD_cons_succ, List.getElem?_cons_zero, List.getElem?_cons_succ, cfg_P, cfg_frz, cfg_num, numOf_eq, List.length_map, ↓havoc_in, ↓havoc_out, agree_upd, agree_havoc, List.contains_cons, List.contains_nil, Bool.or_false, Bool.or_true, Int.natCast_nonneg, Int.ofNat_lt, Int.toNat_natCast, nth_int, decide_true, List.nil_append, List.append_nil, updO_same, updO_ne, List.length_cons, List.length_nil, Nat.zero_add, Nat.add_zero, List.drop_zero, List.take_zero, Nat.reduceAdd, List.set_cons_zero, Nat.reduceLeDiff, nth_zero, Nat.lt_succ_self, Bool.not_false, not_false_eq_true, Nat.le_refl, cells_int, cells_agg, ↓ev_tmp, ↓ev_int, ↓iop_move, ↓iop_alloc, ↓iop_load, ↓iop_store, ↓iop_binOp, ↓iop_fieldAddr, ↓iop_indexAddr, idxA_int, pickP_f, pickP_t, loadP_vptr, loadP_ptr, setCells_agg, setCells_int, storeP_ptr, fieldP_ptr, indexP_lits, indexP_ref, b_add, b_sub, b_lss, b_leq, splice_eq, env0_eq, Store.new, Store.set, ↓reduceIte, arr_eq, arrB_some, beq_eq_false_iff_ne, ne_eq, set_int, List.take_succ_cons, List.drop_succ_cons, List.drop_nil, List.take_nil, beq_self_eq_true, see_eq, nth_psts, pur_psts, nth_gaps, pur_gaps, nth_pays, pur_pays, Try.f19, ty3, ty22, ty34, ty61, h24, o0, hM1, hM2, hbl, hlt, hx, c, ← e1, ← e2, hun, hvn, w1, w2, hs1, List.length_set, hwk]
    · rw [hsk c]
      simp +contextual (maxSteps := 4000000) only [↓ur_skip, ↓ur_seq, ↓ur_block, ↓ur_region, ↓ur_cond, ↓cont_seq, ↓cont_blk, ↓cont_lp, ↓ops_consN, nY_move, nY_alloc, nY_load, nY_store, nY_binOp, nilO_tmp, nilO_int, nY_fieldAddr, nY_indexAddr, ↓ops_nil, opsIf_some, opsIf_none, condC_true, condC_false, Option.map_some, Option.bind_some, Option.getD_some, Nat.reduceLT, Bool.false_eq_true, ↓upd_same, ↓upd_ne, Nat.reduceBEq, and_true, List.getD_cons_zero, List.getD_cons_succ, List.getElem?_cons_zero, List.getElem?_cons_succ, cfg_P, cfg_frz, cfg_num, numOf_eq, List.length_map, ↓havoc_in, ↓havoc_out, agree_upd, agree_havoc, List.contains_cons, List.contains_nil, Bool.or_false, Bool.or_true, Int.natCast_nonneg, Int.ofNat_lt, Int.toNat_natCast, decide_true, decide_false, List.nil_append, List.append_nil, updO_same, updO_ne, List.length_cons, List.length_nil, Nat.zero_add, List.drop_zero, List.take_zero, Nat.reduceAdd, List.set_cons_zero, Nat.reduceLeDiff, nth_zero, Nat.lt_succ_self, Bool.not_false, not_false_eq_true, Nat.le_refl, cells_agg, ↓ev_tmp, ↓ev_int, ↓iop_move, ↓iop_alloc, ↓iop_load, ↓iop_store, ↓iop_binOp, ↓iop_fieldAddr, ↓iop_indexAddr, idxA_int, pickP_f, pickP_t, loadP_vptr, loadP_ptr, setCells_agg, storeP_ptr, fieldP_ptr, indexP_lits, b_add, b_lss, b_leq, splice_eq, env0_eq, Store.new, Store.set, ↓reduceIte, arr_eq, arrB_some, beq_eq_false_iff_ne, ne_eq, List.take_succ_cons, List.drop_succ_cons, List.drop_nil, List.take_nil, beq_self_eq_true, see_eq, nth_psts, pur_psts, nth_gaps, pur_gaps, nth_pays, pur_pays, Try.f19, ty3, ty22, ty61, h24, o0, hM1, hM2, hlt, hx, c, hwk]
  · have e : k = ps.length := by omega
    subst e
    rw [hR] at o0 hbl
    have htk : List.take N (R.map (PV.int .i64)) = R.map (PV.int .i64) := List.take_of_length_le (by rw [List.length_map, hbl]; exact Nat.le_refl _)
    simp +contextual (maxSteps := 4000000) only [↓ur_seq, ↓ur_exit, ↓ur_ret, ↓ur_region, ↓ur_cond, ↓cont_seq, ↓leave_seq, ↓leave_blk, ↓leave_lp, ↓done_nil, ↓ops_consN, nY_move, nY_assign, nY_binOp, nilO_tmp, ↓ops_nil, opsIf_some, condC_false, Option.map_some, Option.bind_some, Nat.reduceLT, ↓upd_same, ↓upd_ne, Nat.reduceBEq, true_and, and_true, endQ, cfg_P, List.length_map, ↓havoc_in, ↓havoc_out, List.contains_cons, List.contains_nil, Bool.or_false, Bool.or_true, Int.ofNat_lt, decide_false, Option.some.injEq, exists_eq_left', pur_ints, Nat.zero_add, List.drop_zero, Prod.mk.injEq, Nat.lt_irrefl, Nat.lt_succ_self, Bool.not_false, Nat.le_refl, DRx_int, DRx_ref, DRx_tuple, DRxL_cons, DRxL_nil, ↓ev_tmp, ↓ev_int, ↓iop_move, ↓iop_assign, ↓iop_binOp, b_lss, ires_eq, iresL_2, iresAll_nil, iresAll_cons, iresOne_tmp, ↓reduceIte, arr_eq, arrB_some, beq_self_eq_true, nth_psts, pur_psts, nth_gaps, pur_gaps, nth_pays, pur_pays, Try.f19, h24, o0, hbl, htk]
theorem o_bals : O_bals := k_bals c_bals
end Sim
