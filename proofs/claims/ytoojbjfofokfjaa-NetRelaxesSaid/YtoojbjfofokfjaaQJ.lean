/- What functions of this seat compute, by values: contracts (lemmas of the statement's proof, under the conditions that each names). -/
import Derived.Test.YtoojbjfofokfjaaQG
namespace Sim
open Go Go.Proofs
set_option maxRecDepth 10000
set_option maxHeartbeats 2000000
set_option linter.unusedVariables false
set_option linter.unusedSimpArgs false
attribute [local congr] opsIf_congr condC_congr guardC_congr grd_congr pick3_congr obind_congr omap_congr

theorem fold_addS_succ {l acc : List Snd} {i : Nat} (h : i < l.length) : (l.take (i + 1)).foldl addS acc = addS ((l.take i).foldl addS acc) (l.getD i dS) := by
  rw [List.take_succ_eq_append_getElem h, List.foldl_append]
  simp [h]
theorem fold_bnd {hn : Int} {ls : List Lnk} {L : List (List Snd)} {k : Nat} (h : ∀ i, i < k → OKr hn ls (L.getD i [])) {l : List Snd} (ok : OKr hn ls l) (i : Nat) : Bnd ((l.take i).foldl addS (emT L k)) (2000 * k + 2000) := by
  have h1 := rel_fold (l.take i) (rel_T (L := L) k)
  have h2 := foldl_bnd (take_bytes ok i) (outT_bnd h)
  exact ((h2.perm h1.1).mono (by have := ok.len; simp; omega))
noncomputable def A_join : (Int) × (List Lnk) × (List (List Snd)) → List PV := fun (hn, ls, L) => [.agg [I hn, lnks ls], lss L]
noncomputable def R_join : (Int) × (List Lnk) × (List (List Snd)) → PV := fun (hn, ls, L) => .tuple [snds (joinM hn ls L), I (joinE hn ls L)]
def H_join : (Int) × (List Lnk) × (List (List Snd)) → Prop := fun (hn, ls, L) => L.length ≤ 400
noncomputable def e_join : Nat × Ent := (19, .v (specOf A_join R_join H_join))
theorem j_join : ∀ i j, A_join i = A_join j → i = j := by
  rintro ⟨hn₁, ls₁, L₁⟩ ⟨hn₂, ls₂, L₂⟩ h
  simp only [A_join, List.cons.injEq, and_true, PV.lits.injEq, PV.int.injEq, PV.bool.injEq, PV.str.injEq, PV.agg.injEq, PV.func.injEq, PV.vptr.injEq, true_and, List.map_nil, inj_ints, inj_strs, inj_lnks, inj_snds, inj_lss] at h
  simp [Prod.ext_iff, h] <;> omega
theorem s_join (hn : Int) (ls : List Lnk) (L : List (List Snd)) : specOf A_join R_join H_join [.agg [I hn, lnks ls], lss L] = @ite (Option (PV)) (L.length ≤ 400) (Classical.propDecidable _) (some (.tuple [snds (joinM hn ls L), I (joinE hn ls L)])) none := specOf_if j_join (hn, ls, L)
def C_join : Prop := ∀ (hn : Int) (ls : List Lnk) (L : List (List Snd)) (h : L.length ≤ 400) , VC Try.prog 19 [.agg [I hn, lnks ls], lss L] (.tuple [snds (joinM hn ls L), I (joinE hn ls L)])
def O_join : Prop := EntOK Try.prog e_join.1 e_join.2
theorem k_join (c : C_join) : O_join := specOf_ok fun ⟨hn, ls, L⟩ h => c hn ls L h
theorem c_join : C_join := by
  rintro hn ls L hL
  refine vc_ofU mixed (l := [e_check, e_right, e_sort]) ((eok_cons o_check (eok_cons o_right (eok_cons o_sort eok_nil)))) [] []  Try.func19 rfl (by decide +kernel) (N := 78) rfl (by simp) rfl (by kernel_rfl) fun hs => ?_
  simp only [smallL, PV.small, List.length_map, and_true, true_and] at hs
  by_cases h : checkM hn ls = 0
  case neg =>
    rw [show joinE hn ls L = checkM hn ls by simp [joinE, h], show joinM hn ls L = [] by simp [joinM, joinE, h]]
    generalize hr : checkM hn ls = r at *
    simp +contextual (maxSteps := 4000000) only [↓ur_seq, ↓ur_ret, ↓ur_region, ↓ur_cond, ↓cont_seq, ↓done_nil, ↓done_seq, ↓ops_consN, nY_move, nY_assign, nY_box, nY_load, nY_binOp, nY_callf, ↓ops_nil, opsIf_some, condC_true, Option.map_some, Option.bind_some, Option.getD_some, Nat.reduceLT, Bool.false_eq_true, ↓upd_same, ↓upd_ne, Nat.reduceBEq, and_true, List.getD_cons_zero, endQ, cfg_P, cfg_tab, cfg_muts, cfg_frz, List.map_nil, List.contains_nil, decide_true, Option.some.injEq, exists_eq_left', List.lookup_cons, List.lookup_nil, tabOf_cons, tab_v, Bool.and_self, List.nil_append, List.append_nil, List.length_cons, List.length_nil, Nat.zero_add, List.drop_zero, Nat.reduceAdd, not_false_eq_true, st0, Nat.le_refl, pur_int, pur_lits, cells_agg, pur_agg, DRx_int, DRx_nils_lits, DRx_tuple, DRxL_cons, DRxL_nil, ↓ev_tmp, ↓ev_int, ↓ev_nils, ↓ev_func, ↓iop_move, ↓iop_assign, ↓iop_box, ↓iop_load, ↓iop_binOp, ↓iop_callv, nrmAll_cons, nrmAll_nil, nrm_agg, nrmL_cons, nrmL_nil, nrm1_int, nrm1_lits, pickP_t, loadP_vptr, b_neq, env0_eq, ires_eq, iresL_2, iresAll_nil, iresAll_cons, iresOne_tmp, valT_eq, pursL_cons, pursL_nil, ↓reduceIte, callP_eq, boxP_eq, List.take_succ_cons, List.take_nil, ↓evs_cons, ↓evs_nil, beq_self_eq_true, see_eq, and_false, Bool.true_eq_false, e_check, s_check, e_right, e_sort, nth_lnks, pur_lnks, nth_snds, pur_snds, nth_lss, pur_lss, lkC_len, lkC_0, lkC_1, lkC_cap, lkC_pri, lkC_take, pur_lkC, Nat.mul_one, Try.f19, ty24, h, hr]
  have hjE : joinE hn ls L = if rsT hn ls L L.length ≠ 0 then rsT hn ls L L.length else if 2000 < (outM L).length then 2 else if bigT (outM L) (outM L).length = true then 3 else 0 := by simp [joinE, h]
  have hj : ∀ e l, joinE hn ls L = e → (if e = 0 then outM L else []) = l → snds (joinM hn ls L) = snds l ∧ I (joinE hn ls L) = I e := fun e l h1 h2 => by rw [h1, ← h2, joinM, h1]; exact ⟨rfl, rfl⟩
  generalize snds (joinM hn ls L) = jM at *
  generalize hJ : joinE hn ls L = jE at *
  simp +contextual (maxSteps := 4000000) only [↓ur_skip, ↓ur_seq, ↓ur_block, ↓ur_region, ↓ur_cond, ↓cont_seq, ↓ops_consN, nY_move, nY_assign, nY_box, nY_load, nY_binOp, nY_makeMap, nY_callf, nY_callb, ↓ops_nil, opsIf_some, condC_false, Option.map_some, Option.bind_some, Option.getD_some, Nat.reduceLT, Bool.false_eq_true, ↓upd_same, ↓upd_ne, Nat.reduceBEq, true_and, List.getD_cons_zero, List.getD_cons_succ, cfg_P, cfg_tab, cfg_muts, cfg_frz, List.length_map, List.contains_nil, decide_false, List.lookup_cons, List.lookup_nil, tabOf_cons, tab_v, Bool.and_self, List.nil_append, List.append_nil, List.length_cons, List.length_nil, Nat.zero_add, List.drop_zero, Nat.reduceAdd, Nat.lt_succ_self, not_true_eq_false, st0, Nat.le_refl, pur_int, pur_lits, cells_agg, pur_agg, ↓ev_tmp, ↓ev_int, ↓ev_nils, ↓ev_func, ↓iop_move, ↓iop_assign, ↓iop_box, ↓iop_load, ↓iop_binOp, ↓iop_callv, ↓iop_callb, nrmAll_cons, nrmAll_nil, bi_len, lenM_none, ↓iop_makeMap, nrm_agg, nrmL_cons, nrmL_nil, nrm1_int, nrm1_lits, pickP_t, loadP_vptr, lenP_lits, b_neq, env0_eq, valT_eq, pursL_cons, pursL_nil, Store.new, ↓reduceIte, callP_eq, boxP_eq, List.take_succ_cons, List.take_nil, ↓evs_cons, ↓evs_nil, beq_self_eq_true, see_eq, and_false, Bool.true_eq_false, e_check, s_check, e_right, e_sort, nth_lnks, pur_lnks, nth_snds, pur_snds, nth_lss, pur_lss, lkC_len, lkC_0, lkC_1, lkC_cap, lkC_pri, lkC_take, pur_lkC, Nat.mul_one, Try.f19, ty24, ty25, ty73, h]
  refine loop_cnt [4, 5, 9, 10, 12, 24, 25, 26, 27, 28, 29, 30, 31, 32, 33, 34, 35, 36, 37, 38, 39, 40, 41, 42, 43, 44, 45, 46, 47, 48, 49, 50, 51, 52, 53] L.length (fun k ρ st' => ρ 24 = I k ∧ rsT hn ls L k = 0 ∧ st'.obj 0 = some (.map 0 (.ints 2) ((emT L k).map encS)) ∧ 0 < st'.next) (.refl _) ?_ ?_
  · simp +contextual (maxSteps := 4000000) only [↓upd_same, and_true, List.map_nil, updO_same, Nat.lt_succ_self, Int.cast_ofNat_Int, nth_lnks, pur_lnks, nth_snds, pur_snds, nth_lss, pur_lss, lkC_len, lkC_0, lkC_1, lkC_cap, lkC_pri, lkC_take, pur_lkC, Nat.mul_one, Try.f19, rsT, emT]
  · rintro k ρ ⟨ob, M⟩ hk ⟨h24, hzk, h0, hM⟩
    dsimp only at h0 hM
    have n0 : ¬ 0 = M := by omega
    have m0 : ¬ M = 0 := by omega
    have hall := rsT_zero.1 hzk
    by_cases hlt : k < L.length
    · have hw1 : IntKind.i64.wrap ((k : Int) + 1) = ((k + 1 : Nat) : Int) := by rw [wrap64 (by omega) (by omega)]; omega
      have hs : rsT hn ls L (k + 1) = rightM hn ls (L.getD k []) := by simp [rsT, hzk]
      have hst : emT L (k + 1) = (L.getD k []).foldl addS (emT L k) := rfl
      have hfb := fun (ok : OKr hn ls (L.getD k [])) (i : Nat) => fold_bnd hall ok i
      generalize hx : L.getD k [] = x at *
      by_cases hb : rightM hn ls x = 0
      · have ok := right_zero.1 hb
        have hol := ok.len
        have hob := ok.bytes'
        have hos := ok.small
        have hfb := hfb ok
        rw [hb] at hs
        generalize emT L k = acc at *
        simp +contextual (maxSteps := 4000000) only [↓ur_skip, ↓ur_seq, ↓ur_block, ↓ur_region, ↓ur_cond, ↓cont_seq, ↓ops_consN, nY_move, nY_assign, nY_load, nY_binOp, nY_indexAddr, nY_callf, nY_callb, ↓ops_nil, opsIf_some, condC_true, condC_false, Option.map_some, Option.bind_some, Option.getD_some, Nat.reduceLT, Bool.false_eq_true, ↓upd_same, ↓upd_ne, Nat.reduceBEq, true_and, and_true, List.getElem?_cons_zero, cfg_P, cfg_tab, cfg_muts, cfg_frz, List.length_map, ↓havoc_in, ↓havoc_out, List.contains_cons, List.contains_nil, Bool.or_false, Bool.or_true, Int.natCast_nonneg, Int.ofNat_lt, Int.toNat_natCast, decide_true, decide_false, List.lookup_cons, List.lookup_nil, tabOf_cons, tab_v, Bool.and_self, Nat.reduceEqDiff, List.nil_append, List.append_nil, List.length_cons, List.length_nil, Nat.zero_add, List.drop_zero, Nat.reduceAdd, Nat.lt_succ_self, not_true_eq_false, Nat.le_refl, pur_int, cells_lits, pur_lits, pur_agg, ↓ev_tmp, ↓ev_int, ↓ev_func, ↓iop_move, ↓iop_assign, ↓iop_load, ↓iop_binOp, ↓iop_indexAddr, idxA_int, ↓iop_callv, ↓iop_callb, nrmAll_cons, nrmAll_nil, bi_len, lenM_none, nrm_agg, nrmL_cons, nrmL_nil, nrm_lits, nrm1_int, nrm1_lits, pickP_f, pickP_t, loadP_vptr, indexP_lits, lenP_lits, b_neq, b_lss, valT_eq, pursL_cons, pursL_nil, ↓reduceIte, callP_eq, List.take_succ_cons, List.take_nil, ↓evs_cons, ↓evs_nil, beq_self_eq_true, see_eq, and_false, Bool.true_eq_false, s_right, nth_lnks, pur_lnks, nth_snds, pur_snds, nth_lss, pur_lss, lkC_len, lkC_0, lkC_1, lkC_cap, lkC_pri, lkC_take, pur_lkC, Nat.mul_one, Try.f19, ty24, ty25, ty29, h0, n0, m0, h24, hlt, hx, hb]
        refine loop_cnt [12, 36, 37, 38, 39, 40, 41, 42, 43, 44, 45, 46, 47, 48, 49, 50, 51, 52] x.length (fun i ρ st' => ρ 36 = I i ∧ st'.obj 0 = some (.map 0 (.ints 2) (((x.take i).foldl addS acc).map encS)) ∧ 0 < st'.next) (.refl _) ?_ ?_
        · simp +contextual (maxSteps := 4000000) only [↓upd_same, true_and, Option.some.injEq, List.take_zero, Int.cast_ofNat_Int, nth_lnks, pur_lnks, nth_snds, pur_snds, nth_lss, pur_lss, lkC_len, lkC_0, lkC_1, lkC_cap, lkC_pri, lkC_take, pur_lkC, Nat.mul_one, Try.f19, h0]
          exact ⟨rfl, hM⟩
        · rintro i ρ2 ⟨ob2, M2⟩ hi ⟨h36, h02, hM2⟩
          dsimp only at h02 hM2
          have n02 : ¬ 0 = M2 := by omega
          have m02 : ¬ M2 = 0 := by omega
          by_cases hilt : i < x.length
          · have hw2 : IntKind.i64.wrap ((i : Int) + 1) = ((i + 1 : Nat) : Int) := by rw [wrap64 (by omega) (by omega)]; omega
            have hsx := fold_addS_succ (acc := acc) hilt
            have hb1 := hfb i
            have hg := getS_bnd (x := x.getD i dS) hb1.2
            have hxb := hob _ (getD_mem dS hilt)
            have hxs := hos _ (getD_mem dS hilt)
            rw [hsx]
            generalize (x.take i).foldl addS acc = o at *
            generalize hxi : x.getD i dS = y at *
            have hget := mget_S (x := y) (em := o)
            have hput := mput_S (x := y) (em := o)
            unfold smS at hxs
            have r1 : -9223372036854775808 ≤ y.2.1 ∧ y.2.1 ≤ 9223372036854775807 := by omega
            have r2 : -9223372036854775808 ≤ y.1 ∧ y.1 ≤ 9223372036854775807 := by omega
            generalize hgv : getS o y = gv at *
            have hwb : IntKind.i64.wrap (gv + y.2.2) = gv + y.2.2 := wrap64 (by omega) (by omega)
            simp +contextual (maxSteps := 4000000) only [↓ur_skip, ↓ur_seq, ↓ur_block, ↓ur_region, ↓ur_cond, ↓cont_seq, ↓cont_blk, ↓cont_lp, ↓ops_consN, nY_move, nY_alloc, nY_build, nY_load, nY_store, nY_binOp, nY_fieldAddr, nY_indexAddr, nY_lookup, nY_mapEntry, nY_entryStore, nY_extract, ↓ops_nil, opsIf_some, opsIf_none, condC_true, Option.map_some, Option.bind_some, Option.getD_some, Nat.reduceLT, Bool.false_eq_true, ↓upd_same, ↓upd_ne, Nat.reduceBEq, true_and, and_true, List.getElem?_cons_zero, List.getElem?_cons_succ, cfg_P, cfg_frz, cfg_num, numOf_eq, List.length_map, ↓havoc_in, ↓havoc_out, agree_upd, agree_havoc, List.contains_cons, List.contains_nil, Bool.or_false, Bool.or_true, Int.natCast_nonneg, Int.ofNat_lt, Int.toNat_natCast, decide_true, List.cons_append, List.nil_append, List.append_nil, updO_same, updO_ne, List.length_cons, List.length_nil, Nat.zero_add, Nat.add_zero, List.drop_zero, List.take_zero, Nat.reduceAdd, List.set_cons_zero, Nat.reduceLeDiff, nth_zero, Nat.lt_succ_self, not_false_eq_true, Nat.le_refl, cells_int, cells_agg, ↓ev_tmp, ↓ev_int, ↓iop_move, ↓iop_alloc, ↓iop_build, ↓iop_load, ↓iop_store, ↓iop_binOp, ↓iop_fieldAddr, ↓iop_indexAddr, idxA_int, ↓iop_extract, extr_tuple, ↓iop_mapEntry, ↓iop_entryStore, ↓iop_lookup, mapSlot_mref, mapStore_mref, mset_eq, keyIs_ints2, mapGet_mref, mapLk_ff, mapB_some, pickP_f, pickP_t, loadP_vptr, loadP_ptr, setCells_agg, storeP_ptr, fieldP_ptr, indexP_lits, b_add, b_lss, fill_nil, fill_cons, fill1_some, buildP_eq, bldA_none, splice_eq, Store.new, Store.set, ↓reduceIte, arr_eq, arrB_some, beq_eq_false_iff_ne, ne_eq, List.take_succ_cons, List.drop_succ_cons, List.drop_nil, List.take_nil, ↓evp_cons, ↓evp_nil, beq_self_eq_true, see_eq, nth_lnks, pur_lnks, nth_snds, pur_snds, nth_lss, pur_lss, lkC_len, lkC_0, lkC_1, lkC_cap, lkC_pri, lkC_take, pur_lkC, Nat.mul_one, Try.f19, ty3, ty29, ty52, ty73, ty75, h02, n02, m02, h36, hilt, hxi, hw2, hget, hput, r1, r2, hwb]
            omega
          · have e : i = x.length := by omega
            subst e
            rw [List.take_length, ← hst] at h02
            simp +contextual (maxSteps := 4000000) only [↓ur_seq, ↓ur_exit, ↓ur_region, ↓ur_cond, ↓cont_seq, ↓cont_blk, ↓cont_lp, ↓leave_seq, ↓leave_blk, ↓leave_lp, ↓ops_consN, nY_move, nY_binOp, ↓ops_nil, opsIf_some, condC_false, Option.map_some, Nat.reduceLT, ↓upd_same, ↓upd_ne, Nat.reduceBEq, true_and, cfg_P, ↓havoc_in, ↓havoc_out, agree_upd, List.contains_cons, List.contains_nil, Bool.or_false, Bool.or_true, Int.ofNat_lt, decide_false, Nat.lt_irrefl, ↓ev_tmp, ↓ev_int, ↓iop_move, ↓iop_binOp, b_add, b_lss, ↓reduceIte, beq_self_eq_true, nth_lnks, pur_lnks, nth_snds, pur_snds, nth_lss, pur_lss, lkC_len, lkC_0, lkC_1, lkC_cap, lkC_pri, lkC_take, pur_lkC, Nat.mul_one, Try.f19, h02, n02, m02, h24, h36, hw1, hs]
            refine ⟨?_, hM2⟩
            rw [agree_havoc_sub (by decide +kernel)]
            simp +contextual (maxSteps := 4000000) only [Nat.reduceBEq, agree_upd, agree_havoc, List.contains_cons, List.contains_nil, Bool.or_false, Bool.or_true, beq_self_eq_true, nth_lnks, pur_lnks, nth_snds, pur_snds, nth_lss, pur_lss, lkC_len, lkC_0, lkC_1, lkC_cap, lkC_pri, lkC_take, pur_lkC, Nat.mul_one, Try.f19]
      · have hend := rsT_end (m := L.length) (by rw [hs]; exact hb) (show k + 1 ≤ L.length by omega)
        rw [hend, hs, if_pos hb] at hjE
        obtain ⟨j1, j2⟩ := hj (rightM hn ls x) [] (by rw [hjE]) (by rw [if_neg hb])
        simp +contextual (maxSteps := 4000000) only [↓ur_skip, ↓ur_seq, ↓ur_block, ↓ur_ret, ↓ur_region, ↓ur_cond, ↓cont_seq, ↓done_nil, ↓done_seq, ↓done_blk, ↓done_lp, ↓ops_consN, nY_move, nY_assign, nY_load, nY_binOp, nY_indexAddr, nY_callf, ↓ops_nil, opsIf_some, condC_true, Option.map_some, Option.bind_some, Option.getD_some, Nat.reduceLT, Bool.false_eq_true, ↓upd_same, ↓upd_ne, Nat.reduceBEq, and_true, List.getElem?_cons_zero, endQ, cfg_P, cfg_tab, cfg_muts, cfg_frz, List.map_nil, List.length_map, ↓havoc_in, ↓havoc_out, List.contains_cons, List.contains_nil, Bool.or_false, Bool.or_true, Int.natCast_nonneg, Int.ofNat_lt, Int.toNat_natCast, decide_true, Option.some.injEq, exists_eq_left', List.lookup_cons, List.lookup_nil, tabOf_cons, tab_v, Bool.and_self, Nat.reduceEqDiff, List.nil_append, List.append_nil, List.length_cons, List.length_nil, Nat.zero_add, List.drop_zero, Nat.reduceAdd, Nat.lt_succ_self, not_false_eq_true, Nat.le_refl, pur_int, cells_lits, pur_lits, pur_agg, DRx_int, DRx_nils_lits, DRx_tuple, DRxL_cons, DRxL_nil, ↓ev_tmp, ↓ev_int, ↓ev_nils, ↓ev_func, ↓iop_move, ↓iop_assign, ↓iop_load, ↓iop_binOp, ↓iop_indexAddr, idxA_int, ↓iop_callv, nrmAll_cons, nrmAll_nil, nrm_agg, nrmL_cons, nrmL_nil, nrm_lits, nrm1_int, nrm1_lits, pickP_f, pickP_t, loadP_vptr, indexP_lits, b_neq, b_lss, ires_eq, iresL_2, iresAll_nil, iresAll_cons, iresOne_tmp, valT_eq, pursL_cons, pursL_nil, ↓reduceIte, callP_eq, List.take_succ_cons, List.take_nil, ↓evs_cons, ↓evs_nil, beq_self_eq_true, see_eq, and_false, Bool.true_eq_false, s_right, nth_lnks, pur_lnks, nth_snds, pur_snds, nth_lss, pur_lss, lkC_len, lkC_0, lkC_1, lkC_cap, lkC_pri, lkC_take, pur_lkC, Nat.mul_one, Try.f19, ty24, ty25, ty29, h0, n0, m0, h24, hlt, hx, hb, j1, j2]
    · have e : k = L.length := by omega
      subst e
      rw [hzk, if_neg (fun h => h rfl)] at hjE
      have hrel := rel_T (L := L) L.length
      have hbn := outT_bnd hall
      have hkb := outT_keyB hall
      rw [show outT L L.length = outM L from rfl] at hrel hbn hkb
      generalize outM L = out at *
      generalize emT L L.length = em at *
      have hel := hrel.1.length_eq
      have hol := hbn.1
      by_cases ho : 2000 < out.length
      · rw [if_pos ho] at hjE
        obtain ⟨j1, j2⟩ := hj 2 [] hjE (by simp)
        have hei : (2000 : Int) < (em.length : Int) := by omega
        simp +contextual (maxSteps := 4000000) only [↓ur_seq, ↓ur_exit, ↓ur_ret, ↓ur_region, ↓ur_cond, ↓cont_seq, ↓leave_seq, ↓leave_blk, ↓leave_lp, ↓done_nil, ↓done_seq, ↓ops_consN, nY_move, nY_assign, nY_binOp, nY_callb, ↓ops_nil, opsIf_some, condC_true, condC_false, Option.map_some, Option.bind_some, Option.getD_some, Nat.reduceLT, ↓upd_same, ↓upd_ne, Nat.reduceBEq, and_true, endQ, cfg_P, List.map_nil, List.length_map, ↓havoc_in, ↓havoc_out, List.contains_cons, List.contains_nil, Bool.or_false, Bool.or_true, Int.ofNat_lt, decide_true, decide_false, Option.some.injEq, exists_eq_left', Nat.lt_irrefl, DRx_int, DRx_nils_lits, DRx_tuple, DRxL_cons, DRxL_nil, ↓ev_tmp, ↓ev_int, ↓ev_nils, ↓iop_move, ↓iop_assign, ↓iop_binOp, ↓iop_callb, bi_len, lenM_mref, mapB_some, b_lss, b_gtr, ires_eq, iresL_2, iresAll_nil, iresAll_cons, iresOne_tmp, ↓reduceIte, ↓evs_cons, ↓evs_nil, beq_self_eq_true, nth_lnks, pur_lnks, nth_snds, pur_snds, nth_lss, pur_lss, lkC_len, lkC_0, lkC_1, lkC_cap, lkC_pri, lkC_take, pur_lkC, Nat.mul_one, Try.f19, ty73, h0, n0, m0, h24, hei, j1, j2]
      rw [if_neg ho] at hjE
      have hei : ¬ (2000 : Int) < (em.length : Int) := by omega
      have n1 : ¬ 0 = M + 1 := by omega
      have n2 : ¬ M = M + 1 := by omega
      have n3 : ¬ M + 1 = M := by omega
      simp +contextual (maxSteps := 4000000) only [↓ur_skip, ↓ur_seq, ↓ur_block, ↓ur_exit, ↓ur_region, ↓ur_cond, ↓cont_seq, ↓leave_seq, ↓leave_blk, ↓leave_lp, ↓ops_consN, nY_move, nY_assign, nY_binOp, nY_range, nY_callb, ↓ops_nil, opsIf_some, condC_false, Option.map_some, Option.bind_some, Option.getD_some, Nat.reduceLT, ↓upd_same, ↓upd_ne, Nat.reduceBEq, true_and, cfg_P, List.length_map, ↓havoc_in, ↓havoc_out, List.contains_cons, List.contains_nil, Bool.or_false, Bool.or_true, Int.ofNat_lt, decide_false, Nat.lt_irrefl, ↓ev_tmp, ↓ev_int, ↓ev_nils, ↓iop_move, ↓iop_assign, ↓iop_binOp, ↓iop_callb, bi_len, lenM_mref, ↓iop_range, mapRange_mref, mapB_some, b_lss, b_gtr, Store.new, ↓reduceIte, ↓evs_cons, ↓evs_nil, beq_self_eq_true, nth_lnks, pur_lnks, nth_snds, pur_snds, nth_lss, pur_lss, lkC_len, lkC_0, lkC_1, lkC_cap, lkC_pri, lkC_take, pur_lkC, Nat.mul_one, Try.f19, ty73, h0, n0, m0, h24, hei]
      refine loop_cnt [4, 5, 13, 14, 15, 59, 60, 61, 62, 63, 64, 65, 66, 67, 68, 69, 70, 71, 72, 73, 74] em.length (fun i ρ st' => ∃ seen v, seen.length = i ∧ SeenAt em seen v ∧ (∀ y ∈ v, y.2.2 ≤ 1073741824) ∧ GS st' (ρ 13) (M + 1) 3 (v.map sndV) ∧ st'.obj 0 = some (.map 0 (.ints 2) (em.map encS)) ∧ st'.obj M = some (.it (some (0, 0)) em.length seen) ∧ M + 1 < st'.next) (.slot _ 13 3 ?_ ?_) ?_ ?_
      · simp +contextual (maxSteps := 4000000) only [↓upd_same, ↓upd_ne, Nat.reduceBEq, nth_lnks, pur_lnks, nth_snds, pur_snds, nth_lss, pur_lss, lkC_len, lkC_0, lkC_1, lkC_cap, lkC_pri, lkC_take, pur_lkC, Nat.mul_one, Try.f19]
      · decide
      · refine ⟨[], [], rfl, ⟨List.nodup_nil, by simp, rfl⟩, by simp, ?_⟩
        simp +contextual (maxSteps := 4000000) only [↓upd_same, and_true, List.map_nil, GS_ref, updO_same, updO_ne, List.length_nil, Nat.lt_succ_self, not_false_eq_true, Store.new, beq_eq_false_iff_ne, ne_eq, Nat.reduceBeqDiff, nth_lnks, pur_lnks, nth_snds, pur_snds, nth_lss, pur_lss, lkC_len, lkC_0, lkC_1, lkC_cap, lkC_pri, lkC_take, pur_lkC, Nat.mul_one, Try.f19, h0, n0, n1, n2]
      · rintro i ρ2 ⟨ob2, M2⟩ hi ⟨seen, v, hseen, hsa, hvb, ⟨g, h13, hv⟩, h02, hM2, hMM⟩
        dsimp only at hv h02 hM2 hMM
        rw [List.length_map] at h13
        simp only [ur_block, ur_seq, ur_region, ops_consI]
        conv => arg 2; simp +contextual (maxSteps := 4000000) only [↓ur_skip, ↓ur_seq, ↓ur_block, ↓ur_exit, ↓ur_ret, ↓ur_region, ↓ur_cond, ur_range, Nat.one_ne_zero, ↓run_skip, ↓run_exit, ↓run_ret, ↓run_cond, ↓cont_nil, ↓cont_seq, ↓cont_blk, ↓cont_lp, ↓leave_seq, ↓leave_blk, ↓leave_lp, ↓done_nil, ↓done_seq, ↓done_blk, ↓done_lp, ↓run_seq, ↓run_region, ↓run_block, ↓ops_consN, ↓ops_guardN, ↓leave_nil, ↓setps_cons, ↓setps_nil, rndX_cfg, ↓ops_consVc, ↓ops_guardVc, ↓opsV_func, ↓opsV_yield, nY_move, nY_assign, nY_pick, nY_alloc, nY_box, nY_build, nY_buildSlice, nY_insert, nY_load, nY_store, nY_nilCheck, nY_binOp, nY_unOp, nY_convert, nY_makeInterface, nY_makeFunc, nY_makeMap, nY_makeSlice, nY_slice, nY_fieldAddr, nY_field, nY_indexAddr, nY_index, nY_lookup, nY_mapUpdate, nY_mapEntry, nY_entryStore, nY_range, nY_entry, nY_typeAssert, nY_extract, nY_panic, nY_callf, nY_callb, nY_callt, isNone_none, cfg_yl, ↓ops_nil, opsIf_some, opsIf_none, opsIf_if, opsIf_if', map_if, bind_if, condC_true, condC_false, guardC_u, guardC_tt, guardC_tf, guardC_ft, guardC_ff, Option.map_some, Option.map_none, Option.bind_some, Option.bind_none, Option.getD_some, Option.getD_none, Nat.reduceLT, Bool.false_eq_true, ↓upd_same, ↓upd_ne, Nat.reduceBEq, true_and, and_true, List.getD_cons_zero, List.getD_cons_succ, List.getElem?_toArray, List.getElem?_cons_zero, List.getElem?_cons_succ, endQ, decide_eq_true_eq, decide_eq_false_iff_not, true_implies, forall_const, not_dec, cfg_P, cfg_tab, cfg_muts, cfg_frz, cfg_num, numOf_nil, numOf_eq, List.map_cons, List.map_nil, List.length_map, ↓havoc_in, ↓havoc_out, agree_upd, agree_havoc, agree_self, List.contains_cons, List.contains_nil, Bool.or_false, Bool.or_true, Bool.false_or, Bool.true_or, Int.natCast_nonneg, Int.ofNat_lt, Int.toNat_natCast, nth_int, nth_str, decide_true, decide_false, Option.some.injEq, exists_eq_left', PV.int.injEq, PV.bool.injEq, PV.str.injEq, PV.lits.injEq, PV.tuple.injEq, PV.agg.injEq, List.cons.injEq, List.lookup_cons, List.lookup_nil, tabOf_cons, tab_v, tab_m, tab_a, tab_s, sortT_ref, sortT_nils, pur_ints, pur_strs, Bool.and_true, Bool.and_self, Bool.true_and, Nat.reduceEqDiff, List.cons_append, List.nil_append, List.append_nil, GS_ref, updO_same, updO_ne, List.length_append, List.length_cons, List.length_nil, Nat.zero_add, Nat.add_zero, List.drop_zero, List.take_length, List.take_zero, Nat.not_succ_le_self, Nat.reduceAdd, List.replicate_succ, List.replicate_zero, List.length_replicate, List.set_cons_zero, List.set_cons_succ, Nat.reduceMul, Nat.reduceLeDiff, nth_zero, nth_succ, Prod.mk.injEq, IObj.arr.injEq, Nat.lt_irrefl, Nat.lt_succ_self, Bool.not_true, Bool.not_false, reduceCtorEq, not_true_eq_false, not_false_eq_true, false_implies, Int.reduceEq, Int.reduceLT, Int.reduceLE, Int.reduceToNat, take_map_len, or_false, or_true, st0, Nat.le_refl, Classical.not_not, cells_bool, scal1_bool, scal_bool, pur_bool, rdC_bool, rdP_bool, isCell_bool, cells_int, scal1_int, scal_int, pur_int, rdC_int, rdP_int, isCell_int, cells_str, scal1_str, scal_str, pur_str, rdC_str, rdP_str, isCell_str, cells_nilp, scal1_nilp, scal_nilp, pur_nilp, rdC_nilp, rdP_nilp, cells_ptr, cells_vptr, pur_vptr, rdC_vptr, rdP_vptr, cells_nils, scal1_nils, scal_nils, pur_nils, rdC_nils, rdP_nils, isCell_nils, cells_lits, scal1_lits, scal_lits, pur_lits, rdC_lits, rdP_lits, isCell_lits, cells_ref, pur_ref, scal1_ref, rdC_ref, rdP_ref, cells_func, pur_func, rdC_func, rdP_func, cells_nilf, scal1_nilf, scal_nilf, pur_nilf, rdC_nilf, rdP_nilf, isCell_nilf, cells_iface, cells_nili, scal1_nili, scal_nili, pur_nili, rdC_nili, rdP_nili, isCell_nili, cells_agg, scal_agg, pur_agg, rdP_agg, scal_tuple, pur_tuple, cells_nilm, cells_mref, cells_iter, isCell_mref, isCell_iter, setCells_nilm, setCells_mref, scal1_nilm, scal_nilm, pur_nilm, rdC_nilm, rdP_nilm, DRx_int, DRx_bool, DRx_str, DRx_nils_lits, DRx_nils_nils, DRx_lits, DRx_ref, DRx_agg, DRx_tuple, DRxL_cons, DRxL_nil, ↓ev_tmp, ↓ev_int, ↓ev_bool, ↓ev_str, ↓ev_nils, ↓ev_nilp, ↓ev_nilf, ↓ev_nili, ↓ev_agg, ↓ev_func, c0_int, c0_bool, c0_nils, c0_str, ↓guardP_eq, grd_some, ↓iop_move, ↓iop_assign, ↓pick3_bool, ↓pick3_true, ↓pick3_false, ↓iop_pick, ↓iop_alloc, ↓iop_box, ↓iop_build, ↓iop_buildSlice, ↓iop_load, ↓iop_store, ↓iop_nilCheck, nilCk_vptr, nilCk_ptr, ↓iop_binOp, ↓iop_unOp, ↓iop_convert, ↓iop_makeFunc, ↓iop_makeSlice, mkSl_int, mkSl_frz, mkSl_re, ↓iop_slice, intOfP_int, slcP_ff, slcP_tf, slcP_ft, slcP_tt, ↓iop_fieldAddr, ↓iop_field, fldV_agg, ↓iop_indexAddr, idxA_int, ↓iop_index, idxV_int, ↓iop_extract, extr_tuple, ↓iop_callv, ↓iop_callb, nrmAll_cons, nrmAll_nil, bi_len, lenM_none, lenM_mref, lenM_nilm, bi_copy, copyP_ref, isStr_ref, isStr_lits, isStr_nils, ↓iop_makeMap, ↓iop_makeMap', ↓iop_insert, ↓iop_mapUpdate, ↓iop_mapEntry, ↓iop_entryStore, ↓iop_lookup, ↓iop_range, ↓iop_entry, mapPut_mref, mapSlot_mref, mapStore_mref, mset_eq, keyIs_ints2, mapGet_mref, mapGet_nilm, mapRange_mref, mapRange_nilm, mapLk_tt, mapLk_ff, mapB_some, keyIs_int, keyIs_str, keyIs_bool, bi_append, bi_append_re, appGuard_lits, appGuard_nils, re_arr, bi_min, bi_max, nrm_agg, nrmL_cons, nrmL_nil, nrm_nils, nrm1_some, nrm1_none, nrm_no, nrm_int, nrm_str, nrm_bool, nrm_lits, nrm_ref, nrm_func, nrm_vptr, nrm_ptr, nrm1_int, nrm1_str, nrm1_bool, nrm1_lits, nrm1_ref, pickP_f, pickP_t, loadP_vptr, loadP_ptr, setCells_agg, setCells_int, setCells_bool, setCells_nils, setCells_ref, storeP_ptr, fieldP_vptr, fieldP_ptr, indexP_lits, indexP_ref, indexP_vptr, indexP_ptr, indexV_str, indexV_agg, lenP_nils, lenP_lits, lenP_ref, lenP_str, elemsP_nils, elemsP_lits, elemsP_ref, elemsP_str, sliceP_nils, sliceP_lits, sliceP_ref, sliceP_str, appendP_nils, appendP_ref, b_add, b_sub, b_mul, b_quo, b_rem, b_and, b_or, b_xor, b_andNot, b_eql, b_neq, b_lss, b_leq, b_gtr, b_geq, b_shl, b_shr, bs_add, bs_eql, bs_neq, bs_lss, bs_leq, bs_gtr, bs_geq, u_neg, u_not, cv_int, cv_str, fill_nil, fill_cons, fill1_some, buildP_eq, bldA_none, bldA_some, bel_nil, bel_cons, splice_eq, env0_eq, ires_eq, iresL_1, iresL_2, iresAll_nil, iresAll_cons, iresOne_tmp, iresOne_cell, frzP_eq, frzQ_eq, frzL_eq, again_eq, seal_obj, seal_next, againO_arr, sealO_arr, sealE_agg, sealE_int, sealC_int, sealC_bool, sealC_lits, sealC_nils, sealC_ref, rdAll_cons, rdAll_nil, rdL_cons, rdL_nil, valT_eq, pursL_cons, pursL_nil, Store.new, Store.set, ↓reduceIte, Int.natCast_eq_zero, arr_eq, arrB_some, callP_eq, boxP_eq, bslP_eq, beq_eq_false_iff_ne, ne_eq, Nat.reduceBeqDiff, set_int, opsIf_ite, Int.natCast_inj, List.take_succ_cons, List.drop_succ_cons, List.drop_nil, List.take_nil, guardC_td, guardC_fd, condC_d, bb_eql', bb_neq', ↓evs_cons, ↓evs_nil, ↓evp_cons, ↓evp_nil, implies_true, Int.natCast_zero, only_obj, only_next, without_obj, without_next, idsOf_cons, idsOf_nil, idC_ref, idC_int, idC_bool, idC_str, idC_nils, idC_lits, idC_agg, idL_cons, idL_nil, idE_ref, idE_int, idE_bool, idE_str, idE_nils, idE_lits, Int.le_refl, Int.natCast_pos, beq_self_eq_true, beq_iff_eq, List.all_cons, List.all_nil, see_eq, false_and, and_false, Bool.true_eq_false, Int.reduceAdd, bits_i64, bits_u64, bits_u32, bits_u8, or_i64, Nat.min_def, Int.reducePow, Int.cast_ofNat_Int, e_check, s_check, e_right, s_right, e_sort, s_sort, nth_lnks, pur_lnks, nth_snds, pur_snds, nth_lss, pur_lss, lkC_len, lkC_0, lkC_1, lkC_cap, lkC_pri, lkC_take, pur_lkC, Nat.mul_one, Try.f19, ty3, ty22, ty24, ty25, ty29, ty30, ty52, ty55, ty57, ty73, ty75, ty77]
        rw [mapNext_eq hM2 h02]
        refine ⟨by simp, fun hsl => ?_, fun j k v' hjk hns => ?_⟩
        · have hper := seen_end hsa (by omega)
          have hbf : bigT out out.length = false := bigT_false.2 fun i hi => hvb _ ((hper.trans hrel.1).mem_iff.2 (getD_mem dS hi))
          rw [hbf, if_neg (by simp)] at hjE
          obtain ⟨j1, j2⟩ := hj 0 out hjE (by simp)
          have hso : specOf A_sort R_sort H_sort (v.map sndV) = some (out.map sndV) := by
            rw [s_sort, if_pos, sort_rel hrel hper]
            refine ⟨by rw [(hper.trans hrel.1).length_eq]; omega, fun y hy => hkb y ((hper.trans hrel.1).mem_iff.1 hy), (keys_perm (hper.trans hrel.1)).2 (asc_keys hrel.2)⟩
          have hvl : v.length = out.length := (hper.trans hrel.1).length_eq
          simp +contextual (maxSteps := 4000000) only [↓ur_seq, ↓ur_exit, ↓ur_ret, ↓ur_region, ↓ur_cond, ↓cont_seq, ↓leave_seq, ↓leave_blk, ↓leave_lp, ↓done_nil, ↓ops_consN, nY_move, nY_assign, nY_extract, nY_callf, ↓ops_nil, opsIf_some, condC_false, Option.map_some, Option.bind_some, Option.getD_some, Nat.reduceLT, Bool.false_eq_true, ↓upd_same, ↓upd_ne, Nat.reduceBEq, true_and, and_true, List.getElem?_cons_zero, endQ, cfg_P, cfg_tab, cfg_muts, cfg_frz, List.length_map, ↓havoc_in, List.contains_cons, List.contains_nil, Bool.or_false, Bool.or_true, Option.some.injEq, exists_eq_left', tabOf_cons, tab_s, sortT_ref, Bool.and_true, Bool.and_self, Nat.reduceEqDiff, List.nil_append, List.append_nil, updO_same, Nat.zero_add, List.drop_zero, Prod.mk.injEq, Nat.lt_succ_self, take_map_len, Nat.le_refl, pur_ref, pur_func, DRx_int, DRx_ref, DRx_tuple, DRxL_cons, DRxL_nil, ↓ev_tmp, ↓ev_int, ↓ev_func, ↓iop_move, ↓iop_assign, ↓iop_extract, extr_tuple, ↓iop_callv, nrmAll_cons, nrmAll_nil, nrm_ref, nrm_func, ires_eq, iresL_2, iresAll_nil, iresAll_cons, iresOne_tmp, pursL_cons, pursL_nil, Store.set, ↓reduceIte, arr_eq, arrB_some, callP_eq, ↓evs_cons, ↓evs_nil, beq_self_eq_true, nth_lnks, pur_lnks, nth_snds, pur_snds, nth_lss, pur_lss, lkC_len, lkC_0, lkC_1, lkC_cap, lkC_pri, lkC_take, pur_lkC, Nat.mul_one, Try.f19, ty29, ty77, h02, hM2, h13, hv, hso, j1, j2, hvl]
        · rw [List.getElem?_map, Option.map_eq_some_iff] at hjk
          obtain ⟨y, hjy, hkv⟩ := hjk
          simp only [encS, Prod.mk.injEq] at hkv
          obtain ⟨rfl, rfl⟩ := hkv
          obtain ⟨hjl, hjy⟩ := List.getElem?_eq_some_iff.1 hjy
          have hyd : em.getD j dS = y := by simp [hjl, hjy]
          have hnx := seen_next hsa hjl hns
          rw [hyd] at hnx
          have hilt : i < em.length := by
            have := nodup_leq em.length (seen ++ [j]) hnx.1 hnx.2.1
            simp at this; omega
          have hent := mapEntry_eq (st := ⟨updO ob2 M (some (.it (some (0, 0)) em.length (seen ++ [j]))), M2⟩) (id := M) (m := 0) (g := 0) (n := em.length) (seen := seen) (i := j) (mk := .ints 2) (es := em.map encS) (k := .agg [I y.2.1, I y.1]) (v := I y.2.2) (by simp [updO]) (by simp [updO, n0, h02]) (by simp) (by simp [encS, hjl, hjy])
          have q0 : ¬ 0 = M2 := by omega
          have q1 : ¬ M = M2 := by omega
          have q2 : ¬ M + 1 = M2 := by omega
          have q3 : ¬ M2 = M := by omega
          have q4 : ¬ M2 = 0 := by omega
          have q5 : ¬ M2 = M + 1 := by omega
          have hv1 : v.length + 1 ≤ 2147483648 := by
            have := hsa.2.2
            rw [this]; simp; omega
          by_cases hbig : 1073741824 < y.2.2
          · have hbt : bigT out out.length = true := by
              cases hbt : bigT out out.length with
              | true => rfl
              | false =>
                have hy : y ∈ out := hrel.1.mem_iff.1 (by rw [← hjy]; exact List.getElem_mem _)
                obtain ⟨q, hq, hqy⟩ := at_mem (d := dS) hy
                have := bigT_false.1 hbt q hq
                rw [hqy] at this
                omega
            rw [hbt, if_pos rfl] at hjE
            obtain ⟨j1, j2⟩ := hj 3 [] hjE (by simp)
            simp +contextual (maxSteps := 4000000) only [↓ur_skip, ↓ur_seq, ↓ur_block, ↓ur_ret, ↓ur_region, ↓ur_cond, ↓cont_seq, ↓done_nil, ↓done_seq, ↓done_blk, ↓done_lp, ↓ops_consN, nY_move, nY_assign, nY_alloc, nY_store, nY_binOp, nY_entry, nY_extract, ↓ops_nil, opsIf_some, opsIf_none, condC_true, Option.map_some, Option.bind_some, Option.getD_some, Nat.reduceLT, Bool.false_eq_true, ↓upd_same, ↓upd_ne, Nat.reduceBEq, and_true, List.getElem?_cons_zero, List.getElem?_cons_succ, endQ, cfg_P, cfg_num, numOf_eq, List.map_nil, ↓havoc_out, List.contains_cons, List.contains_nil, Bool.or_false, decide_true, Option.some.injEq, exists_eq_left', List.nil_append, List.append_nil, updO_same, List.length_cons, List.length_nil, Nat.zero_add, List.take_zero, Nat.reduceAdd, List.set_cons_zero, nth_zero, Nat.lt_succ_self, Nat.le_refl, cells_agg, DRx_int, DRx_nils_lits, DRx_tuple, DRxL_cons, DRxL_nil, ↓ev_tmp, ↓ev_int, ↓ev_nils, ↓iop_move, ↓iop_assign, ↓iop_alloc, ↓iop_store, ↓iop_binOp, ↓iop_extract, extr_tuple, ↓iop_entry, setCells_agg, storeP_ptr, b_gtr, splice_eq, ires_eq, iresL_2, iresAll_nil, iresAll_cons, iresOne_tmp, Store.new, Store.set, ↓reduceIte, arr_eq, arrB_some, List.drop_succ_cons, List.drop_nil, nth_lnks, pur_lnks, nth_snds, pur_snds, nth_lss, pur_lss, lkC_len, lkC_0, lkC_1, lkC_cap, lkC_pri, lkC_take, pur_lkC, Nat.mul_one, Try.f19, ty75, h02, hM2, h13, hv, n0, m0, n1, n2, n3, q0, q1, q2, q3, q4, q5, hent, hbig, j1, j2]
          · simp +contextual (maxSteps := 4000000) only [↓ur_skip, ↓ur_seq, ↓ur_block, ↓ur_region, ↓ur_cond, ↓cont_seq, ↓cont_blk, ↓cont_lp, ↓ops_consN, nY_move, nY_assign, nY_alloc, nY_build, nY_buildSlice, nY_load, nY_store, nY_binOp, nY_fieldAddr, nY_entry, nY_extract, nY_callb, ↓ops_nil, opsIf_some, opsIf_none, condC_true, condC_false, Option.map_some, Option.bind_some, Option.getD_some, Nat.reduceLT, Bool.false_eq_true, ↓upd_same, ↓upd_ne, Nat.reduceBEq, true_and, and_true, List.getElem?_cons_zero, List.getElem?_cons_succ, cfg_P, cfg_muts, cfg_frz, cfg_num, numOf_eq, List.length_map, ↓havoc_in, ↓havoc_out, agree_upd, agree_havoc, List.contains_cons, List.contains_nil, Bool.or_false, Bool.or_true, decide_false, Option.some.injEq, List.cons_append, List.nil_append, List.append_nil, GS_ref, updO_same, updO_ne, List.length_cons, List.length_nil, Nat.zero_add, Nat.add_zero, List.drop_zero, List.take_zero, Nat.not_succ_le_self, Nat.reduceAdd, List.replicate_succ, List.replicate_zero, List.set_cons_zero, Nat.reduceMul, Nat.reduceLeDiff, nth_zero, IObj.arr.injEq, Nat.lt_succ_self, reduceCtorEq, not_false_eq_true, take_map_len, or_false, Nat.le_refl, cells_int, cells_agg, ↓ev_tmp, ↓ev_int, ↓iop_move, ↓iop_assign, ↓iop_alloc, ↓iop_build, ↓iop_buildSlice, ↓iop_load, ↓iop_store, ↓iop_binOp, ↓iop_fieldAddr, ↓iop_extract, extr_tuple, ↓iop_callb, ↓iop_entry, bi_append, pickP_f, loadP_ptr, setCells_agg, storeP_ptr, fieldP_ptr, elemsP_lits, appendP_ref, b_gtr, fill_nil, fill_cons, fill1_some, buildP_eq, bldA_none, bel_nil, bel_cons, splice_eq, Store.new, Store.set, ↓reduceIte, arr_eq, arrB_some, bslP_eq, beq_eq_false_iff_ne, ne_eq, Nat.reduceBeqDiff, List.take_succ_cons, List.drop_succ_cons, List.drop_nil, ↓evs_cons, ↓evs_nil, ↓evp_cons, ↓evp_nil, beq_self_eq_true, see_eq, nth_lnks, pur_lnks, nth_snds, pur_snds, nth_lss, pur_lss, lkC_len, lkC_0, lkC_1, lkC_cap, lkC_pri, lkC_take, pur_lkC, Nat.mul_one, Try.f19, ty3, ty29, ty52, ty75, h02, hM2, h13, hv, n0, m0, n1, n2, n3, q0, q1, q2, q3, q4, q5, hent, hbig, hv1]
            refine ⟨hilt, seen ++ [j], v ++ [y], by simp [hseen], hnx, fun z hz => ?_, ⟨by simp, by simp⟩, rfl, by omega⟩
            rcases List.mem_append.1 hz with hz | hz
            · exact hvb z hz
            · simp at hz; subst hz; omega
theorem o_join : O_join := k_join c_join
end Sim
