/- What functions of this seat compute, by values: contracts (lemmas of the statement's proof, under the conditions that each names). -/
import Derived.Test.YtmgklnbhbomlnaaQL
namespace Sim
open Go Go.Proofs
set_option maxRecDepth 10000
set_option maxHeartbeats 2000000
set_option linter.unusedVariables false
set_option linter.unusedSimpArgs false
attribute [local congr] opsIf_congr condC_congr guardC_congr grd_congr pick3_congr obind_congr omap_congr nilC_congr opsV_congr
def ofK (ps : List Pst) (i : Int) : Nat → List (Int × Int)
  | 0 => []
  | k + 1 => if (ps.getD k dP).1 = i then ofK ps i k ++ [((k : Int), (ps.getD k dP).2.2.1)] else if (ps.getD k dP).2.1 = i then ofK ps i k ++ [((k : Int), -(ps.getD k dP).2.2.1)] else ofK ps i k
abbrev ofF (n : Int) (ps : List Pst) (i t : Int) : PV := .func (.func 58) [] [.vptr [I n, psts ps] 0, .vptr [I t] 0, .vptr [I i] 0]
noncomputable def A_ofF : (Int) × (List Pst) × (Int) × (Int) → List PV := fun (n, ps, i, t) => [.agg [I n, psts ps], I i, I t]
noncomputable def R_ofF : (Int) × (List Pst) × (Int) × (Int) → PV := fun (n, ps, i, t) => ofF n ps i t
def H_ofF : (Int) × (List Pst) × (Int) × (Int) → Prop := fun (n, ps, i, t) => True
noncomputable def e_ofF : Nat × Ent := (46, .v (specOf A_ofF R_ofF H_ofF))
theorem j_ofF : ∀ i j, A_ofF i = A_ofF j → i = j := by
  rintro ⟨n₁, ps₁, i₁, t₁⟩ ⟨n₂, ps₂, i₂, t₂⟩ h
  simp only [A_ofF, List.cons.injEq, and_true, PV.lits.injEq, PV.int.injEq, PV.bool.injEq, PV.str.injEq, PV.agg.injEq, PV.func.injEq, Fn.func.injEq, PV.vptr.injEq, true_and, List.map_nil, inj_ints, inj_strs, inj_psts, inj_tars, inj_snds, inj_uses, inj_rsts, inj_lnks] at h
  simp [Prod.ext_iff, h] <;> omega
theorem s_ofF (n : Int) (ps : List Pst) (i : Int) (t : Int) : specOf A_ofF R_ofF H_ofF [.agg [I n, psts ps], I i, I t] = some (ofF n ps i t) := specOf_app j_ofF (i := (n, ps, i, t)) trivial
def C_ofF : Prop := ∀ (n : Int) (ps : List Pst) (i : Int) (t : Int) , VC Try.prog 46 [.agg [I n, psts ps], I i, I t] (ofF n ps i t)
def O_ofF : Prop := EntOK Try.prog e_ofF.1 e_ofF.2
theorem k_ofF (c : C_ofF) : O_ofF := specOf_ok fun ⟨n, ps, i, t⟩ h => c n ps i t
theorem c_ofF : C_ofF := by
  intro n ps i t
  refine vc_ofU mixed (l := []) (eok_nil) [] []  Try.func46 rfl (by decide +kernel) (N := 8) rfl (by simp) rfl (by kernel_rfl) fun hs => ?_
  simp only [smallL, PV.small, List.length_map, and_true, true_and] at hs
  simp +contextual (maxSteps := 4000000) only [↓ur_seq, ↓ur_ret, ↓ur_region, ↓cont_seq, ↓done_nil, ↓ops_consN, nY_assign, nY_box, nY_makeFunc, ↓ops_nil, opsIf_some, Option.map_some, Option.bind_some, Option.getD_some, Nat.reduceLT, Bool.false_eq_true, ↓upd_same, ↓upd_ne, Nat.reduceBEq, true_and, List.getD_cons_zero, List.getD_cons_succ, endQ, cfg_muts, List.contains_nil, Option.some.injEq, exists_eq_left', List.length_cons, List.length_nil, Nat.zero_add, Nat.reduceAdd, Nat.lt_succ_self, st0, cells_int, cells_agg, ↓ev_tmp, ↓ev_nilf, ↓iop_assign, ↓iop_box, ↓iop_makeFunc, env0_eq, ires_eq, iresL_1, iresAll_nil, iresAll_cons, iresOne_tmp, ↓reduceIte, boxP_eq, ↓evs_cons, ↓evs_nil, nth_psts, pur_psts, nth_tars, pur_tars, nth_snds, pur_snds, nth_uses, pur_uses, nth_rsts, pur_rsts, nth_lnks, pur_lnks, Try.f46]
  simp [DRx, ofF, pur_func, pursL_cons, pur_vptr, pur_lits, pur_psts, pursL_nil, pur_int]
theorem o_ofF : O_ofF := k_ofF c_ofF
theorem of_pre {ps : List Pst} {i : Int} {k : Nat} : ∀ m, ∃ l, ofK ps i (k + m) = ofK ps i k ++ l
  | 0 => ⟨[], by simp⟩
  | m + 1 => by
    obtain ⟨l, hl⟩ := of_pre (ps := ps) (i := i) (k := k) m
    show ∃ l, (if (ps.getD (k + m) dP).1 = i then ofK ps i (k + m) ++ [(((k + m : Nat) : Int), (ps.getD (k + m) dP).2.2.1)] else if (ps.getD (k + m) dP).2.1 = i then ofK ps i (k + m) ++ [(((k + m : Nat) : Int), -(ps.getD (k + m) dP).2.2.1)] else ofK ps i (k + m)) = _ ++ l
    rw [hl]
    split
    · exact ⟨l ++ [_], by rw [List.append_assoc]⟩
    · split
      · exact ⟨l ++ [_], by rw [List.append_assoc]⟩
      · exact ⟨l, rfl⟩
/-- All postings of a valid book before the tick. -/
def ofOK (n : Int) (ps : List Pst) (t : Int) : Prop := BookOK n ps ∧ ∀ p ∈ ps, p.2.2.2.1 < t
theorem y_of {n : Int} {ps : List Pst} {i t : Int} (hc : ofOK n ps t) : YieldsF Try.prog 0 58 [] [.vptr [I n, psts ps] 0, .vptr [I t] 0, .vptr [I i] 0] ((ofK ps i ps.length).map fun x => [I x.1, I x.2]) := by
  refine yields_ofF (l := []) eok_nil [] [] 0 Try.func58 rfl (by decide +kernel) rfl (N := 47) rfl (by simp) (fun y => by kernel_rfl) fun y H J E st0 hm h0 hstab hy => ?_
  obtain ⟨ok, hlt⟩ := hc
  obtain ⟨ob0, M0⟩ := st0
  simp +contextual (maxSteps := 4000000) only [↓ur_seq, ↓ur_block, ↓ur_region, ↓cont_seq, ↓ops_consN, nY_move, nY_load, nY_fieldAddr, nY_callb, ↓ops_nil, opsIf_some, Option.map_some, Option.bind_some, Option.getD_some, Nat.reduceLT, Bool.false_eq_true, ↓upd_same, true_and, List.getD_cons_zero, List.getD_cons_succ, List.getElem?_cons_zero, List.getElem?_cons_succ, cfg_P, cfg_frz, List.length_map, List.contains_nil, List.nil_append, Nat.zero_add, Nat.reduceAdd, Nat.lt_succ_self, ↓ev_tmp, ↓ev_int, ↓iop_move, ↓iop_load, ↓iop_fieldAddr, ↓iop_callb, bi_len, lenM_none, pickP_f, loadP_vptr, fieldP_vptr, lenP_lits, env0_eq, ↓reduceIte, ↓evs_cons, ↓evs_nil, see_eq, nth_psts, pur_psts, nth_tars, pur_tars, nth_snds, pur_snds, nth_uses, pur_uses, nth_rsts, pur_rsts, nth_lnks, pur_lnks, Try.f58, ty40, ty64]
  refine loop_cnt (hm := hm) [5, 6, 10, 11, 12, 13, 14, 15, 16, 17, 18, 19, 20, 21, 22, 23, 24, 25, 26, 27, 28, 29, 30, 31, 32, 33, 34, 35, 36, 37, 38, 39, 40, 41, 42, 43, 44, 45, 46] ps.length (fun k ρ st' => ρ 10 = I k ∧ J (ofK ps i k).length st' ∧ M0 ≤ st'.next) (.refl _) ?_ ?_
  · simp +contextual (maxSteps := 4000000) only [↓upd_same, true_and, and_true, List.length_nil, Nat.le_refl, Int.cast_ofNat_Int, nth_psts, pur_psts, nth_tars, pur_tars, nth_snds, pur_snds, nth_uses, pur_uses, nth_rsts, pur_rsts, nth_lnks, pur_lnks, Try.f58, ofK]
    exact h0
  rintro k ρ ⟨ob, M⟩ hk ⟨h10, hJ, hMM⟩
  dsimp only at hMM
  by_cases hltk : k < ps.length
  · have hwk := wrapN' (k := k) (by have := ok.len; omega)
    have h1 := ok.one k hltk
    have h2 := hlt (ps.getD k dP) (by rw [List.getD_eq_getElem?_getD, List.getElem?_eq_getElem hltk]; exact List.getElem_mem _)
    have hof : ofK ps i (k + 1) = if (ps.getD k dP).1 = i then ofK ps i k ++ [((k : Int), (ps.getD k dP).2.2.1)] else if (ps.getD k dP).2.1 = i then ofK ps i k ++ [((k : Int), -(ps.getD k dP).2.2.1)] else ofK ps i k := rfl
    have hpre := of_pre (ps := ps) (i := i) (k := k + 1) (ps.length - (k + 1))
    rw [show k + 1 + (ps.length - (k + 1)) = ps.length by omega] at hpre
    obtain ⟨rest, hrest⟩ := hpre
    generalize hx : ps.getD k dP = x at *
    have hz : ∀ z, ofK ps i (k + 1) = ofK ps i k ++ [z] → (List.map (fun x : Int × Int => [I x.1, I x.2]) (ofK ps i ps.length))[(ofK ps i k).length]? = some [I z.1, I z.2] ∧ (ofK ps i (k + 1)).length = (ofK ps i k).length + 1 := fun z hz => by
      refine ⟨?_, by rw [hz, List.length_append, List.length_singleton]⟩
      rw [List.getElem?_map, hrest, hz]; simp
    have hJ1 : ∀ o1 o2, J (ofK ps i k).length ⟨updO (updO ob M o1) M o2, M + 1⟩ := fun o1 o2 => hstab _ _ _ hJ (by simp) (fun x hx => (updO_ne (by simp; exact Nat.ne_of_lt hx)).trans (updO_ne (by simp; exact Nat.ne_of_lt hx)))
    have hge : ¬ t ≤ x.2.2.2.1 := by omega
    have hneg : IntKind.i64.wrap (0 - x.2.2.1) = - x.2.2.1 := by
      have := h1.2.1
      rw [wrap64 (by omega) (by omega)]; omega
    by_cases e1 : x.1 = i
    · have e2 : ¬ x.2.1 = i := fun e => h1.1.2.2 (by rw [e1, e])
      rw [if_pos e1] at hof
      obtain ⟨z1, z2⟩ := hz _ hof
      simp +contextual (maxSteps := 4000000) only [↓ur_skip, ↓ur_seq, ↓ur_block, ↓ur_ret, ↓ur_region, ↓ur_cond, ↓cont_seq, ↓cont_blk, ↓cont_lp, ↓done_nil, ↓done_seq, ↓done_blk, ↓done_lp, ↓ops_consN, ↓ops_guardN, ↓ops_guardVc, ↓opsV_yield, nY_move, nY_assign, nY_pick, nY_alloc, nY_load, nY_store, nY_binOp, nilO_tmp, nilO_int, nY_unOp, nY_fieldAddr, nY_indexAddr, ↓ops_nil, opsIf_some, opsIf_none, condC_true, condC_false, guardC_u, guardC_tt, Option.map_some, Option.bind_some, Option.getD_some, Nat.reduceLT, Bool.false_eq_true, ↓upd_same, ↓upd_ne, Nat.reduceBEq, true_and, and_true, List.getD_cons_zero, List.getD_cons_succ, List.getElem?_toArray, List.getElem?_cons_zero, List.getElem?_cons_succ, cfg_P, cfg_frz, cfg_num, numOf_eq, List.length_map, ↓havoc_in, ↓havoc_out, agree_upd, agree_havoc, List.contains_cons, List.contains_nil, Bool.or_false, Bool.or_true, Int.natCast_nonneg, Int.ofNat_lt, Int.toNat_natCast, decide_true, decide_false, List.nil_append, List.append_nil, updO_same, List.length_cons, List.length_nil, Nat.zero_add, Nat.add_zero, List.drop_zero, List.take_zero, Nat.reduceAdd, List.set_cons_zero, nth_zero, Nat.lt_succ_self, Bool.not_false, reduceCtorEq, or_true, Nat.le_refl, cells_agg, ↓ev_tmp, ↓ev_int, ↓ev_bool, ↓guardP_eq, grd_some, ↓iop_move, ↓iop_assign, ↓pick3_bool, ↓iop_pick, ↓iop_alloc, ↓iop_load, ↓iop_store, ↓iop_binOp, ↓iop_unOp, ↓iop_fieldAddr, ↓iop_indexAddr, idxA_int, pickP_f, pickP_t, loadP_vptr, loadP_ptr, setCells_agg, storeP_ptr, fieldP_ptr, indexP_lits, b_add, b_eql, b_lss, b_geq, u_not, splice_eq, env0_eq, Store.new, Store.set, ↓reduceIte, arr_eq, arrB_some, List.take_succ_cons, List.drop_succ_cons, List.drop_nil, List.take_nil, ↓evs_cons, ↓evs_nil, beq_self_eq_true, see_eq, nth_psts, pur_psts, nth_tars, pur_tars, nth_snds, pur_snds, nth_uses, pur_uses, nth_rsts, pur_rsts, nth_lnks, pur_lnks, Try.f58, ty3, ty40, ty54, h10, hltk, hx, hwk, hge, e1, e2]
      refine hy _ _ _ _ z1 (hJ1 _ _) (fun st2 h2 hk2 => ?_) (fun st2 h2 => ?_)
      · obtain ⟨ob2, M2⟩ := st2
        have hM := hk2.2 M hMM (by simp) (fun r => by simp [updO])
        have hM2 := hk2.1
        dsimp only at hM hM2
        rw [updO_same] at hM
        simp +contextual (maxSteps := 4000000) only [↓ur_skip, ↓ur_region, ↓ur_cond, ↓cont_seq, ↓cont_blk, ↓cont_lp, ↓ops_consN, ↓ops_guardN, ↓ops_guardVc, nY_move, nY_pick, nY_load, nY_binOp, nilO_tmp, nilO_int, nY_unOp, nY_fieldAddr, ↓ops_nil, opsIf_some, condC_false, guardC_ft, guardC_ff, Option.map_some, Option.bind_some, Option.getD_some, Nat.reduceLT, Bool.false_eq_true, ↓upd_same, ↓upd_ne, Nat.reduceBEq, true_and, List.getD_cons_zero, List.getD_cons_succ, List.getElem?_toArray, List.getElem?_cons_zero, List.getElem?_cons_succ, cfg_P, cfg_frz, ↓havoc_in, ↓havoc_out, agree_upd, agree_havoc, List.contains_cons, List.contains_nil, Bool.or_false, Bool.or_true, decide_false, Nat.reduceAdd, nth_zero, Nat.lt_succ_self, Bool.not_true, Bool.not_false, cells_agg, ↓ev_tmp, ↓ev_int, ↓ev_bool, ↓guardP_eq, grd_some, ↓iop_move, ↓pick3_bool, ↓iop_pick, ↓iop_load, ↓iop_binOp, pickP_f, loadP_vptr, loadP_ptr, b_add, b_eql, env0_eq, ↓reduceIte, arr_eq, arrB_some, beq_self_eq_true, see_eq, nth_psts, pur_psts, nth_tars, pur_tars, nth_snds, pur_snds, nth_uses, pur_uses, nth_rsts, pur_rsts, nth_lnks, pur_lnks, Try.f58, ty3, hM, h10, hltk, hx, hwk, hge, e1, e2]
        exact ⟨by rw [z2]; exact h2, by omega⟩
      · simp +contextual (maxSteps := 4000000) only [condC_true, guardC_tf, Bool.not_false, ↓reduceIte, nth_psts, pur_psts, nth_tars, pur_tars, nth_snds, pur_snds, nth_uses, pur_uses, nth_rsts, pur_rsts, nth_lnks, pur_lnks, Try.f58]
        exact .inr h2
    · by_cases e2 : x.2.1 = i
      · rw [if_neg e1, if_pos e2] at hof
        obtain ⟨z1, z2⟩ := hz _ hof
        simp +contextual (maxSteps := 4000000) only [↓ur_skip, ↓ur_seq, ↓ur_block, ↓ur_ret, ↓ur_region, ↓ur_cond, ↓cont_seq, ↓cont_blk, ↓cont_lp, ↓done_nil, ↓done_seq, ↓done_blk, ↓done_lp, ↓ops_consN, ↓ops_guardN, ↓ops_guardVc, ↓opsV_yield, nY_move, nY_assign, nY_pick, nY_alloc, nY_load, nY_store, nY_binOp, nilO_tmp, nilO_int, nY_unOp, nY_fieldAddr, nY_indexAddr, ↓ops_nil, opsIf_some, opsIf_none, condC_true, condC_false, guardC_tt, guardC_ft, guardC_ff, Option.map_some, Option.bind_some, Option.getD_some, Nat.reduceLT, Bool.false_eq_true, ↓upd_same, ↓upd_ne, Nat.reduceBEq, true_and, and_true, List.getD_cons_zero, List.getD_cons_succ, List.getElem?_toArray, List.getElem?_cons_zero, List.getElem?_cons_succ, cfg_P, cfg_frz, cfg_num, numOf_eq, List.length_map, ↓havoc_in, ↓havoc_out, agree_upd, agree_havoc, List.contains_cons, List.contains_nil, Bool.or_false, Bool.or_true, Int.natCast_nonneg, Int.ofNat_lt, Int.toNat_natCast, decide_true, decide_false, List.nil_append, List.append_nil, updO_same, List.length_cons, List.length_nil, Nat.zero_add, Nat.add_zero, List.drop_zero, List.take_zero, Nat.reduceAdd, List.set_cons_zero, nth_zero, Nat.lt_succ_self, Bool.not_false, reduceCtorEq, or_true, Nat.le_refl, cells_agg, ↓ev_tmp, ↓ev_int, ↓ev_bool, ↓guardP_eq, grd_some, ↓iop_move, ↓iop_assign, ↓pick3_bool, ↓iop_pick, ↓iop_alloc, ↓iop_load, ↓iop_store, ↓iop_binOp, ↓iop_unOp, ↓iop_fieldAddr, ↓iop_indexAddr, idxA_int, pickP_f, pickP_t, loadP_vptr, loadP_ptr, setCells_agg, storeP_ptr, fieldP_ptr, indexP_lits, b_add, b_eql, b_lss, b_geq, u_neg, u_not, splice_eq, env0_eq, Store.new, Store.set, ↓reduceIte, arr_eq, arrB_some, List.take_succ_cons, List.drop_succ_cons, List.drop_nil, List.take_nil, ↓evs_cons, ↓evs_nil, beq_self_eq_true, see_eq, nth_psts, pur_psts, nth_tars, pur_tars, nth_snds, pur_snds, nth_uses, pur_uses, nth_rsts, pur_rsts, nth_lnks, pur_lnks, Try.f58, ty3, ty40, ty54, h10, hltk, hx, hwk, hge, e1, e2, hneg]
        refine hy _ _ _ _ z1 (hJ1 _ _) (fun st2 h2 hk2 => ?_) (fun st2 h2 => ?_)
        · have hM2 := hk2.1
          dsimp only at hM2
          simp +contextual (maxSteps := 4000000) only [condC_false, Bool.not_true, nth_psts, pur_psts, nth_tars, pur_tars, nth_snds, pur_snds, nth_uses, pur_uses, nth_rsts, pur_rsts, nth_lnks, pur_lnks, Try.f58, h10, hwk]
          exact ⟨by rw [z2]; exact h2, by omega⟩
        · simp +contextual (maxSteps := 4000000) only [condC_true, Bool.not_false, nth_psts, pur_psts, nth_tars, pur_tars, nth_snds, pur_snds, nth_uses, pur_uses, nth_rsts, pur_rsts, nth_lnks, pur_lnks, Try.f58]
          exact .inr h2
      · rw [if_neg e1, if_neg e2] at hof
        simp +contextual (maxSteps := 4000000) only [↓ur_skip, ↓ur_seq, ↓ur_block, ↓ur_region, ↓ur_cond, ↓cont_seq, ↓cont_blk, ↓cont_lp, ↓ops_consN, ↓ops_guardN, ↓ops_guardVc, nY_move, nY_assign, nY_pick, nY_alloc, nY_load, nY_store, nY_binOp, nilO_tmp, nilO_int, nY_unOp, nY_fieldAddr, nY_indexAddr, ↓ops_nil, opsIf_some, opsIf_none, condC_true, condC_false, guardC_ft, guardC_ff, Option.map_some, Option.bind_some, Option.getD_some, Nat.reduceLT, Bool.false_eq_true, ↓upd_same, ↓upd_ne, Nat.reduceBEq, true_and, and_true, List.getD_cons_zero, List.getD_cons_succ, List.getElem?_toArray, List.getElem?_cons_zero, List.getElem?_cons_succ, cfg_P, cfg_frz, cfg_num, numOf_eq, List.length_map, ↓havoc_in, ↓havoc_out, agree_upd, agree_havoc, List.contains_cons, List.contains_nil, Bool.or_false, Bool.or_true, Int.natCast_nonneg, Int.ofNat_lt, Int.toNat_natCast, decide_true, decide_false, List.nil_append, List.append_nil, updO_same, List.length_cons, List.length_nil, Nat.zero_add, Nat.add_zero, List.drop_zero, List.take_zero, Nat.reduceAdd, List.set_cons_zero, nth_zero, Nat.lt_succ_self, Bool.not_false, Nat.le_refl, cells_agg, ↓ev_tmp, ↓ev_int, ↓ev_bool, ↓guardP_eq, grd_some, ↓iop_move, ↓iop_assign, ↓pick3_bool, ↓iop_pick, ↓iop_alloc, ↓iop_load, ↓iop_store, ↓iop_binOp, ↓iop_fieldAddr, ↓iop_indexAddr, idxA_int, pickP_f, pickP_t, loadP_vptr, loadP_ptr, setCells_agg, storeP_ptr, fieldP_ptr, indexP_lits, b_add, b_eql, b_lss, b_geq, splice_eq, env0_eq, Store.new, Store.set, ↓reduceIte, arr_eq, arrB_some, List.take_succ_cons, List.drop_succ_cons, List.drop_nil, List.take_nil, beq_self_eq_true, see_eq, nth_psts, pur_psts, nth_tars, pur_tars, nth_snds, pur_snds, nth_uses, pur_uses, nth_rsts, pur_rsts, nth_lnks, pur_lnks, Try.f58, ty3, ty40, ty54, h10, hltk, hx, hwk, hge, e1, e2]
        exact ⟨by rw [hof]; exact hJ1 _ _, by omega⟩
  · have e : k = ps.length := by omega
    subst e
    simp +contextual (maxSteps := 4000000) only [↓ur_seq, ↓ur_exit, ↓ur_region, ↓ur_cond, ↓cont_nil, ↓cont_seq, ↓leave_seq, ↓leave_blk, ↓leave_lp, ↓ops_consN, nY_binOp, nilO_tmp, ↓ops_nil, opsIf_some, condC_false, Option.map_some, Nat.reduceLT, ↓upd_same, ↓upd_ne, Nat.reduceBEq, true_and, cfg_P, ↓havoc_in, ↓havoc_out, List.contains_cons, List.contains_nil, Bool.or_false, Bool.or_true, Int.ofNat_lt, decide_false, Nat.lt_irrefl, Bool.not_false, reduceCtorEq, or_false, ↓ev_tmp, ↓iop_binOp, b_lss, ↓reduceIte, beq_self_eq_true, nth_psts, pur_psts, nth_tars, pur_tars, nth_snds, pur_snds, nth_uses, pur_uses, nth_rsts, pur_rsts, nth_lnks, pur_lnks, Try.f58, h10]
    exact .inl hJ
def ofS (l : List (Int × Int)) : Int := (l.map fun x => x.2).sum
theorem of_mem {n : Int} {ps : List Pst} {i : Int} (ok : BookOK n ps) : ∀ k, k ≤ ps.length → ∀ x ∈ ofK ps i k, ∃ j : Nat, j < k ∧ x.1 = (j : Int) ∧ -1099511627776 ≤ x.2 ∧ x.2 ≤ 1099511627776
  | 0, _, x, h => by simp [ofK] at h
  | k + 1, hk, x, h => by
    have ih := of_mem (i := i) ok k (by omega)
    have h1 := ok.one k (by omega)
    have hr := h1.2.1
    simp only [ofK] at h
    split at h
    · rcases List.mem_append.1 h with h | h
      · obtain ⟨j, hj, g⟩ := ih x h; exact ⟨j, by omega, g⟩
      · simp only [List.mem_singleton] at h; subst h; exact ⟨k, by omega, rfl, by dsimp only; omega, by dsimp only; omega⟩
    · split at h
      · rcases List.mem_append.1 h with h | h
        · obtain ⟨j, hj, g⟩ := ih x h; exact ⟨j, by omega, g⟩
        · simp only [List.mem_singleton] at h; subst h; exact ⟨k, by omega, rfl, by dsimp only; omega, by dsimp only; omega⟩
      · obtain ⟨j, hj, g⟩ := ih x h; exact ⟨j, by omega, g⟩
theorem of_len {ps : List Pst} {i : Int} : ∀ k, (ofK ps i k).length ≤ k
  | 0 => by simp [ofK]
  | k + 1 => by
    have ih := of_len (ps := ps) (i := i) k
    simp only [ofK]
    split
    · rw [List.length_append]; simp; omega
    · split
      · rw [List.length_append]; simp; omega
      · omega
theorem ofS_le : ∀ {l : List (Int × Int)}, (∀ x ∈ l, -1099511627776 ≤ x.2 ∧ x.2 ≤ 1099511627776) → -(1099511627776 * (l.length : Int)) ≤ ofS l ∧ ofS l ≤ 1099511627776 * (l.length : Int)
  | [], _ => by simp [ofS]
  | x :: l, h => by
    have ih := ofS_le (l := l) fun y hy => h y (by simp [hy])
    have := h x (by simp)
    simp only [ofS, List.map_cons, List.sum_cons, List.length_cons] at ih ⊢
    omega
theorem of_idx {l : List (Int × Int)} {i : Nat} {y : List PV} (h : (l.map fun x => [I x.1, I x.2])[i]? = some y) : ∃ z, i < l.length ∧ y = [I z.1, I z.2] ∧ z ∈ l ∧ l.take (i + 1) = l.take i ++ [z] := by
  rw [List.getElem?_map, Option.map_eq_some_iff] at h
  obtain ⟨x, hx, rfl⟩ := h
  obtain ⟨hi, rfl⟩ := List.getElem?_eq_some_iff.1 hx
  exact ⟨l[i], hi, rfl, List.getElem_mem _, List.take_succ_eq_append_getElem hi⟩
theorem ofS_app {l : List (Int × Int)} {z : Int × Int} : ofS (l ++ [z]) = ofS l + z.2 := by
  unfold ofS; rw [List.map_append, List.sum_append]; simp
noncomputable def A_balance : (Int) × (List Pst) × (Int) × (Int) → List PV := fun (n, ps, i, t) => [.agg [I n, psts ps], I i, I t]
noncomputable def R_balance : (Int) × (List Pst) × (Int) × (Int) → PV := fun (n, ps, i, t) => I (ofS (ofK ps i ps.length))
def H_balance : (Int) × (List Pst) × (Int) × (Int) → Prop := fun (n, ps, i, t) => ofOK n ps t
noncomputable def e_balance : Nat × Ent := (44, .v (specOf A_balance R_balance H_balance))
theorem j_balance : ∀ i j, A_balance i = A_balance j → i = j := by
  rintro ⟨n₁, ps₁, i₁, t₁⟩ ⟨n₂, ps₂, i₂, t₂⟩ h
  simp only [A_balance, List.cons.injEq, and_true, PV.lits.injEq, PV.int.injEq, PV.bool.injEq, PV.str.injEq, PV.agg.injEq, PV.func.injEq, Fn.func.injEq, PV.vptr.injEq, true_and, List.map_nil, inj_ints, inj_strs, inj_psts, inj_tars, inj_snds, inj_uses, inj_rsts, inj_lnks] at h
  simp [Prod.ext_iff, h] <;> omega
theorem s_balance (n : Int) (ps : List Pst) (i : Int) (t : Int) : specOf A_balance R_balance H_balance [.agg [I n, psts ps], I i, I t] = @ite (Option (PV)) (ofOK n ps t) (Classical.propDecidable _) (some (I (ofS (ofK ps i ps.length)))) none := specOf_if j_balance (n, ps, i, t)
def C_balance : Prop := ∀ (n : Int) (ps : List Pst) (i : Int) (t : Int) (h : ofOK n ps t) , VC Try.prog 44 [.agg [I n, psts ps], I i, I t] (I (ofS (ofK ps i ps.length)))
def O_balance : Prop := EntOK Try.prog e_balance.1 e_balance.2
theorem k_balance (c : C_balance) : O_balance := specOf_ok fun ⟨n, ps, i, t⟩ h => c n ps i t h
theorem c_balance : C_balance := by
  rintro n ps i t hc
  refine vc_ofD mixed (l := [e_ofF]) ((eok_cons o_ofF eok_nil)) [] [] 0 1 Try.func44 rfl (by decide +kernel) (N := 20) rfl (by simp) rfl (by kernel_rfl) fun hs => ?_
  simp only [smallL, PV.small, List.length_map, and_true, true_and] at hs
  have ok := hc.1
  have hmem := of_mem (i := i) ok ps.length (Nat.le_refl _)
  have hlen := Nat.le_trans (of_len (ps := ps) (i := i) ps.length) ok.len
  have hy := y_of (i := i) hc
  generalize ofK ps i ps.length = L at *
  simp +contextual (maxSteps := 4000000) only [↓ur_seq, ↓ur_block, ↓ur_region, ur_range, ↓cont_seq, ↓ops_consN, nY_move, nY_assign, nY_alloc, nY_box, nY_load, nY_store, nY_callf, ↓ops_nil, opsIf_some, opsIf_none, Option.map_some, Option.bind_some, Option.getD_some, Nat.reduceLT, Bool.false_eq_true, ↓upd_same, ↓upd_ne, Nat.reduceBEq, true_and, and_true, List.getD_cons_zero, List.getD_cons_succ, cfg_P, cfg_tab, cfg_muts, cfg_frz, cfg_num, numOf_eq, List.contains_nil, List.lookup_cons, List.lookup_nil, tabOf_cons, tab_v, Bool.and_self, List.nil_append, List.append_nil, updO_same, List.length_cons, List.length_nil, Nat.zero_add, List.drop_zero, Nat.reduceAdd, List.set_cons_zero, nth_zero, Nat.lt_succ_self, Nat.le_refl, cells_int, pur_int, pur_lits, cells_agg, pur_agg, ↓ev_tmp, ↓ev_int, ↓ev_func, ↓iop_move, ↓iop_assign, ↓iop_alloc, ↓iop_box, ↓iop_load, ↓iop_store, ↓iop_callv, nrmAll_cons, nrmAll_nil, nrm_agg, nrmL_cons, nrmL_nil, nrm_int, nrm1_int, nrm1_lits, pickP_t, loadP_vptr, setCells_int, storeP_ptr, env0_eq, valT_eq, pursL_cons, pursL_nil, Store.new, Store.set, ↓reduceIte, arr_eq, arrB_some, callP_eq, tsOf_eq, boxP_eq, List.take_succ_cons, List.take_nil, ↓evs_cons, ↓evs_nil, beq_self_eq_true, see_eq, and_false, Bool.true_eq_false, e_ofF, s_ofF, nth_psts, pur_psts, nth_tars, pur_tars, nth_snds, pur_snds, nth_uses, pur_uses, nth_rsts, pur_rsts, nth_lnks, pur_lnks, Try.f44, ty3, ty64]
  refine run_rangeF (ys := L.map fun x : Int × Int => [I x.1, I x.2]) (f := 58) (first := []) (captured := [.vptr [I n, psts ps] 0, .vptr [I t] 0, .vptr [I i] 0]) rfl rfl (hookMono_none rfl) ?_ hy rfl ?_ (by kernel_rfl) (by kernel_rfl)
    (fun j st' => st'.obj 0 = some (.arr 0 1 [I (ofS (L.take j))]) ∧ 0 < st'.next) (fun e st' => False) ?_ ?_ ?_ ?_ ?_ ?_ ?_
  · simp +contextual (maxSteps := 4000000) only [↓upd_same, ↓ev_tmp, nth_psts, pur_psts, nth_tars, pur_tars, nth_snds, pur_snds, nth_uses, pur_uses, nth_rsts, pur_rsts, nth_lnks, pur_lnks, Try.f44]
  · intro y hy
    obtain ⟨x, _, rfl⟩ := List.mem_map.1 hy
    rfl
  · intro j
    exact Stays.obj (fun _ => by simp)
  · intro e
    exact Stays.const
  · exact ⟨by simp [ofS, updO], by simp⟩
  · rintro j y ⟨ob2, M2⟩ id lr hy hid hlp hbase ⟨a0, a1⟩
    obtain ⟨z, hj, rfl, hz, htk⟩ := of_idx hy
    dsimp only at hid hlp hbase a0 a1
    have hb := ofS_le (l := L.take j) fun x hx => by
      obtain ⟨_, _, _, h⟩ := hmem x (List.mem_of_mem_take hx); exact h
    rw [List.length_take, Nat.min_eq_left (by omega)] at hb
    obtain ⟨jj, _, _, hzb⟩ := hmem z hz
    rw [htk, ofS_app]
    have hw : IntKind.i64.wrap (ofS (L.take j) + z.2) = ofS (L.take j) + z.2 := wrap64 (by omega) (by omega)
    have d0 : ¬ id = 0 := by omega
    have f0 : ¬ 0 = id := by omega
    simp +contextual (maxSteps := 4000000) only [↓ur_block, ↓ur_region, ↓cont_nil, ↓cont_blk, ↓ops_consN, ↓setps_cons, ↓setps_nil, rndX_cfg, nY_move, nY_assign, nY_load, nY_store, nY_binOp, nilO_tmp, ↓ops_nil, opsIf_some, opsIf_none, Option.map_some, Option.bind_some, Option.getD_some, Nat.reduceLT, Bool.false_eq_true, ↓upd_same, ↓upd_ne, Nat.reduceBEq, true_and, and_true, List.getElem?_cons_zero, cfg_P, cfg_frz, List.contains_nil, updO_same, updO_ne, List.length_cons, List.length_nil, Nat.zero_add, Nat.reduceAdd, List.set_cons_zero, nth_zero, Nat.lt_succ_self, Bool.not_false, not_false_eq_true, Nat.le_refl, cells_int, ↓ev_tmp, ↓iop_move, ↓iop_assign, ↓iop_load, ↓iop_store, ↓iop_binOp, pickP_f, loadP_ptr, setCells_int, storeP_ptr, b_add, Store.set, ↓reduceIte, arr_eq, arrB_some, beq_eq_false_iff_ne, ne_eq, see_eq, nth_psts, pur_psts, nth_tars, pur_tars, nth_snds, pur_snds, nth_uses, pur_uses, nth_rsts, pur_rsts, nth_lnks, pur_lnks, Try.f44, ty3, hlp, a0, d0, f0, roundA, roundB, hw]
    exact fun rb => ⟨by omega, by omega, by simp, fun x h1 h2 h3 => by
      dsimp only at h2 h3 ⊢
      have n2 : x ≠ id := fun e => h3 lr (by rw [e]; exact hlp)
      have n3 : x ≠ 0 := by omega
      simp [updO, n2, n3]⟩
  · rintro ⟨ob2, M2⟩ ⟨a0, a1⟩
    dsimp only at a0 a1
    rw [List.length_map, List.take_of_length_le (Nat.le_refl _)] at a0
    simp +contextual (maxSteps := 4000000) only [↓ur_seq, ↓ur_ret, ↓ur_region, ↓cont_seq, ↓cont_blk, ↓done_nil, ↓ops_consN, nY_assign, nY_load, ↓ops_nil, opsIf_some, Option.map_some, Option.bind_some, Option.getD_some, Nat.reduceLT, Bool.false_eq_true, ↓upd_same, ↓upd_ne, Nat.reduceBEq, and_true, List.getElem?_cons_zero, endQ, cfg_P, cfg_frz, List.contains_nil, Option.some.injEq, exists_eq_left', Nat.reduceAdd, nth_zero, Nat.lt_succ_self, cells_int, DRx_int, ↓ev_tmp, ↓iop_assign, ↓iop_load, pickP_f, loadP_ptr, ires_eq, iresL_1, iresAll_nil, iresAll_cons, iresOne_tmp, ↓reduceIte, arr_eq, arrB_some, see_eq, nth_psts, pur_psts, nth_tars, pur_tars, nth_snds, pur_snds, nth_uses, pur_uses, nth_rsts, pur_rsts, nth_lnks, pur_lnks, Try.f44, ty3, a0]
  · rintro j ⟨ob2, M2⟩ h
    exact h.elim
  · rintro ⟨ob2, M2⟩ h
    exact h.elim
theorem o_balance : O_balance := k_balance c_balance
def befOK (n : Int) (ps : List Pst) (t : Int) : Prop := BookOK n ps ∧ (0 ≤ t ∧ t ≤ 1000000) ∧ ∀ p ∈ ps, p.2.2.2.1 ≤ t
theorem bef_of {n : Int} {ps : List Pst} {t : Int} (h : befOK n ps t) : ofOK n ps (t + 1) := ⟨h.1, fun p hp => by have := h.2.2 p hp; omega⟩
noncomputable def A_Balance : (Int) × (List Pst) × (Int) × (Int) → List PV := fun (n, ps, i, t) => [.agg [I n, psts ps], I i, I t]
noncomputable def R_Balance : (Int) × (List Pst) × (Int) × (Int) → PV := fun (n, ps, i, t) => .tuple [I (ofS (ofK ps i ps.length)), I 0]
def H_Balance : (Int) × (List Pst) × (Int) × (Int) → Prop := fun (n, ps, i, t) => befOK n ps t ∧ accO n i
noncomputable def e_Balance : Nat × Ent := (23, .v (specOf A_Balance R_Balance H_Balance))
theorem j_Balance : ∀ i j, A_Balance i = A_Balance j → i = j := by
  rintro ⟨n₁, ps₁, i₁, t₁⟩ ⟨n₂, ps₂, i₂, t₂⟩ h
  simp only [A_Balance, List.cons.injEq, and_true, PV.lits.injEq, PV.int.injEq, PV.bool.injEq, PV.str.injEq, PV.agg.injEq, PV.func.injEq, Fn.func.injEq, PV.vptr.injEq, true_and, List.map_nil, inj_ints, inj_strs, inj_psts, inj_tars, inj_snds, inj_uses, inj_rsts, inj_lnks] at h
  simp [Prod.ext_iff, h] <;> omega
theorem s_Balance (n : Int) (ps : List Pst) (i : Int) (t : Int) : specOf A_Balance R_Balance H_Balance [.agg [I n, psts ps], I i, I t] = @ite (Option (PV)) (befOK n ps t ∧ accO n i) (Classical.propDecidable _) (some (.tuple [I (ofS (ofK ps i ps.length)), I 0])) none := specOf_if j_Balance (n, ps, i, t)
def C_Balance : Prop := ∀ (n : Int) (ps : List Pst) (i : Int) (t : Int) (h : befOK n ps t ∧ accO n i) , VC Try.prog 23 [.agg [I n, psts ps], I i, I t] (.tuple [I (ofS (ofK ps i ps.length)), I 0])
def O_Balance : Prop := EntOK Try.prog e_Balance.1 e_Balance.2
theorem k_Balance (c : C_Balance) : O_Balance := specOf_ok fun ⟨n, ps, i, t⟩ h => c n ps i t h
theorem c_Balance : C_Balance := by
  rintro n ps i t ⟨hc, hi⟩
  refine vc_ofU mixed (l := [e_book, e_acc, e_balance]) ((eok_cons o_book (eok_cons o_acc (eok_cons o_balance eok_nil)))) [] []  Try.func23 rfl (by decide +kernel) (N := 24) rfl (by simp) rfl (by kernel_rfl) fun hs => ?_
  simp only [smallL, PV.small, List.length_map, and_true, true_and] at hs
  have hb := book_zero.2 hc.1
  have ho := bef_of hc
  have hm : (if 1000000 < t then 1000000 else t) = t := by rw [if_neg (by have := hc.2.1; omega)]
  have hw : IntKind.i64.wrap (t + 1) = t + 1 := by have := hc.2.1; exact wrap64 (by omega) (by omega)
  simp +contextual (maxSteps := 4000000) only [↓ur_skip, ↓ur_seq, ↓ur_ret, ↓ur_region, ↓ur_cond, ↓cont_seq, ↓done_nil, ↓ops_consN, nY_move, nY_assign, nY_box, nY_load, nY_binOp, nilO_int, nY_unOp, nY_callf, nY_callb, ↓ops_nil, opsIf_some, condC_false, Option.map_some, Option.bind_some, Option.getD_some, Nat.reduceLT, Bool.false_eq_true, ↓upd_same, ↓upd_ne, Nat.reduceBEq, and_true, List.getD_cons_zero, List.getD_cons_succ, endQ, cfg_P, cfg_tab, cfg_muts, cfg_frz, List.contains_nil, decide_true, decide_false, Option.some.injEq, exists_eq_left', List.lookup_cons, List.lookup_nil, tabOf_cons, tab_v, Bool.and_self, Nat.reduceEqDiff, List.nil_append, List.append_nil, List.length_cons, List.length_nil, Nat.zero_add, List.drop_zero, Nat.reduceAdd, Nat.lt_succ_self, Bool.not_true, Bool.not_false, not_true_eq_false, st0, Nat.le_refl, pur_int, pur_lits, cells_agg, pur_agg, DRx_int, DRx_tuple, DRxL_cons, DRxL_nil, ↓ev_tmp, ↓ev_int, ↓ev_func, ↓iop_move, ↓iop_assign, ↓iop_box, ↓iop_load, ↓iop_binOp, ↓iop_unOp, ↓iop_callv, ↓iop_callb, nrmAll_cons, nrmAll_nil, bi_min, nrm_agg, nrmL_cons, nrmL_nil, nrm_int, nrm1_int, nrm1_lits, pickP_t, loadP_vptr, b_add, b_neq, u_not, env0_eq, ires_eq, iresL_2, iresAll_nil, iresAll_cons, iresOne_tmp, valT_eq, pursL_cons, pursL_nil, ↓reduceIte, callP_eq, tsOf_eq, boxP_eq, List.take_succ_cons, List.take_nil, ↓evs_cons, ↓evs_nil, beq_self_eq_true, see_eq, and_false, Bool.true_eq_false, e_book, s_book, e_acc, s_acc, e_balance, s_balance, nth_psts, pur_psts, nth_tars, pur_tars, nth_snds, pur_snds, nth_uses, pur_uses, nth_rsts, pur_rsts, nth_lnks, pur_lnks, Try.f23, ty3, ty64, hb, hi, ho, hm, hw]
theorem o_Balance : O_Balance := k_Balance c_Balance
noncomputable def A_span : (Int) × (List Pst) × (Int) × (Int) × (Int) → List PV := fun (n, ps, i, t, u) => [.agg [I n, psts ps], I i, I t, I u]
noncomputable def R_span : (Int) × (List Pst) × (Int) × (Int) × (Int) → PV := fun (n, ps, i, t, u) => I 0
def H_span : (Int) × (List Pst) × (Int) × (Int) × (Int) → Prop := fun (n, ps, i, t, u) => BookOK n ps ∧ accO n i ∧ 0 ≤ t ∧ t ≤ u ∧ u ≤ 1000001
noncomputable def e_span : Nat × Ent := (45, .v (specOf A_span R_span H_span))
theorem j_span : ∀ i j, A_span i = A_span j → i = j := by
  rintro ⟨n₁, ps₁, i₁, t₁, u₁⟩ ⟨n₂, ps₂, i₂, t₂, u₂⟩ h
  simp only [A_span, List.cons.injEq, and_true, PV.lits.injEq, PV.int.injEq, PV.bool.injEq, PV.str.injEq, PV.agg.injEq, PV.func.injEq, Fn.func.injEq, PV.vptr.injEq, true_and, List.map_nil, inj_ints, inj_strs, inj_psts, inj_tars, inj_snds, inj_uses, inj_rsts, inj_lnks] at h
  simp [Prod.ext_iff, h] <;> omega
theorem s_span (n : Int) (ps : List Pst) (i : Int) (t : Int) (u : Int) : specOf A_span R_span H_span [.agg [I n, psts ps], I i, I t, I u] = @ite (Option (PV)) (BookOK n ps ∧ accO n i ∧ 0 ≤ t ∧ t ≤ u ∧ u ≤ 1000001) (Classical.propDecidable _) (some (I 0)) none := specOf_if j_span (n, ps, i, t, u)
def C_span : Prop := ∀ (n : Int) (ps : List Pst) (i : Int) (t : Int) (u : Int) (h : BookOK n ps ∧ accO n i ∧ 0 ≤ t ∧ t ≤ u ∧ u ≤ 1000001) , VC Try.prog 45 [.agg [I n, psts ps], I i, I t, I u] (I 0)
def O_span : Prop := EntOK Try.prog e_span.1 e_span.2
theorem k_span (c : C_span) : O_span := specOf_ok fun ⟨n, ps, i, t, u⟩ h => c n ps i t u h
theorem c_span : C_span := by
  rintro n ps i t u ⟨hc, hi, h0, h1, h2⟩
  refine vc_ofU mixed (l := [e_book, e_acc]) ((eok_cons o_book (eok_cons o_acc eok_nil))) [] []  Try.func45 rfl (by decide +kernel) (N := 29) rfl (by simp) rfl (by kernel_rfl) fun hs => ?_
  simp only [smallL, PV.small, List.length_map, and_true, true_and] at hs
  have hb := book_zero.2 hc
  have g0 : ¬ t < 0 := by omega
  have g1 : ¬ u < t := by omega
  have g2 : ¬ 1000001 < u := by omega
  simp +contextual (maxSteps := 4000000) only [↓ur_skip, ↓ur_seq, ↓ur_block, ↓ur_ret, ↓ur_region, ↓ur_cond, ↓cont_seq, ↓cont_blk, ↓done_nil, ↓ops_consN, nY_move, nY_assign, nY_box, nY_load, nY_binOp, nilO_tmp, nilO_int, nY_unOp, nY_callf, ↓ops_nil, opsIf_some, condC_false, Option.map_some, Option.bind_some, Option.getD_some, Nat.reduceLT, Bool.false_eq_true, ↓upd_same, ↓upd_ne, Nat.reduceBEq, and_true, List.getD_cons_zero, List.getD_cons_succ, endQ, cfg_P, cfg_tab, cfg_muts, cfg_frz, List.contains_nil, decide_true, decide_false, Option.some.injEq, exists_eq_left', List.lookup_cons, List.lookup_nil, tabOf_cons, tab_v, Bool.and_self, Nat.reduceEqDiff, List.nil_append, List.append_nil, List.length_cons, List.length_nil, Nat.zero_add, List.drop_zero, Nat.reduceAdd, Nat.lt_succ_self, Bool.not_true, Bool.not_false, not_true_eq_false, st0, Nat.le_refl, pur_int, pur_lits, cells_agg, pur_agg, DRx_int, ↓ev_tmp, ↓ev_int, ↓ev_func, ↓iop_move, ↓iop_assign, ↓iop_box, ↓iop_load, ↓iop_binOp, ↓iop_unOp, ↓iop_callv, nrmAll_cons, nrmAll_nil, nrm_agg, nrmL_cons, nrmL_nil, nrm_int, nrm1_int, nrm1_lits, pickP_t, loadP_vptr, b_neq, b_lss, b_gtr, u_not, env0_eq, ires_eq, iresL_1, iresAll_nil, iresAll_cons, iresOne_tmp, valT_eq, pursL_cons, pursL_nil, ↓reduceIte, callP_eq, tsOf_eq, boxP_eq, List.take_succ_cons, List.take_nil, ↓evs_cons, ↓evs_nil, beq_self_eq_true, see_eq, and_false, Bool.true_eq_false, e_book, s_book, e_acc, s_acc, nth_psts, pur_psts, nth_tars, pur_tars, nth_snds, pur_snds, nth_uses, pur_uses, nth_rsts, pur_rsts, nth_lnks, pur_lnks, Try.f45, ty3, ty64, hb, hi, g0, g1, g2]
theorem o_span : O_span := k_span c_span
def totA (ps : List Pst) (fr : Int) (l : List (Int × Int)) (w : Nat) : Int := (l.map fun x => if fr ≤ (ps.getD x.1.toNat dP).2.2.2.1 ∧ (ps.getD x.1.toNat dP).2.2.2.2.1 = (w : Int) then x.2 else 0).sum
def totL (ps : List Pst) (i fr : Int) : List Int := tbl 8 (totA ps fr (ofK ps i ps.length))
theorem totA_app {ps : List Pst} {fr : Int} {l : List (Int × Int)} {z : Int × Int} {w : Nat} : totA ps fr (l ++ [z]) w = totA ps fr l w + if fr ≤ (ps.getD z.1.toNat dP).2.2.2.1 ∧ (ps.getD z.1.toNat dP).2.2.2.2.1 = (w : Int) then z.2 else 0 := by
  unfold totA; rw [List.map_append, List.sum_append]; simp
theorem totA_le {ps : List Pst} {fr : Int} {w : Nat} : ∀ {l : List (Int × Int)}, (∀ x ∈ l, -1099511627776 ≤ x.2 ∧ x.2 ≤ 1099511627776) → -(1099511627776 * (l.length : Int)) ≤ totA ps fr l w ∧ totA ps fr l w ≤ 1099511627776 * (l.length : Int)
  | [], _ => by simp [totA]
  | x :: l, h => by
    have ih := totA_le (ps := ps) (fr := fr) (w := w) (l := l) fun y hy => h y (by simp [hy])
    have := h x (by simp)
    simp only [totA, List.map_cons, List.sum_cons, List.length_cons] at ih ⊢
    split <;> omega
theorem tot_step {ps : List Pst} {fr : Int} {l : List (Int × Int)} {z : Int × Int} {u : Nat} {p : Pst} (hp : ps.getD z.1.toNat dP = p) (hf : fr ≤ p.2.2.2.1) (hu : (u : Int) = p.2.2.2.2.1) (h8 : u < 8) :
    (tbl 8 (totA ps fr l)).set u ((tbl 8 (totA ps fr l)).getD u 0 + z.2) = tbl 8 (totA ps fr (l ++ [z])) := by
  rw [tbl_at h8, tbl_set]
  refine tbl_ext fun i hi => ?_
  rw [totA_app, hp, ← hu]
  by_cases c : i = u
  · subst c; rw [if_pos rfl, if_pos ⟨hf, rfl⟩]
  · rw [if_neg c, if_neg (fun h => c (by have := h.2; omega))]; omega
theorem tot_skip {ps : List Pst} {fr : Int} {l : List (Int × Int)} {z : Int × Int} {p : Pst} (hp : ps.getD z.1.toNat dP = p) (hf : ¬ fr ≤ p.2.2.2.1) : tbl 8 (totA ps fr (l ++ [z])) = tbl 8 (totA ps fr l) := by
  refine tbl_ext fun i hi => ?_
  rw [totA_app, hp, if_neg (fun h => hf h.1)]; omega
theorem get_int8 {l : List Int} {k : Nat} (h : k < l.length) : (l.map (PV.int .i64))[k]? = some (I (l.getD k 0)) := by
  rw [List.getElem?_map, List.getElem?_eq_getElem h]; simp [h]
theorem spl_int8 {l : List Int} {o : Nat} {v : Int} (h : o < l.length) : (l.map (PV.int .i64)).take o ++ [I v] ++ (l.map (PV.int .i64)).drop (o + 1) = (l.set o v).map (PV.int .i64) := by
  rw [List.map_set, List.set_eq_take_append_cons_drop, if_pos (by rw [List.length_map]; exact h)]; simp
noncomputable def A_Totals : (Int) × (List Pst) × (Int) × (Int) × (Int) → List PV := fun (n, ps, i, fr, t) => [.agg [I n, psts ps], I i, I fr, I t]
noncomputable def R_Totals : (Int) × (List Pst) × (Int) × (Int) × (Int) → PV := fun (n, ps, i, fr, t) => .tuple [ints (totL ps i fr), I 0]
def H_Totals : (Int) × (List Pst) × (Int) × (Int) × (Int) → Prop := fun (n, ps, i, fr, t) => ofOK n ps t ∧ accO n i ∧ 0 ≤ fr ∧ fr ≤ t ∧ t ≤ 1000001
noncomputable def e_Totals : Nat × Ent := (24, .v (specOf A_Totals R_Totals H_Totals))
theorem j_Totals : ∀ i j, A_Totals i = A_Totals j → i = j := by
  rintro ⟨n₁, ps₁, i₁, fr₁, t₁⟩ ⟨n₂, ps₂, i₂, fr₂, t₂⟩ h
  simp only [A_Totals, List.cons.injEq, and_true, PV.lits.injEq, PV.int.injEq, PV.bool.injEq, PV.str.injEq, PV.agg.injEq, PV.func.injEq, Fn.func.injEq, PV.vptr.injEq, true_and, List.map_nil, inj_ints, inj_strs, inj_psts, inj_tars, inj_snds, inj_uses, inj_rsts, inj_lnks] at h
  simp [Prod.ext_iff, h] <;> omega
theorem s_Totals (n : Int) (ps : List Pst) (i : Int) (fr : Int) (t : Int) : specOf A_Totals R_Totals H_Totals [.agg [I n, psts ps], I i, I fr, I t] = @ite (Option (PV)) (ofOK n ps t ∧ accO n i ∧ 0 ≤ fr ∧ fr ≤ t ∧ t ≤ 1000001) (Classical.propDecidable _) (some (.tuple [ints (totL ps i fr), I 0])) none := specOf_if j_Totals (n, ps, i, fr, t)
def C_Totals : Prop := ∀ (n : Int) (ps : List Pst) (i : Int) (fr : Int) (t : Int) (h : ofOK n ps t ∧ accO n i ∧ 0 ≤ fr ∧ fr ≤ t ∧ t ≤ 1000001) , VC Try.prog 24 [.agg [I n, psts ps], I i, I fr, I t] (.tuple [ints (totL ps i fr), I 0])
def O_Totals : Prop := EntOK Try.prog e_Totals.1 e_Totals.2
theorem k_Totals (c : C_Totals) : O_Totals := specOf_ok fun ⟨n, ps, i, fr, t⟩ h => c n ps i fr t h
theorem c_Totals : C_Totals := by
  rintro n ps i fr t ⟨hc, hi, h0, h1, h2⟩
  refine vc_ofD mixed (l := [e_span, e_ofF]) ((eok_cons o_span (eok_cons o_ofF eok_nil))) [45] [] 0 1 Try.func24 rfl (by decide +kernel) (N := 46) rfl (by simp) rfl (by kernel_rfl) fun hs => ?_
  simp only [smallL, PV.small, List.length_map, and_true, true_and] at hs
  have ok := hc.1
  have hmem := of_mem (i := i) ok ps.length (Nat.le_refl _)
  have hlen := Nat.le_trans (of_len (ps := ps) (i := i) ps.length) ok.len
  have hy := y_of (i := i) hc
  unfold totL
  generalize ofK ps i ps.length = L at *
  have hzl : PV.agg [I 0, I 0, I 0, I 0, I 0, I 0, I 0, I 0] = PV.agg ((tbl 8 (totA ps fr [])).map (PV.int .i64)) := rfl
  simp +contextual (maxSteps := 4000000) only [↓ur_skip, ↓ur_seq, ↓ur_block, ↓ur_region, ↓ur_cond, ur_range, ↓cont_seq, ↓ops_consN, nY_move, nY_assign, nY_alloc, nY_box, nY_load, nY_binOp, nilO_int, nY_callf, ↓ops_nil, opsIf_some, condC_false, Option.map_some, Option.bind_some, Option.getD_some, Nat.reduceLT, Bool.false_eq_true, ↓upd_same, ↓upd_ne, Nat.reduceBEq, true_and, and_true, List.getD_cons_zero, List.getD_cons_succ, List.getElem?_cons_zero, cfg_P, cfg_tab, cfg_muts, cfg_frz, cfg_num, numOf_eq, List.contains_cons, List.contains_nil, Bool.or_false, decide_false, List.lookup_cons, List.lookup_nil, tabOf_cons, tab_v, Bool.and_self, Nat.reduceEqDiff, List.nil_append, List.append_nil, List.length_cons, List.length_nil, Nat.zero_add, List.drop_zero, Nat.reduceAdd, Nat.lt_succ_self, Bool.not_false, not_true_eq_false, Nat.le_refl, cells_int, pur_int, pur_lits, cells_agg, pur_agg, ↓ev_tmp, ↓ev_int, ↓ev_nils, ↓ev_func, ↓iop_move, ↓iop_assign, ↓iop_alloc, ↓iop_box, ↓iop_load, ↓iop_binOp, ↓iop_callv, nrmAll_cons, nrmAll_nil, nrm_agg, nrmL_cons, nrmL_nil, nrm_int, nrm1_int, nrm1_lits, pickP_f, pickP_t, loadP_vptr, b_neq, env0_eq, valT_eq, pursL_cons, pursL_nil, Store.new, ↓reduceIte, callP_eq, tsOf_eq, boxP_eq, List.take_succ_cons, List.take_nil, ↓evs_cons, ↓evs_nil, beq_self_eq_true, see_eq, and_false, Bool.true_eq_false, e_span, s_span, e_ofF, s_ofF, nth_psts, pur_psts, nth_tars, pur_tars, nth_snds, pur_snds, nth_uses, pur_uses, nth_rsts, pur_rsts, nth_lnks, pur_lnks, Try.f24, ty3, ty64, ty74, ok, hi, h0, h1, h2]
  refine run_rangeF (ys := L.map fun x : Int × Int => [I x.1, I x.2]) (f := 58) (first := []) (captured := [.vptr [I n, psts ps] 0, .vptr [I t] 0, .vptr [I i] 0]) rfl rfl (hookMono_none rfl) ?_ hy rfl ?_ (by kernel_rfl) (by kernel_rfl)
    (fun j st' => st'.obj 0 = some (.arr 0 8 [.agg ((tbl 8 (totA ps fr (L.take j))).map (PV.int .i64))]) ∧ 0 < st'.next) (fun e st' => False) ?_ ?_ ?_ ?_ ?_ ?_ ?_
  · simp +contextual (maxSteps := 4000000) only [↓upd_same, ↓ev_tmp, nth_psts, pur_psts, nth_tars, pur_tars, nth_snds, pur_snds, nth_uses, pur_uses, nth_rsts, pur_rsts, nth_lnks, pur_lnks, Try.f24]
  · intro y hy
    obtain ⟨x, _, rfl⟩ := List.mem_map.1 hy
    rfl
  · intro j
    exact Stays.obj (fun _ => by simp)
  · intro e
    exact Stays.const
  · exact ⟨by simp only [List.take_zero, ← hzl]; simp [updO], by simp⟩
  · rintro j y ⟨ob2, M2⟩ id lr hy hid hlp hbase ⟨a0, a1⟩
    obtain ⟨z, hj, rfl, hz, htk⟩ := of_idx hy
    dsimp only at hid hlp hbase a0 a1
    obtain ⟨jj, hjj, hz1, hzb⟩ := hmem z hz
    have hb : ∀ w, w < 8 → -(1099511627776 * (j : Int)) ≤ (tbl 8 (totA ps fr (L.take j))).getD w 0 ∧ (tbl 8 (totA ps fr (L.take j))).getD w 0 ≤ 1099511627776 * (j : Int) := fun w hw => by
      have := totA_le (ps := ps) (fr := fr) (w := w) (l := L.take j) fun x hx => by
        obtain ⟨_, _, _, h⟩ := hmem x (List.mem_of_mem_take hx); exact h
      rw [List.length_take, Nat.min_eq_left (by omega)] at this
      rw [tbl_at hw]; exact this
    have hp1 := ok.one jj hjj
    have hst := fun u p => tot_step (ps := ps) (fr := fr) (l := L.take j) (z := z) (u := u) (p := p)
    have hsk := fun p => tot_skip (ps := ps) (fr := fr) (l := L.take j) (z := z) (p := p)
    rw [htk]
    have hzn : z.1.toNat = jj := by omega
    rw [hzn] at hst hsk
    have hbl : (tbl 8 (totA ps fr (L.take j))).length = 8 := tbl_len
    generalize tbl 8 (totA ps fr (L.take j)) = T at *
    generalize tbl 8 (totA ps fr (L.take j ++ [z])) = T2 at *
    generalize hx : ps.getD jj dP = x at *
    have hwhy := hp1.2.2.2.1
    have e1 := Int.toNat_of_nonneg (show 0 ≤ x.2.2.2.2.1 by omega)
    have hu8 : x.2.2.2.2.1.toNat < 8 := by omega
    have d0 : ¬ id = 0 := by omega
    have f0 : ¬ 0 = id := by omega
    have d3 : ¬ id = M2 := by omega
    have e0 : ¬ 0 = M2 := by omega
    have f3 : ¬ M2 = id := by omega
    have e00 : ¬ M2 = 0 := by omega
    by_cases c : fr ≤ x.2.2.2.1
    · have hst := hst _ _ rfl c e1 hu8
      have hbu := hb _ hu8
      rw [← hst]
      generalize x.2.2.2.2.1.toNat = u at *
      have hui : (u : Int) < 8 := by omega
      have un0 : ¬ (u : Int) < 0 := by omega
      have un1 : ¬ 8 ≤ (u : Int) := by omega
      have hw : IntKind.i64.wrap (T.getD u 0 + z.2) = T.getD u 0 + z.2 := wrap64 (by omega) (by omega)
      have hg1 := get_int8 (l := T) (k := u) (by omega)
      have sp1 := spl_int8 (l := T) (o := u) (v := T.getD u 0 + z.2) (by omega)
      simp +contextual (maxSteps := 4000000) only [↓ur_seq, ↓ur_block, ↓ur_region, ↓ur_cond, ↓cont_nil, ↓cont_seq, ↓cont_blk, ↓ops_consN, ↓setps_cons, ↓setps_nil, rndX_cfg, nY_move, nY_assign, nY_alloc, nY_load, nY_store, nY_binOp, nilO_tmp, nY_fieldAddr, nY_indexAddr, ↓ops_nil, opsIf_some, opsIf_none, opsIf_if, map_if, condC_true, Option.map_some, Option.map_none, Option.bind_some, Option.getD_some, Nat.reduceLT, Bool.false_eq_true, ↓upd_same, ↓upd_ne, Nat.reduceBEq, true_and, and_true, List.getElem?_cons_zero, List.getElem?_cons_succ, cfg_P, cfg_frz, cfg_num, numOf_eq, List.length_map, List.contains_nil, Int.natCast_nonneg, Int.ofNat_lt, Int.toNat_natCast, decide_true, List.nil_append, List.append_nil, updO_same, updO_ne, List.length_cons, List.length_nil, Nat.zero_add, List.drop_zero, List.take_zero, Nat.reduceAdd, List.set_cons_zero, Nat.reduceLeDiff, nth_zero, Nat.lt_succ_self, Bool.not_false, not_false_eq_true, Nat.le_refl, cells_int, cells_agg, ↓ev_tmp, ↓iop_move, ↓iop_assign, ↓iop_alloc, ↓iop_load, ↓iop_store, ↓iop_binOp, ↓iop_fieldAddr, ↓iop_indexAddr, idxA_int, pickP_f, pickP_t, loadP_vptr, loadP_ptr, setCells_agg, storeP_ptr, fieldP_vptr, fieldP_ptr, indexP_lits, indexP_ptr, b_add, b_geq, splice_eq, Store.new, Store.set, ↓reduceIte, arr_eq, arrB_some, beq_eq_false_iff_ne, ne_eq, List.take_succ_cons, List.drop_succ_cons, List.drop_nil, List.take_nil, see_eq, Int.cast_ofNat_Int, nth_psts, pur_psts, nth_tars, pur_tars, nth_snds, pur_snds, nth_uses, pur_uses, nth_rsts, pur_rsts, nth_lnks, pur_lnks, Try.f24, ty3, ty40, ty54, ty64, ty74, Nat.mul_one, hlp, a0, d0, f0, d3, e0, f3, e00, roundA, roundB, hw, hz1, hjj, hx, c, ← e1, hu8, hui, un0, un1, hg1, sp1, hbl]
      exact fun rb => ⟨by omega, by omega, by omega, by simp, fun x h1 h2 h3 => by
        dsimp only at h2 h3 ⊢
        have n1 : x ≠ M2 := by omega
        have n2 : x ≠ id := fun e => h3 lr (by rw [e]; exact hlp)
        have n3 : x ≠ 0 := by omega
        simp [updO, n1, n2, n3]⟩
    · have hsk := hsk _ rfl c
      rw [hsk]
      simp +contextual (maxSteps := 4000000) only [↓ur_skip, ↓ur_seq, ↓ur_block, ↓ur_region, ↓ur_cond, ↓cont_nil, ↓cont_seq, ↓cont_blk, ↓ops_consN, ↓setps_cons, ↓setps_nil, rndX_cfg, nY_move, nY_assign, nY_alloc, nY_load, nY_store, nY_binOp, nilO_tmp, nY_fieldAddr, nY_indexAddr, ↓ops_nil, opsIf_some, opsIf_none, condC_false, Option.map_some, Option.bind_some, Option.getD_some, Nat.reduceLT, Bool.false_eq_true, ↓upd_same, ↓upd_ne, Nat.reduceBEq, true_and, and_true, List.getElem?_cons_zero, List.getElem?_cons_succ, cfg_P, cfg_frz, cfg_num, numOf_eq, List.length_map, List.contains_nil, Int.natCast_nonneg, Int.ofNat_lt, Int.toNat_natCast, decide_false, List.nil_append, List.append_nil, updO_same, updO_ne, List.length_cons, List.length_nil, Nat.zero_add, List.drop_zero, List.take_zero, Nat.reduceAdd, List.set_cons_zero, nth_zero, Nat.lt_succ_self, Bool.not_false, not_false_eq_true, Nat.le_refl, cells_agg, ↓ev_tmp, ↓iop_move, ↓iop_assign, ↓iop_alloc, ↓iop_load, ↓iop_store, ↓iop_binOp, ↓iop_fieldAddr, ↓iop_indexAddr, idxA_int, pickP_f, pickP_t, loadP_vptr, loadP_ptr, setCells_agg, storeP_ptr, fieldP_vptr, fieldP_ptr, indexP_lits, b_geq, splice_eq, Store.new, Store.set, ↓reduceIte, arr_eq, arrB_some, beq_eq_false_iff_ne, ne_eq, List.take_succ_cons, List.drop_succ_cons, List.drop_nil, List.take_nil, see_eq, nth_psts, pur_psts, nth_tars, pur_tars, nth_snds, pur_snds, nth_uses, pur_uses, nth_rsts, pur_rsts, nth_lnks, pur_lnks, Try.f24, ty3, ty40, ty54, ty64, hlp, a0, d0, f0, d3, e0, f3, e00, roundA, roundB, hz1, hjj, hx, c]
      exact fun rb => ⟨by omega, by omega, by simp, fun x h1 h2 h3 => by
        dsimp only at h2 h3 ⊢
        have n1 : x ≠ M2 := by omega
        have n2 : x ≠ id := fun e => h3 lr (by rw [e]; exact hlp)
        simp [updO, n1, n2]⟩
  · rintro ⟨ob2, M2⟩ ⟨a0, a1⟩
    dsimp only at a0 a1
    rw [List.length_map, List.take_of_length_le (Nat.le_refl _)] at a0
    have h8 : ((tbl 8 (totA ps fr L)).map (PV.int .i64)).length = 8 := by rw [List.length_map, tbl_len]
    have htk : List.take 8 ((tbl 8 (totA ps fr L)).map (PV.int .i64)) = (tbl 8 (totA ps fr L)).map (PV.int .i64) := List.take_of_length_le (by rw [h8]; exact Nat.le_refl _)
    have h88 : (tbl 8 (totA ps fr L)).length = 8 := tbl_len
    simp +contextual (maxSteps := 4000000) only [↓ur_seq, ↓ur_ret, ↓ur_region, ↓cont_seq, ↓cont_blk, ↓done_nil, ↓ops_consN, nY_assign, nY_slice, ↓ops_nil, opsIf_some, Option.map_some, Option.map_none, Option.bind_some, Option.getD_some, Nat.reduceLT, ↓upd_same, ↓upd_ne, Nat.reduceBEq, and_true, endQ, cfg_P, cfg_muts, List.length_map, List.contains_cons, List.contains_nil, Bool.or_false, Option.some.injEq, exists_eq_left', pur_ints, Bool.and_self, List.length_cons, List.length_nil, Nat.zero_add, List.drop_zero, Nat.reduceLeDiff, nth_zero, Nat.lt_succ_self, Nat.le_refl, cells_agg, pur_agg, DRx_int, DRx_lits, DRx_tuple, DRxL_cons, DRxL_nil, ↓ev_tmp, ↓ev_int, ↓iop_assign, ↓iop_slice, slcP_ff, fixP_ptr, ires_eq, iresL_2, iresAll_nil, iresAll_cons, iresOne_tmp, pursL_cons, pursL_nil, ↓reduceIte, arr_eq, arrB_some, beq_self_eq_true, nth_psts, pur_psts, nth_tars, pur_tars, nth_snds, pur_snds, nth_uses, pur_uses, nth_rsts, pur_rsts, nth_lnks, pur_lnks, Try.f24, ty74, a0, h88, htk]
  · rintro j ⟨ob2, M2⟩ h
    exact h.elim
  · rintro ⟨ob2, M2⟩ h
    exact h.elim
theorem o_Totals : O_Totals := k_Totals c_Totals
end Sim
