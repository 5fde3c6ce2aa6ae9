/- What functions of this seat compute, by values: contracts (lemmas of the statement's proof, under the conditions that each names). -/
import Derived.Test.YtpaaaaijebdphaaQG
namespace Sim
open Go Go.Proofs
set_option maxRecDepth 10000
set_option maxHeartbeats 2000000
set_option linter.unusedVariables false
set_option linter.unusedSimpArgs false
attribute [local congr] opsIf_congr condC_congr guardC_congr grd_congr pick3_congr obind_congr omap_congr nilC_congr opsV_congr
def psumK (b o : List Int) : Nat → Int
  | 0 => 0
  | k + 1 => psumK b o k + b.getD (o.getD k 0).toNat 0
def payAt (b o : List Int) (k : Nat) : Pay := if psumK b o (k + 1) < 0 then (o.getD k 0, o.getD (k + 1) 0, -psumK b o (k + 1)) else (o.getD (k + 1) 0, o.getD k 0, psumK b o (k + 1))
def payK (b o : List Int) : Nat → List Pay
  | 0 => []
  | k + 1 => if psumK b o (k + 1) = 0 ∨ k + 1 = o.length then payK b o k else payK b o k ++ [payAt b o k]
def payL (b o : List Int) : List Pay := payK b o o.length
def ordOK (b o : List Int) : Prop := o.length ≤ 12 ∧ (∀ x ∈ o, 0 ≤ x ∧ x < b.length) ∧ ∀ x ∈ b, fitB x
theorem psum_le {b : List Int} (o : List Int) (h : ∀ x ∈ b, fitB x) : ∀ k : Nat, -(1125899906842624 * (k : Int)) ≤ psumK b o k ∧ psumK b o k ≤ 1125899906842624 * (k : Int)
  | 0 => by simp [psumK]
  | k + 1 => by
    have ih := psum_le o h k
    have : -1125899906842624 ≤ b.getD (o.getD k 0).toNat 0 ∧ b.getD (o.getD k 0).toNat 0 ≤ 1125899906842624 := by
      rcases Nat.lt_or_ge (o.getD k 0).toNat b.length with g | g
      · exact fit_at h g
      · rw [List.getD_eq_getElem?_getD, List.getElem?_eq_none g]; simp
    simp only [psumK]; omega
theorem pay_pre {b o : List Int} {k : Nat} : ∀ m, ∃ l, payK b o (k + m) = payK b o k ++ l
  | 0 => ⟨[], by simp⟩
  | m + 1 => by
    obtain ⟨l, hl⟩ := pay_pre (b := b) (o := o) (k := k) m
    show ∃ l, (if psumK b o (k + m + 1) = 0 ∨ k + m + 1 = o.length then payK b o (k + m) else payK b o (k + m) ++ _) = _ ++ l
    rw [hl]
    split
    · exact ⟨l, rfl⟩
    · exact ⟨l ++ [_], by rw [List.append_assoc]⟩
theorem pay_at {b o : List Int} {k : Nat} (hk : k < o.length) (h : ¬ (psumK b o (k + 1) = 0 ∨ k + 1 = o.length)) : (payL b o)[(payK b o k).length]? = some (payAt b o k) := by
  obtain ⟨l, hl⟩ := pay_pre (b := b) (o := o) (k := k + 1) (o.length - (k + 1))
  rw [show k + 1 + (o.length - (k + 1)) = o.length by omega] at hl
  unfold payL
  rw [hl]
  simp only [payK]
  rw [if_neg h]
  simp
abbrev payF (b o : List Int) : PV := .func (.func 72) [] [.vptr [ints o] 0, .vptr [ints b] 0]
noncomputable def A_paymentsF : (List Int) × (List Int) → List PV := fun (b, o) => [ints b, ints o]
noncomputable def R_paymentsF : (List Int) × (List Int) → PV := fun (b, o) => payF b o
def H_paymentsF : (List Int) × (List Int) → Prop := fun (b, o) => True
noncomputable def e_paymentsF : Nat × Ent := (42, .v (specOf A_paymentsF R_paymentsF H_paymentsF))
theorem j_paymentsF : ∀ i j, A_paymentsF i = A_paymentsF j → i = j := by
  rintro ⟨b₁, o₁⟩ ⟨b₂, o₂⟩ h
  simp only [A_paymentsF, List.cons.injEq, and_true, PV.lits.injEq, PV.int.injEq, PV.bool.injEq, PV.str.injEq, PV.agg.injEq, PV.func.injEq, Fn.func.injEq, PV.vptr.injEq, true_and, List.map_nil, inj_ints, inj_strs, inj_psts, inj_gaps, inj_pays] at h
  simp [Prod.ext_iff, h] <;> omega
theorem s_paymentsF (b : List Int) (o : List Int) : specOf A_paymentsF R_paymentsF H_paymentsF [ints b, ints o] = some (payF b o) := specOf_app j_paymentsF (i := (b, o)) trivial
def C_paymentsF : Prop := ∀ (b : List Int) (o : List Int) , VC Try.prog 42 [ints b, ints o] (payF b o)
def O_paymentsF : Prop := EntOK Try.prog e_paymentsF.1 e_paymentsF.2
theorem k_paymentsF (c : C_paymentsF) : O_paymentsF := specOf_ok fun ⟨b, o⟩ h => c b o
theorem c_paymentsF : C_paymentsF := by
  intro b o
  refine vc_ofU mixed (l := []) (eok_nil) [] []  Try.func42 rfl (by decide +kernel) (N := 6) rfl (by simp) rfl (by kernel_rfl) fun hs => ?_
  simp only [smallL, PV.small, List.length_map, and_true, true_and] at hs
  simp +contextual (maxSteps := 4000000) only [↓ur_seq, ↓ur_ret, ↓ur_region, ↓cont_seq, ↓done_nil, ↓ops_consN, nY_assign, nY_box, nY_makeFunc, ↓ops_nil, opsIf_some, Option.map_some, Option.bind_some, Option.getD_some, Nat.reduceLT, Bool.false_eq_true, ↓upd_same, ↓upd_ne, Nat.reduceBEq, true_and, List.getD_cons_zero, List.getD_cons_succ, endQ, cfg_muts, List.contains_nil, Option.some.injEq, exists_eq_left', List.length_cons, List.length_nil, Nat.zero_add, Nat.lt_succ_self, st0, cells_lits, ↓ev_tmp, ↓ev_nilf, ↓iop_assign, ↓iop_box, ↓iop_makeFunc, env0_eq, ires_eq, iresL_1, iresAll_nil, iresAll_cons, iresOne_tmp, ↓reduceIte, boxP_eq, ↓evs_cons, ↓evs_nil, nth_psts, pur_psts, nth_gaps, pur_gaps, nth_pays, pur_pays, Try.f42]
  simp [DRx, payF, pur_func, pursL_cons, pur_vptr, pur_lits, pur_ints, pursL_nil]
theorem o_paymentsF : O_paymentsF := k_paymentsF c_paymentsF
theorem ord_at {b o : List Int} (h : ∀ x ∈ o, 0 ≤ x ∧ x < (b.length : Int)) {k : Nat} (hk : k < o.length) : 0 ≤ o.getD k 0 ∧ o.getD k 0 < b.length := by
  have := h _ (List.getElem_mem hk)
  simpa [hk] using this
theorem y_pay {b o : List Int} (hc : ordOK b o) : Yields Try.prog 0 72 [] [.vptr [ints o] 0, .vptr [ints b] 0] ((payL b o).map fun x => [payV x]) := by
  refine yields_of (l := []) eok_nil [] [] 0 Try.func72 rfl (by decide +kernel) rfl (N := 54) rfl (by simp) (fun y => by kernel_rfl) fun y H J E st0 hm h0 hstab hy => ?_
  obtain ⟨h12, hin, hfit⟩ := hc
  obtain ⟨ob0, M0⟩ := st0
  simp +contextual (maxSteps := 4000000) only [↓ur_seq, ↓ur_block, ↓ur_region, ↓cont_seq, ↓ops_consN, nY_move, nY_assign, nY_load, nY_callb, ↓ops_nil, opsIf_some, Option.map_some, Option.bind_some, Option.getD_some, Nat.reduceLT, Bool.false_eq_true, ↓upd_same, ↓upd_ne, Nat.reduceBEq, true_and, List.getD_cons_zero, List.getD_cons_succ, List.getElem?_cons_zero, cfg_P, cfg_frz, List.length_map, List.contains_nil, List.nil_append, Nat.lt_succ_self, ↓ev_tmp, ↓ev_int, ↓iop_move, ↓iop_assign, ↓iop_load, ↓iop_callb, bi_len, lenM_none, pickP_f, loadP_vptr, lenP_lits, env0_eq, ↓reduceIte, ↓evs_cons, ↓evs_nil, see_eq, nth_psts, pur_psts, nth_gaps, pur_gaps, nth_pays, pur_pays, Try.f72, ty34]
  refine loop_cnt (hm := hm) [4, 5, 6, 7, 10, 11, 12, 13, 14, 15, 16, 17, 18, 19, 20, 21, 22, 23, 24, 25, 26, 27, 28, 29, 30, 31, 32, 33, 34, 35, 36, 37, 38, 39, 40, 41, 42, 43, 44, 45, 46, 47, 48, 49, 50, 51, 52, 53] o.length (fun k ρ st' => ρ 10 = I k ∧ ρ 4 = I (psumK b o k) ∧ J (payK b o k).length st') (.refl _) ?_ ?_
  · simp +contextual (maxSteps := 4000000) only [↓upd_same, ↓upd_ne, Nat.reduceBEq, true_and, List.length_nil, Int.cast_ofNat_Int, nth_psts, pur_psts, nth_gaps, pur_gaps, nth_pays, pur_pays, Try.f72, psumK, payK]
    exact h0
  rintro k ρ ⟨ob, M⟩ hk ⟨h10, h4, hJ⟩
  by_cases hlt : k < o.length
  · have hwk := wrapN' (k := k) (by omega)
    have hp1 := psum_le o hfit (k + 1)
    have hs1 : psumK b o (k + 1) = psumK b o k + b.getD (o.getD k 0).toNat 0 := rfl
    have hok := ord_at hin hlt
    have hot : (o.getD k 0).toNat < b.length := by omega
    have hw2 : IntKind.i64.wrap (psumK b o k + b.getD (o.getD k 0).toNat 0) = psumK b o (k + 1) := by rw [hs1]; exact wrap64 (by omega) (by omega)
    have hskip : psumK b o (k + 1) = 0 ∨ k + 1 = o.length → payK b o (k + 1) = payK b o k := fun h => by simp only [payK]; rw [if_pos h]
    by_cases hz : psumK b o (k + 1) = 0
    · have := hskip (.inl hz)
      simp +contextual (maxSteps := 4000000) only [↓ur_skip, ↓ur_seq, ↓ur_block, ↓ur_exit, ↓ur_region, ↓ur_cond, ↓cont_seq, ↓cont_lp, ↓leave_seq, ↓leave_blk, ↓ops_consN, ↓ops_guardN, nY_move, nY_assign, nY_pick, nY_load, nY_binOp, nilO_tmp, nilO_int, nY_indexAddr, nY_callb, ↓ops_nil, opsIf_some, condC_true, guardC_tf, Option.map_some, Option.bind_some, Option.getD_some, Nat.reduceLT, Bool.false_eq_true, ↓upd_same, ↓upd_ne, Nat.reduceBEq, true_and, and_true, List.getD_cons_zero, List.getD_cons_succ, List.getElem?_toArray, List.getElem?_cons_zero, List.getElem?_cons_succ, cfg_P, cfg_frz, List.length_map, ↓havoc_in, ↓havoc_out, agree_upd, agree_havoc, List.contains_cons, List.contains_nil, Bool.or_false, Bool.or_true, Int.natCast_nonneg, Int.ofNat_lt, Int.toNat_natCast, nth_int, decide_true, Nat.lt_succ_self, Bool.not_false, cells_int, ↓ev_tmp, ↓ev_int, ↓ev_bool, ↓guardP_eq, grd_some, ↓iop_move, ↓iop_assign, ↓pick3_bool, ↓iop_pick, ↓iop_load, ↓iop_binOp, ↓iop_indexAddr, idxA_int, pickP_f, loadP_vptr, indexP_lits, b_add, b_eql, b_lss, env0_eq, ↓reduceIte, beq_self_eq_true, see_eq, nth_psts, pur_psts, nth_gaps, pur_gaps, nth_pays, pur_pays, Try.f72, ty3, ty34, h10, h4, hlt, hok.1, hok.2, hot, hw2, hz, hwk]
      rw [this]; exact hJ
    by_cases hl : k + 1 = o.length
    · have := hskip (.inr hl)
      have hli : ((k + 1 : Nat) : Int) = (o.length : Int) := by omega
      simp +contextual (maxSteps := 4000000) only [↓ur_skip, ↓ur_seq, ↓ur_block, ↓ur_exit, ↓ur_region, ↓ur_cond, ↓cont_seq, ↓cont_lp, ↓leave_seq, ↓leave_blk, ↓ops_consN, ↓ops_guardN, nY_move, nY_assign, nY_pick, nY_load, nY_binOp, nilO_tmp, nilO_int, nY_indexAddr, nY_callb, ↓ops_nil, opsIf_some, condC_true, guardC_tf, guardC_ff, Option.map_some, Option.bind_some, Option.getD_some, Nat.reduceLT, Bool.false_eq_true, ↓upd_same, ↓upd_ne, Nat.reduceBEq, true_and, and_true, List.getD_cons_zero, List.getD_cons_succ, List.getElem?_toArray, List.getElem?_cons_zero, List.getElem?_cons_succ, cfg_P, cfg_frz, List.length_map, ↓havoc_in, ↓havoc_out, agree_upd, agree_havoc, List.contains_cons, List.contains_nil, Bool.or_false, Bool.or_true, Int.natCast_nonneg, Int.ofNat_lt, Int.toNat_natCast, nth_int, decide_true, decide_false, Nat.lt_succ_self, Bool.not_false, cells_int, ↓ev_tmp, ↓ev_int, ↓ev_bool, ↓guardP_eq, grd_some, ↓iop_move, ↓iop_assign, ↓pick3_bool, ↓iop_pick, ↓iop_load, ↓iop_binOp, ↓iop_indexAddr, idxA_int, ↓iop_callb, bi_len, lenM_none, pickP_f, loadP_vptr, indexP_lits, lenP_lits, b_add, b_eql, b_lss, env0_eq, ↓reduceIte, guardC_fd, ↓evs_cons, ↓evs_nil, beq_self_eq_true, see_eq, nth_psts, pur_psts, nth_gaps, pur_gaps, nth_pays, pur_pays, Try.f72, ty3, ty34, h10, h4, hlt, hok.1, hok.2, hot, hw2, hz, hwk, hl]
      rw [hl] at this
      rw [this]
      exact ⟨fun _ => hJ, fun _ => hJ⟩
    have hlt1 : k + 1 < o.length := by omega
    have hgo : ∀ st' (K : Bool → Store → Prop), J (payK b o k).length st' → (∀ st', J (payK b o (k + 1)).length st' → K true st') → (∀ st', E st' → K false st') → H [payV (payAt b o k)] st' K := fun st' K hj ht hf => by
      refine hy (payK b o k).length _ st' K ?_ hj (fun st2 h2 => ht st2 ?_) hf
      · rw [List.getElem?_map, pay_at hlt (by omega)]; rfl
      · have e : payK b o (k + 1) = payK b o k ++ [payAt b o k] := by simp only [payK]; rw [if_neg (by omega)]
        rw [e, List.length_append, List.length_singleton]; exact h2
    have hJ1 : ∀ o1 o2, J (payK b o k).length ⟨updO (updO ob M o1) M o2, M + 1⟩ := fun o1 o2 => hstab _ _ _ hJ (by simp) (fun x hx => (updO_ne (by simp; exact Nat.ne_of_lt hx)).trans (updO_ne (by simp; exact Nat.ne_of_lt hx)))
    have hJ2 : ∀ o1 o2 o3, J (payK b o k).length ⟨updO (updO (updO ob M o1) M o2) M o3, M + 1⟩ := fun o1 o2 o3 => hstab _ _ _ hJ (by simp) (fun x hx => (updO_ne (by simp; exact Nat.ne_of_lt hx)).trans ((updO_ne (by simp; exact Nat.ne_of_lt hx)).trans (updO_ne (by simp; exact Nat.ne_of_lt hx))))
    by_cases hneg : psumK b o (k + 1) < 0
    · have e : payAt b o k = (o.getD k 0, o.getD (k + 1) 0, -psumK b o (k + 1)) := by unfold payAt; rw [if_pos hneg]
      have hw3 : IntKind.i64.wrap (0 - psumK b o (k + 1)) = -psumK b o (k + 1) := by rw [wrap64 (by omega) (by omega)]; omega
      rw [e] at hgo
      simp +contextual (maxSteps := 4000000) only [↓ur_skip, ↓ur_seq, ↓ur_block, ↓ur_ret, ↓ur_region, ↓ur_cond, ↓cont_seq, ↓cont_blk, ↓cont_lp, ↓done_nil, ↓done_seq, ↓done_blk, ↓done_lp, ↓ops_consN, ↓ops_guardN, ↓ops_consVc, ↓opsV_yield, nY_move, nY_assign, nY_pick, nY_alloc, nY_build, nY_load, nY_store, nY_binOp, nilO_tmp, nilO_int, nY_unOp, nY_indexAddr, nY_callb, ↓ops_nil, opsIf_some, opsIf_none, condC_true, condC_false, guardC_ff, Option.map_some, Option.bind_some, Option.getD_some, Nat.reduceLT, Bool.false_eq_true, ↓upd_same, ↓upd_ne, Nat.reduceBEq, true_and, and_true, List.getD_cons_zero, List.getD_cons_succ, List.getElem?_toArray, List.getElem?_cons_zero, List.getElem?_cons_succ, cfg_P, cfg_frz, cfg_num, numOf_eq, List.length_map, ↓havoc_in, ↓havoc_out, agree_upd, agree_havoc, List.contains_cons, List.contains_nil, Bool.or_false, Bool.or_true, Int.natCast_nonneg, Int.ofNat_lt, Int.toNat_natCast, nth_int, decide_true, decide_false, List.cons_append, List.nil_append, List.append_nil, updO_same, List.length_cons, List.length_nil, Nat.zero_add, List.drop_zero, List.take_zero, Nat.reduceAdd, List.set_cons_zero, Nat.reduceLeDiff, nth_zero, Nat.lt_succ_self, Bool.not_false, reduceCtorEq, or_true, Nat.le_refl, cells_int, cells_agg, ↓ev_tmp, ↓ev_int, ↓guardP_eq, grd_some, ↓iop_move, ↓iop_assign, ↓pick3_bool, ↓iop_pick, ↓iop_alloc, ↓iop_build, ↓iop_load, ↓iop_store, ↓iop_binOp, ↓iop_unOp, ↓iop_indexAddr, idxA_int, ↓iop_callb, bi_len, lenM_none, pickP_f, pickP_t, loadP_vptr, loadP_ptr, setCells_agg, storeP_ptr, indexP_lits, lenP_lits, b_add, b_eql, b_lss, u_neg, u_not, fill_nil, fill_cons, fill1_some, buildP_eq, bldA_none, splice_eq, env0_eq, Store.new, Store.set, ↓reduceIte, arr_eq, arrB_some, Int.natCast_inj, List.take_succ_cons, List.drop_succ_cons, List.drop_nil, List.take_nil, ↓evs_cons, ↓evs_nil, ↓evp_cons, ↓evp_nil, beq_self_eq_true, see_eq, nth_psts, pur_psts, nth_gaps, pur_gaps, nth_pays, pur_pays, Try.f72, ty3, ty34, ty68, h10, h4, hlt, hok.1, hok.2, hot, hw2, hz, hwk, hl, hlt1, hneg, hw3]
      refine hgo _ _ (hJ2 _ _ _) (fun st2 h2 => ?_) (fun st2 h2 => ?_)
      · show condC (.bool false) _ _
        rw [condC_false]; exact h2
      · show condC (.bool true) _ _
        rw [condC_true]; exact .inr h2
    · have e : payAt b o k = (o.getD (k + 1) 0, o.getD k 0, psumK b o (k + 1)) := by unfold payAt; rw [if_neg hneg]
      rw [e] at hgo
      simp +contextual (maxSteps := 4000000) only [↓ur_skip, ↓ur_seq, ↓ur_block, ↓ur_ret, ↓ur_region, ↓ur_cond, ↓cont_seq, ↓cont_blk, ↓cont_lp, ↓done_nil, ↓done_seq, ↓done_blk, ↓done_lp, ↓ops_consN, ↓ops_guardN, ↓ops_consVc, ↓opsV_yield, nY_move, nY_assign, nY_pick, nY_alloc, nY_build, nY_load, nY_store, nY_binOp, nilO_tmp, nilO_int, nY_unOp, nY_indexAddr, nY_callb, ↓ops_nil, opsIf_some, opsIf_none, condC_true, condC_false, guardC_ff, Option.map_some, Option.bind_some, Option.getD_some, Nat.reduceLT, Bool.false_eq_true, ↓upd_same, ↓upd_ne, Nat.reduceBEq, true_and, and_true, List.getD_cons_zero, List.getD_cons_succ, List.getElem?_toArray, List.getElem?_cons_zero, List.getElem?_cons_succ, cfg_P, cfg_frz, cfg_num, numOf_eq, List.length_map, ↓havoc_in, ↓havoc_out, agree_upd, agree_havoc, List.contains_cons, List.contains_nil, Bool.or_false, Bool.or_true, Int.natCast_nonneg, Int.ofNat_lt, Int.toNat_natCast, nth_int, decide_true, decide_false, List.cons_append, List.nil_append, List.append_nil, updO_same, List.length_cons, List.length_nil, Nat.zero_add, List.drop_zero, List.take_zero, Nat.reduceAdd, List.set_cons_zero, Nat.reduceLeDiff, nth_zero, Nat.lt_succ_self, Bool.not_false, reduceCtorEq, or_true, Nat.le_refl, cells_int, cells_agg, ↓ev_tmp, ↓ev_int, ↓guardP_eq, grd_some, ↓iop_move, ↓iop_assign, ↓pick3_bool, ↓iop_pick, ↓iop_alloc, ↓iop_build, ↓iop_load, ↓iop_store, ↓iop_binOp, ↓iop_unOp, ↓iop_indexAddr, idxA_int, ↓iop_callb, bi_len, lenM_none, pickP_f, pickP_t, loadP_vptr, loadP_ptr, setCells_agg, storeP_ptr, indexP_lits, lenP_lits, b_add, b_eql, b_lss, u_not, fill_nil, fill_cons, fill1_some, buildP_eq, bldA_none, splice_eq, env0_eq, Store.new, Store.set, ↓reduceIte, arr_eq, arrB_some, Int.natCast_inj, List.take_succ_cons, List.drop_succ_cons, List.drop_nil, List.take_nil, ↓evs_cons, ↓evs_nil, ↓evp_cons, ↓evp_nil, beq_self_eq_true, see_eq, nth_psts, pur_psts, nth_gaps, pur_gaps, nth_pays, pur_pays, Try.f72, ty3, ty34, ty68, h10, h4, hlt, hok.1, hok.2, hot, hw2, hz, hwk, hl, hlt1, hneg]
      refine hgo _ _ (hJ1 _ _) (fun st2 h2 => ?_) (fun st2 h2 => ?_)
      · show condC (.bool false) _ _
        rw [condC_false]; exact h2
      · show condC (.bool true) _ _
        rw [condC_true]; exact .inr h2
  · have e : k = o.length := by omega
    subst e
    simp +contextual (maxSteps := 4000000) only [↓ur_seq, ↓ur_exit, ↓ur_region, ↓ur_cond, ↓cont_nil, ↓cont_seq, ↓leave_seq, ↓leave_blk, ↓leave_lp, ↓ops_consN, nY_binOp, nilO_tmp, ↓ops_nil, opsIf_some, condC_false, Option.map_some, Nat.reduceLT, ↓upd_same, ↓upd_ne, Nat.reduceBEq, true_and, cfg_P, ↓havoc_in, ↓havoc_out, List.contains_cons, List.contains_nil, Bool.or_false, Bool.or_true, Int.ofNat_lt, decide_false, Nat.lt_irrefl, Bool.not_false, reduceCtorEq, or_false, ↓ev_tmp, ↓iop_binOp, b_lss, ↓reduceIte, beq_self_eq_true, nth_psts, pur_psts, nth_gaps, pur_gaps, nth_pays, pur_pays, Try.f72, h10]
    exact .inl hJ
theorem Stays.or {J K : Store → Prop} (h : Stays J) (g : Stays K) : Stays fun st => J st ∨ K st := fun st st' hjk hl => hjk.elim (fun a => .inl (h st st' a hl)) (fun b => .inr (g st st' b hl))
theorem pay_idx {l : List Pay} {i : Nat} {y : List PV} (h : (l.map fun x => [payV x])[i]? = some y) : i < l.length ∧ y = [payV (l.getD i dY)] ∧ l.take (i + 1) = l.take i ++ [l.getD i dY] := by
  rw [List.getElem?_map, Option.map_eq_some_iff] at h
  obtain ⟨x, hx, rfl⟩ := h
  obtain ⟨hi, rfl⟩ := List.getElem?_eq_some_iff.1 hx
  refine ⟨hi, by simp [hi], ?_⟩
  rw [List.take_succ_eq_append_getElem hi]
  simp [hi]
theorem payK_len {b o : List Int} : ∀ k, (payK b o k).length ≤ k
  | 0 => by simp [payK]
  | k + 1 => by
    have := payK_len (b := b) (o := o) k
    simp only [payK]
    split
    · omega
    · rw [List.length_append]; simp; omega
noncomputable def A_appendSeq : (List Int) × (List Int) → List PV := fun (b, o) => [.nils, payF b o]
noncomputable def R_appendSeq : (List Int) × (List Int) → PV := fun (b, o) => pays (payL b o)
def H_appendSeq : (List Int) × (List Int) → Prop := fun (b, o) => ordOK b o
noncomputable def e_appendSeq : Nat × Ent := (71, .v (specOf A_appendSeq R_appendSeq H_appendSeq))
theorem j_appendSeq : ∀ i j, A_appendSeq i = A_appendSeq j → i = j := by
  rintro ⟨b₁, o₁⟩ ⟨b₂, o₂⟩ h
  simp only [A_appendSeq, List.cons.injEq, and_true, PV.lits.injEq, PV.int.injEq, PV.bool.injEq, PV.str.injEq, PV.agg.injEq, PV.func.injEq, Fn.func.injEq, PV.vptr.injEq, true_and, List.map_nil, inj_ints, inj_strs, inj_psts, inj_gaps, inj_pays] at h
  simp [Prod.ext_iff, h] <;> omega
theorem s_appendSeq (b : List Int) (o : List Int) : specOf A_appendSeq R_appendSeq H_appendSeq [.nils, payF b o] = @ite (Option (PV)) (ordOK b o) (Classical.propDecidable _) (some (pays (payL b o))) none := specOf_if j_appendSeq (b, o)
def C_appendSeq : Prop := ∀ (b : List Int) (o : List Int) (h : ordOK b o) , VC Try.prog 71 [.nils, payF b o] (pays (payL b o))
def O_appendSeq : Prop := EntOK Try.prog e_appendSeq.1 e_appendSeq.2
theorem k_appendSeq (c : C_appendSeq) : O_appendSeq := specOf_ok fun ⟨b, o⟩ h => c b o h
theorem c_appendSeq : C_appendSeq := by
  intro b o hc
  refine vc_ofD mixed (l := []) (eok_nil) [2] [] 0 1 Try.func71 rfl (by decide +kernel) (N := 13) rfl (by simp) rfl (by kernel_rfl) fun hs => ?_
  simp only [smallL, PV.small, List.length_map, and_true, true_and] at hs
  have hlen : (payL b o).length ≤ 12 := Nat.le_trans (payK_len o.length) hc.1
  have hy := y_pay hc
  generalize payL b o = ys at *
  simp +contextual (maxSteps := 4000000) only [↓ur_seq, ↓ur_block, ↓ur_region, ur_range, ↓cont_seq, ↓ops_consN, nY_move, nY_assign, nY_box, ↓ops_nil, opsIf_some, Option.getD_some, Nat.reduceLT, ↓upd_ne, Nat.reduceBEq, true_and, List.getD_cons_zero, List.getD_cons_succ, cfg_muts, List.contains_cons, List.contains_nil, Bool.or_false, List.length_cons, List.length_nil, Nat.zero_add, Nat.lt_succ_self, cells_nils, ↓ev_tmp, ↓ev_nils, ↓iop_move, ↓iop_assign, ↓iop_box, env0_eq, Store.new, ↓reduceIte, boxP_eq, beq_self_eq_true, nth_psts, pur_psts, nth_gaps, pur_gaps, nth_pays, pur_pays, Try.f71]
  refine run_range (ys := ys.map fun x => [payV x]) (f := 72) (first := []) (captured := [.vptr [ints o] 0, .vptr [ints b] 0]) rfl rfl (hookMono_none rfl) ?_ hy rfl ?_ (by kernel_rfl) (by kernel_rfl)
    (fun i st' => ((st'.obj 0 = some (.arr 0 1 [.nils]) ∧ 0 < st'.next) ∧ i = 0) ∨ ∃ A g, ((st'.obj 0 = some (.arr 0 1 [.ref A g 0 i]) ∧ 0 < st'.next) ∧ (st'.obj A = some (.arr g 3 ((ys.take i).map payV)) ∧ A < st'.next)) ∧ ¬ A = 0)
    (fun e st' => False) ?_ ?_ ?_ ?_ ?_ ?_ ?_
  · simp +contextual (maxSteps := 4000000) only [↓upd_same, ↓ev_tmp, nth_psts, pur_psts, nth_gaps, pur_gaps, nth_pays, pur_pays, Try.f71]
  · intro y hy
    obtain ⟨x, _, rfl⟩ := List.mem_map.1 hy
    rfl
  · intro i
    exact ((Stays.obj (fun _ => by simp)).and Stays.const).or (Stays.ex fun A => Stays.ex fun g => ((Stays.obj (fun _ => by simp)).and (Stays.obj (fun _ => by simp))).and Stays.const)
  · intro e
    exact Stays.const
  · exact .inl ⟨⟨by simp [updO], by simp⟩, rfl⟩
  · rintro i y ⟨ob2, M2⟩ id lr hy hid hlp hJ
    obtain ⟨hi, rfl, htk⟩ := pay_idx hy
    dsimp only at hid hlp hJ
    rw [htk]
    generalize ys.getD i dY = x at *
    have d3 : ¬ id = M2 := by omega
    have f3 : ¬ M2 = id := by omega
    rcases hJ with ⟨⟨a0, a1⟩, rfl⟩ | ⟨A, g, ⟨⟨a0, a1⟩, b0, b1⟩, c0⟩
    · have d0 : ¬ id = 0 := fun e => by rw [e, a0] at hlp; cases hlp
      have e0 : ¬ 0 = M2 := by omega
      have e1 : ¬ M2 = 0 := by omega
      have f0 : ¬ 0 = id := fun e => d0 e.symm
      have e2 : ¬ M2 + 1 = 0 := by omega
      have e3 : ¬ 0 = M2 + 1 := by omega
      have e4 : ¬ id = M2 + 1 := by omega
      have e5 : ¬ M2 + 1 = id := by omega
      have e6 : ¬ M2 + 1 = M2 := by omega
      have e7 : ¬ M2 = M2 + 1 := by omega
      simp +contextual (maxSteps := 4000000) only [↓ur_block, ↓ur_region, Nat.one_ne_zero, ↓cont_nil, ↓cont_blk, ↓ops_consN, ↓setps_cons, ↓setps_nil, rndX_cfg, nY_alloc, nY_buildSlice, nY_load, nY_store, nY_callb, ↓ops_nil, opsIf_some, opsIf_none, Option.map_some, Option.bind_some, Option.getD_some, Nat.reduceLT, Bool.false_eq_true, ↓upd_same, ↓upd_ne, Nat.reduceBEq, true_and, and_true, List.getElem?_cons_zero, cfg_P, cfg_muts, cfg_frz, cfg_num, numOf_eq, List.map_cons, List.map_nil, List.contains_cons, List.contains_nil, Bool.or_false, Option.some.injEq, List.cons.injEq, List.nil_append, List.append_nil, updO_same, updO_ne, List.length_cons, List.length_nil, Nat.zero_add, List.drop_zero, List.take_zero, Nat.reduceAdd, List.replicate_succ, List.replicate_zero, List.set_cons_zero, Nat.reduceMul, Nat.reduceLeDiff, nth_zero, IObj.arr.injEq, Nat.lt_succ_self, reduceCtorEq, not_false_eq_true, or_false, Nat.le_refl, cells_nils, cells_ref, cells_agg, ↓ev_tmp, ↓iop_alloc, ↓iop_buildSlice, ↓iop_load, ↓iop_store, ↓iop_callb, bi_append, pickP_f, pickP_t, loadP_ptr, setCells_agg, setCells_nils, storeP_ptr, elemsP_lits, appendP_nils, bel_nil, bel_cons, splice_eq, Store.new, Store.set, ↓reduceIte, arr_eq, arrB_some, bslP_eq, beq_eq_false_iff_ne, ne_eq, Nat.reduceBeqDiff, List.take_succ_cons, List.drop_succ_cons, List.drop_nil, List.take_nil, ↓evs_cons, ↓evs_nil, ↓evp_cons, ↓evp_nil, see_eq, and_false, nth_psts, pur_psts, nth_gaps, pur_gaps, nth_pays, pur_pays, Try.f71, ty35, ty68, hlp, a0, d0, d3, e0, e1, f0, f3, e2, e3, e4, e5, e6, e7, roundA, roundB]
      refine fun rb => ⟨by omega, .inr ⟨M2 + 1, 0, ⟨⟨rfl, by omega⟩, ?_, by omega⟩, e2⟩⟩
      rw [updO_ne (by simp), updO_same]
    · have d0 : ¬ id = 0 := fun e => by rw [e, a0] at hlp; cases hlp
      have dA : ¬ id = A := fun e => by rw [e, b0] at hlp; cases hlp
      have e0 : ¬ 0 = M2 := by omega
      have e1 : ¬ M2 = 0 := by omega
      have eA : ¬ A = M2 := by omega
      have eB : ¬ M2 = A := by omega
      have f0 : ¬ 0 = id := fun e => d0 e.symm
      have fA : ¬ A = id := fun e => dA e.symm
      have c1 : ¬ 0 = A := fun e => c0 e.symm
      have hl1 : (ys.take i).length = i := by rw [List.length_take]; omega
      have htt : List.take i ((ys.take i).map payV) = (ys.take i).map payV := List.take_of_length_le (by rw [List.length_map, hl1]; exact Nat.le_refl _)
      have hi1 : i + 1 ≤ 2147483648 := by omega
      simp +contextual (maxSteps := 4000000) only [↓ur_block, ↓ur_region, ↓cont_nil, ↓cont_blk, ↓ops_consN, ↓setps_cons, ↓setps_nil, rndX_cfg, nY_alloc, nY_buildSlice, nY_load, nY_store, nY_callb, ↓ops_nil, opsIf_some, opsIf_none, Option.map_some, Option.bind_some, Option.getD_some, Nat.reduceLT, Bool.false_eq_true, ↓upd_same, ↓upd_ne, Nat.reduceBEq, true_and, and_true, List.getElem?_cons_zero, cfg_P, cfg_muts, cfg_frz, cfg_num, numOf_eq, List.length_map, List.contains_cons, List.contains_nil, Bool.or_false, Option.some.injEq, List.cons.injEq, List.nil_append, List.append_nil, updO_same, updO_ne, List.length_cons, List.length_nil, Nat.zero_add, List.drop_zero, List.take_zero, Nat.not_succ_le_self, Nat.reduceAdd, List.replicate_succ, List.replicate_zero, List.set_cons_zero, Nat.reduceMul, Nat.reduceLeDiff, nth_zero, IObj.arr.injEq, Nat.lt_succ_self, reduceCtorEq, not_false_eq_true, or_false, Nat.le_refl, cells_ref, cells_agg, ↓ev_tmp, ↓iop_alloc, ↓iop_buildSlice, ↓iop_load, ↓iop_store, ↓iop_callb, bi_append, pickP_f, pickP_t, loadP_ptr, setCells_agg, setCells_ref, storeP_ptr, elemsP_lits, appendP_ref, bel_nil, bel_cons, splice_eq, Store.new, Store.set, ↓reduceIte, arr_eq, arrB_some, bslP_eq, beq_eq_false_iff_ne, ne_eq, List.take_succ_cons, List.drop_succ_cons, List.drop_nil, List.take_nil, ↓evs_cons, ↓evs_nil, ↓evp_cons, ↓evp_nil, see_eq, and_false, nth_psts, pur_psts, nth_gaps, pur_gaps, nth_pays, pur_pays, Try.f71, ty35, ty68, hlp, a0, b0, c0, c1, d0, d3, dA, e0, e1, eA, eB, f0, fA, f3, hl1, htt, hi1, roundA, roundB]
      refine fun rb => ⟨by omega, .inr ⟨A, g + 1, ⟨⟨rfl, by omega⟩, ?_, by omega⟩, c0⟩⟩
      rw [updO_ne (by simpa using c0), updO_same, List.map_append]; rfl
  · rintro ⟨ob2, M2⟩ hJ
    dsimp only at hJ
    rw [List.length_map, List.take_of_length_le (Nat.le_refl _)] at hJ
    rcases hJ with ⟨⟨a0, a1⟩, h0⟩ | ⟨A, g, ⟨⟨a0, a1⟩, b0, b1⟩, c0⟩
    · have : ys = [] := List.eq_nil_of_length_eq_zero h0
      subst this
      simp +contextual (maxSteps := 4000000) only [↓ur_seq, ↓ur_ret, ↓ur_region, ↓cont_seq, ↓cont_blk, ↓done_nil, ↓ops_consN, nY_assign, nY_load, ↓ops_nil, opsIf_some, Option.map_some, Option.bind_some, Option.getD_some, Nat.reduceLT, Bool.false_eq_true, ↓upd_same, ↓upd_ne, Nat.reduceBEq, and_true, List.getElem?_cons_zero, endQ, cfg_P, cfg_frz, List.map_nil, List.contains_nil, Option.some.injEq, exists_eq_left', nth_zero, Nat.lt_succ_self, cells_nils, DRx_nils_lits, ↓ev_tmp, ↓iop_assign, ↓iop_load, pickP_f, loadP_ptr, ires_eq, iresL_1, iresAll_nil, iresAll_cons, iresOne_tmp, ↓reduceIte, arr_eq, arrB_some, see_eq, nth_psts, pur_psts, nth_gaps, pur_gaps, nth_pays, pur_pays, Try.f71, ty35, a0]
    · have htt : List.take ys.length (ys.map payV) = ys.map payV := List.take_of_length_le (by rw [List.length_map]; exact Nat.le_refl _)
      simp +contextual (maxSteps := 4000000) only [↓ur_seq, ↓ur_ret, ↓ur_region, ↓cont_seq, ↓cont_blk, ↓done_nil, ↓ops_consN, nY_assign, nY_load, ↓ops_nil, opsIf_some, Option.map_some, Option.bind_some, Option.getD_some, Nat.reduceLT, Bool.false_eq_true, ↓upd_same, ↓upd_ne, Nat.reduceBEq, true_and, and_true, List.getElem?_cons_zero, endQ, cfg_P, cfg_frz, List.length_map, List.contains_nil, Option.some.injEq, exists_eq_left', Nat.zero_add, List.drop_zero, nth_zero, Prod.mk.injEq, Nat.lt_succ_self, Nat.le_refl, cells_ref, DRx_ref, ↓ev_tmp, ↓iop_assign, ↓iop_load, pickP_f, loadP_ptr, ires_eq, iresL_1, iresAll_nil, iresAll_cons, iresOne_tmp, ↓reduceIte, arr_eq, arrB_some, see_eq, nth_psts, pur_psts, nth_gaps, pur_gaps, nth_pays, pur_pays, Try.f71, ty35, a0, b0, htt]
  · rintro i ⟨ob2, M2⟩ h
    exact h.elim
  · rintro ⟨ob2, M2⟩ h
    exact h.elim
theorem o_appendSeq : O_appendSeq := k_appendSeq c_appendSeq
noncomputable def A_collect : (List Int) × (List Int) → List PV := fun (b, o) => [payF b o]
noncomputable def R_collect : (List Int) × (List Int) → PV := fun (b, o) => pays (payL b o)
def H_collect : (List Int) × (List Int) → Prop := fun (b, o) => ordOK b o
noncomputable def e_collect : Nat × Ent := (41, .v (specOf A_collect R_collect H_collect))
theorem j_collect : ∀ i j, A_collect i = A_collect j → i = j := by
  rintro ⟨b₁, o₁⟩ ⟨b₂, o₂⟩ h
  simp only [A_collect, List.cons.injEq, and_true, PV.lits.injEq, PV.int.injEq, PV.bool.injEq, PV.str.injEq, PV.agg.injEq, PV.func.injEq, Fn.func.injEq, PV.vptr.injEq, true_and, List.map_nil, inj_ints, inj_strs, inj_psts, inj_gaps, inj_pays] at h
  simp [Prod.ext_iff, h] <;> omega
theorem s_collect (b : List Int) (o : List Int) : specOf A_collect R_collect H_collect [payF b o] = @ite (Option (PV)) (ordOK b o) (Classical.propDecidable _) (some (pays (payL b o))) none := specOf_if j_collect (b, o)
def C_collect : Prop := ∀ (b : List Int) (o : List Int) (h : ordOK b o) , VC Try.prog 41 [payF b o] (pays (payL b o))
def O_collect : Prop := EntOK Try.prog e_collect.1 e_collect.2
theorem k_collect (c : C_collect) : O_collect := specOf_ok fun ⟨b, o⟩ h => c b o h
theorem c_collect : C_collect := by
  intro b o hc
  refine vc_ofU mixed (l := [e_appendSeq]) ((eok_cons o_appendSeq eok_nil)) [] [400004]  Try.func41 rfl (by decide +kernel) (N := 5) rfl (by simp) rfl (by kernel_rfl) fun hs => ?_
  simp only [smallL, PV.small, List.length_map, and_true, true_and] at hs
  simp +contextual (maxSteps := 4000000) only [↓ur_seq, ↓ur_ret, ↓ur_region, ↓cont_seq, ↓done_nil, ↓ops_consN, nY_move, nY_assign, nY_callf, ↓ops_nil, opsIf_some, Option.map_some, Option.bind_some, Option.getD_some, Nat.reduceLT, Bool.false_eq_true, ↓upd_same, ↓upd_ne, Nat.reduceBEq, and_true, List.getD_cons_zero, endQ, cfg_P, cfg_tab, cfg_muts, cfg_frz, List.contains_cons, List.contains_nil, Bool.or_false, Option.some.injEq, exists_eq_left', tabOf_cons, tab_v, pur_ints, Bool.and_self, List.nil_append, List.append_nil, Nat.reduceAdd, Nat.lt_succ_self, st0, pur_vptr, pur_nils, pur_lits, pur_func, DRx_lits, ↓ev_tmp, ↓ev_nils, ↓ev_func, ↓iop_move, ↓iop_assign, ↓iop_callv, nrmAll_nil, env0_eq, ires_eq, iresL_1, iresAll_nil, iresAll_cons, iresOne_tmp, valT_eq, pursL_cons, pursL_nil, ↓reduceIte, callP_eq, tsOf_eq, ↓evs_cons, ↓evs_nil, beq_self_eq_true, and_false, Bool.true_eq_false, e_appendSeq, s_appendSeq, nth_psts, pur_psts, nth_gaps, pur_gaps, nth_pays, pur_pays, Try.f41, hc]
theorem o_collect : O_collect := k_collect c_collect
theorem open_ok {b : List Int} (h : openE b = 0) : b.length ≤ 40 ∧ (∀ x ∈ b, fitB x) ∧ sumK b b.length = 0 ∧ (nzK b b.length).length ≤ 12 := by
  unfold openE at h
  by_cases h1 : 40 < b.length
  · rw [if_pos h1] at h; cases h
  · rw [if_neg h1] at h
    by_cases h2 : ∀ x ∈ b, fitB x
    · rw [if_neg (fun g => g h2)] at h
      by_cases h3 : sumK b b.length = 0
      · rw [if_neg (fun g => g h3)] at h
        by_cases h4 : 12 < (nzK b b.length).length
        · rw [if_pos h4] at h; cases h
        · exact ⟨by omega, h2, h3, by omega⟩
      · rw [if_pos h3] at h; cases h
    · rw [if_pos h2] at h; cases h
theorem nz_mem {b : List Int} : ∀ {k}, ∀ x ∈ nzK b k, 0 ≤ x ∧ x < k
  | 0, x, h => by simp [nzK] at h
  | k + 1, x, h => by
    simp only [nzK] at h
    split at h
    · have := nz_mem x h; omega
    · rcases List.mem_append.1 h with h | h
      · have := nz_mem x h; omega
      · simp only [List.mem_singleton] at h; omega
theorem out_mem {v : Nat → Int} {n : Nat} {l : List Int} (hn : n ≤ 60) (hl : n = l.length) : ∀ j, j ≤ n → ∀ x ∈ outA v n l j, x ∈ l
  | 0, _, x, h => by simp [outA] at h
  | j + 1, hj, x, h => by
    rcases List.mem_append.1 h with h | h
    · exact out_mem hn hl j (by omega) x h
    · simp only [List.mem_singleton] at h
      have hb := (bst_at (v := v) hn _ _ (Nat.le_refl _) (setA_cnt (v := v) hn j (by omega)).2).lt (setA_pos hn (by omega))
      rw [h, List.getD_eq_getElem?_getD, List.getElem?_eq_getElem (by omega)]
      exact List.getElem_mem _
theorem order_len (b l : List Int) : (orderL b l).length = l.length := by unfold orderL; rw [List.length_reverse, outA_len]
theorem order_ok {b l : List Int} (h12 : l.length ≤ 12) (h1 : ∀ x ∈ l, 0 ≤ x ∧ x < (b.length : Int)) (h2 : ∀ x ∈ b, fitB x) : ordOK b (orderL b l) := by
  refine ⟨by rw [order_len]; exact h12, fun x hx => h1 x ?_, h2⟩
  unfold orderL at hx
  rw [List.mem_reverse] at hx
  exact out_mem (by omega) rfl _ (Nat.le_refl _) x hx
theorem open_pre {b : List Int} (h : openE b = 0) : (openL b).length ≤ 12 ∧ (∀ x ∈ openL b, 0 ≤ x ∧ x < (b.length : Int)) ∧ ∀ x ∈ b, fitB x := by
  obtain ⟨h1, h2, h3, h4⟩ := open_ok h
  unfold openL
  rw [if_pos h]
  exact ⟨h4, nz_mem, h2⟩
def leastN (b : List Int) : Int := if openE b = 0 then ((openL b).length : Int) - orderN b (openL b) else 0
def payM (b : List Int) : List Pay := if openE b = 0 then payL b (orderL b (openL b)) else []
def C_least : Prop := ∀ (b : List Int) , VC Try.prog 14 [ints b] (.tuple [I (leastN b), I (openE b)])
theorem c_least : C_least := by
  intro b
  refine vc_ofU mixed (l := [e_open, e_order]) ((eok_cons o_open (eok_cons o_order eok_nil))) [] []  Try.func14 rfl (by decide +kernel) (N := 26) rfl (by simp) rfl (by kernel_rfl) fun hs => ?_
  simp only [smallL, PV.small, List.length_map, and_true, true_and] at hs
  by_cases h : openE b = 0
  · have hp := open_pre h
    have hb := (bst_at (v := valK b (openL b)) (n := (openL b).length) (by omega) _ (2 ^ (openL b).length - 1) (Nat.le_refl _) (by have := Nat.two_pow_pos (openL b).length; omega)).nonneg
    have hb2 := (tabW_le (v := valK b (openL b)) (n := (openL b).length) (2 ^ (openL b).length - 1) (2 ^ (openL b).length - 1)).2
    have hp12 := pow_le (k := (openL b).length) 12 (by omega)
    have hw : IntKind.i64.wrap (((openL b).length : Int) - orderN b (openL b)) = ((openL b).length : Int) - orderN b (openL b) := by
      unfold orderN bst at *
      exact wrap64 (by omega) (by omega)
    have e : leastN b = ((openL b).length : Int) - orderN b (openL b) := by unfold leastN; rw [if_pos h]
    rw [e]
    simp +contextual (maxSteps := 4000000) only [↓ur_skip, ↓ur_seq, ↓ur_ret, ↓ur_region, ↓ur_cond, ↓cont_seq, ↓done_nil, ↓ops_consN, nY_move, nY_assign, nY_binOp, nilO_tmp, nilO_int, nY_extract, nY_callf, nY_callb, ↓ops_nil, opsIf_some, condC_false, Option.map_some, Option.bind_some, Option.getD_some, Nat.reduceLT, Bool.false_eq_true, ↓upd_same, ↓upd_ne, Nat.reduceBEq, and_true, List.getD_cons_zero, List.getElem?_cons_zero, List.getElem?_cons_succ, endQ, forall_const, cfg_P, cfg_tab, cfg_muts, cfg_frz, List.length_map, List.contains_nil, decide_false, Option.some.injEq, exists_eq_left', tabOf_cons, tab_v, pur_ints, Bool.and_self, Nat.reduceEqDiff, List.nil_append, List.append_nil, Nat.reduceAdd, Nat.lt_succ_self, Bool.not_false, not_true_eq_false, st0, pur_lits, DRx_int, DRx_tuple, DRxL_cons, DRxL_nil, ↓ev_tmp, ↓ev_int, ↓ev_func, ↓iop_move, ↓iop_assign, ↓iop_binOp, ↓iop_extract, extr_tuple, ↓iop_callv, ↓iop_callb, nrmAll_cons, nrmAll_nil, bi_len, lenM_none, nrm_lits, lenP_lits, b_sub, b_neq, env0_eq, ires_eq, iresL_2, iresAll_nil, iresAll_cons, iresOne_tmp, valT_eq, pursL_cons, pursL_nil, ↓reduceIte, callP_eq, tsOf_eq, ↓evs_cons, ↓evs_nil, implies_true, and_false, Bool.true_eq_false, e_open, s_open, e_order, s_order, nth_psts, pur_psts, nth_gaps, pur_gaps, nth_pays, pur_pays, Try.f14, ty34, h, hp, hw]
  · have e : leastN b = 0 := by unfold leastN; rw [if_neg h]
    rw [e]
    obtain ⟨E, hE⟩ : ∃ E, openE b = E := ⟨_, rfl⟩
    rw [hE] at h ⊢
    simp +contextual (maxSteps := 4000000) only [↓ur_seq, ↓ur_ret, ↓ur_region, ↓ur_cond, ↓cont_seq, ↓done_nil, ↓done_seq, ↓ops_consN, nY_move, nY_assign, nY_binOp, nilO_int, nY_extract, nY_callf, ↓ops_nil, opsIf_some, condC_true, Option.map_some, Option.bind_some, Option.getD_some, Nat.reduceLT, Bool.false_eq_true, ↓upd_same, ↓upd_ne, Nat.reduceBEq, and_true, List.getD_cons_zero, List.getElem?_cons_zero, List.getElem?_cons_succ, endQ, cfg_P, cfg_tab, cfg_muts, cfg_frz, List.contains_nil, decide_true, Option.some.injEq, exists_eq_left', tabOf_cons, tab_v, pur_ints, Bool.and_self, List.nil_append, List.append_nil, Nat.reduceAdd, Bool.not_false, not_false_eq_true, st0, pur_lits, DRx_int, DRx_tuple, DRxL_cons, DRxL_nil, ↓ev_tmp, ↓ev_int, ↓ev_func, ↓iop_move, ↓iop_assign, ↓iop_binOp, ↓iop_extract, extr_tuple, ↓iop_callv, nrmAll_cons, nrmAll_nil, nrm_lits, b_neq, env0_eq, ires_eq, iresL_2, iresAll_nil, iresAll_cons, iresOne_tmp, valT_eq, pursL_cons, pursL_nil, ↓reduceIte, callP_eq, tsOf_eq, ↓evs_cons, ↓evs_nil, and_false, Bool.true_eq_false, e_open, s_open, e_order, nth_psts, pur_psts, nth_gaps, pur_gaps, nth_pays, pur_pays, Try.f14, ty34, h, hE]
def C_pay : Prop := ∀ (b : List Int) , VC Try.prog 16 [ints b] (.tuple [pays (payM b), I (openE b)])
theorem c_pay : C_pay := by
  intro b
  refine vc_ofU mixed (l := [e_open, e_order, e_paymentsF, e_collect]) ((eok_cons o_open (eok_cons o_order (eok_cons o_paymentsF (eok_cons o_collect eok_nil))))) [] []  Try.func16 rfl (by decide +kernel) (N := 24) rfl (by simp) rfl (by kernel_rfl) fun hs => ?_
  simp only [smallL, PV.small, List.length_map, and_true, true_and] at hs
  by_cases h : openE b = 0
  · have hp := open_pre h
    have ho := order_ok hp.1 hp.2.1 hp.2.2
    have e : payM b = payL b (orderL b (openL b)) := by unfold payM; rw [if_pos h]
    rw [e]
    simp +contextual (maxSteps := 4000000) only [↓ur_skip, ↓ur_seq, ↓ur_ret, ↓ur_region, ↓ur_cond, ↓cont_seq, ↓done_nil, ↓ops_consN, nY_move, nY_assign, nY_binOp, nilO_int, nY_extract, nY_callf, ↓ops_nil, opsIf_some, condC_false, Option.map_some, Option.bind_some, Option.getD_some, Nat.reduceLT, Bool.false_eq_true, ↓upd_same, ↓upd_ne, Nat.reduceBEq, and_true, List.getD_cons_zero, List.getElem?_cons_zero, List.getElem?_cons_succ, endQ, forall_const, cfg_P, cfg_tab, cfg_muts, cfg_frz, List.contains_nil, decide_false, Option.some.injEq, exists_eq_left', tabOf_cons, tab_v, pur_ints, Bool.and_self, Nat.reduceEqDiff, List.nil_append, List.append_nil, Nat.reduceAdd, Nat.lt_succ_self, Bool.not_false, not_true_eq_false, st0, pur_vptr, pur_lits, pur_func, DRx_int, DRx_lits, DRx_tuple, DRxL_cons, DRxL_nil, ↓ev_tmp, ↓ev_int, ↓ev_nils, ↓ev_func, ↓iop_move, ↓iop_assign, ↓iop_binOp, ↓iop_extract, extr_tuple, ↓iop_callv, nrmAll_cons, nrmAll_nil, nrm_lits, nrm_func, b_neq, env0_eq, ires_eq, iresL_2, iresAll_nil, iresAll_cons, iresOne_tmp, valT_eq, pursL_cons, pursL_nil, ↓reduceIte, callP_eq, tsOf_eq, ↓evs_cons, ↓evs_nil, implies_true, and_false, Bool.true_eq_false, e_open, s_open, e_order, s_order, e_paymentsF, s_paymentsF, e_collect, s_collect, nth_psts, pur_psts, nth_gaps, pur_gaps, nth_pays, pur_pays, Try.f16, ty34, ty102, h, hp, ho]
  · have e : payM b = [] := by unfold payM; rw [if_neg h]
    rw [e]
    obtain ⟨E, hE⟩ : ∃ E, openE b = E := ⟨_, rfl⟩
    rw [hE] at h ⊢
    simp +contextual (maxSteps := 4000000) only [↓ur_seq, ↓ur_ret, ↓ur_region, ↓ur_cond, ↓cont_seq, ↓done_nil, ↓done_seq, ↓ops_consN, nY_move, nY_assign, nY_binOp, nilO_int, nY_extract, nY_callf, ↓ops_nil, opsIf_some, condC_true, Option.map_some, Option.bind_some, Option.getD_some, Nat.reduceLT, Bool.false_eq_true, ↓upd_same, ↓upd_ne, Nat.reduceBEq, and_true, List.getD_cons_zero, List.getElem?_cons_zero, List.getElem?_cons_succ, endQ, cfg_P, cfg_tab, cfg_muts, cfg_frz, List.map_nil, List.contains_nil, decide_true, Option.some.injEq, exists_eq_left', tabOf_cons, tab_v, pur_ints, Bool.and_self, List.nil_append, List.append_nil, Nat.reduceAdd, Bool.not_false, not_false_eq_true, st0, pur_lits, DRx_int, DRx_nils_lits, DRx_tuple, DRxL_cons, DRxL_nil, ↓ev_tmp, ↓ev_int, ↓ev_nils, ↓ev_func, ↓iop_move, ↓iop_assign, ↓iop_binOp, ↓iop_extract, extr_tuple, ↓iop_callv, nrmAll_cons, nrmAll_nil, nrm_lits, b_neq, env0_eq, ires_eq, iresL_2, iresAll_nil, iresAll_cons, iresOne_tmp, valT_eq, pursL_cons, pursL_nil, ↓reduceIte, callP_eq, tsOf_eq, ↓evs_cons, ↓evs_nil, and_false, Bool.true_eq_false, e_open, s_open, e_order, e_paymentsF, e_collect, nth_psts, pur_psts, nth_gaps, pur_gaps, nth_pays, pur_pays, Try.f16, ty34, h, hE]
end Sim
