/- What functions of this seat compute, by values: contracts (lemmas of the statement's proof, under the conditions that each names). -/
import Derived.Test.YtmgklnbhbomlnaaQP1
import Derived.Test.YtmgklnbhbomlnaaQL
namespace Sim
open Go Go.Proofs
set_option maxRecDepth 10000
set_option maxHeartbeats 2000000
set_option linter.unusedVariables false
set_option linter.unusedSimpArgs false
attribute [local congr] opsIf_congr condC_congr guardC_congr grd_congr pick3_congr obind_congr omap_congr nilC_congr opsV_congr
theorem list_eqP {a b : List Pst} (hl : a.length = b.length) (h : ∀ k, k < a.length → a.getD k dP = b.getD k dP) : a = b := by
  apply List.ext_getElem hl
  intro i h1 h2
  have := h i h1
  simpa [h1, h2] using this
theorem list_eqR {a b : List Rst} (hl : a.length = b.length) (h : ∀ k, k < a.length → a.getD k dR = b.getD k dR) : a = b := by
  apply List.ext_getElem hl
  intro i h1 h2
  have := h i h1
  simpa [h1, h2] using this
theorem neq_pst {x y : Pst} : binP Try.prog .neq 54 (.agg [I x.1, I x.2.1, I x.2.2.1, I x.2.2.2.1, I x.2.2.2.2.1, I x.2.2.2.2.2]) (.agg [I y.1, I y.2.1, I y.2.2.1, I y.2.2.2.1, I y.2.2.2.2.1, I y.2.2.2.2.2]) = some (.bool (decide (¬ x = y))) := by
  have key : ∀ a b c d e f g h i j k l : Int, binP Try.prog .neq 54 (.agg [I a, I b, I c, I d, I e, I f]) (.agg [I g, I h, I i, I j, I k, I l]) = some (.bool (!((a == g) && ((b == h) && ((c == i) && ((d == j) && ((e == k) && ((f == l) && true)))))))) := by intros; kernel_rfl
  rw [key]
  have hb : ∀ x y : Int, (x == y) = decide (x = y) := fun x y => rfl
  congr 2
  obtain ⟨a, b, c, d, e, f⟩ := x
  obtain ⟨g, h, i, j, k, l⟩ := y
  simp only [hb, Bool.and_true, Prod.mk.injEq, decide_not, Bool.decide_and]
theorem neq_rst {x y : Rst} : binP Try.prog .neq 56 (.agg [I x.1, I x.2.1, I x.2.2.1, I x.2.2.2]) (.agg [I y.1, I y.2.1, I y.2.2.1, I y.2.2.2]) = some (.bool (decide (¬ x = y))) := by
  have key : ∀ a b c d g h i j : Int, binP Try.prog .neq 56 (.agg [I a, I b, I c, I d]) (.agg [I g, I h, I i, I j]) = some (.bool (!((a == g) && ((b == h) && ((c == i) && ((d == j) && true)))))) := by intros; kernel_rfl
  rw [key]
  have hb : ∀ x y : Int, (x == y) = decide (x = y) := fun x y => rfl
  congr 2
  obtain ⟨a, b, c, d⟩ := x
  obtain ⟨g, h, i, j⟩ := y
  simp only [hb, Bool.and_true, Prod.mk.injEq, decide_not, Bool.decide_and]
noncomputable def A_sameP : (List Pst) × (List Pst) → List PV := fun (a, b) => [psts a, psts b]
noncomputable def R_sameP : (List Pst) × (List Pst) → PV := fun (a, b) => B (decide (a = b))
def H_sameP : (List Pst) × (List Pst) → Prop := fun (a, b) => a.length ≤ 100000
noncomputable def e_sameP : Nat × Ent := (15, .v (specOf A_sameP R_sameP H_sameP))
theorem j_sameP : ∀ i j, A_sameP i = A_sameP j → i = j := by
  rintro ⟨a₁, b₁⟩ ⟨a₂, b₂⟩ h
  simp only [A_sameP, List.cons.injEq, and_true, PV.lits.injEq, PV.int.injEq, PV.bool.injEq, PV.str.injEq, PV.agg.injEq, PV.func.injEq, Fn.func.injEq, PV.vptr.injEq, true_and, List.map_nil, inj_ints, inj_strs, inj_psts, inj_tars, inj_snds, inj_uses, inj_rsts, inj_lnks] at h
  simp [Prod.ext_iff, h] <;> omega
theorem s_sameP (a : List Pst) (b : List Pst) : specOf A_sameP R_sameP H_sameP [psts a, psts b] = @ite (Option (PV)) (a.length ≤ 100000) (Classical.propDecidable _) (some (B (decide (a = b)))) none := specOf_if j_sameP (a, b)
def C_sameP : Prop := ∀ (a : List Pst) (b : List Pst) (h : a.length ≤ 100000) , VC Try.prog 15 [psts a, psts b] (B (decide (a = b)))
def O_sameP : Prop := EntOK Try.prog e_sameP.1 e_sameP.2
theorem k_sameP (c : C_sameP) : O_sameP := specOf_ok fun ⟨a, b⟩ h => c a b h
theorem c_sameP : C_sameP := by
  intro a b hl
  refine vc_ofU mixed (l := []) (eok_nil) [] []  Try.func15 rfl (by decide +kernel) (N := 26) rfl (by simp) rfl (by kernel_rfl) fun hs => ?_
  simp only [smallL, PV.small, List.length_map, and_true, true_and] at hs
  obtain ⟨R, hR⟩ : ∃ R, decide (a = b) = R := ⟨_, rfl⟩
  rw [hR]
  by_cases hab : a.length = b.length
  case neg =>
    have e : R = false := by rw [← hR]; exact decide_eq_false fun h => hab (by rw [h])
    subst e
    have hi : ¬ (a.length : Int) = (b.length : Int) := by omega
    simp +contextual (maxSteps := 4000000) only [↓ur_seq, ↓ur_ret, ↓ur_region, ↓ur_cond, ↓cont_seq, ↓done_nil, ↓done_seq, ↓ops_consN, nY_move, nY_assign, nY_binOp, nilO_tmp, nY_callb, ↓ops_nil, opsIf_some, condC_true, Option.map_some, Option.bind_some, Option.getD_some, Nat.reduceLT, ↓upd_same, ↓upd_ne, Nat.reduceBEq, and_true, List.getD_cons_zero, List.getD_cons_succ, endQ, cfg_P, List.length_map, decide_true, Option.some.injEq, exists_eq_left', Bool.not_false, not_false_eq_true, st0, DRx_bool, ↓ev_tmp, ↓ev_bool, ↓iop_move, ↓iop_assign, ↓iop_binOp, ↓iop_callb, bi_len, lenM_none, lenP_lits, b_neq, env0_eq, ires_eq, iresL_1, iresAll_nil, iresAll_cons, iresOne_tmp, ↓reduceIte, ↓evs_cons, ↓evs_nil, nth_psts, pur_psts, nth_tars, pur_tars, nth_snds, pur_snds, nth_uses, pur_uses, nth_rsts, pur_rsts, nth_lnks, pur_lnks, Try.f15, ty40, hi, hab]
  simp +contextual (maxSteps := 4000000) only [↓ur_skip, ↓ur_seq, ↓ur_block, ↓ur_region, ↓ur_cond, ↓cont_seq, ↓ops_consN, nY_move, nY_assign, nY_binOp, nilO_tmp, nY_callb, ↓ops_nil, opsIf_some, condC_false, Option.map_some, Option.getD_some, Nat.reduceLT, ↓upd_same, ↓upd_ne, Nat.reduceBEq, true_and, List.getD_cons_zero, List.getD_cons_succ, cfg_P, List.length_map, decide_false, Bool.not_false, not_true_eq_false, st0, ↓ev_tmp, ↓ev_int, ↓ev_bool, ↓iop_move, ↓iop_assign, ↓iop_binOp, ↓iop_callb, bi_len, lenM_none, lenP_lits, b_neq, env0_eq, ↓reduceIte, ↓evs_cons, ↓evs_nil, nth_psts, pur_psts, nth_tars, pur_tars, nth_snds, pur_snds, nth_uses, pur_uses, nth_rsts, pur_rsts, nth_lnks, pur_lnks, Try.f15, ty40, hab]
  refine loop_cnt [4, 5, 11, 12, 13, 14, 15, 16, 17, 18, 19, 20, 21, 22, 23, 24, 25] a.length (fun k ρ st' => ρ 5 = I k ∧ ∀ j, j < k → a.getD j dP = b.getD j dP) (.refl _) ?_ ?_
  · simp +contextual (maxSteps := 4000000) only [↓upd_same, true_and, Int.cast_ofNat_Int, nth_psts, pur_psts, nth_tars, pur_tars, nth_snds, pur_snds, nth_uses, pur_uses, nth_rsts, pur_rsts, nth_lnks, pur_lnks, Try.f15]
    intro j hj; omega
  rintro k ρ ⟨ob, M⟩ hk ⟨h5, hz⟩
  by_cases hlt : k < a.length
  · have hwk := wrapN' (k := k) (by omega)
    have hltb : k < b.length := by omega
    generalize hx : a.getD k dP = x at *
    generalize hy : b.getD k dP = y at *
    by_cases he : x = y
    · have hz2 : ∀ j, j < k + 1 → a.getD j dP = b.getD j dP := fun j hj => by
        by_cases e : j = k
        · subst e; rw [hx, hy, he]
        · exact hz j (by omega)
      simp +contextual (maxSteps := 4000000) only [↓ur_skip, ↓ur_seq, ↓ur_block, ↓ur_region, ↓ur_cond, ↓cont_seq, ↓cont_blk, ↓cont_lp, ↓ops_consN, nY_move, nY_assign, nY_load, nY_binOp, nilO_tmp, nilO_int, nY_indexAddr, nY_callb, ↓ops_nil, opsIf_some, condC_true, condC_false, Option.map_some, Option.bind_some, Option.getD_some, Nat.reduceLT, Bool.false_eq_true, ↓upd_same, ↓upd_ne, Nat.reduceBEq, true_and, and_true, List.getD_cons_zero, List.getD_cons_succ, cfg_P, cfg_frz, List.length_map, ↓havoc_in, ↓havoc_out, agree_upd, agree_havoc, List.contains_cons, List.contains_nil, Bool.or_false, Bool.or_true, Int.natCast_nonneg, Int.ofNat_lt, Int.toNat_natCast, decide_true, decide_false, List.length_cons, List.length_nil, Nat.zero_add, List.drop_zero, Nat.reduceAdd, Nat.lt_succ_self, Bool.not_false, not_true_eq_false, Nat.le_refl, cells_agg, ↓ev_tmp, ↓ev_int, ↓iop_move, ↓iop_assign, ↓iop_load, ↓iop_binOp, ↓iop_indexAddr, idxA_int, ↓iop_callb, bi_len, lenM_none, pickP_t, loadP_vptr, indexP_lits, lenP_lits, b_add, b_lss, env0_eq, ↓reduceIte, List.take_succ_cons, List.take_nil, ↓evs_cons, ↓evs_nil, beq_self_eq_true, see_eq, nth_psts, pur_psts, nth_tars, pur_tars, nth_snds, pur_snds, nth_uses, pur_uses, nth_rsts, pur_rsts, nth_lnks, pur_lnks, Try.f15, ty40, ty54, h5, hab, hlt, hltb, hx, hy, neq_pst, he, hwk]
      exact hz2
    · have e : R = false := by rw [← hR]; exact decide_eq_false fun h => he (by rw [← hx, ← hy, h])
      subst e
      simp +contextual (maxSteps := 4000000) only [↓ur_skip, ↓ur_seq, ↓ur_block, ↓ur_ret, ↓ur_region, ↓ur_cond, ↓cont_seq, ↓done_nil, ↓done_seq, ↓done_blk, ↓done_lp, ↓ops_consN, nY_move, nY_assign, nY_load, nY_binOp, nilO_tmp, nY_indexAddr, nY_callb, ↓ops_nil, opsIf_some, condC_true, Option.map_some, Option.bind_some, Option.getD_some, Nat.reduceLT, Bool.false_eq_true, ↓upd_same, ↓upd_ne, Nat.reduceBEq, and_true, List.getD_cons_zero, List.getD_cons_succ, endQ, cfg_P, cfg_frz, List.length_map, ↓havoc_in, ↓havoc_out, List.contains_cons, List.contains_nil, Bool.or_false, Bool.or_true, Int.natCast_nonneg, Int.ofNat_lt, Int.toNat_natCast, decide_true, Option.some.injEq, exists_eq_left', List.length_cons, List.length_nil, Nat.zero_add, List.drop_zero, Nat.reduceAdd, Nat.lt_succ_self, Bool.not_false, not_false_eq_true, Nat.le_refl, cells_agg, DRx_bool, ↓ev_tmp, ↓ev_bool, ↓iop_move, ↓iop_assign, ↓iop_load, ↓iop_binOp, ↓iop_indexAddr, idxA_int, ↓iop_callb, bi_len, lenM_none, pickP_t, loadP_vptr, indexP_lits, lenP_lits, b_lss, env0_eq, ires_eq, iresL_1, iresAll_nil, iresAll_cons, iresOne_tmp, ↓reduceIte, List.take_succ_cons, List.take_nil, ↓evs_cons, ↓evs_nil, beq_self_eq_true, see_eq, nth_psts, pur_psts, nth_tars, pur_tars, nth_snds, pur_snds, nth_uses, pur_uses, nth_rsts, pur_rsts, nth_lnks, pur_lnks, Try.f15, ty40, ty54, h5, hab, hlt, hltb, hx, hy, neq_pst, he]
  · have e : k = a.length := by omega
    subst e
    have e : R = true := by rw [← hR]; exact decide_eq_true (list_eqP hab hz)
    subst e
    simp +contextual (maxSteps := 4000000) only [↓ur_seq, ↓ur_exit, ↓ur_ret, ↓ur_region, ↓ur_cond, ↓cont_seq, ↓leave_seq, ↓leave_blk, ↓leave_lp, ↓done_nil, ↓ops_consN, nY_move, nY_assign, nY_binOp, nilO_tmp, nY_callb, ↓ops_nil, opsIf_some, condC_false, Option.map_some, Option.bind_some, Option.getD_some, Nat.reduceLT, ↓upd_same, ↓upd_ne, Nat.reduceBEq, and_true, List.getD_cons_zero, endQ, cfg_P, List.length_map, ↓havoc_in, ↓havoc_out, List.contains_cons, List.contains_nil, Bool.or_false, Bool.or_true, Int.ofNat_lt, decide_false, Option.some.injEq, exists_eq_left', Nat.lt_irrefl, Bool.not_false, DRx_bool, ↓ev_tmp, ↓ev_bool, ↓iop_move, ↓iop_assign, ↓iop_binOp, ↓iop_callb, bi_len, lenM_none, lenP_lits, b_lss, env0_eq, ires_eq, iresL_1, iresAll_nil, iresAll_cons, iresOne_tmp, ↓reduceIte, ↓evs_cons, ↓evs_nil, beq_self_eq_true, nth_psts, pur_psts, nth_tars, pur_tars, nth_snds, pur_snds, nth_uses, pur_uses, nth_rsts, pur_rsts, nth_lnks, pur_lnks, Try.f15, ty40, h5, hab]
theorem o_sameP : O_sameP := k_sameP c_sameP
noncomputable def A_sameR : (List Rst) × (List Rst) → List PV := fun (a, b) => [rsts a, rsts b]
noncomputable def R_sameR : (List Rst) × (List Rst) → PV := fun (a, b) => B (decide (a = b))
def H_sameR : (List Rst) × (List Rst) → Prop := fun (a, b) => a.length ≤ 100000
noncomputable def e_sameR : Nat × Ent := (16, .v (specOf A_sameR R_sameR H_sameR))
theorem j_sameR : ∀ i j, A_sameR i = A_sameR j → i = j := by
  rintro ⟨a₁, b₁⟩ ⟨a₂, b₂⟩ h
  simp only [A_sameR, List.cons.injEq, and_true, PV.lits.injEq, PV.int.injEq, PV.bool.injEq, PV.str.injEq, PV.agg.injEq, PV.func.injEq, Fn.func.injEq, PV.vptr.injEq, true_and, List.map_nil, inj_ints, inj_strs, inj_psts, inj_tars, inj_snds, inj_uses, inj_rsts, inj_lnks] at h
  simp [Prod.ext_iff, h] <;> omega
theorem s_sameR (a : List Rst) (b : List Rst) : specOf A_sameR R_sameR H_sameR [rsts a, rsts b] = @ite (Option (PV)) (a.length ≤ 100000) (Classical.propDecidable _) (some (B (decide (a = b)))) none := specOf_if j_sameR (a, b)
def C_sameR : Prop := ∀ (a : List Rst) (b : List Rst) (h : a.length ≤ 100000) , VC Try.prog 16 [rsts a, rsts b] (B (decide (a = b)))
def O_sameR : Prop := EntOK Try.prog e_sameR.1 e_sameR.2
theorem k_sameR (c : C_sameR) : O_sameR := specOf_ok fun ⟨a, b⟩ h => c a b h
theorem c_sameR : C_sameR := by
  intro a b hl
  refine vc_ofU mixed (l := []) (eok_nil) [] []  Try.func16 rfl (by decide +kernel) (N := 26) rfl (by simp) rfl (by kernel_rfl) fun hs => ?_
  simp only [smallL, PV.small, List.length_map, and_true, true_and] at hs
  obtain ⟨R, hR⟩ : ∃ R, decide (a = b) = R := ⟨_, rfl⟩
  rw [hR]
  by_cases hab : a.length = b.length
  case neg =>
    have e : R = false := by rw [← hR]; exact decide_eq_false fun h => hab (by rw [h])
    subst e
    have hi : ¬ (a.length : Int) = (b.length : Int) := by omega
    simp +contextual (maxSteps := 4000000) only [↓ur_seq, ↓ur_ret, ↓ur_region, ↓ur_cond, ↓cont_seq, ↓done_nil, ↓done_seq, ↓ops_consN, nY_move, nY_assign, nY_binOp, nilO_tmp, nY_callb, ↓ops_nil, opsIf_some, condC_true, Option.map_some, Option.bind_some, Option.getD_some, Nat.reduceLT, ↓upd_same, ↓upd_ne, Nat.reduceBEq, and_true, List.getD_cons_zero, List.getD_cons_succ, endQ, cfg_P, List.length_map, decide_true, Option.some.injEq, exists_eq_left', Bool.not_false, not_false_eq_true, st0, DRx_bool, ↓ev_tmp, ↓ev_bool, ↓iop_move, ↓iop_assign, ↓iop_binOp, ↓iop_callb, bi_len, lenM_none, lenP_lits, b_neq, env0_eq, ires_eq, iresL_1, iresAll_nil, iresAll_cons, iresOne_tmp, ↓reduceIte, ↓evs_cons, ↓evs_nil, nth_psts, pur_psts, nth_tars, pur_tars, nth_snds, pur_snds, nth_uses, pur_uses, nth_rsts, pur_rsts, nth_lnks, pur_lnks, Try.f16, ty22, hi, hab]
  simp +contextual (maxSteps := 4000000) only [↓ur_skip, ↓ur_seq, ↓ur_block, ↓ur_region, ↓ur_cond, ↓cont_seq, ↓ops_consN, nY_move, nY_assign, nY_binOp, nilO_tmp, nY_callb, ↓ops_nil, opsIf_some, condC_false, Option.map_some, Option.getD_some, Nat.reduceLT, ↓upd_same, ↓upd_ne, Nat.reduceBEq, true_and, List.getD_cons_zero, List.getD_cons_succ, cfg_P, List.length_map, decide_false, Bool.not_false, not_true_eq_false, st0, ↓ev_tmp, ↓ev_int, ↓ev_bool, ↓iop_move, ↓iop_assign, ↓iop_binOp, ↓iop_callb, bi_len, lenM_none, lenP_lits, b_neq, env0_eq, ↓reduceIte, ↓evs_cons, ↓evs_nil, nth_psts, pur_psts, nth_tars, pur_tars, nth_snds, pur_snds, nth_uses, pur_uses, nth_rsts, pur_rsts, nth_lnks, pur_lnks, Try.f16, ty22, hab]
  refine loop_cnt [4, 5, 11, 12, 13, 14, 15, 16, 17, 18, 19, 20, 21, 22, 23, 24, 25] a.length (fun k ρ st' => ρ 5 = I k ∧ ∀ j, j < k → a.getD j dR = b.getD j dR) (.refl _) ?_ ?_
  · simp +contextual (maxSteps := 4000000) only [↓upd_same, true_and, Int.cast_ofNat_Int, nth_psts, pur_psts, nth_tars, pur_tars, nth_snds, pur_snds, nth_uses, pur_uses, nth_rsts, pur_rsts, nth_lnks, pur_lnks, Try.f16]
    intro j hj; omega
  rintro k ρ ⟨ob, M⟩ hk ⟨h5, hz⟩
  by_cases hlt : k < a.length
  · have hwk := wrapN' (k := k) (by omega)
    have hltb : k < b.length := by omega
    generalize hx : a.getD k dR = x at *
    generalize hy : b.getD k dR = y at *
    by_cases he : x = y
    · have hz2 : ∀ j, j < k + 1 → a.getD j dR = b.getD j dR := fun j hj => by
        by_cases e : j = k
        · subst e; rw [hx, hy, he]
        · exact hz j (by omega)
      simp +contextual (maxSteps := 4000000) only [↓ur_skip, ↓ur_seq, ↓ur_block, ↓ur_region, ↓ur_cond, ↓cont_seq, ↓cont_blk, ↓cont_lp, ↓ops_consN, nY_move, nY_assign, nY_load, nY_binOp, nilO_tmp, nilO_int, nY_indexAddr, nY_callb, ↓ops_nil, opsIf_some, condC_true, condC_false, Option.map_some, Option.bind_some, Option.getD_some, Nat.reduceLT, Bool.false_eq_true, ↓upd_same, ↓upd_ne, Nat.reduceBEq, true_and, and_true, List.getD_cons_zero, List.getD_cons_succ, cfg_P, cfg_frz, List.length_map, ↓havoc_in, ↓havoc_out, agree_upd, agree_havoc, List.contains_cons, List.contains_nil, Bool.or_false, Bool.or_true, Int.natCast_nonneg, Int.ofNat_lt, Int.toNat_natCast, decide_true, decide_false, List.length_cons, List.length_nil, Nat.zero_add, List.drop_zero, Nat.reduceAdd, Nat.lt_succ_self, Bool.not_false, not_true_eq_false, Nat.le_refl, cells_agg, ↓ev_tmp, ↓ev_int, ↓iop_move, ↓iop_assign, ↓iop_load, ↓iop_binOp, ↓iop_indexAddr, idxA_int, ↓iop_callb, bi_len, lenM_none, pickP_t, loadP_vptr, indexP_lits, lenP_lits, b_add, b_lss, env0_eq, ↓reduceIte, List.take_succ_cons, List.take_nil, ↓evs_cons, ↓evs_nil, beq_self_eq_true, see_eq, nth_psts, pur_psts, nth_tars, pur_tars, nth_snds, pur_snds, nth_uses, pur_uses, nth_rsts, pur_rsts, nth_lnks, pur_lnks, Try.f16, ty22, ty56, h5, hab, hlt, hltb, hx, hy, neq_rst, he, hwk]
      exact hz2
    · have e : R = false := by rw [← hR]; exact decide_eq_false fun h => he (by rw [← hx, ← hy, h])
      subst e
      simp +contextual (maxSteps := 4000000) only [↓ur_skip, ↓ur_seq, ↓ur_block, ↓ur_ret, ↓ur_region, ↓ur_cond, ↓cont_seq, ↓done_nil, ↓done_seq, ↓done_blk, ↓done_lp, ↓ops_consN, nY_move, nY_assign, nY_load, nY_binOp, nilO_tmp, nY_indexAddr, nY_callb, ↓ops_nil, opsIf_some, condC_true, Option.map_some, Option.bind_some, Option.getD_some, Nat.reduceLT, Bool.false_eq_true, ↓upd_same, ↓upd_ne, Nat.reduceBEq, and_true, List.getD_cons_zero, List.getD_cons_succ, endQ, cfg_P, cfg_frz, List.length_map, ↓havoc_in, ↓havoc_out, List.contains_cons, List.contains_nil, Bool.or_false, Bool.or_true, Int.natCast_nonneg, Int.ofNat_lt, Int.toNat_natCast, decide_true, Option.some.injEq, exists_eq_left', List.length_cons, List.length_nil, Nat.zero_add, List.drop_zero, Nat.reduceAdd, Nat.lt_succ_self, Bool.not_false, not_false_eq_true, Nat.le_refl, cells_agg, DRx_bool, ↓ev_tmp, ↓ev_bool, ↓iop_move, ↓iop_assign, ↓iop_load, ↓iop_binOp, ↓iop_indexAddr, idxA_int, ↓iop_callb, bi_len, lenM_none, pickP_t, loadP_vptr, indexP_lits, lenP_lits, b_lss, env0_eq, ires_eq, iresL_1, iresAll_nil, iresAll_cons, iresOne_tmp, ↓reduceIte, List.take_succ_cons, List.take_nil, ↓evs_cons, ↓evs_nil, beq_self_eq_true, see_eq, nth_psts, pur_psts, nth_tars, pur_tars, nth_snds, pur_snds, nth_uses, pur_uses, nth_rsts, pur_rsts, nth_lnks, pur_lnks, Try.f16, ty22, ty56, h5, hab, hlt, hltb, hx, hy, neq_rst, he]
  · have e : k = a.length := by omega
    subst e
    have e : R = true := by rw [← hR]; exact decide_eq_true (list_eqR hab hz)
    subst e
    simp +contextual (maxSteps := 4000000) only [↓ur_seq, ↓ur_exit, ↓ur_ret, ↓ur_region, ↓ur_cond, ↓cont_seq, ↓leave_seq, ↓leave_blk, ↓leave_lp, ↓done_nil, ↓ops_consN, nY_move, nY_assign, nY_binOp, nilO_tmp, nY_callb, ↓ops_nil, opsIf_some, condC_false, Option.map_some, Option.bind_some, Option.getD_some, Nat.reduceLT, ↓upd_same, ↓upd_ne, Nat.reduceBEq, and_true, List.getD_cons_zero, endQ, cfg_P, List.length_map, ↓havoc_in, ↓havoc_out, List.contains_cons, List.contains_nil, Bool.or_false, Bool.or_true, Int.ofNat_lt, decide_false, Option.some.injEq, exists_eq_left', Nat.lt_irrefl, Bool.not_false, DRx_bool, ↓ev_tmp, ↓ev_bool, ↓iop_move, ↓iop_assign, ↓iop_binOp, ↓iop_callb, bi_len, lenM_none, lenP_lits, b_lss, env0_eq, ires_eq, iresL_1, iresAll_nil, iresAll_cons, iresOne_tmp, ↓reduceIte, ↓evs_cons, ↓evs_nil, beq_self_eq_true, nth_psts, pur_psts, nth_tars, pur_tars, nth_snds, pur_snds, nth_uses, pur_uses, nth_rsts, pur_rsts, nth_lnks, pur_lnks, Try.f16, ty22, h5, hab]
theorem o_sameR : O_sameR := k_sameR c_sameR
def fewO (ls : List Lnk) (l : List Use) : Prop := ls.length ≤ 10 ∧ (l.length ≤ 20 ∨ 200 < l.length) ∧ l.length ≤ 205 ∧ ∀ k, k < l.length → (l.getD k dU).2.2.2.2.2.2.2.length ≤ 10
instance (ls : List Lnk) (l : List Use) : Decidable (fewO ls l) := by unfold fewO; infer_instance
noncomputable def A_few : (Int) × (List Lnk) × (List Use) → List PV := fun (hn, ls, l) => [.agg [I hn, lnks ls], uses l]
noncomputable def R_few : (Int) × (List Lnk) × (List Use) → PV := fun (hn, ls, l) => B (decide (fewO ls l))
def H_few : (Int) × (List Lnk) × (List Use) → Prop := fun (hn, ls, l) => True
noncomputable def e_few : Nat × Ent := (7, .v (specOf A_few R_few H_few))
theorem j_few : ∀ i j, A_few i = A_few j → i = j := by
  rintro ⟨hn₁, ls₁, l₁⟩ ⟨hn₂, ls₂, l₂⟩ h
  simp only [A_few, List.cons.injEq, and_true, PV.lits.injEq, PV.int.injEq, PV.bool.injEq, PV.str.injEq, PV.agg.injEq, PV.func.injEq, Fn.func.injEq, PV.vptr.injEq, true_and, List.map_nil, inj_ints, inj_strs, inj_psts, inj_tars, inj_snds, inj_uses, inj_rsts, inj_lnks] at h
  simp [Prod.ext_iff, h] <;> omega
theorem s_few (hn : Int) (ls : List Lnk) (l : List Use) : specOf A_few R_few H_few [.agg [I hn, lnks ls], uses l] = some (B (decide (fewO ls l))) := specOf_app j_few (i := (hn, ls, l)) trivial
def C_few : Prop := ∀ (hn : Int) (ls : List Lnk) (l : List Use) , VC Try.prog 7 [.agg [I hn, lnks ls], uses l] (B (decide (fewO ls l)))
def O_few : Prop := EntOK Try.prog e_few.1 e_few.2
theorem k_few (c : C_few) : O_few := specOf_ok fun ⟨hn, ls, l⟩ h => c hn ls l
theorem c_few : C_few := by
  intro hn ls l
  refine vc_ofU mixed (l := []) (eok_nil) [] []  Try.func7 rfl (by decide +kernel) (N := 37) rfl (by simp) rfl (by kernel_rfl) fun hs => ?_
  simp only [smallL, PV.small, List.length_map, and_true, true_and] at hs
  obtain ⟨R, hR⟩ : ∃ R, decide (fewO ls l) = R := ⟨_, rfl⟩
  rw [hR]
  have bad : ¬ fewO ls l → R = false := fun h => by rw [← hR]; exact decide_eq_false h
  by_cases c1 : 10 < ls.length
  · have c1i : (10 : Int) < (ls.length : Int) := by omega
    have e := bad fun h => by have := h.1; omega
    simp +contextual (maxSteps := 4000000) only [↓ur_seq, ↓ur_ret, ↓ur_region, ↓ur_cond, ↓cont_seq, ↓done_nil, ↓done_seq, ↓ops_consN, ↓ops_guardN, nY_move, nY_assign, nY_pick, nY_box, nY_load, nY_binOp, nilO_int, nY_fieldAddr, nY_callb, ↓ops_nil, opsIf_some, condC_true, guardC_u, guardC_tf, Option.map_some, Option.bind_some, Option.getD_some, Nat.reduceLT, Bool.false_eq_true, ↓upd_same, ↓upd_ne, Nat.reduceBEq, and_true, List.getD_cons_zero, List.getElem?_toArray, List.getElem?_cons_zero, List.getElem?_cons_succ, endQ, cfg_P, cfg_muts, cfg_frz, List.length_map, List.contains_nil, decide_true, Option.some.injEq, exists_eq_left', List.length_cons, List.length_nil, Nat.zero_add, Nat.reduceAdd, Nat.lt_succ_self, Bool.not_false, st0, cells_agg, DRx_bool, ↓ev_tmp, ↓ev_int, ↓ev_bool, ↓guardP_eq, grd_some, ↓iop_move, ↓iop_assign, ↓pick3_bool, ↓iop_pick, ↓iop_box, ↓iop_load, ↓iop_binOp, ↓iop_fieldAddr, ↓iop_callb, bi_len, lenM_none, pickP_f, loadP_vptr, fieldP_vptr, lenP_lits, b_gtr, env0_eq, ires_eq, iresL_1, iresAll_nil, iresAll_cons, iresOne_tmp, ↓reduceIte, boxP_eq, ↓evs_cons, ↓evs_nil, see_eq, nth_psts, pur_psts, nth_tars, pur_tars, nth_snds, pur_snds, nth_uses, pur_uses, nth_rsts, pur_rsts, nth_lnks, pur_lnks, Try.f7, ty24, ty26, c1, c1i, e]
  have c1i : ¬ (10 : Int) < (ls.length : Int) := by omega
  by_cases c2 : 20 < l.length ∧ l.length ≤ 200
  · have c2i : (20 : Int) < (l.length : Int) := by omega
    have c3i : (l.length : Int) ≤ 200 := by omega
    have e := bad fun h => by have := h.2.1; omega
    simp +contextual (maxSteps := 4000000) only [↓ur_seq, ↓ur_ret, ↓ur_region, ↓ur_cond, ↓cont_seq, ↓done_nil, ↓done_seq, ↓ops_consN, ↓ops_guardN, nY_move, nY_assign, nY_pick, nY_box, nY_load, nY_binOp, nilO_int, nY_fieldAddr, nY_callb, ↓ops_nil, opsIf_some, condC_true, guardC_tt, guardC_tf, guardC_ff, Option.map_some, Option.bind_some, Option.getD_some, Nat.reduceLT, Bool.false_eq_true, ↓upd_same, ↓upd_ne, Nat.reduceBEq, and_true, List.getD_cons_zero, List.getD_cons_succ, List.getElem?_toArray, List.getElem?_cons_zero, List.getElem?_cons_succ, endQ, cfg_P, cfg_muts, cfg_frz, List.length_map, List.contains_nil, decide_true, decide_false, Option.some.injEq, exists_eq_left', List.length_cons, List.length_nil, Nat.zero_add, Nat.reduceAdd, Nat.lt_succ_self, Bool.not_false, st0, cells_agg, DRx_bool, ↓ev_tmp, ↓ev_int, ↓ev_bool, ↓guardP_eq, grd_some, ↓iop_move, ↓iop_assign, ↓pick3_bool, ↓iop_pick, ↓iop_box, ↓iop_load, ↓iop_binOp, ↓iop_fieldAddr, ↓iop_callb, bi_len, lenM_none, pickP_f, loadP_vptr, fieldP_vptr, lenP_lits, b_leq, b_gtr, env0_eq, ires_eq, iresL_1, iresAll_nil, iresAll_cons, iresOne_tmp, ↓reduceIte, boxP_eq, ↓evs_cons, ↓evs_nil, see_eq, nth_psts, pur_psts, nth_tars, pur_tars, nth_snds, pur_snds, nth_uses, pur_uses, nth_rsts, pur_rsts, nth_lnks, pur_lnks, Try.f7, ty24, ty26, ty27, c1, c1i, c2i, c3i, e]
  have c2i : ¬ ((20 : Int) < (l.length : Int)) ∨ ((20 : Int) < (l.length : Int) ∧ ¬ (l.length : Int) ≤ 200) := by omega
  by_cases c3 : 205 < l.length
  · have c3i : (205 : Int) < (l.length : Int) := by omega
    have c4i : (20 : Int) < (l.length : Int) := by omega
    have c5i : ¬ (l.length : Int) ≤ 200 := by omega
    have e := bad fun h => by have := h.2.2.1; omega
    simp +contextual (maxSteps := 4000000) only [↓ur_seq, ↓ur_ret, ↓ur_region, ↓ur_cond, ↓cont_seq, ↓done_nil, ↓done_seq, ↓ops_consN, ↓ops_guardN, nY_move, nY_assign, nY_pick, nY_box, nY_load, nY_binOp, nilO_int, nY_fieldAddr, nY_callb, ↓ops_nil, opsIf_some, condC_true, guardC_tt, guardC_ff, Option.map_some, Option.bind_some, Option.getD_some, Nat.reduceLT, Bool.false_eq_true, ↓upd_same, ↓upd_ne, Nat.reduceBEq, and_true, List.getD_cons_zero, List.getD_cons_succ, List.getElem?_toArray, List.getElem?_cons_zero, List.getElem?_cons_succ, endQ, cfg_P, cfg_muts, cfg_frz, List.length_map, List.contains_nil, decide_true, decide_false, Option.some.injEq, exists_eq_left', List.length_cons, List.length_nil, Nat.zero_add, Nat.reduceAdd, Nat.lt_succ_self, Bool.not_false, st0, cells_agg, DRx_bool, ↓ev_tmp, ↓ev_int, ↓ev_bool, ↓guardP_eq, grd_some, ↓iop_move, ↓iop_assign, ↓pick3_bool, ↓iop_pick, ↓iop_box, ↓iop_load, ↓iop_binOp, ↓iop_fieldAddr, ↓iop_callb, bi_len, lenM_none, pickP_f, loadP_vptr, fieldP_vptr, lenP_lits, b_leq, b_gtr, env0_eq, ires_eq, iresL_1, iresAll_nil, iresAll_cons, iresOne_tmp, ↓reduceIte, boxP_eq, ↓evs_cons, ↓evs_nil, see_eq, nth_psts, pur_psts, nth_tars, pur_tars, nth_snds, pur_snds, nth_uses, pur_uses, nth_rsts, pur_rsts, nth_lnks, pur_lnks, Try.f7, ty24, ty26, ty27, c1, c1i, c4i, c5i, c3i, e]
  have c3i : ¬ (205 : Int) < (l.length : Int) := by omega
  rcases c2i with c2i | c2i
  all_goals
    simp +contextual (maxSteps := 4000000) only [↓ur_skip, ↓ur_seq, ↓ur_block, ↓ur_region, ↓ur_cond, ↓cont_seq, ↓ops_consN, ↓ops_guardN, nY_move, nY_assign, nY_pick, nY_box, nY_load, nY_binOp, nilO_int, nY_fieldAddr, nY_callb, ↓ops_nil, opsIf_some, condC_false, guardC_tt, guardC_ft, guardC_ff, Option.map_some, Option.bind_some, Option.getD_some, Nat.reduceLT, Bool.false_eq_true, ↓upd_same, ↓upd_ne, Nat.reduceBEq, true_and, List.getD_cons_zero, List.getD_cons_succ, List.getElem?_toArray, List.getElem?_cons_zero, List.getElem?_cons_succ, cfg_P, cfg_muts, cfg_frz, List.length_map, List.contains_nil, decide_true, decide_false, List.length_cons, List.length_nil, Nat.zero_add, Nat.reduceAdd, Nat.lt_succ_self, Bool.not_false, st0, cells_agg, ↓ev_tmp, ↓ev_int, ↓ev_bool, ↓guardP_eq, grd_some, ↓iop_move, ↓iop_assign, ↓pick3_bool, ↓iop_pick, ↓iop_box, ↓iop_load, ↓iop_binOp, ↓iop_fieldAddr, ↓iop_callb, bi_len, lenM_none, pickP_f, loadP_vptr, fieldP_vptr, lenP_lits, b_leq, b_gtr, env0_eq, ↓reduceIte, boxP_eq, ↓evs_cons, ↓evs_nil, see_eq, nth_psts, pur_psts, nth_tars, pur_tars, nth_snds, pur_snds, nth_uses, pur_uses, nth_rsts, pur_rsts, nth_lnks, pur_lnks, Try.f7, ty24, ty26, ty27, c1, c1i, c2i, c3i]
    refine loop_cnt [4, 6, 28, 29, 30, 31, 32, 33, 34, 35, 36] l.length (fun k ρ st' => ρ 28 = I k ∧ ∀ j, j < k → (l.getD j dU).2.2.2.2.2.2.2.length ≤ 10) (.refl _) ?_ ?_
    · simp +contextual (maxSteps := 4000000) only [↓upd_same, true_and, Int.cast_ofNat_Int, nth_psts, pur_psts, nth_tars, pur_tars, nth_snds, pur_snds, nth_uses, pur_uses, nth_rsts, pur_rsts, nth_lnks, pur_lnks, Try.f7]
      intro j hj; omega
    rintro k ρ ⟨ob, M⟩ hk ⟨h28, hz⟩
    by_cases hlt : k < l.length
    · have hwk := wrapN' (k := k) (by omega)
      by_cases hs : (l.getD k dU).2.2.2.2.2.2.2.length ≤ 10
      · have hz2 : ∀ j, j < k + 1 → (l.getD j dU).2.2.2.2.2.2.2.length ≤ 10 := fun j hj => by
          by_cases e : j = k
          · subst e; exact hs
          · exact hz j (by omega)
        have hsi : ¬ (10 : Int) < ((l.getD k dU).2.2.2.2.2.2.2.length : Int) := by omega
        generalize hx : l.getD k dU = x at *
        simp +contextual (maxSteps := 4000000) only [↓ur_skip, ↓ur_seq, ↓ur_block, ↓ur_region, ↓ur_cond, ↓cont_seq, ↓cont_blk, ↓cont_lp, ↓ops_consN, nY_move, nY_alloc, nY_load, nY_store, nY_binOp, nilO_tmp, nilO_int, nY_fieldAddr, nY_indexAddr, nY_callb, ↓ops_nil, opsIf_some, opsIf_none, condC_true, condC_false, Option.map_some, Option.bind_some, Option.getD_some, Nat.reduceLT, Bool.false_eq_true, ↓upd_same, ↓upd_ne, Nat.reduceBEq, true_and, and_true, List.getElem?_cons_zero, List.getElem?_cons_succ, cfg_P, cfg_frz, cfg_num, numOf_eq, List.length_map, ↓havoc_in, ↓havoc_out, agree_upd, agree_havoc, List.contains_cons, List.contains_nil, Bool.or_false, Bool.or_true, Int.natCast_nonneg, Int.ofNat_lt, Int.toNat_natCast, decide_true, decide_false, List.nil_append, List.append_nil, updO_same, List.length_cons, List.length_nil, Nat.zero_add, List.drop_zero, List.take_zero, Nat.reduceAdd, List.set_cons_zero, nth_zero, Nat.lt_succ_self, Bool.not_false, Nat.le_refl, cells_agg, ↓ev_tmp, ↓ev_int, ↓iop_move, ↓iop_alloc, ↓iop_load, ↓iop_store, ↓iop_binOp, ↓iop_fieldAddr, ↓iop_indexAddr, idxA_int, ↓iop_callb, bi_len, lenM_none, pickP_f, pickP_t, loadP_vptr, loadP_ptr, setCells_agg, storeP_ptr, fieldP_ptr, indexP_lits, lenP_lits, b_add, b_lss, b_gtr, splice_eq, Store.new, Store.set, ↓reduceIte, arr_eq, arrB_some, List.take_succ_cons, List.drop_succ_cons, List.drop_nil, List.take_nil, ↓evs_cons, ↓evs_nil, beq_self_eq_true, see_eq, nth_psts, pur_psts, nth_tars, pur_tars, nth_snds, pur_snds, nth_uses, pur_uses, nth_rsts, pur_rsts, nth_lnks, pur_lnks, Try.f7, ty27, ty32, ty34, h28, hlt, hx, hsi, hwk]
        exact hz2
      · have e := bad fun h => hs (h.2.2.2 k hlt)
        have hsi : (10 : Int) < ((l.getD k dU).2.2.2.2.2.2.2.length : Int) := by omega
        generalize hx : l.getD k dU = x at *
        simp +contextual (maxSteps := 4000000) only [↓ur_skip, ↓ur_seq, ↓ur_block, ↓ur_ret, ↓ur_region, ↓ur_cond, ↓cont_seq, ↓done_nil, ↓done_seq, ↓done_blk, ↓done_lp, ↓ops_consN, nY_assign, nY_alloc, nY_load, nY_store, nY_binOp, nilO_tmp, nilO_int, nY_fieldAddr, nY_indexAddr, nY_callb, ↓ops_nil, opsIf_some, opsIf_none, condC_true, Option.map_some, Option.bind_some, Option.getD_some, Nat.reduceLT, Bool.false_eq_true, ↓upd_same, ↓upd_ne, Nat.reduceBEq, and_true, List.getElem?_cons_zero, List.getElem?_cons_succ, endQ, cfg_P, cfg_frz, cfg_num, numOf_eq, List.length_map, ↓havoc_in, ↓havoc_out, List.contains_cons, List.contains_nil, Bool.or_false, Bool.or_true, Int.natCast_nonneg, Int.ofNat_lt, Int.toNat_natCast, decide_true, Option.some.injEq, exists_eq_left', List.nil_append, List.append_nil, updO_same, List.length_cons, List.length_nil, Nat.zero_add, List.drop_zero, List.take_zero, Nat.reduceAdd, List.set_cons_zero, nth_zero, Nat.lt_succ_self, Bool.not_false, Nat.le_refl, cells_agg, DRx_bool, ↓ev_tmp, ↓ev_int, ↓ev_bool, ↓iop_assign, ↓iop_alloc, ↓iop_load, ↓iop_store, ↓iop_binOp, ↓iop_fieldAddr, ↓iop_indexAddr, idxA_int, ↓iop_callb, bi_len, lenM_none, pickP_f, pickP_t, loadP_vptr, loadP_ptr, setCells_agg, storeP_ptr, fieldP_ptr, indexP_lits, lenP_lits, b_lss, b_gtr, splice_eq, ires_eq, iresL_1, iresAll_nil, iresAll_cons, iresOne_tmp, Store.new, Store.set, ↓reduceIte, arr_eq, arrB_some, List.take_succ_cons, List.drop_succ_cons, List.drop_nil, List.take_nil, ↓evs_cons, ↓evs_nil, beq_self_eq_true, see_eq, nth_psts, pur_psts, nth_tars, pur_tars, nth_snds, pur_snds, nth_uses, pur_uses, nth_rsts, pur_rsts, nth_lnks, pur_lnks, Try.f7, ty27, ty32, ty34, h28, hlt, hx, hsi, e]
    · have e : k = l.length := by omega
      subst e
      have e : R = true := by rw [← hR]; exact decide_eq_true ⟨by omega, by omega, by omega, hz⟩
      simp +contextual (maxSteps := 4000000) only [↓ur_seq, ↓ur_exit, ↓ur_ret, ↓ur_region, ↓ur_cond, ↓cont_seq, ↓leave_seq, ↓leave_blk, ↓leave_lp, ↓done_nil, ↓ops_consN, nY_assign, nY_binOp, nilO_tmp, ↓ops_nil, opsIf_some, condC_false, Option.map_some, Option.bind_some, Nat.reduceLT, ↓upd_same, ↓upd_ne, Nat.reduceBEq, and_true, endQ, cfg_P, ↓havoc_in, ↓havoc_out, List.contains_cons, List.contains_nil, Bool.or_false, Bool.or_true, Int.ofNat_lt, decide_false, Option.some.injEq, exists_eq_left', Nat.lt_irrefl, Bool.not_false, DRx_bool, ↓ev_tmp, ↓ev_bool, ↓iop_assign, ↓iop_binOp, b_lss, ires_eq, iresL_1, iresAll_nil, iresAll_cons, iresOne_tmp, ↓reduceIte, beq_self_eq_true, nth_psts, pur_psts, nth_tars, pur_tars, nth_snds, pur_snds, nth_uses, pur_uses, nth_rsts, pur_rsts, nth_lnks, pur_lnks, Try.f7, h28, e]
theorem o_few : O_few := k_few c_few
end Sim
