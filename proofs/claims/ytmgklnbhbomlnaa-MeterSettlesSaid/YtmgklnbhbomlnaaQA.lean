/- What functions of this seat compute, by values: contracts (lemmas of the statement's proof, under the conditions that each names). -/
import Derived.Test.YtmgklnbhbomlnaaQN1
namespace Sim
open Go Go.Proofs
set_option maxRecDepth 10000
set_option maxHeartbeats 2000000
set_option linter.unusedVariables false
set_option linter.unusedSimpArgs false
attribute [local congr] opsIf_congr condC_congr guardC_congr grd_congr pick3_congr obind_congr omap_congr nilC_congr
theorem wrapN' {k : Nat} (h : k ≤ 100000) : IntKind.i64.wrap ((k : Int) + 1) = ((k + 1 : Nat) : Int) := by rw [wrap64 (by omega) (by omega)]; omega
def tbl {α : Type} (n : Nat) (f : Nat → α) : List α := (List.range n).map f
theorem tbl_len {α : Type} {n : Nat} {f : Nat → α} : (tbl n f).length = n := by simp [tbl]
theorem tbl_at {n i : Nat} {f : Nat → Int} (h : i < n) : (tbl n f).getD i 0 = f i := by simp [tbl, h]
theorem tbl_set {α : Type} {n i : Nat} {f : Nat → α} {v : α} : (tbl n f).set i v = tbl n (fun j => if j = i then v else f j) := by
  apply List.ext_getElem
  · simp [tbl]
  · intro j h1 h2
    rw [List.getElem_set]
    simp only [tbl, List.getElem_map, List.getElem_range]
    by_cases e : i = j
    · subst e; simp
    · rw [if_neg e, if_neg (fun g => e g.symm)]
theorem tbl_ext {α : Type} {n : Nat} {f g : Nat → α} (h : ∀ i, i < n → f i = g i) : tbl n f = tbl n g := by
  apply List.map_congr_left
  intro i hi
  exact h i (List.mem_range.1 hi)
noncomputable def A_cloneP : List Pst → List PV := fun l => [psts l]
noncomputable def R_cloneP : List Pst → PV := fun l => psts l
def H_cloneP : List Pst → Prop := fun l => l.length ≤ 2147483648
noncomputable def e_cloneP : Nat × Ent := (41, .v (specOf A_cloneP R_cloneP H_cloneP))
theorem j_cloneP : ∀ i j, A_cloneP i = A_cloneP j → i = j := by
  rintro l₁ l₂ h
  simp only [A_cloneP, List.cons.injEq, and_true, PV.lits.injEq, PV.int.injEq, PV.bool.injEq, PV.str.injEq, PV.agg.injEq, PV.func.injEq, Fn.func.injEq, PV.vptr.injEq, true_and, List.map_nil, inj_ints, inj_strs, inj_psts, inj_tars, inj_snds, inj_uses, inj_rsts, inj_lnks] at h
  first | exact h | omega | (simp [Prod.ext_iff, h]; done)
theorem s_cloneP (l : List Pst) : specOf A_cloneP R_cloneP H_cloneP [psts l] = @ite (Option (PV)) (l.length ≤ 2147483648) (Classical.propDecidable _) (some (psts l)) none := specOf_if j_cloneP l
def C_cloneP : Prop := ∀ (l : List Pst) (h : l.length ≤ 2147483648) , VC Try.prog 41 [psts l] (psts l)
def O_cloneP : Prop := EntOK Try.prog e_cloneP.1 e_cloneP.2
theorem k_cloneP (c : C_cloneP) : O_cloneP := specOf_ok fun l h => c l h
theorem c_cloneP : C_cloneP := by
  intro l hl
  refine vc_ofU mixed (l := []) (eok_nil) [5] []  Try.func41 rfl (by decide +kernel) (N := 8) rfl (by simp) rfl (by kernel_rfl) fun hs => ?_
  simp only [smallL, PV.small, List.length_map, and_true, true_and] at hs
  cases l with
  | nil => simp +contextual (maxSteps := 4000000) only [↓ur_skip, ↓ur_seq, ↓ur_ret, ↓ur_region, ↓ur_cond, ↓cont_seq, ↓done_nil, ↓done_seq, ↓ops_consL, ↓ops_consN, nY_move, nY_assign, nY_buildSlice, nilC_nil, Nat.reduceBNe, nY_callb, ↓ops_nil, opsIf_some, condC_true, condC_false, Option.map_some, Option.bind_some, Option.getD_some, Nat.reduceLT, Bool.false_eq_true, ↓upd_same, ↓upd_ne, Nat.reduceBEq, true_and, and_true, List.getD_cons_zero, endQ, cfg_P, cfg_muts, cfg_num, numOf_eq, List.map_nil, List.contains_cons, List.contains_nil, Bool.or_false, Option.some.injEq, exists_eq_left', List.append_nil, updO_same, List.length_nil, Nat.zero_add, Nat.add_zero, List.drop_zero, List.take_zero, Nat.reduceAdd, List.replicate_zero, Nat.reduceMul, Nat.reduceLeDiff, Prod.mk.injEq, Nat.lt_succ_self, reduceCtorEq, not_false_eq_true, or_false, st0, Nat.le_refl, DRx_nils_lits, DRx_ref, ↓ev_tmp, ↓ev_nils, ↓iop_move, ↓iop_assign, ↓iop_buildSlice, ↓iop_callb, bi_append, elemsP_lits, appendP_ref, bel_nil, env0_eq, ires_eq, iresL_1, iresAll_nil, iresAll_cons, iresOne_tmp, pursL_nil, Store.new, Store.set, ↓reduceIte, arr_eq, arrB_some, bslP_eq, ne_eq, List.drop_nil, List.take_nil, ↓evs_cons, ↓evs_nil, ↓evp_nil, beq_self_eq_true, nth_psts, pur_psts, nth_tars, pur_tars, nth_snds, pur_snds, nth_uses, pur_uses, nth_rsts, pur_rsts, nth_lnks, pur_lnks, Try.f41, ty40, ty54, psts]
  | cons a l =>
    simp only [List.length_cons] at hl
    simp +contextual (maxSteps := 4000000) only [↓ur_skip, ↓ur_seq, ↓ur_ret, ↓ur_region, ↓ur_cond, ↓cont_seq, ↓done_nil, ↓ops_consL, ↓ops_consN, nY_move, nY_assign, nY_buildSlice, nilC_cons, bn_eql, Nat.reduceBNe, nY_callb, ↓ops_nil, opsIf_some, condC_false, Option.map_some, Option.bind_some, Option.getD_some, Nat.reduceLT, Bool.false_eq_true, ↓upd_same, ↓upd_ne, Nat.reduceBEq, true_and, and_true, List.getD_cons_zero, endQ, cfg_P, cfg_muts, cfg_num, numOf_eq, List.map_cons, List.length_map, List.contains_cons, List.contains_nil, Bool.or_false, Option.some.injEq, exists_eq_left', Bool.and_self, List.nil_append, updO_same, List.length_cons, List.length_nil, Nat.zero_add, Nat.add_zero, List.drop_zero, Nat.reduceAdd, List.replicate_zero, Nat.reduceMul, Nat.reduceLeDiff, Prod.mk.injEq, Nat.lt_succ_self, reduceCtorEq, not_false_eq_true, take_map_len, or_false, st0, Nat.le_refl, pur_int, pur_agg, DRx_ref, ↓ev_tmp, ↓ev_nils, ↓iop_move, ↓iop_assign, ↓iop_buildSlice, ↓iop_binOp, ↓iop_callb, bi_append, elemsP_lits, appendP_ref, bel_nil, env0_eq, ires_eq, iresL_1, iresAll_nil, iresAll_cons, iresOne_tmp, pursL_cons, pursL_nil, Store.new, Store.set, ↓reduceIte, arr_eq, arrB_some, bslP_eq, ne_eq, List.take_succ_cons, List.drop_nil, List.take_nil, ↓evs_cons, ↓evs_nil, ↓evp_nil, beq_self_eq_true, nth_psts, pur_psts, nth_tars, pur_tars, nth_snds, pur_snds, nth_uses, pur_uses, nth_rsts, pur_rsts, nth_lnks, pur_lnks, Try.f41, ty40, ty54, hl, psts]
theorem o_cloneP : O_cloneP := k_cloneP c_cloneP
noncomputable def A_clonePA : List Pst → List PV := fun l => [psts l]
noncomputable def R_clonePA : List Pst → List PV := fun l => l.map pstV
def H_clonePA : List Pst → Prop := fun l => l.length ≤ 2147483648
noncomputable def e_clonePA : Nat × Ent := (41, .a (6) (specOf A_clonePA R_clonePA H_clonePA))
theorem j_clonePA : ∀ i j, A_clonePA i = A_clonePA j → i = j := by
  rintro l₁ l₂ h
  simp only [A_clonePA, List.cons.injEq, and_true, PV.lits.injEq, PV.int.injEq, PV.bool.injEq, PV.str.injEq, PV.agg.injEq, PV.func.injEq, Fn.func.injEq, PV.vptr.injEq, true_and, List.map_nil, inj_ints, inj_strs, inj_psts, inj_tars, inj_snds, inj_uses, inj_rsts, inj_lnks] at h
  first | exact h | omega | (simp [Prod.ext_iff, h]; done)
theorem s_clonePA (l : List Pst) : specOf A_clonePA R_clonePA H_clonePA [psts l] = @ite (Option (List PV)) (l.length ≤ 2147483648) (Classical.propDecidable _) (some (l.map pstV)) none := specOf_if j_clonePA l
def C_clonePA : Prop := ∀ (l : List Pst) (h : l.length ≤ 2147483648) , VCA Try.prog 41 [psts l] (6) (l.map pstV)
def O_clonePA : Prop := EntOK Try.prog e_clonePA.1 e_clonePA.2
theorem k_clonePA (c : C_clonePA) : O_clonePA := specOf_okA fun l h => c l h
theorem c_clonePA : C_clonePA := by
  intro l hl
  refine vca_ofD mixed (l := []) (eok_nil) [5] [] 0 0 Try.func41 rfl (by decide +kernel) (N := 8) rfl (by simp) rfl (by kernel_rfl) ?_ ?_
  · intro e he
    obtain ⟨x, _, rfl⟩ := List.mem_map.1 he
    rfl
  cases l with
  | nil =>
    simp +contextual (maxSteps := 4000000) only [↓ur_skip, ↓ur_seq, ↓ur_ret, ↓ur_region, ↓ur_cond, ↓cont_seq, ↓done_nil, ↓done_seq, ↓ops_consL, ↓ops_consN, nY_move, nY_assign, nY_buildSlice, nilC_nil, Nat.reduceBNe, nY_callb, ↓ops_nil, opsIf_some, condC_true, condC_false, Option.map_some, Option.bind_some, Option.getD_some, Nat.reduceLT, Bool.false_eq_true, ↓upd_same, ↓upd_ne, Nat.reduceBEq, true_and, and_true, List.getD_cons_zero, endQ, cfg_P, cfg_muts, cfg_num, numOf_eq, List.map_nil, List.contains_cons, List.contains_nil, Bool.or_false, Option.some.injEq, exists_eq_left', List.append_nil, updO_same, List.length_nil, Nat.zero_add, Nat.add_zero, Nat.reduceAdd, List.replicate_zero, Nat.reduceMul, Nat.reduceLeDiff, Nat.lt_succ_self, reduceCtorEq, not_false_eq_true, or_false, or_true, Nat.le_refl, ↓ev_tmp, ↓ev_nils, ↓iop_move, ↓iop_assign, ↓iop_buildSlice, ↓iop_callb, bi_append, elemsP_lits, appendP_ref, bel_nil, env0_eq, ires_eq, iresL_1, iresAll_nil, iresAll_cons, iresOne_tmp, Store.new, Store.set, ↓reduceIte, arr_eq, arrB_some, bslP_eq, ne_eq, List.drop_nil, List.take_nil, ↓evs_cons, ↓evs_nil, ↓evp_nil, beq_self_eq_true, false_and, nth_psts, pur_psts, nth_tars, pur_tars, nth_snds, pur_snds, nth_uses, pur_uses, nth_rsts, pur_rsts, nth_lnks, pur_lnks, Try.f41, ty40, ty54, psts]
    exact ⟨0, 0, rfl, by simp [updO]⟩
  | cons a l =>
    simp only [List.length_cons] at hl
    simp +contextual (maxSteps := 4000000) only [↓ur_skip, ↓ur_seq, ↓ur_ret, ↓ur_region, ↓ur_cond, ↓cont_seq, ↓done_nil, ↓ops_consL, ↓ops_consN, nY_move, nY_assign, nY_buildSlice, nilC_cons, bn_eql, Nat.reduceBNe, nY_callb, ↓ops_nil, opsIf_some, condC_false, Option.map_some, Option.bind_some, Option.getD_some, Nat.reduceLT, Bool.false_eq_true, ↓upd_same, ↓upd_ne, Nat.reduceBEq, true_and, and_true, List.getD_cons_zero, endQ, cfg_P, cfg_muts, cfg_num, numOf_eq, List.map_cons, List.length_map, List.contains_cons, List.contains_nil, Bool.or_false, Option.some.injEq, exists_eq_left', List.nil_append, updO_same, List.length_cons, List.length_nil, Nat.zero_add, Nat.add_zero, Nat.reduceAdd, List.replicate_zero, Nat.reduceMul, Nat.reduceLeDiff, Nat.lt_succ_self, reduceCtorEq, not_false_eq_true, or_false, Nat.le_refl, ↓ev_tmp, ↓ev_nils, ↓iop_move, ↓iop_assign, ↓iop_buildSlice, ↓iop_binOp, ↓iop_callb, bi_append, elemsP_lits, appendP_ref, bel_nil, env0_eq, ires_eq, iresL_1, iresAll_nil, iresAll_cons, iresOne_tmp, Store.new, Store.set, ↓reduceIte, arr_eq, arrB_some, bslP_eq, ne_eq, List.drop_nil, List.take_nil, ↓evs_cons, ↓evs_nil, ↓evp_nil, beq_self_eq_true, false_and, nth_psts, pur_psts, nth_tars, pur_tars, nth_snds, pur_snds, nth_uses, pur_uses, nth_rsts, pur_rsts, nth_lnks, pur_lnks, Try.f41, ty40, ty54, hl, psts]
    exact ⟨0, 1, rfl, by simp [updO]⟩
theorem o_clonePA : O_clonePA := k_clonePA c_clonePA
end Sim
