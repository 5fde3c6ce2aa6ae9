/- What functions of this seat compute, by values: contracts (lemmas of the statement's proof, under the conditions that each names). -/
import Derived.Test.YtpdaiflnibekaaaQG
namespace Sim
open Go Go.Proofs
set_option maxRecDepth 10000
set_option maxHeartbeats 2000000
set_option linter.unusedVariables false
set_option linter.unusedSectionVars false
set_option linter.unusedSimpArgs false
attribute [local congr] opsIf_congr condC_congr guardC_congr grd_congr pick3_congr obind_congr omap_congr

/-- The best of what begins so, as the document has it: the number of repairs tried, what is found and its cost. -/
def refL (st : Int) (rs : List Rep) (f : List Int → List Int × Int) (o : List Int) : Nat → (List Int × Int) × Int
  | 0 => (([], 21), 0)
  | k + 1 => if (k : Int) ∈ o then refL st rs f o k else
    if (f (o ++ [(k : Int)])).2 = 0 ∧ ((refL st rs f o k).1.2 ≠ 0 ∨ (costM st rs (f (o ++ [(k : Int)])).1).1 < (refL st rs f o k).2) then (f (o ++ [(k : Int)]), (costM st rs (f (o ++ [(k : Int)])).1).1) else refL st rs f o k
def refB (st : Int) (rs : List Rep) : Nat → List Int → List Int × Int
  | 0, o => if (finM st rs o).2 ≠ 0 then ([], 21) else (o, 0)
  | d + 1, o => (refL st rs (refB st rs d) o rs.length).1
noncomputable def A_rhas : (List Int) × (Int) → List PV := fun (l, n) => [ints l, I n]
noncomputable def R_rhas : (List Int) × (Int) → PV := fun (l, n) => B (decide (n ∈ l))
def H_rhas : (List Int) × (Int) → Prop := fun (l, n) => True
noncomputable def e_rhas : Nat × Ent := (58, .v (specOf A_rhas R_rhas H_rhas))
theorem j_rhas : ∀ i j, A_rhas i = A_rhas j → i = j := by
  rintro ⟨l₁, n₁⟩ ⟨l₂, n₂⟩ h
  simp only [A_rhas, List.cons.injEq, and_true, PV.lits.injEq, PV.int.injEq, PV.bool.injEq, PV.str.injEq, PV.agg.injEq, PV.func.injEq, PV.vptr.injEq, true_and, List.map_nil, inj_ints, inj_strs, inj_reps] at h
  simp [Prod.ext_iff, h] <;> omega
theorem s_rhas (l : List Int) (n : Int) : specOf A_rhas R_rhas H_rhas [ints l, I n] = some (B (decide (n ∈ l))) := specOf_app j_rhas (i := (l, n)) trivial
def C_rhas : Prop := ∀ (l : List Int) (n : Int) , VC Try.prog 58 [ints l, I n] (B (decide (n ∈ l)))
def O_rhas : Prop := EntOK Try.prog e_rhas.1 e_rhas.2
theorem k_rhas (c : C_rhas) : O_rhas := specOf_ok fun ⟨l, n⟩ h => c l n
theorem not_upto {l : List Int} {n : Int} (h : ∀ i, i < l.length → l.getD i 0 ≠ n) : n ∉ l := fun hn => by
  obtain ⟨i, hi, e⟩ := List.getElem_of_mem hn
  exact h i hi (by simpa [List.getD_eq_getElem?_getD, hi] using e)
theorem at_mem {l : List Int} {n : Int} {i : Nat} (h : i < l.length) (e : l.getD i 0 = n) : n ∈ l := by
  subst e
  simp [List.getD_eq_getElem?_getD, h]
theorem c_rhas : C_rhas := by
  intro l n
  refine vc_ofU mixed (l := []) (eok_nil) [] []  Try.func58 rfl (by decide +kernel) (N := 18) rfl (by simp) rfl (by kernel_rfl) fun hs => ?_
  simp only [smallL, PV.small, List.length_map, and_true, true_and] at hs
  generalize hr : decide (n ∈ l) = r
  simp +contextual (maxSteps := 4000000) only [↓ur_seq, ↓ur_block, ↓ur_region, ↓cont_seq, ↓ops_consN, nY_assign, ↓ops_nil, opsIf_some, Nat.reduceLT, true_and, st0, ↓ev_int, ↓ev_bool, ↓iop_assign, nth_reps, pur_reps, Try.f58]
  refine loop_cnt [4, 5, 6, 7, 8, 9, 10, 11, 12, 13, 14, 15, 16, 17] l.length (fun k ρ st => ρ 5 = I k ∧ (∀ i, i < k → l.getD i 0 ≠ n) ∧ st = st0) (.refl _) ?_ ?_
  · simp +contextual (maxSteps := 4000000) only [↓upd_same, true_and, and_true, st0, ne_eq, Int.cast_ofNat_Int, nth_reps, pur_reps, Try.f58]
    exact fun i hi => absurd hi (by omega)
  · rintro k ρ st hk ⟨h5, h3, rfl⟩
    by_cases hlt : k < l.length
    · by_cases he : l.getD k 0 = n
      · have hm : decide (n ∈ l) = true := decide_eq_true (at_mem hlt he)
        rw [hm] at hr; subst hr
        simp +contextual (maxSteps := 4000000) only [↓ur_skip, ↓ur_seq, ↓ur_block, ↓ur_ret, ↓ur_region, ↓ur_cond, ↓cont_seq, ↓done_nil, ↓done_seq, ↓done_blk, ↓done_lp, ↓ops_consN, nY_move, nY_assign, nY_load, nY_binOp, nY_indexAddr, nY_callb, ↓ops_nil, opsIf_some, condC_true, Option.map_some, Option.bind_some, Option.getD_some, Nat.reduceLT, Bool.false_eq_true, ↓upd_same, ↓upd_ne, Nat.reduceBEq, and_true, List.getD_cons_zero, List.getD_cons_succ, List.getElem?_cons_zero, endQ, cfg_P, cfg_frz, List.length_map, ↓havoc_in, ↓havoc_out, List.contains_cons, List.contains_nil, Bool.or_false, Bool.or_true, Int.natCast_nonneg, Int.ofNat_lt, Int.toNat_natCast, nth_int, decide_true, Option.some.injEq, exists_eq_left', Nat.lt_succ_self, st0, cells_int, DRx_bool, ↓ev_tmp, ↓ev_bool, ↓iop_move, ↓iop_assign, ↓iop_load, ↓iop_binOp, ↓iop_indexAddr, idxA_int, ↓iop_callb, bi_len, lenM_none, pickP_f, loadP_vptr, indexP_lits, lenP_lits, b_eql, b_lss, env0_eq, ires_eq, iresL_1, iresAll_nil, iresAll_cons, iresOne_tmp, ↓reduceIte, ↓evs_cons, ↓evs_nil, beq_self_eq_true, see_eq, nth_reps, pur_reps, Try.f58, ty3, ty25, h5, hlt, he]
      · simp +contextual (maxSteps := 4000000) only [↓ur_skip, ↓ur_seq, ↓ur_block, ↓ur_region, ↓ur_cond, ↓cont_seq, ↓cont_blk, ↓cont_lp, ↓ops_consN, nY_move, nY_assign, nY_load, nY_binOp, nY_indexAddr, nY_callb, ↓ops_nil, opsIf_some, condC_true, condC_false, Option.map_some, Option.bind_some, Option.getD_some, Nat.reduceLT, Bool.false_eq_true, ↓upd_same, ↓upd_ne, Nat.reduceBEq, true_and, and_true, List.getD_cons_zero, List.getD_cons_succ, List.getElem?_cons_zero, cfg_P, cfg_frz, List.length_map, ↓havoc_in, ↓havoc_out, agree_upd, agree_havoc, List.contains_cons, List.contains_nil, Bool.or_false, Bool.or_true, Int.natCast_nonneg, Int.ofNat_lt, Int.toNat_natCast, nth_int, decide_true, decide_false, PV.int.injEq, Nat.lt_succ_self, st0, cells_int, ↓ev_tmp, ↓ev_int, ↓iop_move, ↓iop_assign, ↓iop_load, ↓iop_binOp, ↓iop_indexAddr, idxA_int, ↓iop_callb, bi_len, lenM_none, pickP_f, loadP_vptr, indexP_lits, lenP_lits, b_add, b_eql, b_lss, env0_eq, ↓reduceIte, ne_eq, ↓evs_cons, ↓evs_nil, beq_self_eq_true, see_eq, nth_reps, pur_reps, Try.f58, ty3, ty25, h5, hlt, he]
        refine ⟨by rw [wrap64 (by omega) (by omega)]; rfl, fun i hi => ?_⟩
        by_cases e : i = k
        · subst e; exact he
        · exact h3 i (by omega)
    · have hm : decide (n ∈ l) = false := decide_eq_false (not_upto fun i hi => h3 i (by omega))
      rw [hm] at hr; subst hr
      simp +contextual (maxSteps := 4000000) only [↓ur_seq, ↓ur_exit, ↓ur_ret, ↓ur_region, ↓ur_cond, ↓cont_seq, ↓leave_seq, ↓leave_blk, ↓leave_lp, ↓done_nil, ↓ops_consN, nY_move, nY_assign, nY_binOp, nY_callb, ↓ops_nil, opsIf_some, condC_false, Option.map_some, Option.bind_some, Option.getD_some, Nat.reduceLT, ↓upd_same, ↓upd_ne, Nat.reduceBEq, and_true, List.getD_cons_zero, endQ, cfg_P, List.length_map, ↓havoc_in, ↓havoc_out, List.contains_cons, List.contains_nil, Bool.or_false, Bool.or_true, Int.ofNat_lt, decide_false, Option.some.injEq, exists_eq_left', Nat.lt_succ_self, st0, DRx_bool, ↓ev_tmp, ↓ev_bool, ↓iop_move, ↓iop_assign, ↓iop_binOp, ↓iop_callb, bi_len, lenM_none, lenP_lits, b_lss, env0_eq, ires_eq, iresL_1, iresAll_nil, iresAll_cons, iresOne_tmp, ↓reduceIte, ↓evs_cons, ↓evs_nil, beq_self_eq_true, nth_reps, pur_reps, Try.f58, ty25, h5, hlt]
theorem o_rhas : O_rhas := k_rhas c_rhas
def reM (o : Option IObj) (st : Store) (k z : Nat) (l : List PV) (n : Nat) : Option (PV × Store) :=
  match o with
  | some (.arr g _ _) => some (.ref (k - 1) (g + 1) 0 n, st.set (k - 1) (.arr (g + 1) z l))
  | _ => none
def rePM (o : Option IObj) (st : Store) (k z : Nat) (e : PV) : Option (PV × Store) :=
  match o with
  | some (.arr g _ _) => some (.ptr (k - 1) (g + 1) 0 0, st.set (k - 1) (.arr (g + 1) z [e]))
  | _ => none
theorem re_arr' {st : Store} {k z n : Nat} {l : List PV} : st.re k z l n = reM (st.obj (k - 1)) st k z l n := nrfl rfl
theorem reP_arr' {st : Store} {k z : Nat} {e : PV} : st.reP k z e = rePM (st.obj (k - 1)) st k z e := nrfl rfl
theorem reM_arr {st : Store} {k z n g z0 : Nat} {l es : List PV} : reM (some (.arr g z0 es)) st k z l n = some (.ref (k - 1) (g + 1) 0 n, st.set (k - 1) (.arr (g + 1) z l)) := nrfl rfl
theorem rePM_arr {st : Store} {k z g z0 : Nat} {e : PV} {es : List PV} : rePM (some (.arr g z0 es)) st k z e = some (.ptr (k - 1) (g + 1) 0 0, st.set (k - 1) (.arr (g + 1) z [e])) := nrfl rfl
class Fuel where
  m : Nat
section
variable [Fuel]
noncomputable def A_rbest : (Int) × (List Rep) × (List Int) → List PV := fun (st, rs, o) => [.agg [I st, reps rs], ints o]
noncomputable def R_rbest : (Int) × (List Rep) × (List Int) → PV := fun (st, rs, o) => .agg [ints (refB st rs (rs.length - o.length) o).1, I (refB st rs (rs.length - o.length) o).2]
def H_rbest : (Int) × (List Rep) × (List Int) → Prop := fun (st, rs, o) => rs.length ≤ 10 ∧ o.length ≤ rs.length ∧ rs.length - o.length < Fuel.m
noncomputable def e_rbest : Nat × Ent := (50, .v (specOf A_rbest R_rbest H_rbest))
theorem j_rbest : ∀ i j, A_rbest i = A_rbest j → i = j := by
  rintro ⟨st₁, rs₁, o₁⟩ ⟨st₂, rs₂, o₂⟩ h
  simp only [A_rbest, List.cons.injEq, and_true, PV.lits.injEq, PV.int.injEq, PV.bool.injEq, PV.str.injEq, PV.agg.injEq, PV.func.injEq, PV.vptr.injEq, true_and, List.map_nil, inj_ints, inj_strs, inj_reps] at h
  simp [Prod.ext_iff, h] <;> omega
theorem s_rbest (st : Int) (rs : List Rep) (o : List Int) : specOf A_rbest R_rbest H_rbest [.agg [I st, reps rs], ints o] = @ite (Option (PV)) (rs.length ≤ 10 ∧ o.length ≤ rs.length ∧ rs.length - o.length < Fuel.m) (Classical.propDecidable _) (some (.agg [ints (refB st rs (rs.length - o.length) o).1, I (refB st rs (rs.length - o.length) o).2])) none := specOf_if j_rbest (st, rs, o)
def C_rbest : Prop := ∀ (st : Int) (rs : List Rep) (o : List Int) (h : rs.length ≤ 10 ∧ o.length ≤ rs.length ∧ rs.length - o.length < Fuel.m) , VC Try.prog 50 [.agg [I st, reps rs], ints o] (.agg [ints (refB st rs (rs.length - o.length) o).1, I (refB st rs (rs.length - o.length) o).2])
def O_rbest : Prop := EntOK Try.prog e_rbest.1 e_rbest.2
theorem k_rbest (c : C_rbest) : O_rbest := specOf_ok fun ⟨st, rs, o⟩ h => c st rs o h
theorem x_rbest (o_rbest : O_rbest) (st : Int) (rs : List Rep) (o : List Int) (h : rs.length ≤ 10 ∧ o.length ≤ rs.length ∧ rs.length - o.length < Fuel.m + 1) :
    VC Try.prog 50 [.agg [I st, reps rs], ints o] (.agg [ints (refB st rs (rs.length - o.length) o).1, I (refB st rs (rs.length - o.length) o).2]) := by
  obtain ⟨h10, hol, hm⟩ := h
  refine vc_ofR mixed (l := [e_rFin, e_rCost, e_rhas, e_rbest]) ((eok_cons o_rFin (eok_cons o_rCost (eok_cons o_rhas (eok_cons o_rbest eok_nil))))) [41, 47] [40, 47, 100041, 100043, 100046, 100047, 200010] 2 Try.func50 rfl (by decide +kernel) (N := 70) rfl (by simp) rfl (by kernel_rfl) fun hs => ?_
  simp only [smallL, PV.small, List.length_map, and_true, true_and] at hs
  by_cases hn : o.length = rs.length
  · have hd : rs.length - o.length = 0 := by omega
    rw [hd]
    generalize hr : refB st rs 0 o = r
    simp only [refB] at hr
    by_cases hf : (finM st rs o).2 = 0
    · rw [if_neg (fun hn => hn hf)] at hr
      subst hr
      simp +contextual (maxSteps := 4000000) only [↓ur_skip, ↓ur_seq, ↓ur_ret, ↓ur_region, ↓ur_cond, ↓cont_seq, ↓done_nil, ↓done_seq, ↓ops_consN, nY_move, nY_alloc, nY_box, nY_build, nY_load, nY_store, nY_binOp, nY_fieldAddr, nY_callf, nY_callb, ↓ops_nil, opsIf_some, opsIf_none, condC_true, condC_false, Option.map_some, Option.bind_some, Option.getD_some, Nat.reduceLT, Bool.false_eq_true, ↓upd_same, ↓upd_ne, Nat.reduceBEq, and_true, List.getD_cons_zero, List.getD_cons_succ, List.getElem?_cons_zero, List.getElem?_cons_succ, endQ, cfg_P, cfg_tab, cfg_muts, cfg_frz, cfg_num, numOf_eq, List.length_map, List.contains_cons, List.contains_nil, Bool.or_false, decide_true, decide_false, Option.some.injEq, exists_eq_left', List.lookup_cons, List.lookup_nil, tabOf_cons, tab_v, pur_ints, Bool.and_self, List.cons_append, List.nil_append, List.append_nil, updO_same, updO_ne, List.length_cons, List.length_nil, Nat.zero_add, List.drop_zero, List.take_zero, Nat.reduceAdd, List.set_cons_zero, Nat.reduceLeDiff, nth_zero, Nat.lt_succ_self, not_true_eq_false, Nat.le_refl, pur_int, isCell_int, cells_lits, pur_lits, isCell_lits, cells_agg, pur_agg, DRx_int, DRx_lits, DRx_agg, DRxL_cons, DRxL_nil, ↓ev_tmp, ↓ev_int, ↓ev_func, ↓iop_move, ↓iop_alloc, ↓iop_box, ↓iop_build, ↓iop_load, ↓iop_store, ↓iop_binOp, ↓iop_fieldAddr, ↓iop_callv, ↓iop_callb, nrmAll_cons, nrmAll_nil, bi_len, lenM_none, nrm_agg, nrmL_cons, nrmL_nil, nrm_lits, nrm1_int, nrm1_lits, pickP_f, pickP_t, loadP_vptr, loadP_ptr, setCells_agg, storeP_ptr, fieldP_vptr, fieldP_ptr, lenP_lits, b_eql, b_neq, fill_nil, fill_cons, fill1_some, buildP_eq, bldA_none, splice_eq, env0_eq, ires_eq, iresL_1, iresAll_nil, iresAll_cons, iresOne_cell, valT_eq, pursL_cons, pursL_nil, Store.new, Store.set, ↓reduceIte, arr_eq, arrB_some, callP_eq, boxP_eq, List.take_succ_cons, List.drop_succ_cons, List.drop_nil, List.take_nil, ↓evs_cons, ↓evs_nil, ↓evp_cons, ↓evp_nil, beq_self_eq_true, List.all_cons, List.all_nil, see_eq, and_false, Bool.true_eq_false, e_rFin, s_rFin, e_rCost, e_rhas, e_rbest, nth_reps, pur_reps, Try.f50, ty22, ty24, ty25, ty28, ty32, hn, hf]
    · rw [if_pos hf] at hr
      subst hr
      simp +contextual (maxSteps := 4000000) only [↓ur_seq, ↓ur_ret, ↓ur_region, ↓ur_cond, ↓cont_seq, ↓done_nil, ↓done_seq, ↓ops_consN, nY_move, nY_alloc, nY_box, nY_build, nY_load, nY_store, nY_binOp, nY_fieldAddr, nY_callf, nY_callb, ↓ops_nil, opsIf_some, opsIf_none, condC_true, Option.map_some, Option.bind_some, Option.getD_some, Nat.reduceLT, Bool.false_eq_true, ↓upd_same, ↓upd_ne, Nat.reduceBEq, and_true, List.getD_cons_zero, List.getD_cons_succ, List.getElem?_cons_zero, List.getElem?_cons_succ, endQ, cfg_P, cfg_tab, cfg_muts, cfg_frz, cfg_num, numOf_eq, List.map_nil, List.length_map, List.contains_cons, List.contains_nil, Bool.or_false, decide_true, Option.some.injEq, exists_eq_left', List.lookup_cons, List.lookup_nil, tabOf_cons, tab_v, pur_ints, Bool.and_self, List.cons_append, List.nil_append, List.append_nil, updO_same, updO_ne, List.length_cons, List.length_nil, Nat.zero_add, List.drop_zero, List.take_zero, Nat.reduceAdd, List.set_cons_zero, nth_zero, Nat.lt_succ_self, not_false_eq_true, Nat.le_refl, cells_int, pur_int, isCell_int, pur_lits, isCell_lits, cells_agg, pur_agg, DRx_int, DRx_nils_lits, DRx_agg, DRxL_cons, DRxL_nil, ↓ev_tmp, ↓ev_int, ↓ev_func, ↓iop_move, ↓iop_alloc, ↓iop_box, ↓iop_build, ↓iop_load, ↓iop_store, ↓iop_binOp, ↓iop_fieldAddr, ↓iop_callv, ↓iop_callb, nrmAll_cons, nrmAll_nil, bi_len, lenM_none, nrm_agg, nrmL_cons, nrmL_nil, nrm_lits, nrm1_int, nrm1_lits, pickP_f, pickP_t, loadP_vptr, loadP_ptr, setCells_agg, storeP_ptr, fieldP_vptr, fieldP_ptr, lenP_lits, b_eql, b_neq, fill_nil, fill_cons, fill1_some, buildP_eq, bldA_none, splice_eq, env0_eq, ires_eq, iresL_1, iresAll_nil, iresAll_cons, iresOne_cell, valT_eq, pursL_cons, pursL_nil, Store.new, Store.set, ↓reduceIte, arr_eq, arrB_some, callP_eq, boxP_eq, List.take_succ_cons, List.drop_succ_cons, List.drop_nil, List.take_nil, ↓evs_cons, ↓evs_nil, ↓evp_cons, ↓evp_nil, beq_self_eq_true, List.all_cons, List.all_nil, see_eq, and_false, Bool.true_eq_false, e_rFin, s_rFin, e_rCost, e_rhas, e_rbest, nth_reps, pur_reps, Try.f50, ty22, ty24, ty25, ty28, ty32, hn, hf]
  obtain ⟨d, hd⟩ : ∃ d, rs.length - o.length = d + 1 := ⟨rs.length - o.length - 1, by omega⟩
  rw [hd]
  generalize hr : refB st rs (d + 1) o = r
  simp only [refB] at hr
  have hd1 : rs.length - (o.length + 1) = d := by omega
  have hd2 : d < Fuel.m := by omega
  have ho1 : o.length + 1 ≤ rs.length := by omega
  have hw : ∀ i : Nat, i < rs.length → IntKind.i64.wrap ((i : Int) + 1) = ((i + 1 : Nat) : Int) := fun i g => by rw [wrap64 (by omega) (by omega)]; omega
  simp +contextual (maxSteps := 4000000) only [↓ur_skip, ↓ur_seq, ↓ur_block, ↓ur_region, ↓ur_cond, ↓cont_seq, ↓ops_consN, nY_move, nY_assign, nY_alloc, nY_box, nY_build, nY_load, nY_store, nY_binOp, nY_fieldAddr, nY_callb, ↓ops_nil, opsIf_some, opsIf_none, condC_false, Option.map_some, Option.bind_some, Option.getD_some, Nat.reduceLT, Bool.false_eq_true, ↓upd_same, ↓upd_ne, Nat.reduceBEq, true_and, and_true, List.getD_cons_zero, List.getD_cons_succ, List.getElem?_cons_zero, List.getElem?_cons_succ, cfg_P, cfg_muts, cfg_frz, cfg_num, numOf_eq, List.length_map, List.contains_cons, List.contains_nil, Bool.or_false, decide_false, List.cons_append, List.nil_append, List.append_nil, updO_same, List.length_cons, List.length_nil, Nat.zero_add, List.take_zero, Nat.reduceAdd, List.set_cons_zero, nth_zero, Nat.lt_succ_self, Nat.le_refl, cells_int, cells_agg, ↓ev_tmp, ↓ev_int, ↓iop_move, ↓iop_assign, ↓iop_alloc, ↓iop_box, ↓iop_build, ↓iop_load, ↓iop_store, ↓iop_binOp, ↓iop_fieldAddr, ↓iop_callb, bi_len, lenM_none, pickP_f, loadP_vptr, setCells_agg, storeP_ptr, fieldP_vptr, lenP_lits, b_eql, fill_nil, fill_cons, fill1_some, buildP_eq, bldA_none, splice_eq, env0_eq, Store.new, Store.set, ↓reduceIte, arr_eq, arrB_some, boxP_eq, Int.natCast_inj, List.take_succ_cons, List.drop_succ_cons, List.drop_nil, ↓evs_cons, ↓evs_nil, ↓evp_cons, ↓evp_nil, see_eq, e_rFin, e_rCost, e_rhas, e_rbest, nth_reps, pur_reps, Try.f50, ty22, ty24, ty25, ty32, hn]
  generalize hf : refB st rs d = f at hr
  refine loop_cnt [7, 8, 9, 10, 11, 28, 29, 30, 31, 32, 33, 34, 35, 36, 37, 38, 39, 40, 41, 42, 43, 44, 45, 46, 47, 48, 49, 50, 51, 52, 53, 54, 55, 56, 57, 58, 59, 60, 61, 62, 63, 64, 65, 66, 67, 68] rs.length (fun k ρ st' => ρ 7 = I (refL st rs f o k).2 ∧ ρ 8 = I k ∧ (∃ g z es, st'.obj 0 = some (.arr g z es)) ∧ (∃ g z es, st'.obj 1 = some (.arr g z es)) ∧ st'.obj 2 = some (.arr 0 2 [.agg [.nils, I 0]]) ∧ (∃ p, st'.obj 3 = some (.arr 0 2 [.agg [p, I (refL st rs f o k).1.2]]) ∧ (p = ints (refL st rs f o k).1.1 ∨ (p = .nils ∧ (refL st rs f o k).1.1 = []))) ∧ 3 < st'.next) (.refl _) ?_ ?_
  · simp +contextual (maxSteps := 4000000) only [Nat.reduceLT, ↓upd_same, ↓upd_ne, Nat.reduceBEq, true_and, and_true, Option.some.injEq, PV.int.injEq, PV.agg.injEq, List.cons.injEq, updO_same, updO_ne, IObj.arr.injEq, Nat.lt_succ_self, ↓reduceIte, Int.cast_ofNat_Int, nth_reps, pur_reps, Try.f50]
    exact ⟨rfl, ⟨0, 1, [], rfl, rfl, rfl⟩, ⟨0, 1, [], rfl, rfl, rfl⟩, ⟨.nils, ⟨rfl, rfl⟩, .inr ⟨rfl, rfl⟩⟩⟩
  · rintro k ρ ⟨ob, M⟩ hk ⟨h7, h8, ⟨g0, z0, es0, h0⟩, ⟨g1, z1, es1, h1⟩, h2, ⟨p, h3, hp⟩, hM⟩
    dsimp only at h0 h1 h2 h3 hM
    have n0 : ¬ 0 = M := by omega
    have n1 : ¬ 1 = M := by omega
    have n2 : ¬ 2 = M := by omega
    have n3 : ¬ 3 = M := by omega
    have m0 : ¬ M = 0 := by omega
    have m1 : ¬ M = 1 := by omega
    have m2 : ¬ M = 2 := by omega
    have m3 : ¬ M = 3 := by omega
    have e11 : 1 - 1 = 0 := rfl
    have e21 : 2 - 1 = 1 := rfl
    by_cases hlt : k < rs.length
    · by_cases hin : (k : Int) ∈ o
      · have hl : refL st rs f o (k + 1) = refL st rs f o k := by simp only [refL, if_pos hin]
        simp +contextual (maxSteps := 4000000) only [↓ur_skip, ↓ur_seq, ↓ur_block, ↓ur_region, ↓ur_cond, ↓cont_seq, ↓cont_blk, ↓cont_lp, ↓ops_consN, nY_move, nY_assign, nY_load, nY_binOp, nY_unOp, nY_fieldAddr, nY_callf, nY_callb, ↓ops_nil, opsIf_some, condC_true, condC_false, Option.map_some, Option.bind_some, Option.getD_some, Nat.reduceLT, Bool.false_eq_true, ↓upd_same, ↓upd_ne, Nat.reduceBEq, true_and, and_true, List.getD_cons_zero, List.getD_cons_succ, List.getElem?_cons_zero, List.getElem?_cons_succ, cfg_P, cfg_tab, cfg_muts, cfg_frz, List.length_map, ↓havoc_in, ↓havoc_out, agree_upd, agree_havoc, List.contains_cons, List.contains_nil, Bool.or_false, Bool.or_true, Int.ofNat_lt, decide_true, Option.some.injEq, exists_eq_left', PV.int.injEq, PV.agg.injEq, List.cons.injEq, tabOf_cons, tab_v, pur_ints, Bool.and_self, Nat.reduceEqDiff, List.nil_append, List.append_nil, Nat.zero_add, IObj.arr.injEq, Nat.lt_succ_self, Bool.not_true, pur_int, pur_lits, ↓ev_tmp, ↓ev_int, ↓ev_func, ↓iop_move, ↓iop_assign, ↓iop_load, ↓iop_binOp, ↓iop_unOp, ↓iop_fieldAddr, ↓iop_callv, ↓iop_callb, nrmAll_cons, nrmAll_nil, bi_len, lenM_none, nrm_int, nrm_lits, pickP_f, loadP_vptr, fieldP_vptr, lenP_lits, b_add, b_lss, u_not, env0_eq, valT_eq, pursL_cons, pursL_nil, ↓reduceIte, callP_eq, ↓evs_cons, ↓evs_nil, beq_self_eq_true, see_eq, and_false, Bool.true_eq_false, s_rhas, nth_reps, pur_reps, Try.f50, ty3, ty22, ty24, ty25, h7, h8, h0, h1, h2, h3, n0, n1, n2, n3, m0, m1, m2, m3, hlt, hin, hl]
        exact ⟨hw k hlt, ⟨_, _, _, rfl, rfl, rfl⟩, ⟨_, _, _, rfl, rfl, rfl⟩, hp, hM⟩
      · have hl : refL st rs f o (k + 1) = if (f (o ++ [(k : Int)])).2 = 0 ∧ ((refL st rs f o k).1.2 ≠ 0 ∨ (costM st rs (f (o ++ [(k : Int)])).1).1 < (refL st rs f o k).2) then (f (o ++ [(k : Int)]), (costM st rs (f (o ++ [(k : Int)])).1).1) else refL st rs f o k := by simp only [refL, if_neg hin]
        generalize refL st rs f o k = a at *
        have hmap : List.map (PV.int .i64) o ++ [I k] = List.map (PV.int .i64) (o ++ [(k : Int)]) := by simp
        have htk : List.take (o.length + 1) (List.map (PV.int .i64) (o ++ [(k : Int)])) = List.map (PV.int .i64) (o ++ [(k : Int)]) := List.take_of_length_le (by simp)
        rcases hp with rfl | ⟨rfl, hp⟩
        · simp +contextual (maxSteps := 4000000) only [↓ur_skip, ↓ur_seq, ↓ur_block, ↓ur_region, ↓ur_cond, Nat.one_ne_zero, ↓cont_seq, ↓cont_blk, ↓cont_lp, ↓ops_consN, ↓ops_guardN, nY_move, nY_assign, nY_pick, nY_alloc, nY_buildSlice, nY_load, nY_store, nY_binOp, nY_unOp, nY_fieldAddr, nY_callf, nY_callb, ↓ops_nil, opsIf_some, opsIf_none, opsIf_if, condC_true, condC_false, guardC_u, guardC_tt, guardC_tf, guardC_ft, guardC_ff, Option.map_some, Option.bind_some, Option.getD_some, Nat.reduceLT, Bool.false_eq_true, ↓upd_same, ↓upd_ne, Nat.reduceBEq, true_and, and_true, List.getD_cons_zero, List.getD_cons_succ, List.getElem?_toArray, List.getElem?_cons_zero, List.getElem?_cons_succ, cfg_P, cfg_tab, cfg_muts, cfg_frz, cfg_num, numOf_eq, List.length_map, ↓havoc_in, ↓havoc_out, agree_upd, agree_havoc, List.contains_cons, List.contains_nil, Bool.or_false, Bool.or_true, Int.ofNat_lt, decide_true, decide_false, Option.some.injEq, PV.int.injEq, PV.agg.injEq, List.cons.injEq, List.lookup_cons, List.lookup_nil, tabOf_cons, tab_v, pur_ints, Bool.and_self, Nat.reduceEqDiff, List.nil_append, List.append_nil, updO_same, updO_ne, List.length_append, List.length_cons, List.length_nil, Nat.zero_add, Nat.add_zero, List.drop_zero, List.take_zero, Nat.not_succ_le_self, Nat.reduceAdd, List.replicate_succ, List.replicate_zero, List.set_cons_zero, Nat.reduceMul, Nat.reduceLeDiff, nth_zero, IObj.arr.injEq, Nat.lt_succ_self, Bool.not_false, not_true_eq_false, not_false_eq_true, take_map_len, or_false, Nat.le_refl, Classical.not_not, cells_int, pur_int, rdC_int, isCell_int, pur_lits, rdC_lits, isCell_lits, rdP_ref, cells_agg, pur_agg, rdP_agg, ↓ev_tmp, ↓ev_int, ↓ev_bool, ↓ev_func, ↓guardP_eq, grd_some, ↓iop_move, ↓iop_assign, ↓pick3_bool, ↓iop_pick, ↓iop_alloc, ↓iop_buildSlice, ↓iop_load, ↓iop_store, ↓iop_binOp, ↓iop_unOp, ↓iop_fieldAddr, ↓iop_callv, ↓iop_callb, nrmAll_cons, nrmAll_nil, bi_len, lenM_none, bi_append_re, appGuard_lits, nrm_agg, nrmL_cons, nrmL_nil, nrm_int, nrm_lits, nrm_ref, nrm1_int, nrm1_lits, pickP_f, pickP_t, loadP_vptr, loadP_ptr, setCells_agg, storeP_ptr, fieldP_vptr, fieldP_ptr, lenP_lits, elemsP_lits, appendP_ref, b_add, b_eql, b_neq, b_lss, u_not, bel_nil, bel_cons, splice_eq, env0_eq, frzL_eq, again_eq, againO_arr, rdAll_cons, rdAll_nil, rdL_cons, rdL_nil, valT_eq, pursL_cons, pursL_nil, Store.new, Store.set, ↓reduceIte, arr_eq, arrB_some, callP_eq, bslP_eq, beq_eq_false_iff_ne, ne_eq, opsIf_ite, List.take_succ_cons, List.drop_succ_cons, List.drop_nil, List.take_nil, guardC_td, guardC_fd, condC_d, ↓evs_cons, ↓evs_nil, ↓evp_cons, ↓evp_nil, only_obj, idsOf_cons, idsOf_nil, idC_ref, idC_agg, idL_cons, idL_nil, idE_int, idE_lits, beq_self_eq_true, List.all_cons, List.all_nil, see_eq, and_false, Bool.true_eq_false, s_rCost, s_rhas, s_rbest, nth_reps, pur_reps, Try.f50, ty3, ty22, ty24, ty25, ty28, ty32, ty39, h7, h8, h0, h1, h2, h3, n0, n1, n2, n3, m0, m1, m2, m3, hlt, hin, e11, e21, re_arr', reP_arr', reM_arr, rePM_arr, iop_alloc_re, hmap, htk, hd1, hd2, ho1, h10, hf]
          refine ⟨by omega, fun _ => ⟨by omega, ?_⟩, fun _ => ⟨by omega, ?_⟩⟩
          all_goals
            rw [hl, hw k hlt]
            generalize f (o ++ [(k : Int)]) = x at *
            refine ⟨fun hx => ⟨fun ha => ⟨fun hc => ?_, fun hc => ?_⟩, fun ha => ?_⟩, fun hx => ?_⟩
            · rw [if_pos ⟨hx, .inr hc⟩]; exact ⟨rfl, rfl, ⟨_, _, _, rfl, rfl, rfl⟩, ⟨_, _, _, rfl, rfl, rfl⟩, ⟨_, ⟨rfl, hx.symm⟩, .inl rfl⟩, by omega⟩
            · rw [if_neg (fun h => h.2.elim (fun h => h ha) hc)]; exact ⟨rfl, rfl, ⟨_, _, _, rfl, rfl, rfl⟩, ⟨_, _, _, rfl, rfl, rfl⟩, ⟨_, ⟨rfl, ha.symm⟩, .inl rfl⟩, by omega⟩
            · rw [if_pos ⟨hx, .inl ha⟩]; exact ⟨rfl, rfl, ⟨_, _, _, rfl, rfl, rfl⟩, ⟨_, _, _, rfl, rfl, rfl⟩, ⟨_, ⟨rfl, hx.symm⟩, .inl rfl⟩, by omega⟩
            · rw [if_neg (fun h => hx h.1)]; exact ⟨rfl, rfl, ⟨_, _, _, rfl, rfl, rfl⟩, ⟨_, _, _, rfl, rfl, rfl⟩, ⟨_, ⟨rfl, rfl⟩, .inl rfl⟩, by omega⟩
        · simp +contextual (maxSteps := 4000000) only [↓ur_skip, ↓ur_seq, ↓ur_block, ↓ur_region, ↓ur_cond, Nat.one_ne_zero, ↓cont_seq, ↓cont_blk, ↓cont_lp, ↓ops_consN, ↓ops_guardN, nY_move, nY_assign, nY_pick, nY_alloc, nY_buildSlice, nY_load, nY_store, nY_binOp, nY_unOp, nY_fieldAddr, nY_callf, nY_callb, ↓ops_nil, opsIf_some, opsIf_none, opsIf_if, condC_true, condC_false, guardC_u, guardC_tt, guardC_tf, guardC_ft, guardC_ff, Option.map_some, Option.bind_some, Option.getD_some, Nat.reduceLT, Bool.false_eq_true, ↓upd_same, ↓upd_ne, Nat.reduceBEq, true_and, and_true, List.getD_cons_zero, List.getD_cons_succ, List.getElem?_toArray, List.getElem?_cons_zero, List.getElem?_cons_succ, cfg_P, cfg_tab, cfg_muts, cfg_frz, cfg_num, numOf_eq, List.length_map, ↓havoc_in, ↓havoc_out, agree_upd, agree_havoc, List.contains_cons, List.contains_nil, Bool.or_false, Bool.or_true, Int.ofNat_lt, decide_true, decide_false, Option.some.injEq, PV.int.injEq, PV.agg.injEq, List.cons.injEq, List.lookup_cons, List.lookup_nil, tabOf_cons, tab_v, pur_ints, Bool.and_self, Nat.reduceEqDiff, List.nil_append, List.append_nil, updO_same, updO_ne, List.length_append, List.length_cons, List.length_nil, Nat.zero_add, Nat.add_zero, List.drop_zero, List.take_zero, Nat.not_succ_le_self, Nat.reduceAdd, List.replicate_succ, List.replicate_zero, List.set_cons_zero, Nat.reduceMul, Nat.reduceLeDiff, nth_zero, IObj.arr.injEq, Nat.lt_succ_self, Bool.not_false, not_true_eq_false, not_false_eq_true, take_map_len, or_false, Nat.le_refl, Classical.not_not, cells_int, pur_int, rdC_int, isCell_int, pur_lits, rdC_lits, isCell_lits, rdP_ref, cells_agg, pur_agg, rdP_agg, ↓ev_tmp, ↓ev_int, ↓ev_bool, ↓ev_func, ↓guardP_eq, grd_some, ↓iop_move, ↓iop_assign, ↓pick3_bool, ↓iop_pick, ↓iop_alloc, ↓iop_buildSlice, ↓iop_load, ↓iop_store, ↓iop_binOp, ↓iop_unOp, ↓iop_fieldAddr, ↓iop_callv, ↓iop_callb, nrmAll_cons, nrmAll_nil, bi_len, lenM_none, bi_append_re, appGuard_lits, nrm_agg, nrmL_cons, nrmL_nil, nrm_int, nrm_lits, nrm_ref, nrm1_int, nrm1_lits, pickP_f, pickP_t, loadP_vptr, loadP_ptr, setCells_agg, storeP_ptr, fieldP_vptr, fieldP_ptr, lenP_lits, elemsP_lits, appendP_ref, b_add, b_eql, b_neq, b_lss, u_not, bel_nil, bel_cons, splice_eq, env0_eq, frzL_eq, again_eq, againO_arr, rdAll_cons, rdAll_nil, rdL_cons, rdL_nil, valT_eq, pursL_cons, pursL_nil, Store.new, Store.set, ↓reduceIte, arr_eq, arrB_some, callP_eq, bslP_eq, beq_eq_false_iff_ne, ne_eq, opsIf_ite, List.take_succ_cons, List.drop_succ_cons, List.drop_nil, List.take_nil, guardC_td, guardC_fd, condC_d, ↓evs_cons, ↓evs_nil, ↓evp_cons, ↓evp_nil, only_obj, idsOf_cons, idsOf_nil, idC_ref, idC_agg, idL_cons, idL_nil, idE_int, idE_lits, beq_self_eq_true, List.all_cons, List.all_nil, see_eq, and_false, Bool.true_eq_false, s_rCost, s_rhas, s_rbest, nth_reps, pur_reps, Try.f50, ty3, ty22, ty24, ty25, ty28, ty32, ty39, h7, h8, h0, h1, h2, h3, n0, n1, n2, n3, m0, m1, m2, m3, hlt, hin, e11, e21, re_arr', reP_arr', reM_arr, rePM_arr, iop_alloc_re, hmap, htk, hd1, hd2, ho1, h10, hf]
          refine ⟨by omega, fun _ => ⟨by omega, ?_⟩, fun _ => ⟨by omega, ?_⟩⟩
          all_goals
            rw [hl, hw k hlt]
            generalize f (o ++ [(k : Int)]) = x at *
            refine ⟨fun hx => ⟨fun ha => ⟨fun hc => ?_, fun hc => ?_⟩, fun ha => ?_⟩, fun hx => ?_⟩
            · rw [if_pos ⟨hx, .inr hc⟩]; exact ⟨rfl, rfl, ⟨_, _, _, rfl, rfl, rfl⟩, ⟨_, _, _, rfl, rfl, rfl⟩, ⟨_, ⟨rfl, hx.symm⟩, .inl rfl⟩, by omega⟩
            · rw [if_neg (fun h => h.2.elim (fun h => h ha) hc)]; exact ⟨rfl, rfl, ⟨_, _, _, rfl, rfl, rfl⟩, ⟨_, _, _, rfl, rfl, rfl⟩, ⟨_, ⟨rfl, ha.symm⟩, .inr ⟨rfl, hp⟩⟩, by omega⟩
            · rw [if_pos ⟨hx, .inl ha⟩]; exact ⟨rfl, rfl, ⟨_, _, _, rfl, rfl, rfl⟩, ⟨_, _, _, rfl, rfl, rfl⟩, ⟨_, ⟨rfl, hx.symm⟩, .inl rfl⟩, by omega⟩
            · rw [if_neg (fun h => hx h.1)]; exact ⟨rfl, rfl, ⟨_, _, _, rfl, rfl, rfl⟩, ⟨_, _, _, rfl, rfl, rfl⟩, ⟨_, ⟨rfl, rfl⟩, .inr ⟨rfl, hp⟩⟩, by omega⟩
    · have e : k = rs.length := by omega
      subst e
      rw [hr] at hp
      rw [hr] at h3
      rcases hp with rfl | ⟨rfl, hp⟩
      · simp +contextual (maxSteps := 4000000) only [↓ur_seq, ↓ur_exit, ↓ur_ret, ↓ur_region, ↓ur_cond, ↓cont_seq, ↓leave_seq, ↓leave_blk, ↓leave_lp, ↓done_nil, ↓ops_consN, nY_move, nY_load, nY_store, nY_binOp, nY_fieldAddr, nY_callb, ↓ops_nil, opsIf_some, opsIf_none, condC_false, Option.map_some, Option.bind_some, Option.getD_some, Nat.reduceLT, Bool.false_eq_true, ↓upd_same, ↓upd_ne, Nat.reduceBEq, and_true, List.getElem?_cons_zero, List.getElem?_cons_succ, endQ, cfg_P, cfg_frz, List.length_map, ↓havoc_in, ↓havoc_out, List.contains_cons, List.contains_nil, Bool.or_false, Bool.or_true, Int.ofNat_lt, decide_false, Option.some.injEq, exists_eq_left', pur_ints, Bool.and_self, List.nil_append, List.append_nil, updO_same, List.length_cons, List.length_nil, Nat.zero_add, List.drop_zero, List.take_zero, Nat.reduceAdd, List.set_cons_zero, nth_zero, Nat.lt_irrefl, Nat.lt_succ_self, Nat.le_refl, isCell_int, isCell_lits, cells_agg, DRx_int, DRx_lits, DRx_agg, DRxL_cons, DRxL_nil, ↓ev_tmp, ↓iop_move, ↓iop_load, ↓iop_store, ↓iop_binOp, ↓iop_fieldAddr, ↓iop_callb, bi_len, lenM_none, pickP_f, pickP_t, loadP_vptr, loadP_ptr, setCells_agg, storeP_ptr, fieldP_vptr, lenP_lits, b_lss, splice_eq, ires_eq, iresL_1, iresAll_nil, iresAll_cons, iresOne_cell, Store.set, ↓reduceIte, arr_eq, arrB_some, List.take_succ_cons, List.drop_succ_cons, List.drop_nil, List.take_nil, ↓evs_cons, ↓evs_nil, beq_self_eq_true, List.all_cons, List.all_nil, see_eq, nth_reps, pur_reps, Try.f50, ty22, ty24, ty32, h7, h8, h0, h1, h2, h3, n0, n1, n2, n3, m0, m1, m2, m3]
      · simp +contextual (maxSteps := 4000000) only [↓ur_seq, ↓ur_exit, ↓ur_ret, ↓ur_region, ↓ur_cond, ↓cont_seq, ↓leave_seq, ↓leave_blk, ↓leave_lp, ↓done_nil, ↓ops_consN, nY_move, nY_load, nY_store, nY_binOp, nY_fieldAddr, nY_callb, ↓ops_nil, opsIf_some, opsIf_none, condC_false, Option.map_some, Option.bind_some, Option.getD_some, Nat.reduceLT, Bool.false_eq_true, ↓upd_same, ↓upd_ne, Nat.reduceBEq, and_true, List.getElem?_cons_zero, List.getElem?_cons_succ, endQ, cfg_P, cfg_frz, List.map_nil, List.length_map, ↓havoc_in, ↓havoc_out, List.contains_cons, List.contains_nil, Bool.or_false, Bool.or_true, Int.ofNat_lt, decide_false, Option.some.injEq, exists_eq_left', Bool.and_self, List.nil_append, List.append_nil, updO_same, List.length_cons, List.length_nil, Nat.zero_add, List.drop_zero, List.take_zero, Nat.reduceAdd, List.set_cons_zero, nth_zero, Nat.lt_irrefl, Nat.lt_succ_self, Nat.le_refl, isCell_int, isCell_lits, cells_agg, DRx_int, DRx_nils_lits, DRx_agg, DRxL_cons, DRxL_nil, ↓ev_tmp, ↓iop_move, ↓iop_load, ↓iop_store, ↓iop_binOp, ↓iop_fieldAddr, ↓iop_callb, bi_len, lenM_none, pickP_f, pickP_t, loadP_vptr, loadP_ptr, setCells_agg, storeP_ptr, fieldP_vptr, lenP_lits, b_lss, splice_eq, ires_eq, iresL_1, iresAll_nil, iresAll_cons, iresOne_cell, Store.set, ↓reduceIte, arr_eq, arrB_some, List.take_succ_cons, List.drop_succ_cons, List.drop_nil, List.take_nil, ↓evs_cons, ↓evs_nil, beq_self_eq_true, List.all_cons, List.all_nil, see_eq, nth_reps, pur_reps, Try.f50, ty22, ty24, ty32, h7, h8, h0, h1, h2, h3, n0, n1, n2, n3, m0, m1, m2, m3, hp]
end
theorem c_rbest : ∀ m, @C_rbest ⟨m⟩
  | 0 => fun st rs o h => absurd h.2.2 (Nat.not_lt_zero _)
  | m + 1 => fun st rs o h => @x_rbest ⟨m⟩ (@k_rbest ⟨m⟩ (c_rbest m)) st rs o h
/-- As the package's inner function has it, with fuel enough. -/
theorem o_rbest11 : @O_rbest ⟨11⟩ := @k_rbest ⟨11⟩ (c_rbest 11)
end Sim
