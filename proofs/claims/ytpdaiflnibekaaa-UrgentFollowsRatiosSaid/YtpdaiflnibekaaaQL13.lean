/- What functions of this seat compute, by values: contracts (lemmas of the statement's proof, under the conditions that each names). -/
import Derived.Test.YtpdaiflnibekaaaQX
import Derived.Test.YtpdaiflnibekaaaQY6
namespace Sim
open Go Go.Proofs
set_option maxRecDepth 10000
set_option maxHeartbeats 2000000
set_option linter.unusedVariables false
set_option linter.unusedSimpArgs false
attribute [local congr] opsIf_congr condC_congr guardC_congr grd_congr pick3_congr obind_congr omap_congr
theorem ins_list {α : Type} {l : List α} {x : α} {p : Nat} (hp : p ≤ l.length) : ((l ++ [x]).take (p + 1) ++ ((l ++ [x]).drop p).take (l.length - p) ++ (l ++ [x]).drop (p + 1 + (l.length - p))).set p x = l.take p ++ x :: l.drop p := by
  have h1 : (l ++ [x]).drop (p + 1 + (l.length - p)) = [] := List.drop_of_length_le (by simp; omega)
  have h2 : ((l ++ [x]).drop p).take (l.length - p) = l.drop p := by
    rw [List.drop_append_of_le_length hp, List.take_append_of_le_length (by simp), List.take_of_length_le (by simp)]
  rw [h1, h2, List.append_nil]
  have h3 : ∃ y, (l ++ [x]).take (p + 1) = l.take p ++ [y] := by
    have hlt : p < (l ++ [x]).length := by simp; omega
    refine ⟨(l ++ [x])[p], ?_⟩
    rw [List.take_succ_eq_append_getElem hlt, List.take_append_of_le_length hp]
  obtain ⟨y, hy⟩ := h3
  rw [hy, List.append_assoc, List.set_append_right _ _ (by simp; omega)]
  simp [Nat.min_eq_left hp]
noncomputable def A_law13 : (Int) × (List Rep) → List PV := fun (st, rs) => [.agg [I st, reps rs]]
noncomputable def R_law13 : (Int) × (List Rep) → PV := fun (st, rs) => B true
def H_law13 : (Int) × (List Rep) → Prop := fun (st, rs) => True
noncomputable def e_law13 : Nat × Ent := (9, .v (specOf A_law13 R_law13 H_law13))
theorem j_law13 : ∀ i j, A_law13 i = A_law13 j → i = j := by
  rintro ⟨st₁, rs₁⟩ ⟨st₂, rs₂⟩ h
  simp only [A_law13, List.cons.injEq, and_true, PV.lits.injEq, PV.int.injEq, PV.bool.injEq, PV.str.injEq, PV.agg.injEq, PV.func.injEq, PV.vptr.injEq, true_and, List.map_nil, inj_ints, inj_strs, inj_reps] at h
  simp [Prod.ext_iff, h] <;> omega
theorem s_law13 (st : Int) (rs : List Rep) : specOf A_law13 R_law13 H_law13 [.agg [I st, reps rs]] = some (B true) := specOf_app j_law13 (i := (st, rs)) trivial
def C_law13 : Prop := ∀ (st : Int) (rs : List Rep) , VC Try.prog 9 [.agg [I st, reps rs]] (B true)
def O_law13 : Prop := EntOK Try.prog e_law13.1 e_law13.2
theorem k_law13 (c : C_law13) : O_law13 := specOf_ok fun ⟨st, rs⟩ h => c st rs
theorem c_law13 : C_law13 := by
  intro st rs
  refine vc_ofU mixed (l := [e_sanity, e_rcheck, e_rload, e_Best, e_Cost]) ((eok_cons o_sanity (eok_cons o_rcheck (eok_cons o_rload (eok_cons o_Best (eok_cons o_Cost eok_nil)))))) [] []  Try.func9 rfl (by decide +kernel) (N := 133) rfl (by simp) rfl (by kernel_rfl) fun hs => ?_
  simp only [smallL, PV.small, List.length_map, and_true, true_and] at hs
  by_cases h0 : checkM st rs = 0
  case neg =>
    generalize hr : checkM st rs = r at *
    simp +contextual (maxSteps := 4000000) only [↓ur_seq, ↓ur_ret, ↓ur_region, ↓ur_cond, ↓cont_seq, ↓done_nil, ↓done_seq, ↓ops_consN, nY_assign, nY_box, nY_load, nY_binOp, nY_callf, ↓ops_nil, opsIf_some, condC_true, Option.map_some, Option.bind_some, Option.getD_some, Nat.reduceLT, Bool.false_eq_true, ↓upd_same, ↓upd_ne, Nat.reduceBEq, and_true, List.getD_cons_zero, endQ, cfg_P, cfg_tab, cfg_muts, cfg_frz, List.contains_nil, decide_true, Option.some.injEq, exists_eq_left', List.lookup_cons, List.lookup_nil, tabOf_cons, tab_v, Bool.and_self, Nat.reduceEqDiff, List.nil_append, List.append_nil, List.length_cons, List.length_nil, Nat.zero_add, List.drop_zero, Nat.reduceAdd, not_false_eq_true, st0, Nat.le_refl, pur_int, pur_lits, cells_agg, pur_agg, DRx_bool, ↓ev_tmp, ↓ev_int, ↓ev_bool, ↓ev_func, ↓iop_assign, ↓iop_box, ↓iop_load, ↓iop_binOp, ↓iop_callv, nrmAll_cons, nrmAll_nil, nrm_agg, nrmL_cons, nrmL_nil, nrm1_int, nrm1_lits, pickP_t, loadP_vptr, b_neq, env0_eq, ires_eq, iresL_1, iresAll_nil, iresAll_cons, iresOne_tmp, valT_eq, pursL_cons, pursL_nil, ↓reduceIte, callP_eq, boxP_eq, List.take_succ_cons, List.take_nil, ↓evs_cons, ↓evs_nil, beq_self_eq_true, see_eq, and_false, Bool.true_eq_false, e_sanity, s_sanity, e_rcheck, s_rcheck, e_rload, e_Best, e_Cost, nth_reps, pur_reps, Try.f9, ty24, h0, hr]
  have hc := check_zero.1 h0
  have h10 := hc.len
  have hp := pow1024 (k := rs.length) h10
  have hp1 := one_le_pow rs.length
  have hsh := shl1 (k := rs.length) (by omega)
  have h64 : rs.length ≤ 64 := by omega
  have hw1 : IntKind.i64.wrap (((2 ^ rs.length : Nat) : Int) - 1) = ((2 ^ rs.length - 1 : Nat) : Int) := by
    generalize 2 ^ rs.length = q at *
    rw [wrap64 (by omega) (by omega)]; omega
  have hlo : 2 ^ rs.length - 1 < 9223372036854775808 := by omega
  have htk := hc.tk
  have hb := load_bound hc.tk (2 ^ rs.length - 1) rs.length (Nat.le_refl _)
  have hst := hc.start
  have hwa : IntKind.i64.wrap (st + loadM rs (2 ^ rs.length - 1)) = st + loadM rs (2 ^ rs.length - 1) := wrap64 (by unfold loadM; omega) (by unfold loadM; omega)
  have hw : ∀ i : Nat, i < rs.length → IntKind.i64.wrap ((i : Int) + 1) = ((i + 1 : Nat) : Int) := fun i g => by rw [wrap64 (by omega) (by omega)]; omega
  simp +contextual (maxSteps := 4000000) only [↓ur_skip, ↓ur_seq, ↓ur_block, ↓ur_region, ↓ur_cond, ↓cont_seq, ↓ops_consN, nY_move, nY_assign, nY_box, nY_load, nY_binOp, nY_fieldAddr, nY_callf, nY_callb, ↓ops_nil, opsIf_some, opsIf_if', map_if, condC_false, Option.map_some, Option.map_none, Option.bind_some, Option.getD_some, Nat.reduceLT, Bool.false_eq_true, ↓upd_same, ↓upd_ne, Nat.reduceBEq, true_and, and_true, List.getD_cons_zero, List.getElem?_cons_zero, List.getElem?_cons_succ, cfg_P, cfg_tab, cfg_muts, cfg_frz, List.length_map, List.contains_nil, Int.toNat_natCast, decide_false, List.lookup_cons, List.lookup_nil, tabOf_cons, tab_v, Bool.and_self, Nat.reduceEqDiff, List.nil_append, List.append_nil, List.length_cons, List.length_nil, Nat.zero_add, Nat.add_zero, List.drop_zero, Nat.reduceAdd, Nat.lt_succ_self, not_true_eq_false, st0, Nat.le_refl, pur_int, pur_lits, cells_agg, pur_agg, ↓ev_tmp, ↓ev_int, ↓ev_bool, ↓ev_nils, ↓ev_func, ↓iop_move, ↓iop_assign, ↓iop_box, ↓iop_load, ↓iop_binOp, ↓iop_fieldAddr, ↓iop_callv, ↓iop_callb, nrmAll_cons, nrmAll_nil, bi_len, lenM_none, nrm_agg, nrmL_cons, nrmL_nil, nrm_int, nrm1_int, nrm1_lits, pickP_f, pickP_t, loadP_vptr, fieldP_vptr, lenP_lits, b_add, b_sub, b_neq, b_shl, env0_eq, valT_eq, pursL_cons, pursL_nil, ↓reduceIte, callP_eq, boxP_eq, List.take_succ_cons, List.take_nil, ↓evs_cons, ↓evs_nil, beq_self_eq_true, see_eq, and_false, Bool.true_eq_false, bits_i64, Nat.min_def, e_sanity, e_rcheck, s_rcheck, e_rload, s_rload, e_Best, e_Cost, nth_reps, pur_reps, Try.f9, ty3, ty22, ty24, h0, h64, hsh, hw1, hlo, htk, hwa]
  refine ⟨by omega, ?_⟩
  refine loop_cnt [2, 4, 5, 6, 7, 31, 32, 33, 34, 35, 36, 37, 38, 39, 40, 41, 42, 43, 44, 45, 46, 47, 48, 49, 50, 51, 52, 53, 54, 55, 56, 57, 58, 59, 60, 61, 62, 63, 64, 65, 66, 67, 68, 69, 70, 71, 72, 73, 74, 75, 76, 77, 78, 79, 80, 81, 82, 83, 84, 85, 86, 87, 88, 89, 90, 91, 92, 93, 94, 95, 96, 97] rs.length (fun k ρ st' => ρ 31 = I k ∧ GS st' (ρ 4) 0 1 ((ordI (ordT rs k)).map (PV.int .i64)) ∧ 0 < st'.next ∧ ∀ i, i < k → ac rs i = 0 ∧ st + loadM rs (2 ^ rs.length - 1) ≤ du rs i) (.slot _ 4 1 ?_ ?_) ?_ ?_
  · simp +contextual (maxSteps := 4000000) only [↓upd_same, ↓upd_ne, Nat.reduceBEq, nth_reps, pur_reps, Try.f9]
  · decide
  · simp +contextual (maxSteps := 4000000) only [↓upd_same, ↓upd_ne, Nat.reduceBEq, true_and, List.length_map, Option.some.injEq, GS_ref, updO_same, Nat.zero_add, IObj.arr.injEq, Nat.lt_succ_self, Store.new, Int.cast_ofNat_Int, nth_reps, pur_reps, Try.f9]
    exact ⟨by simp [ordI, ordT], fun i hi => by omega⟩
  · rintro k ρ ⟨ob, M⟩ hk ⟨h31, ⟨g, h4, ho⟩, hM, hok⟩
    dsimp only at ho hM
    have hL := ord_len (rs := rs) k
    have hLI : (ordI (ordT rs k)).length = k := by simp [ordI, hL]
    rw [List.length_map, hLI] at h4
    have n0 : ¬ 0 = M := by omega
    have m0 : ¬ M = 0 := by omega
    by_cases hlt : k < rs.length
    · have hl := hc.rep k hlt
      by_cases haf : ac rs k = 0
      case neg =>
        have haf2 : ¬ ((ac rs k : Nat) : Int) = 0 := by omega
        simp +contextual (maxSteps := 4000000) only [↓ur_skip, ↓ur_seq, ↓ur_block, ↓ur_ret, ↓ur_region, ↓ur_cond, ↓cont_seq, ↓done_nil, ↓done_seq, ↓done_blk, ↓done_lp, ↓ops_consN, ↓ops_guardN, nY_move, nY_assign, nY_pick, nY_alloc, nY_load, nY_store, nY_binOp, nY_fieldAddr, nY_indexAddr, nY_callf, ↓ops_nil, opsIf_some, opsIf_none, condC_true, guardC_tf, Option.map_some, Option.bind_some, Option.getD_some, Nat.reduceLT, Bool.false_eq_true, ↓upd_same, ↓upd_ne, Nat.reduceBEq, true_and, and_true, List.getElem?_toArray, List.getElem?_cons_zero, List.getElem?_cons_succ, endQ, cfg_P, cfg_tab, cfg_muts, cfg_frz, cfg_num, numOf_eq, List.length_map, ↓havoc_in, ↓havoc_out, List.contains_cons, List.contains_nil, Bool.or_false, Bool.or_true, Int.natCast_nonneg, Int.ofNat_lt, Int.toNat_natCast, decide_true, Option.some.injEq, exists_eq_left', tabOf_cons, tab_v, List.nil_append, List.append_nil, updO_same, List.length_cons, List.length_nil, Nat.zero_add, List.drop_zero, List.take_zero, Nat.reduceAdd, List.set_cons_zero, nth_zero, Nat.lt_succ_self, not_false_eq_true, Nat.le_refl, cells_agg, DRx_bool, ↓ev_tmp, ↓ev_int, ↓ev_bool, ↓ev_func, ↓guardP_eq, grd_some, ↓iop_move, ↓iop_assign, ↓pick3_bool, ↓iop_pick, ↓iop_alloc, ↓iop_load, ↓iop_store, ↓iop_binOp, ↓iop_fieldAddr, ↓iop_indexAddr, idxA_int, ↓iop_callv, nrmAll_nil, pickP_f, pickP_t, loadP_vptr, loadP_ptr, setCells_agg, storeP_ptr, fieldP_ptr, indexP_lits, b_neq, b_lss, splice_eq, ires_eq, iresL_1, iresAll_nil, iresAll_cons, iresOne_tmp, valT_eq, pursL_nil, Store.new, Store.set, ↓reduceIte, arr_eq, arrB_some, callP_eq, List.take_succ_cons, List.drop_succ_cons, List.drop_nil, List.take_nil, ↓evs_nil, beq_self_eq_true, see_eq, and_false, Bool.true_eq_false, s_sanity, nth_reps, pur_reps, Try.f9, ty3, ty22, ty56, h31, h4, ho, hlt, n0, m0, af_at, hl.2.1, haf2]
      by_cases hdu : du rs k < st + loadM rs (2 ^ rs.length - 1)
      · simp +contextual (maxSteps := 4000000) only [↓ur_skip, ↓ur_seq, ↓ur_block, ↓ur_ret, ↓ur_region, ↓ur_cond, ↓cont_seq, ↓done_nil, ↓done_seq, ↓done_blk, ↓done_lp, ↓ops_consN, ↓ops_guardN, nY_move, nY_assign, nY_pick, nY_alloc, nY_load, nY_store, nY_binOp, nY_fieldAddr, nY_indexAddr, nY_callf, ↓ops_nil, opsIf_some, opsIf_none, condC_true, guardC_ff, Option.map_some, Option.bind_some, Option.getD_some, Nat.reduceLT, Bool.false_eq_true, ↓upd_same, ↓upd_ne, Nat.reduceBEq, and_true, List.getElem?_toArray, List.getElem?_cons_zero, List.getElem?_cons_succ, endQ, cfg_P, cfg_tab, cfg_muts, cfg_frz, cfg_num, numOf_eq, List.length_map, ↓havoc_in, ↓havoc_out, List.contains_cons, List.contains_nil, Bool.or_false, Bool.or_true, Int.natCast_nonneg, Int.ofNat_lt, Int.toNat_natCast, decide_true, decide_false, Option.some.injEq, exists_eq_left', tabOf_cons, tab_v, List.nil_append, List.append_nil, updO_same, List.length_cons, List.length_nil, Nat.zero_add, List.drop_zero, List.take_zero, Nat.reduceAdd, List.set_cons_zero, nth_zero, Nat.lt_succ_self, not_true_eq_false, Nat.le_refl, cells_agg, DRx_bool, ↓ev_tmp, ↓ev_int, ↓ev_func, ↓guardP_eq, grd_some, ↓iop_move, ↓iop_assign, ↓pick3_bool, ↓iop_pick, ↓iop_alloc, ↓iop_load, ↓iop_store, ↓iop_binOp, ↓iop_fieldAddr, ↓iop_indexAddr, idxA_int, ↓iop_callv, nrmAll_nil, pickP_f, pickP_t, loadP_vptr, loadP_ptr, setCells_agg, storeP_ptr, fieldP_ptr, indexP_lits, b_neq, b_lss, splice_eq, ires_eq, iresL_1, iresAll_nil, iresAll_cons, iresOne_tmp, valT_eq, pursL_nil, Store.new, Store.set, ↓reduceIte, arr_eq, arrB_some, callP_eq, List.take_succ_cons, List.drop_succ_cons, List.drop_nil, List.take_nil, ↓evs_nil, beq_self_eq_true, see_eq, and_false, Bool.true_eq_false, Int.cast_ofNat_Int, s_sanity, nth_reps, pur_reps, Try.f9, ty3, ty22, ty56, h31, h4, ho, hlt, n0, m0, af_at, du_at, hl.2.1, haf, hdu]
      have hok' : ∀ i, i < k + 1 → ac rs i = 0 ∧ st + loadM rs (2 ^ rs.length - 1) ≤ du rs i := fun i hi => by
        by_cases e : i = k
        · subst e; exact ⟨haf, by omega⟩
        · exact hok i (by omega)
      simp +contextual (maxSteps := 4000000) only [↓ur_skip, ↓ur_seq, ↓ur_block, ↓ur_region, ↓ur_cond, ↓cont_seq, ↓ops_consN, ↓ops_guardN, nY_move, nY_assign, nY_pick, nY_alloc, nY_load, nY_store, nY_binOp, nY_fieldAddr, nY_indexAddr, nY_callb, ↓ops_nil, opsIf_some, opsIf_none, condC_true, condC_false, guardC_ff, Option.map_some, Option.bind_some, Option.getD_some, Nat.reduceLT, Bool.false_eq_true, ↓upd_same, ↓upd_ne, Nat.reduceBEq, true_and, and_true, List.getElem?_toArray, List.getElem?_cons_zero, List.getElem?_cons_succ, cfg_P, cfg_frz, cfg_num, numOf_eq, List.length_map, ↓havoc_in, ↓havoc_out, List.contains_cons, List.contains_nil, Bool.or_false, Bool.or_true, Int.natCast_nonneg, Int.ofNat_lt, Int.toNat_natCast, decide_true, decide_false, List.nil_append, List.append_nil, updO_same, updO_ne, List.length_cons, List.length_nil, Nat.zero_add, List.drop_zero, List.take_zero, Nat.reduceAdd, List.set_cons_zero, nth_zero, Nat.lt_succ_self, not_true_eq_false, not_false_eq_true, Nat.le_refl, cells_agg, ↓ev_tmp, ↓ev_int, ↓guardP_eq, grd_some, ↓iop_move, ↓iop_assign, ↓pick3_bool, ↓iop_pick, ↓iop_alloc, ↓iop_load, ↓iop_store, ↓iop_binOp, ↓iop_fieldAddr, ↓iop_indexAddr, idxA_int, ↓iop_callb, bi_len, lenM_none, pickP_f, pickP_t, loadP_vptr, loadP_ptr, setCells_agg, storeP_ptr, fieldP_ptr, indexP_lits, lenP_ref, b_neq, b_lss, splice_eq, Store.new, Store.set, ↓reduceIte, arr_eq, arrB_some, beq_eq_false_iff_ne, ne_eq, List.take_succ_cons, List.drop_succ_cons, List.drop_nil, List.take_nil, ↓evs_cons, ↓evs_nil, beq_self_eq_true, see_eq, Int.cast_ofNat_Int, nth_reps, pur_reps, Try.f9, ty3, ty22, ty25, ty56, h31, h4, ho, hlt, n0, m0, af_at, du_at, hl.2.1, haf, hdu]
      refine loop_cnt [7, 48, 49, 50, 51, 52, 53, 54, 55, 56, 57, 58, 59, 60, 61, 62, 63, 64, 65, 66, 67, 68, 69, 70, 71, 72, 73, 74, 75, 76, 77, 78, 79, 80] k (fun i ρ st' => ρ 7 = I ((k - i : Nat) : Int) ∧ posF rs k (ordT rs k) k = posF rs k (ordT rs k) (k - i) ∧ st'.obj 0 = some (.arr g 1 ((ordI (ordT rs k)).map (PV.int .i64))) ∧ st'.obj M = some (.arr 0 4 [repV (rs.getD k dR)]) ∧ M < st'.next) (.refl _) ?_ ?_
      · simp +contextual (maxSteps := 4000000) only [↓upd_same, true_and, and_true, Option.some.injEq, PV.int.injEq, PV.agg.injEq, List.cons.injEq, updO_same, updO_ne, IObj.arr.injEq, Nat.lt_succ_self, not_false_eq_true, beq_eq_false_iff_ne, ne_eq, Int.natCast_inj, Int.cast_ofNat_Int, nth_reps, pur_reps, Try.f9, ho, n0, m0, af_at, hl.2.1, haf]
        exact ⟨by omega, by simp, rfl⟩
      · rintro i ρ2 ⟨ob2, M2⟩ hi ⟨h7, hpos, ho2, hm2, hM2⟩
        dsimp only at ho2 hm2 hM2
        have htake : List.take k (List.map (PV.int .i64) (ordI (ordT rs k))) = List.map (PV.int .i64) (ordI (ordT rs k)) := List.take_of_length_le (by simp [hLI])
        obtain ⟨q, hq⟩ : ∃ q, q = k - i := ⟨_, rfl⟩
        rw [← hq] at h7 hpos
        have hqk : q ≤ k := by omega
        have wq : IntKind.i64.wrap ((q : Int) + 1) = ((q + 1 : Nat) : Int) := by rw [wrap64 (by omega) (by omega)]; omega
        obtain ⟨R0, hR0⟩ : ∃ R0, R0 = (ordI (ordT rs k) ++ [(k : Int)]).take (q + 1) ++ ((ordI (ordT rs k) ++ [(k : Int)]).drop q).take (k - q) ++ (ordI (ordT rs k) ++ [(k : Int)]).drop (q + 1 + (k - q)) := ⟨_, rfl⟩
        have hE : List.take (q + 1) (List.map (PV.int .i64) (ordI (ordT rs k)) ++ [I k]) ++ List.take (k - q) (List.take (k + 1 - q) (List.drop q (List.map (PV.int .i64) (ordI (ordT rs k)) ++ [I k]))) ++ List.drop (q + 1 + (k - q)) (List.map (PV.int .i64) (ordI (ordT rs k)) ++ [I k]) = List.map (PV.int .i64) R0 := by
          have e1 : List.map (PV.int .i64) (ordI (ordT rs k)) ++ [I k] = List.map (PV.int .i64) (ordI (ordT rs k) ++ [(k : Int)]) := by simp
          rw [e1, hR0, List.take_take, Nat.min_eq_left (by omega)]
          simp only [List.map_append, List.map_take, List.map_drop]
        have hlt2 : (List.take (k + 1 - q) (List.drop q (List.map (PV.int .i64) (ordI (ordT rs k)) ++ [I k]))).length = k + 1 - q := by simp [hLI]
        have hif : (if k + 1 - q ≤ k + 1 - (q + 1) then k + 1 - q else k + 1 - (q + 1)) = k - q := by rw [if_neg (by omega)]; omega
        have hRl : R0.length = k + 1 := by
          rw [hR0]; simp [hLI]; omega
        have hgoal : posF rs k (ordT rs k) k = q → R0.set q k = ordI (ordT rs (k + 1)) := fun h => by
          have := ins_list (l := ordI (ordT rs k)) (x := (k : Int)) (p := q) (by rw [hLI]; exact hqk)
          rw [hLI, ← hR0] at this
          rw [this]
          simp only [ordT, hL, h, ordI, List.map_append, List.map_cons, List.map_take, List.map_drop]
        have hol := ord_len (rs := rs) (k + 1)
        have hoI : (ordI (ordT rs (k + 1))).length = k + 1 := by simp [ordI, hol]
        have hq1 : q < k + 1 := by omega
        have c1 : ((q + 1 : Nat) : Int) ≤ ((k + 1 : Nat) : Int) := by omega
        have c2 : (q : Int) ≤ ((k + 1 : Nat) : Int) := by omega
        rcases Nat.eq_zero_or_pos q with hz | hz
        · have hng : ¬ (0 : Int) < (q : Int) := by omega
          have hgoal := hgoal (by rw [hpos, hz]; rfl)
          simp +contextual (maxSteps := 4000000) only [↓ur_seq, ↓ur_exit, ↓ur_region, ↓ur_cond, Nat.one_ne_zero, ↓cont_seq, ↓cont_blk, ↓cont_lp, ↓leave_seq, ↓leave_blk, ↓leave_lp, ↓ops_consN, ↓ops_guardN, nY_move, nY_assign, nY_pick, nY_buildSlice, nY_load, nY_store, nY_binOp, nY_slice, nY_fieldAddr, nY_indexAddr, nY_callb, ↓ops_nil, opsIf_some, opsIf_none, opsIf_if, map_if, bind_if, condC_false, guardC_ft, Option.map_some, Option.map_none, Option.bind_some, Option.bind_none, Option.getD_some, Option.getD_none, Nat.reduceLT, Bool.false_eq_true, ↓upd_same, ↓upd_ne, Nat.reduceBEq, true_and, and_true, List.getElem?_toArray, List.getElem?_cons_zero, List.getElem?_cons_succ, cfg_P, cfg_muts, cfg_frz, cfg_num, numOf_eq, List.length_map, ↓havoc_in, ↓havoc_out, agree_upd, List.contains_cons, List.contains_nil, Bool.or_false, Bool.or_true, Int.natCast_nonneg, Int.ofNat_lt, Int.toNat_natCast, nth_int, decide_false, PV.int.injEq, GS_ref, updO_same, List.length_append, List.length_cons, List.length_nil, Nat.zero_add, List.drop_zero, Nat.not_succ_le_self, Nat.reduceAdd, List.replicate_succ, List.replicate_zero, List.set_cons_zero, Nat.reduceMul, Nat.reduceLeDiff, Nat.lt_succ_self, not_false_eq_true, or_false, Nat.le_refl, cells_int, ↓ev_tmp, ↓ev_int, ↓ev_bool, ↓guardP_eq, grd_some, ↓iop_move, ↓iop_assign, ↓pick3_bool, ↓iop_pick, ↓iop_buildSlice, ↓iop_store, ↓iop_binOp, ↓iop_slice, intOfP_int, slcP_tf, ↓iop_indexAddr, idxA_int, ↓iop_callb, bi_copy, copyP_ref, isStr_ref, bi_append, setCells_int, storeP_ptr, indexP_ref, elemsP_lits, elemsP_ref, sliceP_ref, appendP_ref, b_add, b_gtr, bel_nil, bel_cons, Store.set, ↓reduceIte, arr_eq, arrB_some, bslP_eq, ne_eq, set_int, ↓evs_cons, ↓evs_nil, ↓evp_cons, ↓evp_nil, beq_self_eq_true, see_eq, Nat.min_def, Int.cast_ofNat_Int, nth_reps, pur_reps, Try.f9, ty3, ty25, h7, h4, ho2, hm2, hLI, h31, htake, hng, wq, hlt2, hif, hE, hRl, hgoal, hq1, c1, c2]
          refine ⟨by omega, by omega, by omega, by omega, by omega, ?_, hw k hlt, by omega, by omega, hok'⟩
          rw [agree_havoc_sub (by decide +kernel)]; simp +contextual (maxSteps := 4000000) only [Nat.reduceBEq, agree_upd, agree_havoc, List.contains_cons, List.contains_nil, Bool.or_false, Bool.or_true, beq_self_eq_true, nth_reps, pur_reps, Try.f9]
        · obtain ⟨p, hqp⟩ : ∃ p, q = p + 1 := ⟨q - 1, by omega⟩
          have hwp : IntKind.i64.wrap ((q : Int) - 1) = (p : Int) := by rw [wrap64 (by omega) (by omega)]; omega
          have hpk : p < k := by omega
          have hgp := (ordI_oi (l := ordT rs k) (j := p) (by omega)).2
          have hx := (ord_mem (rs := rs) (x := (ordT rs k).getD p 0) k).1 (getD_mem 0 (by omega))
          have hps : posF rs k (ordT rs k) (p + 1) = if ch rs ((ordT rs k).getD p 0) * tk rs k < ch rs k * tk rs ((ordT rs k).getD p 0) then posF rs k (ordT rs k) p else p + 1 := rfl
          generalize hxx : (ordT rs k).getD p 0 = x at *
          have hxn : x < rs.length := by omega
          have c1' := hc.ch.2 x hxn
          have c2' := hc.ch.2 k hlt
          have t1 := (hc.tk).2 x hxn
          have t2 := (hc.tk).2 k hlt
          have hpos0 : (0 : Int) < (q : Int) := by omega
          have b1 := term_b (b := tk rs k) c1' ⟨by omega, by omega⟩
          have b2 := term_b (b := tk rs x) c2' ⟨by omega, by omega⟩
          have w1 : IntKind.i64.wrap (ch rs x * tk rs k) = ch rs x * tk rs k := wrap64 (by omega) (by omega)
          have w2 : IntKind.i64.wrap (ch rs k * tk rs x) = ch rs k * tk rs x := wrap64 (by omega) (by omega)
          rw [hqp] at hpos
          by_cases hcmp : ch rs x * tk rs k < ch rs k * tk rs x
          · rw [if_pos hcmp] at hps
            simp +contextual (maxSteps := 4000000) only [↓ur_skip, ↓ur_seq, ↓ur_block, ↓ur_region, ↓ur_cond, ↓cont_seq, ↓cont_blk, ↓cont_lp, ↓ops_consN, ↓ops_guardN, nY_move, nY_assign, nY_pick, nY_load, nY_binOp, nY_fieldAddr, nY_indexAddr, ↓ops_nil, opsIf_some, condC_true, guardC_tt, Option.map_some, Option.bind_some, Option.getD_some, Nat.reduceLT, Bool.false_eq_true, ↓upd_same, ↓upd_ne, Nat.reduceBEq, true_and, and_true, List.getElem?_toArray, List.getElem?_cons_zero, List.getElem?_cons_succ, cfg_P, cfg_frz, List.length_map, ↓havoc_in, ↓havoc_out, agree_upd, agree_havoc, List.contains_cons, List.contains_nil, Bool.or_false, Bool.or_true, Int.natCast_nonneg, Int.ofNat_lt, Int.toNat_natCast, nth_int, decide_true, PV.int.injEq, Nat.zero_add, Nat.add_zero, nth_zero, Nat.lt_succ_self, Nat.le_refl, cells_int, cells_agg, ↓ev_tmp, ↓ev_int, ↓guardP_eq, grd_some, ↓iop_move, ↓iop_assign, ↓pick3_bool, ↓iop_pick, ↓iop_load, ↓iop_binOp, ↓iop_fieldAddr, ↓iop_indexAddr, idxA_int, pickP_f, loadP_vptr, loadP_ptr, fieldP_vptr, fieldP_ptr, indexP_lits, indexP_ref, b_sub, b_mul, b_lss, b_gtr, ↓reduceIte, arr_eq, arrB_some, Int.natCast_inj, beq_self_eq_true, see_eq, nth_reps, pur_reps, Try.f9, ty3, ty22, ty24, ty25, ty56, h7, h4, ho2, hm2, hLI, hwp, hpk, hgp, hxn, ch_at, tk_at, hpos0, w1, w2, hcmp]
            refine ⟨by omega, by omega, ?_, hM2⟩
            rw [show k - (i + 1) = p by omega, hpos, hps]
          · rw [if_neg hcmp] at hps
            have hgoal := hgoal (by rw [hpos, hps, hqp])
            simp +contextual (maxSteps := 4000000) only [↓ur_seq, ↓ur_exit, ↓ur_region, ↓ur_cond, Nat.one_ne_zero, ↓cont_seq, ↓cont_blk, ↓cont_lp, ↓leave_seq, ↓leave_blk, ↓leave_lp, ↓ops_consN, ↓ops_guardN, nY_move, nY_assign, nY_pick, nY_buildSlice, nY_load, nY_store, nY_binOp, nY_slice, nY_fieldAddr, nY_indexAddr, nY_callb, ↓ops_nil, opsIf_some, opsIf_none, opsIf_if, map_if, bind_if, condC_false, guardC_tt, Option.map_some, Option.map_none, Option.bind_some, Option.bind_none, Option.getD_some, Option.getD_none, Nat.reduceLT, Bool.false_eq_true, ↓upd_same, ↓upd_ne, Nat.reduceBEq, true_and, and_true, List.getElem?_toArray, List.getElem?_cons_zero, List.getElem?_cons_succ, cfg_P, cfg_muts, cfg_frz, cfg_num, numOf_eq, List.length_map, ↓havoc_in, ↓havoc_out, agree_upd, List.contains_cons, List.contains_nil, Bool.or_false, Bool.or_true, Int.natCast_nonneg, Int.ofNat_lt, Int.toNat_natCast, nth_int, decide_true, decide_false, PV.int.injEq, GS_ref, updO_same, List.length_append, List.length_cons, List.length_nil, Nat.zero_add, Nat.add_zero, List.drop_zero, Nat.not_succ_le_self, Nat.reduceAdd, List.replicate_succ, List.replicate_zero, List.set_cons_zero, Nat.reduceMul, Nat.reduceLeDiff, nth_zero, Nat.lt_succ_self, not_false_eq_true, or_false, Nat.le_refl, cells_int, cells_agg, ↓ev_tmp, ↓ev_int, ↓guardP_eq, grd_some, ↓iop_move, ↓iop_assign, ↓pick3_bool, ↓iop_pick, ↓iop_buildSlice, ↓iop_load, ↓iop_store, ↓iop_binOp, ↓iop_slice, intOfP_int, slcP_tf, ↓iop_fieldAddr, ↓iop_indexAddr, idxA_int, ↓iop_callb, bi_copy, copyP_ref, isStr_ref, bi_append, pickP_f, loadP_vptr, loadP_ptr, setCells_int, storeP_ptr, fieldP_vptr, fieldP_ptr, indexP_lits, indexP_ref, elemsP_lits, elemsP_ref, sliceP_ref, appendP_ref, b_add, b_sub, b_mul, b_lss, b_gtr, bel_nil, bel_cons, Store.set, ↓reduceIte, arr_eq, arrB_some, bslP_eq, ne_eq, set_int, ↓evs_cons, ↓evs_nil, ↓evp_cons, ↓evp_nil, beq_self_eq_true, see_eq, Nat.min_def, Int.cast_ofNat_Int, nth_reps, pur_reps, Try.f9, ty3, ty22, ty24, ty25, ty56, h7, h4, ho2, hm2, hLI, hwp, hpk, hgp, hxn, ch_at, tk_at, hpos0, w1, w2, hcmp, h31, htake, wq, hlt2, hif, hE, hRl, hgoal, hq1, c1, c2]
            refine ⟨by omega, by omega, by omega, by omega, by omega, ?_, hw k hlt, by omega, by omega, hok'⟩
            rw [agree_havoc_sub (by decide +kernel)]; simp +contextual (maxSteps := 4000000) only [Nat.reduceBEq, agree_upd, agree_havoc, List.contains_cons, List.contains_nil, Bool.or_false, Bool.or_true, beq_self_eq_true, nth_reps, pur_reps, Try.f9]
    · have e : k = rs.length := by omega
      subst e
      have hrb := ratio_best hc (fun k hk => (hok k hk).1) (fun k hk => (hok k hk).2)
      obtain ⟨r1, r2, r3, r4⟩ := hrb
      have htake : List.take rs.length (List.map (PV.int .i64) (ordI (ordT rs rs.length))) = List.map (PV.int .i64) (ordI (ordT rs rs.length)) := List.take_of_length_le (by simp [hLI])
      simp +contextual (maxSteps := 4000000) only [↓ur_seq, ↓ur_exit, ↓ur_ret, ↓ur_region, ↓ur_cond, ↓cont_seq, ↓leave_seq, ↓leave_blk, ↓leave_lp, ↓done_nil, ↓ops_consN, ↓ops_guardN, nY_move, nY_assign, nY_pick, nY_load, nY_binOp, nY_extract, nY_callf, ↓ops_nil, opsIf_some, opsIf_if, map_if, bind_if, condC_false, guardC_tt, Option.map_some, Option.map_none, Option.bind_some, Option.bind_none, Option.getD_some, Nat.reduceLT, Bool.false_eq_true, ↓upd_same, ↓upd_ne, Nat.reduceBEq, true_and, and_true, List.getElem?_toArray, List.getElem?_cons_zero, List.getElem?_cons_succ, endQ, cfg_P, cfg_tab, cfg_muts, cfg_frz, List.length_map, ↓havoc_in, ↓havoc_out, List.contains_cons, List.contains_nil, Bool.or_false, Bool.or_true, Int.ofNat_lt, decide_true, decide_false, Option.some.injEq, exists_eq_left', List.lookup_cons, List.lookup_nil, tabOf_cons, tab_v, pur_ints, Bool.and_true, Bool.and_self, Bool.true_and, Nat.reduceEqDiff, List.nil_append, List.append_nil, List.length_cons, List.length_nil, Nat.zero_add, List.drop_zero, Nat.reduceAdd, Nat.lt_irrefl, Nat.lt_succ_self, Nat.le_refl, scal1_int, pur_int, rdC_int, isCell_int, pur_lits, rdC_lits, isCell_lits, pur_ref, rdP_ref, pur_agg, rdP_agg, scal_tuple, DRx_bool, ↓ev_tmp, ↓ev_int, ↓ev_func, ↓guardP_eq, grd_some, ↓iop_move, ↓iop_assign, ↓pick3_bool, ↓iop_pick, ↓iop_load, ↓iop_binOp, ↓iop_extract, extr_tuple, ↓iop_callv, nrmAll_cons, nrmAll_nil, nrm_agg, nrmL_cons, nrmL_nil, nrm_lits, nrm_ref, nrm1_int, nrm1_lits, pickP_t, loadP_vptr, b_eql, b_lss, ires_eq, iresL_1, iresAll_nil, iresAll_cons, iresOne_tmp, rdAll_cons, rdAll_nil, rdL_cons, rdL_nil, valT_eq, pursL_cons, pursL_nil, ↓reduceIte, arr_eq, arrB_some, callP_eq, List.take_succ_cons, List.take_nil, ↓evs_cons, ↓evs_nil, beq_self_eq_true, List.all_cons, List.all_nil, see_eq, and_false, Bool.true_eq_false, s_sanity, s_Best, s_Cost, nth_reps, pur_reps, Try.f9, ty24, ty25, h31, h4, ho, r1, r2, r3, r4, htake]
      omega
theorem o_law13 : O_law13 := k_law13 c_law13
end Sim
