/- What functions of this seat compute, by values: contracts (lemmas of the statement's proof, under the conditions that each names). -/
import Derived.Test.YtpdaiflnibekaaaQN
namespace Sim
open Go Go.Proofs
set_option maxRecDepth 10000
set_option maxHeartbeats 2000000
set_option linter.unusedVariables false
set_option linter.unusedSimpArgs false
attribute [local congr] opsIf_congr condC_congr guardC_congr grd_congr pick3_congr obind_congr omap_congr opsV_congr

theorem tk_next {st : Int} {rs : List Rep} {s i : Nat} {vs : List (Nat × Int)} {x : Nat × Int} (h : (nextM st rs s)[i]? = some x) : ((nextM st rs s).take (i + 1)).foldl (updV s) vs = updV s (((nextM st rs s).take i).foldl (updV s) vs) x := by
  rw [List.take_add_one, h]
  simp
theorem part_V {st : Int} {rs : List Rep} {j i : Nat} {t : Nat} (hj : j < allS rs) (ht : allS rs - 1 - j < t) : aget (((nextM st rs (allS rs - 1 - j)).take i).foldl (updV (allS rs - 1 - j)) (valsT st rs j)) t = V st rs t := by
  rw [fold_other (by omega), vals_V (by omega) (by omega)]
noncomputable def A_values : (Int) × (List Rep) → List PV := fun (st, rs) => [.agg [I st, reps rs]]
noncomputable def R_values : (Int) × (List Rep) → List (PV × PV) := fun (st, rs) => encE (valsM st rs)
def H_values : (Int) × (List Rep) → Prop := fun (st, rs) => OKc st rs
noncomputable def e_values : Nat × Ent := (48, .m (.int .i64) (specOf A_values R_values H_values))
theorem j_values : ∀ i j, A_values i = A_values j → i = j := by
  rintro ⟨st₁, rs₁⟩ ⟨st₂, rs₂⟩ h
  simp only [A_values, List.cons.injEq, and_true, PV.lits.injEq, PV.int.injEq, PV.bool.injEq, PV.str.injEq, PV.agg.injEq, PV.func.injEq, PV.vptr.injEq, true_and, List.map_nil, inj_ints, inj_strs, inj_reps] at h
  simp [Prod.ext_iff, h] <;> omega
theorem s_values (st : Int) (rs : List Rep) : specOf A_values R_values H_values [.agg [I st, reps rs]] = @ite (Option (List (PV × PV))) (OKc st rs) (Classical.propDecidable _) (some (encE (valsM st rs))) none := specOf_if j_values (st, rs)
def C_values : Prop := ∀ (st : Int) (rs : List Rep) (h : OKc st rs) , VCM Try.prog 48 [.agg [I st, reps rs]] (.int .i64) (encE (valsM st rs))
def O_values : Prop := EntOK Try.prog e_values.1 e_values.2
theorem k_values (c : C_values) : O_values := specOf_okM fun ⟨st, rs⟩ h => c st rs h
theorem c_values : C_values := by
  intro st rs hc
  refine vcm_ofD mixed (l := [e_next]) ((eok_cons o_next eok_nil)) [] [] 0 1 Try.func48 rfl (by decide +kernel) (N := 66) rfl (by simp) rfl (by kernel_rfl) ?_ ?_
  · intro e he
    obtain ⟨x, _, rfl⟩ := List.mem_map.1 he
    exact ⟨rfl, rfl⟩
  have h10 := hc.len
  have hp := pow1024 (k := rs.length) h10
  have hp1 := one_le_pow rs.length
  have hsh := shl1 (k := rs.length) (by omega)
  have h64 : rs.length ≤ 64 := by omega
  have ha : allS rs < 1024 := by unfold allS; omega
  have hw1 : IntKind.i64.wrap (((2 ^ rs.length : Nat) : Int) - 1) = ((allS rs : Nat) : Int) := by
    unfold allS
    generalize 2 ^ rs.length = q at *
    rw [wrap64 (by omega) (by omega)]; omega
  have hw2 : IntKind.i64.wrap (((allS rs : Nat) : Int) - 1) = ((allS rs : Nat) : Int) - 1 := wrap64 (by omega) (by omega)
  simp +contextual (maxSteps := 4000000) only [↓ur_seq, ↓ur_block, ↓ur_region, ↓cont_seq, ↓ops_consN, nY_move, nY_assign, nY_alloc, nY_box, nY_insert, nY_load, nY_store, nY_binOp, nY_makeMap, nY_fieldAddr, nY_callb, ↓ops_nil, opsIf_some, opsIf_none, opsIf_if', map_if, Option.map_some, Option.map_none, Option.bind_some, Option.getD_some, Nat.reduceLT, Bool.false_eq_true, ↓upd_same, ↓upd_ne, Nat.reduceBEq, true_and, and_true, List.getD_cons_zero, List.getElem?_cons_zero, List.getElem?_cons_succ, cfg_P, cfg_muts, cfg_frz, cfg_num, numOf_eq, List.length_map, List.contains_nil, Int.toNat_natCast, decide_true, updO_same, List.length_cons, List.length_nil, Nat.zero_add, Nat.reduceAdd, List.set_cons_zero, nth_zero, Nat.lt_succ_self, Nat.le_refl, cells_int, cells_agg, cells_nilm, cells_mref, setCells_nilm, ↓ev_tmp, ↓ev_int, ↓iop_move, ↓iop_assign, ↓iop_alloc, ↓iop_box, ↓iop_load, ↓iop_store, ↓iop_binOp, ↓iop_fieldAddr, ↓iop_callb, bi_len, lenM_none, ↓iop_makeMap, ↓iop_insert, mapPut_mref, mapB_some, keyIs_int, pickP_f, loadP_vptr, setCells_int, storeP_ptr, fieldP_vptr, lenP_lits, b_sub, b_shl, env0_eq, Store.new, Store.set, ↓reduceIte, arr_eq, arrB_some, boxP_eq, ↓evs_cons, ↓evs_nil, see_eq, bits_i64, Nat.min_def, e_next, nth_reps, pur_reps, Try.f48, ty22, ty24, ty64, ty71, h64, hsh, hw1, hw2]
  refine ⟨by omega, ?_⟩
  refine loop_cnt [5, 6, 7, 8, 9, 10, 21, 22, 23, 24, 25, 26, 27, 29, 30, 31, 32, 33, 34, 35, 36, 37, 38, 39, 40, 41, 42, 43, 44, 45, 46, 47, 48, 49, 50, 51, 52, 53, 54, 55, 56, 57, 58, 59, 60, 61, 62, 63, 64] (allS rs) (fun j ρ st' => ∃ A, ρ 5 = .ptr A 0 0 0 ∧ st'.obj A = some (.arr 0 1 [I ((allS rs : Nat) - 1 - j)]) ∧ A < st'.next ∧ 1 < A ∧ st'.obj 0 = some (.map 0 (.int .i64) (encE (valsT st rs j))) ∧ st'.obj 1 = some (.arr 0 1 [.mref 0 0])) (.refl _) ?_ ?_
  · refine ⟨2, ?_⟩
    simp +contextual (maxSteps := 4000000) only [↓upd_same, Nat.reduceBEq, true_and, and_true, Option.some.injEq, PV.int.injEq, List.cons.injEq, updO_same, updO_ne, IObj.arr.injEq, Nat.lt_succ_self, Int.cast_ofNat_Int, nth_reps, pur_reps, Try.f48]
    have := mput_enc (k := allS rs) (v := 0) (es := [])
    refine ⟨by omega, ?_⟩
    exact congrArg (IObj.map 0 (.int .i64)) this
  · rintro j ρ ⟨ob, M⟩ hj ⟨A, h5, hA, hAM, hA1, h0, h1⟩
    dsimp only at hA hAM h0 h1
    have q0 : ¬ 0 = M := by omega
    have q1 : ¬ 1 = M := by omega
    have qA : ¬ A = M := by omega
    have p0 : ¬ 0 = A := by omega
    have p1 : ¬ 1 = A := by omega
    have p2 : ¬ A = 0 := by omega
    have p3 : ¬ A = 1 := by omega
    by_cases hlt : j < allS rs
    · obtain ⟨s, hs⟩ : ∃ s, s = allS rs - 1 - j := ⟨_, rfl⟩
      have hsI : ((allS rs : Nat) : Int) - 1 - (j : Int) = (s : Int) := by omega
      have hs0 : (0 : Int) ≤ (s : Int) := by omega
      have hs1 : s < 1024 := by omega
      rw [hsI] at hA
      simp +contextual (maxSteps := 4000000) only [↓ur_skip, ↓ur_seq, ↓ur_block, ↓ur_region, ↓ur_cond, ur_range, ↓cont_seq, ↓ops_consN, nY_load, nY_binOp, nY_callf, ↓ops_nil, opsIf_some, condC_true, Option.map_some, Option.bind_some, Option.getD_some, Nat.reduceLT, Bool.false_eq_true, ↓upd_same, ↓upd_ne, Nat.reduceBEq, true_and, List.getElem?_cons_zero, cfg_P, cfg_tab, cfg_muts, cfg_frz, ↓havoc_in, ↓havoc_out, List.contains_cons, List.contains_nil, Bool.or_false, decide_true, List.lookup_cons, List.lookup_nil, tabOf_cons, tab_v, Bool.and_self, List.nil_append, List.append_nil, List.length_cons, List.length_nil, Nat.zero_add, List.drop_zero, Nat.reduceAdd, nth_zero, Nat.le_refl, cells_int, pur_int, pur_lits, pur_agg, ↓ev_tmp, ↓ev_int, ↓ev_func, ↓iop_load, ↓iop_binOp, ↓iop_callv, nrmAll_cons, nrmAll_nil, nrm_agg, nrmL_cons, nrmL_nil, nrm_int, nrm1_int, nrm1_lits, pickP_f, pickP_t, loadP_vptr, loadP_ptr, b_geq, valT_eq, pursL_cons, pursL_nil, ↓reduceIte, arr_eq, arrB_some, callP_eq, List.take_succ_cons, List.take_nil, ↓evs_cons, ↓evs_nil, beq_self_eq_true, see_eq, and_false, Bool.true_eq_false, s_next, nth_reps, pur_reps, Try.f48, ty24, ty64, h5, hA, h0, h1, hs0]
      refine run_range (ys := (nextM st rs s).map fun x => [stepV x]) (f := 57) (first := []) (captured := [.vptr [I st, reps rs] 0, .vptr [I s] 0]) rfl rfl (hookMono_none rfl) ?_ (y_next hc hs1) rfl ?_ (by kernel_rfl) (by kernel_rfl)
        (fun i st' => (st'.obj 0 = some (.map 0 (.int .i64) (encE (((nextM st rs s).take i).foldl (updV s) (valsT st rs j)))) ∧ 0 < st'.next) ∧ (st'.obj 1 = some (.arr 0 1 [.mref 0 0]) ∧ 1 < st'.next) ∧ (st'.obj A = some (.arr 0 1 [I s]) ∧ A < st'.next))
        (fun e st' => False) ?_ ?_ ?_ ?_ ?_ ?_ ?_
      · simp +contextual (maxSteps := 4000000) only [↓upd_same, ↓ev_tmp, nth_reps, pur_reps, Try.f48]
      · intro y hy
        obtain ⟨x, _, rfl⟩ := List.mem_map.1 hy
        rfl
      · intro i
        exact (Stays.obj (fun _ => by simp)).and ((Stays.obj (fun _ => by simp)).and (Stays.obj (fun _ => by simp)))
      · intro e
        exact Stays.const
      · exact ⟨⟨h0, by simp; omega⟩, ⟨h1, by simp; omega⟩, hA, by simp; omega⟩
      · rintro i y ⟨ob2, M2⟩ id lr hy hid hlp ⟨⟨a0, a1⟩, ⟨b0, b1⟩, ⟨c0, c1⟩⟩
        obtain ⟨x, hx, hxi, rfl⟩ := next_at hy
        dsimp only at hid hlp a0 a1 b0 b1 c0 c1
        have d0 : ¬ id = 0 := fun e => by rw [e, a0] at hlp; cases hlp
        have d1 : ¬ id = 1 := fun e => by rw [e, b0] at hlp; cases hlp
        have d2 : ¬ id = A := fun e => by rw [e, c0] at hlp; cases hlp
        have d3 : ¬ id = M2 := by omega
        have e0 : ¬ 0 = M2 := by omega
        have e1 : ¬ 1 = M2 := by omega
        have e2 : ¬ A = M2 := by omega
        have f0 : ¬ 0 = id := fun e => d0 e.symm
        have f1 : ¬ 1 = id := fun e => d1 e.symm
        have f2 : ¬ A = id := fun e => d2 e.symm
        have f3 : ¬ M2 = id := fun e => d3 e.symm
        obtain ⟨g1, g2, g3⟩ := next_b hc hx
        have hx64 : x.1 ≤ 64 := by omega
        have hpx : 2 ^ x.1 < 2 ^ rs.length := Nat.pow_lt_pow_right (by omega) g1
        have hsx := shl1 (k := x.1) (by omega)
        have hor := orI_nat (a := s) (b := 2 ^ x.1) (by omega) (by omega)
        rw [tk_next hxi]
        have hgt := next_or hx
        have hV : aget (((nextM st rs s).take i).foldl (updV s) (valsT st rs j)) (s ||| 2 ^ x.1) = V st rs (s ||| 2 ^ x.1) := by
          subst hs; exact part_V hlt hgt
        generalize ((nextM st rs s).take i).foldl (updV s) (valsT st rs j) = es at *
        cases hg : V st rs (s ||| 2 ^ x.1) with
        | none =>
          rw [hg] at hV
          have hu : updV s es x = es := by simp [updV, hV]
          cases hg2 : aget es s <;> simp +contextual (maxSteps := 4000000) only [↓ur_skip, ↓ur_seq, ↓ur_block, ↓ur_region, ↓ur_cond, ↓cont_nil, ↓cont_seq, ↓cont_blk, ↓ops_consN, ↓ops_guardN, ↓setps_cons, ↓setps_nil, rndX_cfg, nY_move, nY_assign, nY_pick, nY_alloc, nY_load, nY_store, nY_binOp, nY_unOp, nY_fieldAddr, nY_lookup, nY_extract, ↓ops_nil, opsIf_some, opsIf_none, opsIf_if', map_if, condC_false, guardC_u, guardC_ft, Option.map_some, Option.map_none, Option.bind_some, Option.getD_some, Option.getD_none, Nat.reduceLT, Bool.false_eq_true, ↓upd_same, ↓upd_ne, Nat.reduceBEq, true_and, and_true, List.getElem?_toArray, List.getElem?_cons_zero, List.getElem?_cons_succ, forall_const, cfg_P, cfg_frz, cfg_num, numOf_eq, ↓havoc_in, ↓havoc_out, List.contains_cons, List.contains_nil, Bool.or_false, Int.toNat_natCast, decide_true, List.nil_append, List.append_nil, updO_same, updO_ne, List.length_cons, List.length_nil, Nat.zero_add, Nat.add_zero, List.take_zero, Nat.reduceAdd, List.set_cons_zero, nth_zero, Nat.lt_succ_self, not_false_eq_true, Nat.le_refl, cells_int, cells_agg, cells_mref, ↓ev_tmp, ↓ev_int, ↓ev_bool, ↓guardP_eq, grd_some, ↓iop_move, ↓iop_assign, ↓pick3_bool, ↓iop_pick, ↓iop_alloc, ↓iop_load, ↓iop_store, ↓iop_binOp, ↓iop_fieldAddr, ↓iop_extract, extr_tuple, ↓iop_lookup, mapGet_mref, mapLk_tt, mapB_some, keyIs_int, pickP_f, loadP_ptr, setCells_agg, storeP_ptr, fieldP_ptr, b_or, b_shl, splice_eq, Store.new, Store.set, ↓reduceIte, arr_eq, arrB_some, beq_eq_false_iff_ne, ne_eq, List.drop_succ_cons, List.drop_nil, beq_self_eq_true, see_eq, bits_i64, or_i64, Nat.min_def, nth_reps, pur_reps, Try.f48, ty3, ty64, ty71, ty78, hlp, h5, a0, b0, c0, d0, d1, d2, d3, e0, e1, e2, f0, f1, f2, f3, roundA, roundB, hx64, hsx, hor, mget_enc, hV, hg2, Option.isSome_none, Option.isSome_some, hu]
          · omega
          · omega
        | some r =>
          rw [hg] at hV
          have hvb := V_bound hc hg
          have hwr : IntKind.i64.wrap (x.2 + r) = x.2 + r := wrap64 (by omega) (by omega)
          cases hg2 : aget es s with
          | none =>
            have hu : updV s es x = aput es s (x.2 + r) := by simp [updV, hV, hg2]
            simp +contextual (maxSteps := 4000000) only [↓ur_seq, ↓ur_block, ↓ur_region, ↓ur_cond, ↓cont_nil, ↓cont_seq, ↓cont_blk, ↓ops_consN, ↓ops_guardN, ↓setps_cons, ↓setps_nil, rndX_cfg, nY_move, nY_assign, nY_pick, nY_alloc, nY_load, nY_store, nY_binOp, nY_unOp, nY_fieldAddr, nY_lookup, nY_mapUpdate, nY_extract, ↓ops_nil, opsIf_some, opsIf_none, opsIf_if', map_if, condC_true, guardC_tt, guardC_tf, Option.map_some, Option.map_none, Option.bind_some, Option.getD_some, Option.getD_none, Nat.reduceLT, Bool.false_eq_true, ↓upd_same, ↓upd_ne, Nat.reduceBEq, true_and, and_true, List.getElem?_toArray, List.getElem?_cons_zero, List.getElem?_cons_succ, cfg_P, cfg_frz, cfg_num, numOf_eq, ↓havoc_in, ↓havoc_out, List.contains_cons, List.contains_nil, Bool.or_false, Int.toNat_natCast, decide_true, List.nil_append, List.append_nil, updO_same, updO_ne, List.length_cons, List.length_nil, Nat.zero_add, Nat.add_zero, List.take_zero, Nat.reduceAdd, List.set_cons_zero, nth_zero, Nat.lt_succ_self, Bool.not_false, not_false_eq_true, Nat.le_refl, cells_int, cells_agg, cells_mref, ↓ev_tmp, ↓ev_int, ↓ev_bool, ↓guardP_eq, grd_some, ↓iop_move, ↓iop_assign, ↓pick3_bool, ↓iop_pick, ↓iop_alloc, ↓iop_load, ↓iop_store, ↓iop_binOp, ↓iop_unOp, ↓iop_fieldAddr, ↓iop_extract, extr_tuple, ↓iop_mapUpdate, ↓iop_lookup, mapPut_mref, mapGet_mref, mapLk_tt, mapB_some, keyIs_int, pickP_f, loadP_ptr, setCells_agg, storeP_ptr, fieldP_ptr, b_add, b_or, b_shl, u_not, splice_eq, Store.new, Store.set, ↓reduceIte, arr_eq, arrB_some, beq_eq_false_iff_ne, ne_eq, List.drop_succ_cons, List.drop_nil, beq_self_eq_true, see_eq, bits_i64, or_i64, Nat.min_def, nth_reps, pur_reps, Try.f48, ty3, ty64, ty71, ty78, hlp, h5, a0, b0, c0, d0, d1, d2, d3, e0, e1, e2, f0, f1, f2, f3, roundA, roundB, hx64, hsx, hor, mget_enc, mput_enc, hV, hg2, Option.isSome_none, Option.isSome_some, hwr, hu]
            refine fun rb => ⟨by omega, by omega, by omega, by omega, ?_, by omega⟩
            rw [updO_ne (by simpa using p2), updO_ne (by simpa using f2), updO_ne (by simpa using e2), updO_ne (by simpa using e2)]; exact c0
          | some old =>
            by_cases hl : x.2 + r < old
            · have hu : updV s es x = aput es s (x.2 + r) := by simp [updV, hV, hg2, hl]
              simp +contextual (maxSteps := 4000000) only [↓ur_seq, ↓ur_block, ↓ur_region, ↓ur_cond, ↓cont_nil, ↓cont_seq, ↓cont_blk, ↓ops_consN, ↓ops_guardN, ↓setps_cons, ↓setps_nil, rndX_cfg, nY_move, nY_assign, nY_pick, nY_alloc, nY_load, nY_store, nY_binOp, nY_unOp, nY_fieldAddr, nY_lookup, nY_mapUpdate, nY_extract, ↓ops_nil, opsIf_some, opsIf_none, opsIf_if', map_if, condC_true, guardC_tt, guardC_ff, Option.map_some, Option.map_none, Option.bind_some, Option.getD_some, Nat.reduceLT, Bool.false_eq_true, ↓upd_same, ↓upd_ne, Nat.reduceBEq, true_and, and_true, List.getElem?_toArray, List.getElem?_cons_zero, List.getElem?_cons_succ, cfg_P, cfg_frz, cfg_num, numOf_eq, ↓havoc_in, ↓havoc_out, List.contains_cons, List.contains_nil, Bool.or_false, Int.toNat_natCast, decide_true, List.nil_append, List.append_nil, updO_same, updO_ne, List.length_cons, List.length_nil, Nat.zero_add, Nat.add_zero, List.take_zero, Nat.reduceAdd, List.set_cons_zero, nth_zero, Nat.lt_succ_self, Bool.not_true, not_false_eq_true, Nat.le_refl, cells_int, cells_agg, cells_mref, ↓ev_tmp, ↓ev_int, ↓guardP_eq, grd_some, ↓iop_move, ↓iop_assign, ↓pick3_bool, ↓iop_pick, ↓iop_alloc, ↓iop_load, ↓iop_store, ↓iop_binOp, ↓iop_unOp, ↓iop_fieldAddr, ↓iop_extract, extr_tuple, ↓iop_mapUpdate, ↓iop_lookup, mapPut_mref, mapGet_mref, mapLk_tt, mapB_some, keyIs_int, pickP_f, loadP_ptr, setCells_agg, storeP_ptr, fieldP_ptr, b_add, b_or, b_lss, b_shl, u_not, splice_eq, Store.new, Store.set, ↓reduceIte, arr_eq, arrB_some, beq_eq_false_iff_ne, ne_eq, List.drop_succ_cons, List.drop_nil, beq_self_eq_true, see_eq, bits_i64, or_i64, Nat.min_def, nth_reps, pur_reps, Try.f48, ty3, ty64, ty71, ty78, hlp, h5, a0, b0, c0, d0, d1, d2, d3, e0, e1, e2, f0, f1, f2, f3, roundA, roundB, hx64, hsx, hor, mget_enc, mput_enc, hV, hg2, Option.isSome_none, Option.isSome_some, hwr, hl, hu]
              refine fun rb => ⟨by omega, by omega, by omega, by omega, ?_, by omega⟩
              rw [updO_ne (by simpa using p2), updO_ne (by simpa using f2), updO_ne (by simpa using e2), updO_ne (by simpa using e2)]; exact c0
            · have hu : updV s es x = es := by simp [updV, hV, hg2, hl]
              simp +contextual (maxSteps := 4000000) only [↓ur_skip, ↓ur_seq, ↓ur_block, ↓ur_region, ↓ur_cond, ↓cont_nil, ↓cont_seq, ↓cont_blk, ↓ops_consN, ↓ops_guardN, ↓setps_cons, ↓setps_nil, rndX_cfg, nY_move, nY_assign, nY_pick, nY_alloc, nY_load, nY_store, nY_binOp, nY_unOp, nY_fieldAddr, nY_lookup, nY_extract, ↓ops_nil, opsIf_some, opsIf_none, opsIf_if', map_if, condC_false, guardC_tt, guardC_ff, Option.map_some, Option.map_none, Option.bind_some, Option.getD_some, Nat.reduceLT, Bool.false_eq_true, ↓upd_same, ↓upd_ne, Nat.reduceBEq, true_and, and_true, List.getElem?_toArray, List.getElem?_cons_zero, List.getElem?_cons_succ, forall_const, cfg_P, cfg_frz, cfg_num, numOf_eq, ↓havoc_in, ↓havoc_out, List.contains_cons, List.contains_nil, Bool.or_false, Int.toNat_natCast, decide_true, decide_false, List.nil_append, List.append_nil, updO_same, updO_ne, List.length_cons, List.length_nil, Nat.zero_add, Nat.add_zero, List.take_zero, Nat.reduceAdd, List.set_cons_zero, nth_zero, Nat.lt_succ_self, Bool.not_true, not_false_eq_true, Nat.le_refl, cells_int, cells_agg, cells_mref, ↓ev_tmp, ↓ev_int, ↓guardP_eq, grd_some, ↓iop_move, ↓iop_assign, ↓pick3_bool, ↓iop_pick, ↓iop_alloc, ↓iop_load, ↓iop_store, ↓iop_binOp, ↓iop_unOp, ↓iop_fieldAddr, ↓iop_extract, extr_tuple, ↓iop_lookup, mapGet_mref, mapLk_tt, mapB_some, keyIs_int, pickP_f, loadP_ptr, setCells_agg, storeP_ptr, fieldP_ptr, b_add, b_or, b_lss, b_shl, u_not, splice_eq, Store.new, Store.set, ↓reduceIte, arr_eq, arrB_some, beq_eq_false_iff_ne, ne_eq, List.drop_succ_cons, List.drop_nil, beq_self_eq_true, see_eq, bits_i64, or_i64, Nat.min_def, nth_reps, pur_reps, Try.f48, ty3, ty64, ty71, ty78, hlp, h5, a0, b0, c0, d0, d1, d2, d3, e0, e1, e2, f0, f1, f2, f3, roundA, roundB, hx64, hsx, hor, mget_enc, hV, hg2, Option.isSome_none, Option.isSome_some, hwr, hl, hu]
              omega
      · rintro ⟨ob2, M2⟩ ⟨⟨a0, a1⟩, ⟨b0, b1⟩, ⟨c0, c1⟩⟩
        dsimp only at a0 a1 b0 b1 c0 c1
        have e0 : ¬ 0 = M2 := by omega
        have e1 : ¬ 1 = M2 := by omega
        have e2 : ¬ A = M2 := by omega
        rw [List.length_map, List.take_of_length_le (Nat.le_refl _)] at a0
        have hws : IntKind.i64.wrap ((s : Int) - 1) = (s : Int) - 1 := wrap64 (by omega) (by omega)
        simp +contextual (maxSteps := 4000000) only [↓ur_seq, ↓ur_region, ↓cont_seq, ↓cont_blk, ↓cont_lp, ↓ops_consN, nY_alloc, nY_load, nY_store, nY_binOp, ↓ops_nil, opsIf_some, opsIf_none, Option.map_some, Option.bind_some, Option.getD_some, Nat.reduceLT, Bool.false_eq_true, ↓upd_same, ↓upd_ne, Nat.reduceBEq, true_and, and_true, List.getElem?_cons_zero, cfg_P, cfg_frz, cfg_num, numOf_eq, ↓havoc_in, agree_upd, agree_havoc, List.contains_cons, List.contains_nil, Bool.or_false, Bool.or_true, Option.some.injEq, updO_same, updO_ne, List.length_cons, List.length_nil, Nat.zero_add, Nat.reduceAdd, List.set_cons_zero, nth_zero, Nat.lt_succ_self, not_false_eq_true, Nat.le_refl, cells_int, ↓ev_tmp, ↓ev_int, ↓iop_alloc, ↓iop_load, ↓iop_store, ↓iop_binOp, pickP_f, loadP_ptr, setCells_int, storeP_ptr, b_sub, Store.new, Store.set, ↓reduceIte, arr_eq, arrB_some, beq_eq_false_iff_ne, ne_eq, beq_self_eq_true, see_eq, nth_reps, pur_reps, Try.f48, ty64, h5, a0, b0, c0, e0, e1, e2, hws]
        refine ⟨hlt, M2, rfl, ?_, by omega, by omega, ?_⟩
        · rw [updO_same]
          have : ((s : Int) - 1) = ((allS rs : Nat) : Int) - 1 - ((j + 1 : Nat) : Int) := by omega
          rw [this]
        · rw [hs]; rfl
      · rintro i ⟨ob2, M2⟩ h
        exact h.elim
      · rintro ⟨ob2, M2⟩ h
        exact h.elim
    · have e : j = allS rs := by omega
      subst e
      have hm1 : ((allS rs : Nat) : Int) - 1 - ((allS rs : Nat) : Int) = -1 := by omega
      rw [hm1] at hA
      simp +contextual (maxSteps := 4000000) only [↓ur_seq, ↓ur_exit, ↓ur_ret, ↓ur_region, ↓ur_cond, ↓cont_seq, ↓leave_seq, ↓leave_blk, ↓leave_lp, ↓done_nil, ↓ops_consN, nY_assign, nY_load, nY_binOp, ↓ops_nil, opsIf_some, condC_false, Option.map_some, Option.bind_some, Option.getD_some, Nat.reduceLT, Bool.false_eq_true, ↓upd_same, ↓upd_ne, Nat.reduceBEq, true_and, List.getElem?_cons_zero, endQ, cfg_P, cfg_frz, ↓havoc_in, ↓havoc_out, List.contains_cons, List.contains_nil, Bool.or_false, decide_false, Option.some.injEq, exists_eq_left', nth_zero, Nat.lt_succ_self, Int.reduceLE, cells_int, cells_mref, ↓ev_tmp, ↓ev_int, ↓iop_assign, ↓iop_load, ↓iop_binOp, pickP_f, loadP_ptr, b_geq, ires_eq, iresL_1, iresAll_nil, iresAll_cons, iresOne_tmp, ↓reduceIte, arr_eq, arrB_some, beq_self_eq_true, see_eq, nth_reps, pur_reps, Try.f48, ty64, ty71, h5, hA, h0, h1]
      exact ⟨0, rfl, h0⟩
theorem o_values : O_values := k_values c_values
end Sim
