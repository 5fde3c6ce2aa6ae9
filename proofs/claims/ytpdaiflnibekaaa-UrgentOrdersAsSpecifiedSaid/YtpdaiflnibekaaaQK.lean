/- What functions of this seat compute, by values: contracts (lemmas of the statement's proof, under the conditions that each names). -/
import Derived.Test.YtpdaiflnibekaaaQJ
namespace Sim
open Go Go.Proofs
set_option maxRecDepth 10000
set_option maxHeartbeats 2000000
set_option linter.unusedVariables false
set_option linter.unusedSimpArgs false
attribute [local congr] opsIf_congr condC_congr guardC_congr grd_congr pick3_congr obind_congr omap_congr opsV_congr

/-! What may come next. -/
def stepOK (st : Int) (rs : List Rep) (s k : Nat) : Bool := !s.testBit k && (sub (ac rs k) s && decide (st + loadM rs s + tk rs k ≤ du rs k))
def stepsT (st : Int) (rs : List Rep) (s : Nat) : Nat → List (Nat × Int)
  | 0 => []
  | k + 1 => if stepOK st rs s k = true then stepsT st rs s k ++ [(k, ch rs k * (loadM rs s + tk rs k))] else stepsT st rs s k
def nextM (st : Int) (rs : List Rep) (s : Nat) : List (Nat × Int) := stepsT st rs s rs.length
theorem steps_pre {st : Int} {rs : List Rep} {s k : Nat} : ∀ m, ∃ l, stepsT st rs s (k + m) = stepsT st rs s k ++ l
  | 0 => ⟨[], by simp⟩
  | m + 1 => by
    obtain ⟨l, hl⟩ := steps_pre (st := st) (rs := rs) (s := s) (k := k) m
    show ∃ l, (if stepOK st rs s (k + m) = true then stepsT st rs s (k + m) ++ _ else stepsT st rs s (k + m)) = _ ++ l
    rw [hl]
    split
    · exact ⟨l ++ [_], by rw [List.append_assoc]⟩
    · exact ⟨l, rfl⟩
theorem steps_at {st : Int} {rs : List Rep} {s k : Nat} (hk : k < rs.length) (h : stepOK st rs s k = true) : (nextM st rs s)[(stepsT st rs s k).length]? = some (k, ch rs k * (loadM rs s + tk rs k)) := by
  obtain ⟨l, hl⟩ := steps_pre (st := st) (rs := rs) (s := s) (k := k + 1) (rs.length - (k + 1))
  rw [show k + 1 + (rs.length - (k + 1)) = rs.length by omega] at hl
  unfold nextM
  rw [hl]
  simp only [stepsT, h, if_true]
  simp
abbrev stepV (x : Nat × Int) : PV := .agg [I x.1, I x.2]
abbrev nextF (st : Int) (rs : List Rep) (s : Nat) : PV := .func (.func 57) [] [.vptr [I st, reps rs] 0, .vptr [I s] 0]
noncomputable def A_next : (Int) × (List Rep) × (Nat) → List PV := fun (st, rs, s) => [.agg [I st, reps rs], I s]
noncomputable def R_next : (Int) × (List Rep) × (Nat) → PV := fun (st, rs, s) => nextF st rs s
def H_next : (Int) × (List Rep) × (Nat) → Prop := fun (st, rs, s) => True
noncomputable def e_next : Nat × Ent := (49, .v (specOf A_next R_next H_next))
theorem j_next : ∀ i j, A_next i = A_next j → i = j := by
  rintro ⟨st₁, rs₁, s₁⟩ ⟨st₂, rs₂, s₂⟩ h
  simp only [A_next, List.cons.injEq, and_true, PV.lits.injEq, PV.int.injEq, PV.bool.injEq, PV.str.injEq, PV.agg.injEq, PV.func.injEq, PV.vptr.injEq, true_and, List.map_nil, inj_ints, inj_strs, inj_reps] at h
  simp [Prod.ext_iff, h] <;> omega
theorem s_next (st : Int) (rs : List Rep) (s : Nat) : specOf A_next R_next H_next [.agg [I st, reps rs], I s] = some (nextF st rs s) := specOf_app j_next (i := (st, rs, s)) trivial
def C_next : Prop := ∀ (st : Int) (rs : List Rep) (s : Nat) , VC Try.prog 49 [.agg [I st, reps rs], I s] (nextF st rs s)
def O_next : Prop := EntOK Try.prog e_next.1 e_next.2
theorem k_next (c : C_next) : O_next := specOf_ok fun ⟨st, rs, s⟩ h => c st rs s
theorem c_next : C_next := by
  intro st rs s
  refine vc_ofU mixed (l := []) (eok_nil) [] []  Try.func49 rfl (by decide +kernel) (N := 6) rfl (by simp) rfl (by kernel_rfl) fun hs => ?_
  simp only [smallL, PV.small, List.length_map, and_true, true_and] at hs
  simp +contextual (maxSteps := 4000000) only [↓ur_seq, ↓ur_ret, ↓ur_region, ↓cont_seq, ↓done_nil, ↓ops_consN, nY_assign, nY_box, nY_makeFunc, ↓ops_nil, opsIf_some, Option.map_some, Option.bind_some, Option.getD_some, Nat.reduceLT, Bool.false_eq_true, ↓upd_same, ↓upd_ne, Nat.reduceBEq, true_and, List.getD_cons_zero, List.getD_cons_succ, endQ, cfg_muts, List.contains_nil, Option.some.injEq, exists_eq_left', List.length_cons, List.length_nil, Nat.zero_add, Nat.reduceAdd, Nat.lt_succ_self, st0, cells_int, cells_agg, ↓ev_tmp, ↓ev_nilf, ↓iop_assign, ↓iop_box, ↓iop_makeFunc, env0_eq, ires_eq, iresL_1, iresAll_nil, iresAll_cons, iresOne_tmp, ↓reduceIte, boxP_eq, ↓evs_cons, ↓evs_nil, nth_reps, pur_reps, Try.f49]
  simp [DRx, nextF, pur_func, pursL_cons, pur_vptr, pur_lits, pur_reps, pur_int, pursL_nil]
theorem o_next : O_next := k_next c_next
theorem y_next {st : Int} {rs : List Rep} {s : Nat} (hc : OKc st rs) (hs : s < 1024) : Yields Try.prog 0 57 [] [.vptr [I st, reps rs] 0, .vptr [I s] 0] ((nextM st rs s).map fun x => [stepV x]) := by
  refine yields_of (l := [e_has, e_load]) (eok_cons o_has (eok_cons o_load eok_nil)) [] [] 0 Try.func57 rfl (by decide +kernel) rfl (N := 54) rfl (by simp) (fun y => by kernel_rfl) fun y H J E st0 hm h0 hstab hy => ?_
  have h10 := hc.len
  have hst := hc.start
  have hs2 : s < 9223372036854775808 := by omega
  have hb := load_bound hc.tk s rs.length (Nat.le_refl _)
  have hp := pow1024 (k := rs.length) h10
  have hw : ∀ i : Nat, i < rs.length → IntKind.i64.wrap ((i : Int) + 1) = ((i + 1 : Nat) : Int) := fun i g => by rw [wrap64 (by omega) (by omega)]; omega
  obtain ⟨ob0, M0⟩ := st0
  simp +contextual (maxSteps := 4000000) only [↓ur_seq, ↓ur_block, ↓ur_region, ↓cont_seq, ↓ops_consN, nY_move, nY_assign, nY_load, nY_makeFunc, nY_fieldAddr, nY_callf, nY_callb, ↓ops_nil, opsIf_some, Option.map_some, Option.bind_some, Option.getD_some, Nat.reduceLT, Bool.false_eq_true, ↓upd_same, ↓upd_ne, Nat.reduceBEq, true_and, and_true, List.getD_cons_zero, List.getD_cons_succ, List.getElem?_cons_zero, List.getElem?_cons_succ, cfg_P, cfg_tab, cfg_muts, cfg_frz, List.length_map, List.contains_nil, List.lookup_cons, List.lookup_nil, tabOf_cons, tab_v, Bool.and_self, Nat.reduceEqDiff, List.nil_append, List.append_nil, List.length_cons, List.length_nil, Nat.zero_add, List.drop_zero, Nat.reduceAdd, Nat.lt_succ_self, Nat.le_refl, pur_int, pur_lits, pur_func, pur_agg, ↓ev_tmp, ↓ev_int, ↓ev_func, ↓iop_move, ↓iop_assign, ↓iop_load, ↓iop_makeFunc, ↓iop_fieldAddr, ↓iop_callv, ↓iop_callb, nrmAll_cons, nrmAll_nil, bi_len, lenM_none, nrm_agg, nrmL_cons, nrmL_nil, nrm_func, nrm1_int, nrm1_lits, pickP_f, pickP_t, loadP_vptr, fieldP_vptr, lenP_lits, env0_eq, valT_eq, pursL_cons, pursL_nil, ↓reduceIte, callP_eq, List.take_succ_cons, List.take_nil, ↓evs_cons, ↓evs_nil, beq_self_eq_true, see_eq, and_false, Bool.true_eq_false, nth_reps, pur_reps, Try.f57, ty22, ty24, ty64, ty66, e_has, e_load, s_load, hc.tk, hs2]
  refine loop_cnt (hm := hm) [5, 6, 14, 15, 16, 17, 18, 19, 20, 21, 22, 23, 24, 25, 26, 27, 28, 29, 30, 31, 32, 33, 34, 35, 36, 37, 38, 39, 40, 41, 42, 43, 44, 45, 46, 47, 48, 49, 50, 51, 52, 53] rs.length (fun k ρ st' => ρ 14 = I k ∧ J (stepsT st rs s k).length st') (.refl _) ?_ ?_
  · simp +contextual (maxSteps := 4000000) only [↓upd_same, true_and, Int.cast_ofNat_Int, nth_reps, pur_reps, Try.f57]
    exact h0
  · rintro k ρ ⟨ob, M⟩ hk ⟨h14, hJ⟩
    by_cases hlt : k < rs.length
    · have hk64 : k ≤ 64 := by omega
      have hl := hc.rep k hlt
      have ht := (hc.tk).2 k hlt
      have hch := hc.ch.2 k hlt
      have hac : ac rs k < 9223372036854775808 := by omega
      have hz := andNI_zero hac hs2
      have hw1 : IntKind.i64.wrap (st + loadM rs s) = st + loadM rs s := wrap64 (by unfold loadM; omega) (by unfold loadM; omega)
      have hw2 : IntKind.i64.wrap (st + loadM rs s + tk rs k) = st + loadM rs s + tk rs k := wrap64 (by unfold loadM; omega) (by unfold loadM; omega)
      have hw3 : IntKind.i64.wrap (loadM rs s + tk rs k) = loadM rs s + tk rs k := wrap64 (by unfold loadM; omega) (by unfold loadM; omega)
      have hw4 : IntKind.i64.wrap (ch rs k * (loadM rs s + tk rs k)) = ch rs k * (loadM rs s + tk rs k) := by
        have := term_b (b := loadM rs s + tk rs k) hch ⟨by unfold loadM; omega, by unfold loadM; omega⟩
        exact wrap64 (by omega) (by omega)
      have hJ' : ∀ o, J (stepsT st rs s k).length ⟨updO ob M o, M + 1⟩ := fun o => hstab _ _ _ hJ (by simp) (fun x hx => updO_ne (by simp; exact Nat.ne_of_lt hx))
      have hJ'' : ∀ o o2, J (stepsT st rs s k).length ⟨updO (updO ob M o) M o2, M + 1⟩ := fun o o2 => hstab _ _ _ hJ (by simp) (fun x hx => (updO_ne (by simp; exact Nat.ne_of_lt hx)).trans (updO_ne (by simp; exact Nat.ne_of_lt hx)))
      have hgo : stepOK st rs s k = true → ∀ st' (K : Bool → Store → Prop), J (stepsT st rs s k).length st' → (∀ st', J (stepsT st rs s (k + 1)).length st' → K true st') → (∀ st', E st' → K false st') → H [.agg [I k, I (ch rs k * (loadM rs s + tk rs k))]] st' K := fun h st' K hj ht hf => by
        refine hy (stepsT st rs s k).length _ st' K ?_ hj (fun st2 h2 => ht st2 ?_) hf
        · rw [List.getElem?_map, steps_at hlt h]; rfl
        · simp only [stepsT, h, if_true, List.length_append, List.length_singleton]; exact h2
      have hskip : stepOK st rs s k = false → stepsT st rs s (k + 1) = stepsT st rs s k := fun h => by simp [stepsT, h]
      cases hsk : s.testBit k
      case true =>
        have := hskip (by simp [stepOK, hsk])
        simp +contextual (maxSteps := 4000000) only [↓ur_skip, ↓ur_seq, ↓ur_block, ↓ur_exit, ↓ur_region, ↓ur_cond, ↓cont_seq, ↓cont_lp, ↓leave_seq, ↓leave_blk, ↓ops_consN, ↓ops_guardN, nY_move, nY_assign, nY_pick, nY_alloc, nY_load, nY_store, nY_binOp, nY_fieldAddr, nY_indexAddr, nY_callf, ↓ops_nil, opsIf_some, opsIf_none, condC_true, guardC_tf, Option.map_some, Option.bind_some, Option.getD_some, Nat.reduceLT, Bool.false_eq_true, ↓upd_same, ↓upd_ne, Nat.reduceBEq, true_and, and_true, List.getD_cons_zero, List.getD_cons_succ, List.getElem?_toArray, List.getElem?_cons_zero, List.getElem?_cons_succ, cfg_P, cfg_tab, cfg_muts, cfg_frz, cfg_num, numOf_eq, List.length_map, ↓havoc_in, ↓havoc_out, agree_upd, agree_havoc, List.contains_cons, List.contains_nil, Bool.or_false, Bool.or_true, Int.natCast_nonneg, Int.ofNat_lt, Int.toNat_natCast, decide_true, PV.int.injEq, tabOf_cons, tab_v, Bool.and_self, List.nil_append, List.append_nil, updO_same, List.length_cons, List.length_nil, Nat.zero_add, List.drop_zero, List.take_zero, Nat.reduceAdd, List.set_cons_zero, nth_zero, Nat.lt_succ_self, Nat.le_refl, pur_int, cells_agg, ↓ev_tmp, ↓ev_int, ↓ev_bool, ↓ev_func, ↓guardP_eq, grd_some, ↓iop_move, ↓iop_assign, ↓pick3_bool, ↓iop_pick, ↓iop_alloc, ↓iop_load, ↓iop_store, ↓iop_binOp, ↓iop_indexAddr, idxA_int, ↓iop_callv, nrmAll_cons, nrmAll_nil, nrm_int, pickP_f, pickP_t, loadP_vptr, setCells_agg, storeP_ptr, indexP_lits, b_add, b_lss, splice_eq, env0_eq, valT_eq, pursL_cons, pursL_nil, Store.new, Store.set, ↓reduceIte, arr_eq, arrB_some, callP_eq, List.take_succ_cons, List.drop_succ_cons, List.drop_nil, List.take_nil, ↓evs_cons, ↓evs_nil, beq_self_eq_true, see_eq, and_false, Bool.true_eq_false, nth_reps, pur_reps, Try.f57, ty3, ty22, ty56, ty64, s_has, h14, hlt, hs2, hk64, hsk]
        rw [this]; exact ⟨hw k hlt, hJ'' _ _⟩
      cases hsb : sub (ac rs k) s
      case false =>
        have := hskip (by simp [stepOK, hsk, hsb])
        have hz : ¬ andNI (ac rs k) s = 0 := fun g => by have := hz.1 g; rw [hsb] at this; cases this
        simp +contextual (maxSteps := 4000000) only [↓ur_skip, ↓ur_seq, ↓ur_block, ↓ur_exit, ↓ur_region, ↓ur_cond, ↓cont_seq, ↓cont_lp, ↓leave_seq, ↓leave_blk, ↓ops_consN, ↓ops_guardN, nY_move, nY_assign, nY_pick, nY_alloc, nY_load, nY_store, nY_binOp, nY_fieldAddr, nY_indexAddr, nY_callf, ↓ops_nil, opsIf_some, opsIf_none, condC_true, guardC_tf, guardC_ff, Option.map_some, Option.bind_some, Option.getD_some, Nat.reduceLT, Bool.false_eq_true, ↓upd_same, ↓upd_ne, Nat.reduceBEq, true_and, and_true, List.getD_cons_zero, List.getD_cons_succ, List.getElem?_toArray, List.getElem?_cons_zero, List.getElem?_cons_succ, cfg_P, cfg_tab, cfg_muts, cfg_frz, cfg_num, numOf_eq, List.length_map, ↓havoc_in, ↓havoc_out, agree_upd, agree_havoc, List.contains_cons, List.contains_nil, Bool.or_false, Bool.or_true, Int.natCast_nonneg, Int.ofNat_lt, Int.toNat_natCast, decide_true, PV.int.injEq, tabOf_cons, tab_v, Bool.and_self, List.nil_append, List.append_nil, updO_same, List.length_cons, List.length_nil, Nat.zero_add, List.drop_zero, List.take_zero, Nat.reduceAdd, List.set_cons_zero, nth_zero, Nat.lt_succ_self, not_false_eq_true, Nat.le_refl, pur_int, cells_agg, ↓ev_tmp, ↓ev_int, ↓ev_bool, ↓ev_func, ↓guardP_eq, grd_some, ↓iop_move, ↓iop_assign, ↓pick3_bool, ↓iop_pick, ↓iop_alloc, ↓iop_load, ↓iop_store, ↓iop_binOp, ↓iop_fieldAddr, ↓iop_indexAddr, idxA_int, ↓iop_callv, nrmAll_cons, nrmAll_nil, nrm_int, pickP_f, pickP_t, loadP_vptr, loadP_ptr, setCells_agg, storeP_ptr, fieldP_ptr, indexP_lits, b_add, b_andNot, b_neq, b_lss, splice_eq, env0_eq, valT_eq, pursL_cons, pursL_nil, Store.new, Store.set, ↓reduceIte, arr_eq, arrB_some, callP_eq, List.take_succ_cons, List.drop_succ_cons, List.drop_nil, List.take_nil, ↓evs_cons, ↓evs_nil, beq_self_eq_true, see_eq, and_false, Bool.true_eq_false, nth_reps, pur_reps, Try.f57, ty3, ty22, ty56, ty64, s_has, h14, hlt, hs2, hk64, hsk, andNot_i64, af_at, hl.2.1, hz]
        rw [this]; exact ⟨hw k hlt, hJ'' _ _⟩
      have hz := hz.2 hsb
      by_cases hlate : du rs k < st + loadM rs s + tk rs k
      · have := hskip (by simp [stepOK, hsk, hsb]; omega)
        simp +contextual (maxSteps := 4000000) only [↓ur_skip, ↓ur_seq, ↓ur_block, ↓ur_exit, ↓ur_region, ↓ur_cond, ↓cont_seq, ↓cont_lp, ↓leave_seq, ↓leave_blk, ↓ops_consN, ↓ops_guardN, nY_move, nY_assign, nY_pick, nY_alloc, nY_load, nY_store, nY_binOp, nY_fieldAddr, nY_indexAddr, nY_callf, ↓ops_nil, opsIf_some, opsIf_none, condC_true, guardC_ff, Option.map_some, Option.bind_some, Option.getD_some, Nat.reduceLT, Bool.false_eq_true, ↓upd_same, ↓upd_ne, Nat.reduceBEq, true_and, and_true, List.getD_cons_zero, List.getD_cons_succ, List.getElem?_toArray, List.getElem?_cons_zero, List.getElem?_cons_succ, cfg_P, cfg_tab, cfg_muts, cfg_frz, cfg_num, numOf_eq, List.length_map, ↓havoc_in, ↓havoc_out, agree_upd, agree_havoc, List.contains_cons, List.contains_nil, Bool.or_false, Bool.or_true, Int.natCast_nonneg, Int.ofNat_lt, Int.toNat_natCast, decide_true, decide_false, PV.int.injEq, tabOf_cons, tab_v, Bool.and_self, List.nil_append, List.append_nil, updO_same, List.length_cons, List.length_nil, Nat.zero_add, Nat.add_zero, List.drop_zero, List.take_zero, Nat.reduceAdd, List.set_cons_zero, nth_zero, Nat.lt_succ_self, not_true_eq_false, Nat.le_refl, pur_int, cells_agg, ↓ev_tmp, ↓ev_int, ↓ev_func, ↓guardP_eq, grd_some, ↓iop_move, ↓iop_assign, ↓pick3_bool, ↓iop_pick, ↓iop_alloc, ↓iop_load, ↓iop_store, ↓iop_binOp, ↓iop_fieldAddr, ↓iop_indexAddr, idxA_int, ↓iop_callv, nrmAll_cons, nrmAll_nil, nrm_int, pickP_f, pickP_t, loadP_vptr, loadP_ptr, setCells_agg, storeP_ptr, fieldP_vptr, fieldP_ptr, indexP_lits, b_add, b_andNot, b_neq, b_lss, b_gtr, splice_eq, env0_eq, valT_eq, pursL_cons, pursL_nil, Store.new, Store.set, ↓reduceIte, arr_eq, arrB_some, callP_eq, List.take_succ_cons, List.drop_succ_cons, List.drop_nil, List.take_nil, ↓evs_cons, ↓evs_nil, beq_self_eq_true, see_eq, and_false, Bool.true_eq_false, nth_reps, pur_reps, Try.f57, ty3, ty22, ty24, ty56, ty64, s_has, h14, hlt, hs2, hk64, hsk, andNot_i64, af_at, tk_at, du_at, hl.2.1, hz, hw1, hw2, hlate]
        rw [this]; exact ⟨hw k hlt, hJ'' _ _⟩
      · have hgo := hgo (by simp [stepOK, hsk, hsb]; omega)
        simp +contextual (maxSteps := 4000000) only [↓ur_skip, ↓ur_seq, ↓ur_block, ↓ur_ret, ↓ur_region, ↓ur_cond, ↓cont_seq, ↓cont_blk, ↓cont_lp, ↓done_nil, ↓done_seq, ↓done_blk, ↓done_lp, ↓ops_consN, ↓ops_guardN, ↓ops_consVc, ↓opsV_yield, nY_move, nY_assign, nY_pick, nY_alloc, nY_build, nY_load, nY_store, nY_binOp, nY_unOp, nY_fieldAddr, nY_indexAddr, nY_callf, ↓ops_nil, opsIf_some, opsIf_none, condC_true, condC_false, guardC_ff, Option.map_some, Option.bind_some, Option.getD_some, Nat.reduceLT, Bool.false_eq_true, ↓upd_same, ↓upd_ne, Nat.reduceBEq, true_and, and_true, List.getD_cons_zero, List.getD_cons_succ, List.getElem?_toArray, List.getElem?_cons_zero, List.getElem?_cons_succ, cfg_P, cfg_tab, cfg_muts, cfg_frz, cfg_num, numOf_eq, List.length_map, ↓havoc_in, ↓havoc_out, agree_upd, agree_havoc, List.contains_cons, List.contains_nil, Bool.or_false, Bool.or_true, Int.natCast_nonneg, Int.ofNat_lt, Int.toNat_natCast, decide_true, decide_false, PV.int.injEq, tabOf_cons, tab_v, Bool.and_self, List.cons_append, List.nil_append, List.append_nil, updO_same, List.length_cons, List.length_nil, Nat.zero_add, Nat.add_zero, List.drop_zero, List.take_zero, Nat.reduceAdd, List.set_cons_zero, Nat.reduceLeDiff, nth_zero, Nat.lt_succ_self, reduceCtorEq, not_true_eq_false, or_true, Nat.le_refl, cells_int, pur_int, cells_agg, ↓ev_tmp, ↓ev_int, ↓ev_func, ↓guardP_eq, grd_some, ↓iop_move, ↓iop_assign, ↓pick3_bool, ↓iop_pick, ↓iop_alloc, ↓iop_build, ↓iop_load, ↓iop_store, ↓iop_binOp, ↓iop_unOp, ↓iop_fieldAddr, ↓iop_indexAddr, idxA_int, ↓iop_callv, nrmAll_cons, nrmAll_nil, nrm_int, pickP_f, pickP_t, loadP_vptr, loadP_ptr, setCells_agg, storeP_ptr, fieldP_vptr, fieldP_ptr, indexP_lits, b_add, b_mul, b_andNot, b_neq, b_lss, b_gtr, u_not, fill_nil, fill_cons, fill1_some, buildP_eq, bldA_none, splice_eq, env0_eq, valT_eq, pursL_cons, pursL_nil, Store.new, Store.set, ↓reduceIte, arr_eq, arrB_some, callP_eq, List.take_succ_cons, List.drop_succ_cons, List.drop_nil, List.take_nil, ↓evs_cons, ↓evs_nil, ↓evp_cons, ↓evp_nil, beq_self_eq_true, see_eq, and_false, Bool.true_eq_false, nth_reps, pur_reps, Try.f57, ty3, ty22, ty24, ty56, ty64, ty78, s_has, h14, hlt, hs2, hk64, hsk, andNot_i64, af_at, tk_at, du_at, ch_at, hl.2.1, hz, hw1, hw2, hw3, hw4, hlate]
        refine hgo _ _ (hJ'' _ _) (fun st2 h2 => ?_) (fun st2 h2 => ?_)
        · show condC (.bool false) _ _
          rw [condC_false]; exact ⟨hw k hlt, h2⟩
        · show condC (.bool true) _ _
          rw [condC_true]; exact .inr h2
    · have e : k = rs.length := by omega
      subst e
      simp +contextual (maxSteps := 4000000) only [↓ur_seq, ↓ur_exit, ↓ur_region, ↓ur_cond, ↓cont_nil, ↓cont_seq, ↓leave_seq, ↓leave_blk, ↓leave_lp, ↓ops_consN, nY_binOp, ↓ops_nil, opsIf_some, condC_false, Option.map_some, Nat.reduceLT, ↓upd_same, ↓upd_ne, Nat.reduceBEq, true_and, cfg_P, ↓havoc_in, ↓havoc_out, List.contains_cons, List.contains_nil, Bool.or_false, Bool.or_true, Int.ofNat_lt, decide_false, Nat.lt_irrefl, reduceCtorEq, or_false, ↓ev_tmp, ↓iop_binOp, b_lss, ↓reduceIte, beq_self_eq_true, nth_reps, pur_reps, Try.f57, h14]
      exact .inl hJ

/-! Closed sets. -/
def closT (rs : List Rep) (s : Nat) : Nat → Bool
  | 0 => true
  | k + 1 => closT rs s k && (!s.testBit k || sub (ac rs k) s)
def closM (rs : List Rep) (s : Nat) : Bool := closT rs s rs.length
theorem clos_iff {rs : List Rep} {s n : Nat} : closT rs s n = true ↔ ∀ k, k < n → s.testBit k = true → sub (ac rs k) s = true := by
  induction n with
  | zero => simp [closT]
  | succ n ih =>
    simp only [closT, Bool.and_eq_true, ih, Bool.or_eq_true, Bool.not_eq_true']
    constructor
    · rintro ⟨h1, h2⟩ k hk hs
      by_cases e : k = n
      · subst e; rcases h2 with h2 | h2
        · rw [h2] at hs; cases hs
        · exact h2
      · exact h1 k (by omega) hs
    · intro h
      refine ⟨fun k hk => h k (by omega), ?_⟩
      cases hs : s.testBit n with
      | false => exact .inl rfl
      | true => exact .inr (h n (by omega) hs)
theorem clos_false {rs : List Rep} {s k : Nat} (hk : k < rs.length) (h1 : s.testBit k = true) (h2 : sub (ac rs k) s = false) : closM rs s = false := by
  cases h : closM rs s with
  | false => rfl
  | true => have := clos_iff.1 h k hk h1; rw [h2] at this; cases this
noncomputable def A_closed : (Int) × (List Rep) × (Nat) → List PV := fun (st, rs, s) => [.agg [I st, reps rs], I s]
noncomputable def R_closed : (Int) × (List Rep) × (Nat) → PV := fun (st, rs, s) => B (closM rs s)
def H_closed : (Int) × (List Rep) × (Nat) → Prop := fun (st, rs, s) => OKc st rs ∧ s < 1024
noncomputable def e_closed : Nat × Ent := (51, .v (specOf A_closed R_closed H_closed))
theorem j_closed : ∀ i j, A_closed i = A_closed j → i = j := by
  rintro ⟨st₁, rs₁, s₁⟩ ⟨st₂, rs₂, s₂⟩ h
  simp only [A_closed, List.cons.injEq, and_true, PV.lits.injEq, PV.int.injEq, PV.bool.injEq, PV.str.injEq, PV.agg.injEq, PV.func.injEq, PV.vptr.injEq, true_and, List.map_nil, inj_ints, inj_strs, inj_reps] at h
  simp [Prod.ext_iff, h] <;> omega
theorem s_closed (st : Int) (rs : List Rep) (s : Nat) : specOf A_closed R_closed H_closed [.agg [I st, reps rs], I s] = @ite (Option (PV)) (OKc st rs ∧ s < 1024) (Classical.propDecidable _) (some (B (closM rs s))) none := specOf_if j_closed (st, rs, s)
def C_closed : Prop := ∀ (st : Int) (rs : List Rep) (s : Nat) (h : OKc st rs ∧ s < 1024) , VC Try.prog 51 [.agg [I st, reps rs], I s] (B (closM rs s))
def O_closed : Prop := EntOK Try.prog e_closed.1 e_closed.2
theorem k_closed (c : C_closed) : O_closed := specOf_ok fun ⟨st, rs, s⟩ h => c st rs s h
theorem c_closed : C_closed := by
  rintro st rs s ⟨hc, hs1⟩
  refine vc_ofU mixed (l := [e_has]) ((eok_cons o_has eok_nil)) [] []  Try.func51 rfl (by decide +kernel) (N := 26) rfl (by simp) rfl (by kernel_rfl) fun hs => ?_
  simp only [smallL, PV.small, List.length_map, and_true, true_and] at hs
  generalize hr : closM rs s = r
  have h10 := hc.len
  have hs2 : s < 9223372036854775808 := by omega
  have hp := pow1024 (k := rs.length) h10
  have hw : ∀ i : Nat, i < rs.length → IntKind.i64.wrap ((i : Int) + 1) = ((i + 1 : Nat) : Int) := fun i g => by rw [wrap64 (by omega) (by omega)]; omega
  simp +contextual (maxSteps := 4000000) only [↓ur_seq, ↓ur_block, ↓ur_region, ↓cont_seq, ↓ops_consN, nY_move, nY_assign, nY_box, nY_load, nY_fieldAddr, nY_callb, ↓ops_nil, opsIf_some, Option.map_some, Option.bind_some, Option.getD_some, Nat.reduceLT, Bool.false_eq_true, ↓upd_same, ↓upd_ne, Nat.reduceBEq, true_and, List.getD_cons_zero, List.getElem?_cons_zero, List.getElem?_cons_succ, cfg_P, cfg_muts, cfg_frz, List.length_map, List.contains_nil, List.length_cons, List.length_nil, Nat.zero_add, Nat.reduceAdd, Nat.lt_succ_self, st0, cells_agg, ↓ev_tmp, ↓ev_int, ↓ev_bool, ↓iop_move, ↓iop_assign, ↓iop_box, ↓iop_load, ↓iop_fieldAddr, ↓iop_callb, bi_len, lenM_none, pickP_f, loadP_vptr, fieldP_vptr, lenP_lits, env0_eq, ↓reduceIte, boxP_eq, ↓evs_cons, ↓evs_nil, see_eq, e_has, nth_reps, pur_reps, Try.f51, ty22, ty24]
  refine loop_cnt [4, 5, 6, 10, 11, 12, 13, 14, 15, 16, 17, 18, 19, 20, 21, 22, 23, 24, 25] rs.length (fun k ρ st' => ρ 10 = I k ∧ closT rs s k = true) (.refl _) ?_ ?_
  · simp +contextual (maxSteps := 4000000) only [↓upd_same, true_and, Int.cast_ofNat_Int, nth_reps, pur_reps, Try.f51]
    rfl
  · rintro k ρ ⟨ob, M⟩ hk ⟨h10', hcl⟩
    by_cases hlt : k < rs.length
    · have hk64 : k ≤ 64 := by omega
      have hl := hc.rep k hlt
      have hac : ac rs k < 9223372036854775808 := by omega
      have hz := andNI_zero hac hs2
      have hcs : closT rs s (k + 1) = (closT rs s k && (!s.testBit k || sub (ac rs k) s)) := rfl
      rw [hcl] at hcs
      cases hsk : s.testBit k
      case false =>
        rw [hsk] at hcs
        simp +contextual (maxSteps := 4000000) only [↓ur_skip, ↓ur_seq, ↓ur_block, ↓ur_region, ↓ur_cond, ↓cont_seq, ↓cont_blk, ↓cont_lp, ↓ops_consN, ↓ops_guardN, nY_move, nY_assign, nY_pick, nY_alloc, nY_load, nY_store, nY_binOp, nY_fieldAddr, nY_indexAddr, nY_callf, ↓ops_nil, opsIf_some, opsIf_none, condC_true, condC_false, guardC_ft, Option.map_some, Option.bind_some, Option.getD_some, Nat.reduceLT, Bool.false_eq_true, ↓upd_same, ↓upd_ne, Nat.reduceBEq, true_and, and_true, List.getD_cons_zero, List.getD_cons_succ, List.getElem?_toArray, List.getElem?_cons_zero, List.getElem?_cons_succ, cfg_P, cfg_tab, cfg_muts, cfg_frz, cfg_num, numOf_eq, List.length_map, ↓havoc_in, ↓havoc_out, agree_upd, agree_havoc, List.contains_cons, List.contains_nil, Bool.or_false, Bool.or_true, Bool.true_or, Int.natCast_nonneg, Int.ofNat_lt, Int.toNat_natCast, decide_true, PV.int.injEq, tabOf_cons, tab_v, Bool.and_self, List.nil_append, List.append_nil, updO_same, List.length_cons, List.length_nil, Nat.zero_add, List.drop_zero, List.take_zero, Nat.reduceAdd, List.set_cons_zero, nth_zero, Nat.lt_succ_self, Bool.not_false, Nat.le_refl, pur_int, cells_agg, ↓ev_tmp, ↓ev_int, ↓ev_bool, ↓ev_func, ↓guardP_eq, grd_some, ↓iop_move, ↓iop_assign, ↓pick3_bool, ↓iop_pick, ↓iop_alloc, ↓iop_load, ↓iop_store, ↓iop_binOp, ↓iop_indexAddr, idxA_int, ↓iop_callv, nrmAll_cons, nrmAll_nil, nrm_int, pickP_t, loadP_vptr, setCells_agg, storeP_ptr, indexP_lits, b_add, b_lss, splice_eq, env0_eq, valT_eq, pursL_cons, pursL_nil, Store.new, Store.set, ↓reduceIte, arr_eq, arrB_some, callP_eq, List.take_succ_cons, List.drop_succ_cons, List.drop_nil, List.take_nil, ↓evs_cons, ↓evs_nil, beq_self_eq_true, see_eq, and_false, Bool.true_eq_false, s_has, nth_reps, pur_reps, Try.f51, ty3, ty22, ty56, ty64, h10', hlt, hs2, hk64, hsk, hcs]
        exact hw k hlt
      cases hsb : sub (ac rs k) s
      case false =>
        have hz : ¬ andNI (ac rs k) s = 0 := fun g => by have := hz.1 g; rw [hsb] at this; cases this
        simp +contextual (maxSteps := 4000000) only [↓ur_skip, ↓ur_seq, ↓ur_block, ↓ur_ret, ↓ur_region, ↓ur_cond, ↓cont_seq, ↓done_nil, ↓done_seq, ↓done_blk, ↓done_lp, ↓ops_consN, ↓ops_guardN, nY_move, nY_assign, nY_pick, nY_alloc, nY_load, nY_store, nY_binOp, nY_fieldAddr, nY_indexAddr, nY_callf, ↓ops_nil, opsIf_some, opsIf_none, condC_true, guardC_tt, Option.map_some, Option.bind_some, Option.getD_some, Nat.reduceLT, Bool.false_eq_true, ↓upd_same, ↓upd_ne, Nat.reduceBEq, true_and, and_true, List.getD_cons_zero, List.getD_cons_succ, List.getElem?_toArray, List.getElem?_cons_zero, List.getElem?_cons_succ, endQ, cfg_P, cfg_tab, cfg_muts, cfg_frz, cfg_num, numOf_eq, List.length_map, ↓havoc_in, ↓havoc_out, List.contains_cons, List.contains_nil, Bool.or_false, Bool.or_true, Int.natCast_nonneg, Int.ofNat_lt, Int.toNat_natCast, decide_true, Option.some.injEq, exists_eq_left', tabOf_cons, tab_v, Bool.and_self, List.nil_append, List.append_nil, updO_same, List.length_cons, List.length_nil, Nat.zero_add, List.drop_zero, List.take_zero, Nat.reduceAdd, List.set_cons_zero, nth_zero, Nat.lt_succ_self, not_false_eq_true, Nat.le_refl, pur_int, cells_agg, DRx_bool, ↓ev_tmp, ↓ev_int, ↓ev_bool, ↓ev_func, ↓guardP_eq, grd_some, ↓iop_move, ↓iop_assign, ↓pick3_bool, ↓iop_pick, ↓iop_alloc, ↓iop_load, ↓iop_store, ↓iop_binOp, ↓iop_fieldAddr, ↓iop_indexAddr, idxA_int, ↓iop_callv, nrmAll_cons, nrmAll_nil, nrm_int, pickP_f, pickP_t, loadP_vptr, loadP_ptr, setCells_agg, storeP_ptr, fieldP_ptr, indexP_lits, b_andNot, b_neq, b_lss, splice_eq, env0_eq, ires_eq, iresL_1, iresAll_nil, iresAll_cons, iresOne_tmp, valT_eq, pursL_cons, pursL_nil, Store.new, Store.set, ↓reduceIte, arr_eq, arrB_some, callP_eq, List.take_succ_cons, List.drop_succ_cons, List.drop_nil, List.take_nil, ↓evs_cons, ↓evs_nil, beq_self_eq_true, see_eq, and_false, Bool.true_eq_false, s_has, nth_reps, pur_reps, Try.f51, ty3, ty22, ty56, ty64, h10', hlt, hs2, hk64, hsk, andNot_i64, af_at, hl.2.1, hz]
        rw [← hr, clos_false hlt hsk hsb]
      have hz := hz.2 hsb
      rw [hsk, hsb] at hcs
      simp +contextual (maxSteps := 4000000) only [↓ur_skip, ↓ur_seq, ↓ur_block, ↓ur_region, ↓ur_cond, ↓cont_seq, ↓cont_blk, ↓cont_lp, ↓ops_consN, ↓ops_guardN, nY_move, nY_assign, nY_pick, nY_alloc, nY_load, nY_store, nY_binOp, nY_fieldAddr, nY_indexAddr, nY_callf, ↓ops_nil, opsIf_some, opsIf_none, condC_true, condC_false, guardC_tt, Option.map_some, Option.bind_some, Option.getD_some, Nat.reduceLT, Bool.false_eq_true, ↓upd_same, ↓upd_ne, Nat.reduceBEq, true_and, and_true, List.getD_cons_zero, List.getD_cons_succ, List.getElem?_toArray, List.getElem?_cons_zero, List.getElem?_cons_succ, cfg_P, cfg_tab, cfg_muts, cfg_frz, cfg_num, numOf_eq, List.length_map, ↓havoc_in, ↓havoc_out, agree_upd, agree_havoc, List.contains_cons, List.contains_nil, Bool.or_false, Bool.or_true, Int.natCast_nonneg, Int.ofNat_lt, Int.toNat_natCast, decide_true, decide_false, PV.int.injEq, tabOf_cons, tab_v, Bool.and_self, List.nil_append, List.append_nil, updO_same, List.length_cons, List.length_nil, Nat.zero_add, List.drop_zero, List.take_zero, Nat.reduceAdd, List.set_cons_zero, nth_zero, Nat.lt_succ_self, Bool.not_true, not_true_eq_false, Nat.le_refl, pur_int, cells_agg, ↓ev_tmp, ↓ev_int, ↓ev_func, ↓guardP_eq, grd_some, ↓iop_move, ↓iop_assign, ↓pick3_bool, ↓iop_pick, ↓iop_alloc, ↓iop_load, ↓iop_store, ↓iop_binOp, ↓iop_fieldAddr, ↓iop_indexAddr, idxA_int, ↓iop_callv, nrmAll_cons, nrmAll_nil, nrm_int, pickP_f, pickP_t, loadP_vptr, loadP_ptr, setCells_agg, storeP_ptr, fieldP_ptr, indexP_lits, b_add, b_andNot, b_neq, b_lss, splice_eq, env0_eq, valT_eq, pursL_cons, pursL_nil, Store.new, Store.set, ↓reduceIte, arr_eq, arrB_some, callP_eq, List.take_succ_cons, List.drop_succ_cons, List.drop_nil, List.take_nil, ↓evs_cons, ↓evs_nil, beq_self_eq_true, see_eq, and_false, Bool.true_eq_false, s_has, nth_reps, pur_reps, Try.f51, ty3, ty22, ty56, ty64, h10', hlt, hs2, hk64, hsk, andNot_i64, af_at, hl.2.1, hz, hcs]
      exact hw k hlt
    · have e : k = rs.length := by omega
      subst e
      simp +contextual (maxSteps := 4000000) only [↓ur_seq, ↓ur_exit, ↓ur_ret, ↓ur_region, ↓ur_cond, ↓cont_seq, ↓leave_seq, ↓leave_blk, ↓leave_lp, ↓done_nil, ↓ops_consN, nY_assign, nY_binOp, ↓ops_nil, opsIf_some, condC_false, Option.map_some, Option.bind_some, Nat.reduceLT, ↓upd_same, ↓upd_ne, Nat.reduceBEq, true_and, endQ, cfg_P, ↓havoc_in, ↓havoc_out, List.contains_cons, List.contains_nil, Bool.or_false, Bool.or_true, Int.ofNat_lt, decide_false, Option.some.injEq, exists_eq_left', Nat.lt_irrefl, DRx_bool, ↓ev_tmp, ↓ev_bool, ↓iop_assign, ↓iop_binOp, b_lss, ires_eq, iresL_1, iresAll_nil, iresAll_cons, iresOne_tmp, ↓reduceIte, beq_self_eq_true, nth_reps, pur_reps, Try.f51, h10']
      rw [← hr, closM, hcl]
theorem o_closed : O_closed := k_closed c_closed
noncomputable def A_rclosed : (Int) × (List Rep) × (Nat) → List PV := fun (st, rs, s) => [.agg [I st, reps rs], I s]
noncomputable def R_rclosed : (Int) × (List Rep) × (Nat) → PV := fun (st, rs, s) => B (closM rs s)
def H_rclosed : (Int) × (List Rep) × (Nat) → Prop := fun (st, rs, s) => OKc st rs ∧ s < 1024
noncomputable def e_rclosed : Nat × Ent := (52, .v (specOf A_rclosed R_rclosed H_rclosed))
theorem j_rclosed : ∀ i j, A_rclosed i = A_rclosed j → i = j := by
  rintro ⟨st₁, rs₁, s₁⟩ ⟨st₂, rs₂, s₂⟩ h
  simp only [A_rclosed, List.cons.injEq, and_true, PV.lits.injEq, PV.int.injEq, PV.bool.injEq, PV.str.injEq, PV.agg.injEq, PV.func.injEq, PV.vptr.injEq, true_and, List.map_nil, inj_ints, inj_strs, inj_reps] at h
  simp [Prod.ext_iff, h] <;> omega
theorem s_rclosed (st : Int) (rs : List Rep) (s : Nat) : specOf A_rclosed R_rclosed H_rclosed [.agg [I st, reps rs], I s] = @ite (Option (PV)) (OKc st rs ∧ s < 1024) (Classical.propDecidable _) (some (B (closM rs s))) none := specOf_if j_rclosed (st, rs, s)
def C_rclosed : Prop := ∀ (st : Int) (rs : List Rep) (s : Nat) (h : OKc st rs ∧ s < 1024) , VC Try.prog 52 [.agg [I st, reps rs], I s] (B (closM rs s))
def O_rclosed : Prop := EntOK Try.prog e_rclosed.1 e_rclosed.2
theorem k_rclosed (c : C_rclosed) : O_rclosed := specOf_ok fun ⟨st, rs, s⟩ h => c st rs s h
theorem c_rclosed : C_rclosed := by
  rintro st rs s ⟨hc, hs1⟩
  refine vc_ofU mixed (l := [e_in, e_rwin]) ((eok_cons o_in (eok_cons o_rwin eok_nil))) [] []  Try.func52 rfl (by decide +kernel) (N := 31) rfl (by simp) rfl (by kernel_rfl) fun hs => ?_
  simp only [smallL, PV.small, List.length_map, and_true, true_and] at hs
  generalize hr : closM rs s = r
  have h10 := hc.len
  have hs2 : s < 9223372036854775808 := by omega
  have hp := pow1024 (k := rs.length) h10
  have hw : ∀ i : Nat, i < rs.length → IntKind.i64.wrap ((i : Int) + 1) = ((i + 1 : Nat) : Int) := fun i g => by rw [wrap64 (by omega) (by omega)]; omega
  simp +contextual (maxSteps := 4000000) only [↓ur_seq, ↓ur_block, ↓ur_region, ↓cont_seq, ↓ops_consN, nY_assign, nY_box, ↓ops_nil, opsIf_some, Option.getD_some, Nat.reduceLT, Bool.false_eq_true, true_and, List.getD_cons_zero, cfg_muts, List.contains_nil, List.length_cons, List.length_nil, Nat.zero_add, Nat.reduceAdd, st0, cells_agg, ↓ev_tmp, ↓ev_int, ↓ev_bool, ↓iop_assign, ↓iop_box, env0_eq, ↓reduceIte, boxP_eq, e_in, e_rwin, nth_reps, pur_reps, Try.f52]
  refine loop_cnt [4, 5, 6, 7, 8, 9, 10, 11, 12, 13, 14, 15, 16, 17, 18, 19, 20, 21, 22, 23, 24, 25, 26, 27, 28, 29, 30] rs.length (fun k ρ st' => ρ 5 = I k ∧ closT rs s k = true) (.refl _) ?_ ?_
  · simp +contextual (maxSteps := 4000000) only [↓upd_same, true_and, Int.cast_ofNat_Int, nth_reps, pur_reps, Try.f52]
    rfl
  · rintro k ρ ⟨ob, M⟩ hk ⟨h10', hcl⟩
    by_cases hlt : k < rs.length
    · have hk64 : k ≤ 64 := by omega
      have hl := hc.rep k hlt
      have hac : ac rs k < 1024 := by omega
      have hcs : closT rs s (k + 1) = (closT rs s k && (!s.testBit k || sub (ac rs k) s)) := rfl
      rw [hcl] at hcs
      cases hsk : s.testBit k <;> cases hsb : sub (ac rs k) s <;> rw [hsk, hsb] at hcs
      · simp +contextual (maxSteps := 4000000) only [↓ur_skip, ↓ur_seq, ↓ur_block, ↓ur_region, ↓ur_cond, ↓cont_seq, ↓cont_blk, ↓cont_lp, ↓ops_consN, ↓ops_guardN, nY_move, nY_assign, nY_pick, nY_load, nY_binOp, nY_unOp, nY_fieldAddr, nY_indexAddr, nY_callf, nY_callb, ↓ops_nil, opsIf_some, condC_true, condC_false, guardC_ft, Option.map_some, Option.bind_some, Option.getD_some, Nat.reduceLT, Bool.false_eq_true, ↓upd_same, ↓upd_ne, Nat.reduceBEq, true_and, and_true, List.getD_cons_zero, List.getD_cons_succ, List.getElem?_toArray, List.getElem?_cons_zero, List.getElem?_cons_succ, cfg_P, cfg_tab, cfg_muts, cfg_frz, List.length_map, ↓havoc_in, ↓havoc_out, agree_upd, agree_havoc, List.contains_cons, List.contains_nil, Bool.or_false, Bool.or_true, Int.natCast_nonneg, Int.ofNat_lt, Int.toNat_natCast, decide_true, PV.int.injEq, tabOf_cons, tab_v, Bool.and_self, Nat.reduceEqDiff, List.nil_append, List.append_nil, Nat.zero_add, Nat.lt_succ_self, Bool.not_false, pur_int, cells_agg, ↓ev_tmp, ↓ev_int, ↓ev_bool, ↓ev_func, ↓guardP_eq, grd_some, ↓iop_move, ↓iop_assign, ↓pick3_bool, ↓iop_pick, ↓iop_load, ↓iop_binOp, ↓iop_fieldAddr, ↓iop_indexAddr, idxA_int, ↓iop_callv, ↓iop_callb, nrmAll_cons, nrmAll_nil, bi_len, lenM_none, nrm_int, pickP_f, loadP_vptr, fieldP_vptr, indexP_lits, lenP_lits, b_add, b_lss, env0_eq, valT_eq, pursL_cons, pursL_nil, ↓reduceIte, callP_eq, ↓evs_cons, ↓evs_nil, beq_self_eq_true, see_eq, and_false, Bool.true_eq_false, s_in, s_rwin, nth_reps, pur_reps, Try.f52, ty3, ty22, ty24, ty56, h10', hlt, hs2, hk64, hsk, hsb, hac, af_at, hl.2.1, hcs]
        exact hw k hlt
      · simp +contextual (maxSteps := 4000000) only [↓ur_skip, ↓ur_seq, ↓ur_block, ↓ur_region, ↓ur_cond, ↓cont_seq, ↓cont_blk, ↓cont_lp, ↓ops_consN, ↓ops_guardN, nY_move, nY_assign, nY_pick, nY_load, nY_binOp, nY_unOp, nY_fieldAddr, nY_indexAddr, nY_callf, nY_callb, ↓ops_nil, opsIf_some, condC_true, condC_false, guardC_ft, Option.map_some, Option.bind_some, Option.getD_some, Nat.reduceLT, Bool.false_eq_true, ↓upd_same, ↓upd_ne, Nat.reduceBEq, true_and, and_true, List.getD_cons_zero, List.getD_cons_succ, List.getElem?_toArray, List.getElem?_cons_zero, List.getElem?_cons_succ, cfg_P, cfg_tab, cfg_muts, cfg_frz, List.length_map, ↓havoc_in, ↓havoc_out, agree_upd, agree_havoc, List.contains_cons, List.contains_nil, Bool.or_false, Bool.or_true, Int.natCast_nonneg, Int.ofNat_lt, Int.toNat_natCast, decide_true, PV.int.injEq, tabOf_cons, tab_v, Bool.and_self, Nat.reduceEqDiff, List.nil_append, List.append_nil, Nat.zero_add, Nat.lt_succ_self, Bool.not_false, pur_int, cells_agg, ↓ev_tmp, ↓ev_int, ↓ev_bool, ↓ev_func, ↓guardP_eq, grd_some, ↓iop_move, ↓iop_assign, ↓pick3_bool, ↓iop_pick, ↓iop_load, ↓iop_binOp, ↓iop_fieldAddr, ↓iop_indexAddr, idxA_int, ↓iop_callv, ↓iop_callb, nrmAll_cons, nrmAll_nil, bi_len, lenM_none, nrm_int, pickP_f, loadP_vptr, fieldP_vptr, indexP_lits, lenP_lits, b_add, b_lss, env0_eq, valT_eq, pursL_cons, pursL_nil, ↓reduceIte, callP_eq, ↓evs_cons, ↓evs_nil, beq_self_eq_true, see_eq, and_false, Bool.true_eq_false, s_in, s_rwin, nth_reps, pur_reps, Try.f52, ty3, ty22, ty24, ty56, h10', hlt, hs2, hk64, hsk, hsb, hac, af_at, hl.2.1, hcs]
        exact hw k hlt
      · simp +contextual (maxSteps := 4000000) only [↓ur_skip, ↓ur_seq, ↓ur_block, ↓ur_ret, ↓ur_region, ↓ur_cond, ↓cont_seq, ↓done_nil, ↓done_seq, ↓done_blk, ↓done_lp, ↓ops_consN, ↓ops_guardN, nY_move, nY_assign, nY_pick, nY_load, nY_binOp, nY_unOp, nY_fieldAddr, nY_indexAddr, nY_callf, nY_callb, ↓ops_nil, opsIf_some, condC_true, guardC_tt, Option.map_some, Option.bind_some, Option.getD_some, Nat.reduceLT, Bool.false_eq_true, ↓upd_same, ↓upd_ne, Nat.reduceBEq, true_and, and_true, List.getD_cons_zero, List.getD_cons_succ, List.getElem?_toArray, List.getElem?_cons_zero, List.getElem?_cons_succ, endQ, cfg_P, cfg_tab, cfg_muts, cfg_frz, List.length_map, ↓havoc_in, ↓havoc_out, List.contains_cons, List.contains_nil, Bool.or_false, Bool.or_true, Int.natCast_nonneg, Int.ofNat_lt, Int.toNat_natCast, decide_true, Option.some.injEq, exists_eq_left', tabOf_cons, tab_v, Bool.and_self, Nat.reduceEqDiff, List.nil_append, List.append_nil, Nat.zero_add, Nat.lt_succ_self, Bool.not_false, pur_int, cells_agg, DRx_bool, ↓ev_tmp, ↓ev_bool, ↓ev_func, ↓guardP_eq, grd_some, ↓iop_move, ↓iop_assign, ↓pick3_bool, ↓iop_pick, ↓iop_load, ↓iop_binOp, ↓iop_unOp, ↓iop_fieldAddr, ↓iop_indexAddr, idxA_int, ↓iop_callv, ↓iop_callb, nrmAll_cons, nrmAll_nil, bi_len, lenM_none, nrm_int, pickP_f, loadP_vptr, fieldP_vptr, indexP_lits, lenP_lits, b_lss, u_not, env0_eq, ires_eq, iresL_1, iresAll_nil, iresAll_cons, iresOne_tmp, valT_eq, pursL_cons, pursL_nil, ↓reduceIte, callP_eq, ↓evs_cons, ↓evs_nil, beq_self_eq_true, see_eq, and_false, Bool.true_eq_false, s_in, s_rwin, nth_reps, pur_reps, Try.f52, ty3, ty22, ty24, ty56, h10', hlt, hs2, hk64, hsk, hsb, hac, af_at, hl.2.1, hcs]
        rw [← hr, clos_false hlt hsk hsb]
      · simp +contextual (maxSteps := 4000000) only [↓ur_skip, ↓ur_seq, ↓ur_block, ↓ur_region, ↓ur_cond, ↓cont_seq, ↓cont_blk, ↓cont_lp, ↓ops_consN, ↓ops_guardN, nY_move, nY_assign, nY_pick, nY_load, nY_binOp, nY_unOp, nY_fieldAddr, nY_indexAddr, nY_callf, nY_callb, ↓ops_nil, opsIf_some, condC_true, condC_false, guardC_tt, Option.map_some, Option.bind_some, Option.getD_some, Nat.reduceLT, Bool.false_eq_true, ↓upd_same, ↓upd_ne, Nat.reduceBEq, true_and, and_true, List.getD_cons_zero, List.getD_cons_succ, List.getElem?_toArray, List.getElem?_cons_zero, List.getElem?_cons_succ, cfg_P, cfg_tab, cfg_muts, cfg_frz, List.length_map, ↓havoc_in, ↓havoc_out, agree_upd, agree_havoc, List.contains_cons, List.contains_nil, Bool.or_false, Bool.or_true, Int.natCast_nonneg, Int.ofNat_lt, Int.toNat_natCast, decide_true, PV.int.injEq, tabOf_cons, tab_v, Bool.and_self, Nat.reduceEqDiff, List.nil_append, List.append_nil, Nat.zero_add, Nat.lt_succ_self, Bool.not_true, pur_int, cells_agg, ↓ev_tmp, ↓ev_int, ↓ev_func, ↓guardP_eq, grd_some, ↓iop_move, ↓iop_assign, ↓pick3_bool, ↓iop_pick, ↓iop_load, ↓iop_binOp, ↓iop_unOp, ↓iop_fieldAddr, ↓iop_indexAddr, idxA_int, ↓iop_callv, ↓iop_callb, nrmAll_cons, nrmAll_nil, bi_len, lenM_none, nrm_int, pickP_f, loadP_vptr, fieldP_vptr, indexP_lits, lenP_lits, b_add, b_lss, u_not, env0_eq, valT_eq, pursL_cons, pursL_nil, ↓reduceIte, callP_eq, ↓evs_cons, ↓evs_nil, beq_self_eq_true, see_eq, and_false, Bool.true_eq_false, s_in, s_rwin, nth_reps, pur_reps, Try.f52, ty3, ty22, ty24, ty56, h10', hlt, hs2, hk64, hsk, hsb, hac, af_at, hl.2.1, hcs]
        exact hw k hlt
    · have e : k = rs.length := by omega
      subst e
      simp +contextual (maxSteps := 4000000) only [↓ur_seq, ↓ur_exit, ↓ur_ret, ↓ur_region, ↓ur_cond, ↓cont_seq, ↓leave_seq, ↓leave_blk, ↓leave_lp, ↓done_nil, ↓ops_consN, nY_move, nY_assign, nY_load, nY_binOp, nY_fieldAddr, nY_callb, ↓ops_nil, opsIf_some, condC_false, Option.map_some, Option.bind_some, Option.getD_some, Nat.reduceLT, Bool.false_eq_true, ↓upd_same, ↓upd_ne, Nat.reduceBEq, true_and, List.getElem?_cons_zero, List.getElem?_cons_succ, endQ, cfg_P, cfg_frz, List.length_map, ↓havoc_in, ↓havoc_out, List.contains_cons, List.contains_nil, Bool.or_false, Bool.or_true, Int.ofNat_lt, decide_false, Option.some.injEq, exists_eq_left', Nat.zero_add, Nat.lt_irrefl, Nat.lt_succ_self, DRx_bool, ↓ev_tmp, ↓ev_bool, ↓iop_move, ↓iop_assign, ↓iop_load, ↓iop_binOp, ↓iop_fieldAddr, ↓iop_callb, bi_len, lenM_none, pickP_f, loadP_vptr, fieldP_vptr, lenP_lits, b_lss, ires_eq, iresL_1, iresAll_nil, iresAll_cons, iresOne_tmp, ↓reduceIte, ↓evs_cons, ↓evs_nil, beq_self_eq_true, see_eq, nth_reps, pur_reps, Try.f52, ty22, ty24, h10']
      rw [← hr, closM, hcl]
theorem o_rclosed : O_rclosed := k_rclosed c_rclosed
end Sim
