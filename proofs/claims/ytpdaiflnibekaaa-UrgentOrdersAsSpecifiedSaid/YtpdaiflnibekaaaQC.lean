/- What functions of this seat compute, by values: contracts (lemmas of the statement's proof, under the conditions that each names). -/
import Derived.Test.YtpdaiflnibekaaaQB
namespace Sim
open Go Go.Proofs
set_option maxRecDepth 10000
set_option maxHeartbeats 2000000
set_option linter.unusedVariables false
set_option linter.unusedSimpArgs false
attribute [local congr] opsIf_congr condC_congr guardC_congr grd_congr pick3_congr obind_congr omap_congr

/-- A valid crew. -/
structure OKc (st : Int) (rs : List Rep) : Prop where
  len : rs.length ≤ 10
  start : 0 ≤ st ∧ st ≤ 1000000
  rep : ∀ k, k < rs.length → rangeOK (rs.getD k dR) ∧ af rs k = ((ac rs k : Nat) : Int) ∧ ac rs k < 2 ^ rs.length ∧ (ac rs k).testBit k = false
  all : doneT rs rs.length = 2 ^ rs.length - 1
theorem badM_zero {n k : Nat} {rs : List Rep} : badM n k (rs.getD k dR) = 0 ↔ rangeOK (rs.getD k dR) ∧ af rs k = ((ac rs k : Nat) : Int) ∧ ac rs k < 2 ^ n ∧ (ac rs k).testBit k = false := by
  have hp := one_le_pow n
  unfold badM
  have e : (rs.getD k dR).2.2.2 = af rs k := rfl
  rw [e]
  have e2 : (af rs k).toNat = ac rs k := rfl
  rw [e2]
  generalize 2 ^ n = q at *
  by_cases h1 : rangeOK (rs.getD k dR)
  · rw [if_neg (fun hn => hn h1)]
    by_cases h2 : 0 ≤ af rs k ∧ af rs k ≤ ((q - 1 : Nat) : Int)
    · have h3 : af rs k = ((ac rs k : Nat) : Int) ∧ ac rs k < q := by unfold ac; omega
      rw [if_neg (fun hn => hn h2)]
      cases hb : (ac rs k).testBit k
      · exact ⟨fun _ => ⟨h1, h3.1, h3.2, rfl⟩, fun _ => rfl⟩
      · exact ⟨fun h => by simp at h, fun h => by simp at h⟩
    · rw [if_pos h2]
      constructor
      · intro h; cases h
      · rintro ⟨_, h3, h4, _⟩
        exact absurd ⟨by omega, by omega⟩ h2
  · rw [if_pos h1]
    constructor
    · intro h; cases h
    · intro h; exact absurd h.1 h1
theorem badT_zero {rs : List Rep} {n : Nat} : badT rs n = 0 ↔ ∀ k, k < n → badM rs.length k (rs.getD k dR) = 0 := by
  induction n with
  | zero => simp [badT]
  | succ n ih =>
    simp only [badT]
    by_cases h : badT rs n = 0
    · rw [if_neg (by simp [h])]
      constructor
      · intro hb k hk
        by_cases e : k = n
        · subst e; exact hb
        · exact ih.1 h k (by omega)
      · intro hk; exact hk n (by omega)
    · rw [if_pos h]
      constructor
      · intro hb; exact absurd hb h
      · intro hk; exact absurd (ih.2 fun k hk' => hk k (by omega)) h
theorem check_zero {st : Int} {rs : List Rep} : checkM st rs = 0 ↔ OKc st rs := by
  unfold checkM
  by_cases h1 : 10 < rs.length
  · rw [if_pos h1]; constructor
    · intro h; cases h
    · intro h; have := h.len; omega
  rw [if_neg h1]
  by_cases h2 : 0 ≤ st ∧ st ≤ 1000000
  case neg =>
    rw [if_pos h2]; constructor
    · intro h; cases h
    · intro h; exact absurd h.start h2
  rw [if_neg (by simp [h2])]
  by_cases h3 : badT rs rs.length = 0
  case neg =>
    rw [if_pos h3]; constructor
    · intro h; exact absurd h h3
    · intro h; exact absurd (badT_zero.2 fun k hk => badM_zero.2 (h.rep k hk)) h3
  rw [if_neg (by simp [h3])]
  by_cases h4 : doneT rs rs.length = 2 ^ rs.length - 1
  · rw [if_neg (by simp [h4])]
    exact ⟨fun _ => ⟨by omega, h2, fun k hk => badM_zero.1 (badT_zero.1 h3 k hk), h4⟩, fun _ => rfl⟩
  · rw [if_pos h4]; constructor
    · intro h; cases h
    · intro h; exact absurd h.all h4
theorem OKc.tk {st : Int} {rs : List Rep} (h : OKc st rs) : tkOK rs := ⟨h.len, fun k hk => (h.rep k hk).1.1⟩
theorem OKc.ch {st : Int} {rs : List Rep} (h : OKc st rs) : chOK rs := ⟨h.len, fun k hk => (h.rep k hk).1.2.2⟩

noncomputable def A_rone : (Int) × (List Rep) × (Nat) → List PV := fun (st, rs, k) => [.agg [I st, reps rs], I k]
noncomputable def R_rone : (Int) × (List Rep) × (Nat) → PV := fun (st, rs, k) => I (badM rs.length k (rs.getD k dR))
def H_rone : (Int) × (List Rep) × (Nat) → Prop := fun (st, rs, k) => k < rs.length ∧ rs.length ≤ 10
noncomputable def e_rone : Nat × Ent := (45, .v (specOf A_rone R_rone H_rone))
theorem j_rone : ∀ i j, A_rone i = A_rone j → i = j := by
  rintro ⟨st₁, rs₁, k₁⟩ ⟨st₂, rs₂, k₂⟩ h
  simp only [A_rone, List.cons.injEq, and_true, PV.lits.injEq, PV.int.injEq, PV.bool.injEq, PV.str.injEq, PV.agg.injEq, PV.func.injEq, PV.vptr.injEq, true_and, List.map_nil, inj_ints, inj_strs, inj_reps] at h
  simp [Prod.ext_iff, h] <;> omega
theorem s_rone (st : Int) (rs : List Rep) (k : Nat) : specOf A_rone R_rone H_rone [.agg [I st, reps rs], I k] = @ite (Option (PV)) (k < rs.length ∧ rs.length ≤ 10) (Classical.propDecidable _) (some (I (badM rs.length k (rs.getD k dR)))) none := specOf_if j_rone (st, rs, k)
def C_rone : Prop := ∀ (st : Int) (rs : List Rep) (k : Nat) (h : k < rs.length ∧ rs.length ≤ 10) , VC Try.prog 45 [.agg [I st, reps rs], I k] (I (badM rs.length k (rs.getD k dR)))
def O_rone : Prop := EntOK Try.prog e_rone.1 e_rone.2
theorem k_rone (c : C_rone) : O_rone := specOf_ok fun ⟨st, rs, k⟩ h => c st rs k h
theorem c_rone : C_rone := by
  rintro st rs i ⟨hlt, h10⟩
  refine vc_ofU mixed (l := [e_in, e_bit]) ((eok_cons o_in (eok_cons o_bit eok_nil))) [] []  Try.func45 rfl (by decide +kernel) (N := 57) rfl (by simp) rfl (by kernel_rfl) fun hs => ?_
  simp only [smallL, PV.small, List.length_map, and_true, true_and] at hs
  generalize hr : badM rs.length i (rs.getD i dR) = r
  have hp := pow1024 (k := rs.length) (by omega)
  have hp1 := one_le_pow rs.length
  have h60 : rs.length ≤ 60 := by omega
  have hi64 : i ≤ 64 := by omega
  have hr' := hr
  unfold badM at hr'
  have e : (rs.getD i dR).2.2.2 = af rs i := rfl
  have e2 : (af rs i).toNat = ac rs i := rfl
  rw [e, e2] at hr'
  by_cases hrange : rangeOK (rs.getD i dR)
  · obtain ⟨⟨g1, g2⟩, ⟨g3, g4⟩, g5, g6⟩ := id hrange
    have g1' : ¬ (rs.getD i dR).1 < 1 := by omega
    have g2' : ¬ 1000000 < (rs.getD i dR).1 := by omega
    have g3' : ¬ (rs.getD i dR).2.1 < 0 := by omega
    have g4' : ¬ 1000000 < (rs.getD i dR).2.1 := by omega
    have g5' : ¬ (rs.getD i dR).2.2.1 < 0 := by omega
    have g6' : ¬ 1000000 < (rs.getD i dR).2.2.1 := by omega
    rw [if_neg (fun hn => hn hrange)] at hr'
    by_cases haf : 0 ≤ af rs i ∧ af rs i ≤ ((2 ^ rs.length - 1 : Nat) : Int)
    · have hc : af rs i = ((ac rs i : Nat) : Int) := by simp only [ac]; omega
      have hac : ac rs i < 9223372036854775808 := by
        generalize 2 ^ rs.length = q at *
        omega
      have h1 : ¬ (ac rs i : Int) < 0 := by omega
      have h2 : ¬ ((2 ^ rs.length : Nat) : Int) ≤ (ac rs i : Int) := by
        generalize 2 ^ rs.length = q at *
        omega
      rw [if_neg (by simp only [haf, and_self, not_true_eq_false, not_false_eq_true])] at hr'
      cases hb : (ac rs i).testBit i
      · rw [hb] at hr'
        simp +contextual (maxSteps := 4000000) only [↓ur_skip, ↓ur_seq, ↓ur_ret, ↓ur_region, ↓ur_cond, ↓cont_seq, ↓done_nil, ↓ops_consN, ↓ops_guardN, nY_move, nY_assign, nY_pick, nY_alloc, nY_box, nY_load, nY_store, nY_binOp, nY_fieldAddr, nY_indexAddr, nY_callf, nY_callb, ↓ops_nil, opsIf_some, opsIf_none, condC_false, guardC_ff, Option.map_some, Option.bind_some, Option.getD_some, Nat.reduceLT, Bool.false_eq_true, ↓upd_same, ↓upd_ne, Nat.reduceBEq, true_and, and_true, List.getD_cons_zero, List.getD_cons_succ, List.getElem?_toArray, List.getElem?_cons_zero, List.getElem?_cons_succ, endQ, cfg_P, cfg_tab, cfg_muts, cfg_frz, cfg_num, numOf_eq, List.length_map, List.contains_nil, Int.natCast_nonneg, Int.ofNat_lt, Int.toNat_natCast, decide_false, Option.some.injEq, exists_eq_left', tabOf_cons, tab_v, Bool.and_self, Nat.reduceEqDiff, List.nil_append, List.append_nil, updO_same, List.length_cons, List.length_nil, Nat.zero_add, Nat.add_zero, List.drop_zero, List.take_zero, Nat.reduceAdd, List.set_cons_zero, nth_zero, Nat.lt_succ_self, st0, Nat.le_refl, pur_int, cells_agg, DRx_int, ↓ev_tmp, ↓ev_int, ↓ev_func, ↓guardP_eq, grd_some, ↓iop_move, ↓iop_assign, ↓pick3_bool, ↓iop_pick, ↓iop_alloc, ↓iop_box, ↓iop_load, ↓iop_store, ↓iop_binOp, ↓iop_fieldAddr, ↓iop_indexAddr, idxA_int, ↓iop_callv, ↓iop_callb, nrmAll_cons, nrmAll_nil, bi_len, lenM_none, nrm_int, pickP_f, pickP_t, loadP_vptr, loadP_ptr, setCells_agg, storeP_ptr, fieldP_vptr, fieldP_ptr, indexP_lits, lenP_lits, b_lss, b_gtr, b_geq, splice_eq, env0_eq, ires_eq, iresL_1, iresAll_nil, iresAll_cons, iresOne_tmp, valT_eq, pursL_cons, pursL_nil, Store.new, Store.set, ↓reduceIte, arr_eq, arrB_some, callP_eq, boxP_eq, List.take_succ_cons, List.drop_succ_cons, List.drop_nil, List.take_nil, ↓evs_cons, ↓evs_nil, see_eq, and_false, Bool.true_eq_false, e_in, s_in, e_bit, s_bit, nth_reps, pur_reps, Try.f45, ty3, ty22, ty24, ty56, hlt, g1', g2', g3', g4', g5', g6', af_at, hc, h1, h2, h60, hi64, hac, hb]
        exact hr'
      · rw [hb] at hr'
        simp +contextual (maxSteps := 4000000) only [↓ur_skip, ↓ur_seq, ↓ur_ret, ↓ur_region, ↓ur_cond, ↓cont_seq, ↓done_nil, ↓done_seq, ↓ops_consN, ↓ops_guardN, nY_move, nY_assign, nY_pick, nY_alloc, nY_box, nY_load, nY_store, nY_binOp, nY_fieldAddr, nY_indexAddr, nY_callf, nY_callb, ↓ops_nil, opsIf_some, opsIf_none, condC_true, condC_false, guardC_ff, Option.map_some, Option.bind_some, Option.getD_some, Nat.reduceLT, Bool.false_eq_true, ↓upd_same, ↓upd_ne, Nat.reduceBEq, true_and, and_true, List.getD_cons_zero, List.getD_cons_succ, List.getElem?_toArray, List.getElem?_cons_zero, List.getElem?_cons_succ, endQ, cfg_P, cfg_tab, cfg_muts, cfg_frz, cfg_num, numOf_eq, List.length_map, List.contains_nil, Int.natCast_nonneg, Int.ofNat_lt, Int.toNat_natCast, decide_false, Option.some.injEq, exists_eq_left', tabOf_cons, tab_v, Bool.and_self, Nat.reduceEqDiff, List.nil_append, List.append_nil, updO_same, List.length_cons, List.length_nil, Nat.zero_add, Nat.add_zero, List.drop_zero, List.take_zero, Nat.reduceAdd, List.set_cons_zero, nth_zero, Nat.lt_succ_self, st0, Nat.le_refl, pur_int, cells_agg, DRx_int, ↓ev_tmp, ↓ev_int, ↓ev_func, ↓guardP_eq, grd_some, ↓iop_move, ↓iop_assign, ↓pick3_bool, ↓iop_pick, ↓iop_alloc, ↓iop_box, ↓iop_load, ↓iop_store, ↓iop_binOp, ↓iop_fieldAddr, ↓iop_indexAddr, idxA_int, ↓iop_callv, ↓iop_callb, nrmAll_cons, nrmAll_nil, bi_len, lenM_none, nrm_int, pickP_f, pickP_t, loadP_vptr, loadP_ptr, setCells_agg, storeP_ptr, fieldP_vptr, fieldP_ptr, indexP_lits, lenP_lits, b_lss, b_gtr, b_geq, splice_eq, env0_eq, ires_eq, iresL_1, iresAll_nil, iresAll_cons, iresOne_tmp, valT_eq, pursL_cons, pursL_nil, Store.new, Store.set, ↓reduceIte, arr_eq, arrB_some, callP_eq, boxP_eq, List.take_succ_cons, List.drop_succ_cons, List.drop_nil, List.take_nil, ↓evs_cons, ↓evs_nil, see_eq, and_false, Bool.true_eq_false, e_in, s_in, e_bit, s_bit, nth_reps, pur_reps, Try.f45, ty3, ty22, ty24, ty56, hlt, g1', g2', g3', g4', g5', g6', af_at, hc, h1, h2, h60, hi64, hac, hb]
        exact hr'
    · rw [if_pos haf] at hr'
      by_cases h1 : af rs i < 0
      · simp +contextual (maxSteps := 4000000) only [↓ur_skip, ↓ur_seq, ↓ur_ret, ↓ur_region, ↓ur_cond, ↓cont_seq, ↓done_nil, ↓done_seq, ↓ops_consN, ↓ops_guardN, nY_move, nY_assign, nY_pick, nY_alloc, nY_box, nY_load, nY_store, nY_binOp, nY_fieldAddr, nY_indexAddr, nY_callf, nY_callb, ↓ops_nil, opsIf_some, opsIf_none, condC_true, condC_false, guardC_tf, guardC_ff, Option.map_some, Option.bind_some, Option.getD_some, Nat.reduceLT, Bool.false_eq_true, ↓upd_same, ↓upd_ne, Nat.reduceBEq, true_and, and_true, List.getD_cons_zero, List.getD_cons_succ, List.getElem?_toArray, List.getElem?_cons_zero, List.getElem?_cons_succ, endQ, cfg_P, cfg_muts, cfg_frz, cfg_num, numOf_eq, List.length_map, List.contains_nil, Int.natCast_nonneg, Int.ofNat_lt, Int.toNat_natCast, decide_true, decide_false, Option.some.injEq, exists_eq_left', List.nil_append, List.append_nil, updO_same, List.length_cons, List.length_nil, Nat.zero_add, Nat.add_zero, List.drop_zero, List.take_zero, Nat.reduceAdd, List.set_cons_zero, nth_zero, Nat.lt_succ_self, st0, Nat.le_refl, cells_agg, DRx_int, ↓ev_tmp, ↓ev_int, ↓ev_bool, ↓guardP_eq, grd_some, ↓iop_move, ↓iop_assign, ↓pick3_bool, ↓iop_pick, ↓iop_alloc, ↓iop_box, ↓iop_load, ↓iop_store, ↓iop_binOp, ↓iop_fieldAddr, ↓iop_indexAddr, idxA_int, pickP_f, pickP_t, loadP_vptr, loadP_ptr, setCells_agg, storeP_ptr, fieldP_vptr, fieldP_ptr, indexP_lits, b_lss, b_gtr, splice_eq, env0_eq, ires_eq, iresL_1, iresAll_nil, iresAll_cons, iresOne_tmp, Store.new, Store.set, ↓reduceIte, arr_eq, arrB_some, boxP_eq, List.take_succ_cons, List.drop_succ_cons, List.drop_nil, List.take_nil, see_eq, e_in, e_bit, nth_reps, pur_reps, Try.f45, ty3, ty22, ty24, ty56, hlt, g1', g2', g3', g4', g5', g6', af_at, h1]
        exact hr'
      · have h2 : ((2 ^ rs.length : Nat) : Int) ≤ af rs i := by
          generalize 2 ^ rs.length = q at *
          omega
        simp +contextual (maxSteps := 4000000) only [↓ur_skip, ↓ur_seq, ↓ur_ret, ↓ur_region, ↓ur_cond, ↓cont_seq, ↓done_nil, ↓done_seq, ↓ops_consN, ↓ops_guardN, nY_move, nY_assign, nY_pick, nY_alloc, nY_box, nY_load, nY_store, nY_binOp, nY_fieldAddr, nY_indexAddr, nY_callf, nY_callb, ↓ops_nil, opsIf_some, opsIf_none, condC_true, condC_false, guardC_ff, Option.map_some, Option.bind_some, Option.getD_some, Nat.reduceLT, Bool.false_eq_true, ↓upd_same, ↓upd_ne, Nat.reduceBEq, true_and, and_true, List.getD_cons_zero, List.getD_cons_succ, List.getElem?_toArray, List.getElem?_cons_zero, List.getElem?_cons_succ, endQ, cfg_P, cfg_tab, cfg_muts, cfg_frz, cfg_num, numOf_eq, List.length_map, List.contains_nil, Int.natCast_nonneg, Int.ofNat_lt, Int.toNat_natCast, decide_true, decide_false, Option.some.injEq, exists_eq_left', tabOf_cons, tab_v, Bool.and_self, Nat.reduceEqDiff, List.nil_append, List.append_nil, updO_same, List.length_cons, List.length_nil, Nat.zero_add, Nat.add_zero, List.drop_zero, List.take_zero, Nat.reduceAdd, List.set_cons_zero, nth_zero, Nat.lt_succ_self, st0, Nat.le_refl, pur_int, cells_agg, DRx_int, ↓ev_tmp, ↓ev_int, ↓ev_func, ↓guardP_eq, grd_some, ↓iop_move, ↓iop_assign, ↓pick3_bool, ↓iop_pick, ↓iop_alloc, ↓iop_box, ↓iop_load, ↓iop_store, ↓iop_binOp, ↓iop_fieldAddr, ↓iop_indexAddr, idxA_int, ↓iop_callv, ↓iop_callb, nrmAll_cons, nrmAll_nil, bi_len, lenM_none, nrm_int, pickP_f, pickP_t, loadP_vptr, loadP_ptr, setCells_agg, storeP_ptr, fieldP_vptr, fieldP_ptr, indexP_lits, lenP_lits, b_lss, b_gtr, b_geq, splice_eq, env0_eq, ires_eq, iresL_1, iresAll_nil, iresAll_cons, iresOne_tmp, valT_eq, pursL_cons, pursL_nil, Store.new, Store.set, ↓reduceIte, arr_eq, arrB_some, callP_eq, boxP_eq, List.take_succ_cons, List.drop_succ_cons, List.drop_nil, List.take_nil, ↓evs_cons, ↓evs_nil, see_eq, and_false, Bool.true_eq_false, e_in, e_bit, s_bit, nth_reps, pur_reps, Try.f45, ty3, ty22, ty24, ty56, hlt, g1', g2', g3', g4', g5', g6', af_at, h1, h2, h60]
        exact hr'
  · rw [if_pos hrange] at hr'
    by_cases g1 : (rs.getD i dR).1 < 1
    · simp +contextual (maxSteps := 4000000) only [↓ur_seq, ↓ur_ret, ↓ur_region, ↓ur_cond, ↓cont_seq, ↓done_nil, ↓done_seq, ↓ops_consN, ↓ops_guardN, nY_move, nY_assign, nY_pick, nY_alloc, nY_box, nY_load, nY_store, nY_binOp, nY_fieldAddr, nY_indexAddr, ↓ops_nil, opsIf_some, opsIf_none, condC_true, guardC_tf, Option.map_some, Option.bind_some, Option.getD_some, Nat.reduceLT, Bool.false_eq_true, ↓upd_same, ↓upd_ne, Nat.reduceBEq, true_and, and_true, List.getD_cons_zero, List.getD_cons_succ, List.getElem?_toArray, List.getElem?_cons_zero, List.getElem?_cons_succ, endQ, cfg_P, cfg_muts, cfg_frz, cfg_num, numOf_eq, List.length_map, List.contains_nil, Int.natCast_nonneg, Int.ofNat_lt, Int.toNat_natCast, decide_true, Option.some.injEq, exists_eq_left', List.nil_append, List.append_nil, updO_same, List.length_cons, List.length_nil, Nat.zero_add, Nat.add_zero, List.drop_zero, List.take_zero, Nat.reduceAdd, List.set_cons_zero, nth_zero, Nat.lt_succ_self, st0, Nat.le_refl, cells_agg, DRx_int, ↓ev_tmp, ↓ev_int, ↓ev_bool, ↓guardP_eq, grd_some, ↓iop_move, ↓iop_assign, ↓pick3_bool, ↓iop_pick, ↓iop_alloc, ↓iop_box, ↓iop_load, ↓iop_store, ↓iop_binOp, ↓iop_fieldAddr, ↓iop_indexAddr, idxA_int, pickP_f, pickP_t, loadP_vptr, loadP_ptr, setCells_agg, storeP_ptr, fieldP_vptr, fieldP_ptr, indexP_lits, b_lss, splice_eq, env0_eq, ires_eq, iresL_1, iresAll_nil, iresAll_cons, iresOne_tmp, Store.new, Store.set, ↓reduceIte, arr_eq, arrB_some, boxP_eq, List.take_succ_cons, List.drop_succ_cons, List.drop_nil, List.take_nil, see_eq, e_in, e_bit, nth_reps, pur_reps, Try.f45, ty3, ty22, ty24, ty56, hlt, g1]
      exact hr'
    by_cases g2 : 1000000 < (rs.getD i dR).1
    · simp +contextual (maxSteps := 4000000) only [↓ur_seq, ↓ur_ret, ↓ur_region, ↓ur_cond, ↓cont_seq, ↓done_nil, ↓done_seq, ↓ops_consN, ↓ops_guardN, nY_move, nY_assign, nY_pick, nY_alloc, nY_box, nY_load, nY_store, nY_binOp, nY_fieldAddr, nY_indexAddr, ↓ops_nil, opsIf_some, opsIf_none, condC_true, guardC_tf, guardC_ff, Option.map_some, Option.bind_some, Option.getD_some, Nat.reduceLT, Bool.false_eq_true, ↓upd_same, ↓upd_ne, Nat.reduceBEq, true_and, and_true, List.getD_cons_zero, List.getD_cons_succ, List.getElem?_toArray, List.getElem?_cons_zero, List.getElem?_cons_succ, endQ, cfg_P, cfg_muts, cfg_frz, cfg_num, numOf_eq, List.length_map, List.contains_nil, Int.natCast_nonneg, Int.ofNat_lt, Int.toNat_natCast, decide_true, decide_false, Option.some.injEq, exists_eq_left', List.nil_append, List.append_nil, updO_same, List.length_cons, List.length_nil, Nat.zero_add, Nat.add_zero, List.drop_zero, List.take_zero, Nat.reduceAdd, List.set_cons_zero, nth_zero, Nat.lt_succ_self, st0, Nat.le_refl, cells_agg, DRx_int, ↓ev_tmp, ↓ev_int, ↓ev_bool, ↓guardP_eq, grd_some, ↓iop_move, ↓iop_assign, ↓pick3_bool, ↓iop_pick, ↓iop_alloc, ↓iop_box, ↓iop_load, ↓iop_store, ↓iop_binOp, ↓iop_fieldAddr, ↓iop_indexAddr, idxA_int, pickP_f, pickP_t, loadP_vptr, loadP_ptr, setCells_agg, storeP_ptr, fieldP_vptr, fieldP_ptr, indexP_lits, b_lss, b_gtr, splice_eq, env0_eq, ires_eq, iresL_1, iresAll_nil, iresAll_cons, iresOne_tmp, Store.new, Store.set, ↓reduceIte, arr_eq, arrB_some, boxP_eq, List.take_succ_cons, List.drop_succ_cons, List.drop_nil, List.take_nil, see_eq, e_in, e_bit, nth_reps, pur_reps, Try.f45, ty3, ty22, ty24, ty56, hlt, g1, g2]
      exact hr'
    by_cases g3 : (rs.getD i dR).2.1 < 0
    · simp +contextual (maxSteps := 4000000) only [↓ur_seq, ↓ur_ret, ↓ur_region, ↓ur_cond, ↓cont_seq, ↓done_nil, ↓done_seq, ↓ops_consN, ↓ops_guardN, nY_move, nY_assign, nY_pick, nY_alloc, nY_box, nY_load, nY_store, nY_binOp, nY_fieldAddr, nY_indexAddr, ↓ops_nil, opsIf_some, opsIf_none, condC_true, guardC_tf, guardC_ff, Option.map_some, Option.bind_some, Option.getD_some, Nat.reduceLT, Bool.false_eq_true, ↓upd_same, ↓upd_ne, Nat.reduceBEq, true_and, and_true, List.getD_cons_zero, List.getD_cons_succ, List.getElem?_toArray, List.getElem?_cons_zero, List.getElem?_cons_succ, endQ, cfg_P, cfg_muts, cfg_frz, cfg_num, numOf_eq, List.length_map, List.contains_nil, Int.natCast_nonneg, Int.ofNat_lt, Int.toNat_natCast, decide_true, decide_false, Option.some.injEq, exists_eq_left', List.nil_append, List.append_nil, updO_same, List.length_cons, List.length_nil, Nat.zero_add, Nat.add_zero, List.drop_zero, List.take_zero, Nat.reduceAdd, List.set_cons_zero, nth_zero, Nat.lt_succ_self, st0, Nat.le_refl, cells_agg, DRx_int, ↓ev_tmp, ↓ev_int, ↓ev_bool, ↓guardP_eq, grd_some, ↓iop_move, ↓iop_assign, ↓pick3_bool, ↓iop_pick, ↓iop_alloc, ↓iop_box, ↓iop_load, ↓iop_store, ↓iop_binOp, ↓iop_fieldAddr, ↓iop_indexAddr, idxA_int, pickP_f, pickP_t, loadP_vptr, loadP_ptr, setCells_agg, storeP_ptr, fieldP_vptr, fieldP_ptr, indexP_lits, b_lss, b_gtr, splice_eq, env0_eq, ires_eq, iresL_1, iresAll_nil, iresAll_cons, iresOne_tmp, Store.new, Store.set, ↓reduceIte, arr_eq, arrB_some, boxP_eq, List.take_succ_cons, List.drop_succ_cons, List.drop_nil, List.take_nil, see_eq, e_in, e_bit, nth_reps, pur_reps, Try.f45, ty3, ty22, ty24, ty56, hlt, g1, g2, g3]
      exact hr'
    by_cases g4 : 1000000 < (rs.getD i dR).2.1
    · simp +contextual (maxSteps := 4000000) only [↓ur_seq, ↓ur_ret, ↓ur_region, ↓ur_cond, ↓cont_seq, ↓done_nil, ↓done_seq, ↓ops_consN, ↓ops_guardN, nY_move, nY_assign, nY_pick, nY_alloc, nY_box, nY_load, nY_store, nY_binOp, nY_fieldAddr, nY_indexAddr, ↓ops_nil, opsIf_some, opsIf_none, condC_true, guardC_tf, guardC_ff, Option.map_some, Option.bind_some, Option.getD_some, Nat.reduceLT, Bool.false_eq_true, ↓upd_same, ↓upd_ne, Nat.reduceBEq, true_and, and_true, List.getD_cons_zero, List.getD_cons_succ, List.getElem?_toArray, List.getElem?_cons_zero, List.getElem?_cons_succ, endQ, cfg_P, cfg_muts, cfg_frz, cfg_num, numOf_eq, List.length_map, List.contains_nil, Int.natCast_nonneg, Int.ofNat_lt, Int.toNat_natCast, decide_true, decide_false, Option.some.injEq, exists_eq_left', List.nil_append, List.append_nil, updO_same, List.length_cons, List.length_nil, Nat.zero_add, Nat.add_zero, List.drop_zero, List.take_zero, Nat.reduceAdd, List.set_cons_zero, nth_zero, Nat.lt_succ_self, st0, Nat.le_refl, cells_agg, DRx_int, ↓ev_tmp, ↓ev_int, ↓ev_bool, ↓guardP_eq, grd_some, ↓iop_move, ↓iop_assign, ↓pick3_bool, ↓iop_pick, ↓iop_alloc, ↓iop_box, ↓iop_load, ↓iop_store, ↓iop_binOp, ↓iop_fieldAddr, ↓iop_indexAddr, idxA_int, pickP_f, pickP_t, loadP_vptr, loadP_ptr, setCells_agg, storeP_ptr, fieldP_vptr, fieldP_ptr, indexP_lits, b_lss, b_gtr, splice_eq, env0_eq, ires_eq, iresL_1, iresAll_nil, iresAll_cons, iresOne_tmp, Store.new, Store.set, ↓reduceIte, arr_eq, arrB_some, boxP_eq, List.take_succ_cons, List.drop_succ_cons, List.drop_nil, List.take_nil, see_eq, e_in, e_bit, nth_reps, pur_reps, Try.f45, ty3, ty22, ty24, ty56, hlt, g1, g2, g3, g4]
      exact hr'
    by_cases g5 : (rs.getD i dR).2.2.1 < 0
    · simp +contextual (maxSteps := 4000000) only [↓ur_seq, ↓ur_ret, ↓ur_region, ↓ur_cond, ↓cont_seq, ↓done_nil, ↓done_seq, ↓ops_consN, ↓ops_guardN, nY_move, nY_assign, nY_pick, nY_alloc, nY_box, nY_load, nY_store, nY_binOp, nY_fieldAddr, nY_indexAddr, ↓ops_nil, opsIf_some, opsIf_none, condC_true, guardC_tf, guardC_ff, Option.map_some, Option.bind_some, Option.getD_some, Nat.reduceLT, Bool.false_eq_true, ↓upd_same, ↓upd_ne, Nat.reduceBEq, true_and, and_true, List.getD_cons_zero, List.getD_cons_succ, List.getElem?_toArray, List.getElem?_cons_zero, List.getElem?_cons_succ, endQ, cfg_P, cfg_muts, cfg_frz, cfg_num, numOf_eq, List.length_map, List.contains_nil, Int.natCast_nonneg, Int.ofNat_lt, Int.toNat_natCast, decide_true, decide_false, Option.some.injEq, exists_eq_left', List.nil_append, List.append_nil, updO_same, List.length_cons, List.length_nil, Nat.zero_add, Nat.add_zero, List.drop_zero, List.take_zero, Nat.reduceAdd, List.set_cons_zero, nth_zero, Nat.lt_succ_self, st0, Nat.le_refl, cells_agg, DRx_int, ↓ev_tmp, ↓ev_int, ↓ev_bool, ↓guardP_eq, grd_some, ↓iop_move, ↓iop_assign, ↓pick3_bool, ↓iop_pick, ↓iop_alloc, ↓iop_box, ↓iop_load, ↓iop_store, ↓iop_binOp, ↓iop_fieldAddr, ↓iop_indexAddr, idxA_int, pickP_f, pickP_t, loadP_vptr, loadP_ptr, setCells_agg, storeP_ptr, fieldP_vptr, fieldP_ptr, indexP_lits, b_lss, b_gtr, splice_eq, env0_eq, ires_eq, iresL_1, iresAll_nil, iresAll_cons, iresOne_tmp, Store.new, Store.set, ↓reduceIte, arr_eq, arrB_some, boxP_eq, List.take_succ_cons, List.drop_succ_cons, List.drop_nil, List.take_nil, see_eq, e_in, e_bit, nth_reps, pur_reps, Try.f45, ty3, ty22, ty24, ty56, hlt, g1, g2, g3, g4, g5]
      exact hr'
    by_cases g6 : 1000000 < (rs.getD i dR).2.2.1
    · simp +contextual (maxSteps := 4000000) only [↓ur_seq, ↓ur_ret, ↓ur_region, ↓ur_cond, ↓cont_seq, ↓done_nil, ↓done_seq, ↓ops_consN, ↓ops_guardN, nY_move, nY_assign, nY_pick, nY_alloc, nY_box, nY_load, nY_store, nY_binOp, nY_fieldAddr, nY_indexAddr, ↓ops_nil, opsIf_some, opsIf_none, condC_true, guardC_ff, Option.map_some, Option.bind_some, Option.getD_some, Nat.reduceLT, Bool.false_eq_true, ↓upd_same, ↓upd_ne, Nat.reduceBEq, true_and, and_true, List.getD_cons_zero, List.getD_cons_succ, List.getElem?_toArray, List.getElem?_cons_zero, List.getElem?_cons_succ, endQ, cfg_P, cfg_muts, cfg_frz, cfg_num, numOf_eq, List.length_map, List.contains_nil, Int.natCast_nonneg, Int.ofNat_lt, Int.toNat_natCast, decide_true, decide_false, Option.some.injEq, exists_eq_left', List.nil_append, List.append_nil, updO_same, List.length_cons, List.length_nil, Nat.zero_add, Nat.add_zero, List.drop_zero, List.take_zero, Nat.reduceAdd, List.set_cons_zero, nth_zero, Nat.lt_succ_self, st0, Nat.le_refl, cells_agg, DRx_int, ↓ev_tmp, ↓ev_int, ↓guardP_eq, grd_some, ↓iop_move, ↓iop_assign, ↓pick3_bool, ↓iop_pick, ↓iop_alloc, ↓iop_box, ↓iop_load, ↓iop_store, ↓iop_binOp, ↓iop_fieldAddr, ↓iop_indexAddr, idxA_int, pickP_f, pickP_t, loadP_vptr, loadP_ptr, setCells_agg, storeP_ptr, fieldP_vptr, fieldP_ptr, indexP_lits, b_lss, b_gtr, splice_eq, env0_eq, ires_eq, iresL_1, iresAll_nil, iresAll_cons, iresOne_tmp, Store.new, Store.set, ↓reduceIte, arr_eq, arrB_some, boxP_eq, List.take_succ_cons, List.drop_succ_cons, List.drop_nil, List.take_nil, see_eq, e_in, e_bit, nth_reps, pur_reps, Try.f45, ty3, ty22, ty24, ty56, hlt, g1, g2, g3, g4, g5, g6]
      exact hr'
    exact absurd ⟨⟨by omega, by omega⟩, ⟨by omega, by omega⟩, by omega, by omega⟩ hrange
theorem o_rone : O_rone := k_rone c_rone

theorem or_add {d k : Nat} (h : d.testBit k = false) : d ||| 2 ^ k = d + 2 ^ k := by
  apply Eq.symm
  have hlo := Nat.mod_lt d (Nat.two_pow_pos k)
  have hd := Nat.div_add_mod d (2 ^ k)
  have hb : d / 2 ^ k % 2 = 0 := by
    rw [Nat.testBit, Nat.shiftRight_eq_div_pow] at h
    have e : 1 &&& d / 2 ^ k = d / 2 ^ k % 2 := by rw [Nat.and_comm, Nat.and_one_is_mod]
    rw [e] at h
    simpa using h
  obtain ⟨q, hq⟩ : ∃ q, d / 2 ^ k = 2 * q := ⟨d / 2 ^ k / 2, by omega⟩
  apply Nat.eq_of_testBit_eq
  intro i
  rw [Nat.testBit_or]
  have e1 : d = 2 ^ k * (2 * q) + d % 2 ^ k := by rw [← hq]; omega
  have e2 : d + 2 ^ k = 2 ^ k * (2 * q + 1) + d % 2 ^ k := by rw [Nat.mul_add, Nat.mul_one]; omega
  generalize d % 2 ^ k = l at *
  rw [e2]
  conv => rhs; rw [e1]
  rw [Nat.testBit_two_pow_mul_add _ hlo, Nat.testBit_two_pow_mul_add _ hlo]
  rw [Nat.testBit_two_pow]
  by_cases hi : i < k
  · simp [hi]; intro h2; omega
  · simp only [hi, if_false]
    by_cases e : k = i
    · subst e; simp
    · obtain ⟨j, hj⟩ : ∃ j, i - k = j + 1 := ⟨i - k - 1, by omega⟩
      rw [hj, Nat.testBit_succ, Nat.testBit_succ]
      simp [e, show (2 * q + 1) / 2 = q by omega]
theorem or_same {d k : Nat} (h : d.testBit k = true) : d ||| 2 ^ k = d := by
  apply Nat.eq_of_testBit_eq
  intro i
  rw [Nat.testBit_or, Nat.testBit_two_pow]
  by_cases e : k = i
  · subst e; simp [h]
  · simp [e]
noncomputable def A_rcheck : (Int) × (List Rep) → List PV := fun (st, rs) => [.agg [I st, reps rs]]
noncomputable def R_rcheck : (Int) × (List Rep) → PV := fun (st, rs) => I (checkM st rs)
def H_rcheck : (Int) × (List Rep) → Prop := fun (st, rs) => True
noncomputable def e_rcheck : Nat × Ent := (22, .v (specOf A_rcheck R_rcheck H_rcheck))
theorem j_rcheck : ∀ i j, A_rcheck i = A_rcheck j → i = j := by
  rintro ⟨st₁, rs₁⟩ ⟨st₂, rs₂⟩ h
  simp only [A_rcheck, List.cons.injEq, and_true, PV.lits.injEq, PV.int.injEq, PV.bool.injEq, PV.str.injEq, PV.agg.injEq, PV.func.injEq, PV.vptr.injEq, true_and, List.map_nil, inj_ints, inj_strs, inj_reps] at h
  simp [Prod.ext_iff, h] <;> omega
theorem s_rcheck (st : Int) (rs : List Rep) : specOf A_rcheck R_rcheck H_rcheck [.agg [I st, reps rs]] = some (I (checkM st rs)) := specOf_app j_rcheck (i := (st, rs)) trivial
def C_rcheck : Prop := ∀ (st : Int) (rs : List Rep) , VC Try.prog 22 [.agg [I st, reps rs]] (I (checkM st rs))
def O_rcheck : Prop := EntOK Try.prog e_rcheck.1 e_rcheck.2
theorem k_rcheck (c : C_rcheck) : O_rcheck := specOf_ok fun ⟨st, rs⟩ h => c st rs
theorem c_rcheck : C_rcheck := by
  rintro st rs
  refine vc_ofU mixed (l := [e_in, e_bit, e_rwin, e_rone]) ((eok_cons o_in (eok_cons o_bit (eok_cons o_rwin (eok_cons o_rone eok_nil))))) [] []  Try.func22 rfl (by decide +kernel) (N := 76) rfl (by simp) rfl (by kernel_rfl) fun hs => ?_
  simp only [smallL, PV.small, List.length_map, and_true, true_and] at hs
  generalize hr : checkM st rs = r
  have hlen : (rs.length : Int) ≤ 9223372036854775807 := by omega
  by_cases h10 : 10 < rs.length
  · have h10' : (10 : Int) < rs.length := by omega
    simp +contextual (maxSteps := 4000000) only [↓ur_seq, ↓ur_ret, ↓ur_region, ↓ur_cond, ↓cont_seq, ↓done_nil, ↓done_seq, ↓ops_consN, nY_assign, nY_box, nY_load, nY_binOp, nY_fieldAddr, nY_callb, ↓ops_nil, opsIf_some, condC_true, Option.map_some, Option.bind_some, Option.getD_some, Nat.reduceLT, Bool.false_eq_true, ↓upd_same, ↓upd_ne, Nat.reduceBEq, true_and, List.getD_cons_zero, List.getElem?_cons_zero, List.getElem?_cons_succ, endQ, cfg_P, cfg_muts, cfg_frz, List.length_map, List.contains_nil, decide_true, Option.some.injEq, exists_eq_left', List.length_cons, List.length_nil, Nat.zero_add, Nat.reduceAdd, Nat.lt_succ_self, st0, cells_agg, DRx_int, ↓ev_tmp, ↓ev_int, ↓iop_assign, ↓iop_box, ↓iop_load, ↓iop_binOp, ↓iop_fieldAddr, ↓iop_callb, bi_len, lenM_none, pickP_f, loadP_vptr, fieldP_vptr, lenP_lits, b_gtr, env0_eq, ires_eq, iresL_1, iresAll_nil, iresAll_cons, iresOne_tmp, ↓reduceIte, boxP_eq, ↓evs_cons, ↓evs_nil, see_eq, e_in, e_bit, e_rwin, e_rone, nth_reps, pur_reps, Try.f22, ty22, ty24, h10']
    simp [← hr, checkM, h10]
  have h10' : ¬ (10 : Int) < rs.length := by omega
  by_cases hst : 0 ≤ st ∧ st ≤ 1000000
  case neg =>
    by_cases g : st < 0
    · simp +contextual (maxSteps := 4000000) only [↓ur_skip, ↓ur_seq, ↓ur_ret, ↓ur_region, ↓ur_cond, ↓cont_seq, ↓done_nil, ↓done_seq, ↓ops_consN, ↓ops_guardN, nY_move, nY_assign, nY_pick, nY_box, nY_load, nY_binOp, nY_fieldAddr, nY_callb, ↓ops_nil, opsIf_some, condC_true, condC_false, guardC_tf, Option.map_some, Option.bind_some, Option.getD_some, Nat.reduceLT, Bool.false_eq_true, ↓upd_same, ↓upd_ne, Nat.reduceBEq, true_and, List.getD_cons_zero, List.getElem?_toArray, List.getElem?_cons_zero, List.getElem?_cons_succ, endQ, cfg_P, cfg_muts, cfg_frz, List.length_map, List.contains_nil, decide_true, decide_false, Option.some.injEq, exists_eq_left', List.length_cons, List.length_nil, Nat.zero_add, Nat.add_zero, Nat.reduceAdd, Nat.lt_succ_self, st0, cells_agg, DRx_int, ↓ev_tmp, ↓ev_int, ↓ev_bool, ↓guardP_eq, grd_some, ↓iop_move, ↓iop_assign, ↓pick3_bool, ↓iop_pick, ↓iop_box, ↓iop_load, ↓iop_binOp, ↓iop_fieldAddr, ↓iop_callb, bi_len, lenM_none, pickP_f, loadP_vptr, fieldP_vptr, lenP_lits, b_lss, b_gtr, env0_eq, ires_eq, iresL_1, iresAll_nil, iresAll_cons, iresOne_tmp, ↓reduceIte, boxP_eq, ↓evs_cons, ↓evs_nil, see_eq, e_in, e_bit, e_rwin, e_rone, nth_reps, pur_reps, Try.f22, ty3, ty22, ty24, h10', g]
      simp [← hr, checkM, h10, hst]
    · have g2 : 1000000 < st := by omega
      simp +contextual (maxSteps := 4000000) only [↓ur_skip, ↓ur_seq, ↓ur_ret, ↓ur_region, ↓ur_cond, ↓cont_seq, ↓done_nil, ↓done_seq, ↓ops_consN, ↓ops_guardN, nY_move, nY_assign, nY_pick, nY_box, nY_load, nY_binOp, nY_fieldAddr, nY_callb, ↓ops_nil, opsIf_some, condC_true, condC_false, guardC_ff, Option.map_some, Option.bind_some, Option.getD_some, Nat.reduceLT, Bool.false_eq_true, ↓upd_same, ↓upd_ne, Nat.reduceBEq, true_and, List.getD_cons_zero, List.getElem?_toArray, List.getElem?_cons_zero, List.getElem?_cons_succ, endQ, cfg_P, cfg_muts, cfg_frz, List.length_map, List.contains_nil, decide_true, decide_false, Option.some.injEq, exists_eq_left', List.length_cons, List.length_nil, Nat.zero_add, Nat.add_zero, Nat.reduceAdd, Nat.lt_succ_self, st0, cells_agg, DRx_int, ↓ev_tmp, ↓ev_int, ↓guardP_eq, grd_some, ↓iop_move, ↓iop_assign, ↓pick3_bool, ↓iop_pick, ↓iop_box, ↓iop_load, ↓iop_binOp, ↓iop_fieldAddr, ↓iop_callb, bi_len, lenM_none, pickP_f, loadP_vptr, fieldP_vptr, lenP_lits, b_lss, b_gtr, env0_eq, ires_eq, iresL_1, iresAll_nil, iresAll_cons, iresOne_tmp, ↓reduceIte, boxP_eq, ↓evs_cons, ↓evs_nil, see_eq, e_in, e_bit, e_rwin, e_rone, nth_reps, pur_reps, Try.f22, ty3, ty22, ty24, h10', g, g2]
      simp [← hr, checkM, h10, hst]
  have hst1 : ¬ st < 0 := by omega
  have hst2 : ¬ 1000000 < st := by omega
  have hp := pow1024 (k := rs.length) (by omega)
  have hp1 := one_le_pow rs.length
  have h60 : rs.length ≤ 60 := by omega
  have h10n : rs.length ≤ 10 := by omega
  have hw1 : IntKind.i64.wrap (((2 ^ rs.length : Nat) : Int) - 1) = ((2 ^ rs.length - 1 : Nat) : Int) := by
    generalize 2 ^ rs.length = q at *
    rw [wrap64 (by omega) (by omega)]; omega
  have hw : ∀ i : Nat, i < rs.length → IntKind.i64.wrap ((i : Int) + 1) = ((i + 1 : Nat) : Int) := fun i g => by rw [wrap64 (by omega) (by omega)]; omega
  simp +contextual (maxSteps := 4000000) only [↓ur_skip, ↓ur_seq, ↓ur_block, ↓ur_region, ↓ur_cond, ↓cont_seq, ↓ops_consN, ↓ops_guardN, nY_move, nY_assign, nY_pick, nY_box, nY_load, nY_binOp, nY_fieldAddr, nY_callb, ↓ops_nil, opsIf_some, condC_false, guardC_ff, Option.map_some, Option.bind_some, Option.getD_some, Nat.reduceLT, Bool.false_eq_true, ↓upd_same, ↓upd_ne, Nat.reduceBEq, true_and, List.getD_cons_zero, List.getElem?_toArray, List.getElem?_cons_zero, List.getElem?_cons_succ, cfg_P, cfg_muts, cfg_frz, List.length_map, List.contains_nil, decide_false, List.length_cons, List.length_nil, Nat.zero_add, Nat.add_zero, Nat.reduceAdd, Nat.lt_succ_self, st0, cells_agg, ↓ev_tmp, ↓ev_int, ↓guardP_eq, grd_some, ↓iop_move, ↓iop_assign, ↓pick3_bool, ↓iop_pick, ↓iop_box, ↓iop_load, ↓iop_binOp, ↓iop_fieldAddr, ↓iop_callb, bi_len, lenM_none, pickP_f, loadP_vptr, fieldP_vptr, lenP_lits, b_lss, b_gtr, env0_eq, ↓reduceIte, boxP_eq, ↓evs_cons, ↓evs_nil, see_eq, e_in, e_bit, e_rwin, e_rone, nth_reps, pur_reps, Try.f22, ty3, ty22, ty24, h10', hst1, hst2]
  refine loop_cnt [2, 3, 4, 22, 23, 24, 25, 26, 27, 28, 29, 30, 31, 32, 33, 34] rs.length (fun i ρ st => ρ 3 = I i ∧ ρ 2 = I 0 ∧ badT rs i = 0) (.refl _) ?_ ?_
  · simp +contextual (maxSteps := 4000000) only [↓upd_same, ↓upd_ne, Nat.reduceBEq, true_and, Int.cast_ofNat_Int, nth_reps, pur_reps, Try.f22]
    rfl
  · rintro i ρ ⟨ob, M⟩ hi ⟨h23, h2, hbad⟩
    have hbs : badT rs (i + 1) = badM rs.length i (rs.getD i dR) := by simp [badT, hbad]
    have hfail : i < rs.length → badM rs.length i (rs.getD i dR) ≠ 0 → badM rs.length i (rs.getD i dR) = r := fun hlt hne => by
      rw [← hr, checkM, if_neg h10, if_neg (by simp [hst]), badT_end (k := i + 1) (by rw [hbs]; exact hne) (by omega), hbs, if_pos hne]
    by_cases hlt : i < rs.length
    · have hlt' : (i : Int) < rs.length := by omega
      by_cases hbm : badM rs.length i (rs.getD i dR) = 0
      · simp +contextual (maxSteps := 4000000) only [↓ur_skip, ↓ur_seq, ↓ur_block, ↓ur_region, ↓ur_cond, ↓cont_seq, ↓cont_blk, ↓cont_lp, ↓ops_consN, nY_move, nY_assign, nY_load, nY_binOp, nY_fieldAddr, nY_callf, nY_callb, ↓ops_nil, opsIf_some, condC_true, condC_false, Option.map_some, Option.bind_some, Option.getD_some, Nat.reduceLT, Bool.false_eq_true, ↓upd_same, ↓upd_ne, Nat.reduceBEq, true_and, and_true, List.getElem?_cons_zero, List.getElem?_cons_succ, cfg_P, cfg_tab, cfg_muts, cfg_frz, List.length_map, ↓havoc_in, ↓havoc_out, agree_upd, agree_havoc, List.contains_cons, List.contains_nil, Bool.or_false, Bool.or_true, decide_true, decide_false, PV.int.injEq, List.lookup_cons, List.lookup_nil, tabOf_cons, tab_v, Bool.and_self, Nat.reduceEqDiff, List.nil_append, List.append_nil, List.length_cons, List.length_nil, Nat.zero_add, List.drop_zero, Nat.reduceAdd, Nat.lt_succ_self, not_true_eq_false, Nat.le_refl, pur_int, pur_lits, pur_agg, ↓ev_tmp, ↓ev_int, ↓ev_func, ↓iop_move, ↓iop_assign, ↓iop_load, ↓iop_binOp, ↓iop_fieldAddr, ↓iop_callv, ↓iop_callb, nrmAll_cons, nrmAll_nil, bi_len, lenM_none, nrm_agg, nrmL_cons, nrmL_nil, nrm_int, nrm1_int, nrm1_lits, pickP_f, pickP_t, loadP_vptr, fieldP_vptr, lenP_lits, b_add, b_neq, b_lss, valT_eq, pursL_cons, pursL_nil, ↓reduceIte, callP_eq, List.take_succ_cons, List.take_nil, ↓evs_cons, ↓evs_nil, beq_self_eq_true, see_eq, and_false, Bool.true_eq_false, s_rone, nth_reps, pur_reps, Try.f22, ty3, ty22, ty24, h23, h2, hlt', hlt, h10n, hbm]
        exact ⟨hw i hlt, by rw [hbs, hbm]⟩
      · simp +contextual (maxSteps := 4000000) only [↓ur_skip, ↓ur_seq, ↓ur_block, ↓ur_ret, ↓ur_region, ↓ur_cond, ↓cont_seq, ↓done_nil, ↓done_seq, ↓done_blk, ↓done_lp, ↓ops_consN, nY_move, nY_assign, nY_load, nY_binOp, nY_fieldAddr, nY_callf, nY_callb, ↓ops_nil, opsIf_some, condC_true, Option.map_some, Option.bind_some, Option.getD_some, Nat.reduceLT, Bool.false_eq_true, ↓upd_same, ↓upd_ne, Nat.reduceBEq, true_and, and_true, List.getElem?_cons_zero, List.getElem?_cons_succ, endQ, cfg_P, cfg_tab, cfg_muts, cfg_frz, List.length_map, ↓havoc_in, ↓havoc_out, List.contains_cons, List.contains_nil, Bool.or_false, Bool.or_true, decide_true, Option.some.injEq, exists_eq_left', List.lookup_cons, List.lookup_nil, tabOf_cons, tab_v, Bool.and_self, Nat.reduceEqDiff, List.nil_append, List.append_nil, List.length_cons, List.length_nil, Nat.zero_add, List.drop_zero, Nat.reduceAdd, Nat.lt_succ_self, not_false_eq_true, Nat.le_refl, pur_int, pur_lits, pur_agg, DRx_int, ↓ev_tmp, ↓ev_int, ↓ev_func, ↓iop_move, ↓iop_assign, ↓iop_load, ↓iop_binOp, ↓iop_fieldAddr, ↓iop_callv, ↓iop_callb, nrmAll_cons, nrmAll_nil, bi_len, lenM_none, nrm_agg, nrmL_cons, nrmL_nil, nrm_int, nrm1_int, nrm1_lits, pickP_f, pickP_t, loadP_vptr, fieldP_vptr, lenP_lits, b_neq, b_lss, ires_eq, iresL_1, iresAll_nil, iresAll_cons, iresOne_tmp, valT_eq, pursL_cons, pursL_nil, ↓reduceIte, callP_eq, List.take_succ_cons, List.take_nil, ↓evs_cons, ↓evs_nil, beq_self_eq_true, see_eq, and_false, Bool.true_eq_false, s_rone, nth_reps, pur_reps, Try.f22, ty3, ty22, ty24, h23, h2, hlt', hlt, h10n, hbm]
        exact hfail hlt hbm
    · have e : i = rs.length := by omega
      subst e
      simp +contextual (maxSteps := 4000000) only [↓ur_seq, ↓ur_block, ↓ur_exit, ↓ur_region, ↓ur_cond, ↓cont_seq, ↓leave_seq, ↓leave_blk, ↓leave_lp, ↓ops_consN, nY_move, nY_assign, nY_load, nY_binOp, nY_fieldAddr, nY_callb, ↓ops_nil, opsIf_some, condC_false, Option.map_some, Option.bind_some, Option.getD_some, Nat.reduceLT, Bool.false_eq_true, ↓upd_same, ↓upd_ne, Nat.reduceBEq, true_and, List.getElem?_cons_zero, List.getElem?_cons_succ, cfg_P, cfg_frz, List.length_map, ↓havoc_in, ↓havoc_out, List.contains_cons, List.contains_nil, Bool.or_false, Bool.or_true, Int.ofNat_lt, decide_false, Nat.zero_add, Nat.lt_irrefl, Nat.lt_succ_self, ↓ev_tmp, ↓ev_int, ↓iop_move, ↓iop_assign, ↓iop_load, ↓iop_binOp, ↓iop_fieldAddr, ↓iop_callb, bi_len, lenM_none, pickP_f, loadP_vptr, fieldP_vptr, lenP_lits, b_lss, ↓reduceIte, ↓evs_cons, ↓evs_nil, beq_self_eq_true, see_eq, nth_reps, pur_reps, Try.f22, ty22, ty24, h23, h2]
      have hok : ∀ k, k < rs.length → ac rs k < 2 ^ rs.length ∧ af rs k = ((ac rs k : Nat) : Int) := fun k hk =>
        have := badM_zero.1 (badT_zero.1 hbad k hk)
        ⟨this.2.2.1, this.2.1⟩
      have hS : ∀ j k, k ≤ rs.length → sweep rs (doneT rs j) k < 1024 := fun j k hk => Nat.lt_of_lt_of_le (sweep_lt (doneT_lt j) k hk) hp
      refine loop_cnt [5, 6, 7, 8, 9, 35, 36, 37, 38, 39, 40, 41, 42, 43, 44, 45, 46, 47, 48, 49, 50, 51, 52, 53, 54, 55, 56, 57, 58, 59, 60, 61, 62, 63, 64, 65, 66, 67, 68] rs.length (fun j ρ st => ρ 6 = I j ∧ ρ 5 = I (doneT rs j)) (.refl _) ?_ ?_
      · simp +contextual (maxSteps := 4000000) only [↓upd_same, ↓upd_ne, Nat.reduceBEq, true_and, PV.int.injEq, Int.cast_ofNat_Int, nth_reps, pur_reps, Try.f22]
        rfl
      · rintro j ρ2 ⟨ob2, M2⟩ hj ⟨h61, h6⟩
        by_cases hjlt : j < rs.length
        · have hjlt' : (j : Int) < rs.length := by omega
          simp +contextual (maxSteps := 4000000) only [↓ur_skip, ↓ur_seq, ↓ur_block, ↓ur_region, ↓ur_cond, ↓cont_seq, ↓ops_consN, nY_move, nY_assign, nY_load, nY_binOp, nY_fieldAddr, nY_callb, ↓ops_nil, opsIf_some, condC_true, Option.map_some, Option.bind_some, Option.getD_some, Nat.reduceLT, Bool.false_eq_true, ↓upd_same, ↓upd_ne, Nat.reduceBEq, true_and, List.getElem?_cons_zero, List.getElem?_cons_succ, cfg_P, cfg_frz, List.length_map, ↓havoc_in, ↓havoc_out, List.contains_cons, List.contains_nil, Bool.or_false, Bool.or_true, decide_true, Nat.zero_add, Nat.lt_succ_self, ↓ev_tmp, ↓ev_int, ↓iop_move, ↓iop_assign, ↓iop_load, ↓iop_binOp, ↓iop_fieldAddr, ↓iop_callb, bi_len, lenM_none, pickP_f, loadP_vptr, fieldP_vptr, lenP_lits, b_lss, ↓reduceIte, ↓evs_cons, ↓evs_nil, beq_self_eq_true, see_eq, nth_reps, pur_reps, Try.f22, ty22, ty24, h61, h6, hjlt', hjlt]
          refine loop_cnt [5, 7, 8, 9, 42, 43, 44, 45, 46, 47, 48, 49, 50, 51, 52, 53, 54, 55, 56, 57, 58, 59, 60, 61, 62, 63, 64, 65, 66, 67, 68] rs.length (fun k ρ st => ρ 7 = I k ∧ ρ 5 = I (sweep rs (doneT rs j) k)) (.refl _) ?_ ?_
          · simp +contextual (maxSteps := 4000000) only [↓upd_same, ↓upd_ne, Nat.reduceBEq, true_and, ↓havoc_in, List.contains_cons, List.contains_nil, Bool.or_false, PV.int.injEq, Int.natCast_inj, beq_self_eq_true, Int.cast_ofNat_Int, nth_reps, pur_reps, Try.f22, h6]
            rfl
          · rintro k ρ3 ⟨ob3, M3⟩ hk ⟨h66, h63⟩
            by_cases hklt : k < rs.length
            · have hklt' : (k : Int) < rs.length := by omega
              have hs1 := hS j k hk
              have hs2 := hok k hklt
              have ha1 : ac rs k < 1024 := by omega
              have hb1 : sweep rs (doneT rs j) k < 9223372036854775808 := by omega
              have hk64 : k ≤ 64 := by omega
              have hk60 : k ≤ 60 := by omega
              have hpk := pow1024 (k := k) (by omega)
              cases htb : (sweep rs (doneT rs j) k).testBit k <;> cases hsb : sub (ac rs k) (sweep rs (doneT rs j) k)
              · simp +contextual (maxSteps := 4000000) only [↓ur_skip, ↓ur_seq, ↓ur_block, ↓ur_region, ↓ur_cond, ↓cont_seq, ↓cont_blk, ↓cont_lp, ↓ops_consN, ↓ops_guardN, nY_move, nY_assign, nY_pick, nY_load, nY_binOp, nY_unOp, nY_fieldAddr, nY_indexAddr, nY_callf, nY_callb, ↓ops_nil, opsIf_some, condC_true, condC_false, guardC_tt, Option.map_some, Option.bind_some, Option.getD_some, Nat.reduceLT, Bool.false_eq_true, ↓upd_same, ↓upd_ne, Nat.reduceBEq, true_and, and_true, List.getElem?_toArray, List.getElem?_cons_zero, List.getElem?_cons_succ, cfg_P, cfg_tab, cfg_muts, cfg_frz, List.length_map, ↓havoc_in, ↓havoc_out, agree_upd, agree_havoc, List.contains_cons, List.contains_nil, Bool.or_false, Bool.or_true, Int.natCast_nonneg, Int.toNat_natCast, decide_true, PV.int.injEq, tabOf_cons, tab_v, Bool.and_self, Nat.reduceEqDiff, List.nil_append, List.append_nil, Nat.zero_add, Nat.lt_succ_self, Bool.not_false, pur_int, cells_agg, ↓ev_tmp, ↓ev_int, ↓ev_func, ↓guardP_eq, grd_some, ↓iop_move, ↓iop_assign, ↓pick3_bool, ↓iop_pick, ↓iop_load, ↓iop_binOp, ↓iop_unOp, ↓iop_fieldAddr, ↓iop_indexAddr, idxA_int, ↓iop_callv, ↓iop_callb, nrmAll_cons, nrmAll_nil, bi_len, lenM_none, nrm_int, pickP_f, loadP_vptr, fieldP_vptr, indexP_lits, lenP_lits, b_add, b_lss, u_not, valT_eq, pursL_cons, pursL_nil, ↓reduceIte, callP_eq, ↓evs_cons, ↓evs_nil, beq_self_eq_true, see_eq, and_false, Bool.true_eq_false, s_in, s_rwin, nth_reps, pur_reps, Try.f22, ty3, ty22, ty24, ty56, h66, h63, hklt', hklt, af_at, hs2.2, sweep, hsb, htb, ha1, hb1, hk64]
                exact hw k hklt
              · have ho := or_add htb
                have hwa : IntKind.i64.wrap (((sweep rs (doneT rs j) k : Nat) : Int) + ((2 ^ k : Nat) : Int)) = ((sweep rs (doneT rs j) k + 2 ^ k : Nat) : Int) := by
                  generalize 2 ^ k = q at *
                  rw [wrap64 (by omega) (by omega)]; omega
                simp +contextual (maxSteps := 4000000) only [↓ur_skip, ↓ur_seq, ↓ur_block, ↓ur_region, ↓ur_cond, ↓cont_seq, ↓cont_blk, ↓cont_lp, ↓ops_consN, ↓ops_guardN, nY_move, nY_assign, nY_pick, nY_load, nY_binOp, nY_unOp, nY_fieldAddr, nY_indexAddr, nY_callf, nY_callb, ↓ops_nil, opsIf_some, condC_true, guardC_tt, Option.map_some, Option.bind_some, Option.getD_some, Nat.reduceLT, Bool.false_eq_true, ↓upd_same, ↓upd_ne, Nat.reduceBEq, true_and, and_true, List.getElem?_toArray, List.getElem?_cons_zero, List.getElem?_cons_succ, cfg_P, cfg_tab, cfg_muts, cfg_frz, List.length_map, ↓havoc_in, ↓havoc_out, agree_upd, agree_havoc, List.contains_cons, List.contains_nil, Bool.or_false, Bool.or_true, Int.natCast_nonneg, Int.toNat_natCast, decide_true, PV.int.injEq, tabOf_cons, tab_v, Bool.and_self, Nat.reduceEqDiff, List.nil_append, List.append_nil, Nat.zero_add, Nat.lt_succ_self, Bool.not_false, pur_int, cells_agg, ↓ev_tmp, ↓ev_int, ↓ev_func, ↓guardP_eq, grd_some, ↓iop_move, ↓iop_assign, ↓pick3_bool, ↓iop_pick, ↓iop_load, ↓iop_binOp, ↓iop_unOp, ↓iop_fieldAddr, ↓iop_indexAddr, idxA_int, ↓iop_callv, ↓iop_callb, nrmAll_cons, nrmAll_nil, bi_len, lenM_none, nrm_int, pickP_f, loadP_vptr, fieldP_vptr, indexP_lits, lenP_lits, b_add, b_lss, u_not, valT_eq, pursL_cons, pursL_nil, ↓reduceIte, callP_eq, ↓evs_cons, ↓evs_nil, beq_self_eq_true, see_eq, and_false, Bool.true_eq_false, s_in, s_bit, s_rwin, nth_reps, pur_reps, Try.f22, ty3, ty22, ty24, ty56, h66, h63, hklt', hklt, af_at, hs2.2, sweep, hsb, htb, ha1, hb1, hk64, hk60, hwa, ho]
                exact hw k hklt
              · simp +contextual (maxSteps := 4000000) only [↓ur_skip, ↓ur_seq, ↓ur_block, ↓ur_region, ↓ur_cond, ↓cont_seq, ↓cont_blk, ↓cont_lp, ↓ops_consN, ↓ops_guardN, nY_move, nY_assign, nY_pick, nY_load, nY_binOp, nY_unOp, nY_fieldAddr, nY_indexAddr, nY_callf, nY_callb, ↓ops_nil, opsIf_some, condC_true, condC_false, guardC_ft, Option.map_some, Option.bind_some, Option.getD_some, Nat.reduceLT, Bool.false_eq_true, ↓upd_same, ↓upd_ne, Nat.reduceBEq, true_and, and_true, List.getElem?_toArray, List.getElem?_cons_zero, List.getElem?_cons_succ, cfg_P, cfg_tab, cfg_muts, cfg_frz, List.length_map, ↓havoc_in, ↓havoc_out, agree_upd, agree_havoc, List.contains_cons, List.contains_nil, Bool.or_false, Bool.or_true, Int.natCast_nonneg, Int.toNat_natCast, decide_true, PV.int.injEq, tabOf_cons, tab_v, Bool.and_self, Nat.reduceEqDiff, List.nil_append, List.append_nil, Nat.zero_add, Nat.lt_succ_self, Bool.not_true, pur_int, cells_agg, ↓ev_tmp, ↓ev_int, ↓ev_bool, ↓ev_func, ↓guardP_eq, grd_some, ↓iop_move, ↓iop_assign, ↓pick3_bool, ↓iop_pick, ↓iop_load, ↓iop_binOp, ↓iop_unOp, ↓iop_fieldAddr, ↓iop_indexAddr, idxA_int, ↓iop_callv, ↓iop_callb, nrmAll_cons, nrmAll_nil, bi_len, lenM_none, nrm_int, pickP_f, loadP_vptr, fieldP_vptr, indexP_lits, lenP_lits, b_add, b_lss, u_not, valT_eq, pursL_cons, pursL_nil, ↓reduceIte, callP_eq, ↓evs_cons, ↓evs_nil, beq_self_eq_true, see_eq, and_false, Bool.true_eq_false, s_in, s_rwin, nth_reps, pur_reps, Try.f22, ty3, ty22, ty24, ty56, h66, h63, hklt', hklt, af_at, hs2.2, sweep, hsb, htb, ha1, hb1, hk64]
                exact hw k hklt
              · have ho := or_same htb
                simp +contextual (maxSteps := 4000000) only [↓ur_skip, ↓ur_seq, ↓ur_block, ↓ur_region, ↓ur_cond, ↓cont_seq, ↓cont_blk, ↓cont_lp, ↓ops_consN, ↓ops_guardN, nY_move, nY_assign, nY_pick, nY_load, nY_binOp, nY_unOp, nY_fieldAddr, nY_indexAddr, nY_callf, nY_callb, ↓ops_nil, opsIf_some, condC_true, condC_false, guardC_ft, Option.map_some, Option.bind_some, Option.getD_some, Nat.reduceLT, Bool.false_eq_true, ↓upd_same, ↓upd_ne, Nat.reduceBEq, true_and, and_true, List.getElem?_toArray, List.getElem?_cons_zero, List.getElem?_cons_succ, cfg_P, cfg_tab, cfg_muts, cfg_frz, List.length_map, ↓havoc_in, ↓havoc_out, agree_upd, agree_havoc, List.contains_cons, List.contains_nil, Bool.or_false, Bool.or_true, Int.natCast_nonneg, Int.toNat_natCast, decide_true, PV.int.injEq, tabOf_cons, tab_v, Bool.and_self, Nat.reduceEqDiff, List.nil_append, List.append_nil, Nat.zero_add, Nat.lt_succ_self, Bool.not_true, pur_int, cells_agg, ↓ev_tmp, ↓ev_int, ↓ev_bool, ↓ev_func, ↓guardP_eq, grd_some, ↓iop_move, ↓iop_assign, ↓pick3_bool, ↓iop_pick, ↓iop_load, ↓iop_binOp, ↓iop_unOp, ↓iop_fieldAddr, ↓iop_indexAddr, idxA_int, ↓iop_callv, ↓iop_callb, nrmAll_cons, nrmAll_nil, bi_len, lenM_none, nrm_int, pickP_f, loadP_vptr, fieldP_vptr, indexP_lits, lenP_lits, b_add, b_lss, u_not, valT_eq, pursL_cons, pursL_nil, ↓reduceIte, callP_eq, ↓evs_cons, ↓evs_nil, beq_self_eq_true, see_eq, and_false, Bool.true_eq_false, s_in, s_rwin, nth_reps, pur_reps, Try.f22, ty3, ty22, ty24, ty56, h66, h63, hklt', hklt, af_at, hs2.2, sweep, hsb, htb, ha1, hb1, hk64, ho]
                exact hw k hklt
            · have e : k = rs.length := by omega
              subst e
              simp +contextual (maxSteps := 4000000) only [↓ur_seq, ↓ur_exit, ↓ur_region, ↓ur_cond, ↓cont_seq, ↓cont_blk, ↓cont_lp, ↓leave_seq, ↓leave_blk, ↓leave_lp, ↓ops_consN, nY_move, nY_assign, nY_load, nY_binOp, nY_fieldAddr, nY_callb, ↓ops_nil, opsIf_some, condC_false, Option.map_some, Option.bind_some, Option.getD_some, Nat.reduceLT, Bool.false_eq_true, ↓upd_same, ↓upd_ne, Nat.reduceBEq, true_and, List.getElem?_cons_zero, List.getElem?_cons_succ, cfg_P, cfg_frz, List.length_map, ↓havoc_in, ↓havoc_out, agree_upd, List.contains_cons, List.contains_nil, Bool.or_false, Bool.or_true, Int.ofNat_lt, decide_false, PV.int.injEq, Nat.zero_add, Nat.lt_irrefl, Nat.lt_succ_self, ↓ev_tmp, ↓ev_int, ↓iop_move, ↓iop_assign, ↓iop_load, ↓iop_binOp, ↓iop_fieldAddr, ↓iop_callb, bi_len, lenM_none, pickP_f, loadP_vptr, fieldP_vptr, lenP_lits, b_add, b_lss, ↓reduceIte, Int.natCast_inj, ↓evs_cons, ↓evs_nil, beq_self_eq_true, see_eq, nth_reps, pur_reps, Try.f22, ty22, ty24, h66, h63, h61]
              refine ⟨?_, hw j hjlt, rfl⟩
              rw [agree_havoc_sub (by decide +kernel)]; simp +contextual (maxSteps := 4000000) only [Nat.reduceBEq, agree_upd, agree_havoc, List.contains_cons, List.contains_nil, Bool.or_false, Bool.or_true, beq_self_eq_true, nth_reps, pur_reps, Try.f22]
        · have e : j = rs.length := by omega
          subst e
          simp +contextual (maxSteps := 4000000) only [↓ur_skip, ↓ur_seq, ↓ur_exit, ↓ur_ret, ↓ur_region, ↓ur_cond, ↓cont_seq, ↓leave_seq, ↓leave_blk, ↓leave_lp, ↓done_nil, ↓done_seq, ↓ops_consN, nY_move, nY_assign, nY_load, nY_binOp, nY_fieldAddr, nY_callf, nY_callb, ↓ops_nil, opsIf_some, condC_false, Option.map_some, Option.bind_some, Option.getD_some, Nat.reduceLT, Bool.false_eq_true, ↓upd_same, ↓upd_ne, Nat.reduceBEq, true_and, List.getElem?_cons_zero, List.getElem?_cons_succ, endQ, cfg_P, cfg_tab, cfg_muts, cfg_frz, List.length_map, ↓havoc_in, ↓havoc_out, List.contains_cons, List.contains_nil, Bool.or_false, Bool.or_true, Int.ofNat_lt, decide_true, decide_false, Option.some.injEq, exists_eq_left', tabOf_cons, tab_v, Bool.and_self, Nat.reduceEqDiff, List.nil_append, List.append_nil, Nat.zero_add, Nat.lt_irrefl, Nat.lt_succ_self, not_true_eq_false, not_false_eq_true, Classical.not_not, pur_int, DRx_int, ↓ev_tmp, ↓ev_int, ↓ev_func, ↓iop_move, ↓iop_assign, ↓iop_load, ↓iop_binOp, ↓iop_fieldAddr, ↓iop_callv, ↓iop_callb, nrmAll_cons, nrmAll_nil, bi_len, lenM_none, nrm_int, pickP_f, loadP_vptr, fieldP_vptr, lenP_lits, b_sub, b_neq, b_lss, ires_eq, iresL_1, iresAll_nil, iresAll_cons, iresOne_tmp, valT_eq, pursL_cons, pursL_nil, ↓reduceIte, callP_eq, Int.natCast_inj, condC_d, ↓evs_cons, ↓evs_nil, beq_self_eq_true, see_eq, and_false, Bool.true_eq_false, s_bit, nth_reps, pur_reps, Try.f22, ty3, ty22, ty24, h61, h6, h60, hw1]
          refine ⟨fun g => ?_, fun g => ?_⟩
          · simp [← hr, checkM, h10, hst, hbad, g]
          · simp [← hr, checkM, h10, hst, hbad, g]
theorem o_rcheck : O_rcheck := k_rcheck c_rcheck
end Sim
