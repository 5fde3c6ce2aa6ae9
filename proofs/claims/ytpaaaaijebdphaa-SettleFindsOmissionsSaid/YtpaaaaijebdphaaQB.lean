/- What functions of this seat compute, by values: contracts (lemmas of the statement's proof, under the conditions that each names). -/
import Derived.Test.YtpaaaaijebdphaaQA
namespace Sim
open Go Go.Proofs
set_option maxRecDepth 10000
set_option maxHeartbeats 2000000
set_option linter.unusedVariables false
set_option linter.unusedSimpArgs false
attribute [local congr] opsIf_congr condC_congr guardC_congr grd_congr pick3_congr obind_congr omap_congr nilC_congr
/-- A payment that can be. -/
def payOK (n : Nat) (p : Pay) : Prop := (0 ≤ p.1 ∧ p.1 < n) ∧ (0 ≤ p.2.1 ∧ p.2.1 < n) ∧ p.1 ≠ p.2.1 ∧ 1 ≤ p.2.2 ∧ p.2.2 ≤ 18014398509481984
instance (n : Nat) (p : Pay) : Decidable (payOK n p) := by unfold payOK; infer_instance
/-- What a payment gives to an account. -/
def gotP (p : Pay) (i : Int) : Int := (if p.1 = i then p.2.2 else 0) - (if p.2.1 = i then p.2.2 else 0)
def gotT (l : List Pay) (i : Int) : Nat → Int
  | 0 => 0
  | k + 1 => gotT l i k + gotP (l.getD k dY) i
theorem gotP_le {n : Nat} {p : Pay} (h : payOK n p) (i : Int) : -18014398509481984 ≤ gotP p i ∧ gotP p i ≤ 18014398509481984 := by
  unfold payOK at h
  unfold gotP
  split <;> split <;> omega
theorem gotT_le {n : Nat} {l : List Pay} : ∀ {k : Nat}, k ≤ l.length → (∀ j, j < k → payOK n (l.getD j dY)) → ∀ i, -(18014398509481984 * (k : Int)) ≤ gotT l i k ∧ gotT l i k ≤ 18014398509481984 * (k : Int)
  | 0, _, _, i => by simp [gotT]
  | k + 1, hk, h, i => by
    have ih := gotT_le (n := n) (l := l) (k := k) (by omega) (fun j hj => h j (by omega)) i
    have := gotP_le (h k (by omega)) i
    simp only [gotT]
    omega
/-- The balances behind some payments. -/
def leftL (b : List Int) (l : List Pay) (k : Nat) : List Int := (List.range b.length).map fun i => b.getD i 0 + gotT l (i : Int) k
theorem leftL_len {b : List Int} {l : List Pay} {k : Nat} : (leftL b l k).length = b.length := by simp [leftL]
theorem leftL_at {b : List Int} {l : List Pay} {k i : Nat} (h : i < b.length) : (leftL b l k).getD i 0 = b.getD i 0 + gotT l (i : Int) k := by
  simp [leftL, h]
theorem leftL_0 {b : List Int} {l : List Pay} : leftL b l 0 = b := by
  apply List.ext_getElem
  · simp [leftL]
  · intro i h1 h2
    simp [leftL, gotT, h2]
theorem leftL_step {b : List Int} {l : List Pay} {k x y : Nat} {v w : Int} (hx : (l.getD k dY).1 = x) (hy : (l.getD k dY).2.1 = y) (hne : x ≠ y) (hxl : x < b.length) (hyl : y < b.length)
    (hv : v = (leftL b l k).getD x 0 + (l.getD k dY).2.2) (hw : w = (leftL b l k).getD y 0 - (l.getD k dY).2.2) : ((leftL b l k).set x v).set y w = leftL b l (k + 1) := by
  rw [leftL_at hxl] at hv
  rw [leftL_at hyl] at hw
  apply List.ext_getElem
  · simp [leftL]
  · intro i h1 h2
    have hi : i < b.length := by simpa [leftL] using h2
    rw [List.getElem_set, List.getElem_set]
    have e : (leftL b l (k + 1))[i]'h2 = b.getD i 0 + (gotT l (i : Int) k + gotP (l.getD k dY) i) := by
      have := leftL_at (l := l) (k := k + 1) hi
      rw [List.getD_eq_getElem?_getD, List.getElem?_eq_getElem h2] at this
      exact this
    have e2 : (leftL b l k)[i]'(by rw [leftL_len]; exact hi) = b.getD i 0 + gotT l (i : Int) k := by
      have := leftL_at (l := l) (k := k) hi
      rw [List.getD_eq_getElem?_getD, List.getElem?_eq_getElem (by rw [leftL_len]; exact hi)] at this
      exact this
    rw [e, e2]
    unfold gotP
    rw [hx, hy]
    by_cases c1 : y = i
    · subst c1
      rw [if_pos rfl, if_neg (by omega), if_pos rfl, hw]; omega
    · rw [if_neg c1]
      by_cases c2 : x = i
      · subst c2
        rw [if_pos rfl, if_pos rfl, if_neg (by omega), hv]; omega
      · rw [if_neg c2, if_neg (by omega), if_neg (by omega)]; omega
/-- Do payments settle balances? -/
def settM (b : List Int) (l : List Pay) : Bool := decide (l.length ≤ 200) && decide (∀ x ∈ b, fitB x) && decide (∀ p ∈ l, payOK b.length p) && decide (∀ x ∈ leftL b l l.length, x = 0)
theorem any_not {l : List Int} {p : Int → Prop} [DecidablePred p] : (l.any fun n => decide (¬ p n)) = !decide (∀ x ∈ l, p x) := by
  rw [Bool.eq_iff_iff]
  simp [List.any_eq_true]
theorem pays_at {l : List Pay} {q : Pay → Prop} (h : ∀ j, j < l.length → q (l.getD j dY)) : ∀ p ∈ l, q p := fun p hp => by
  obtain ⟨k, hk, rfl⟩ := List.getElem_of_mem hp
  have := h k hk
  simpa [hk] using this
theorem at_pays {l : List Pay} {q : Pay → Prop} (h : ∀ p ∈ l, q p) : ∀ j, j < l.length → q (l.getD j dY) := fun j hj => by
  have := h _ (List.getElem_mem hj)
  simpa [hj] using this
theorem fit_at {b : List Int} (h : ∀ x ∈ b, fitB x) {i : Nat} (hi : i < b.length) : -1125899906842624 ≤ b.getD i 0 ∧ b.getD i 0 ≤ 1125899906842624 := by
  have := h _ (List.getElem_mem hi)
  unfold fitB at this
  simpa [hi] using this
theorem left_le {b : List Int} {l : List Pay} {k : Nat} (hb : ∀ x ∈ b, fitB x) (hl : l.length ≤ 200) (hk : k ≤ l.length) (hz : ∀ j, j < k → payOK b.length (l.getD j dY)) {i : Nat} (hi : i < b.length) : -4611686018427387904 ≤ (leftL b l k).getD i 0 ∧ (leftL b l k).getD i 0 ≤ 4611686018427387904 := by
  have h1 := fit_at hb hi
  have h2 := gotT_le hk hz (i : Int)
  rw [leftL_at hi]
  omega
def C_settles0 : Prop := ∀ (l : List Pay) , VC Try.prog 17 [ints [], pays l] (B (settM [] l))
theorem c_settles0 : C_settles0 := by
  intro l
  refine vc_ofU mixed (l := [e_any, e_cloneI, e_win]) ((eok_cons o_any (eok_cons o_cloneI (eok_cons o_win eok_nil)))) [] []  Try.func17 rfl (by decide +kernel) (N := 74) rfl (by simp) rfl (by kernel_rfl) fun hs => ?_
  simp only [smallL, PV.small, List.length_map, and_true, true_and] at hs
  generalize hr : settM [] l = R
  by_cases h200 : l.length ≤ 200
  case neg =>
    have e : R = false := by rw [← hr]; simp [settM, h200]
    subst e
    have h2 : (200 : Int) < (l.length : Int) := by omega
    simp +contextual (maxSteps := 4000000) only [↓ur_seq, ↓ur_ret, ↓ur_region, ↓ur_cond, ↓cont_seq, ↓done_nil, ↓done_seq, ↓ops_consN, ↓ops_guardN, nY_move, nY_assign, nY_pick, nY_binOp, nilO_int, nY_callf, nY_callb, ↓ops_nil, opsIf_some, condC_true, guardC_tf, Option.map_some, Option.bind_some, Option.getD_some, Nat.reduceLT, ↓upd_same, ↓upd_ne, Nat.reduceBEq, and_true, List.getD_cons_zero, List.getD_cons_succ, List.getElem?_toArray, List.getElem?_cons_zero, List.getElem?_cons_succ, endQ, cfg_P, List.length_map, decide_true, Option.some.injEq, exists_eq_left', Bool.not_false, st0, DRx_bool, ↓ev_tmp, ↓ev_int, ↓ev_bool, ↓guardP_eq, grd_some, ↓iop_move, ↓iop_assign, ↓pick3_bool, ↓iop_pick, ↓iop_binOp, ↓iop_callb, bi_len, lenM_none, lenP_lits, b_gtr, env0_eq, ires_eq, iresL_1, iresAll_nil, iresAll_cons, iresOne_tmp, ↓reduceIte, ↓evs_cons, ↓evs_nil, e_any, e_cloneI, e_win, nth_psts, pur_psts, nth_gaps, pur_gaps, nth_pays, pur_pays, Try.f17, ty35, h2]
  have h2 : ¬ (200 : Int) < (l.length : Int) := by omega
  have f1 : specOf A_any R_any H_any [.lits 1 [], .func (.func 44) [] []] = some (B false) := (s_any [] 44).trans (if_pos (.inl rfl))
  have f2 : specOf A_any R_any H_any [.lits 1 [], .func (.func 47) [] []] = some (B false) := (s_any [] 47).trans (if_pos (.inr rfl))
  have f3 : specOf A_cloneI R_cloneI H_cloneI [.lits 1 []] = some (.lits 1 []) := (s_cloneI []).trans (if_pos (by simp))
  simp +contextual (maxSteps := 4000000) only [↓ur_skip, ↓ur_seq, ↓ur_block, ↓ur_region, ↓ur_cond, ↓cont_seq, ↓ops_consN, ↓ops_guardN, nY_move, nY_assign, nY_pick, nY_binOp, nilO_int, nY_callf, nY_callb, ↓ops_nil, opsIf_some, condC_false, guardC_ff, Option.map_some, Option.bind_some, Option.getD_some, Nat.reduceLT, Bool.false_eq_true, ↓upd_same, ↓upd_ne, Nat.reduceBEq, true_and, List.getD_cons_zero, List.getD_cons_succ, List.getElem?_toArray, List.getElem?_cons_zero, List.getElem?_cons_succ, cfg_P, cfg_tab, cfg_muts, cfg_frz, List.map_nil, List.length_map, List.contains_nil, decide_false, tabOf_cons, tab_v, Bool.and_self, Nat.reduceEqDiff, List.nil_append, List.append_nil, Nat.reduceAdd, Bool.not_false, st0, pur_lits, pur_func, ↓ev_tmp, ↓ev_int, ↓ev_bool, ↓ev_func, ↓guardP_eq, grd_some, ↓iop_move, ↓iop_assign, ↓pick3_bool, ↓iop_pick, ↓iop_binOp, ↓iop_callv, ↓iop_callb, nrmAll_cons, nrmAll_nil, bi_len, lenM_none, nrm_lits, nrm_func, lenP_lits, b_gtr, env0_eq, valT_eq, pursL_cons, pursL_nil, ↓reduceIte, callP_eq, tsOf_eq, ↓evs_cons, ↓evs_nil, and_false, Bool.true_eq_false, e_any, e_cloneI, e_win, nth_psts, pur_psts, nth_gaps, pur_gaps, nth_pays, pur_pays, Try.f17, ty34, ty35, ty105, h2, f1, f2, f3]
  refine loop_cnt [4, 7, 19, 20, 21, 22, 23, 24, 25, 26, 27, 28, 29, 30, 31, 32, 33, 34, 35, 36, 37, 38, 39, 40, 41, 42, 43, 44, 45, 46, 47, 48, 49, 50, 51, 52, 53, 54, 55, 56, 57, 58, 59, 60, 61, 62, 63, 64, 65, 66, 67, 68, 69, 70] l.length (fun k ρ st' => ρ 19 = I k ∧ k = 0 ∧ st' = st0) (.refl _) ?_ ?_
  · simp +contextual (maxSteps := 4000000) only [↓upd_same, and_true, st0, Int.cast_ofNat_Int, nth_psts, pur_psts, nth_gaps, pur_gaps, nth_pays, pur_pays, Try.f17]
  rintro k ρ st hk ⟨h19, rfl, rfl⟩
  by_cases hl : l = []
  · have e : R = true := by rw [← hr, hl]; rfl
    subst e hl
    simp +contextual (maxSteps := 4000000) only [↓ur_seq, ↓ur_exit, ↓ur_ret, ↓ur_region, ↓ur_cond, Nat.one_ne_zero, ↓cont_seq, ↓leave_seq, ↓leave_blk, ↓leave_lp, ↓done_nil, ↓ops_consN, nY_move, nY_assign, nY_binOp, nilO_tmp, nY_unOp, nY_callf, ↓ops_nil, opsIf_some, condC_false, Option.map_some, Option.bind_some, Option.getD_some, Nat.reduceLT, Bool.false_eq_true, ↓upd_same, ↓upd_ne, Nat.reduceBEq, and_true, endQ, cfg_P, cfg_tab, cfg_muts, cfg_frz, ↓havoc_in, ↓havoc_out, List.contains_cons, List.contains_nil, Bool.or_false, Bool.or_true, decide_false, Option.some.injEq, exists_eq_left', tabOf_cons, tab_v, Bool.and_self, List.nil_append, List.append_nil, List.length_nil, Nat.zero_add, Nat.reduceAdd, Nat.lt_irrefl, Nat.lt_succ_self, Bool.not_false, Int.reduceLT, st0, pur_lits, pur_func, DRx_bool, ↓ev_tmp, ↓ev_func, ↓iop_move, ↓iop_assign, ↓iop_binOp, ↓iop_unOp, ↓iop_callv, nrmAll_cons, nrmAll_nil, nrm_lits, nrm_func, b_lss, u_not, ires_eq, iresL_1, iresAll_nil, iresAll_cons, iresOne_tmp, valT_eq, pursL_cons, pursL_nil, ↓reduceIte, callP_eq, tsOf_eq, ↓evs_cons, ↓evs_nil, beq_self_eq_true, false_and, and_false, Bool.true_eq_false, Int.cast_ofNat_Int, nth_psts, pur_psts, nth_gaps, pur_gaps, nth_pays, pur_pays, Try.f17, ty34, ty105, h19, f2]
  · have hpos : 0 < l.length := List.length_pos_iff.2 hl
    have e : R = false := by
      rw [← hr]
      have : ¬ ∀ p ∈ l, payOK 0 p := fun h => by
        have := at_pays h 0 hpos
        unfold payOK at this
        omega
      simp only [settM, List.length_nil, decide_eq_false this, Bool.and_false, Bool.false_and]
    subst e
    have hz : ((0 : Nat) : Int) = 0 := rfl
    have hneg : ¬ (0 ≤ (l.getD 0 dY).1 ∧ (l.getD 0 dY).1 ≤ -1) := by omega
    have hw : IntKind.i64.wrap (0 - 1) = -1 := rfl
    simp +contextual (maxSteps := 4000000) only [↓ur_skip, ↓ur_seq, ↓ur_block, ↓ur_ret, ↓ur_region, ↓ur_cond, Nat.one_ne_zero, ↓cont_seq, ↓done_nil, ↓done_seq, ↓done_blk, ↓done_lp, ↓ops_consN, ↓ops_guardN, nY_move, nY_assign, nY_pick, nY_alloc, nY_load, nY_store, nY_binOp, nilO_tmp, nilO_int, nY_unOp, nY_fieldAddr, nY_indexAddr, nY_callf, nY_callb, ↓ops_nil, opsIf_some, opsIf_none, condC_true, guardC_tf, Option.map_some, Option.bind_some, Option.getD_some, Nat.reduceLT, Bool.false_eq_true, ↓upd_same, ↓upd_ne, Nat.reduceBEq, and_true, List.getElem?_toArray, List.getElem?_cons_zero, List.getElem?_cons_succ, endQ, cfg_P, cfg_tab, cfg_muts, cfg_frz, cfg_num, numOf_eq, List.length_map, ↓havoc_in, ↓havoc_out, List.contains_cons, List.contains_nil, Bool.or_false, Bool.or_true, decide_true, decide_false, Option.some.injEq, exists_eq_left', tabOf_cons, tab_v, Bool.and_self, Nat.reduceEqDiff, List.nil_append, List.append_nil, updO_same, List.length_cons, List.length_nil, Nat.zero_add, Nat.add_zero, List.drop_zero, List.take_zero, Nat.reduceAdd, List.set_cons_zero, nth_zero, Nat.lt_succ_self, Bool.not_false, Int.reduceToNat, st0, Nat.le_refl, pur_int, cells_agg, DRx_bool, ↓ev_tmp, ↓ev_int, ↓ev_bool, ↓ev_func, ↓guardP_eq, grd_some, ↓iop_move, ↓iop_assign, ↓pick3_bool, ↓iop_pick, ↓iop_alloc, ↓iop_load, ↓iop_store, ↓iop_binOp, ↓iop_unOp, ↓iop_fieldAddr, ↓iop_indexAddr, idxA_int, ↓iop_callv, ↓iop_callb, nrmAll_cons, nrmAll_nil, bi_len, lenM_none, nrm_int, pickP_f, pickP_t, loadP_vptr, loadP_ptr, setCells_agg, storeP_ptr, fieldP_ptr, indexP_lits, lenP_lits, b_sub, b_lss, u_not, splice_eq, ires_eq, iresL_1, iresAll_nil, iresAll_cons, iresOne_tmp, valT_eq, pursL_cons, pursL_nil, Store.new, Store.set, ↓reduceIte, arr_eq, arrB_some, callP_eq, tsOf_eq, List.take_succ_cons, List.drop_succ_cons, List.drop_nil, List.take_nil, ↓evs_cons, ↓evs_nil, Int.le_refl, Int.natCast_pos, beq_self_eq_true, see_eq, false_and, and_false, Bool.true_eq_false, Int.cast_ofNat_Int, s_win, nth_psts, pur_psts, nth_gaps, pur_gaps, nth_pays, pur_pays, Try.f17, ty3, ty34, ty35, ty68, h19, hpos, hz, hw, hneg]
def C_settles1 : Prop := ∀ (b : List Int) (l : List Pay) (h : b.length ≤ 100000 ∧ b ≠ []) , VC Try.prog 17 [ints b, pays l] (B (settM b l))
theorem c_settles1 : C_settles1 := by
  rintro b l ⟨hbl, hb0⟩
  refine vc_ofU mixed (l := [e_any, e_cloneA, e_win]) ((eok_cons o_any (eok_cons o_cloneA (eok_cons o_win eok_nil)))) [] []  Try.func17 rfl (by decide +kernel) (N := 74) rfl (by simp) rfl (by kernel_rfl) fun hs => ?_
  simp only [smallL, PV.small, List.length_map, and_true, true_and] at hs
  generalize hr : settM b l = R
  by_cases h200 : l.length ≤ 200
  case neg =>
    have e : R = false := by rw [← hr]; simp [settM, h200]
    subst e
    have h2 : (200 : Int) < (l.length : Int) := by omega
    simp +contextual (maxSteps := 4000000) only [↓ur_seq, ↓ur_ret, ↓ur_region, ↓ur_cond, ↓cont_seq, ↓done_nil, ↓done_seq, ↓ops_consN, ↓ops_guardN, nY_move, nY_assign, nY_pick, nY_binOp, nilO_int, nY_callf, nY_callb, ↓ops_nil, opsIf_some, condC_true, guardC_tf, Option.map_some, Option.bind_some, Option.getD_some, Nat.reduceLT, ↓upd_same, ↓upd_ne, Nat.reduceBEq, and_true, List.getD_cons_zero, List.getD_cons_succ, List.getElem?_toArray, List.getElem?_cons_zero, List.getElem?_cons_succ, endQ, cfg_P, List.length_map, decide_true, Option.some.injEq, exists_eq_left', Bool.not_false, st0, DRx_bool, ↓ev_tmp, ↓ev_int, ↓ev_bool, ↓guardP_eq, grd_some, ↓iop_move, ↓iop_assign, ↓pick3_bool, ↓iop_pick, ↓iop_binOp, ↓iop_callb, bi_len, lenM_none, lenP_lits, b_gtr, env0_eq, ires_eq, iresL_1, iresAll_nil, iresAll_cons, iresOne_tmp, ↓reduceIte, ↓evs_cons, ↓evs_nil, e_any, e_cloneA, e_win, nth_psts, pur_psts, nth_gaps, pur_gaps, nth_pays, pur_pays, Try.f17, ty35, h2]
  have h2 : ¬ (200 : Int) < (l.length : Int) := by omega
  by_cases hfit : ∀ x ∈ b, fitB x
  case neg =>
    have e : R = false := by rw [← hr]; simp [settM, hfit]
    subst e
    have h3 : anyF 44 b = _ := any_not (l := b) (p := fitB)
    rw [decide_eq_false hfit] at h3
    simp +contextual (maxSteps := 4000000) only [↓ur_seq, ↓ur_ret, ↓ur_region, ↓ur_cond, ↓cont_seq, ↓done_nil, ↓done_seq, ↓ops_consN, ↓ops_guardN, nY_move, nY_assign, nY_pick, nY_binOp, nilO_int, nY_callf, nY_callb, ↓ops_nil, opsIf_some, condC_true, guardC_ff, Option.map_some, Option.bind_some, Option.getD_some, Nat.reduceLT, Bool.false_eq_true, ↓upd_same, ↓upd_ne, Nat.reduceBEq, and_true, List.getD_cons_zero, List.getD_cons_succ, List.getElem?_toArray, List.getElem?_cons_zero, List.getElem?_cons_succ, endQ, cfg_P, cfg_tab, cfg_muts, cfg_frz, List.length_map, List.contains_nil, decide_false, Option.some.injEq, exists_eq_left', tabOf_cons, tab_v, pur_ints, Bool.and_self, Nat.reduceEqDiff, List.nil_append, List.append_nil, Nat.reduceAdd, Bool.not_false, or_false, st0, pur_lits, pur_func, DRx_bool, ↓ev_tmp, ↓ev_int, ↓ev_bool, ↓ev_func, ↓guardP_eq, grd_some, ↓iop_move, ↓iop_assign, ↓pick3_bool, ↓iop_pick, ↓iop_binOp, ↓iop_callv, ↓iop_callb, nrmAll_cons, nrmAll_nil, bi_len, lenM_none, nrm_lits, nrm_func, lenP_lits, b_gtr, env0_eq, ires_eq, iresL_1, iresAll_nil, iresAll_cons, iresOne_tmp, valT_eq, pursL_cons, pursL_nil, ↓reduceIte, callP_eq, tsOf_eq, ↓evs_cons, ↓evs_nil, and_false, Bool.true_eq_false, e_any, s_any, e_cloneA, e_win, nth_psts, pur_psts, nth_gaps, pur_gaps, nth_pays, pur_pays, Try.f17, ty34, ty35, ty105, h2, h3]
  have h3 : anyF 44 b = _ := any_not (l := b) (p := fitB)
  rw [decide_eq_true hfit] at h3
  have hbl2 : b.length ≤ 2147483648 := by omega
  simp +contextual (maxSteps := 4000000) only [↓ur_skip, ↓ur_seq, ↓ur_block, ↓ur_region, ↓ur_cond, ↓cont_seq, ↓ops_consN, ↓ops_guardN, nY_move, nY_assign, nY_pick, nY_binOp, nilO_int, nY_callf, nY_callb, ↓ops_nil, opsIf_some, condC_false, guardC_ff, Option.map_some, Option.bind_some, Option.getD_some, Nat.reduceLT, Bool.false_eq_true, ↓upd_same, ↓upd_ne, Nat.reduceBEq, true_and, List.getD_cons_zero, List.getD_cons_succ, List.getElem?_toArray, List.getElem?_cons_zero, List.getElem?_cons_succ, cfg_P, cfg_tab, cfg_muts, cfg_frz, List.length_map, List.contains_nil, decide_false, tabOf_cons, tab_v, tab_a, pur_ints, Bool.and_self, Nat.reduceEqDiff, List.nil_append, List.append_nil, Nat.zero_add, Nat.reduceAdd, Bool.not_true, Bool.not_false, or_false, st0, pur_lits, pur_func, ↓ev_tmp, ↓ev_int, ↓ev_bool, ↓ev_func, ↓guardP_eq, grd_some, ↓iop_move, ↓iop_assign, ↓pick3_bool, ↓iop_pick, ↓iop_binOp, ↓iop_callv, ↓iop_callb, nrmAll_cons, nrmAll_nil, bi_len, lenM_none, nrm_lits, nrm_func, lenP_lits, b_gtr, env0_eq, valT_eq, pursL_cons, pursL_nil, Store.new, ↓reduceIte, callP_eq, tsOf_eq, ↓evs_cons, ↓evs_nil, and_false, Bool.true_eq_false, e_any, s_any, e_cloneA, s_cloneA, e_win, nth_psts, pur_psts, nth_gaps, pur_gaps, nth_pays, pur_pays, Try.f17, ty34, ty35, ty105, h2, h3, hb0, hbl2]
  have hb1 : 1 ≤ b.length := List.length_pos_iff.2 hb0
  have hw1 : IntKind.i64.wrap ((b.length : Int) - 1) = (b.length : Int) - 1 := wrap64 (by omega) (by omega)
  refine loop_cnt [4, 7, 19, 20, 21, 22, 23, 24, 25, 26, 27, 28, 29, 30, 31, 32, 33, 34, 35, 36, 37, 38, 39, 40, 41, 42, 43, 44, 45, 46, 47, 48, 49, 50, 51, 52, 53, 54, 55, 56, 57, 58, 59, 60, 61, 62, 63, 64, 65, 66, 67, 68, 69, 70] l.length (fun k ρ st' => ρ 19 = I k ∧ st'.obj 0 = some (.arr 0 1 ((leftL b l k).map (PV.int .i64))) ∧ (∀ j, j < k → payOK b.length (l.getD j dY)) ∧ 1 ≤ st'.next) (.refl _) ?_ ?_
  · simp +contextual (maxSteps := 4000000) only [↓upd_same, true_and, and_true, updO_same, Nat.le_refl, Int.cast_ofNat_Int, nth_psts, pur_psts, nth_gaps, pur_gaps, nth_pays, pur_pays, Try.f17, leftL_0]
    intro j hj; omega
  rintro k ρ ⟨ob, M⟩ hk ⟨h19, ho, hz, hM⟩
  dsimp only at ho hM
  have hM1 : ¬ 0 = M := by omega
  have hM2 : ¬ M = 0 := by omega
  have hll : (leftL b l k).length = b.length := leftL_len
  by_cases hlt : k < l.length
  · have hwk : IntKind.i64.wrap ((k : Int) + 1) = ((k + 1 : Nat) : Int) := by rw [wrap64 (by omega) (by omega)]; omega
    by_cases hp : payOK b.length (l.getD k dY)
    case neg =>
      have e : R = false := by
        rw [← hr]
        have : ¬ ∀ p ∈ l, payOK b.length p := fun h => hp (at_pays h k hlt)
        simp only [settM, decide_eq_false this, Bool.and_false, Bool.false_and]
      subst e
      unfold payOK at hp
      generalize hx : l.getD k dY = x at *
      by_cases c1 : 0 ≤ x.1 ∧ x.1 ≤ (b.length : Int) - 1
      · by_cases c2 : 0 ≤ x.2.1 ∧ x.2.1 ≤ (b.length : Int) - 1
        · by_cases c3 : x.1 = x.2.1
          · simp +contextual (maxSteps := 4000000) only [↓ur_skip, ↓ur_seq, ↓ur_block, ↓ur_ret, ↓ur_region, ↓ur_cond, ↓cont_seq, ↓done_nil, ↓done_seq, ↓done_blk, ↓done_lp, ↓ops_consN, ↓ops_guardN, nY_move, nY_assign, nY_pick, nY_alloc, nY_load, nY_store, nY_binOp, nilO_tmp, nilO_int, nY_unOp, nY_fieldAddr, nY_indexAddr, nY_callf, nY_callb, ↓ops_nil, opsIf_some, opsIf_none, condC_true, guardC_tf, guardC_ff, Option.map_some, Option.bind_some, Option.getD_some, Nat.reduceLT, Bool.false_eq_true, ↓upd_same, ↓upd_ne, Nat.reduceBEq, true_and, and_true, List.getElem?_toArray, List.getElem?_cons_zero, List.getElem?_cons_succ, endQ, cfg_P, cfg_tab, cfg_muts, cfg_frz, cfg_num, numOf_eq, List.length_map, ↓havoc_in, ↓havoc_out, List.contains_cons, List.contains_nil, Bool.or_false, Bool.or_true, Int.natCast_nonneg, Int.ofNat_lt, Int.toNat_natCast, decide_true, Option.some.injEq, exists_eq_left', tabOf_cons, tab_v, Bool.and_self, Nat.reduceEqDiff, List.nil_append, List.append_nil, updO_same, updO_ne, List.length_cons, List.length_nil, Nat.zero_add, Nat.add_zero, List.drop_zero, List.take_zero, Nat.reduceAdd, List.set_cons_zero, nth_zero, Nat.lt_succ_self, Bool.not_true, Bool.not_false, not_false_eq_true, Nat.le_refl, pur_int, cells_agg, DRx_bool, ↓ev_tmp, ↓ev_int, ↓ev_bool, ↓ev_func, ↓guardP_eq, grd_some, ↓iop_move, ↓iop_assign, ↓pick3_bool, ↓iop_pick, ↓iop_alloc, ↓iop_load, ↓iop_store, ↓iop_binOp, ↓iop_unOp, ↓iop_fieldAddr, ↓iop_indexAddr, idxA_int, ↓iop_callv, ↓iop_callb, nrmAll_cons, nrmAll_nil, bi_len, lenM_none, nrm_int, pickP_f, pickP_t, loadP_vptr, loadP_ptr, setCells_agg, storeP_ptr, fieldP_ptr, indexP_lits, lenP_ref, b_sub, b_eql, b_lss, u_not, splice_eq, ires_eq, iresL_1, iresAll_nil, iresAll_cons, iresOne_tmp, valT_eq, pursL_cons, pursL_nil, Store.new, Store.set, ↓reduceIte, arr_eq, arrB_some, callP_eq, tsOf_eq, beq_eq_false_iff_ne, ne_eq, List.take_succ_cons, List.drop_succ_cons, List.drop_nil, List.take_nil, ↓evs_cons, ↓evs_nil, beq_self_eq_true, see_eq, and_false, Bool.true_eq_false, s_win, nth_psts, pur_psts, nth_gaps, pur_gaps, nth_pays, pur_pays, Try.f17, ty3, ty34, ty35, ty68, h19, ho, hM1, hM2, hll, hlt, hx, hw1, c1, c2, c3]
          · have c4 : ¬ (1 ≤ x.2.2 ∧ x.2.2 ≤ 18014398509481984) := by omega
            simp +contextual (maxSteps := 4000000) only [↓ur_skip, ↓ur_seq, ↓ur_block, ↓ur_ret, ↓ur_region, ↓ur_cond, ↓cont_seq, ↓done_nil, ↓done_seq, ↓done_blk, ↓done_lp, ↓ops_consN, ↓ops_guardN, nY_move, nY_assign, nY_pick, nY_alloc, nY_load, nY_store, nY_binOp, nilO_tmp, nilO_int, nY_unOp, nY_fieldAddr, nY_indexAddr, nY_callf, nY_callb, ↓ops_nil, opsIf_some, opsIf_none, condC_true, guardC_ff, Option.map_some, Option.bind_some, Option.getD_some, Nat.reduceLT, Bool.false_eq_true, ↓upd_same, ↓upd_ne, Nat.reduceBEq, and_true, List.getElem?_toArray, List.getElem?_cons_zero, List.getElem?_cons_succ, endQ, cfg_P, cfg_tab, cfg_muts, cfg_frz, cfg_num, numOf_eq, List.length_map, ↓havoc_in, ↓havoc_out, List.contains_cons, List.contains_nil, Bool.or_false, Bool.or_true, Int.natCast_nonneg, Int.ofNat_lt, Int.toNat_natCast, decide_true, decide_false, Option.some.injEq, exists_eq_left', tabOf_cons, tab_v, Bool.and_self, Nat.reduceEqDiff, List.nil_append, List.append_nil, updO_same, updO_ne, List.length_cons, List.length_nil, Nat.zero_add, Nat.add_zero, List.drop_zero, List.take_zero, Nat.reduceAdd, List.set_cons_zero, nth_zero, Nat.lt_succ_self, Bool.not_true, Bool.not_false, not_false_eq_true, Nat.le_refl, pur_int, cells_agg, DRx_bool, ↓ev_tmp, ↓ev_int, ↓ev_bool, ↓ev_func, ↓guardP_eq, grd_some, ↓iop_move, ↓iop_assign, ↓pick3_bool, ↓iop_pick, ↓iop_alloc, ↓iop_load, ↓iop_store, ↓iop_binOp, ↓iop_unOp, ↓iop_fieldAddr, ↓iop_indexAddr, idxA_int, ↓iop_callv, ↓iop_callb, nrmAll_cons, nrmAll_nil, bi_len, lenM_none, nrm_int, pickP_f, pickP_t, loadP_vptr, loadP_ptr, setCells_agg, storeP_ptr, fieldP_ptr, indexP_lits, lenP_ref, b_sub, b_eql, b_lss, u_not, splice_eq, ires_eq, iresL_1, iresAll_nil, iresAll_cons, iresOne_tmp, valT_eq, pursL_cons, pursL_nil, Store.new, Store.set, ↓reduceIte, arr_eq, arrB_some, callP_eq, tsOf_eq, beq_eq_false_iff_ne, ne_eq, List.take_succ_cons, List.drop_succ_cons, List.drop_nil, List.take_nil, ↓evs_cons, ↓evs_nil, beq_self_eq_true, see_eq, and_false, Bool.true_eq_false, s_win, nth_psts, pur_psts, nth_gaps, pur_gaps, nth_pays, pur_pays, Try.f17, ty3, ty34, ty35, ty68, h19, ho, hM1, hM2, hll, hlt, hx, hw1, c1, c2, c3, c4]
        · simp +contextual (maxSteps := 4000000) only [↓ur_skip, ↓ur_seq, ↓ur_block, ↓ur_ret, ↓ur_region, ↓ur_cond, ↓cont_seq, ↓done_nil, ↓done_seq, ↓done_blk, ↓done_lp, ↓ops_consN, ↓ops_guardN, nY_move, nY_assign, nY_pick, nY_alloc, nY_load, nY_store, nY_binOp, nilO_tmp, nilO_int, nY_unOp, nY_fieldAddr, nY_indexAddr, nY_callf, nY_callb, ↓ops_nil, opsIf_some, opsIf_none, condC_true, guardC_tf, guardC_ff, Option.map_some, Option.bind_some, Option.getD_some, Nat.reduceLT, Bool.false_eq_true, ↓upd_same, ↓upd_ne, Nat.reduceBEq, true_and, and_true, List.getElem?_toArray, List.getElem?_cons_zero, List.getElem?_cons_succ, endQ, cfg_P, cfg_tab, cfg_muts, cfg_frz, cfg_num, numOf_eq, List.length_map, ↓havoc_in, ↓havoc_out, List.contains_cons, List.contains_nil, Bool.or_false, Bool.or_true, Int.natCast_nonneg, Int.ofNat_lt, Int.toNat_natCast, decide_true, decide_false, Option.some.injEq, exists_eq_left', tabOf_cons, tab_v, Bool.and_self, Nat.reduceEqDiff, List.nil_append, List.append_nil, updO_same, updO_ne, List.length_cons, List.length_nil, Nat.zero_add, Nat.add_zero, List.drop_zero, List.take_zero, Nat.reduceAdd, List.set_cons_zero, nth_zero, Nat.lt_succ_self, Bool.not_true, Bool.not_false, not_false_eq_true, Nat.le_refl, pur_int, cells_agg, DRx_bool, ↓ev_tmp, ↓ev_int, ↓ev_bool, ↓ev_func, ↓guardP_eq, grd_some, ↓iop_move, ↓iop_assign, ↓pick3_bool, ↓iop_pick, ↓iop_alloc, ↓iop_load, ↓iop_store, ↓iop_binOp, ↓iop_unOp, ↓iop_fieldAddr, ↓iop_indexAddr, idxA_int, ↓iop_callv, ↓iop_callb, nrmAll_cons, nrmAll_nil, bi_len, lenM_none, nrm_int, pickP_f, pickP_t, loadP_vptr, loadP_ptr, setCells_agg, storeP_ptr, fieldP_ptr, indexP_lits, lenP_ref, b_sub, b_lss, u_not, splice_eq, ires_eq, iresL_1, iresAll_nil, iresAll_cons, iresOne_tmp, valT_eq, pursL_cons, pursL_nil, Store.new, Store.set, ↓reduceIte, arr_eq, arrB_some, callP_eq, tsOf_eq, beq_eq_false_iff_ne, ne_eq, List.take_succ_cons, List.drop_succ_cons, List.drop_nil, List.take_nil, ↓evs_cons, ↓evs_nil, beq_self_eq_true, see_eq, and_false, Bool.true_eq_false, s_win, nth_psts, pur_psts, nth_gaps, pur_gaps, nth_pays, pur_pays, Try.f17, ty3, ty34, ty35, ty68, h19, ho, hM1, hM2, hll, hlt, hx, hw1, c1, c2]
      · simp +contextual (maxSteps := 4000000) only [↓ur_skip, ↓ur_seq, ↓ur_block, ↓ur_ret, ↓ur_region, ↓ur_cond, ↓cont_seq, ↓done_nil, ↓done_seq, ↓done_blk, ↓done_lp, ↓ops_consN, ↓ops_guardN, nY_move, nY_assign, nY_pick, nY_alloc, nY_load, nY_store, nY_binOp, nilO_tmp, nilO_int, nY_unOp, nY_fieldAddr, nY_indexAddr, nY_callf, nY_callb, ↓ops_nil, opsIf_some, opsIf_none, condC_true, guardC_tf, Option.map_some, Option.bind_some, Option.getD_some, Nat.reduceLT, Bool.false_eq_true, ↓upd_same, ↓upd_ne, Nat.reduceBEq, true_and, and_true, List.getElem?_toArray, List.getElem?_cons_zero, List.getElem?_cons_succ, endQ, cfg_P, cfg_tab, cfg_muts, cfg_frz, cfg_num, numOf_eq, List.length_map, ↓havoc_in, ↓havoc_out, List.contains_cons, List.contains_nil, Bool.or_false, Bool.or_true, Int.natCast_nonneg, Int.ofNat_lt, Int.toNat_natCast, decide_true, decide_false, Option.some.injEq, exists_eq_left', tabOf_cons, tab_v, Bool.and_self, Nat.reduceEqDiff, List.nil_append, List.append_nil, updO_same, updO_ne, List.length_cons, List.length_nil, Nat.zero_add, Nat.add_zero, List.drop_zero, List.take_zero, Nat.reduceAdd, List.set_cons_zero, nth_zero, Nat.lt_succ_self, Bool.not_false, not_false_eq_true, Nat.le_refl, pur_int, cells_agg, DRx_bool, ↓ev_tmp, ↓ev_int, ↓ev_bool, ↓ev_func, ↓guardP_eq, grd_some, ↓iop_move, ↓iop_assign, ↓pick3_bool, ↓iop_pick, ↓iop_alloc, ↓iop_load, ↓iop_store, ↓iop_binOp, ↓iop_unOp, ↓iop_fieldAddr, ↓iop_indexAddr, idxA_int, ↓iop_callv, ↓iop_callb, nrmAll_cons, nrmAll_nil, bi_len, lenM_none, nrm_int, pickP_f, pickP_t, loadP_vptr, loadP_ptr, setCells_agg, storeP_ptr, fieldP_ptr, indexP_lits, lenP_ref, b_sub, b_lss, u_not, splice_eq, ires_eq, iresL_1, iresAll_nil, iresAll_cons, iresOne_tmp, valT_eq, pursL_cons, pursL_nil, Store.new, Store.set, ↓reduceIte, arr_eq, arrB_some, callP_eq, tsOf_eq, beq_eq_false_iff_ne, ne_eq, List.take_succ_cons, List.drop_succ_cons, List.drop_nil, List.take_nil, ↓evs_cons, ↓evs_nil, beq_self_eq_true, see_eq, and_false, Bool.true_eq_false, s_win, nth_psts, pur_psts, nth_gaps, pur_gaps, nth_pays, pur_pays, Try.f17, ty3, ty34, ty35, ty68, h19, ho, hM1, hM2, hll, hlt, hx, hw1, c1]
    have hz2 : ∀ j, j < k + 1 → payOK b.length (l.getD j dY) := fun j hj => by
      by_cases e : j = k
      · subst e; exact hp
      · exact hz j (by omega)
    have hp0 := hp
    unfold payOK at hp
    obtain ⟨x, hx⟩ : ∃ x, l.getD k dY = x := ⟨_, rfl⟩
    rw [hx] at hp hp0
    have e1 := Int.toNat_of_nonneg hp.1.1
    have e2 := Int.toNat_of_nonneg hp.2.1.1
    obtain ⟨u, hu⟩ : ∃ u, u = x.1.toNat := ⟨_, rfl⟩
    obtain ⟨v, hv⟩ : ∃ v, v = x.2.1.toNat := ⟨_, rfl⟩
    rw [← hu] at e1
    rw [← hv] at e2
    have hul : u < b.length := by omega
    have hvl : v < b.length := by omega
    have huv : ¬ u = v := by omega
    have huv2 : ¬ v = u := by omega
    have c1 : (u : Int) ≤ (b.length : Int) - 1 := by omega
    have c2 : (v : Int) ≤ (b.length : Int) - 1 := by omega
    have c3 : ¬ (u : Int) = v := by omega
    have hb1 := left_le hfit h200 hk hz hul
    have hb2 := left_le hfit h200 hk hz hvl
    have hs1 : ((leftL b l k).set u ((leftL b l k).getD u 0 + x.2.2)).getD v 0 = (leftL b l k).getD v 0 := by
      simp only [List.getD_eq_getElem?_getD, List.getElem?_set, if_neg huv]
    have w1 : IntKind.i64.wrap ((leftL b l k).getD u 0 + x.2.2) = (leftL b l k).getD u 0 + x.2.2 := wrap64 (by omega) (by omega)
    have w2 : IntKind.i64.wrap ((leftL b l k).getD v 0 - x.2.2) = (leftL b l k).getD v 0 - x.2.2 := wrap64 (by omega) (by omega)
    have hstep := leftL_step (b := b) (l := l) (k := k) (x := u) (y := v) (v := (leftL b l k).getD u 0 + x.2.2) (w := (leftL b l k).getD v 0 - x.2.2) (by rw [hx, e1]) (by rw [hx, e2]) huv hul hvl (by rw [hx]) (by rw [hx])
    simp +contextual (maxSteps := 4000000) only [↓ur_skip, ↓ur_seq, ↓ur_block, ↓ur_region, ↓ur_cond, ↓cont_seq, ↓cont_blk, ↓cont_lp, ↓ops_consN, ↓ops_guardN, nY_move, nY_pick, nY_alloc, nY_load, nY_store, nY_binOp, nilO_tmp, nilO_int, nY_unOp, nY_fieldAddr, nY_indexAddr, nY_callf, nY_callb, ↓ops_nil, opsIf_some, opsIf_none, condC_true, condC_false, guardC_ff, Option.map_some, Option.bind_some, Option.getD_some, Nat.reduceLT, Bool.false_eq_true, ↓upd_same, ↓upd_ne, Nat.reduceBEq, true_and, and_true, List.getElem?_toArray, List.getElem?_cons_zero, List.getElem?_cons_succ, cfg_P, cfg_tab, cfg_muts, cfg_frz, cfg_num, numOf_eq, List.length_map, ↓havoc_in, ↓havoc_out, agree_upd, agree_havoc, List.contains_cons, List.contains_nil, Bool.or_false, Bool.or_true, Int.natCast_nonneg, Int.ofNat_lt, Int.toNat_natCast, nth_int, decide_true, decide_false, tabOf_cons, tab_v, Bool.and_self, Nat.reduceEqDiff, List.nil_append, List.append_nil, updO_same, updO_ne, List.length_cons, List.length_nil, Nat.zero_add, Nat.add_zero, List.drop_zero, List.take_zero, Nat.reduceAdd, List.set_cons_zero, Nat.reduceLeDiff, nth_zero, Nat.lt_succ_self, Bool.not_true, Bool.not_false, not_false_eq_true, Nat.le_refl, cells_int, pur_int, cells_agg, ↓ev_tmp, ↓ev_int, ↓ev_func, ↓guardP_eq, grd_some, ↓iop_move, ↓pick3_bool, ↓iop_pick, ↓iop_alloc, ↓iop_load, ↓iop_store, ↓iop_binOp, ↓iop_unOp, ↓iop_fieldAddr, ↓iop_indexAddr, idxA_int, ↓iop_callv, ↓iop_callb, nrmAll_cons, nrmAll_nil, bi_len, lenM_none, nrm_int, pickP_f, pickP_t, loadP_vptr, loadP_ptr, setCells_agg, setCells_int, storeP_ptr, fieldP_ptr, indexP_lits, indexP_ref, lenP_ref, b_add, b_sub, b_eql, b_lss, u_not, splice_eq, valT_eq, pursL_cons, pursL_nil, Store.new, Store.set, ↓reduceIte, arr_eq, arrB_some, callP_eq, tsOf_eq, beq_eq_false_iff_ne, ne_eq, set_int, List.take_succ_cons, List.drop_succ_cons, List.drop_nil, List.take_nil, ↓evs_cons, ↓evs_nil, beq_self_eq_true, see_eq, and_false, Bool.true_eq_false, s_win, nth_psts, pur_psts, nth_gaps, pur_gaps, nth_pays, pur_pays, Try.f17, ty3, ty34, ty35, ty68, h19, ho, hM1, hM2, hll, hlt, hx, hw1, hwk, ← e1, ← e2, hul, hvl, c1, c2, c3, hp.2.2.2, w1, w2, hs1, hstep, List.length_set]
    exact hz2
  · have e : k = l.length := by omega
    subst e
    have e2 : R = decide (∀ x ∈ leftL b l l.length, x = 0) := by
      rw [← hr]
      have : ∀ p ∈ l, payOK b.length p := pays_at hz
      simp only [settM, decide_eq_true h200, decide_eq_true hfit, decide_eq_true this, Bool.true_and]
    have h4 : anyF 47 (leftL b l l.length) = _ := any_not (l := leftL b l l.length) (p := fun n => n = 0)
    have htk : List.take b.length ((leftL b l l.length).map (PV.int .i64)) = (leftL b l l.length).map (PV.int .i64) := List.take_of_length_le (by rw [List.length_map, hll]; exact Nat.le_refl _)
    rw [← e2] at h4
    generalize leftL b l l.length = z at *
    simp +contextual (maxSteps := 4000000) only [↓ur_seq, ↓ur_exit, ↓ur_ret, ↓ur_region, ↓ur_cond, ↓cont_seq, ↓leave_seq, ↓leave_blk, ↓leave_lp, ↓done_nil, ↓ops_consN, nY_move, nY_assign, nY_binOp, nilO_tmp, nY_unOp, nY_callf, ↓ops_nil, opsIf_some, condC_false, Option.map_some, Option.bind_some, Option.getD_some, Nat.reduceLT, Bool.false_eq_true, ↓upd_same, ↓upd_ne, Nat.reduceBEq, and_true, endQ, cfg_P, cfg_tab, cfg_muts, cfg_frz, List.length_map, ↓havoc_in, ↓havoc_out, List.contains_cons, List.contains_nil, Bool.or_false, Bool.or_true, Int.ofNat_lt, decide_false, Option.some.injEq, exists_eq_left', tabOf_cons, tab_v, pur_ints, Bool.and_true, Bool.and_self, Nat.reduceEqDiff, List.nil_append, List.append_nil, Nat.zero_add, List.drop_zero, Nat.reduceAdd, Nat.lt_irrefl, Nat.lt_succ_self, Bool.not_false, or_true, Nat.le_refl, scal_bool, pur_ref, rdP_ref, pur_func, rdP_func, DRx_bool, ↓ev_tmp, ↓ev_func, ↓iop_move, ↓iop_assign, ↓iop_binOp, ↓iop_unOp, ↓iop_callv, nrmAll_cons, nrmAll_nil, nrm_ref, nrm_func, b_lss, u_not, ires_eq, iresL_1, iresAll_nil, iresAll_cons, iresOne_tmp, rdAll_cons, rdAll_nil, valT_eq, pursL_cons, pursL_nil, ↓reduceIte, arr_eq, arrB_some, callP_eq, tsOf_eq, ↓evs_cons, ↓evs_nil, beq_self_eq_true, s_any, nth_psts, pur_psts, nth_gaps, pur_gaps, nth_pays, pur_pays, Try.f17, ty34, ty105, h19, ho, hll, h4, htk, Bool.not_not]
noncomputable def A_settles : (List Int) × (List Pay) → List PV := fun (b, l) => [ints b, pays l]
noncomputable def R_settles : (List Int) × (List Pay) → PV := fun (b, l) => B (settM b l)
def H_settles : (List Int) × (List Pay) → Prop := fun (b, l) => b.length ≤ 100000
noncomputable def e_settles : Nat × Ent := (17, .v (specOf A_settles R_settles H_settles))
theorem j_settles : ∀ i j, A_settles i = A_settles j → i = j := by
  rintro ⟨b₁, l₁⟩ ⟨b₂, l₂⟩ h
  simp only [A_settles, List.cons.injEq, and_true, PV.lits.injEq, PV.int.injEq, PV.bool.injEq, PV.str.injEq, PV.agg.injEq, PV.func.injEq, Fn.func.injEq, PV.vptr.injEq, true_and, List.map_nil, inj_ints, inj_strs, inj_psts, inj_gaps, inj_pays] at h
  simp [Prod.ext_iff, h] <;> omega
theorem s_settles (b : List Int) (l : List Pay) : specOf A_settles R_settles H_settles [ints b, pays l] = @ite (Option (PV)) (b.length ≤ 100000) (Classical.propDecidable _) (some (B (settM b l))) none := specOf_if j_settles (b, l)
def C_settles : Prop := ∀ (b : List Int) (l : List Pay) (h : b.length ≤ 100000) , VC Try.prog 17 [ints b, pays l] (B (settM b l))
def O_settles : Prop := EntOK Try.prog e_settles.1 e_settles.2
theorem k_settles (c : C_settles) : O_settles := specOf_ok fun ⟨b, l⟩ h => c b l h
theorem c_settles : C_settles := by
  intro b l hbl
  by_cases hb0 : b = []
  · subst hb0
    exact c_settles0 l
  · exact c_settles1 b l ⟨hbl, hb0⟩
theorem o_settles : O_settles := k_settles c_settles
end Sim
