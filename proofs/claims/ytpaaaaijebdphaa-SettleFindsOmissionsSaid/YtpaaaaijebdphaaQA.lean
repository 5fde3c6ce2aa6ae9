/- What functions of this seat compute, by values: contracts (lemmas of the statement's proof, under the conditions that each names). -/
import Derived.Test.YtpaaaaijebdphaaQV
namespace Sim
open Go Go.Proofs
set_option maxRecDepth 10000
set_option maxHeartbeats 2000000
set_option linter.unusedVariables false
set_option linter.unusedSimpArgs false
attribute [local congr] opsIf_congr condC_congr guardC_congr grd_congr pick3_congr obind_congr omap_congr nilC_congr
theorem mixed : Try.prog.follows .mixedOrders = true := by kernel_rfl
noncomputable def A_win : (Int) × (Int) × (Int) → List PV := fun (n, lo, hi) => [I n, I lo, I hi]
noncomputable def R_win : (Int) × (Int) × (Int) → PV := fun (n, lo, hi) => B (decide (lo ≤ n ∧ n ≤ hi))
def H_win : (Int) × (Int) × (Int) → Prop := fun (n, lo, hi) => True
noncomputable def e_win : Nat × Ent := (30, .v (specOf A_win R_win H_win))
theorem j_win : ∀ i j, A_win i = A_win j → i = j := by
  rintro ⟨n₁, lo₁, hi₁⟩ ⟨n₂, lo₂, hi₂⟩ h
  simp only [A_win, List.cons.injEq, and_true, PV.lits.injEq, PV.int.injEq, PV.bool.injEq, PV.str.injEq, PV.agg.injEq, PV.func.injEq, Fn.func.injEq, PV.vptr.injEq, true_and, List.map_nil, inj_ints, inj_strs, inj_psts, inj_gaps, inj_pays] at h
  simp [Prod.ext_iff, h] <;> omega
theorem s_win (n : Int) (lo : Int) (hi : Int) : specOf A_win R_win H_win [I n, I lo, I hi] = some (B (decide (lo ≤ n ∧ n ≤ hi))) := specOf_app j_win (i := (n, lo, hi)) trivial
def C_win : Prop := ∀ (n : Int) (lo : Int) (hi : Int) , VC Try.prog 30 [I n, I lo, I hi] (B (decide (lo ≤ n ∧ n ≤ hi)))
def O_win : Prop := EntOK Try.prog e_win.1 e_win.2
theorem k_win (c : C_win) : O_win := specOf_ok fun ⟨n, lo, hi⟩ h => c n lo hi
theorem c_win : C_win := by
  intro n lo hi
  refine vc_ofU mixed (l := []) (eok_nil) [] []  Try.func30 rfl (by decide +kernel) (N := 15) rfl (by simp) rfl (by kernel_rfl) fun hs => ?_
  simp only [smallL, PV.small, List.length_map, and_true, true_and] at hs
  simp +contextual (maxSteps := 4000000) only [↓ur_seq, ↓ur_ret, ↓ur_region, ↓cont_seq, ↓done_nil, ↓ops_consN, ↓ops_guardN, nY_move, nY_assign, nY_pick, nY_binOp, nilO_tmp, ↓ops_nil, opsIf_some, guardC_tt, guardC_ft, Option.map_some, Option.bind_some, Nat.reduceLT, Bool.false_eq_true, ↓upd_same, ↓upd_ne, Nat.reduceBEq, true_and, and_true, List.getD_cons_zero, List.getD_cons_succ, List.getElem?_toArray, List.getElem?_cons_zero, List.getElem?_cons_succ, endQ, cfg_P, decide_true, decide_false, Option.some.injEq, exists_eq_left', Nat.lt_succ_self, Bool.not_false, st0, DRx_bool, ↓ev_tmp, ↓ev_bool, ↓guardP_eq, grd_some, ↓iop_move, ↓iop_assign, ↓pick3_bool, ↓iop_pick, ↓iop_binOp, b_leq, b_geq, env0_eq, ires_eq, iresL_1, iresAll_nil, iresAll_cons, iresOne_tmp, ↓reduceIte, guardC_td, implies_true, false_and, nth_psts, pur_psts, nth_gaps, pur_gaps, nth_pays, pur_pays, Try.f30]
  all_goals grind
theorem o_win : O_win := k_win c_win
def fitB (n : Int) : Prop := -1125899906842624 ≤ n ∧ n ≤ 1125899906842624
instance (n : Int) : Decidable (fitB n) := by unfold fitB; infer_instance
noncomputable def A_fits : Int → List PV := fun n => [I n]
noncomputable def R_fits : Int → PV := fun n => B (decide (fitB n))
def H_fits : Int → Prop := fun n => True
noncomputable def e_fits : Nat × Ent := (45, .v (specOf A_fits R_fits H_fits))
theorem j_fits : ∀ i j, A_fits i = A_fits j → i = j := by
  rintro n₁ n₂ h
  simp only [A_fits, List.cons.injEq, and_true, PV.lits.injEq, PV.int.injEq, PV.bool.injEq, PV.str.injEq, PV.agg.injEq, PV.func.injEq, Fn.func.injEq, PV.vptr.injEq, true_and, List.map_nil, inj_ints, inj_strs, inj_psts, inj_gaps, inj_pays] at h
  first | exact h | omega | (simp [Prod.ext_iff, h]; done)
theorem s_fits (n : Int) : specOf A_fits R_fits H_fits [I n] = some (B (decide (fitB n))) := specOf_app j_fits (i := n) trivial
def C_fits : Prop := ∀ (n : Int) , VC Try.prog 45 [I n] (B (decide (fitB n)))
def O_fits : Prop := EntOK Try.prog e_fits.1 e_fits.2
theorem k_fits (c : C_fits) : O_fits := specOf_ok fun n h => c n
theorem c_fits : C_fits := by
  intro n
  refine vc_ofU mixed (l := [e_win]) ((eok_cons o_win eok_nil)) [] []  Try.func45 rfl (by decide +kernel) (N := 5) rfl (by simp) rfl (by kernel_rfl) fun hs => ?_
  simp only [smallL, PV.small, List.length_map, and_true, true_and] at hs
  simp +contextual (maxSteps := 4000000) only [↓ur_seq, ↓ur_ret, ↓ur_region, ↓cont_seq, ↓done_nil, ↓ops_consN, nY_move, nY_assign, nY_callf, ↓ops_nil, opsIf_some, Option.map_some, Option.bind_some, Option.getD_some, Nat.reduceLT, Bool.false_eq_true, ↓upd_same, ↓upd_ne, Nat.reduceBEq, true_and, List.getD_cons_zero, endQ, cfg_P, cfg_tab, cfg_muts, cfg_frz, List.contains_nil, Option.some.injEq, exists_eq_left', tabOf_cons, tab_v, Bool.and_self, List.nil_append, List.append_nil, Nat.reduceAdd, Nat.lt_succ_self, st0, pur_int, DRx_bool, ↓ev_tmp, ↓ev_int, ↓ev_bool, ↓ev_func, ↓iop_move, ↓iop_assign, ↓iop_callv, nrmAll_cons, nrmAll_nil, nrm_int, env0_eq, ires_eq, iresL_1, iresAll_nil, iresAll_cons, iresOne_tmp, valT_eq, pursL_cons, pursL_nil, ↓reduceIte, callP_eq, tsOf_eq, ↓evs_cons, ↓evs_nil, and_false, Bool.true_eq_false, e_win, s_win, nth_psts, pur_psts, nth_gaps, pur_gaps, nth_pays, pur_pays, Try.f45, ty3]
  rfl
theorem o_fits : O_fits := k_fits c_fits
noncomputable def A_unfit : Int → List PV := fun n => [I n]
noncomputable def R_unfit : Int → PV := fun n => B (decide (¬ fitB n))
def H_unfit : Int → Prop := fun n => True
noncomputable def e_unfit : Nat × Ent := (44, .v (specOf A_unfit R_unfit H_unfit))
theorem j_unfit : ∀ i j, A_unfit i = A_unfit j → i = j := by
  rintro n₁ n₂ h
  simp only [A_unfit, List.cons.injEq, and_true, PV.lits.injEq, PV.int.injEq, PV.bool.injEq, PV.str.injEq, PV.agg.injEq, PV.func.injEq, Fn.func.injEq, PV.vptr.injEq, true_and, List.map_nil, inj_ints, inj_strs, inj_psts, inj_gaps, inj_pays] at h
  first | exact h | omega | (simp [Prod.ext_iff, h]; done)
theorem s_unfit (n : Int) : specOf A_unfit R_unfit H_unfit [I n] = some (B (decide (¬ fitB n))) := specOf_app j_unfit (i := n) trivial
def C_unfit : Prop := ∀ (n : Int) , VC Try.prog 44 [I n] (B (decide (¬ fitB n)))
def O_unfit : Prop := EntOK Try.prog e_unfit.1 e_unfit.2
theorem k_unfit (c : C_unfit) : O_unfit := specOf_ok fun n h => c n
theorem c_unfit : C_unfit := by
  intro n
  refine vc_ofU mixed (l := [e_fits]) ((eok_cons o_fits eok_nil)) [] []  Try.func44 rfl (by decide +kernel) (N := 6) rfl (by simp) rfl (by kernel_rfl) fun hs => ?_
  simp only [smallL, PV.small, List.length_map, and_true, true_and] at hs
  simp +contextual (maxSteps := 4000000) only [↓ur_seq, ↓ur_ret, ↓ur_region, ↓cont_seq, ↓done_nil, ↓ops_consN, nY_move, nY_assign, nY_unOp, nY_callf, ↓ops_nil, opsIf_some, Option.map_some, Option.bind_some, Option.getD_some, Nat.reduceLT, Bool.false_eq_true, ↓upd_same, ↓upd_ne, Nat.reduceBEq, and_true, List.getD_cons_zero, endQ, not_dec, cfg_P, cfg_tab, cfg_muts, cfg_frz, List.contains_nil, Option.some.injEq, exists_eq_left', tabOf_cons, tab_v, Bool.and_self, List.nil_append, List.append_nil, Nat.reduceAdd, Nat.lt_succ_self, st0, pur_int, DRx_bool, ↓ev_tmp, ↓ev_bool, ↓ev_func, ↓iop_move, ↓iop_assign, ↓iop_unOp, ↓iop_callv, nrmAll_cons, nrmAll_nil, nrm_int, u_not, env0_eq, ires_eq, iresL_1, iresAll_nil, iresAll_cons, iresOne_tmp, valT_eq, pursL_cons, pursL_nil, ↓reduceIte, callP_eq, tsOf_eq, ↓evs_cons, ↓evs_nil, and_false, Bool.true_eq_false, e_fits, s_fits, nth_psts, pur_psts, nth_gaps, pur_gaps, nth_pays, pur_pays, Try.f44, ty3]
theorem o_unfit : O_unfit := k_unfit c_unfit
noncomputable def A_nonz : Int → List PV := fun n => [I n]
noncomputable def R_nonz : Int → PV := fun n => B (decide (¬ n = 0))
def H_nonz : Int → Prop := fun n => True
noncomputable def e_nonz : Nat × Ent := (47, .v (specOf A_nonz R_nonz H_nonz))
theorem j_nonz : ∀ i j, A_nonz i = A_nonz j → i = j := by
  rintro n₁ n₂ h
  simp only [A_nonz, List.cons.injEq, and_true, PV.lits.injEq, PV.int.injEq, PV.bool.injEq, PV.str.injEq, PV.agg.injEq, PV.func.injEq, Fn.func.injEq, PV.vptr.injEq, true_and, List.map_nil, inj_ints, inj_strs, inj_psts, inj_gaps, inj_pays] at h
  first | exact h | omega | (simp [Prod.ext_iff, h]; done)
theorem s_nonz (n : Int) : specOf A_nonz R_nonz H_nonz [I n] = some (B (decide (¬ n = 0))) := specOf_app j_nonz (i := n) trivial
def C_nonz : Prop := ∀ (n : Int) , VC Try.prog 47 [I n] (B (decide (¬ n = 0)))
def O_nonz : Prop := EntOK Try.prog e_nonz.1 e_nonz.2
theorem k_nonz (c : C_nonz) : O_nonz := specOf_ok fun n h => c n
theorem c_nonz : C_nonz := by
  intro n
  refine vc_ofU mixed (l := []) (eok_nil) [] []  Try.func47 rfl (by decide +kernel) (N := 5) rfl (by simp) rfl (by kernel_rfl) fun hs => ?_
  simp only [smallL, PV.small, List.length_map, and_true, true_and] at hs
  simp +contextual (maxSteps := 4000000) only [↓ur_seq, ↓ur_ret, ↓ur_region, ↓cont_seq, ↓done_nil, ↓ops_consN, nY_move, nY_assign, nY_binOp, nilO_int, ↓ops_nil, opsIf_some, Option.map_some, Option.bind_some, Nat.reduceLT, ↓upd_same, ↓upd_ne, Nat.reduceBEq, and_true, List.getD_cons_zero, endQ, cfg_P, Option.some.injEq, exists_eq_left', Nat.lt_succ_self, Bool.not_false, st0, DRx_bool, ↓ev_tmp, ↓ev_int, ↓ev_bool, ↓iop_move, ↓iop_assign, ↓iop_binOp, b_neq, env0_eq, ires_eq, iresL_1, iresAll_nil, iresAll_cons, iresOne_tmp, nth_psts, pur_psts, nth_gaps, pur_gaps, nth_pays, pur_pays, Try.f47]
theorem o_nonz : O_nonz := k_nonz c_nonz
/-- Where the first number lies that answers. -/
def firstP (p : Int → Bool) : List Int → Int
  | [] => -1
  | a :: l => if p a = true then 0 else if firstP p l < 0 then -1 else firstP p l + 1
theorem firstP_none {p : Int → Bool} {l : List Int} (h : ∀ x ∈ l, p x = false) : firstP p l = -1 := by
  induction l with
  | nil => rfl
  | cons a l ih =>
    simp only [firstP]
    rw [if_neg (by rw [h a (by simp)]; simp), ih fun x hx => h x (by simp [hx])]
    rfl
theorem firstP_at {p : Int → Bool} {l : List Int} {k : Nat} (hk : k < l.length) (h : ∀ x ∈ l.take k, p x = false) (hn : p (l.getD k 0) = true) : firstP p l = k := by
  induction l generalizing k with
  | nil => simp at hk
  | cons x l ih =>
    cases k with
    | zero => simp only [firstP]; rw [if_pos (by simpa using hn)]; rfl
    | succ k =>
      have h1 := ih (k := k) (by simpa using hk) (fun y hy => h y (by simp [hy])) (by simpa using hn)
      simp only [firstP]
      rw [if_neg (by rw [h x (by simp)]; simp), h1, if_neg (by omega)]; omega
theorem firstP_any {p : Int → Bool} : ∀ {l : List Int}, decide (0 ≤ firstP p l) = l.any p
  | [] => rfl
  | a :: l => by
    have ih := firstP_any (p := p) (l := l)
    rw [List.any_cons, ← ih]
    have e : firstP p (a :: l) = if p a = true then 0 else if firstP p l < 0 then -1 else firstP p l + 1 := rfl
    generalize firstP p (a :: l) = x at *
    generalize firstP p l = y at *
    cases ha : p a
    · rw [ha] at e
      simp only [Bool.false_eq_true, if_false] at e
      rw [Bool.false_or]
      by_cases h : y < 0
      · rw [if_pos h] at e; rw [decide_eq_false (by omega), decide_eq_false (by omega)]
      · rw [if_neg h] at e; rw [decide_eq_true (by omega), decide_eq_true (by omega)]
    · rw [ha] at e
      simp only [if_true] at e
      rw [Bool.true_or, decide_eq_true (by omega)]
noncomputable def A_indexU : List Int → List PV := fun l => [ints l, .func (.func 44) [] []]
noncomputable def R_indexU : List Int → PV := fun l => I (firstP (fun n => decide (¬ fitB n)) l)
def H_indexU : List Int → Prop := fun l => True
noncomputable def e_indexU : Nat × Ent := (73, .v (specOf A_indexU R_indexU H_indexU))
theorem j_indexU : ∀ i j, A_indexU i = A_indexU j → i = j := by
  rintro l₁ l₂ h
  simp only [A_indexU, List.cons.injEq, and_true, PV.lits.injEq, PV.int.injEq, PV.bool.injEq, PV.str.injEq, PV.agg.injEq, PV.func.injEq, Fn.func.injEq, PV.vptr.injEq, true_and, List.map_nil, inj_ints, inj_strs, inj_psts, inj_gaps, inj_pays] at h
  first | exact h | omega | (simp [Prod.ext_iff, h]; done)
theorem s_indexU (l : List Int) : specOf A_indexU R_indexU H_indexU [ints l, .func (.func 44) [] []] = some (I (firstP (fun n => decide (¬ fitB n)) l)) := specOf_app j_indexU (i := l) trivial
def C_indexU : Prop := ∀ (l : List Int) , VC Try.prog 73 [ints l, .func (.func 44) [] []] (I (firstP (fun n => decide (¬ fitB n)) l))
def O_indexU : Prop := EntOK Try.prog e_indexU.1 e_indexU.2
theorem k_indexU (c : C_indexU) : O_indexU := specOf_ok fun l h => c l
theorem c_indexU : C_indexU := by
  intro l
  refine vc_ofU mixed (l := [e_unfit]) ((eok_cons o_unfit eok_nil)) [] []  Try.func73 rfl (by decide +kernel) (N := 19) rfl (by simp) rfl (by kernel_rfl) fun hs => ?_
  simp only [smallL, PV.small, List.length_map, and_true, true_and] at hs
  simp +contextual (maxSteps := 4000000) only [↓ur_seq, ↓ur_block, ↓ur_region, ↓cont_seq, ↓ops_consN, nY_move, nY_assign, nY_callb, ↓ops_nil, opsIf_some, Option.map_some, Option.getD_some, Nat.reduceLT, ↓upd_same, ↓upd_ne, Nat.reduceBEq, true_and, List.getD_cons_zero, cfg_P, List.length_map, Nat.lt_succ_self, st0, ↓ev_tmp, ↓ev_int, ↓iop_move, ↓iop_assign, ↓iop_callb, bi_len, lenM_none, lenP_lits, env0_eq, ↓reduceIte, ↓evs_cons, ↓evs_nil, e_unfit, nth_psts, pur_psts, nth_gaps, pur_gaps, nth_pays, pur_pays, Try.f73, ty34]
  refine loop_cnt [4, 5, 8, 9, 10, 11, 12, 13, 14, 15, 16, 17, 18] l.length (fun k ρ st => ρ 8 = I k ∧ (∀ x ∈ l.take k, decide (¬ fitB x) = false) ∧ st = st0) (.refl _) ?_ ?_
  · simp +contextual (maxSteps := 4000000) only [↓upd_same, true_and, and_true, decide_eq_false_iff_not, List.take_zero, st0, Classical.not_not, Int.cast_ofNat_Int, nth_psts, pur_psts, nth_gaps, pur_gaps, nth_pays, pur_pays, Try.f73]
    all_goals simp
  · rintro k ρ st hk ⟨h8, h3, rfl⟩
    by_cases hlt : k < l.length
    · cases hc : decide (¬ fitB (l.getD k 0))
      · have hn : fitB (l.getD k 0) := by simpa using hc
        have hts : ∀ x ∈ l.take (k + 1), decide (¬ fitB x) = false := by
          intro x hx
          rw [List.take_succ_eq_append_getElem hlt] at hx
          rcases List.mem_append.1 hx with h | h
          · exact h3 x h
          · simp only [List.mem_singleton] at h
            subst h
            simpa [List.getD_eq_getElem?_getD, hlt] using hc
        simp +contextual (maxSteps := 4000000) only [↓ur_skip, ↓ur_seq, ↓ur_block, ↓ur_region, ↓ur_cond, ↓cont_seq, ↓cont_blk, ↓cont_lp, ↓ops_consN, nY_move, nY_assign, nY_load, nY_binOp, nilO_tmp, nilO_int, nY_indexAddr, nY_callt, isNone_none, cfg_yl, ↓ops_nil, opsIf_some, condC_true, condC_false, Option.map_some, Option.bind_some, Option.getD_some, Nat.reduceLT, Bool.false_eq_true, ↓upd_same, ↓upd_ne, Nat.reduceBEq, true_and, and_true, List.getD_cons_zero, List.getD_cons_succ, List.getElem?_cons_zero, decide_eq_false_iff_not, cfg_P, cfg_tab, cfg_muts, cfg_frz, List.length_map, ↓havoc_in, ↓havoc_out, agree_upd, agree_havoc, List.contains_cons, List.contains_nil, Bool.or_false, Bool.or_true, Int.natCast_nonneg, Int.ofNat_lt, Int.toNat_natCast, nth_int, decide_true, decide_false, PV.int.injEq, tabOf_cons, tab_v, Bool.and_self, List.nil_append, List.append_nil, Nat.reduceAdd, Nat.lt_succ_self, Bool.not_false, not_true_eq_false, st0, Classical.not_not, cells_int, pur_int, ↓ev_tmp, ↓ev_int, ↓iop_move, ↓iop_assign, ↓iop_load, ↓iop_binOp, ↓iop_indexAddr, idxA_int, ↓iop_callv, nrmAll_cons, nrmAll_nil, nrm_int, pickP_f, loadP_vptr, indexP_lits, b_add, b_lss, env0_eq, valT_eq, pursL_cons, pursL_nil, ↓reduceIte, callP_eq, tsOf_eq, ↓evs_cons, ↓evs_nil, beq_self_eq_true, see_eq, and_false, Bool.true_eq_false, s_unfit, nth_psts, pur_psts, nth_gaps, pur_gaps, nth_pays, pur_pays, Try.f73, ty3, ty34, h8, hlt, hn]
        exact ⟨by simp only [IntKind.wrap_i64]; omega, by simpa using hts⟩
      · have hn : ¬ fitB (l.getD k 0) := by simpa using hc
        have e := firstP_at hlt h3 hc
        simp +contextual (maxSteps := 4000000) only [↓ur_skip, ↓ur_seq, ↓ur_block, ↓ur_ret, ↓ur_region, ↓ur_cond, ↓cont_seq, ↓done_nil, ↓done_seq, ↓done_blk, ↓done_lp, ↓ops_consN, nY_move, nY_assign, nY_load, nY_binOp, nilO_tmp, nY_indexAddr, nY_callt, isNone_none, cfg_yl, ↓ops_nil, opsIf_some, condC_true, Option.map_some, Option.bind_some, Option.getD_some, Nat.reduceLT, Bool.false_eq_true, ↓upd_same, ↓upd_ne, Nat.reduceBEq, true_and, and_true, List.getD_cons_zero, List.getD_cons_succ, List.getElem?_cons_zero, endQ, decide_eq_false_iff_not, cfg_P, cfg_tab, cfg_muts, cfg_frz, List.length_map, ↓havoc_in, ↓havoc_out, List.contains_cons, List.contains_nil, Bool.or_false, Bool.or_true, Int.natCast_nonneg, Int.ofNat_lt, Int.toNat_natCast, nth_int, decide_true, Option.some.injEq, exists_eq_left', tabOf_cons, tab_v, Bool.and_self, List.nil_append, List.append_nil, Nat.reduceAdd, Nat.lt_succ_self, Bool.not_false, not_false_eq_true, st0, Classical.not_not, cells_int, pur_int, DRx_int, ↓ev_tmp, ↓iop_move, ↓iop_assign, ↓iop_load, ↓iop_binOp, ↓iop_indexAddr, idxA_int, ↓iop_callv, nrmAll_cons, nrmAll_nil, nrm_int, pickP_f, loadP_vptr, indexP_lits, b_lss, env0_eq, ires_eq, iresL_1, iresAll_nil, iresAll_cons, iresOne_tmp, valT_eq, pursL_cons, pursL_nil, ↓reduceIte, callP_eq, tsOf_eq, ↓evs_cons, ↓evs_nil, beq_self_eq_true, see_eq, and_false, Bool.true_eq_false, s_unfit, nth_psts, pur_psts, nth_gaps, pur_gaps, nth_pays, pur_pays, Try.f73, ty3, ty34, h8, hlt, hn, e]
    · have e : k = l.length := by omega
      subst e
      rw [List.take_of_length_le (Nat.le_refl _)] at h3
      have e := firstP_none h3
      simp +contextual (maxSteps := 4000000) only [↓ur_seq, ↓ur_exit, ↓ur_ret, ↓ur_region, ↓ur_cond, ↓cont_seq, ↓leave_seq, ↓leave_blk, ↓leave_lp, ↓done_nil, ↓ops_consN, nY_assign, nY_binOp, nilO_tmp, ↓ops_nil, opsIf_some, condC_false, Option.map_some, Option.bind_some, Nat.reduceLT, ↓upd_same, ↓upd_ne, Nat.reduceBEq, and_true, endQ, decide_eq_false_iff_not, cfg_P, ↓havoc_in, ↓havoc_out, List.contains_cons, List.contains_nil, Bool.or_false, Bool.or_true, Int.ofNat_lt, decide_false, Option.some.injEq, exists_eq_left', Nat.lt_irrefl, Bool.not_false, st0, Classical.not_not, DRx_int, ↓ev_tmp, ↓ev_int, ↓iop_assign, ↓iop_binOp, b_lss, ires_eq, iresL_1, iresAll_nil, iresAll_cons, iresOne_tmp, ↓reduceIte, beq_self_eq_true, false_and, nth_psts, pur_psts, nth_gaps, pur_gaps, nth_pays, pur_pays, Try.f73, h8, e]
theorem o_indexU : O_indexU := k_indexU c_indexU
def C_anyU : Prop := ∀ (l : List Int) , VC Try.prog 43 [ints l, .func (.func 44) [] []] (B (l.any fun n => decide (¬ fitB n)))
theorem c_anyU : C_anyU := by
  intro l
  refine vc_ofU mixed (l := [e_indexU]) ((eok_cons o_indexU eok_nil)) [] []  Try.func43 rfl (by decide +kernel) (N := 9) rfl (by simp) rfl (by kernel_rfl) fun hs => ?_
  simp only [smallL, PV.small, List.length_map, and_true, true_and] at hs
  rw [← firstP_any]
  simp +contextual (maxSteps := 4000000) only [↓ur_seq, ↓ur_ret, ↓ur_region, ↓cont_seq, ↓done_nil, ↓ops_consN, nY_move, nY_assign, nY_binOp, nilO_int, nY_callf, ↓ops_nil, opsIf_some, Option.map_some, Option.bind_some, Option.getD_some, Nat.reduceLT, Bool.false_eq_true, ↓upd_same, ↓upd_ne, Nat.reduceBEq, and_true, List.getD_cons_zero, List.getD_cons_succ, endQ, cfg_P, cfg_tab, cfg_muts, cfg_frz, List.contains_nil, Option.some.injEq, exists_eq_left', tabOf_cons, tab_v, pur_ints, Bool.and_self, List.nil_append, List.append_nil, Nat.reduceAdd, Nat.lt_succ_self, Bool.not_false, st0, pur_lits, pur_func, DRx_bool, ↓ev_tmp, ↓ev_int, ↓ev_bool, ↓ev_func, ↓iop_move, ↓iop_assign, ↓iop_binOp, ↓iop_callv, nrmAll_cons, nrmAll_nil, nrm_lits, nrm_func, b_geq, env0_eq, ires_eq, iresL_1, iresAll_nil, iresAll_cons, iresOne_tmp, valT_eq, pursL_cons, pursL_nil, ↓reduceIte, callP_eq, tsOf_eq, ↓evs_cons, ↓evs_nil, and_false, Bool.true_eq_false, e_indexU, s_indexU, nth_psts, pur_psts, nth_gaps, pur_gaps, nth_pays, pur_pays, Try.f43, ty34, ty105]
noncomputable def A_indexN : List Int → List PV := fun l => [ints l, .func (.func 47) [] []]
noncomputable def R_indexN : List Int → PV := fun l => I (firstP (fun n => decide (¬ n = 0)) l)
def H_indexN : List Int → Prop := fun l => True
noncomputable def e_indexN : Nat × Ent := (73, .v (specOf A_indexN R_indexN H_indexN))
theorem j_indexN : ∀ i j, A_indexN i = A_indexN j → i = j := by
  rintro l₁ l₂ h
  simp only [A_indexN, List.cons.injEq, and_true, PV.lits.injEq, PV.int.injEq, PV.bool.injEq, PV.str.injEq, PV.agg.injEq, PV.func.injEq, Fn.func.injEq, PV.vptr.injEq, true_and, List.map_nil, inj_ints, inj_strs, inj_psts, inj_gaps, inj_pays] at h
  first | exact h | omega | (simp [Prod.ext_iff, h]; done)
theorem s_indexN (l : List Int) : specOf A_indexN R_indexN H_indexN [ints l, .func (.func 47) [] []] = some (I (firstP (fun n => decide (¬ n = 0)) l)) := specOf_app j_indexN (i := l) trivial
def C_indexN : Prop := ∀ (l : List Int) , VC Try.prog 73 [ints l, .func (.func 47) [] []] (I (firstP (fun n => decide (¬ n = 0)) l))
def O_indexN : Prop := EntOK Try.prog e_indexN.1 e_indexN.2
theorem k_indexN (c : C_indexN) : O_indexN := specOf_ok fun l h => c l
theorem c_indexN : C_indexN := by
  intro l
  refine vc_ofU mixed (l := [e_nonz]) ((eok_cons o_nonz eok_nil)) [] []  Try.func73 rfl (by decide +kernel) (N := 19) rfl (by simp) rfl (by kernel_rfl) fun hs => ?_
  simp only [smallL, PV.small, List.length_map, and_true, true_and] at hs
  simp +contextual (maxSteps := 4000000) only [↓ur_seq, ↓ur_block, ↓ur_region, ↓cont_seq, ↓ops_consN, nY_move, nY_assign, nY_callb, ↓ops_nil, opsIf_some, Option.map_some, Option.getD_some, Nat.reduceLT, ↓upd_same, ↓upd_ne, Nat.reduceBEq, true_and, List.getD_cons_zero, cfg_P, List.length_map, Nat.lt_succ_self, st0, ↓ev_tmp, ↓ev_int, ↓iop_move, ↓iop_assign, ↓iop_callb, bi_len, lenM_none, lenP_lits, env0_eq, ↓reduceIte, ↓evs_cons, ↓evs_nil, e_nonz, nth_psts, pur_psts, nth_gaps, pur_gaps, nth_pays, pur_pays, Try.f73, ty34]
  refine loop_cnt [4, 5, 8, 9, 10, 11, 12, 13, 14, 15, 16, 17, 18] l.length (fun k ρ st => ρ 8 = I k ∧ (∀ x ∈ l.take k, (decide (¬ x = 0)) = false) ∧ st = st0) (.refl _) ?_ ?_
  · simp +contextual (maxSteps := 4000000) only [↓upd_same, true_and, and_true, decide_eq_false_iff_not, List.take_zero, st0, Classical.not_not, Int.cast_ofNat_Int, nth_psts, pur_psts, nth_gaps, pur_gaps, nth_pays, pur_pays, Try.f73]
    all_goals simp
  · rintro k ρ st hk ⟨h8, h3, rfl⟩
    by_cases hlt : k < l.length
    · cases hc : decide (¬ l.getD k 0 = 0)
      · have hn : l.getD k 0 = 0 := by simpa using hc
        have hts : ∀ x ∈ l.take (k + 1), (decide (¬ x = 0)) = false := by
          intro x hx
          rw [List.take_succ_eq_append_getElem hlt] at hx
          rcases List.mem_append.1 hx with h | h
          · exact h3 x h
          · simp only [List.mem_singleton] at h
            subst h
            simpa [List.getD_eq_getElem?_getD, hlt] using hc
        simp +contextual (maxSteps := 4000000) only [↓ur_skip, ↓ur_seq, ↓ur_block, ↓ur_region, ↓ur_cond, ↓cont_seq, ↓cont_blk, ↓cont_lp, ↓ops_consN, nY_move, nY_assign, nY_load, nY_binOp, nilO_tmp, nilO_int, nY_indexAddr, nY_callt, isNone_none, cfg_yl, ↓ops_nil, opsIf_some, condC_true, condC_false, Option.map_some, Option.bind_some, Option.getD_some, Nat.reduceLT, Bool.false_eq_true, ↓upd_same, ↓upd_ne, Nat.reduceBEq, true_and, and_true, List.getD_cons_zero, List.getD_cons_succ, List.getElem?_cons_zero, decide_eq_false_iff_not, cfg_P, cfg_tab, cfg_muts, cfg_frz, List.length_map, ↓havoc_in, ↓havoc_out, agree_upd, agree_havoc, List.contains_cons, List.contains_nil, Bool.or_false, Bool.or_true, Int.natCast_nonneg, Int.ofNat_lt, Int.toNat_natCast, nth_int, decide_true, decide_false, PV.int.injEq, tabOf_cons, tab_v, Bool.and_self, List.nil_append, List.append_nil, Nat.reduceAdd, Nat.lt_succ_self, Bool.not_false, not_true_eq_false, st0, Classical.not_not, cells_int, pur_int, ↓ev_tmp, ↓ev_int, ↓iop_move, ↓iop_assign, ↓iop_load, ↓iop_binOp, ↓iop_indexAddr, idxA_int, ↓iop_callv, nrmAll_cons, nrmAll_nil, nrm_int, pickP_f, loadP_vptr, indexP_lits, b_add, b_lss, env0_eq, valT_eq, pursL_cons, pursL_nil, ↓reduceIte, callP_eq, tsOf_eq, ↓evs_cons, ↓evs_nil, beq_self_eq_true, see_eq, and_false, Bool.true_eq_false, s_nonz, nth_psts, pur_psts, nth_gaps, pur_gaps, nth_pays, pur_pays, Try.f73, ty3, ty34, h8, hlt, hn]
        exact ⟨by simp only [IntKind.wrap_i64]; omega, by simpa using hts⟩
      · have hn : ¬ l.getD k 0 = 0 := by simpa using hc
        have e := firstP_at hlt h3 hc
        simp +contextual (maxSteps := 4000000) only [↓ur_skip, ↓ur_seq, ↓ur_block, ↓ur_ret, ↓ur_region, ↓ur_cond, ↓cont_seq, ↓done_nil, ↓done_seq, ↓done_blk, ↓done_lp, ↓ops_consN, nY_move, nY_assign, nY_load, nY_binOp, nilO_tmp, nY_indexAddr, nY_callt, isNone_none, cfg_yl, ↓ops_nil, opsIf_some, condC_true, Option.map_some, Option.bind_some, Option.getD_some, Nat.reduceLT, Bool.false_eq_true, ↓upd_same, ↓upd_ne, Nat.reduceBEq, true_and, and_true, List.getD_cons_zero, List.getD_cons_succ, List.getElem?_cons_zero, endQ, decide_eq_false_iff_not, cfg_P, cfg_tab, cfg_muts, cfg_frz, List.length_map, ↓havoc_in, ↓havoc_out, List.contains_cons, List.contains_nil, Bool.or_false, Bool.or_true, Int.natCast_nonneg, Int.ofNat_lt, Int.toNat_natCast, nth_int, decide_true, Option.some.injEq, exists_eq_left', tabOf_cons, tab_v, Bool.and_self, List.nil_append, List.append_nil, Nat.reduceAdd, Nat.lt_succ_self, Bool.not_false, not_false_eq_true, st0, Classical.not_not, cells_int, pur_int, DRx_int, ↓ev_tmp, ↓iop_move, ↓iop_assign, ↓iop_load, ↓iop_binOp, ↓iop_indexAddr, idxA_int, ↓iop_callv, nrmAll_cons, nrmAll_nil, nrm_int, pickP_f, loadP_vptr, indexP_lits, b_lss, env0_eq, ires_eq, iresL_1, iresAll_nil, iresAll_cons, iresOne_tmp, valT_eq, pursL_cons, pursL_nil, ↓reduceIte, callP_eq, tsOf_eq, ↓evs_cons, ↓evs_nil, beq_self_eq_true, see_eq, and_false, Bool.true_eq_false, s_nonz, nth_psts, pur_psts, nth_gaps, pur_gaps, nth_pays, pur_pays, Try.f73, ty3, ty34, h8, hlt, hn, e]
    · have e : k = l.length := by omega
      subst e
      rw [List.take_of_length_le (Nat.le_refl _)] at h3
      have e := firstP_none h3
      simp +contextual (maxSteps := 4000000) only [↓ur_seq, ↓ur_exit, ↓ur_ret, ↓ur_region, ↓ur_cond, ↓cont_seq, ↓leave_seq, ↓leave_blk, ↓leave_lp, ↓done_nil, ↓ops_consN, nY_assign, nY_binOp, nilO_tmp, ↓ops_nil, opsIf_some, condC_false, Option.map_some, Option.bind_some, Nat.reduceLT, ↓upd_same, ↓upd_ne, Nat.reduceBEq, and_true, endQ, decide_eq_false_iff_not, cfg_P, ↓havoc_in, ↓havoc_out, List.contains_cons, List.contains_nil, Bool.or_false, Bool.or_true, Int.ofNat_lt, decide_false, Option.some.injEq, exists_eq_left', Nat.lt_irrefl, Bool.not_false, st0, Classical.not_not, DRx_int, ↓ev_tmp, ↓ev_int, ↓iop_assign, ↓iop_binOp, b_lss, ires_eq, iresL_1, iresAll_nil, iresAll_cons, iresOne_tmp, ↓reduceIte, beq_self_eq_true, false_and, nth_psts, pur_psts, nth_gaps, pur_gaps, nth_pays, pur_pays, Try.f73, h8, e]
theorem o_indexN : O_indexN := k_indexN c_indexN
def C_anyN : Prop := ∀ (l : List Int) , VC Try.prog 43 [ints l, .func (.func 47) [] []] (B (l.any fun n => decide (¬ n = 0)))
theorem c_anyN : C_anyN := by
  intro l
  refine vc_ofU mixed (l := [e_indexN]) ((eok_cons o_indexN eok_nil)) [] []  Try.func43 rfl (by decide +kernel) (N := 9) rfl (by simp) rfl (by kernel_rfl) fun hs => ?_
  simp only [smallL, PV.small, List.length_map, and_true, true_and] at hs
  rw [← firstP_any]
  simp +contextual (maxSteps := 4000000) only [↓ur_seq, ↓ur_ret, ↓ur_region, ↓cont_seq, ↓done_nil, ↓ops_consN, nY_move, nY_assign, nY_binOp, nilO_int, nY_callf, ↓ops_nil, opsIf_some, Option.map_some, Option.bind_some, Option.getD_some, Nat.reduceLT, Bool.false_eq_true, ↓upd_same, ↓upd_ne, Nat.reduceBEq, and_true, List.getD_cons_zero, List.getD_cons_succ, endQ, cfg_P, cfg_tab, cfg_muts, cfg_frz, List.contains_nil, Option.some.injEq, exists_eq_left', tabOf_cons, tab_v, pur_ints, Bool.and_self, List.nil_append, List.append_nil, Nat.reduceAdd, Nat.lt_succ_self, Bool.not_false, st0, pur_lits, pur_func, DRx_bool, ↓ev_tmp, ↓ev_int, ↓ev_bool, ↓ev_func, ↓iop_move, ↓iop_assign, ↓iop_binOp, ↓iop_callv, nrmAll_cons, nrmAll_nil, nrm_lits, nrm_func, b_geq, env0_eq, ires_eq, iresL_1, iresAll_nil, iresAll_cons, iresOne_tmp, valT_eq, pursL_cons, pursL_nil, ↓reduceIte, callP_eq, tsOf_eq, ↓evs_cons, ↓evs_nil, and_false, Bool.true_eq_false, e_indexN, s_indexN, nth_psts, pur_psts, nth_gaps, pur_gaps, nth_pays, pur_pays, Try.f43, ty34, ty105]
/-- Some number answers to the function. -/
def anyF (g : FuncId) (l : List Int) : Bool := if g = 44 then l.any fun n => decide (¬ fitB n) else l.any fun n => decide (¬ n = 0)
noncomputable def A_any : (List Int) × (FuncId) → List PV := fun (l, g) => [ints l, .func (.func g) [] []]
noncomputable def R_any : (List Int) × (FuncId) → PV := fun (l, g) => B (anyF g l)
def H_any : (List Int) × (FuncId) → Prop := fun (l, g) => g = 44 ∨ g = 47
noncomputable def e_any : Nat × Ent := (43, .v (specOf A_any R_any H_any))
theorem j_any : ∀ i j, A_any i = A_any j → i = j := by
  rintro ⟨l₁, g₁⟩ ⟨l₂, g₂⟩ h
  simp only [A_any, List.cons.injEq, and_true, PV.lits.injEq, PV.int.injEq, PV.bool.injEq, PV.str.injEq, PV.agg.injEq, PV.func.injEq, Fn.func.injEq, PV.vptr.injEq, true_and, List.map_nil, inj_ints, inj_strs, inj_psts, inj_gaps, inj_pays] at h
  simp [Prod.ext_iff, h] <;> omega
theorem s_any (l : List Int) (g : FuncId) : specOf A_any R_any H_any [ints l, .func (.func g) [] []] = @ite (Option (PV)) (g = 44 ∨ g = 47) (Classical.propDecidable _) (some (B (anyF g l))) none := specOf_if j_any (l, g)
def C_any : Prop := ∀ (l : List Int) (g : FuncId) (h : g = 44 ∨ g = 47) , VC Try.prog 43 [ints l, .func (.func g) [] []] (B (anyF g l))
def O_any : Prop := EntOK Try.prog e_any.1 e_any.2
theorem k_any (c : C_any) : O_any := specOf_ok fun ⟨l, g⟩ h => c l g h
theorem c_any : C_any := by
  intro l g hg
  rcases hg with rfl | rfl
  · exact c_anyU l
  · exact c_anyN l
theorem o_any : O_any := k_any c_any
noncomputable def A_cloneP : List Pst → List PV := fun l => [psts l]
noncomputable def R_cloneP : List Pst → PV := fun l => psts l
def H_cloneP : List Pst → Prop := fun l => l.length ≤ 2147483648
noncomputable def e_cloneP : Nat × Ent := (51, .v (specOf A_cloneP R_cloneP H_cloneP))
theorem j_cloneP : ∀ i j, A_cloneP i = A_cloneP j → i = j := by
  rintro l₁ l₂ h
  simp only [A_cloneP, List.cons.injEq, and_true, PV.lits.injEq, PV.int.injEq, PV.bool.injEq, PV.str.injEq, PV.agg.injEq, PV.func.injEq, Fn.func.injEq, PV.vptr.injEq, true_and, List.map_nil, inj_ints, inj_strs, inj_psts, inj_gaps, inj_pays] at h
  first | exact h | omega | (simp [Prod.ext_iff, h]; done)
theorem s_cloneP (l : List Pst) : specOf A_cloneP R_cloneP H_cloneP [psts l] = @ite (Option (PV)) (l.length ≤ 2147483648) (Classical.propDecidable _) (some (psts l)) none := specOf_if j_cloneP l
def C_cloneP : Prop := ∀ (l : List Pst) (h : l.length ≤ 2147483648) , VC Try.prog 51 [psts l] (psts l)
def O_cloneP : Prop := EntOK Try.prog e_cloneP.1 e_cloneP.2
theorem k_cloneP (c : C_cloneP) : O_cloneP := specOf_ok fun l h => c l h
theorem c_cloneP : C_cloneP := by
  intro l hl
  refine vc_ofU mixed (l := []) (eok_nil) [5] []  Try.func51 rfl (by decide +kernel) (N := 8) rfl (by simp) rfl (by kernel_rfl) fun hs => ?_
  simp only [smallL, PV.small, List.length_map, and_true, true_and] at hs
  cases l with
  | nil => simp +contextual (maxSteps := 4000000) only [↓ur_skip, ↓ur_seq, ↓ur_ret, ↓ur_region, ↓ur_cond, ↓cont_seq, ↓done_nil, ↓done_seq, ↓ops_consL, ↓ops_consN, nY_move, nY_assign, nY_buildSlice, nilC_nil, Nat.reduceBNe, nY_callb, ↓ops_nil, opsIf_some, condC_true, condC_false, Option.map_some, Option.bind_some, Option.getD_some, Nat.reduceLT, Bool.false_eq_true, ↓upd_same, ↓upd_ne, Nat.reduceBEq, true_and, and_true, List.getD_cons_zero, endQ, cfg_P, cfg_muts, cfg_num, numOf_eq, List.map_nil, List.contains_cons, List.contains_nil, Bool.or_false, Option.some.injEq, exists_eq_left', List.append_nil, updO_same, List.length_nil, Nat.zero_add, Nat.add_zero, List.drop_zero, List.take_zero, Nat.reduceAdd, List.replicate_zero, Nat.reduceMul, Nat.reduceLeDiff, Prod.mk.injEq, Nat.lt_succ_self, reduceCtorEq, not_false_eq_true, or_false, st0, Nat.le_refl, DRx_nils_lits, DRx_ref, ↓ev_tmp, ↓ev_nils, ↓iop_move, ↓iop_assign, ↓iop_buildSlice, ↓iop_callb, bi_append, elemsP_lits, appendP_ref, bel_nil, env0_eq, ires_eq, iresL_1, iresAll_nil, iresAll_cons, iresOne_tmp, pursL_nil, Store.new, Store.set, ↓reduceIte, arr_eq, arrB_some, bslP_eq, ne_eq, List.drop_nil, List.take_nil, ↓evs_cons, ↓evs_nil, ↓evp_nil, beq_self_eq_true, nth_psts, pur_psts, nth_gaps, pur_gaps, nth_pays, pur_pays, Try.f51, ty22, ty61, psts]
  | cons a l =>
    simp only [List.length_cons] at hl
    simp +contextual (maxSteps := 4000000) only [↓ur_skip, ↓ur_seq, ↓ur_ret, ↓ur_region, ↓ur_cond, ↓cont_seq, ↓done_nil, ↓ops_consL, ↓ops_consN, nY_move, nY_assign, nY_buildSlice, nilC_cons, bn_eql, Nat.reduceBNe, nY_callb, ↓ops_nil, opsIf_some, condC_false, Option.map_some, Option.bind_some, Option.getD_some, Nat.reduceLT, Bool.false_eq_true, ↓upd_same, ↓upd_ne, Nat.reduceBEq, true_and, and_true, List.getD_cons_zero, endQ, cfg_P, cfg_muts, cfg_num, numOf_eq, List.map_cons, List.length_map, List.contains_cons, List.contains_nil, Bool.or_false, Option.some.injEq, exists_eq_left', Bool.and_self, List.nil_append, updO_same, List.length_cons, List.length_nil, Nat.zero_add, Nat.add_zero, List.drop_zero, Nat.reduceAdd, List.replicate_zero, Nat.reduceMul, Nat.reduceLeDiff, Prod.mk.injEq, Nat.lt_succ_self, reduceCtorEq, not_false_eq_true, take_map_len, or_false, st0, Nat.le_refl, pur_int, pur_agg, DRx_ref, ↓ev_tmp, ↓ev_nils, ↓iop_move, ↓iop_assign, ↓iop_buildSlice, ↓iop_binOp, ↓iop_callb, bi_append, elemsP_lits, appendP_ref, bel_nil, env0_eq, ires_eq, iresL_1, iresAll_nil, iresAll_cons, iresOne_tmp, pursL_cons, pursL_nil, Store.new, Store.set, ↓reduceIte, arr_eq, arrB_some, bslP_eq, ne_eq, List.take_succ_cons, List.drop_nil, List.take_nil, ↓evs_cons, ↓evs_nil, ↓evp_nil, beq_self_eq_true, nth_psts, pur_psts, nth_gaps, pur_gaps, nth_pays, pur_pays, Try.f51, ty22, ty61, hl, psts]
theorem o_cloneP : O_cloneP := k_cloneP c_cloneP
noncomputable def A_cloneI : List Int → List PV := fun l => [ints l]
noncomputable def R_cloneI : List Int → PV := fun l => ints l
def H_cloneI : List Int → Prop := fun l => l.length ≤ 2147483648
noncomputable def e_cloneI : Nat × Ent := (46, .v (specOf A_cloneI R_cloneI H_cloneI))
theorem j_cloneI : ∀ i j, A_cloneI i = A_cloneI j → i = j := by
  rintro l₁ l₂ h
  simp only [A_cloneI, List.cons.injEq, and_true, PV.lits.injEq, PV.int.injEq, PV.bool.injEq, PV.str.injEq, PV.agg.injEq, PV.func.injEq, Fn.func.injEq, PV.vptr.injEq, true_and, List.map_nil, inj_ints, inj_strs, inj_psts, inj_gaps, inj_pays] at h
  first | exact h | omega | (simp [Prod.ext_iff, h]; done)
theorem s_cloneI (l : List Int) : specOf A_cloneI R_cloneI H_cloneI [ints l] = @ite (Option (PV)) (l.length ≤ 2147483648) (Classical.propDecidable _) (some (ints l)) none := specOf_if j_cloneI l
def C_cloneI : Prop := ∀ (l : List Int) (h : l.length ≤ 2147483648) , VC Try.prog 46 [ints l] (ints l)
def O_cloneI : Prop := EntOK Try.prog e_cloneI.1 e_cloneI.2
theorem k_cloneI (c : C_cloneI) : O_cloneI := specOf_ok fun l h => c l h
theorem c_cloneI : C_cloneI := by
  intro l hl
  refine vc_ofU mixed (l := []) (eok_nil) [5] []  Try.func46 rfl (by decide +kernel) (N := 8) rfl (by simp) rfl (by kernel_rfl) fun hs => ?_
  simp only [smallL, PV.small, List.length_map, and_true, true_and] at hs
  cases l with
  | nil => simp +contextual (maxSteps := 4000000) only [↓ur_skip, ↓ur_seq, ↓ur_ret, ↓ur_region, ↓ur_cond, Nat.one_ne_zero, ↓cont_seq, ↓done_nil, ↓done_seq, ↓ops_consL, ↓ops_consN, nY_move, nY_assign, nY_buildSlice, nilC_nil, Nat.reduceBNe, nY_callb, ↓ops_nil, opsIf_some, condC_true, condC_false, Option.map_some, Option.bind_some, Option.getD_some, Nat.reduceLT, Bool.false_eq_true, ↓upd_same, ↓upd_ne, Nat.reduceBEq, true_and, and_true, List.getD_cons_zero, endQ, cfg_P, cfg_muts, cfg_num, numOf_eq, List.map_nil, List.contains_cons, List.contains_nil, Bool.or_false, Option.some.injEq, exists_eq_left', List.append_nil, updO_same, List.length_nil, Nat.zero_add, Nat.add_zero, List.drop_zero, List.take_zero, Nat.reduceAdd, List.replicate_zero, Nat.reduceMul, Nat.reduceLeDiff, Prod.mk.injEq, Nat.lt_succ_self, not_false_eq_true, or_false, st0, Nat.le_refl, DRx_nils_lits, DRx_ref, ↓ev_tmp, ↓ev_nils, ↓iop_move, ↓iop_assign, ↓iop_buildSlice, ↓iop_callb, bi_append, elemsP_lits, appendP_ref, bel_nil, env0_eq, ires_eq, iresL_1, iresAll_nil, iresAll_cons, iresOne_tmp, pursL_nil, Store.new, Store.set, ↓reduceIte, arr_eq, arrB_some, bslP_eq, ne_eq, List.drop_nil, List.take_nil, ↓evs_cons, ↓evs_nil, ↓evp_nil, beq_self_eq_true, nth_psts, pur_psts, nth_gaps, pur_gaps, nth_pays, pur_pays, Try.f46, ty3, ty34, ints]
  | cons a l =>
    simp only [List.length_cons] at hl
    simp +contextual (maxSteps := 4000000) only [↓ur_skip, ↓ur_seq, ↓ur_ret, ↓ur_region, ↓ur_cond, Nat.one_ne_zero, ↓cont_seq, ↓done_nil, ↓ops_consL, ↓ops_consN, nY_move, nY_assign, nY_buildSlice, nilC_cons, bn_eql, Nat.reduceBNe, nY_callb, ↓ops_nil, opsIf_some, condC_false, Option.map_some, Option.bind_some, Option.getD_some, Nat.reduceLT, Bool.false_eq_true, ↓upd_same, ↓upd_ne, Nat.reduceBEq, true_and, and_true, List.getD_cons_zero, endQ, cfg_P, cfg_muts, cfg_num, numOf_eq, List.map_cons, List.length_map, List.contains_cons, List.contains_nil, Bool.or_false, Option.some.injEq, exists_eq_left', pur_ints, Bool.and_self, List.nil_append, updO_same, List.length_cons, List.length_nil, Nat.zero_add, Nat.add_zero, List.drop_zero, Nat.reduceAdd, List.replicate_zero, Nat.reduceMul, Nat.reduceLeDiff, Prod.mk.injEq, Nat.lt_succ_self, not_false_eq_true, take_map_len, or_false, st0, Nat.le_refl, pur_int, DRx_ref, ↓ev_tmp, ↓ev_nils, ↓iop_move, ↓iop_assign, ↓iop_buildSlice, ↓iop_binOp, ↓iop_callb, bi_append, elemsP_lits, appendP_ref, bel_nil, env0_eq, ires_eq, iresL_1, iresAll_nil, iresAll_cons, iresOne_tmp, pursL_cons, Store.new, Store.set, ↓reduceIte, arr_eq, arrB_some, bslP_eq, ne_eq, List.take_succ_cons, List.drop_nil, List.take_nil, ↓evs_cons, ↓evs_nil, ↓evp_nil, beq_self_eq_true, nth_psts, pur_psts, nth_gaps, pur_gaps, nth_pays, pur_pays, Try.f46, ty3, ty34, hl, ints]
theorem o_cloneI : O_cloneI := k_cloneI c_cloneI
noncomputable def A_cloneA : List Int → List PV := fun l => [ints l]
noncomputable def R_cloneA : List Int → List PV := fun l => l.map (PV.int .i64)
def H_cloneA : List Int → Prop := fun l => l.length ≤ 2147483648
noncomputable def e_cloneA : Nat × Ent := (46, .a (1) (specOf A_cloneA R_cloneA H_cloneA))
theorem j_cloneA : ∀ i j, A_cloneA i = A_cloneA j → i = j := by
  rintro l₁ l₂ h
  simp only [A_cloneA, List.cons.injEq, and_true, PV.lits.injEq, PV.int.injEq, PV.bool.injEq, PV.str.injEq, PV.agg.injEq, PV.func.injEq, Fn.func.injEq, PV.vptr.injEq, true_and, List.map_nil, inj_ints, inj_strs, inj_psts, inj_gaps, inj_pays] at h
  first | exact h | omega | (simp [Prod.ext_iff, h]; done)
theorem s_cloneA (l : List Int) : specOf A_cloneA R_cloneA H_cloneA [ints l] = @ite (Option (List PV)) (l.length ≤ 2147483648) (Classical.propDecidable _) (some (l.map (PV.int .i64))) none := specOf_if j_cloneA l
def C_cloneA : Prop := ∀ (l : List Int) (h : l.length ≤ 2147483648) , VCA Try.prog 46 [ints l] (1) (l.map (PV.int .i64))
def O_cloneA : Prop := EntOK Try.prog e_cloneA.1 e_cloneA.2
theorem k_cloneA (c : C_cloneA) : O_cloneA := specOf_okA fun l h => c l h
theorem c_cloneA : C_cloneA := by
  intro l hl
  refine vca_ofD mixed (l := []) (eok_nil) [5] [] 0 0 Try.func46 rfl (by decide +kernel) (N := 8) rfl (by simp) rfl (by kernel_rfl) ?_ ?_
  · intro e he
    obtain ⟨x, _, rfl⟩ := List.mem_map.1 he
    rfl
  cases l with
  | nil =>
    simp +contextual (maxSteps := 4000000) only [↓ur_skip, ↓ur_seq, ↓ur_ret, ↓ur_region, ↓ur_cond, Nat.one_ne_zero, ↓cont_seq, ↓done_nil, ↓done_seq, ↓ops_consL, ↓ops_consN, nY_move, nY_assign, nY_buildSlice, nilC_nil, Nat.reduceBNe, nY_callb, ↓ops_nil, opsIf_some, condC_true, condC_false, Option.map_some, Option.bind_some, Option.getD_some, Nat.reduceLT, Bool.false_eq_true, ↓upd_same, ↓upd_ne, Nat.reduceBEq, true_and, and_true, List.getD_cons_zero, endQ, cfg_P, cfg_muts, cfg_num, numOf_eq, List.map_nil, List.contains_cons, List.contains_nil, Bool.or_false, Option.some.injEq, exists_eq_left', List.append_nil, updO_same, List.length_nil, Nat.zero_add, Nat.add_zero, Nat.reduceAdd, List.replicate_zero, Nat.reduceMul, Nat.reduceLeDiff, Nat.lt_succ_self, reduceCtorEq, not_false_eq_true, or_false, or_true, Nat.le_refl, ↓ev_tmp, ↓ev_nils, ↓iop_move, ↓iop_assign, ↓iop_buildSlice, ↓iop_callb, bi_append, elemsP_lits, appendP_ref, bel_nil, env0_eq, ires_eq, iresL_1, iresAll_nil, iresAll_cons, iresOne_tmp, Store.new, Store.set, ↓reduceIte, arr_eq, arrB_some, bslP_eq, ne_eq, List.drop_nil, List.take_nil, ↓evs_cons, ↓evs_nil, ↓evp_nil, beq_self_eq_true, false_and, nth_psts, pur_psts, nth_gaps, pur_gaps, nth_pays, pur_pays, Try.f46, ty3, ty34, ints]
    exact ⟨0, 0, rfl, by simp [updO]⟩
  | cons a l =>
    simp only [List.length_cons] at hl
    simp +contextual (maxSteps := 4000000) only [↓ur_skip, ↓ur_seq, ↓ur_ret, ↓ur_region, ↓ur_cond, Nat.one_ne_zero, ↓cont_seq, ↓done_nil, ↓ops_consL, ↓ops_consN, nY_move, nY_assign, nY_buildSlice, nilC_cons, bn_eql, Nat.reduceBNe, nY_callb, ↓ops_nil, opsIf_some, condC_false, Option.map_some, Option.bind_some, Option.getD_some, Nat.reduceLT, Bool.false_eq_true, ↓upd_same, ↓upd_ne, Nat.reduceBEq, true_and, and_true, List.getD_cons_zero, endQ, cfg_P, cfg_muts, cfg_num, numOf_eq, List.map_cons, List.length_map, List.contains_cons, List.contains_nil, Bool.or_false, Option.some.injEq, exists_eq_left', List.nil_append, updO_same, List.length_cons, List.length_nil, Nat.zero_add, Nat.add_zero, Nat.reduceAdd, List.replicate_zero, Nat.reduceMul, Nat.reduceLeDiff, Nat.lt_succ_self, reduceCtorEq, not_false_eq_true, or_false, Nat.le_refl, ↓ev_tmp, ↓ev_nils, ↓iop_move, ↓iop_assign, ↓iop_buildSlice, ↓iop_binOp, ↓iop_callb, bi_append, elemsP_lits, appendP_ref, bel_nil, env0_eq, ires_eq, iresL_1, iresAll_nil, iresAll_cons, iresOne_tmp, Store.new, Store.set, ↓reduceIte, arr_eq, arrB_some, bslP_eq, ne_eq, List.drop_nil, List.take_nil, ↓evs_cons, ↓evs_nil, ↓evp_nil, beq_self_eq_true, false_and, nth_psts, pur_psts, nth_gaps, pur_gaps, nth_pays, pur_pays, Try.f46, ty3, ty34, hl, ints]
    exact ⟨0, 1, rfl, by simp [updO]⟩
theorem o_cloneA : O_cloneA := k_cloneA c_cloneA
noncomputable def A_clonePA : List Pst → List PV := fun l => [psts l]
noncomputable def R_clonePA : List Pst → List PV := fun l => l.map pstV
def H_clonePA : List Pst → Prop := fun l => l.length ≤ 2147483648
noncomputable def e_clonePA : Nat × Ent := (51, .a (6) (specOf A_clonePA R_clonePA H_clonePA))
theorem j_clonePA : ∀ i j, A_clonePA i = A_clonePA j → i = j := by
  rintro l₁ l₂ h
  simp only [A_clonePA, List.cons.injEq, and_true, PV.lits.injEq, PV.int.injEq, PV.bool.injEq, PV.str.injEq, PV.agg.injEq, PV.func.injEq, Fn.func.injEq, PV.vptr.injEq, true_and, List.map_nil, inj_ints, inj_strs, inj_psts, inj_gaps, inj_pays] at h
  first | exact h | omega | (simp [Prod.ext_iff, h]; done)
theorem s_clonePA (l : List Pst) : specOf A_clonePA R_clonePA H_clonePA [psts l] = @ite (Option (List PV)) (l.length ≤ 2147483648) (Classical.propDecidable _) (some (l.map pstV)) none := specOf_if j_clonePA l
def C_clonePA : Prop := ∀ (l : List Pst) (h : l.length ≤ 2147483648) , VCA Try.prog 51 [psts l] (6) (l.map pstV)
def O_clonePA : Prop := EntOK Try.prog e_clonePA.1 e_clonePA.2
theorem k_clonePA (c : C_clonePA) : O_clonePA := specOf_okA fun l h => c l h
theorem c_clonePA : C_clonePA := by
  intro l hl
  refine vca_ofD mixed (l := []) (eok_nil) [5] [] 0 0 Try.func51 rfl (by decide +kernel) (N := 8) rfl (by simp) rfl (by kernel_rfl) ?_ ?_
  · intro e he
    obtain ⟨x, _, rfl⟩ := List.mem_map.1 he
    rfl
  cases l with
  | nil =>
    simp +contextual (maxSteps := 4000000) only [↓ur_skip, ↓ur_seq, ↓ur_ret, ↓ur_region, ↓ur_cond, ↓cont_seq, ↓done_nil, ↓done_seq, ↓ops_consL, ↓ops_consN, nY_move, nY_assign, nY_buildSlice, nilC_nil, Nat.reduceBNe, nY_callb, ↓ops_nil, opsIf_some, condC_true, condC_false, Option.map_some, Option.bind_some, Option.getD_some, Nat.reduceLT, Bool.false_eq_true, ↓upd_same, ↓upd_ne, Nat.reduceBEq, true_and, and_true, List.getD_cons_zero, endQ, cfg_P, cfg_muts, cfg_num, numOf_eq, List.map_nil, List.contains_cons, List.contains_nil, Bool.or_false, Option.some.injEq, exists_eq_left', List.append_nil, updO_same, List.length_nil, Nat.zero_add, Nat.add_zero, Nat.reduceAdd, List.replicate_zero, Nat.reduceMul, Nat.reduceLeDiff, Nat.lt_succ_self, reduceCtorEq, not_false_eq_true, or_false, or_true, Nat.le_refl, ↓ev_tmp, ↓ev_nils, ↓iop_move, ↓iop_assign, ↓iop_buildSlice, ↓iop_callb, bi_append, elemsP_lits, appendP_ref, bel_nil, env0_eq, ires_eq, iresL_1, iresAll_nil, iresAll_cons, iresOne_tmp, Store.new, Store.set, ↓reduceIte, arr_eq, arrB_some, bslP_eq, ne_eq, List.drop_nil, List.take_nil, ↓evs_cons, ↓evs_nil, ↓evp_nil, beq_self_eq_true, false_and, nth_psts, pur_psts, nth_gaps, pur_gaps, nth_pays, pur_pays, Try.f51, ty22, ty61, psts]
    exact ⟨0, 0, rfl, by simp [updO]⟩
  | cons a l =>
    simp only [List.length_cons] at hl
    simp +contextual (maxSteps := 4000000) only [↓ur_skip, ↓ur_seq, ↓ur_ret, ↓ur_region, ↓ur_cond, ↓cont_seq, ↓done_nil, ↓ops_consL, ↓ops_consN, nY_move, nY_assign, nY_buildSlice, nilC_cons, bn_eql, Nat.reduceBNe, nY_callb, ↓ops_nil, opsIf_some, condC_false, Option.map_some, Option.bind_some, Option.getD_some, Nat.reduceLT, Bool.false_eq_true, ↓upd_same, ↓upd_ne, Nat.reduceBEq, true_and, and_true, List.getD_cons_zero, endQ, cfg_P, cfg_muts, cfg_num, numOf_eq, List.map_cons, List.length_map, List.contains_cons, List.contains_nil, Bool.or_false, Option.some.injEq, exists_eq_left', List.nil_append, updO_same, List.length_cons, List.length_nil, Nat.zero_add, Nat.add_zero, Nat.reduceAdd, List.replicate_zero, Nat.reduceMul, Nat.reduceLeDiff, Nat.lt_succ_self, reduceCtorEq, not_false_eq_true, or_false, Nat.le_refl, ↓ev_tmp, ↓ev_nils, ↓iop_move, ↓iop_assign, ↓iop_buildSlice, ↓iop_binOp, ↓iop_callb, bi_append, elemsP_lits, appendP_ref, bel_nil, env0_eq, ires_eq, iresL_1, iresAll_nil, iresAll_cons, iresOne_tmp, Store.new, Store.set, ↓reduceIte, arr_eq, arrB_some, bslP_eq, ne_eq, List.drop_nil, List.take_nil, ↓evs_cons, ↓evs_nil, ↓evp_nil, beq_self_eq_true, false_and, nth_psts, pur_psts, nth_gaps, pur_gaps, nth_pays, pur_pays, Try.f51, ty22, ty61, hl, psts]
    exact ⟨0, 1, rfl, by simp [updO]⟩
theorem o_clonePA : O_clonePA := k_clonePA c_clonePA
end Sim
