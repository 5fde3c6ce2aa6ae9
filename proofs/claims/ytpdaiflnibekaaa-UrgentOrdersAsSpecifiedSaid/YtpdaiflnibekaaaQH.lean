/- What functions of this seat compute, by values: contracts (lemmas of the statement's proof, under the conditions that each names). -/
import Derived.Test.YtpdaiflnibekaaaQG
namespace Sim
open Go Go.Proofs
set_option maxRecDepth 10000
set_option maxHeartbeats 2000000
set_option linter.unusedVariables false
set_option linter.unusedSimpArgs false
attribute [local congr] opsIf_congr condC_congr guardC_congr grd_congr pick3_congr obind_congr omap_congr

/-! A crew without some repairs. -/
def atT (g : Nat) : Nat → Nat
  | 0 => 0
  | i + 1 => if g.testBit i = true then atT g i else atT g i + 1
def sqT (a g : Nat) : Nat → Nat
  | 0 => 0
  | i + 1 => if g.testBit i = false ∧ a.testBit i = true then sqT a g i ||| 2 ^ atT g i else sqT a g i
def withR (rs : List Rep) (g k : Nat) : Rep := (tk rs k, du rs k, ch rs k, (sqT (ac rs k) g rs.length : Nat))
def withT (rs : List Rep) (g : Nat) : Nat → List Rep
  | 0 => []
  | k + 1 => if g.testBit k = true then withT rs g k else withT rs g k ++ [withR rs g k]
def badW (rs : List Rep) (g : Nat) : Nat → Bool
  | 0 => false
  | k + 1 => badW rs g k || (!g.testBit k && !(ac rs k &&& g == 0))
def withM (st : Int) (rs : List Rep) (s : Int) : (Int × List Rep) × Int :=
  if checkM st rs ≠ 0 then ((0, []), checkM st rs) else if ¬ (0 ≤ s ∧ s ≤ ((2 ^ rs.length - 1 : Nat) : Int)) then ((0, []), 1) else if badW rs s.toNat rs.length = true then ((0, []), 4) else ((st, withT rs s.toNat rs.length), 0)
theorem atT_le {g : Nat} : ∀ i, atT g i ≤ i
  | 0 => Nat.le_refl _
  | i + 1 => by have := atT_le (g := g) i; simp only [atT]; split <;> omega
theorem sqT_lt {a g : Nat} : ∀ i, sqT a g i < 2 ^ atT g i
  | 0 => by simp [sqT, atT]
  | i + 1 => by
    have ih := sqT_lt (a := a) (g := g) i
    simp only [sqT, atT]
    by_cases hg : g.testBit i = true
    · simp [hg]; exact ih
    · have hgf : g.testBit i = false := by simpa using hg
      have h2 : sqT a g i < 2 ^ (atT g i + 1) := Nat.lt_trans ih (Nat.pow_lt_pow_right (by omega) (by omega))
      by_cases ha : a.testBit i = true
      · simp only [hgf, ha, and_self, if_true, Bool.false_eq_true, if_false]
        exact or_lt _ h2 (Nat.pow_lt_pow_right (by omega) (by omega))
      · simp only [hgf, ha, and_false, if_false, Bool.false_eq_true]
        exact h2
theorem withT_len {rs : List Rep} {g : Nat} : ∀ k, (withT rs g k).length ≤ k
  | 0 => by simp [withT]
  | k + 1 => by
    have := withT_len (rs := rs) (g := g) k
    simp only [withT]
    split
    · omega
    · simp; omega
theorem badW_stays {rs : List Rep} {g j : Nat} (h : badW rs g j = true) : ∀ m, badW rs g (j + m) = true
  | 0 => h
  | m + 1 => by show (badW rs g (j + m) || _) = true; rw [badW_stays h m]; rfl
theorem badW_end {rs : List Rep} {g j n : Nat} (h : badW rs g j = true) (hj : j ≤ n) : badW rs g n = true := by
  have := badW_stays h (n - j)
  rwa [show j + (n - j) = n by omega] at this
theorem bit_val {a i : Nat} (ha : a < 9223372036854775808) : andI ((a : Int).fdiv (2 ^ i)) 1 = if a.testBit i = true then 1 else 0 := by
  have h0 : andI ((a : Int).fdiv (2 ^ i)) 1 = ((a / 2 ^ i &&& 1 : Nat) : Int) := by
    rw [fdiv_pow]; exact andI_nat (b := 1) (Nat.lt_of_le_of_lt (Nat.div_le_self _ _) ha) (by omega)
  rw [h0]
  have h := @bit_one a i
  rw [Nat.and_one_is_mod] at h ⊢
  have := Nat.mod_two_eq_zero_or_one (a / 2 ^ i)
  generalize a / 2 ^ i = q at *
  cases hb : a.testBit i <;> simp only [hb, iff_true, iff_false, Bool.false_eq_true, if_true, if_false] at h ⊢ <;> omega
noncomputable def A_With : (Int) × (List Rep) × (Int) → List PV := fun (st, rs, s) => [.agg [I st, reps rs], I s]
noncomputable def R_With : (Int) × (List Rep) × (Int) → PV := fun (st, rs, s) => .tuple [.agg [I (withM st rs s).1.1, reps (withM st rs s).1.2], I (withM st rs s).2]
def H_With : (Int) × (List Rep) × (Int) → Prop := fun (st, rs, s) => True
noncomputable def e_With : Nat × Ent := (19, .v (specOf A_With R_With H_With))
theorem j_With : ∀ i j, A_With i = A_With j → i = j := by
  rintro ⟨st₁, rs₁, s₁⟩ ⟨st₂, rs₂, s₂⟩ h
  simp only [A_With, List.cons.injEq, and_true, PV.lits.injEq, PV.int.injEq, PV.bool.injEq, PV.str.injEq, PV.agg.injEq, PV.func.injEq, PV.vptr.injEq, true_and, List.map_nil, inj_ints, inj_strs, inj_reps] at h
  simp [Prod.ext_iff, h] <;> omega
theorem s_With (st : Int) (rs : List Rep) (s : Int) : specOf A_With R_With H_With [.agg [I st, reps rs], I s] = some (.tuple [.agg [I (withM st rs s).1.1, reps (withM st rs s).1.2], I (withM st rs s).2]) := specOf_app j_With (i := (st, rs, s)) trivial
def C_With : Prop := ∀ (st : Int) (rs : List Rep) (s : Int) , VC Try.prog 19 [.agg [I st, reps rs], I s] (.tuple [.agg [I (withM st rs s).1.1, reps (withM st rs s).1.2], I (withM st rs s).2])
def O_With : Prop := EntOK Try.prog e_With.1 e_With.2
theorem k_With (c : C_With) : O_With := specOf_ok fun ⟨st, rs, s⟩ h => c st rs s
theorem c_With : C_With := by
  rintro st rs s
  refine vc_ofU mixed (l := [e_check, e_win, e_has]) ((eok_cons o_check (eok_cons o_win (eok_cons o_has eok_nil)))) [] []  Try.func19 rfl (by decide +kernel) (N := 82) rfl (by simp) rfl (by kernel_rfl) fun hs => ?_
  simp only [smallL, PV.small, List.length_map, and_true, true_and] at hs
  by_cases h : checkM st rs = 0
  case neg =>
    rw [show withM st rs s = ((0, []), checkM st rs) by simp [withM, h]]
    generalize hr : checkM st rs = r at *
    simp +contextual (maxSteps := 4000000) only [↓ur_seq, ↓ur_ret, ↓ur_region, ↓ur_cond, ↓cont_seq, ↓done_nil, ↓done_seq, ↓ops_consN, nY_move, nY_assign, nY_alloc, nY_box, nY_build, nY_load, nY_store, nY_binOp, nY_callf, ↓ops_nil, opsIf_some, opsIf_none, condC_true, Option.map_some, Option.bind_some, Option.getD_some, Nat.reduceLT, Bool.false_eq_true, ↓upd_same, ↓upd_ne, Nat.reduceBEq, and_true, List.getD_cons_zero, endQ, cfg_P, cfg_tab, cfg_muts, cfg_frz, cfg_num, numOf_eq, List.map_nil, List.contains_nil, decide_true, Option.some.injEq, exists_eq_left', List.lookup_cons, List.lookup_nil, tabOf_cons, tab_v, Bool.and_self, List.nil_append, List.append_nil, updO_same, List.length_cons, List.length_nil, Nat.zero_add, List.drop_zero, List.take_zero, Nat.reduceAdd, List.set_cons_zero, nth_zero, Nat.lt_succ_self, not_false_eq_true, st0, Nat.le_refl, pur_int, isCell_int, pur_lits, isCell_lits, cells_agg, pur_agg, DRx_int, DRx_nils_lits, DRx_agg, DRx_tuple, DRxL_cons, DRxL_nil, ↓ev_tmp, ↓ev_int, ↓ev_func, ↓iop_move, ↓iop_assign, ↓iop_alloc, ↓iop_box, ↓iop_build, ↓iop_load, ↓iop_store, ↓iop_binOp, ↓iop_callv, nrmAll_cons, nrmAll_nil, nrm_agg, nrmL_cons, nrmL_nil, nrm1_int, nrm1_lits, pickP_t, loadP_vptr, loadP_ptr, setCells_agg, storeP_ptr, b_neq, fill_nil, buildP_eq, bldA_none, splice_eq, env0_eq, ires_eq, iresL_2, iresAll_nil, iresAll_cons, iresOne_tmp, iresOne_cell, valT_eq, pursL_cons, pursL_nil, Store.new, Store.set, ↓reduceIte, arr_eq, arrB_some, callP_eq, boxP_eq, List.take_succ_cons, List.drop_succ_cons, List.drop_nil, List.take_nil, ↓evs_cons, ↓evs_nil, ↓evp_nil, beq_self_eq_true, List.all_cons, List.all_nil, see_eq, and_false, Bool.true_eq_false, e_check, s_check, e_win, e_has, nth_reps, pur_reps, Try.f19, ty24, h, hr]
  have hc := check_zero.1 h
  have h10 := hc.len
  have hwm : withM st rs s = if ¬ (0 ≤ s ∧ s ≤ ((2 ^ rs.length - 1 : Nat) : Int)) then ((0, []), 1) else if badW rs s.toNat rs.length = true then ((0, []), 4) else ((st, withT rs s.toNat rs.length), 0) := by simp [withM, h]
  generalize hr : withM st rs s = r
  have hp := pow1024 (k := rs.length) h10
  have hp1 := one_le_pow rs.length
  have hsh := shl1 (k := rs.length) (by omega)
  have h64 : rs.length ≤ 64 := by omega
  have hw1 : IntKind.i64.wrap (((2 ^ rs.length : Nat) : Int) - 1) = ((2 ^ rs.length - 1 : Nat) : Int) := by
    generalize 2 ^ rs.length = q at *
    rw [wrap64 (by omega) (by omega)]; omega
  by_cases hin : 0 ≤ s ∧ s ≤ ((2 ^ rs.length - 1 : Nat) : Int)
  case neg =>
    rw [if_pos hin] at hwm
    rw [hwm] at hr
    subst hr
    simp +contextual (maxSteps := 4000000) only [↓ur_skip, ↓ur_seq, ↓ur_ret, ↓ur_region, ↓ur_cond, ↓cont_seq, ↓done_nil, ↓done_seq, ↓ops_consN, nY_move, nY_assign, nY_alloc, nY_box, nY_build, nY_load, nY_store, nY_binOp, nY_unOp, nY_fieldAddr, nY_callf, nY_callb, ↓ops_nil, opsIf_some, opsIf_none, opsIf_if', map_if, condC_true, condC_false, Option.map_some, Option.map_none, Option.bind_some, Option.getD_some, Nat.reduceLT, Bool.false_eq_true, ↓upd_same, ↓upd_ne, Nat.reduceBEq, true_and, and_true, List.getD_cons_zero, List.getD_cons_succ, List.getElem?_cons_zero, List.getElem?_cons_succ, endQ, cfg_P, cfg_tab, cfg_muts, cfg_frz, cfg_num, numOf_eq, List.map_nil, List.length_map, List.contains_nil, Int.toNat_natCast, decide_false, Option.some.injEq, exists_eq_left', List.lookup_cons, List.lookup_nil, tabOf_cons, tab_v, Bool.and_self, Nat.reduceEqDiff, List.nil_append, List.append_nil, updO_same, List.length_cons, List.length_nil, Nat.zero_add, List.drop_zero, List.take_zero, Nat.reduceAdd, List.set_cons_zero, nth_zero, Nat.lt_succ_self, Bool.not_false, not_true_eq_false, st0, Nat.le_refl, pur_int, isCell_int, pur_lits, isCell_lits, cells_agg, pur_agg, DRx_int, DRx_nils_lits, DRx_agg, DRx_tuple, DRxL_cons, DRxL_nil, ↓ev_tmp, ↓ev_int, ↓ev_func, ↓iop_move, ↓iop_assign, ↓iop_alloc, ↓iop_box, ↓iop_build, ↓iop_load, ↓iop_store, ↓iop_binOp, ↓iop_unOp, ↓iop_fieldAddr, ↓iop_callv, ↓iop_callb, nrmAll_cons, nrmAll_nil, bi_len, lenM_none, nrm_agg, nrmL_cons, nrmL_nil, nrm_int, nrm1_int, nrm1_lits, pickP_f, pickP_t, loadP_vptr, loadP_ptr, setCells_agg, storeP_ptr, fieldP_vptr, lenP_lits, b_sub, b_neq, b_shl, u_not, fill_nil, buildP_eq, bldA_none, splice_eq, env0_eq, ires_eq, iresL_2, iresAll_nil, iresAll_cons, iresOne_tmp, iresOne_cell, valT_eq, pursL_cons, pursL_nil, Store.new, Store.set, ↓reduceIte, arr_eq, arrB_some, callP_eq, boxP_eq, List.take_succ_cons, List.drop_succ_cons, List.drop_nil, List.take_nil, ↓evs_cons, ↓evs_nil, ↓evp_nil, beq_self_eq_true, List.all_cons, List.all_nil, see_eq, and_false, Bool.true_eq_false, bits_i64, Nat.min_def, e_check, s_check, e_win, s_win, e_has, nth_reps, pur_reps, Try.f19, ty3, ty22, ty24, h, h64, hsh, hw1, hin]
    omega
  rw [if_neg (fun hn => hn hin)] at hwm
  obtain ⟨g, hg⟩ : ∃ g : Nat, s = g := ⟨s.toNat, by omega⟩
  subst hg
  simp only [Int.toNat_natCast] at hwm
  have hg2 : g < 9223372036854775808 := by
    generalize 2 ^ rs.length = q at *
    omega
  have hw : ∀ i : Nat, i < rs.length → IntKind.i64.wrap ((i : Int) + 1) = ((i + 1 : Nat) : Int) := fun i g => by rw [wrap64 (by omega) (by omega)]; omega
  simp +contextual (maxSteps := 4000000) only [↓ur_skip, ↓ur_seq, ↓ur_block, ↓ur_region, ↓ur_cond, ↓cont_seq, ↓ops_consN, nY_move, nY_assign, nY_alloc, nY_box, nY_build, nY_load, nY_store, nY_binOp, nY_unOp, nY_fieldAddr, nY_callf, nY_callb, ↓ops_nil, opsIf_some, opsIf_none, opsIf_if', map_if, condC_false, Option.map_some, Option.map_none, Option.bind_some, Option.getD_some, Nat.reduceLT, Bool.false_eq_true, ↓upd_same, ↓upd_ne, Nat.reduceBEq, true_and, and_true, List.getD_cons_zero, List.getD_cons_succ, List.getElem?_cons_zero, List.getElem?_cons_succ, cfg_P, cfg_tab, cfg_muts, cfg_frz, cfg_num, numOf_eq, List.length_map, List.contains_nil, Int.toNat_natCast, decide_true, decide_false, List.lookup_cons, List.lookup_nil, tabOf_cons, tab_v, Bool.and_self, Nat.reduceEqDiff, List.cons_append, List.nil_append, List.append_nil, updO_same, List.length_cons, List.length_nil, Nat.zero_add, Nat.add_zero, List.drop_zero, List.take_zero, Nat.reduceAdd, List.set_cons_zero, Nat.reduceLeDiff, nth_zero, Nat.lt_succ_self, Bool.not_true, not_true_eq_false, st0, Nat.le_refl, cells_int, pur_int, pur_lits, cells_agg, pur_agg, ↓ev_tmp, ↓ev_int, ↓ev_func, ↓iop_move, ↓iop_assign, ↓iop_alloc, ↓iop_box, ↓iop_build, ↓iop_load, ↓iop_store, ↓iop_binOp, ↓iop_unOp, ↓iop_fieldAddr, ↓iop_callv, ↓iop_callb, nrmAll_cons, nrmAll_nil, bi_len, lenM_none, nrm_agg, nrmL_cons, nrmL_nil, nrm_int, nrm1_int, nrm1_lits, pickP_f, pickP_t, loadP_vptr, setCells_agg, storeP_ptr, fieldP_vptr, lenP_lits, b_sub, b_neq, b_shl, u_not, fill_nil, fill_cons, fill1_some, buildP_eq, bldA_none, splice_eq, env0_eq, valT_eq, pursL_cons, pursL_nil, Store.new, Store.set, ↓reduceIte, arr_eq, arrB_some, callP_eq, boxP_eq, List.take_succ_cons, List.drop_succ_cons, List.drop_nil, List.take_nil, ↓evs_cons, ↓evs_nil, ↓evp_cons, ↓evp_nil, beq_self_eq_true, see_eq, and_false, Bool.true_eq_false, bits_i64, Nat.min_def, e_check, s_check, e_win, s_win, e_has, nth_reps, pur_reps, Try.f19, ty3, ty22, ty24, h, h64, hsh, hw1, hin]
  refine ⟨by omega, ?_⟩
  refine loop_cnt [5, 9, 10, 11, 12, 13, 36, 37, 38, 39, 40, 41, 42, 43, 44, 45, 46, 47, 48, 49, 50, 51, 52, 53, 54, 55, 56, 57, 58, 59, 60, 61, 62, 63, 64, 65, 66, 67, 68, 69, 70, 71, 72, 73, 74, 75, 76, 77, 78, 79, 80] rs.length (fun k ρ st' => ρ 36 = I k ∧ ρ 5 = I 0 ∧ badW rs g k = false ∧ st'.obj 0 = some (.arr 0 2 [.agg [I 0, .nils]]) ∧ (∃ p, st'.obj 1 = some (.arr 0 2 [.agg [I st, p]]) ∧ GS st' p 2 4 ((withT rs g k).map repV)) ∧ 2 < st'.next) (.cell _ 1 0 2 4 [.agg [I st, .nils]] 0 1 ?_ ?_ ?_) ?_ ?_
  · simp +contextual (maxSteps := 4000000) only [updO_same, nth_reps, pur_reps, Try.f19]
  · rfl
  · decide
  · simp +contextual (maxSteps := 4000000) only [↓upd_same, ↓upd_ne, Nat.reduceBEq, true_and, and_true, List.length_map, Option.some.injEq, exists_eq_left', PV.agg.injEq, List.cons.injEq, List.cons_append, List.nil_append, List.append_nil, GS_ref, updO_same, updO_ne, List.length_cons, List.length_nil, Nat.zero_add, List.take_zero, Nat.reduceAdd, List.set_cons_zero, nth_zero, IObj.arr.injEq, Nat.lt_succ_self, setCells_agg, splice_eq, Store.new, Store.set, List.take_succ_cons, List.drop_succ_cons, List.drop_nil, Int.cast_ofNat_Int, nth_reps, pur_reps, Try.f19]
    simp [badW, withT]
  · rintro k ρ ⟨ob, M⟩ hk ⟨h36, h5, hb, h0, ⟨p, h1, gn, rfl, h2⟩, hM⟩
    dsimp only at h0 h1 h2 hM
    have n0 : ¬ 0 = M := by omega
    have n1 : ¬ 1 = M := by omega
    have n2 : ¬ 2 = M := by omega
    have m0 : ¬ M = 0 := by omega
    have m1 : ¬ M = 1 := by omega
    have m2 : ¬ M = 2 := by omega
    by_cases hlt : k < rs.length
    · have hk64 : k ≤ 64 := by omega
      cases hgk : g.testBit k
      case true =>
        simp +contextual (maxSteps := 4000000) only [↓ur_skip, ↓ur_seq, ↓ur_block, ↓ur_exit, ↓ur_region, ↓ur_cond, ↓cont_seq, ↓cont_lp, ↓leave_seq, ↓leave_blk, ↓ops_consN, nY_move, nY_assign, nY_alloc, nY_load, nY_store, nY_binOp, nY_indexAddr, nY_callf, ↓ops_nil, opsIf_some, opsIf_none, condC_true, Option.map_some, Option.bind_some, Option.getD_some, Nat.reduceLT, Bool.false_eq_true, ↓upd_same, ↓upd_ne, Nat.reduceBEq, true_and, and_true, cfg_P, cfg_tab, cfg_muts, cfg_frz, cfg_num, numOf_eq, List.length_map, ↓havoc_in, ↓havoc_out, agree_upd, agree_havoc, List.contains_cons, List.contains_nil, Bool.or_false, Bool.or_true, Int.natCast_nonneg, Int.ofNat_lt, Int.toNat_natCast, decide_true, Option.some.injEq, exists_eq_left', PV.int.injEq, PV.agg.injEq, List.cons.injEq, tabOf_cons, tab_v, Bool.and_self, Nat.reduceEqDiff, List.nil_append, List.append_nil, GS_ref, updO_same, updO_ne, List.length_cons, List.length_nil, Nat.zero_add, List.drop_zero, List.take_zero, Nat.reduceAdd, List.set_cons_zero, nth_zero, IObj.arr.injEq, Nat.lt_succ_self, Bool.not_true, not_false_eq_true, Nat.le_refl, pur_int, cells_agg, ↓ev_tmp, ↓ev_int, ↓ev_func, ↓iop_move, ↓iop_assign, ↓iop_alloc, ↓iop_load, ↓iop_store, ↓iop_binOp, ↓iop_indexAddr, idxA_int, ↓iop_callv, nrmAll_cons, nrmAll_nil, nrm_int, pickP_t, loadP_vptr, setCells_agg, storeP_ptr, indexP_lits, b_add, b_lss, splice_eq, valT_eq, pursL_cons, pursL_nil, Store.new, Store.set, ↓reduceIte, arr_eq, arrB_some, callP_eq, beq_eq_false_iff_ne, ne_eq, List.take_succ_cons, List.drop_succ_cons, List.drop_nil, List.take_nil, ↓evs_cons, ↓evs_nil, beq_self_eq_true, see_eq, and_false, Bool.true_eq_false, s_has, nth_reps, pur_reps, Try.f19, ty3, ty22, ty56, ty64, h36, h5, h0, h1, h2, n0, n1, n2, m0, m1, m2, hlt, hg2, hk64, hgk, badW, withT]
        exact ⟨hw k hlt, by simpa using hb, by omega⟩
      have hl := hc.rep k hlt
      have hac : ac rs k < 9223372036854775808 := by omega
      have hand := andI_nat hac hg2
      by_cases hz : ac rs k &&& g = 0
      case neg =>
        have hbs : badW rs g (k + 1) = true := by simp [badW, hgk, hz]
        rw [if_pos (badW_end hbs (n := rs.length) (by omega))] at hwm
        rw [hwm] at hr
        subst hr
        have hz2 : ¬ ((ac rs k &&& g : Nat) : Int) = 0 := by omega
        simp +contextual (maxSteps := 4000000) only [↓ur_skip, ↓ur_seq, ↓ur_block, ↓ur_ret, ↓ur_region, ↓ur_cond, ↓cont_seq, ↓done_nil, ↓done_seq, ↓done_blk, ↓done_lp, ↓ops_consN, nY_move, nY_assign, nY_alloc, nY_build, nY_load, nY_store, nY_binOp, nY_fieldAddr, nY_indexAddr, nY_callf, ↓ops_nil, opsIf_some, opsIf_none, condC_true, condC_false, Option.map_some, Option.bind_some, Option.getD_some, Nat.reduceLT, Bool.false_eq_true, ↓upd_same, ↓upd_ne, Nat.reduceBEq, and_true, List.getElem?_cons_zero, List.getElem?_cons_succ, endQ, cfg_P, cfg_tab, cfg_muts, cfg_frz, cfg_num, numOf_eq, List.map_nil, List.length_map, ↓havoc_in, ↓havoc_out, List.contains_cons, List.contains_nil, Bool.or_false, Bool.or_true, Int.natCast_nonneg, Int.ofNat_lt, Int.toNat_natCast, decide_true, Option.some.injEq, exists_eq_left', tabOf_cons, tab_v, Bool.and_self, Nat.reduceEqDiff, List.nil_append, List.append_nil, updO_same, updO_ne, List.length_cons, List.length_nil, Nat.zero_add, List.drop_zero, List.take_zero, Nat.reduceAdd, List.set_cons_zero, nth_zero, Nat.lt_succ_self, not_false_eq_true, Nat.le_refl, pur_int, isCell_int, isCell_lits, cells_agg, DRx_int, DRx_nils_lits, DRx_agg, DRx_tuple, DRxL_cons, DRxL_nil, ↓ev_tmp, ↓ev_int, ↓ev_func, ↓iop_move, ↓iop_assign, ↓iop_alloc, ↓iop_build, ↓iop_load, ↓iop_store, ↓iop_binOp, ↓iop_fieldAddr, ↓iop_indexAddr, idxA_int, ↓iop_callv, nrmAll_cons, nrmAll_nil, nrm_int, pickP_f, pickP_t, loadP_vptr, loadP_ptr, setCells_agg, storeP_ptr, fieldP_ptr, indexP_lits, b_and, b_neq, b_lss, fill_nil, buildP_eq, bldA_none, splice_eq, ires_eq, iresL_2, iresAll_nil, iresAll_cons, iresOne_tmp, iresOne_cell, valT_eq, pursL_cons, pursL_nil, Store.new, Store.set, ↓reduceIte, arr_eq, arrB_some, callP_eq, beq_eq_false_iff_ne, ne_eq, List.take_succ_cons, List.drop_succ_cons, List.drop_nil, List.take_nil, ↓evs_cons, ↓evs_nil, ↓evp_nil, beq_self_eq_true, List.all_cons, List.all_nil, see_eq, and_false, Bool.true_eq_false, s_has, nth_reps, pur_reps, Try.f19, ty3, ty22, ty24, ty56, ty64, h36, h5, h0, h1, h2, n0, n1, n2, m0, m1, m2, hlt, hg2, hk64, hgk, and_i64, af_at, hl.2.1, hand, hz2]
      have hbs : badW rs g (k + 1) = false := by simp [badW, hgk, hz, hb]
      simp +contextual (maxSteps := 4000000) only [↓ur_skip, ↓ur_seq, ↓ur_block, ↓ur_region, ↓ur_cond, ↓cont_seq, ↓ops_consN, nY_move, nY_assign, nY_alloc, nY_load, nY_store, nY_binOp, nY_fieldAddr, nY_indexAddr, nY_callf, nY_callb, ↓ops_nil, opsIf_some, opsIf_none, condC_true, condC_false, Option.map_some, Option.bind_some, Option.getD_some, Nat.reduceLT, Bool.false_eq_true, ↓upd_same, ↓upd_ne, Nat.reduceBEq, true_and, and_true, List.getElem?_cons_zero, List.getElem?_cons_succ, cfg_P, cfg_tab, cfg_muts, cfg_frz, cfg_num, numOf_eq, List.length_map, ↓havoc_in, ↓havoc_out, List.contains_cons, List.contains_nil, Bool.or_false, Bool.or_true, Int.natCast_nonneg, Int.ofNat_lt, Int.toNat_natCast, decide_true, decide_false, tabOf_cons, tab_v, Bool.and_self, Nat.reduceEqDiff, List.nil_append, List.append_nil, updO_same, List.length_cons, List.length_nil, Nat.zero_add, List.drop_zero, List.take_zero, Nat.reduceAdd, List.set_cons_zero, nth_zero, Nat.lt_succ_self, not_true_eq_false, Nat.le_refl, pur_int, cells_agg, ↓ev_tmp, ↓ev_int, ↓ev_func, ↓iop_move, ↓iop_assign, ↓iop_alloc, ↓iop_load, ↓iop_store, ↓iop_binOp, ↓iop_fieldAddr, ↓iop_indexAddr, idxA_int, ↓iop_callv, ↓iop_callb, nrmAll_cons, nrmAll_nil, bi_len, lenM_none, nrm_int, pickP_f, pickP_t, loadP_vptr, loadP_ptr, setCells_agg, storeP_ptr, fieldP_vptr, fieldP_ptr, indexP_lits, lenP_lits, b_and, b_neq, b_lss, splice_eq, valT_eq, pursL_cons, pursL_nil, Store.new, Store.set, ↓reduceIte, arr_eq, arrB_some, callP_eq, List.take_succ_cons, List.drop_succ_cons, List.drop_nil, List.take_nil, ↓evs_cons, ↓evs_nil, beq_self_eq_true, see_eq, and_false, Bool.true_eq_false, Int.cast_ofNat_Int, s_has, nth_reps, pur_reps, Try.f19, ty3, ty22, ty24, ty56, ty64, h36, h5, h0, h1, h2, n0, n1, n2, m0, m1, m2, hlt, hg2, hk64, hgk, and_i64, af_at, hl.2.1, hand, hz]
      refine loop_cnt [11, 12, 13, 53, 54, 55, 56, 57, 58, 59, 60, 61, 62, 63, 64, 65, 66, 67, 68, 69, 70, 71] rs.length (fun i ρ st' => ρ 53 = I i ∧ ρ 11 = I (sqT (ac rs k) g i : Nat) ∧ ρ 12 = I (atT g i : Nat) ∧ st'.obj 0 = some (.arr 0 2 [.agg [I 0, .nils]]) ∧ st'.obj 1 = some (.arr 0 2 [.agg [I st, .ref 2 gn 0 (withT rs g k).length]]) ∧ st'.obj 2 = some (.arr gn 4 ((withT rs g k).map repV)) ∧ st'.obj M = some (.arr 0 4 [repV (rs.getD k dR)]) ∧ st'.next = M + 1) (.refl _) ?_ ?_
      · simp +contextual (maxSteps := 4000000) only [↓upd_same, ↓upd_ne, Nat.reduceBEq, and_true, List.length_map, Option.some.injEq, PV.agg.injEq, List.cons.injEq, updO_same, updO_ne, IObj.arr.injEq, not_false_eq_true, beq_eq_false_iff_ne, ne_eq, Int.cast_ofNat_Int, nth_reps, pur_reps, Try.f19, h0, h1, h2, n0, n1, n2, m0, m1, m2, af_at, hl.2.1, sqT, atT]
      · rintro i ρ2 ⟨ob2, M2⟩ hi ⟨h53, h11, h12, h02, h12', h22, hm2, hM2⟩
        dsimp only at h02 h12' h22 hm2 hM2
        subst hM2
        have hat := atT_le (g := g) i
        by_cases hilt : i < rs.length
        · have hi64 : i ≤ 64 := by omega
          cases hgi : g.testBit i
          case true =>
            simp +contextual (maxSteps := 4000000) only [↓ur_skip, ↓ur_seq, ↓ur_block, ↓ur_region, ↓ur_cond, ↓cont_seq, ↓cont_blk, ↓cont_lp, ↓ops_consN, nY_move, nY_assign, nY_binOp, nY_unOp, nY_callf, ↓ops_nil, opsIf_some, condC_true, condC_false, Option.map_some, Option.getD_some, Nat.reduceLT, Bool.false_eq_true, ↓upd_same, ↓upd_ne, Nat.reduceBEq, true_and, and_true, cfg_P, cfg_tab, cfg_muts, cfg_frz, ↓havoc_in, ↓havoc_out, agree_upd, agree_havoc, List.contains_cons, List.contains_nil, Bool.or_false, Bool.or_true, Int.ofNat_lt, decide_true, PV.int.injEq, tabOf_cons, tab_v, Bool.and_self, Nat.reduceEqDiff, List.nil_append, List.append_nil, Bool.not_true, pur_int, ↓ev_tmp, ↓ev_int, ↓ev_func, ↓iop_move, ↓iop_assign, ↓iop_binOp, ↓iop_unOp, ↓iop_callv, nrmAll_cons, nrmAll_nil, nrm_int, b_add, b_lss, u_not, valT_eq, pursL_cons, pursL_nil, ↓reduceIte, callP_eq, ↓evs_cons, ↓evs_nil, beq_self_eq_true, false_and, and_false, Bool.true_eq_false, s_has, nth_reps, pur_reps, Try.f19, ty3, ty64, h53, h11, h12, h02, h12', h22, hm2, n0, n1, n2, m0, m1, m2, hilt, hg2, hi64, hgi, sqT, atT]
            exact hw i hilt
          have hbv := bit_val (i := i) hac
          have hsq := sqT_lt (a := ac rs k) (g := g) i
          have hpa := pow1024 (k := atT g i) (by omega)
          have hsa := shl1 (k := atT g i) (by omega)
          have hat64 : atT g i ≤ 64 := by omega
          have hor := orI_nat (a := sqT (ac rs k) g i) (b := 2 ^ atT g i) (by omega) (by omega)
          have hor0 : orI ((sqT (ac rs k) g i : Nat) : Int) 0 = ((sqT (ac rs k) g i : Nat) : Int) := by
            have := orI_nat (a := sqT (ac rs k) g i) (b := 0) (by omega) (by omega)
            simpa using this
          have hw0 : IntKind.i64.wrap (0 * 2 ^ atT g i) = 0 := by rw [Int.zero_mul]; exact wrap64 (by omega) (by omega)
          have hwa : IntKind.i64.wrap (((atT g i : Nat) : Int) + 1) = ((atT g i + 1 : Nat) : Int) := by rw [wrap64 (by omega) (by omega)]; omega
          cases hai : (ac rs k).testBit i <;> rw [hai] at hbv
          · simp +contextual (maxSteps := 4000000) only [↓ur_skip, ↓ur_seq, ↓ur_block, ↓ur_region, ↓ur_cond, ↓cont_seq, ↓cont_blk, ↓cont_lp, ↓ops_consN, nY_move, nY_assign, nY_load, nY_binOp, nY_unOp, nY_fieldAddr, nY_callf, ↓ops_nil, opsIf_some, opsIf_if', map_if, condC_true, Option.map_some, Option.map_none, Option.bind_some, Option.getD_some, Nat.reduceLT, Bool.false_eq_true, ↓upd_same, ↓upd_ne, Nat.reduceBEq, true_and, and_true, List.getElem?_cons_zero, List.getElem?_cons_succ, cfg_P, cfg_tab, cfg_muts, cfg_frz, ↓havoc_in, ↓havoc_out, agree_upd, agree_havoc, List.contains_cons, List.contains_nil, Bool.or_false, Bool.or_true, Int.ofNat_lt, Int.toNat_natCast, decide_true, PV.int.injEq, tabOf_cons, tab_v, Bool.and_self, Nat.reduceEqDiff, List.nil_append, List.append_nil, Nat.zero_add, nth_zero, Nat.lt_succ_self, Bool.not_false, pur_int, cells_agg, ↓ev_tmp, ↓ev_int, ↓ev_func, ↓iop_move, ↓iop_assign, ↓iop_load, ↓iop_binOp, ↓iop_unOp, ↓iop_fieldAddr, ↓iop_callv, nrmAll_cons, nrmAll_nil, nrm_int, pickP_f, loadP_ptr, fieldP_ptr, b_add, b_and, b_or, b_lss, b_shl, b_shr, u_not, valT_eq, pursL_cons, pursL_nil, ↓reduceIte, arr_eq, arrB_some, callP_eq, ↓evs_cons, ↓evs_nil, beq_self_eq_true, see_eq, and_false, Bool.true_eq_false, bits_i64, or_i64, Nat.min_def, s_has, nth_reps, pur_reps, Try.f19, ty3, ty56, ty64, h53, h11, h12, h02, h12', h22, hm2, n0, n1, n2, m0, m1, m2, hilt, hg2, hi64, hgi, hai, and_i64, af_at, hl.2.1, hbv, hat64, hsa, hor, hor0, hw0, hwa, sqT, atT]
            exact ⟨by omega, by omega, hw i hilt⟩
          · simp +contextual (maxSteps := 4000000) only [↓ur_skip, ↓ur_seq, ↓ur_block, ↓ur_region, ↓ur_cond, ↓cont_seq, ↓cont_blk, ↓cont_lp, ↓ops_consN, nY_move, nY_assign, nY_load, nY_binOp, nY_unOp, nY_fieldAddr, nY_callf, ↓ops_nil, opsIf_some, opsIf_if', map_if, condC_true, Option.map_some, Option.map_none, Option.bind_some, Option.getD_some, Nat.reduceLT, Bool.false_eq_true, ↓upd_same, ↓upd_ne, Nat.reduceBEq, true_and, and_true, List.getElem?_cons_zero, List.getElem?_cons_succ, cfg_P, cfg_tab, cfg_muts, cfg_frz, ↓havoc_in, ↓havoc_out, agree_upd, agree_havoc, List.contains_cons, List.contains_nil, Bool.or_false, Bool.or_true, Int.ofNat_lt, Int.toNat_natCast, decide_true, PV.int.injEq, tabOf_cons, tab_v, Bool.and_self, Nat.reduceEqDiff, List.nil_append, List.append_nil, Nat.zero_add, nth_zero, Nat.lt_succ_self, Bool.not_false, pur_int, cells_agg, ↓ev_tmp, ↓ev_int, ↓ev_func, ↓iop_move, ↓iop_assign, ↓iop_load, ↓iop_binOp, ↓iop_unOp, ↓iop_fieldAddr, ↓iop_callv, nrmAll_cons, nrmAll_nil, nrm_int, pickP_f, loadP_ptr, fieldP_ptr, b_add, b_and, b_or, b_lss, b_shl, b_shr, u_not, valT_eq, pursL_cons, pursL_nil, ↓reduceIte, arr_eq, arrB_some, callP_eq, ↓evs_cons, ↓evs_nil, beq_self_eq_true, see_eq, and_false, Bool.true_eq_false, bits_i64, or_i64, Nat.min_def, s_has, nth_reps, pur_reps, Try.f19, ty3, ty56, ty64, h53, h11, h12, h02, h12', h22, hm2, n0, n1, n2, m0, m1, m2, hilt, hg2, hi64, hgi, hai, and_i64, af_at, hl.2.1, hbv, hat64, hsa, hor, hor0, hw0, hwa, sqT, atT]
            exact ⟨by omega, by omega, hw i hilt⟩
        · have e : i = rs.length := by omega
          subst e
          have hwl := withT_len (rs := rs) (g := g) k
          simp +contextual (maxSteps := 4000000) only [↓ur_seq, ↓ur_exit, ↓ur_region, ↓ur_cond, ↓cont_seq, ↓cont_blk, ↓cont_lp, ↓leave_seq, ↓leave_blk, ↓leave_lp, ↓ops_consN, nY_move, nY_buildSlice, nY_load, nY_store, nY_binOp, nY_fieldAddr, nY_callb, ↓ops_nil, opsIf_some, opsIf_none, opsIf_if, condC_false, Option.map_some, Option.bind_some, Option.getD_some, Nat.reduceLT, Bool.false_eq_true, ↓upd_same, ↓upd_ne, Nat.reduceBEq, true_and, and_true, List.getElem?_cons_zero, List.getElem?_cons_succ, cfg_P, cfg_muts, cfg_frz, cfg_num, numOf_eq, List.length_map, ↓havoc_in, ↓havoc_out, agree_upd, List.contains_cons, List.contains_nil, Bool.or_false, Bool.or_true, Int.ofNat_lt, decide_false, Option.some.injEq, exists_eq_left', PV.int.injEq, PV.agg.injEq, List.cons.injEq, List.cons_append, List.nil_append, List.append_nil, GS_ref, updO_same, updO_ne, List.length_cons, List.length_nil, Nat.zero_add, List.drop_zero, List.take_zero, Nat.not_succ_le_self, Nat.reduceAdd, List.replicate_succ, List.replicate_zero, List.set_cons_zero, Nat.reduceMul, Nat.reduceLeDiff, nth_zero, IObj.arr.injEq, Nat.lt_irrefl, Nat.lt_succ_self, reduceCtorEq, not_false_eq_true, take_map_len, or_false, Nat.le_refl, cells_int, cells_ref, cells_agg, ↓ev_tmp, ↓ev_int, ↓iop_move, ↓iop_buildSlice, ↓iop_load, ↓iop_store, ↓iop_binOp, ↓iop_fieldAddr, ↓iop_callb, bi_append, pickP_f, pickP_t, loadP_ptr, setCells_agg, storeP_ptr, fieldP_ptr, elemsP_lits, appendP_ref, b_add, b_lss, bel_nil, bel_cons, splice_eq, Store.set, ↓reduceIte, arr_eq, arrB_some, bslP_eq, beq_eq_false_iff_ne, ne_eq, List.take_succ_cons, List.drop_succ_cons, List.drop_nil, List.take_nil, ↓evs_cons, ↓evs_nil, ↓evp_cons, ↓evp_nil, beq_self_eq_true, see_eq, nth_reps, pur_reps, Try.f19, ty3, ty22, ty24, ty56, h53, h11, h12, h02, h12', h22, hm2, n0, n1, n2, m0, m1, m2, h36, tk_at, du_at, ch_at, af_at, hl.2.1]
          refine ⟨by omega, ?_, hw k hlt, h5, hbs, ⟨by simp [withT, hgk], by simp [withT, hgk, withR]⟩, by omega⟩
          rw [agree_havoc_sub (by decide +kernel)]; simp +contextual (maxSteps := 4000000) only [Nat.reduceBEq, agree_upd, agree_havoc, List.contains_cons, List.contains_nil, Bool.or_false, Bool.or_true, beq_self_eq_true, nth_reps, pur_reps, Try.f19]
    · have e : k = rs.length := by omega
      subst e
      have hwl := withT_len (rs := rs) (g := g) rs.length
      rw [hb, if_neg (by simp)] at hwm
      rw [hwm] at hr
      subst hr
      simp +contextual (maxSteps := 4000000) only [↓ur_seq, ↓ur_exit, ↓ur_ret, ↓ur_region, ↓ur_cond, ↓cont_seq, ↓leave_seq, ↓leave_blk, ↓leave_lp, ↓done_nil, ↓ops_consN, nY_assign, nY_load, nY_store, nY_binOp, ↓ops_nil, opsIf_some, opsIf_none, condC_false, Option.map_some, Option.bind_some, Option.getD_some, Nat.reduceLT, Bool.false_eq_true, ↓upd_same, ↓upd_ne, Nat.reduceBEq, true_and, and_true, endQ, cfg_P, cfg_frz, List.length_map, ↓havoc_in, ↓havoc_out, List.contains_cons, List.contains_nil, Bool.or_false, Bool.or_true, Int.ofNat_lt, decide_false, Option.some.injEq, exists_eq_left', Bool.and_self, List.nil_append, List.append_nil, updO_same, updO_ne, List.length_cons, List.length_nil, Nat.zero_add, List.drop_zero, List.take_zero, Nat.reduceAdd, List.set_cons_zero, nth_zero, Prod.mk.injEq, Nat.lt_irrefl, Nat.lt_succ_self, take_map_len, Nat.le_refl, isCell_int, isCell_lits, cells_agg, DRx_int, DRx_ref, DRx_agg, DRx_tuple, DRxL_cons, DRxL_nil, ↓ev_tmp, ↓ev_int, ↓iop_assign, ↓iop_load, ↓iop_store, ↓iop_binOp, pickP_t, loadP_ptr, setCells_agg, storeP_ptr, b_lss, splice_eq, ires_eq, iresL_2, iresAll_nil, iresAll_cons, iresOne_tmp, iresOne_cell, Store.set, ↓reduceIte, arr_eq, arrB_some, List.take_succ_cons, List.drop_succ_cons, List.drop_nil, List.take_nil, beq_self_eq_true, List.all_cons, List.all_nil, see_eq, nth_reps, pur_reps, Try.f19, ty24, h36, h5, h0, h1, h2]
theorem o_With : O_With := k_With c_With
end Sim
