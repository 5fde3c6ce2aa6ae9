/- What functions of this seat compute, by values: contracts (lemmas of the statement's proof, under the conditions that each names). -/
import Derived.Test.YtpdaiflnibekaaaQV
namespace Sim
open Go Go.Proofs
set_option maxRecDepth 10000
set_option maxHeartbeats 2000000
set_option linter.unusedVariables false
set_option linter.unusedSimpArgs false
attribute [local congr] opsIf_congr condC_congr guardC_congr grd_congr pick3_congr obind_congr omap_congr

theorem mixed : Try.prog.follows .mixedOrders = true := by kernel_rfl
noncomputable def A_has : (Nat) × (Nat) → List PV := fun (s, k) => [I s, I k]
noncomputable def R_has : (Nat) × (Nat) → PV := fun (s, k) => B (s.testBit k)
def H_has : (Nat) × (Nat) → Prop := fun (s, k) => s < 9223372036854775808 ∧ k ≤ 64
noncomputable def e_has : Nat × Ent := (41, .v (specOf A_has R_has H_has))
theorem j_has : ∀ i j, A_has i = A_has j → i = j := by
  rintro ⟨s₁, k₁⟩ ⟨s₂, k₂⟩ h
  simp only [A_has, List.cons.injEq, and_true, PV.lits.injEq, PV.int.injEq, PV.bool.injEq, PV.str.injEq, PV.agg.injEq, PV.func.injEq, PV.vptr.injEq, true_and, List.map_nil, inj_ints, inj_strs, inj_reps] at h
  simp [Prod.ext_iff, h] <;> omega
theorem s_has (s : Nat) (k : Nat) : specOf A_has R_has H_has [I s, I k] = @ite (Option (PV)) (s < 9223372036854775808 ∧ k ≤ 64) (Classical.propDecidable _) (some (B (s.testBit k))) none := specOf_if j_has (s, k)
def C_has : Prop := ∀ (s : Nat) (k : Nat) (h : s < 9223372036854775808 ∧ k ≤ 64) , VC Try.prog 41 [I s, I k] (B (s.testBit k))
def O_has : Prop := EntOK Try.prog e_has.1 e_has.2
theorem k_has (c : C_has) : O_has := specOf_ok fun ⟨s, k⟩ h => c s k h
theorem c_has : C_has := by
  rintro s k ⟨h1, h2⟩
  refine vc_ofU mixed (l := []) (eok_nil) [] []  Try.func41 rfl (by decide +kernel) (N := 10) rfl (by simp) rfl (by kernel_rfl) fun hs => ?_
  simp only [smallL, PV.small, List.length_map, and_true, true_and] at hs
  have hb := has_nat h1 h2
  rw [Nat.min_def] at hb
  simp +contextual (maxSteps := 4000000) only [↓ur_seq, ↓ur_ret, ↓ur_region, ↓cont_seq, ↓done_nil, ↓ops_consN, nY_move, nY_assign, nY_binOp, ↓ops_nil, opsIf_some, opsIf_if', map_if, Option.map_some, Option.map_none, Option.bind_some, Nat.reduceLT, ↓upd_same, ↓upd_ne, Nat.reduceBEq, true_and, and_true, List.getD_cons_zero, List.getD_cons_succ, endQ, cfg_P, Int.toNat_natCast, Option.some.injEq, exists_eq_left', Nat.lt_succ_self, st0, DRx_bool, ↓ev_tmp, ↓ev_int, ↓ev_bool, ↓iop_move, ↓iop_assign, ↓iop_binOp, b_and, b_eql, b_shr, env0_eq, ires_eq, iresL_1, iresAll_nil, iresAll_cons, iresOne_tmp, bits_i64, Nat.min_def, nth_reps, pur_reps, Try.f41, and_i64, hb]
  omega
theorem o_has : O_has := k_has c_has

noncomputable def A_win : (Int) × (Int) × (Int) → List PV := fun (n, lo, hi) => [I n, I lo, I hi]
noncomputable def R_win : (Int) × (Int) × (Int) → PV := fun (n, lo, hi) => B (decide (lo ≤ n ∧ n ≤ hi))
def H_win : (Int) × (Int) × (Int) → Prop := fun (n, lo, hi) => True
noncomputable def e_win : Nat × Ent := (40, .v (specOf A_win R_win H_win))
theorem j_win : ∀ i j, A_win i = A_win j → i = j := by
  rintro ⟨n₁, lo₁, hi₁⟩ ⟨n₂, lo₂, hi₂⟩ h
  simp only [A_win, List.cons.injEq, and_true, PV.lits.injEq, PV.int.injEq, PV.bool.injEq, PV.str.injEq, PV.agg.injEq, PV.func.injEq, PV.vptr.injEq, true_and, List.map_nil, inj_ints, inj_strs, inj_reps] at h
  simp [Prod.ext_iff, h] <;> omega
theorem s_win (n : Int) (lo : Int) (hi : Int) : specOf A_win R_win H_win [I n, I lo, I hi] = some (B (decide (lo ≤ n ∧ n ≤ hi))) := specOf_app j_win (i := (n, lo, hi)) trivial
def C_win : Prop := ∀ (n : Int) (lo : Int) (hi : Int) , VC Try.prog 40 [I n, I lo, I hi] (B (decide (lo ≤ n ∧ n ≤ hi)))
def O_win : Prop := EntOK Try.prog e_win.1 e_win.2
theorem k_win (c : C_win) : O_win := specOf_ok fun ⟨n, lo, hi⟩ h => c n lo hi
theorem c_win : C_win := by
  intro n lo hi
  refine vc_ofU mixed (l := []) (eok_nil) [] []  Try.func40 rfl (by decide +kernel) (N := 15) rfl (by simp) rfl (by kernel_rfl) fun hs => ?_
  simp only [smallL, PV.small, List.length_map, and_true, true_and] at hs
  simp +contextual (maxSteps := 4000000) only [↓ur_seq, ↓ur_ret, ↓ur_region, ↓cont_seq, ↓done_nil, ↓ops_consN, ↓ops_guardN, nY_move, nY_assign, nY_pick, nY_binOp, ↓ops_nil, opsIf_some, guardC_tt, guardC_ft, Option.map_some, Option.bind_some, Nat.reduceLT, Bool.false_eq_true, ↓upd_same, ↓upd_ne, Nat.reduceBEq, true_and, and_true, List.getD_cons_zero, List.getD_cons_succ, List.getElem?_toArray, List.getElem?_cons_zero, List.getElem?_cons_succ, endQ, cfg_P, decide_true, decide_false, Option.some.injEq, exists_eq_left', Nat.lt_succ_self, st0, DRx_bool, ↓ev_tmp, ↓ev_bool, ↓guardP_eq, grd_some, ↓iop_move, ↓iop_assign, ↓pick3_bool, ↓iop_pick, ↓iop_binOp, b_leq, b_geq, env0_eq, ires_eq, iresL_1, iresAll_nil, iresAll_cons, iresOne_tmp, ↓reduceIte, guardC_td, implies_true, false_and, nth_reps, pur_reps, Try.f40]
  all_goals grind
theorem o_win : O_win := k_win c_win

noncomputable def A_in8 : (Nat) × (Nat) → List PV := fun (s, k) => [I s, I k]
noncomputable def R_in8 : (Nat) × (Nat) → PV := fun (s, k) => B (s.testBit k)
def H_in8 : (Nat) × (Nat) → Prop := fun (s, k) => s < 9223372036854775808 ∧ k ≤ 64
noncomputable def e_in8 : Nat × Ent := (55, .v (specOf A_in8 R_in8 H_in8))
theorem j_in8 : ∀ i j, A_in8 i = A_in8 j → i = j := by
  rintro ⟨s₁, k₁⟩ ⟨s₂, k₂⟩ h
  simp only [A_in8, List.cons.injEq, and_true, PV.lits.injEq, PV.int.injEq, PV.bool.injEq, PV.str.injEq, PV.agg.injEq, PV.func.injEq, PV.vptr.injEq, true_and, List.map_nil, inj_ints, inj_strs, inj_reps] at h
  simp [Prod.ext_iff, h] <;> omega
theorem s_in8 (s : Nat) (k : Nat) : specOf A_in8 R_in8 H_in8 [I s, I k] = @ite (Option (PV)) (s < 9223372036854775808 ∧ k ≤ 64) (Classical.propDecidable _) (some (B (s.testBit k))) none := specOf_if j_in8 (s, k)
def C_in8 : Prop := ∀ (s : Nat) (k : Nat) (h : s < 9223372036854775808 ∧ k ≤ 64) , VC Try.prog 55 [I s, I k] (B (s.testBit k))
def O_in8 : Prop := EntOK Try.prog e_in8.1 e_in8.2
theorem k_in8 (c : C_in8) : O_in8 := specOf_ok fun ⟨s, k⟩ h => c s k h
theorem c_in8 : C_in8 := by
  rintro s k ⟨h1, h2⟩
  refine vc_ofU mixed (l := []) (eok_nil) [] []  Try.func55 rfl (by decide +kernel) (N := 16) rfl (by simp) rfl (by kernel_rfl) fun hs => ?_
  simp only [smallL, PV.small, List.length_map, and_true, true_and] at hs
  generalize hr : s.testBit k = r
  simp +contextual (maxSteps := 4000000) only [↓ur_seq, ↓ur_block, ↓ur_region, ↓cont_seq, ↓ops_consN, nY_assign, ↓ops_nil, opsIf_some, Nat.reduceLT, true_and, st0, ↓ev_int, ↓ev_bool, ↓iop_assign, nth_reps, pur_reps, Try.f55]
  refine loop_cnt [0, 5, 6, 7, 8, 9, 10, 11, 12] k (fun i ρ st => ρ 0 = I ((s / 2 ^ i : Nat) : Int) ∧ ρ 5 = I i) (.refl _) ?_ ?_
  · simp +contextual (maxSteps := 4000000) only [↓upd_same, ↓upd_ne, Nat.reduceBEq, true_and, and_true, List.getD_cons_zero, PV.int.injEq, env0_eq, Int.natCast_inj, Int.cast_ofNat_Int, nth_reps, pur_reps, Try.f55]
    simp
  · rintro i ρ ⟨ob, M⟩ hi ⟨h0, h5⟩
    simp +contextual (maxSteps := 4000000) only [↓ur_skip, ↓ur_seq, ↓ur_block, ↓ur_exit, ↓ur_ret, ↓ur_region, ↓ur_cond, ↓cont_seq, ↓cont_blk, ↓cont_lp, ↓leave_seq, ↓leave_blk, ↓leave_lp, ↓done_nil, ↓ops_consN, nY_move, nY_assign, nY_binOp, ↓ops_nil, opsIf_some, Option.map_some, Option.bind_some, Nat.reduceLT, ↓upd_same, ↓upd_ne, Nat.reduceBEq, true_and, List.getD_cons_zero, List.getD_cons_succ, endQ, cfg_P, ↓havoc_in, ↓havoc_out, agree_upd, agree_havoc, List.contains_cons, List.contains_nil, Bool.or_false, Bool.or_true, Int.ofNat_lt, decide_true, decide_false, Option.some.injEq, exists_eq_left', PV.int.injEq, Nat.lt_succ_self, Int.reduceEq, DRx_bool, ↓ev_tmp, ↓ev_int, ↓iop_move, ↓iop_assign, ↓iop_binOp, b_add, b_quo, b_rem, b_eql, b_lss, env0_eq, ires_eq, iresL_1, iresAll_nil, iresAll_cons, iresOne_tmp, ↓reduceIte, condC_d, beq_self_eq_true, nth_reps, pur_reps, Try.f55, h0, h5]
    rw [Nat.pow_succ, ← Nat.div_div_eq_div_mul]
    have hlt : s / 2 ^ i ≤ s := Nat.div_le_self _ _
    have hbb := @bit_one s i
    rw [Nat.and_one_is_mod] at hbb
    generalize s / 2 ^ i = q at *
    refine ⟨fun h => ⟨?_, ?_⟩, fun h => ?_⟩
    · rw [Int.tdiv_eq_ediv_of_nonneg (by omega), wrap64 (by omega) (by omega)]; omega
    · rw [wrap64 (by omega) (by omega)]; omega
    · have e : i = k := by omega
      subst e
      rw [← hr, Int.tmod_eq_emod_of_nonneg (by omega)]
      cases hb : s.testBit i <;> simp [hb] at hbb ⊢ <;> omega
theorem o_in8 : O_in8 := k_in8 c_in8

noncomputable def A_in : (Nat) × (Nat) → List PV := fun (s, k) => [I s, I k]
noncomputable def R_in : (Nat) × (Nat) → PV := fun (s, k) => B (s.testBit k)
def H_in : (Nat) × (Nat) → Prop := fun (s, k) => s < 9223372036854775808 ∧ k ≤ 64
noncomputable def e_in : Nat × Ent := (39, .v (specOf A_in R_in H_in))
theorem j_in : ∀ i j, A_in i = A_in j → i = j := by
  rintro ⟨s₁, k₁⟩ ⟨s₂, k₂⟩ h
  simp only [A_in, List.cons.injEq, and_true, PV.lits.injEq, PV.int.injEq, PV.bool.injEq, PV.str.injEq, PV.agg.injEq, PV.func.injEq, PV.vptr.injEq, true_and, List.map_nil, inj_ints, inj_strs, inj_reps] at h
  simp [Prod.ext_iff, h] <;> omega
theorem s_in (s : Nat) (k : Nat) : specOf A_in R_in H_in [I s, I k] = @ite (Option (PV)) (s < 9223372036854775808 ∧ k ≤ 64) (Classical.propDecidable _) (some (B (s.testBit k))) none := specOf_if j_in (s, k)
def C_in : Prop := ∀ (s : Nat) (k : Nat) (h : s < 9223372036854775808 ∧ k ≤ 64) , VC Try.prog 39 [I s, I k] (B (s.testBit k))
def O_in : Prop := EntOK Try.prog e_in.1 e_in.2
theorem k_in (c : C_in) : O_in := specOf_ok fun ⟨s, k⟩ h => c s k h
theorem c_in : C_in := by
  rintro s k ⟨h1, h2⟩
  refine vc_ofU mixed (l := [e_in8]) ((eok_cons o_in8 eok_nil)) [] []  Try.func39 rfl (by decide +kernel) (N := 8) rfl (by simp) rfl (by kernel_rfl) fun hs => ?_
  simp only [smallL, PV.small, List.length_map, and_true, true_and] at hs
  generalize hr : s.testBit k = r
  simp +contextual (maxSteps := 4000000) only [↓ur_seq, ↓ur_ret, ↓ur_region, ↓cont_seq, ↓done_nil, ↓ops_consN, nY_move, nY_assign, nY_callf, ↓ops_nil, opsIf_some, opsIf_if, map_if, Option.map_some, Option.map_none, Option.bind_some, Option.getD_some, Nat.reduceLT, Bool.false_eq_true, ↓upd_same, ↓upd_ne, Nat.reduceBEq, true_and, List.getD_cons_zero, List.getD_cons_succ, endQ, cfg_P, cfg_tab, cfg_muts, cfg_frz, List.contains_nil, Option.some.injEq, exists_eq_left', tabOf_cons, tab_v, Bool.and_self, List.nil_append, List.append_nil, Nat.lt_succ_self, st0, pur_int, DRx_bool, ↓ev_tmp, ↓ev_bool, ↓ev_func, ↓iop_move, ↓iop_assign, ↓iop_callv, nrmAll_cons, nrmAll_nil, nrm_int, env0_eq, ires_eq, iresL_1, iresAll_nil, iresAll_cons, iresOne_tmp, valT_eq, pursL_cons, pursL_nil, ↓reduceIte, callP_eq, ↓evs_cons, ↓evs_nil, and_false, Bool.true_eq_false, e_in8, s_in8, nth_reps, pur_reps, Try.f39, ty3]
  exact ⟨⟨h1, h2⟩, hr⟩
theorem o_in : O_in := k_in c_in

noncomputable def A_bit : Nat → List PV := fun k => [I k]
noncomputable def R_bit : Nat → PV := fun k => I ((2 ^ k : Nat) : Int)
def H_bit : Nat → Prop := fun k => k ≤ 60
noncomputable def e_bit : Nat × Ent := (44, .v (specOf A_bit R_bit H_bit))
theorem j_bit : ∀ i j, A_bit i = A_bit j → i = j := by
  rintro k₁ k₂ h
  simp only [A_bit, List.cons.injEq, and_true, PV.lits.injEq, PV.int.injEq, PV.bool.injEq, PV.str.injEq, PV.agg.injEq, PV.func.injEq, PV.vptr.injEq, true_and, List.map_nil, inj_ints, inj_strs, inj_reps] at h
  first | exact h | omega
theorem s_bit (k : Nat) : specOf A_bit R_bit H_bit [I k] = @ite (Option (PV)) (k ≤ 60) (Classical.propDecidable _) (some (I ((2 ^ k : Nat) : Int))) none := specOf_if j_bit k
def C_bit : Prop := ∀ (k : Nat) (h : k ≤ 60) , VC Try.prog 44 [I k] (I ((2 ^ k : Nat) : Int))
def O_bit : Prop := EntOK Try.prog e_bit.1 e_bit.2
theorem k_bit (c : C_bit) : O_bit := specOf_ok fun k h => c k h
theorem c_bit : C_bit := by
  rintro k h1
  refine vc_ofU mixed (l := []) (eok_nil) [] []  Try.func44 rfl (by decide +kernel) (N := 13) rfl (by simp) rfl (by kernel_rfl) fun hs => ?_
  simp only [smallL, PV.small, List.length_map, and_true, true_and] at hs
  generalize hr : 2 ^ k = r
  simp +contextual (maxSteps := 4000000) only [↓ur_seq, ↓ur_block, ↓ur_region, ↓cont_seq, ↓ops_consN, nY_assign, ↓ops_nil, opsIf_some, Nat.reduceLT, true_and, st0, ↓ev_int, ↓iop_assign, nth_reps, pur_reps, Try.f44]
  refine loop_cnt [3, 4, 5, 6, 7, 8, 9, 10, 11] k (fun i ρ st => ρ 3 = I ((2 ^ i : Nat) : Int) ∧ ρ 4 = I i) (.refl _) ?_ ?_
  · simp +contextual (maxSteps := 4000000) only [↓upd_same, ↓upd_ne, Nat.reduceBEq, true_and, and_true, PV.int.injEq, Int.cast_ofNat_Int, nth_reps, pur_reps, Try.f44]
    simp
  · rintro i ρ ⟨ob, M⟩ hi ⟨h3, h4⟩
    simp +contextual (maxSteps := 4000000) only [↓ur_skip, ↓ur_seq, ↓ur_block, ↓ur_exit, ↓ur_ret, ↓ur_region, ↓ur_cond, ↓cont_seq, ↓cont_blk, ↓cont_lp, ↓leave_seq, ↓leave_blk, ↓leave_lp, ↓done_nil, ↓ops_consN, nY_move, nY_assign, nY_binOp, ↓ops_nil, opsIf_some, Option.map_some, Option.bind_some, Nat.reduceLT, ↓upd_same, ↓upd_ne, Nat.reduceBEq, true_and, List.getD_cons_zero, endQ, cfg_P, ↓havoc_in, ↓havoc_out, agree_upd, agree_havoc, List.contains_cons, List.contains_nil, Bool.or_false, Bool.or_true, Int.ofNat_lt, decide_true, decide_false, Option.some.injEq, exists_eq_left', PV.int.injEq, Nat.lt_succ_self, DRx_int, ↓ev_tmp, ↓ev_int, ↓iop_move, ↓iop_assign, ↓iop_binOp, b_add, b_mul, b_lss, env0_eq, ires_eq, iresL_1, iresAll_nil, iresAll_cons, iresOne_tmp, ↓reduceIte, Int.natCast_inj, condC_d, beq_self_eq_true, nth_reps, pur_reps, Try.f44, h3, h4]
    rw [Nat.pow_succ]
    have hp := pow_le 60 (Nat.le_trans hi h1)
    refine ⟨fun h => ⟨?_, ?_⟩, fun h => ?_⟩
    · generalize 2 ^ i = q at *
      rw [wrap64 (by omega) (by omega)]; omega
    · rw [wrap64 (by omega) (by omega)]; omega
    · have e : i = k := by omega
      subst e; rw [hr]
theorem o_bit : O_bit := k_bit c_bit

/-- a is part of b, as far as the first ten go. -/
def sub10 (a b : Nat) : Nat → Bool
  | 0 => true
  | k + 1 => sub10 a b k && (!a.testBit k || b.testBit k)
theorem sub10_false {a b i : Nat} (h : sub10 a b i = false) : ∀ {n}, i ≤ n → sub10 a b n = false := by
  intro n hn
  obtain ⟨m, rfl⟩ : ∃ m, n = i + m := ⟨n - i, by omega⟩
  clear hn
  induction m with
  | zero => exact h
  | succ m ih => show (sub10 a b (i + m) && _) = false; rw [ih]; rfl
theorem sub10_iff {a b n : Nat} : sub10 a b n = true ↔ ∀ i, i < n → a.testBit i = true → b.testBit i = true := by
  induction n with
  | zero => simp [sub10]
  | succ n ih =>
    simp only [sub10, Bool.and_eq_true, ih, Bool.or_eq_true, Bool.not_eq_true']
    constructor
    · rintro ⟨h1, h2⟩ i hi ha
      by_cases e : i = n
      · subst e; rcases h2 with h2 | h2
        · rw [h2] at ha; cases ha
        · exact h2
      · exact h1 i (by omega) ha
    · intro h
      refine ⟨fun i hi => h i (by omega), ?_⟩
      cases ha : a.testBit n with
      | false => exact .inl rfl
      | true => exact .inr (h n (by omega) ha)
theorem sub10_sub {a b : Nat} (ha : a < 1024) : sub10 a b 10 = sub a b := by
  have : sub10 a b 10 = true ↔ sub a b = true := by
    rw [sub10_iff, sub_iff]
    refine ⟨fun h i hi => h i ?_ hi, fun h i _ hi => h i hi⟩
    rcases Nat.lt_or_ge i 10 with g | g
    · exact g
    · rw [Nat.testBit_lt_two_pow (Nat.lt_of_lt_of_le ha (pow_le (k := 10) i g))] at hi; cases hi
  cases h1 : sub10 a b 10 <;> cases h2 : sub a b <;> simp [h1, h2] at this ⊢
noncomputable def A_rwin : (Nat) × (Nat) → List PV := fun (a, b) => [I a, I b]
noncomputable def R_rwin : (Nat) × (Nat) → PV := fun (a, b) => B (sub a b)
def H_rwin : (Nat) × (Nat) → Prop := fun (a, b) => a < 1024 ∧ b < 9223372036854775808
noncomputable def e_rwin : Nat × Ent := (43, .v (specOf A_rwin R_rwin H_rwin))
theorem j_rwin : ∀ i j, A_rwin i = A_rwin j → i = j := by
  rintro ⟨a₁, b₁⟩ ⟨a₂, b₂⟩ h
  simp only [A_rwin, List.cons.injEq, and_true, PV.lits.injEq, PV.int.injEq, PV.bool.injEq, PV.str.injEq, PV.agg.injEq, PV.func.injEq, PV.vptr.injEq, true_and, List.map_nil, inj_ints, inj_strs, inj_reps] at h
  simp [Prod.ext_iff, h] <;> omega
theorem s_rwin (a : Nat) (b : Nat) : specOf A_rwin R_rwin H_rwin [I a, I b] = @ite (Option (PV)) (a < 1024 ∧ b < 9223372036854775808) (Classical.propDecidable _) (some (B (sub a b))) none := specOf_if j_rwin (a, b)
def C_rwin : Prop := ∀ (a : Nat) (b : Nat) (h : a < 1024 ∧ b < 9223372036854775808) , VC Try.prog 43 [I a, I b] (B (sub a b))
def O_rwin : Prop := EntOK Try.prog e_rwin.1 e_rwin.2
theorem k_rwin (c : C_rwin) : O_rwin := specOf_ok fun ⟨a, b⟩ h => c a b h
theorem c_rwin : C_rwin := by
  rintro a b ⟨h1, h2⟩
  refine vc_ofU mixed (l := [e_in]) ((eok_cons o_in eok_nil)) [] []  Try.func43 rfl (by decide +kernel) (N := 23) rfl (by simp) rfl (by kernel_rfl) fun hs => ?_
  simp only [smallL, PV.small, List.length_map, and_true, true_and] at hs
  rw [← sub10_sub h1]
  generalize hr : sub10 a b 10 = r
  simp +contextual (maxSteps := 4000000) only [↓ur_seq, ↓ur_block, ↓ur_region, ↓cont_seq, ↓ops_consN, nY_assign, ↓ops_nil, opsIf_some, Nat.reduceLT, true_and, st0, ↓ev_int, ↓ev_bool, ↓iop_assign, e_in, nth_reps, pur_reps, Try.f43]
  refine loop_cnt [4, 5, 6, 7, 8, 9, 10, 11, 12, 13, 14, 15, 16, 17, 18, 19, 20, 21, 22] 10 (fun i ρ st => ρ 5 = I i ∧ sub10 a b i = true) (.refl _) ?_ ?_
  · simp +contextual (maxSteps := 4000000) only [↓upd_same, true_and, Int.cast_ofNat_Int, nth_reps, pur_reps, Try.f43]
    rfl
  · rintro i ρ ⟨ob, M⟩ hi ⟨h5, hk⟩
    have hs : sub10 a b (i + 1) = (sub10 a b i && (!a.testBit i || b.testBit i)) := rfl
    rw [hk] at hs
    have hend : ¬ i < 10 → true = r := fun g => by
      have e : i = 10 := by omega
      subst e; rw [← hr, hk]
    have hw : i < 10 → IntKind.i64.wrap ((i : Int) + 1) = ((i + 1 : Nat) : Int) := fun g => by rw [wrap64 (by omega) (by omega)]; omega
    cases ha : a.testBit i <;> cases hb : b.testBit i <;> rw [ha, hb] at hs <;> simp +contextual (maxSteps := 4000000) only [↓ur_skip, ↓ur_seq, ↓ur_block, ↓ur_exit, ↓ur_ret, ↓ur_region, ↓ur_cond, ↓cont_seq, ↓cont_blk, ↓cont_lp, ↓leave_seq, ↓leave_blk, ↓leave_lp, ↓done_nil, ↓done_seq, ↓done_blk, ↓done_lp, ↓ops_consN, ↓ops_guardN, nY_move, nY_assign, nY_pick, nY_binOp, nY_unOp, nY_callf, ↓ops_nil, opsIf_some, opsIf_if, map_if, condC_true, condC_false, guardC_tt, guardC_ft, Option.map_some, Option.map_none, Option.bind_some, Option.getD_some, Nat.reduceLT, Bool.false_eq_true, ↓upd_same, ↓upd_ne, Nat.reduceBEq, true_and, and_true, List.getD_cons_zero, List.getD_cons_succ, List.getElem?_toArray, List.getElem?_cons_zero, List.getElem?_cons_succ, endQ, cfg_P, cfg_tab, cfg_muts, cfg_frz, ↓havoc_in, ↓havoc_out, agree_upd, agree_havoc, List.contains_cons, List.contains_nil, Bool.or_false, Bool.or_true, decide_true, decide_false, Option.some.injEq, exists_eq_left', PV.int.injEq, tabOf_cons, tab_v, Bool.and_self, Bool.true_and, List.nil_append, List.append_nil, Nat.lt_succ_self, Bool.not_true, Bool.not_false, pur_int, DRx_bool, ↓ev_tmp, ↓ev_int, ↓ev_bool, ↓ev_func, ↓guardP_eq, grd_some, ↓iop_move, ↓iop_assign, ↓pick3_bool, ↓iop_pick, ↓iop_binOp, ↓iop_unOp, ↓iop_callv, nrmAll_cons, nrmAll_nil, nrm_int, b_add, b_lss, u_not, env0_eq, ires_eq, iresL_1, iresAll_nil, iresAll_cons, iresOne_tmp, valT_eq, pursL_cons, pursL_nil, ↓reduceIte, callP_eq, condC_d, ↓evs_cons, ↓evs_nil, beq_self_eq_true, and_false, Bool.true_eq_false, s_in, nth_reps, pur_reps, Try.f43, ty3, h5, ha, hb, hs]
    all_goals (repeat' (first | apply And.intro | intro))
    all_goals first | omega | exact hw (by omega) | exact hend (by omega) | (rw [← hr]; exact (sub10_false hs (by omega)).symm)
theorem o_rwin : O_rwin := k_rwin c_rwin

/-! Sums over a set. -/
def sumT (f : Nat → Int) (s : Nat) : Nat → Int
  | 0 => 0
  | k + 1 => if s.testBit k = true then sumT f s k + f k else sumT f s k
theorem sumT_bound {f : Nat → Int} {s m : Nat} {n : Nat} (h : ∀ k, k < n → 0 ≤ f k ∧ f k ≤ m) : ∀ k, k ≤ n → 0 ≤ sumT f s k ∧ sumT f s k ≤ k * m
  | 0, _ => by simp [sumT]
  | k + 1, hk => by
    have ih := sumT_bound (s := s) h k (by omega)
    have hf := h k (by omega)
    have e : ((k + 1 : Nat) : Int) * (m : Int) = k * m + m := by rw [Int.natCast_add, Int.add_mul]; simp
    simp only [sumT]
    rw [e]
    split <;> omega
def tkOK (rs : List Rep) : Prop := rs.length ≤ 10 ∧ ∀ k, k < rs.length → 1 ≤ tk rs k ∧ tk rs k ≤ 1000000
def loadM (rs : List Rep) (s : Nat) : Int := sumT (tk rs) s rs.length
theorem tk_at {rs : List Rep} {k : Nat} : (rs.getD k dR).1 = tk rs k := rfl
theorem du_at {rs : List Rep} {k : Nat} : (rs.getD k dR).2.1 = du rs k := rfl
theorem ch_at {rs : List Rep} {k : Nat} : (rs.getD k dR).2.2.1 = ch rs k := rfl
theorem af_at {rs : List Rep} {k : Nat} : (rs.getD k dR).2.2.2 = af rs k := rfl
theorem load_bound {rs : List Rep} (h : tkOK rs) (s k : Nat) (hk : k ≤ rs.length) : 0 ≤ sumT (tk rs) s k ∧ sumT (tk rs) s k ≤ 10000000 := by
  have := sumT_bound (f := tk rs) (s := s) (m := 1000000) (n := rs.length) (fun k hk => by have := h.2 k hk; omega) k hk
  have := h.1
  omega
noncomputable def A_load : (Int) × (List Rep) × (Nat) → List PV := fun (st, rs, s) => [.agg [I st, reps rs], .func (.func 41) [I s] []]
noncomputable def R_load : (Int) × (List Rep) × (Nat) → PV := fun (st, rs, s) => I (loadM rs s)
def H_load : (Int) × (List Rep) × (Nat) → Prop := fun (st, rs, s) => tkOK rs ∧ s < 9223372036854775808
noncomputable def e_load : Nat × Ent := (47, .v (specOf A_load R_load H_load))
theorem j_load : ∀ i j, A_load i = A_load j → i = j := by
  rintro ⟨st₁, rs₁, s₁⟩ ⟨st₂, rs₂, s₂⟩ h
  simp only [A_load, List.cons.injEq, and_true, PV.lits.injEq, PV.int.injEq, PV.bool.injEq, PV.str.injEq, PV.agg.injEq, PV.func.injEq, PV.vptr.injEq, true_and, List.map_nil, inj_ints, inj_strs, inj_reps] at h
  simp [Prod.ext_iff, h] <;> omega
theorem s_load (st : Int) (rs : List Rep) (s : Nat) : specOf A_load R_load H_load [.agg [I st, reps rs], .func (.func 41) [I s] []] = @ite (Option (PV)) (tkOK rs ∧ s < 9223372036854775808) (Classical.propDecidable _) (some (I (loadM rs s))) none := specOf_if j_load (st, rs, s)
def C_load : Prop := ∀ (st : Int) (rs : List Rep) (s : Nat) (h : tkOK rs ∧ s < 9223372036854775808) , VC Try.prog 47 [.agg [I st, reps rs], .func (.func 41) [I s] []] (I (loadM rs s))
def O_load : Prop := EntOK Try.prog e_load.1 e_load.2
theorem k_load (c : C_load) : O_load := specOf_ok fun ⟨st, rs, s⟩ h => c st rs s h
theorem c_load : C_load := by
  rintro st rs s ⟨h1, h2⟩
  refine vc_ofU mixed (l := [e_has]) ((eok_cons o_has eok_nil)) [] []  Try.func47 rfl (by decide +kernel) (N := 25) rfl (by simp) rfl (by kernel_rfl) fun hs => ?_
  simp only [smallL, PV.small, List.length_map, and_true, true_and] at hs
  generalize hr : loadM rs s = r
  have h10 := h1.1
  simp +contextual (maxSteps := 4000000) only [↓ur_seq, ↓ur_block, ↓ur_region, ↓cont_seq, ↓ops_consN, nY_move, nY_assign, nY_box, nY_load, nY_fieldAddr, nY_callb, ↓ops_nil, opsIf_some, Option.map_some, Option.bind_some, Option.getD_some, Nat.reduceLT, Bool.false_eq_true, ↓upd_same, ↓upd_ne, Nat.reduceBEq, true_and, List.getD_cons_zero, List.getElem?_cons_zero, List.getElem?_cons_succ, cfg_P, cfg_muts, cfg_frz, List.length_map, List.contains_nil, List.length_cons, List.length_nil, Nat.zero_add, Nat.reduceAdd, Nat.lt_succ_self, st0, cells_agg, ↓ev_tmp, ↓ev_int, ↓iop_move, ↓iop_assign, ↓iop_box, ↓iop_load, ↓iop_fieldAddr, ↓iop_callb, bi_len, lenM_none, pickP_f, loadP_vptr, fieldP_vptr, lenP_lits, env0_eq, ↓reduceIte, boxP_eq, ↓evs_cons, ↓evs_nil, see_eq, e_has, nth_reps, pur_reps, Try.f47, ty22, ty24]
  refine loop_cnt [5, 6, 7, 11, 12, 13, 14, 15, 16, 17, 18, 19, 20, 21, 22, 23] rs.length (fun i ρ st => ρ 5 = I (sumT (tk rs) s i) ∧ ρ 11 = I i) (.refl _) ?_ ?_
  · simp +contextual (maxSteps := 4000000) only [↓upd_same, ↓upd_ne, Nat.reduceBEq, true_and, and_true, PV.int.injEq, Int.cast_ofNat_Int, nth_reps, pur_reps, Try.f47]
    rfl
  · rintro i ρ ⟨ob, M⟩ hi ⟨h5, h11⟩
    have hb1 := load_bound h1 s i hi
    have hend : ¬ i < rs.length → sumT (tk rs) s i = r := fun g => by
      have e : i = rs.length := by omega
      subst e; exact hr
    have hw : i < rs.length → IntKind.i64.wrap ((i : Int) + 1) = ((i + 1 : Nat) : Int) := fun g => by rw [wrap64 (by omega) (by omega)]; omega
    have hw2 : i < rs.length → IntKind.i64.wrap (sumT (tk rs) s i + tk rs i) = sumT (tk rs) s i + tk rs i := fun g => by have := h1.2 i g; exact wrap64 (by omega) (by omega)
    cases hb : s.testBit i <;> simp +contextual (maxSteps := 4000000) only [↓ur_skip, ↓ur_seq, ↓ur_block, ↓ur_exit, ↓ur_ret, ↓ur_region, ↓ur_cond, ↓cont_seq, ↓cont_blk, ↓cont_lp, ↓leave_seq, ↓leave_blk, ↓leave_lp, ↓done_nil, ↓ops_consN, nY_move, nY_assign, nY_alloc, nY_load, nY_store, nY_binOp, nY_fieldAddr, nY_indexAddr, nY_callt, isNone_none, cfg_yl, ↓ops_nil, opsIf_some, opsIf_none, opsIf_if, map_if, condC_true, condC_false, Option.map_some, Option.map_none, Option.bind_some, Option.getD_some, Nat.reduceLT, Bool.false_eq_true, ↓upd_same, ↓upd_ne, Nat.reduceBEq, true_and, and_true, List.getD_cons_zero, List.getD_cons_succ, List.getElem?_cons_zero, endQ, cfg_P, cfg_tab, cfg_muts, cfg_frz, cfg_num, numOf_eq, List.length_map, ↓havoc_in, ↓havoc_out, agree_upd, agree_havoc, List.contains_cons, List.contains_nil, Bool.or_false, Bool.or_true, Int.natCast_nonneg, Int.ofNat_lt, Int.toNat_natCast, decide_true, decide_false, Option.some.injEq, exists_eq_left', PV.int.injEq, tabOf_cons, tab_v, Bool.and_self, List.cons_append, List.nil_append, List.append_nil, updO_same, List.length_cons, List.length_nil, Nat.zero_add, Nat.add_zero, List.drop_zero, List.take_zero, Nat.reduceAdd, List.set_cons_zero, nth_zero, Nat.lt_succ_self, Nat.le_refl, pur_int, cells_agg, DRx_int, ↓ev_tmp, ↓ev_int, ↓iop_move, ↓iop_assign, ↓iop_alloc, ↓iop_load, ↓iop_store, ↓iop_binOp, ↓iop_fieldAddr, ↓iop_indexAddr, idxA_int, ↓iop_callv, nrmAll_cons, nrmAll_nil, nrm_int, pickP_f, pickP_t, loadP_vptr, loadP_ptr, setCells_agg, storeP_ptr, fieldP_ptr, indexP_lits, b_add, b_lss, splice_eq, env0_eq, ires_eq, iresL_1, iresAll_nil, iresAll_cons, iresOne_tmp, valT_eq, pursL_cons, pursL_nil, Store.new, Store.set, ↓reduceIte, arr_eq, arrB_some, callP_eq, List.take_succ_cons, List.drop_succ_cons, List.drop_nil, List.take_nil, condC_d, ↓evs_cons, ↓evs_nil, beq_self_eq_true, see_eq, and_false, Bool.true_eq_false, s_has, nth_reps, pur_reps, Try.f47, ty3, ty22, ty56, h5, h11, hb, tk_at, sumT]
    all_goals (repeat' (first | apply And.intro | intro))
    all_goals first | omega | exact hw (by omega) | exact hw2 (by omega) | exact hend (by omega) | skip
theorem o_load : O_load := k_load c_load
end Sim
