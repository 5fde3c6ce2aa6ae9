/- What functions of this seat compute, by values: contracts (lemmas of the statement's proof, under the conditions that each names). -/
import Derived.Test.YtpdaiflnibekaaaQA
namespace Sim
open Go Go.Proofs
set_option maxRecDepth 10000
set_option maxHeartbeats 2000000
set_option linter.unusedVariables false
set_option linter.unusedSimpArgs false
attribute [local congr] opsIf_congr condC_congr guardC_congr grd_congr pick3_congr obind_congr omap_congr

noncomputable def A_rload : (Int) × (List Rep) × (Nat) → List PV := fun (st, rs, s) => [.agg [I st, reps rs], I s]
noncomputable def R_rload : (Int) × (List Rep) × (Nat) → PV := fun (st, rs, s) => I (loadM rs s)
def H_rload : (Int) × (List Rep) × (Nat) → Prop := fun (st, rs, s) => tkOK rs ∧ s < 9223372036854775808
noncomputable def e_rload : Nat × Ent := (36, .v (specOf A_rload R_rload H_rload))
theorem j_rload : ∀ i j, A_rload i = A_rload j → i = j := by
  rintro ⟨st₁, rs₁, s₁⟩ ⟨st₂, rs₂, s₂⟩ h
  simp only [A_rload, List.cons.injEq, and_true, PV.lits.injEq, PV.int.injEq, PV.bool.injEq, PV.str.injEq, PV.agg.injEq, PV.func.injEq, PV.vptr.injEq, true_and, List.map_nil, inj_ints, inj_strs, inj_reps] at h
  simp [Prod.ext_iff, h] <;> omega
theorem s_rload (st : Int) (rs : List Rep) (s : Nat) : specOf A_rload R_rload H_rload [.agg [I st, reps rs], I s] = @ite (Option (PV)) (tkOK rs ∧ s < 9223372036854775808) (Classical.propDecidable _) (some (I (loadM rs s))) none := specOf_if j_rload (st, rs, s)
def C_rload : Prop := ∀ (st : Int) (rs : List Rep) (s : Nat) (h : tkOK rs ∧ s < 9223372036854775808) , VC Try.prog 36 [.agg [I st, reps rs], I s] (I (loadM rs s))
def O_rload : Prop := EntOK Try.prog e_rload.1 e_rload.2
theorem k_rload (c : C_rload) : O_rload := specOf_ok fun ⟨st, rs, s⟩ h => c st rs s h
theorem c_rload : C_rload := by
  rintro st rs s ⟨h1, h2⟩
  refine vc_ofU mixed (l := [e_in]) ((eok_cons o_in eok_nil)) [] []  Try.func36 rfl (by decide +kernel) (N := 28) rfl (by simp) rfl (by kernel_rfl) fun hs => ?_
  simp only [smallL, PV.small, List.length_map, and_true, true_and] at hs
  generalize hr : loadM rs s = r
  have h10 := h1.1
  simp +contextual (maxSteps := 4000000) only [↓ur_seq, ↓ur_block, ↓ur_region, ↓cont_seq, ↓ops_consN, nY_assign, nY_box, ↓ops_nil, opsIf_some, Option.getD_some, Nat.reduceLT, Bool.false_eq_true, true_and, List.getD_cons_zero, cfg_muts, List.contains_nil, List.length_cons, List.length_nil, Nat.zero_add, Nat.reduceAdd, st0, cells_agg, ↓ev_tmp, ↓ev_int, ↓iop_assign, ↓iop_box, env0_eq, ↓reduceIte, boxP_eq, e_in, nth_reps, pur_reps, Try.f36]
  refine loop_cnt [5, 6, 7, 8, 9, 10, 11, 12, 13, 14, 15, 16, 17, 18, 19, 20, 21, 22, 23, 24, 25, 26] rs.length (fun i ρ st => ρ 5 = I (sumT (tk rs) s i) ∧ ρ 6 = I i) (.refl _) ?_ ?_
  · simp +contextual (maxSteps := 4000000) only [↓upd_same, ↓upd_ne, Nat.reduceBEq, true_and, and_true, PV.int.injEq, Int.cast_ofNat_Int, nth_reps, pur_reps, Try.f36]
    rfl
  · rintro i ρ ⟨ob, M⟩ hi ⟨h5, h11⟩
    have hb1 := load_bound h1 s i hi
    have hend : ¬ i < rs.length → sumT (tk rs) s i = r := fun g => by
      have e : i = rs.length := by omega
      subst e; exact hr
    have hw : i < rs.length → IntKind.i64.wrap ((i : Int) + 1) = ((i + 1 : Nat) : Int) := fun g => by rw [wrap64 (by omega) (by omega)]; omega
    have hw2 : i < rs.length → IntKind.i64.wrap (sumT (tk rs) s i + tk rs i) = sumT (tk rs) s i + tk rs i := fun g => by have := h1.2 i g; exact wrap64 (by omega) (by omega)
    cases hb : s.testBit i <;> simp +contextual (maxSteps := 4000000) only [↓ur_skip, ↓ur_seq, ↓ur_block, ↓ur_exit, ↓ur_ret, ↓ur_region, ↓ur_cond, ↓cont_seq, ↓cont_blk, ↓cont_lp, ↓leave_seq, ↓leave_blk, ↓leave_lp, ↓done_nil, ↓ops_consN, nY_move, nY_assign, nY_load, nY_binOp, nY_fieldAddr, nY_indexAddr, nY_callf, nY_callb, ↓ops_nil, opsIf_some, opsIf_if, map_if, condC_true, condC_false, Option.map_some, Option.map_none, Option.bind_some, Option.getD_some, Nat.reduceLT, Bool.false_eq_true, ↓upd_same, ↓upd_ne, Nat.reduceBEq, true_and, and_true, List.getD_cons_zero, List.getD_cons_succ, List.getElem?_cons_zero, List.getElem?_cons_succ, endQ, cfg_P, cfg_tab, cfg_muts, cfg_frz, List.length_map, ↓havoc_in, ↓havoc_out, agree_upd, agree_havoc, List.contains_cons, List.contains_nil, Bool.or_false, Bool.or_true, Int.natCast_nonneg, Int.ofNat_lt, Int.toNat_natCast, decide_true, decide_false, Option.some.injEq, exists_eq_left', PV.int.injEq, tabOf_cons, tab_v, Bool.and_self, List.nil_append, List.append_nil, Nat.zero_add, Nat.add_zero, Nat.lt_succ_self, pur_int, cells_agg, DRx_int, ↓ev_tmp, ↓ev_int, ↓ev_func, ↓iop_move, ↓iop_assign, ↓iop_load, ↓iop_binOp, ↓iop_fieldAddr, ↓iop_indexAddr, idxA_int, ↓iop_callv, ↓iop_callb, nrmAll_cons, nrmAll_nil, bi_len, lenM_none, nrm_int, pickP_f, loadP_vptr, fieldP_vptr, indexP_lits, lenP_lits, b_add, b_lss, env0_eq, ires_eq, iresL_1, iresAll_nil, iresAll_cons, iresOne_tmp, valT_eq, pursL_cons, pursL_nil, ↓reduceIte, callP_eq, condC_d, ↓evs_cons, ↓evs_nil, beq_self_eq_true, see_eq, and_false, Bool.true_eq_false, s_in, nth_reps, pur_reps, Try.f36, ty3, ty22, ty24, ty56, h5, h11, hb, tk_at, sumT]
    all_goals (repeat' (first | apply And.intro | intro))
    all_goals first | omega | exact hw (by omega) | exact hw2 (by omega) | exact hend (by omega) | skip
theorem o_rload : O_rload := k_rload c_rload

def chOK (rs : List Rep) : Prop := rs.length ≤ 10 ∧ ∀ k, k < rs.length → 0 ≤ ch rs k ∧ ch rs k ≤ 1000000
def chanceM (rs : List Rep) (s : Nat) : Int := sumT (ch rs) s rs.length
theorem chance_bound {rs : List Rep} (h : chOK rs) (s k : Nat) (hk : k ≤ rs.length) : 0 ≤ sumT (ch rs) s k ∧ sumT (ch rs) s k ≤ 10000000 := by
  have := sumT_bound (f := ch rs) (s := s) (m := 1000000) (n := rs.length) (fun k hk => by have := h.2 k hk; omega) k hk
  have := h.1
  omega
noncomputable def A_chance : (Int) × (List Rep) × (Nat) → List PV := fun (st, rs, s) => [.agg [I st, reps rs], I s]
noncomputable def R_chance : (Int) × (List Rep) × (Nat) → PV := fun (st, rs, s) => I (chanceM rs s)
def H_chance : (Int) × (List Rep) × (Nat) → Prop := fun (st, rs, s) => chOK rs ∧ s < 9223372036854775808
noncomputable def e_chance : Nat × Ent := (35, .v (specOf A_chance R_chance H_chance))
theorem j_chance : ∀ i j, A_chance i = A_chance j → i = j := by
  rintro ⟨st₁, rs₁, s₁⟩ ⟨st₂, rs₂, s₂⟩ h
  simp only [A_chance, List.cons.injEq, and_true, PV.lits.injEq, PV.int.injEq, PV.bool.injEq, PV.str.injEq, PV.agg.injEq, PV.func.injEq, PV.vptr.injEq, true_and, List.map_nil, inj_ints, inj_strs, inj_reps] at h
  simp [Prod.ext_iff, h] <;> omega
theorem s_chance (st : Int) (rs : List Rep) (s : Nat) : specOf A_chance R_chance H_chance [.agg [I st, reps rs], I s] = @ite (Option (PV)) (chOK rs ∧ s < 9223372036854775808) (Classical.propDecidable _) (some (I (chanceM rs s))) none := specOf_if j_chance (st, rs, s)
def C_chance : Prop := ∀ (st : Int) (rs : List Rep) (s : Nat) (h : chOK rs ∧ s < 9223372036854775808) , VC Try.prog 35 [.agg [I st, reps rs], I s] (I (chanceM rs s))
def O_chance : Prop := EntOK Try.prog e_chance.1 e_chance.2
theorem k_chance (c : C_chance) : O_chance := specOf_ok fun ⟨st, rs, s⟩ h => c st rs s h
theorem c_chance : C_chance := by
  rintro st rs s ⟨h1, h2⟩
  refine vc_ofU mixed (l := [e_in]) ((eok_cons o_in eok_nil)) [] []  Try.func35 rfl (by decide +kernel) (N := 28) rfl (by simp) rfl (by kernel_rfl) fun hs => ?_
  simp only [smallL, PV.small, List.length_map, and_true, true_and] at hs
  generalize hr : chanceM rs s = r
  have h10 := h1.1
  simp +contextual (maxSteps := 4000000) only [↓ur_seq, ↓ur_block, ↓ur_region, ↓cont_seq, ↓ops_consN, nY_assign, nY_box, ↓ops_nil, opsIf_some, Option.getD_some, Nat.reduceLT, Bool.false_eq_true, true_and, List.getD_cons_zero, cfg_muts, List.contains_nil, List.length_cons, List.length_nil, Nat.zero_add, Nat.reduceAdd, st0, cells_agg, ↓ev_tmp, ↓ev_int, ↓iop_assign, ↓iop_box, env0_eq, ↓reduceIte, boxP_eq, e_in, nth_reps, pur_reps, Try.f35]
  refine loop_cnt [5, 6, 7, 8, 9, 10, 11, 12, 13, 14, 15, 16, 17, 18, 19, 20, 21, 22, 23, 24, 25, 26] rs.length (fun i ρ st => ρ 5 = I (sumT (ch rs) s i) ∧ ρ 6 = I i) (.refl _) ?_ ?_
  · simp +contextual (maxSteps := 4000000) only [↓upd_same, ↓upd_ne, Nat.reduceBEq, true_and, and_true, PV.int.injEq, Int.cast_ofNat_Int, nth_reps, pur_reps, Try.f35]
    rfl
  · rintro i ρ ⟨ob, M⟩ hi ⟨h5, h11⟩
    have hb1 := chance_bound h1 s i hi
    have hend : ¬ i < rs.length → sumT (ch rs) s i = r := fun g => by
      have e : i = rs.length := by omega
      subst e; exact hr
    have hw : i < rs.length → IntKind.i64.wrap ((i : Int) + 1) = ((i + 1 : Nat) : Int) := fun g => by rw [wrap64 (by omega) (by omega)]; omega
    have hw2 : i < rs.length → IntKind.i64.wrap (sumT (ch rs) s i + ch rs i) = sumT (ch rs) s i + ch rs i := fun g => by have := h1.2 i g; exact wrap64 (by omega) (by omega)
    cases hb : s.testBit i <;> simp +contextual (maxSteps := 4000000) only [↓ur_skip, ↓ur_seq, ↓ur_block, ↓ur_exit, ↓ur_ret, ↓ur_region, ↓ur_cond, ↓cont_seq, ↓cont_blk, ↓cont_lp, ↓leave_seq, ↓leave_blk, ↓leave_lp, ↓done_nil, ↓ops_consN, nY_move, nY_assign, nY_load, nY_binOp, nY_fieldAddr, nY_indexAddr, nY_callf, nY_callb, ↓ops_nil, opsIf_some, opsIf_if, map_if, condC_true, condC_false, Option.map_some, Option.map_none, Option.bind_some, Option.getD_some, Nat.reduceLT, Bool.false_eq_true, ↓upd_same, ↓upd_ne, Nat.reduceBEq, true_and, and_true, List.getD_cons_zero, List.getD_cons_succ, List.getElem?_cons_zero, List.getElem?_cons_succ, endQ, cfg_P, cfg_tab, cfg_muts, cfg_frz, List.length_map, ↓havoc_in, ↓havoc_out, agree_upd, agree_havoc, List.contains_cons, List.contains_nil, Bool.or_false, Bool.or_true, Int.natCast_nonneg, Int.ofNat_lt, Int.toNat_natCast, decide_true, decide_false, Option.some.injEq, exists_eq_left', PV.int.injEq, tabOf_cons, tab_v, Bool.and_self, List.nil_append, List.append_nil, Nat.zero_add, Nat.lt_succ_self, pur_int, cells_agg, DRx_int, ↓ev_tmp, ↓ev_int, ↓ev_func, ↓iop_move, ↓iop_assign, ↓iop_load, ↓iop_binOp, ↓iop_fieldAddr, ↓iop_indexAddr, idxA_int, ↓iop_callv, ↓iop_callb, nrmAll_cons, nrmAll_nil, bi_len, lenM_none, nrm_int, pickP_f, loadP_vptr, fieldP_vptr, indexP_lits, lenP_lits, b_add, b_lss, env0_eq, ires_eq, iresL_1, iresAll_nil, iresAll_cons, iresOne_tmp, valT_eq, pursL_cons, pursL_nil, ↓reduceIte, callP_eq, condC_d, ↓evs_cons, ↓evs_nil, beq_self_eq_true, see_eq, and_false, Bool.true_eq_false, s_in, nth_reps, pur_reps, Try.f35, ty3, ty22, ty24, ty56, h5, h11, hb, ch_at, sumT]
    all_goals (repeat' (first | apply And.intro | intro))
    all_goals first | omega | exact hw (by omega) | exact hw2 (by omega) | exact hend (by omega) | skip
theorem o_chance : O_chance := k_chance c_chance

noncomputable def A_few : (Int) × (List Rep) × (Int) → List PV := fun (st, rs, m) => [.agg [I st, reps rs], I m]
noncomputable def R_few : (Int) × (List Rep) × (Int) → PV := fun (st, rs, m) => B (decide ((rs.length : Int) ≤ m ∨ (10 < rs.length ∧ rs.length ≤ 20)))
def H_few : (Int) × (List Rep) × (Int) → Prop := fun (st, rs, m) => True
noncomputable def e_few : Nat × Ent := (11, .v (specOf A_few R_few H_few))
theorem j_few : ∀ i j, A_few i = A_few j → i = j := by
  rintro ⟨st₁, rs₁, m₁⟩ ⟨st₂, rs₂, m₂⟩ h
  simp only [A_few, List.cons.injEq, and_true, PV.lits.injEq, PV.int.injEq, PV.bool.injEq, PV.str.injEq, PV.agg.injEq, PV.func.injEq, PV.vptr.injEq, true_and, List.map_nil, inj_ints, inj_strs, inj_reps] at h
  simp [Prod.ext_iff, h] <;> omega
theorem s_few (st : Int) (rs : List Rep) (m : Int) : specOf A_few R_few H_few [.agg [I st, reps rs], I m] = some (B (decide ((rs.length : Int) ≤ m ∨ (10 < rs.length ∧ rs.length ≤ 20)))) := specOf_app j_few (i := (st, rs, m)) trivial
def C_few : Prop := ∀ (st : Int) (rs : List Rep) (m : Int) , VC Try.prog 11 [.agg [I st, reps rs], I m] (B (decide ((rs.length : Int) ≤ m ∨ (10 < rs.length ∧ rs.length ≤ 20))))
def O_few : Prop := EntOK Try.prog e_few.1 e_few.2
theorem k_few (c : C_few) : O_few := specOf_ok fun ⟨st, rs, m⟩ h => c st rs m
theorem c_few : C_few := by
  rintro st rs m
  refine vc_ofU mixed (l := []) (eok_nil) [] []  Try.func11 rfl (by decide +kernel) (N := 20) rfl (by simp) rfl (by kernel_rfl) fun hs => ?_
  simp only [smallL, PV.small, List.length_map, and_true, true_and] at hs
  simp +contextual (maxSteps := 4000000) only [↓ur_seq, ↓ur_ret, ↓ur_region, ↓cont_seq, ↓done_nil, ↓ops_consN, ↓ops_guardN, nY_move, nY_assign, nY_pick, nY_box, nY_load, nY_binOp, nY_fieldAddr, nY_callb, ↓ops_nil, opsIf_some, guardC_u, guardC_tt, guardC_tf, guardC_ft, guardC_ff, Option.map_some, Option.bind_some, Option.getD_some, Nat.reduceLT, Bool.false_eq_true, ↓upd_same, ↓upd_ne, Nat.reduceBEq, true_and, List.getD_cons_zero, List.getD_cons_succ, List.getElem?_toArray, List.getElem?_cons_zero, List.getElem?_cons_succ, endQ, cfg_P, cfg_muts, cfg_frz, List.length_map, List.contains_nil, decide_true, decide_false, Option.some.injEq, exists_eq_left', List.length_cons, List.length_nil, Nat.zero_add, Nat.reduceAdd, Nat.lt_succ_self, st0, cells_agg, DRx_bool, ↓ev_tmp, ↓ev_int, ↓ev_bool, ↓guardP_eq, grd_some, ↓iop_move, ↓iop_assign, ↓pick3_bool, ↓iop_pick, ↓iop_box, ↓iop_load, ↓iop_binOp, ↓iop_fieldAddr, ↓iop_callb, bi_len, lenM_none, pickP_f, loadP_vptr, fieldP_vptr, lenP_lits, b_leq, b_gtr, env0_eq, ires_eq, iresL_1, iresAll_nil, iresAll_cons, iresOne_tmp, ↓reduceIte, boxP_eq, guardC_td, guardC_fd, ↓evs_cons, ↓evs_nil, see_eq, nth_reps, pur_reps, Try.f11, ty22, ty24]
  all_goals grind
theorem o_few : O_few := k_few c_few

/-! Check. -/
def rangeOK (r : Rep) : Prop := (1 ≤ r.1 ∧ r.1 ≤ 1000000) ∧ (0 ≤ r.2.1 ∧ r.2.1 ≤ 1000000) ∧ (0 ≤ r.2.2.1 ∧ r.2.2.1 ≤ 1000000)
instance : DecidablePred rangeOK := fun r => by unfold rangeOK; infer_instance
def badM (n k : Nat) (r : Rep) : Int := if ¬ rangeOK r then 3 else if ¬ (0 ≤ r.2.2.2 ∧ r.2.2.2 ≤ ((2 ^ n - 1 : Nat) : Int)) then 1 else if r.2.2.2.toNat.testBit k = true then 1 else 0
/-- The error of the first k repairs. -/
def badT (rs : List Rep) : Nat → Int
  | 0 => 0
  | k + 1 => if badT rs k ≠ 0 then badT rs k else badM rs.length k (rs.getD k dR)
def sweep (rs : List Rep) (d : Nat) : Nat → Nat
  | 0 => d
  | k + 1 => if sub (ac rs k) (sweep rs d k) = true then sweep rs d k ||| 2 ^ k else sweep rs d k
def doneT (rs : List Rep) : Nat → Nat
  | 0 => 0
  | r + 1 => sweep rs (doneT rs r) rs.length
def checkM (st : Int) (rs : List Rep) : Int :=
  if 10 < rs.length then 2 else if ¬ (0 ≤ st ∧ st ≤ 1000000) then 3 else if badT rs rs.length ≠ 0 then badT rs rs.length else if doneT rs rs.length ≠ 2 ^ rs.length - 1 then 4 else 0
theorem badT_stays {rs : List Rep} {k : Nat} (h : badT rs k ≠ 0) : ∀ m, badT rs (k + m) = badT rs k
  | 0 => rfl
  | m + 1 => by
    show (if badT rs (k + m) ≠ 0 then badT rs (k + m) else _) = _
    rw [badT_stays h m, if_pos h]
theorem badT_end {rs : List Rep} {k n : Nat} (h : badT rs k ≠ 0) (hk : k ≤ n) : badT rs n = badT rs k := by
  have := badT_stays h (n - k)
  rwa [show k + (n - k) = n by omega] at this
theorem sweep_lt {rs : List Rep} {d n : Nat} (hd : d < 2 ^ n) : ∀ k, k ≤ n → sweep rs d k < 2 ^ n
  | 0, _ => hd
  | k + 1, hk => by
    simp only [sweep]
    have ih := sweep_lt (rs := rs) hd k (by omega)
    split
    · exact or_lt n ih (Nat.pow_lt_pow_right (by omega) (by omega))
    · exact ih
theorem doneT_lt {rs : List Rep} : ∀ r, doneT rs r < 2 ^ rs.length
  | 0 => Nat.two_pow_pos _
  | r + 1 => sweep_lt (doneT_lt r) _ (Nat.le_refl _)
theorem andNI_zero {a b : Nat} (ha : a < 9223372036854775808) (hb : b < 9223372036854775808) : andNI a b = 0 ↔ sub a b = true := by
  rw [andNI_nat ha hb, ← dif_zero ha hb]; omega
theorem shl1 {k : Nat} (h : k ≤ 62) : IntKind.i64.wrap (1 * 2 ^ k) = ((2 ^ k : Nat) : Int) := by
  have := shl_nat h
  rwa [show min ((k : Int)).toNat 64 = k by omega] at this
theorem pow1024 {k : Nat} (h : k ≤ 10) : 2 ^ k ≤ 1024 := pow_le 10 h
theorem one_le_pow (k : Nat) : 1 ≤ 2 ^ k := Nat.one_le_two_pow
noncomputable def A_check : (Int) × (List Rep) → List PV := fun (st, rs) => [.agg [I st, reps rs]]
noncomputable def R_check : (Int) × (List Rep) → PV := fun (st, rs) => I (checkM st rs)
def H_check : (Int) × (List Rep) → Prop := fun (st, rs) => True
noncomputable def e_check : Nat × Ent := (21, .v (specOf A_check R_check H_check))
theorem j_check : ∀ i j, A_check i = A_check j → i = j := by
  rintro ⟨st₁, rs₁⟩ ⟨st₂, rs₂⟩ h
  simp only [A_check, List.cons.injEq, and_true, PV.lits.injEq, PV.int.injEq, PV.bool.injEq, PV.str.injEq, PV.agg.injEq, PV.func.injEq, PV.vptr.injEq, true_and, List.map_nil, inj_ints, inj_strs, inj_reps] at h
  simp [Prod.ext_iff, h] <;> omega
theorem s_check (st : Int) (rs : List Rep) : specOf A_check R_check H_check [.agg [I st, reps rs]] = some (I (checkM st rs)) := specOf_app j_check (i := (st, rs)) trivial
def C_check : Prop := ∀ (st : Int) (rs : List Rep) , VC Try.prog 21 [.agg [I st, reps rs]] (I (checkM st rs))
def O_check : Prop := EntOK Try.prog e_check.1 e_check.2
theorem k_check (c : C_check) : O_check := specOf_ok fun ⟨st, rs⟩ h => c st rs
theorem c_check : C_check := by
  rintro st rs
  refine vc_ofU mixed (l := [e_has, e_win]) ((eok_cons o_has (eok_cons o_win eok_nil))) [] []  Try.func21 rfl (by decide +kernel) (N := 87) rfl (by simp) rfl (by kernel_rfl) fun hs => ?_
  simp only [smallL, PV.small, List.length_map, and_true, true_and] at hs
  generalize hr : checkM st rs = r
  have hlen : (rs.length : Int) ≤ 9223372036854775807 := by omega
  by_cases h10 : 10 < rs.length
  · have h10' : (10 : Int) < rs.length := by omega
    simp +contextual (maxSteps := 4000000) only [↓ur_seq, ↓ur_block, ↓ur_ret, ↓ur_region, ↓ur_cond, ↓cont_seq, ↓done_nil, ↓done_seq, ↓done_blk, ↓ops_consN, nY_move, nY_assign, nY_box, nY_load, nY_binOp, nY_fieldAddr, nY_callb, ↓ops_nil, opsIf_some, condC_true, Option.map_some, Option.bind_some, Option.getD_some, Nat.reduceLT, Bool.false_eq_true, ↓upd_same, ↓upd_ne, Nat.reduceBEq, true_and, List.getD_cons_zero, List.getElem?_cons_zero, List.getElem?_cons_succ, endQ, cfg_P, cfg_muts, cfg_frz, List.length_map, List.contains_nil, decide_true, Option.some.injEq, exists_eq_left', List.length_cons, List.length_nil, Nat.zero_add, Nat.reduceAdd, Nat.lt_succ_self, st0, cells_agg, DRx_int, ↓ev_tmp, ↓ev_int, ↓iop_move, ↓iop_assign, ↓iop_box, ↓iop_load, ↓iop_binOp, ↓iop_fieldAddr, ↓iop_callb, bi_len, lenM_none, pickP_f, loadP_vptr, fieldP_vptr, lenP_lits, b_gtr, env0_eq, ires_eq, iresL_1, iresAll_nil, iresAll_cons, iresOne_tmp, ↓reduceIte, boxP_eq, ↓evs_cons, ↓evs_nil, see_eq, e_has, e_win, nth_reps, pur_reps, Try.f21, ty22, ty24, h10']
    simp [← hr, checkM, h10]
  have h10' : ¬ (10 : Int) < rs.length := by omega
  by_cases hst : 0 ≤ st ∧ st ≤ 1000000
  case neg =>
    simp +contextual (maxSteps := 4000000) only [↓ur_seq, ↓ur_block, ↓ur_ret, ↓ur_region, ↓ur_cond, ↓cont_seq, ↓done_nil, ↓done_seq, ↓done_blk, ↓ops_consN, nY_move, nY_assign, nY_box, nY_load, nY_binOp, nY_unOp, nY_fieldAddr, nY_callf, nY_callb, ↓ops_nil, opsIf_some, condC_true, condC_false, Option.map_some, Option.bind_some, Option.getD_some, Nat.reduceLT, Bool.false_eq_true, ↓upd_same, ↓upd_ne, Nat.reduceBEq, true_and, List.getD_cons_zero, List.getElem?_cons_zero, List.getElem?_cons_succ, endQ, cfg_P, cfg_tab, cfg_muts, cfg_frz, List.length_map, List.contains_nil, decide_false, Option.some.injEq, exists_eq_left', tabOf_cons, tab_v, Bool.and_self, Nat.reduceEqDiff, List.nil_append, List.append_nil, List.length_cons, List.length_nil, Nat.zero_add, Nat.add_zero, Nat.reduceAdd, Nat.lt_succ_self, Bool.not_false, st0, pur_int, cells_agg, DRx_int, ↓ev_tmp, ↓ev_int, ↓ev_func, ↓iop_move, ↓iop_assign, ↓iop_box, ↓iop_load, ↓iop_binOp, ↓iop_unOp, ↓iop_fieldAddr, ↓iop_callv, ↓iop_callb, nrmAll_cons, nrmAll_nil, bi_len, lenM_none, nrm_int, pickP_f, loadP_vptr, fieldP_vptr, lenP_lits, b_gtr, u_not, env0_eq, ires_eq, iresL_1, iresAll_nil, iresAll_cons, iresOne_tmp, valT_eq, pursL_cons, pursL_nil, ↓reduceIte, callP_eq, boxP_eq, ↓evs_cons, ↓evs_nil, see_eq, and_false, Bool.true_eq_false, e_has, e_win, s_win, nth_reps, pur_reps, Try.f21, ty3, ty22, ty24, h10', hst]
    simp [← hr, checkM, h10, hst]
  have hp := pow1024 (k := rs.length) (by omega)
  have hp1 := one_le_pow rs.length
  have hsh := shl1 (k := rs.length) (by omega)
  have h64 : rs.length ≤ 64 := by omega
  have hw1 : IntKind.i64.wrap (((2 ^ rs.length : Nat) : Int) - 1) = ((2 ^ rs.length - 1 : Nat) : Int) := by
    generalize 2 ^ rs.length = q at *
    rw [wrap64 (by omega) (by omega)]; omega
  have hw : ∀ i : Nat, i < rs.length → IntKind.i64.wrap ((i : Int) + 1) = ((i + 1 : Nat) : Int) := fun i g => by rw [wrap64 (by omega) (by omega)]; omega
  simp +contextual (maxSteps := 4000000) only [↓ur_skip, ↓ur_seq, ↓ur_block, ↓ur_region, ↓ur_cond, ↓cont_seq, ↓cont_blk, ↓ops_consN, nY_move, nY_assign, nY_box, nY_load, nY_binOp, nY_unOp, nY_fieldAddr, nY_callf, nY_callb, ↓ops_nil, opsIf_some, condC_false, Option.map_some, Option.bind_some, Option.getD_some, Nat.reduceLT, Bool.false_eq_true, ↓upd_same, ↓upd_ne, Nat.reduceBEq, true_and, and_true, List.getD_cons_zero, List.getElem?_cons_zero, List.getElem?_cons_succ, cfg_P, cfg_tab, cfg_muts, cfg_frz, List.length_map, List.contains_nil, decide_true, decide_false, tabOf_cons, tab_v, Bool.and_self, Nat.reduceEqDiff, List.nil_append, List.append_nil, List.length_cons, List.length_nil, Nat.zero_add, Nat.add_zero, Nat.reduceAdd, Nat.lt_succ_self, Bool.not_true, st0, pur_int, cells_agg, ↓ev_tmp, ↓ev_int, ↓ev_func, ↓iop_move, ↓iop_assign, ↓iop_box, ↓iop_load, ↓iop_binOp, ↓iop_unOp, ↓iop_fieldAddr, ↓iop_callv, ↓iop_callb, nrmAll_cons, nrmAll_nil, bi_len, lenM_none, nrm_int, pickP_f, loadP_vptr, fieldP_vptr, lenP_lits, b_gtr, u_not, env0_eq, valT_eq, pursL_cons, pursL_nil, ↓reduceIte, callP_eq, boxP_eq, ↓evs_cons, ↓evs_nil, see_eq, and_false, Bool.true_eq_false, e_has, e_win, s_win, nth_reps, pur_reps, Try.f21, ty3, ty22, ty24, h10', hst]
  refine loop_cnt [2, 4, 5, 23, 24, 25, 26, 27, 28, 29, 30, 31, 32, 33, 34, 35, 36, 37, 38, 39, 40, 41, 42, 43, 44, 45, 46, 47, 48, 49, 50, 51, 52, 53, 54, 55, 56, 57, 58, 59] rs.length (fun i ρ st => ρ 23 = I i ∧ ρ 2 = I 0 ∧ badT rs i = 0) (.refl _) ?_ ?_
  · simp +contextual (maxSteps := 4000000) only [↓upd_same, ↓upd_ne, Nat.reduceBEq, true_and, Int.cast_ofNat_Int, nth_reps, pur_reps, Try.f21]
    rfl
  · rintro i ρ ⟨ob, M⟩ hi ⟨h23, h2, hbad⟩
    have hbs : badT rs (i + 1) = badM rs.length i (rs.getD i dR) := by simp [badT, hbad]
    have hfail : ∀ e : Int, i < rs.length → badM rs.length i (rs.getD i dR) = e → e ≠ 0 → e = r := fun e hlt he hne => by
      rw [← hr, checkM, if_neg h10, if_neg (by simp [hst]), badT_end (k := i + 1) (by rw [hbs, he]; exact hne) (by omega), hbs, he, if_pos hne]
    by_cases hlt : i < rs.length
    · have hlt' : (i : Int) < rs.length := by omega
      by_cases hrange : rangeOK (rs.getD i dR)
      · obtain ⟨g1, g2, g3⟩ := hrange
        by_cases haf : 0 ≤ (rs.getD i dR).2.2.2 ∧ (rs.getD i dR).2.2.2 ≤ ((2 ^ rs.length - 1 : Nat) : Int)
        · have hc : (rs.getD i dR).2.2.2 = ((ac rs i : Nat) : Int) := by simp only [ac, af]; omega
          have hac : ac rs i < 9223372036854775808 := by
            generalize 2 ^ rs.length = q at *
            omega
          have haf2 : (0 : Int) ≤ ac rs i ∧ (ac rs i : Int) ≤ ((2 ^ rs.length - 1 : Nat) : Int) := by rw [← hc]; exact haf
          have hi64 : i ≤ 64 := by omega
          have hbm : badM rs.length i (rs.getD i dR) = if (ac rs i).testBit i = true then 1 else 0 := by
            simp only [badM, rangeOK, g1, g2, g3, haf]; simp [ac, af]
          cases hb : (ac rs i).testBit i
          · simp +contextual (maxSteps := 4000000) only [↓ur_skip, ↓ur_seq, ↓ur_block, ↓ur_region, ↓ur_cond, ↓cont_seq, ↓cont_blk, ↓cont_lp, ↓ops_consN, ↓ops_guardN, nY_move, nY_assign, nY_pick, nY_alloc, nY_load, nY_store, nY_binOp, nY_unOp, nY_fieldAddr, nY_indexAddr, nY_callf, ↓ops_nil, opsIf_some, opsIf_none, opsIf_if', map_if, condC_true, condC_false, guardC_ff, Option.map_some, Option.map_none, Option.bind_some, Option.getD_some, Nat.reduceLT, Bool.false_eq_true, ↓upd_same, ↓upd_ne, Nat.reduceBEq, true_and, and_true, List.getElem?_toArray, List.getElem?_cons_zero, List.getElem?_cons_succ, cfg_P, cfg_tab, cfg_muts, cfg_frz, cfg_num, numOf_eq, List.length_map, ↓havoc_in, ↓havoc_out, agree_upd, agree_havoc, List.contains_cons, List.contains_nil, Bool.or_false, Bool.or_true, Int.natCast_nonneg, Int.toNat_natCast, decide_true, PV.int.injEq, tabOf_cons, tab_v, Bool.and_self, Nat.reduceEqDiff, List.nil_append, List.append_nil, updO_same, List.length_cons, List.length_nil, Nat.zero_add, Nat.add_zero, List.drop_zero, List.take_zero, Nat.reduceAdd, List.set_cons_zero, nth_zero, Nat.lt_succ_self, Bool.not_true, Nat.le_refl, pur_int, cells_agg, ↓ev_tmp, ↓ev_int, ↓ev_func, ↓guardP_eq, grd_some, ↓iop_move, ↓iop_assign, ↓pick3_bool, ↓iop_pick, ↓iop_alloc, ↓iop_load, ↓iop_store, ↓iop_binOp, ↓iop_unOp, ↓iop_fieldAddr, ↓iop_indexAddr, idxA_int, ↓iop_callv, nrmAll_cons, nrmAll_nil, nrm_int, pickP_f, pickP_t, loadP_vptr, loadP_ptr, setCells_agg, storeP_ptr, fieldP_ptr, indexP_lits, b_add, b_sub, b_lss, b_shl, u_not, splice_eq, valT_eq, pursL_cons, pursL_nil, Store.new, Store.set, ↓reduceIte, arr_eq, arrB_some, callP_eq, List.take_succ_cons, List.drop_succ_cons, List.drop_nil, List.take_nil, ↓evs_cons, ↓evs_nil, beq_self_eq_true, see_eq, and_false, Bool.true_eq_false, bits_i64, Nat.min_def, s_has, s_win, nth_reps, pur_reps, Try.f21, ty3, ty22, ty56, ty64, h23, h2, hlt', hlt, g1, g2, g3, hc, haf2, hsh, hw1, h64, hac, hi64, hb]
            refine ⟨by omega, hw i hlt, ?_⟩
            rw [hbs, hbm, hb]; rfl
          · simp +contextual (maxSteps := 4000000) only [↓ur_skip, ↓ur_seq, ↓ur_block, ↓ur_ret, ↓ur_region, ↓ur_cond, ↓cont_seq, ↓done_nil, ↓done_seq, ↓done_blk, ↓done_lp, ↓ops_consN, ↓ops_guardN, nY_move, nY_assign, nY_pick, nY_alloc, nY_load, nY_store, nY_binOp, nY_unOp, nY_fieldAddr, nY_indexAddr, nY_callf, ↓ops_nil, opsIf_some, opsIf_none, opsIf_if', map_if, condC_true, condC_false, guardC_ff, Option.map_some, Option.map_none, Option.bind_some, Option.getD_some, Nat.reduceLT, Bool.false_eq_true, ↓upd_same, ↓upd_ne, Nat.reduceBEq, true_and, and_true, List.getElem?_toArray, List.getElem?_cons_zero, List.getElem?_cons_succ, endQ, cfg_P, cfg_tab, cfg_muts, cfg_frz, cfg_num, numOf_eq, List.length_map, ↓havoc_in, ↓havoc_out, List.contains_cons, List.contains_nil, Bool.or_false, Bool.or_true, Int.natCast_nonneg, Int.toNat_natCast, decide_true, Option.some.injEq, exists_eq_left', tabOf_cons, tab_v, Bool.and_self, Nat.reduceEqDiff, List.nil_append, List.append_nil, updO_same, List.length_cons, List.length_nil, Nat.zero_add, Nat.add_zero, List.drop_zero, List.take_zero, Nat.reduceAdd, List.set_cons_zero, nth_zero, Nat.lt_succ_self, Bool.not_true, Nat.le_refl, pur_int, cells_agg, DRx_int, ↓ev_tmp, ↓ev_int, ↓ev_func, ↓guardP_eq, grd_some, ↓iop_move, ↓iop_assign, ↓pick3_bool, ↓iop_pick, ↓iop_alloc, ↓iop_load, ↓iop_store, ↓iop_binOp, ↓iop_unOp, ↓iop_fieldAddr, ↓iop_indexAddr, idxA_int, ↓iop_callv, nrmAll_cons, nrmAll_nil, nrm_int, pickP_f, pickP_t, loadP_vptr, loadP_ptr, setCells_agg, storeP_ptr, fieldP_ptr, indexP_lits, b_sub, b_lss, b_shl, u_not, splice_eq, ires_eq, iresL_1, iresAll_nil, iresAll_cons, iresOne_tmp, valT_eq, pursL_cons, pursL_nil, Store.new, Store.set, ↓reduceIte, arr_eq, arrB_some, callP_eq, List.take_succ_cons, List.drop_succ_cons, List.drop_nil, List.take_nil, ↓evs_cons, ↓evs_nil, beq_self_eq_true, see_eq, and_false, Bool.true_eq_false, bits_i64, Nat.min_def, s_has, s_win, nth_reps, pur_reps, Try.f21, ty3, ty22, ty56, ty64, h23, h2, hlt', hlt, g1, g2, g3, hc, haf2, hsh, hw1, h64, hac, hi64, hb]
            refine ⟨by omega, hfail 1 hlt ?_ (by omega)⟩
            rw [hbm, hb]; rfl
        · simp +contextual (maxSteps := 4000000) only [↓ur_skip, ↓ur_seq, ↓ur_block, ↓ur_ret, ↓ur_region, ↓ur_cond, ↓cont_seq, ↓done_nil, ↓done_seq, ↓done_blk, ↓done_lp, ↓ops_consN, ↓ops_guardN, nY_move, nY_assign, nY_pick, nY_alloc, nY_load, nY_store, nY_binOp, nY_unOp, nY_fieldAddr, nY_indexAddr, nY_callf, ↓ops_nil, opsIf_some, opsIf_none, opsIf_if', map_if, condC_true, condC_false, guardC_tf, guardC_ff, Option.map_some, Option.map_none, Option.bind_some, Option.getD_some, Nat.reduceLT, Bool.false_eq_true, ↓upd_same, ↓upd_ne, Nat.reduceBEq, true_and, and_true, List.getElem?_toArray, List.getElem?_cons_zero, List.getElem?_cons_succ, endQ, cfg_P, cfg_tab, cfg_muts, cfg_frz, cfg_num, numOf_eq, List.length_map, ↓havoc_in, ↓havoc_out, List.contains_cons, List.contains_nil, Bool.or_false, Bool.or_true, Int.natCast_nonneg, Int.toNat_natCast, decide_true, decide_false, Option.some.injEq, exists_eq_left', tabOf_cons, tab_v, Bool.and_self, Nat.reduceEqDiff, List.nil_append, List.append_nil, updO_same, List.length_cons, List.length_nil, Nat.zero_add, Nat.add_zero, List.drop_zero, List.take_zero, Nat.reduceAdd, List.set_cons_zero, nth_zero, Nat.lt_succ_self, Bool.not_true, Bool.not_false, Nat.le_refl, pur_int, cells_agg, DRx_int, ↓ev_tmp, ↓ev_int, ↓ev_bool, ↓ev_func, ↓guardP_eq, grd_some, ↓iop_move, ↓iop_assign, ↓pick3_bool, ↓iop_pick, ↓iop_alloc, ↓iop_load, ↓iop_store, ↓iop_binOp, ↓iop_unOp, ↓iop_fieldAddr, ↓iop_indexAddr, idxA_int, ↓iop_callv, nrmAll_cons, nrmAll_nil, nrm_int, pickP_f, pickP_t, loadP_vptr, loadP_ptr, setCells_agg, storeP_ptr, fieldP_ptr, indexP_lits, b_sub, b_lss, b_shl, u_not, splice_eq, ires_eq, iresL_1, iresAll_nil, iresAll_cons, iresOne_tmp, valT_eq, pursL_cons, pursL_nil, Store.new, Store.set, ↓reduceIte, arr_eq, arrB_some, callP_eq, List.take_succ_cons, List.drop_succ_cons, List.drop_nil, List.take_nil, ↓evs_cons, ↓evs_nil, beq_self_eq_true, see_eq, and_false, Bool.true_eq_false, bits_i64, Nat.min_def, s_win, nth_reps, pur_reps, Try.f21, ty3, ty22, ty56, h23, h2, hlt', hlt, g1, g2, g3, haf, hsh, hw1, h64]
          refine ⟨by omega, hfail 1 hlt ?_ (by omega)⟩
          simp only [badM, rangeOK, g1, g2, g3, haf]; simp
      · have hbm : badM rs.length i (rs.getD i dR) = 3 := by simp only [badM, hrange]; simp
        have h3 := hfail 3 hlt hbm (by omega)
        by_cases g1 : 1 ≤ (rs.getD i dR).1 ∧ (rs.getD i dR).1 ≤ 1000000
        · by_cases g2 : 0 ≤ (rs.getD i dR).2.1 ∧ (rs.getD i dR).2.1 ≤ 1000000
          · have g3 : ¬ (0 ≤ (rs.getD i dR).2.2.1 ∧ (rs.getD i dR).2.2.1 ≤ 1000000) := fun g3 => hrange ⟨g1, g2, g3⟩
            simp +contextual (maxSteps := 4000000) only [↓ur_skip, ↓ur_seq, ↓ur_block, ↓ur_ret, ↓ur_region, ↓ur_cond, ↓cont_seq, ↓done_nil, ↓done_seq, ↓done_blk, ↓done_lp, ↓ops_consN, ↓ops_guardN, nY_move, nY_assign, nY_pick, nY_alloc, nY_load, nY_store, nY_binOp, nY_unOp, nY_fieldAddr, nY_indexAddr, nY_callf, ↓ops_nil, opsIf_some, opsIf_none, condC_true, guardC_ff, Option.map_some, Option.bind_some, Option.getD_some, Nat.reduceLT, Bool.false_eq_true, ↓upd_same, ↓upd_ne, Nat.reduceBEq, true_and, and_true, List.getElem?_toArray, List.getElem?_cons_zero, List.getElem?_cons_succ, endQ, cfg_P, cfg_tab, cfg_muts, cfg_frz, cfg_num, numOf_eq, List.length_map, ↓havoc_in, ↓havoc_out, List.contains_cons, List.contains_nil, Bool.or_false, Bool.or_true, Int.natCast_nonneg, Int.toNat_natCast, decide_true, decide_false, Option.some.injEq, exists_eq_left', tabOf_cons, tab_v, Bool.and_self, Nat.reduceEqDiff, List.nil_append, List.append_nil, updO_same, List.length_cons, List.length_nil, Nat.zero_add, Nat.add_zero, List.drop_zero, List.take_zero, Nat.reduceAdd, List.set_cons_zero, nth_zero, Nat.lt_succ_self, Bool.not_true, Bool.not_false, Nat.le_refl, pur_int, cells_agg, DRx_int, ↓ev_tmp, ↓ev_int, ↓ev_func, ↓guardP_eq, grd_some, ↓iop_move, ↓iop_assign, ↓pick3_bool, ↓iop_pick, ↓iop_alloc, ↓iop_load, ↓iop_store, ↓iop_binOp, ↓iop_unOp, ↓iop_fieldAddr, ↓iop_indexAddr, idxA_int, ↓iop_callv, nrmAll_cons, nrmAll_nil, nrm_int, pickP_f, pickP_t, loadP_vptr, loadP_ptr, setCells_agg, storeP_ptr, fieldP_ptr, indexP_lits, b_lss, u_not, splice_eq, ires_eq, iresL_1, iresAll_nil, iresAll_cons, iresOne_tmp, valT_eq, pursL_cons, pursL_nil, Store.new, Store.set, ↓reduceIte, arr_eq, arrB_some, callP_eq, List.take_succ_cons, List.drop_succ_cons, List.drop_nil, List.take_nil, ↓evs_cons, ↓evs_nil, beq_self_eq_true, see_eq, and_false, Bool.true_eq_false, s_win, nth_reps, pur_reps, Try.f21, ty3, ty22, ty56, h23, h2, hlt', hlt, g1, g2, g3]
            exact h3
          · simp +contextual (maxSteps := 4000000) only [↓ur_skip, ↓ur_seq, ↓ur_block, ↓ur_ret, ↓ur_region, ↓ur_cond, ↓cont_seq, ↓done_nil, ↓done_seq, ↓done_blk, ↓done_lp, ↓ops_consN, ↓ops_guardN, nY_move, nY_assign, nY_pick, nY_alloc, nY_load, nY_store, nY_binOp, nY_unOp, nY_fieldAddr, nY_indexAddr, nY_callf, ↓ops_nil, opsIf_some, opsIf_none, condC_true, guardC_tf, guardC_ff, Option.map_some, Option.bind_some, Option.getD_some, Nat.reduceLT, Bool.false_eq_true, ↓upd_same, ↓upd_ne, Nat.reduceBEq, true_and, and_true, List.getElem?_toArray, List.getElem?_cons_zero, List.getElem?_cons_succ, endQ, cfg_P, cfg_tab, cfg_muts, cfg_frz, cfg_num, numOf_eq, List.length_map, ↓havoc_in, ↓havoc_out, List.contains_cons, List.contains_nil, Bool.or_false, Bool.or_true, Int.natCast_nonneg, Int.toNat_natCast, decide_true, decide_false, Option.some.injEq, exists_eq_left', tabOf_cons, tab_v, Bool.and_self, Nat.reduceEqDiff, List.nil_append, List.append_nil, updO_same, List.length_cons, List.length_nil, Nat.zero_add, Nat.add_zero, List.drop_zero, List.take_zero, Nat.reduceAdd, List.set_cons_zero, nth_zero, Nat.lt_succ_self, Bool.not_true, Bool.not_false, Nat.le_refl, pur_int, cells_agg, DRx_int, ↓ev_tmp, ↓ev_int, ↓ev_bool, ↓ev_func, ↓guardP_eq, grd_some, ↓iop_move, ↓iop_assign, ↓pick3_bool, ↓iop_pick, ↓iop_alloc, ↓iop_load, ↓iop_store, ↓iop_binOp, ↓iop_unOp, ↓iop_fieldAddr, ↓iop_indexAddr, idxA_int, ↓iop_callv, nrmAll_cons, nrmAll_nil, nrm_int, pickP_f, pickP_t, loadP_vptr, loadP_ptr, setCells_agg, storeP_ptr, fieldP_ptr, indexP_lits, b_lss, u_not, splice_eq, ires_eq, iresL_1, iresAll_nil, iresAll_cons, iresOne_tmp, valT_eq, pursL_cons, pursL_nil, Store.new, Store.set, ↓reduceIte, arr_eq, arrB_some, callP_eq, List.take_succ_cons, List.drop_succ_cons, List.drop_nil, List.take_nil, ↓evs_cons, ↓evs_nil, beq_self_eq_true, see_eq, and_false, Bool.true_eq_false, s_win, nth_reps, pur_reps, Try.f21, ty3, ty22, ty56, h23, h2, hlt', hlt, g1, g2]
            exact h3
        · simp +contextual (maxSteps := 4000000) only [↓ur_skip, ↓ur_seq, ↓ur_block, ↓ur_ret, ↓ur_region, ↓ur_cond, ↓cont_seq, ↓done_nil, ↓done_seq, ↓done_blk, ↓done_lp, ↓ops_consN, ↓ops_guardN, nY_move, nY_assign, nY_pick, nY_alloc, nY_load, nY_store, nY_binOp, nY_unOp, nY_fieldAddr, nY_indexAddr, nY_callf, ↓ops_nil, opsIf_some, opsIf_none, condC_true, guardC_tf, Option.map_some, Option.bind_some, Option.getD_some, Nat.reduceLT, Bool.false_eq_true, ↓upd_same, ↓upd_ne, Nat.reduceBEq, true_and, and_true, List.getElem?_toArray, List.getElem?_cons_zero, List.getElem?_cons_succ, endQ, cfg_P, cfg_tab, cfg_muts, cfg_frz, cfg_num, numOf_eq, List.length_map, ↓havoc_in, ↓havoc_out, List.contains_cons, List.contains_nil, Bool.or_false, Bool.or_true, Int.natCast_nonneg, Int.toNat_natCast, decide_true, decide_false, Option.some.injEq, exists_eq_left', tabOf_cons, tab_v, Bool.and_self, Nat.reduceEqDiff, List.nil_append, List.append_nil, updO_same, List.length_cons, List.length_nil, Nat.zero_add, Nat.add_zero, List.drop_zero, List.take_zero, Nat.reduceAdd, List.set_cons_zero, nth_zero, Nat.lt_succ_self, Bool.not_false, Nat.le_refl, pur_int, cells_agg, DRx_int, ↓ev_tmp, ↓ev_int, ↓ev_bool, ↓ev_func, ↓guardP_eq, grd_some, ↓iop_move, ↓iop_assign, ↓pick3_bool, ↓iop_pick, ↓iop_alloc, ↓iop_load, ↓iop_store, ↓iop_binOp, ↓iop_unOp, ↓iop_fieldAddr, ↓iop_indexAddr, idxA_int, ↓iop_callv, nrmAll_cons, nrmAll_nil, nrm_int, pickP_f, pickP_t, loadP_vptr, loadP_ptr, setCells_agg, storeP_ptr, fieldP_ptr, indexP_lits, b_lss, u_not, splice_eq, ires_eq, iresL_1, iresAll_nil, iresAll_cons, iresOne_tmp, valT_eq, pursL_cons, pursL_nil, Store.new, Store.set, ↓reduceIte, arr_eq, arrB_some, callP_eq, List.take_succ_cons, List.drop_succ_cons, List.drop_nil, List.take_nil, ↓evs_cons, ↓evs_nil, beq_self_eq_true, see_eq, and_false, Bool.true_eq_false, s_win, nth_reps, pur_reps, Try.f21, ty3, ty22, ty56, h23, h2, hlt', hlt, g1]
          exact h3
    · have e : i = rs.length := by omega
      subst e
      simp +contextual (maxSteps := 4000000) only [↓ur_seq, ↓ur_block, ↓ur_exit, ↓ur_region, ↓ur_cond, ↓cont_seq, ↓leave_seq, ↓leave_blk, ↓leave_lp, ↓ops_consN, nY_move, nY_assign, nY_binOp, ↓ops_nil, opsIf_some, condC_false, Option.map_some, Nat.reduceLT, ↓upd_same, ↓upd_ne, Nat.reduceBEq, true_and, cfg_P, ↓havoc_in, ↓havoc_out, List.contains_cons, List.contains_nil, Bool.or_false, Bool.or_true, Int.ofNat_lt, decide_false, Nat.lt_irrefl, ↓ev_tmp, ↓ev_int, ↓iop_move, ↓iop_assign, ↓iop_binOp, b_lss, ↓reduceIte, beq_self_eq_true, nth_reps, pur_reps, Try.f21, h23, h2]
      have hok : ∀ k, k < rs.length → ac rs k < 9223372036854775808 ∧ af rs k = ((ac rs k : Nat) : Int) := fun k hk => by
        have hb : badT rs (k + 1) = 0 := by
          by_cases hz : badT rs (k + 1) = 0
          · exact hz
          · rw [badT_end hz (by omega)] at hbad; exact hbad
        have hbk : badM rs.length k (rs.getD k dR) = 0 := by
          simp only [badT] at hb
          split at hb
          · contradiction
          · exact hb
        simp only [badM] at hbk
        generalize 2 ^ rs.length = q at *
        simp only [ac, af]
        split at hbk
        · cases hbk
        · split at hbk
          · cases hbk
          · omega
      have hD : ∀ j, doneT rs j < 1024 := fun j => Nat.lt_of_lt_of_le (doneT_lt j) hp
      have hS : ∀ j k, k ≤ rs.length → sweep rs (doneT rs j) k < 1024 := fun j k hk => Nat.lt_of_lt_of_le (sweep_lt (doneT_lt j) k hk) hp
      refine loop_cnt [6, 7, 8, 61, 62, 63, 64, 65, 66, 67, 68, 69, 70, 71, 72, 73, 74, 75, 76, 77, 78, 79, 80, 81] rs.length (fun j ρ st => ρ 61 = I j ∧ ρ 6 = I (doneT rs j)) (.refl _) ?_ ?_
      · simp +contextual (maxSteps := 4000000) only [↓upd_same, ↓upd_ne, Nat.reduceBEq, true_and, PV.int.injEq, Int.cast_ofNat_Int, nth_reps, pur_reps, Try.f21]
        rfl
      · rintro j ρ2 ⟨ob2, M2⟩ hj ⟨h61, h6⟩
        by_cases hjlt : j < rs.length
        · have hjlt' : (j : Int) < rs.length := by omega
          simp +contextual (maxSteps := 4000000) only [↓ur_skip, ↓ur_seq, ↓ur_block, ↓ur_region, ↓ur_cond, ↓cont_seq, ↓ops_consN, nY_move, nY_load, nY_binOp, nY_fieldAddr, nY_callb, ↓ops_nil, opsIf_some, condC_true, Option.map_some, Option.bind_some, Option.getD_some, Nat.reduceLT, Bool.false_eq_true, ↓upd_same, ↓upd_ne, Nat.reduceBEq, true_and, List.getElem?_cons_zero, List.getElem?_cons_succ, cfg_P, cfg_frz, List.length_map, ↓havoc_in, ↓havoc_out, List.contains_cons, List.contains_nil, Bool.or_false, Bool.or_true, decide_true, Nat.zero_add, Nat.lt_succ_self, ↓ev_tmp, ↓ev_int, ↓iop_move, ↓iop_load, ↓iop_binOp, ↓iop_fieldAddr, ↓iop_callb, bi_len, lenM_none, pickP_f, loadP_vptr, fieldP_vptr, lenP_lits, b_lss, ↓reduceIte, ↓evs_cons, ↓evs_nil, beq_self_eq_true, see_eq, nth_reps, pur_reps, Try.f21, ty22, ty24, h61, h6, hjlt', hjlt]
          refine loop_cnt [6, 7, 8, 66, 67, 68, 69, 70, 71, 72, 73, 74, 75, 76, 77, 78, 79, 80] rs.length (fun k ρ st => ρ 66 = I k ∧ ρ 6 = I (sweep rs (doneT rs j) k)) (.refl _) ?_ ?_
          · simp +contextual (maxSteps := 4000000) only [↓upd_same, ↓upd_ne, Nat.reduceBEq, true_and, ↓havoc_in, List.contains_cons, List.contains_nil, Bool.or_false, PV.int.injEq, Int.natCast_inj, beq_self_eq_true, Int.cast_ofNat_Int, nth_reps, pur_reps, Try.f21, h6]
            rfl
          · rintro k ρ3 ⟨ob3, M3⟩ hk ⟨h66, h63⟩
            by_cases hklt : k < rs.length
            · have hklt' : (k : Int) < rs.length := by omega
              have hs1 := hS j k hk
              have hs2 := hok k hklt
              have hz := andNI_zero (a := ac rs k) (b := sweep rs (doneT rs j) k) hs2.1 (by omega)
              have hsk := shl1 (k := k) (by omega)
              have hpk := pow1024 (k := k) (by omega)
              have hor := orI_nat (a := sweep rs (doneT rs j) k) (b := 2 ^ k) (by omega) (by omega)
              have hk64 : k ≤ 64 := by omega
              cases hsb : sub (ac rs k) (sweep rs (doneT rs j) k)
              · rw [hsb] at hz
                simp +contextual (maxSteps := 4000000) only [↓ur_skip, ↓ur_seq, ↓ur_block, ↓ur_region, ↓ur_cond, ↓cont_seq, ↓cont_blk, ↓cont_lp, ↓ops_consN, nY_move, nY_assign, nY_alloc, nY_load, nY_store, nY_binOp, nY_fieldAddr, nY_indexAddr, ↓ops_nil, opsIf_some, opsIf_none, condC_true, condC_false, Option.map_some, Option.bind_some, Option.getD_some, Nat.reduceLT, Bool.false_eq_true, ↓upd_same, ↓upd_ne, Nat.reduceBEq, true_and, and_true, List.getElem?_cons_zero, List.getElem?_cons_succ, cfg_P, cfg_frz, cfg_num, numOf_eq, List.length_map, ↓havoc_in, ↓havoc_out, agree_upd, agree_havoc, List.contains_cons, List.contains_nil, Bool.or_false, Bool.or_true, Int.natCast_nonneg, Int.toNat_natCast, decide_true, decide_false, PV.int.injEq, List.nil_append, List.append_nil, updO_same, List.length_cons, List.length_nil, Nat.zero_add, List.drop_zero, List.take_zero, Nat.reduceAdd, List.set_cons_zero, nth_zero, Nat.lt_succ_self, Nat.le_refl, cells_agg, ↓ev_tmp, ↓ev_int, ↓iop_move, ↓iop_assign, ↓iop_alloc, ↓iop_load, ↓iop_store, ↓iop_binOp, ↓iop_fieldAddr, ↓iop_indexAddr, idxA_int, pickP_f, pickP_t, loadP_vptr, loadP_ptr, setCells_agg, storeP_ptr, fieldP_ptr, indexP_lits, b_add, b_andNot, b_eql, b_lss, splice_eq, Store.new, Store.set, ↓reduceIte, arr_eq, arrB_some, List.take_succ_cons, List.drop_succ_cons, List.drop_nil, List.take_nil, beq_self_eq_true, see_eq, nth_reps, pur_reps, Try.f21, ty3, ty22, ty56, h66, h63, hklt', hklt, andNot_i64, af_at, hs2.2, hz, sweep, hsb]
                exact hw k hklt
              · rw [hsb] at hz
                have hz := hz.2 rfl
                simp +contextual (maxSteps := 4000000) only [↓ur_skip, ↓ur_seq, ↓ur_block, ↓ur_region, ↓ur_cond, ↓cont_seq, ↓cont_blk, ↓cont_lp, ↓ops_consN, nY_move, nY_assign, nY_alloc, nY_load, nY_store, nY_binOp, nY_fieldAddr, nY_indexAddr, ↓ops_nil, opsIf_some, opsIf_none, opsIf_if', map_if, condC_true, Option.map_some, Option.map_none, Option.bind_some, Option.getD_some, Nat.reduceLT, Bool.false_eq_true, ↓upd_same, ↓upd_ne, Nat.reduceBEq, true_and, and_true, List.getElem?_cons_zero, List.getElem?_cons_succ, cfg_P, cfg_frz, cfg_num, numOf_eq, List.length_map, ↓havoc_in, ↓havoc_out, agree_upd, agree_havoc, List.contains_cons, List.contains_nil, Bool.or_false, Bool.or_true, Int.natCast_nonneg, Int.toNat_natCast, decide_true, PV.int.injEq, List.nil_append, List.append_nil, updO_same, List.length_cons, List.length_nil, Nat.zero_add, List.drop_zero, List.take_zero, Nat.reduceAdd, List.set_cons_zero, nth_zero, Nat.lt_succ_self, Nat.le_refl, cells_agg, ↓ev_tmp, ↓ev_int, ↓iop_move, ↓iop_assign, ↓iop_alloc, ↓iop_load, ↓iop_store, ↓iop_binOp, ↓iop_fieldAddr, ↓iop_indexAddr, idxA_int, pickP_f, pickP_t, loadP_vptr, loadP_ptr, setCells_agg, storeP_ptr, fieldP_ptr, indexP_lits, b_add, b_or, b_andNot, b_eql, b_lss, b_shl, splice_eq, Store.new, Store.set, ↓reduceIte, arr_eq, arrB_some, List.take_succ_cons, List.drop_succ_cons, List.drop_nil, List.take_nil, beq_self_eq_true, see_eq, bits_i64, or_i64, Nat.min_def, nth_reps, pur_reps, Try.f21, ty3, ty22, ty56, h66, h63, hklt', hklt, andNot_i64, af_at, hs2.2, hz, sweep, hsb, hk64, hsk, hor]
                exact ⟨by omega, hw k hklt⟩
            · have e : k = rs.length := by omega
              subst e
              simp +contextual (maxSteps := 4000000) only [↓ur_seq, ↓ur_exit, ↓ur_region, ↓ur_cond, ↓cont_seq, ↓cont_blk, ↓cont_lp, ↓leave_seq, ↓leave_blk, ↓leave_lp, ↓ops_consN, nY_move, nY_binOp, ↓ops_nil, opsIf_some, condC_false, Option.map_some, Nat.reduceLT, ↓upd_same, ↓upd_ne, Nat.reduceBEq, true_and, cfg_P, ↓havoc_in, ↓havoc_out, agree_upd, List.contains_cons, List.contains_nil, Bool.or_false, Bool.or_true, Int.ofNat_lt, decide_false, PV.int.injEq, Nat.lt_irrefl, ↓ev_tmp, ↓ev_int, ↓iop_move, ↓iop_binOp, b_add, b_lss, ↓reduceIte, Int.natCast_inj, beq_self_eq_true, nth_reps, pur_reps, Try.f21, h66, h63, h61]
              refine ⟨?_, hw j hjlt, rfl⟩
              rw [agree_havoc_sub (by decide +kernel)]; simp +contextual (maxSteps := 4000000) only [Nat.reduceBEq, agree_upd, agree_havoc, List.contains_cons, List.contains_nil, Bool.or_false, Bool.or_true, beq_self_eq_true, nth_reps, pur_reps, Try.f21]
        · have e : j = rs.length := by omega
          subst e
          simp +contextual (maxSteps := 4000000) only [↓ur_skip, ↓ur_seq, ↓ur_exit, ↓ur_ret, ↓ur_region, ↓ur_cond, ↓cont_seq, ↓leave_seq, ↓leave_blk, ↓leave_lp, ↓done_nil, ↓done_seq, ↓ops_consN, nY_move, nY_assign, nY_binOp, ↓ops_nil, opsIf_some, opsIf_if', map_if, condC_false, Option.map_some, Option.map_none, Option.bind_some, Nat.reduceLT, ↓upd_same, ↓upd_ne, Nat.reduceBEq, true_and, endQ, cfg_P, ↓havoc_in, ↓havoc_out, List.contains_cons, List.contains_nil, Bool.or_false, Bool.or_true, Int.ofNat_lt, Int.toNat_natCast, decide_true, decide_false, Option.some.injEq, exists_eq_left', Nat.lt_irrefl, Nat.lt_succ_self, not_true_eq_false, not_false_eq_true, Classical.not_not, DRx_int, ↓ev_tmp, ↓ev_int, ↓iop_move, ↓iop_assign, ↓iop_binOp, b_sub, b_neq, b_lss, b_shl, ires_eq, iresL_1, iresAll_nil, iresAll_cons, iresOne_tmp, ↓reduceIte, Int.natCast_inj, condC_d, beq_self_eq_true, bits_i64, Nat.min_def, nth_reps, pur_reps, Try.f21, h61, h6, h64, hsh, hw1]
          refine ⟨by omega, fun g => ?_, fun g => ?_⟩
          · simp [← hr, checkM, h10, hst, hbad, g]
          · simp [← hr, checkM, h10, hst, hbad, g]
theorem o_check : O_check := k_check c_check
end Sim
