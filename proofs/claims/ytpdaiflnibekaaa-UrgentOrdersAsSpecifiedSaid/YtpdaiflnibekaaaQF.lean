/- What functions of this seat compute, by values: contracts (lemmas of the statement's proof, under the conditions that each names). -/
import Derived.Test.YtpdaiflnibekaaaQE
namespace Sim
open Go Go.Proofs
set_option maxRecDepth 10000
set_option maxHeartbeats 2000000
set_option linter.unusedVariables false
set_option linter.unusedSimpArgs false
attribute [local congr] opsIf_congr condC_congr guardC_congr grd_congr pick3_congr obind_congr omap_congr

def costT (rs : List Rep) (st : Int) (l : List Int) : Nat → Int
  | 0 => 0
  | k + 1 => costT rs st l k + ch rs k * (l.getD k 0 - st)
def costM (st : Int) (rs : List Rep) (o : List Int) : Int × Int := (costT rs st (finM st rs o).1 (finM st rs o).1.length, (finM st rs o).2)
theorem fin_len {st : Int} {rs : List Rep} {o : List Int} : (finM st rs o).1 = [] ∨ (finM st rs o).1.length = rs.length := by
  unfold finM
  repeat' split
  all_goals simp [outT_len]
theorem fin_b {st : Int} {rs : List Rep} {o : List Int} : (finM st rs o).1 = [] ∨ (OKc st rs ∧ ∀ i, 0 ≤ (finM st rs o).1.getD i 0 ∧ (finM st rs o).1.getD i 0 ≤ 11000000) := by
  unfold finM
  split
  · exact .inl rfl
  · rename_i h
    split
    · exact .inl rfl
    · rename_i h2
      split
      · exact .inl rfl
      · refine .inr ⟨check_zero.1 (Classical.not_not.1 h), ?_⟩
        have hg : goodT rs.length o o.length = true := by
          simp only [permM, Bool.and_eq_false_iff, not_or] at h2
          simpa using h2.1
        exact outT_b (check_zero.1 (Classical.not_not.1 h)) hg
theorem term_b {a b : Int} (h1 : 0 ≤ a ∧ a ≤ 1000000) (h2 : -12000000 ≤ b ∧ b ≤ 12000000) : -12000000000000 ≤ a * b ∧ a * b ≤ 12000000000000 := by
  have e1 : a * b ≤ a * 12000000 := Int.mul_le_mul_of_nonneg_left h2.2 h1.1
  have e2 : a * -12000000 ≤ a * b := Int.mul_le_mul_of_nonneg_left h2.1 h1.1
  omega
theorem cost_step {st : Int} {rs : List Rep} (hc : OKc st rs) {l : List Int} (hl : ∀ i, 0 ≤ l.getD i 0 ∧ l.getD i 0 ≤ 11000000) {k : Nat} (hk : k < rs.length) :
    -12000000000000 ≤ ch rs k * (l.getD k 0 - st) ∧ ch rs k * (l.getD k 0 - st) ≤ 12000000000000 := by
  have h1 := hc.ch.2 k hk
  have h2 := hl k
  have h3 := hc.start
  exact term_b h1 ⟨by omega, by omega⟩
theorem cost_b {st : Int} {rs : List Rep} (hc : OKc st rs) {l : List Int} (hl : ∀ i, 0 ≤ l.getD i 0 ∧ l.getD i 0 ≤ 11000000) : ∀ k : Nat, k ≤ rs.length → -12000000000000 * k ≤ costT rs st l k ∧ costT rs st l k ≤ 12000000000000 * k
  | 0, _ => by simp [costT]
  | k + 1, hk => by
    have h1 := cost_b hc hl k (by omega)
    have h2 := cost_step hc hl (k := k) (by omega)
    simp only [costT]
    omega
noncomputable def A_Cost : (Int) × (List Rep) × (List Int) → List PV := fun (st, rs, o) => [.agg [I st, reps rs], ints o]
noncomputable def R_Cost : (Int) × (List Rep) × (List Int) → PV := fun (st, rs, o) => .tuple [I (costM st rs o).1, I (costM st rs o).2]
def H_Cost : (Int) × (List Rep) × (List Int) → Prop := fun (st, rs, o) => True
noncomputable def e_Cost : Nat × Ent := (17, .v (specOf A_Cost R_Cost H_Cost))
theorem j_Cost : ∀ i j, A_Cost i = A_Cost j → i = j := by
  rintro ⟨st₁, rs₁, o₁⟩ ⟨st₂, rs₂, o₂⟩ h
  simp only [A_Cost, List.cons.injEq, and_true, PV.lits.injEq, PV.int.injEq, PV.bool.injEq, PV.str.injEq, PV.agg.injEq, PV.func.injEq, PV.vptr.injEq, true_and, List.map_nil, inj_ints, inj_strs, inj_reps] at h
  simp [Prod.ext_iff, h] <;> omega
theorem s_Cost (st : Int) (rs : List Rep) (o : List Int) : specOf A_Cost R_Cost H_Cost [.agg [I st, reps rs], ints o] = some (.tuple [I (costM st rs o).1, I (costM st rs o).2]) := specOf_app j_Cost (i := (st, rs, o)) trivial
def C_Cost : Prop := ∀ (st : Int) (rs : List Rep) (o : List Int) , VC Try.prog 17 [.agg [I st, reps rs], ints o] (.tuple [I (costM st rs o).1, I (costM st rs o).2])
def O_Cost : Prop := EntOK Try.prog e_Cost.1 e_Cost.2
theorem k_Cost (c : C_Cost) : O_Cost := specOf_ok fun ⟨st, rs, o⟩ h => c st rs o
theorem c_Cost : C_Cost := by
  rintro st rs o
  refine vc_ofU mixed (l := [e_Fin]) ((eok_cons o_Fin eok_nil)) [] []  Try.func17 rfl (by decide +kernel) (N := 40) rfl (by simp) rfl (by kernel_rfl) fun hs => ?_
  simp only [smallL, PV.small, List.length_map, and_true, true_and] at hs
  have hl := fin_len (st := st) (rs := rs) (o := o)
  have hb := fin_b (st := st) (rs := rs) (o := o)
  unfold costM
  generalize hfm : finM st rs o = fm at *
  obtain ⟨l, e⟩ := fm
  dsimp only at hl hb ⊢
  generalize hr : costT rs st l l.length = r
  simp +contextual (maxSteps := 4000000) only [↓ur_seq, ↓ur_block, ↓ur_region, ↓cont_seq, ↓ops_consN, nY_move, nY_assign, nY_box, nY_load, nY_extract, nY_callf, nY_callb, ↓ops_nil, opsIf_some, Option.map_some, Option.bind_some, Option.getD_some, Nat.reduceLT, Bool.false_eq_true, ↓upd_same, ↓upd_ne, Nat.reduceBEq, true_and, List.getD_cons_zero, List.getD_cons_succ, List.getElem?_cons_zero, List.getElem?_cons_succ, cfg_P, cfg_tab, cfg_muts, cfg_frz, List.length_map, List.contains_nil, List.lookup_cons, List.lookup_nil, tabOf_cons, tab_v, pur_ints, Bool.and_self, List.nil_append, List.append_nil, List.length_cons, List.length_nil, Nat.zero_add, List.drop_zero, Nat.reduceAdd, Nat.lt_succ_self, st0, Nat.le_refl, pur_int, pur_lits, cells_agg, pur_agg, ↓ev_tmp, ↓ev_int, ↓ev_func, ↓iop_move, ↓iop_assign, ↓iop_box, ↓iop_load, ↓iop_extract, extr_tuple, ↓iop_callv, ↓iop_callb, nrmAll_cons, nrmAll_nil, bi_len, lenM_none, nrm_agg, nrmL_cons, nrmL_nil, nrm_lits, nrm1_int, nrm1_lits, pickP_t, loadP_vptr, lenP_lits, env0_eq, valT_eq, pursL_cons, pursL_nil, ↓reduceIte, callP_eq, boxP_eq, List.take_succ_cons, List.take_nil, ↓evs_cons, ↓evs_nil, beq_self_eq_true, see_eq, and_false, Bool.true_eq_false, e_Fin, s_Fin, nth_reps, pur_reps, Try.f17, ty24, ty25, hfm]
  refine loop_cnt [8, 9, 10, 19, 20, 21, 22, 23, 24, 25, 26, 27, 28, 29, 30, 31, 32, 33, 34, 35, 36, 37] l.length (fun j ρ st' => ρ 19 = I j ∧ ρ 8 = I (costT rs st l j)) (.refl _) ?_ ?_
  · simp +contextual (maxSteps := 4000000) only [↓upd_same, ↓upd_ne, Nat.reduceBEq, true_and, PV.int.injEq, Int.cast_ofNat_Int, nth_reps, pur_reps, Try.f17]
    simp [costT]
  · rintro j ρ ⟨ob, M⟩ hj ⟨h19, h8⟩
    by_cases hlt : j < l.length
    · have hne : l ≠ [] := fun h => by subst h; simp at hlt
      have hl := hl.resolve_left hne
      obtain ⟨hc, hb⟩ := hb.resolve_left hne
      have h10 := hc.len
      have hjn : j < rs.length := by omega
      have b1 := cost_b hc hb j (by omega)
      have b2 := cost_step hc hb hjn
      have b3 := hb j
      have b4 := hc.start
      have w1 : IntKind.i64.wrap (l.getD j 0 - st) = l.getD j 0 - st := wrap64 (by omega) (by omega)
      have w2 : IntKind.i64.wrap (ch rs j * (l.getD j 0 - st)) = ch rs j * (l.getD j 0 - st) := wrap64 (by omega) (by omega)
      have w3 : IntKind.i64.wrap (costT rs st l j + ch rs j * (l.getD j 0 - st)) = costT rs st l (j + 1) := wrap64 (by omega) (by omega)
      have w4 : IntKind.i64.wrap ((j : Int) + 1) = ((j + 1 : Nat) : Int) := by rw [wrap64 (by omega) (by omega)]; omega
      simp +contextual (maxSteps := 4000000) only [↓ur_skip, ↓ur_seq, ↓ur_block, ↓ur_region, ↓ur_cond, ↓cont_seq, ↓cont_blk, ↓cont_lp, ↓ops_consN, nY_move, nY_assign, nY_load, nY_binOp, nY_fieldAddr, nY_indexAddr, ↓ops_nil, opsIf_some, condC_true, Option.map_some, Option.bind_some, Option.getD_some, Nat.reduceLT, Bool.false_eq_true, ↓upd_same, ↓upd_ne, Nat.reduceBEq, and_true, List.getElem?_cons_zero, List.getElem?_cons_succ, cfg_P, cfg_frz, List.length_map, ↓havoc_in, ↓havoc_out, agree_upd, agree_havoc, List.contains_cons, List.contains_nil, Bool.or_false, Bool.or_true, Int.natCast_nonneg, Int.ofNat_lt, Int.toNat_natCast, nth_int, decide_true, Nat.zero_add, Nat.add_zero, Nat.lt_succ_self, cells_int, cells_agg, ↓ev_tmp, ↓ev_int, ↓iop_move, ↓iop_assign, ↓iop_load, ↓iop_binOp, ↓iop_fieldAddr, ↓iop_indexAddr, idxA_int, pickP_f, loadP_vptr, fieldP_vptr, indexP_lits, b_add, b_sub, b_mul, b_lss, ↓reduceIte, beq_self_eq_true, see_eq, nth_reps, pur_reps, Try.f17, ty3, ty22, ty24, ty25, ty56, h19, h8, hfm, hlt, hjn, ch_at, w1, w2, w3, w4]
    · have e : j = l.length := by omega
      subst e
      simp +contextual (maxSteps := 4000000) only [↓ur_seq, ↓ur_exit, ↓ur_ret, ↓ur_region, ↓ur_cond, ↓cont_seq, ↓leave_seq, ↓leave_blk, ↓leave_lp, ↓done_nil, ↓ops_consN, nY_move, nY_assign, nY_binOp, ↓ops_nil, opsIf_some, condC_false, Option.map_some, Option.bind_some, Nat.reduceLT, ↓upd_same, ↓upd_ne, Nat.reduceBEq, true_and, and_true, endQ, cfg_P, ↓havoc_in, ↓havoc_out, List.contains_cons, List.contains_nil, Bool.or_false, Bool.or_true, Int.ofNat_lt, decide_false, Option.some.injEq, exists_eq_left', Nat.lt_irrefl, Nat.lt_succ_self, DRx_int, DRx_tuple, DRxL_cons, DRxL_nil, ↓ev_tmp, ↓iop_move, ↓iop_assign, ↓iop_binOp, b_lss, ires_eq, iresL_2, iresAll_nil, iresAll_cons, iresOne_tmp, ↓reduceIte, beq_self_eq_true, nth_reps, pur_reps, Try.f17, h19, h8, hfm]
      exact hr
theorem o_Cost : O_Cost := k_Cost c_Cost

noncomputable def A_perm : (Int) × (List Rep) × (List Int) → List PV := fun (st, rs, o) => [.agg [I st, reps rs], ints o]
noncomputable def R_perm : (Int) × (List Rep) × (List Int) → PV := fun (st, rs, o) => B (permM rs.length o)
def H_perm : (Int) × (List Rep) × (List Int) → Prop := fun (st, rs, o) => rs.length ≤ 10
noncomputable def e_perm : Nat × Ent := (42, .v (specOf A_perm R_perm H_perm))
theorem j_perm : ∀ i j, A_perm i = A_perm j → i = j := by
  rintro ⟨st₁, rs₁, o₁⟩ ⟨st₂, rs₂, o₂⟩ h
  simp only [A_perm, List.cons.injEq, and_true, PV.lits.injEq, PV.int.injEq, PV.bool.injEq, PV.str.injEq, PV.agg.injEq, PV.func.injEq, PV.vptr.injEq, true_and, List.map_nil, inj_ints, inj_strs, inj_reps] at h
  simp [Prod.ext_iff, h] <;> omega
theorem s_perm (st : Int) (rs : List Rep) (o : List Int) : specOf A_perm R_perm H_perm [.agg [I st, reps rs], ints o] = @ite (Option (PV)) (rs.length ≤ 10) (Classical.propDecidable _) (some (B (permM rs.length o))) none := specOf_if j_perm (st, rs, o)
def C_perm : Prop := ∀ (st : Int) (rs : List Rep) (o : List Int) (h : rs.length ≤ 10) , VC Try.prog 42 [.agg [I st, reps rs], ints o] (B (permM rs.length o))
def O_perm : Prop := EntOK Try.prog e_perm.1 e_perm.2
theorem k_perm (c : C_perm) : O_perm := specOf_ok fun ⟨st, rs, o⟩ h => c st rs o h
theorem c_perm : C_perm := by
  rintro st rs o h10
  refine vc_ofU mixed (l := [e_in, e_bit]) ((eok_cons o_in (eok_cons o_bit eok_nil))) [] []  Try.func42 rfl (by decide +kernel) (N := 42) rfl (by simp) rfl (by kernel_rfl) fun hs => ?_
  simp only [smallL, PV.small, List.length_map, and_true, true_and] at hs
  generalize hr : permM rs.length o = r
  have hp := pow1024 (k := rs.length) h10
  have hw : ∀ i : Nat, i < o.length → IntKind.i64.wrap ((i : Int) + 1) = ((i + 1 : Nat) : Int) := fun i g => by rw [wrap64 (by omega) (by omega)]; omega
  simp +contextual (maxSteps := 4000000) only [↓ur_seq, ↓ur_block, ↓ur_region, ↓cont_seq, ↓ops_consN, nY_assign, nY_box, ↓ops_nil, opsIf_some, Option.getD_some, Nat.reduceLT, Bool.false_eq_true, true_and, List.getD_cons_zero, cfg_muts, List.contains_nil, List.length_cons, List.length_nil, Nat.zero_add, Nat.reduceAdd, st0, cells_agg, ↓ev_tmp, ↓ev_int, ↓ev_bool, ↓iop_assign, ↓iop_box, env0_eq, ↓reduceIte, boxP_eq, e_in, e_bit, nth_reps, pur_reps, Try.f42]
  refine loop_cnt [4, 5, 6, 7, 8, 9, 10, 11, 12, 13, 14, 15, 16, 17, 18, 19, 20, 21, 22, 23, 24, 25, 26, 27, 28, 29, 30, 31, 32, 33, 34, 35] o.length (fun j ρ st' => ρ 6 = I j ∧ ρ 5 = I (dT o j) ∧ goodT rs.length o j = true) (.refl _) ?_ ?_
  · simp +contextual (maxSteps := 4000000) only [↓upd_same, ↓upd_ne, Nat.reduceBEq, true_and, PV.int.injEq, Int.cast_ofNat_Int, nth_reps, pur_reps, Try.f42]
    simp [dT, goodT]
  · rintro j ρ ⟨ob, M⟩ hj ⟨h29, h8, hg⟩
    by_cases hlt : j < o.length
    · have hbad : goodT rs.length o (j + 1) = false → false = r := fun hb => by
        rw [← hr]
        cases hpm : permM rs.length o with
        | false => rfl
        | true =>
          simp only [permM, Bool.and_eq_true] at hpm
          have := good_le hpm.1 (i := j + 1) (by omega)
          rw [hb] at this; cases this
      by_cases hin : 0 ≤ o.getD j 0 ∧ o.getD j 0 < (rs.length : Int)
      case neg =>
        have := hbad (by simp only [goodT]; rw [show decide (0 ≤ o.getD j 0 ∧ o.getD j 0 < rs.length) = false by simp only [decide_eq_false_iff_not]; omega]; simp)
        by_cases h1 : o.getD j 0 < 0
        · simp +contextual (maxSteps := 4000000) only [↓ur_skip, ↓ur_seq, ↓ur_block, ↓ur_ret, ↓ur_region, ↓ur_cond, ↓cont_seq, ↓done_nil, ↓done_seq, ↓done_blk, ↓done_lp, ↓ops_consN, ↓ops_guardN, nY_move, nY_assign, nY_pick, nY_load, nY_binOp, nY_fieldAddr, nY_indexAddr, nY_callb, ↓ops_nil, opsIf_some, condC_true, guardC_tf, Option.map_some, Option.bind_some, Option.getD_some, Nat.reduceLT, Bool.false_eq_true, ↓upd_same, ↓upd_ne, Nat.reduceBEq, true_and, and_true, List.getD_cons_zero, List.getD_cons_succ, List.getElem?_toArray, List.getElem?_cons_zero, List.getElem?_cons_succ, endQ, cfg_P, cfg_frz, List.length_map, ↓havoc_in, ↓havoc_out, List.contains_cons, List.contains_nil, Bool.or_false, Bool.or_true, Int.natCast_nonneg, Int.ofNat_lt, Int.toNat_natCast, nth_int, decide_true, Option.some.injEq, exists_eq_left', Nat.lt_succ_self, cells_int, DRx_bool, ↓ev_tmp, ↓ev_int, ↓ev_bool, ↓guardP_eq, grd_some, ↓iop_move, ↓iop_assign, ↓pick3_bool, ↓iop_pick, ↓iop_load, ↓iop_binOp, ↓iop_indexAddr, idxA_int, ↓iop_callb, bi_len, lenM_none, pickP_f, loadP_vptr, indexP_lits, lenP_lits, b_lss, env0_eq, ires_eq, iresL_1, iresAll_nil, iresAll_cons, iresOne_tmp, ↓reduceIte, ↓evs_cons, ↓evs_nil, beq_self_eq_true, see_eq, nth_reps, pur_reps, Try.f42, ty3, ty25, h29, h8, hlt, h1]
          exact this
        · have h2 : (rs.length : Int) ≤ o.getD j 0 := by omega
          simp +contextual (maxSteps := 4000000) only [↓ur_skip, ↓ur_seq, ↓ur_block, ↓ur_ret, ↓ur_region, ↓ur_cond, ↓cont_seq, ↓done_nil, ↓done_seq, ↓done_blk, ↓done_lp, ↓ops_consN, ↓ops_guardN, nY_move, nY_assign, nY_pick, nY_load, nY_binOp, nY_fieldAddr, nY_indexAddr, nY_callb, ↓ops_nil, opsIf_some, condC_true, guardC_ff, Option.map_some, Option.bind_some, Option.getD_some, Nat.reduceLT, Bool.false_eq_true, ↓upd_same, ↓upd_ne, Nat.reduceBEq, true_and, and_true, List.getD_cons_zero, List.getD_cons_succ, List.getElem?_toArray, List.getElem?_cons_zero, List.getElem?_cons_succ, endQ, cfg_P, cfg_frz, List.length_map, ↓havoc_in, ↓havoc_out, List.contains_cons, List.contains_nil, Bool.or_false, Bool.or_true, Int.natCast_nonneg, Int.ofNat_lt, Int.toNat_natCast, nth_int, decide_true, decide_false, Option.some.injEq, exists_eq_left', Nat.zero_add, Nat.lt_succ_self, cells_int, DRx_bool, ↓ev_tmp, ↓ev_int, ↓ev_bool, ↓guardP_eq, grd_some, ↓iop_move, ↓iop_assign, ↓pick3_bool, ↓iop_pick, ↓iop_load, ↓iop_binOp, ↓iop_fieldAddr, ↓iop_indexAddr, idxA_int, ↓iop_callb, bi_len, lenM_none, pickP_f, loadP_vptr, fieldP_vptr, indexP_lits, lenP_lits, b_lss, b_geq, env0_eq, ires_eq, iresL_1, iresAll_nil, iresAll_cons, iresOne_tmp, ↓reduceIte, ↓evs_cons, ↓evs_nil, beq_self_eq_true, see_eq, nth_reps, pur_reps, Try.f42, ty3, ty22, ty24, ty25, h29, h8, hlt, h1, h2]
          exact this
      have hoi : o.getD j 0 = ((oi o j : Nat) : Int) := by unfold oi; omega
      have hoin : oi o j < rs.length := by omega
      have h1 : ¬ ((oi o j : Nat) : Int) < 0 := by omega
      have h2 : ¬ (rs.length : Int) ≤ ((oi o j : Nat) : Int) := by omega
      have hd := Nat.lt_of_lt_of_le (dT_lt hg) hp
      have hd2 : dT o j < 9223372036854775808 := by omega
      have ho64 : oi o j ≤ 64 := by omega
      have ho60 : oi o j ≤ 60 := by omega
      cases htb : (dT o j).testBit (oi o j)
      case true =>
        have := hbad (by simp only [goodT, htb]; simp)
        simp +contextual (maxSteps := 4000000) only [↓ur_skip, ↓ur_seq, ↓ur_block, ↓ur_ret, ↓ur_region, ↓ur_cond, ↓cont_seq, ↓done_nil, ↓done_seq, ↓done_blk, ↓done_lp, ↓ops_consN, ↓ops_guardN, nY_move, nY_assign, nY_pick, nY_load, nY_binOp, nY_fieldAddr, nY_indexAddr, nY_callf, nY_callb, ↓ops_nil, opsIf_some, condC_true, condC_false, guardC_ff, Option.map_some, Option.bind_some, Option.getD_some, Nat.reduceLT, Bool.false_eq_true, ↓upd_same, ↓upd_ne, Nat.reduceBEq, true_and, and_true, List.getD_cons_zero, List.getD_cons_succ, List.getElem?_toArray, List.getElem?_cons_zero, List.getElem?_cons_succ, endQ, cfg_P, cfg_tab, cfg_muts, cfg_frz, List.length_map, ↓havoc_in, ↓havoc_out, List.contains_cons, List.contains_nil, Bool.or_false, Bool.or_true, Int.natCast_nonneg, Int.ofNat_lt, Int.toNat_natCast, nth_int, decide_true, decide_false, Option.some.injEq, exists_eq_left', tabOf_cons, tab_v, Bool.and_self, List.nil_append, List.append_nil, Nat.zero_add, Nat.lt_succ_self, cells_int, pur_int, DRx_bool, ↓ev_tmp, ↓ev_int, ↓ev_bool, ↓ev_func, ↓guardP_eq, grd_some, ↓iop_move, ↓iop_assign, ↓pick3_bool, ↓iop_pick, ↓iop_load, ↓iop_binOp, ↓iop_fieldAddr, ↓iop_indexAddr, idxA_int, ↓iop_callv, ↓iop_callb, nrmAll_cons, nrmAll_nil, bi_len, lenM_none, nrm_int, pickP_f, loadP_vptr, fieldP_vptr, indexP_lits, lenP_lits, b_lss, b_geq, env0_eq, ires_eq, iresL_1, iresAll_nil, iresAll_cons, iresOne_tmp, valT_eq, pursL_cons, pursL_nil, ↓reduceIte, callP_eq, ↓evs_cons, ↓evs_nil, beq_self_eq_true, see_eq, and_false, Bool.true_eq_false, s_in, nth_reps, pur_reps, Try.f42, ty3, ty22, ty24, ty25, h29, h8, hlt, hoi, h1, h2, hd2, ho64, htb]
        exact this
      have hg' : goodT rs.length o (j + 1) = true := by
        simp only [goodT, htb, hg, Bool.true_and, Bool.not_false, Bool.and_true, decide_eq_true_eq]; omega
      have hpk := pow1024 (k := oi o j) (by omega)
      have hor := or_add htb
      have hwa : IntKind.i64.wrap (((dT o j : Nat) : Int) + ((2 ^ oi o j : Nat) : Int)) = ((dT o j + 2 ^ oi o j : Nat) : Int) := by
        generalize 2 ^ oi o j = q at *
        rw [wrap64 (by omega) (by omega)]; omega
      simp +contextual (maxSteps := 4000000) only [↓ur_skip, ↓ur_seq, ↓ur_block, ↓ur_region, ↓ur_cond, ↓cont_seq, ↓cont_blk, ↓cont_lp, ↓ops_consN, ↓ops_guardN, nY_move, nY_assign, nY_pick, nY_load, nY_binOp, nY_fieldAddr, nY_indexAddr, nY_callf, nY_callb, ↓ops_nil, opsIf_some, condC_true, condC_false, guardC_ff, Option.map_some, Option.bind_some, Option.getD_some, Nat.reduceLT, Bool.false_eq_true, ↓upd_same, ↓upd_ne, Nat.reduceBEq, true_and, and_true, List.getD_cons_zero, List.getD_cons_succ, List.getElem?_toArray, List.getElem?_cons_zero, List.getElem?_cons_succ, cfg_P, cfg_tab, cfg_muts, cfg_frz, List.length_map, ↓havoc_in, ↓havoc_out, agree_upd, agree_havoc, List.contains_cons, List.contains_nil, Bool.or_false, Bool.or_true, Int.natCast_nonneg, Int.ofNat_lt, Int.toNat_natCast, nth_int, decide_true, decide_false, PV.int.injEq, tabOf_cons, tab_v, Bool.and_self, Nat.reduceEqDiff, List.nil_append, List.append_nil, Nat.zero_add, Nat.lt_succ_self, cells_int, pur_int, ↓ev_tmp, ↓ev_int, ↓ev_func, ↓guardP_eq, grd_some, ↓iop_move, ↓iop_assign, ↓pick3_bool, ↓iop_pick, ↓iop_load, ↓iop_binOp, ↓iop_fieldAddr, ↓iop_indexAddr, idxA_int, ↓iop_callv, ↓iop_callb, nrmAll_cons, nrmAll_nil, bi_len, lenM_none, nrm_int, pickP_f, loadP_vptr, fieldP_vptr, indexP_lits, lenP_lits, b_add, b_lss, b_geq, env0_eq, valT_eq, pursL_cons, pursL_nil, ↓reduceIte, callP_eq, ↓evs_cons, ↓evs_nil, beq_self_eq_true, see_eq, and_false, Bool.true_eq_false, s_in, s_bit, nth_reps, pur_reps, Try.f42, ty3, ty22, ty24, ty25, h29, h8, hlt, hoi, h1, h2, hd2, ho64, ho60, htb, hwa, hor, dT, hg']
      exact hw j hlt
    · have e : j = o.length := by omega
      subst e
      simp +contextual (maxSteps := 4000000) only [↓ur_seq, ↓ur_exit, ↓ur_ret, ↓ur_region, ↓ur_cond, ↓cont_seq, ↓leave_seq, ↓leave_blk, ↓leave_lp, ↓done_nil, ↓ops_consN, nY_move, nY_assign, nY_load, nY_binOp, nY_fieldAddr, nY_callb, ↓ops_nil, opsIf_some, condC_false, Option.map_some, Option.bind_some, Option.getD_some, Nat.reduceLT, Bool.false_eq_true, ↓upd_same, ↓upd_ne, Nat.reduceBEq, true_and, List.getD_cons_zero, List.getD_cons_succ, List.getElem?_cons_zero, List.getElem?_cons_succ, endQ, cfg_P, cfg_frz, List.length_map, ↓havoc_in, ↓havoc_out, List.contains_cons, List.contains_nil, Bool.or_false, Bool.or_true, Int.ofNat_lt, decide_false, Option.some.injEq, exists_eq_left', Nat.zero_add, Nat.lt_irrefl, Nat.lt_succ_self, DRx_bool, ↓ev_tmp, ↓iop_move, ↓iop_assign, ↓iop_load, ↓iop_binOp, ↓iop_fieldAddr, ↓iop_callb, bi_len, lenM_none, pickP_f, loadP_vptr, fieldP_vptr, lenP_lits, b_eql, b_lss, env0_eq, ires_eq, iresL_1, iresAll_nil, iresAll_cons, iresOne_tmp, ↓reduceIte, Int.natCast_inj, ↓evs_cons, ↓evs_nil, beq_self_eq_true, see_eq, nth_reps, pur_reps, Try.f42, ty22, ty24, ty25, h29, h8]
      rw [← hr]
      unfold permM; rw [hg]; simp
theorem o_perm : O_perm := k_perm c_perm
end Sim
