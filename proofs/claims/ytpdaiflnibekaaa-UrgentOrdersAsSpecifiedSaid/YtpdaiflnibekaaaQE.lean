/- What functions of this seat compute, by values: contracts (lemmas of the statement's proof, under the conditions that each names). -/
import Derived.Test.YtpdaiflnibekaaaQD
namespace Sim
open Go Go.Proofs
set_option maxRecDepth 10000
set_option maxHeartbeats 2000000
set_option linter.unusedVariables false
set_option linter.unusedSimpArgs false
attribute [local congr] opsIf_congr condC_congr guardC_congr grd_congr pick3_congr obind_congr omap_congr

/-! How many are in a set. -/
def cnt (d : Nat) : Nat → Nat
  | 0 => 0
  | i + 1 => cnt d i + if d.testBit i = true then 1 else 0
theorem cnt_le {d : Nat} : ∀ n, cnt d n ≤ n
  | 0 => Nat.le_refl _
  | n + 1 => by have := cnt_le (d := d) n; simp only [cnt]; split <;> omega
theorem cnt_full {d : Nat} : ∀ {n}, cnt d n = n → ∀ i, i < n → d.testBit i = true
  | 0, _, i, hi => by omega
  | n + 1, h, i, hi => by
    have := cnt_le (d := d) n
    simp only [cnt] at h
    split at h
    · rename_i hb
      by_cases e : i = n
      · subst e; exact hb
      · exact cnt_full (n := n) (by omega) i (by omega)
    · omega
theorem cnt_congr {d e : Nat} : ∀ {n}, (∀ i, i < n → d.testBit i = e.testBit i) → cnt d n = cnt e n
  | 0, _ => rfl
  | n + 1, h => by simp only [cnt]; rw [cnt_congr (fun i hi => h i (by omega)), h n (by omega)]
theorem cnt_or {d k : Nat} (hd : d.testBit k = false) : ∀ {n}, k < n → cnt (d ||| 2 ^ k) n = cnt d n + 1
  | 0, h => by omega
  | n + 1, h => by
    simp only [cnt]
    by_cases e : k = n
    · subst e
      rw [cnt_congr (e := d) (n := k) fun i hi => by rw [Nat.testBit_or, Nat.testBit_two_pow]; simp [show ¬ k = i by omega]]
      rw [Nat.testBit_or, Nat.testBit_two_pow, hd]; simp
    · rw [cnt_or hd (n := n) (by omega), Nat.testBit_or, Nat.testBit_two_pow]
      simp [e]; omega
theorem cnt_zero : ∀ n, cnt 0 n = 0
  | 0 => rfl
  | n + 1 => by simp [cnt, cnt_zero n]
theorem full_eq {d n : Nat} (hd : d < 2 ^ n) (h : ∀ i, i < n → d.testBit i = true) : d = 2 ^ n - 1 := by
  apply Nat.eq_of_testBit_eq
  intro i
  rw [Nat.testBit_two_pow_sub_one]
  by_cases hi : i < n
  · simp [hi, h i hi]
  · simp [hi]
    exact Nat.testBit_lt_two_pow (Nat.lt_of_lt_of_le hd (Nat.pow_le_pow_right (by omega) (by omega)))
theorem cnt_all (n : Nat) : ∀ m, m ≤ n → cnt (2 ^ n - 1) m = m
  | 0, _ => rfl
  | m + 1, h => by simp only [cnt]; rw [cnt_all n m (by omega), Nat.testBit_two_pow_sub_one]; simp; omega

/-! Orders. -/
def oi (o : List Int) (j : Nat) : Nat := (o.getD j 0).toNat
def dT (o : List Int) : Nat → Nat
  | 0 => 0
  | j + 1 => dT o j ||| 2 ^ oi o j
def goodT (n : Nat) (o : List Int) : Nat → Bool
  | 0 => true
  | j + 1 => goodT n o j && (decide (0 ≤ o.getD j 0 ∧ o.getD j 0 < n) && !(dT o j).testBit (oi o j))
def stT (rs : List Rep) (o : List Int) : Nat → Bool
  | 0 => false
  | j + 1 => stT rs o j || !sub (ac rs (oi o j)) (dT o j)
def nowT (rs : List Rep) (st : Int) (o : List Int) : Nat → Int
  | 0 => st
  | j + 1 => nowT rs st o j + tk rs (oi o j)
def lateT (rs : List Rep) (st : Int) (o : List Int) : Nat → Bool
  | 0 => false
  | j + 1 => lateT rs st o j || decide (du rs (oi o j) < nowT rs st o (j + 1))
def outT (rs : List Rep) (st : Int) (o : List Int) : Nat → List Int
  | 0 => List.replicate rs.length 0
  | j + 1 => (outT rs st o j).set (oi o j) (nowT rs st o (j + 1))
def errT (rs : List Rep) (st : Int) (o : List Int) (j : Nat) : Int := if stT rs o j = true then 4 else if lateT rs st o j = true then 21 else 0
def permM (n : Nat) (o : List Int) : Bool := goodT n o o.length && decide (o.length = n)
def finM (st : Int) (rs : List Rep) (o : List Int) : List Int × Int :=
  if checkM st rs ≠ 0 then ([], checkM st rs) else if permM rs.length o = false then ([], 1) else if errT rs st o o.length ≠ 0 then ([], errT rs st o o.length) else (outT rs st o o.length, 0)
theorem outT_len {rs : List Rep} {st : Int} {o : List Int} : ∀ j, (outT rs st o j).length = rs.length
  | 0 => by simp [outT]
  | j + 1 => by simp only [outT, List.length_set]; exact outT_len j
theorem good_succ {n : Nat} {o : List Int} {j : Nat} (h : goodT n o (j + 1) = true) : goodT n o j = true ∧ (0 ≤ o.getD j 0 ∧ o.getD j 0 < n) ∧ (dT o j).testBit (oi o j) = false := by
  simpa [goodT] using h
theorem good_le {n : Nat} {o : List Int} {j : Nat} (h : goodT n o j = true) : ∀ {i}, i ≤ j → goodT n o i = true := by
  intro i hi
  induction j with
  | zero => have : i = 0 := by omega
            subst this; rfl
  | succ j ih =>
    by_cases e : i = j + 1
    · subst e; exact h
    · exact ih (good_succ h).1 (by omega)
theorem good_at {n : Nat} {o : List Int} {j i : Nat} (h : goodT n o j = true) (hi : i < j) : (0 ≤ o.getD i 0 ∧ o.getD i 0 < n) ∧ (dT o i).testBit (oi o i) = false ∧ oi o i < n := by
  have := good_succ (good_le h (i := i + 1) (by omega))
  exact ⟨this.2.1, this.2.2, by unfold oi; omega⟩
theorem dT_lt {n : Nat} {o : List Int} : ∀ {j}, goodT n o j = true → dT o j < 2 ^ n
  | 0, _ => Nat.two_pow_pos _
  | j + 1, h => or_lt n (dT_lt (good_succ h).1) (Nat.pow_lt_pow_right (by omega) (good_at h (Nat.lt_succ_self j)).2.2)
theorem dT_cnt {n : Nat} {o : List Int} : ∀ {j}, goodT n o j = true → cnt (dT o j) n = j
  | 0, _ => cnt_zero n
  | j + 1, h => by
    have := good_at h (Nat.lt_succ_self j)
    simp only [dT]
    rw [cnt_or this.2.1 this.2.2, dT_cnt (good_succ h).1]
theorem good_len {n : Nat} {o : List Int} {j : Nat} (h : goodT n o j = true) : j ≤ n := by
  have := dT_cnt h
  have := cnt_le (d := dT o j) n
  omega
theorem dT_full {n : Nat} {o : List Int} {j : Nat} (h : goodT n o j = true) : dT o j = 2 ^ n - 1 ↔ j = n := by
  have := dT_cnt h
  constructor
  · intro e; rw [e, cnt_all n n (Nat.le_refl _)] at this; exact this.symm
  · intro e; subst e; exact full_eq (dT_lt h) (cnt_full this)
theorem nowT_b {rs : List Rep} {st : Int} (hc : OKc st rs) {o : List Int} : ∀ {j}, goodT rs.length o j = true → 0 ≤ nowT rs st o j ∧ nowT rs st o j ≤ 1000000 + j * 1000000
  | 0, _ => by have := hc.start; simp only [nowT]; omega
  | j + 1, h => by
    have h1 := nowT_b hc (good_succ h).1
    have h2 := (hc.tk).2 _ (good_at h (Nat.lt_succ_self j)).2.2
    simp only [nowT]; omega
theorem outT_b {rs : List Rep} {st : Int} (hc : OKc st rs) {o : List Int} : ∀ {j}, goodT rs.length o j = true → ∀ i, 0 ≤ (outT rs st o j).getD i 0 ∧ (outT rs st o j).getD i 0 ≤ 11000000
  | 0, _, i => by
    simp only [outT, List.getD_eq_getElem?_getD, List.getElem?_replicate]
    split <;> simp
  | j + 1, h, i => by
    have h1 := nowT_b hc h
    have h2 := good_len h
    have h3 := hc.len
    simp only [outT]
    rw [getD_set]
    split
    · omega
    · exact outT_b hc (good_succ h).1 i

noncomputable def A_Fin : (Int) × (List Rep) × (List Int) → List PV := fun (st, rs, o) => [.agg [I st, reps rs], ints o]
noncomputable def R_Fin : (Int) × (List Rep) × (List Int) → PV := fun (st, rs, o) => .tuple [ints (finM st rs o).1, I (finM st rs o).2]
def H_Fin : (Int) × (List Rep) × (List Int) → Prop := fun (st, rs, o) => True
noncomputable def e_Fin : Nat × Ent := (15, .v (specOf A_Fin R_Fin H_Fin))
theorem j_Fin : ∀ i j, A_Fin i = A_Fin j → i = j := by
  rintro ⟨st₁, rs₁, o₁⟩ ⟨st₂, rs₂, o₂⟩ h
  simp only [A_Fin, List.cons.injEq, and_true, PV.lits.injEq, PV.int.injEq, PV.bool.injEq, PV.str.injEq, PV.agg.injEq, PV.func.injEq, PV.vptr.injEq, true_and, List.map_nil, inj_ints, inj_strs, inj_reps] at h
  simp [Prod.ext_iff, h] <;> omega
theorem s_Fin (st : Int) (rs : List Rep) (o : List Int) : specOf A_Fin R_Fin H_Fin [.agg [I st, reps rs], ints o] = some (.tuple [ints (finM st rs o).1, I (finM st rs o).2]) := specOf_app j_Fin (i := (st, rs, o)) trivial
def C_Fin : Prop := ∀ (st : Int) (rs : List Rep) (o : List Int) , VC Try.prog 15 [.agg [I st, reps rs], ints o] (.tuple [ints (finM st rs o).1, I (finM st rs o).2])
def O_Fin : Prop := EntOK Try.prog e_Fin.1 e_Fin.2
theorem k_Fin (c : C_Fin) : O_Fin := specOf_ok fun ⟨st, rs, o⟩ h => c st rs o
theorem c_Fin : C_Fin := by
  rintro st rs o
  refine vc_ofU mixed (l := [e_check, e_win, e_has]) ((eok_cons o_check (eok_cons o_win (eok_cons o_has eok_nil)))) [] []  Try.func15 rfl (by decide +kernel) (N := 83) rfl (by simp) rfl (by kernel_rfl) fun hs => ?_
  simp only [smallL, PV.small, List.length_map, and_true, true_and] at hs
  by_cases h : checkM st rs = 0
  case neg =>
    rw [show finM st rs o = ([], checkM st rs) by simp [finM, h]]
    generalize hr : checkM st rs = r at *
    simp +contextual (maxSteps := 4000000) only [↓ur_seq, ↓ur_ret, ↓ur_region, ↓ur_cond, ↓cont_seq, ↓done_nil, ↓done_seq, ↓ops_consN, nY_move, nY_assign, nY_box, nY_load, nY_binOp, nY_fieldAddr, nY_callf, nY_callb, ↓ops_nil, opsIf_some, condC_true, Option.map_some, Option.bind_some, Option.getD_some, Nat.reduceLT, Bool.false_eq_true, ↓upd_same, ↓upd_ne, Nat.reduceBEq, and_true, List.getD_cons_zero, List.getElem?_cons_zero, List.getElem?_cons_succ, endQ, cfg_P, cfg_tab, cfg_muts, cfg_frz, List.map_nil, List.length_map, List.contains_nil, decide_true, Option.some.injEq, exists_eq_left', List.lookup_cons, List.lookup_nil, tabOf_cons, tab_v, Bool.and_self, List.nil_append, List.append_nil, List.length_cons, List.length_nil, Nat.zero_add, List.drop_zero, Nat.reduceAdd, Nat.lt_succ_self, not_false_eq_true, st0, Nat.le_refl, pur_int, pur_lits, cells_agg, pur_agg, DRx_int, DRx_nils_lits, DRx_tuple, DRxL_cons, DRxL_nil, ↓ev_tmp, ↓ev_int, ↓ev_nils, ↓ev_func, ↓iop_move, ↓iop_assign, ↓iop_box, ↓iop_load, ↓iop_binOp, ↓iop_fieldAddr, ↓iop_callv, ↓iop_callb, nrmAll_cons, nrmAll_nil, bi_len, lenM_none, nrm_agg, nrmL_cons, nrmL_nil, nrm1_int, nrm1_lits, pickP_f, pickP_t, loadP_vptr, fieldP_vptr, lenP_lits, b_neq, env0_eq, ires_eq, iresL_2, iresAll_nil, iresAll_cons, iresOne_tmp, valT_eq, pursL_cons, pursL_nil, ↓reduceIte, callP_eq, boxP_eq, List.take_succ_cons, List.take_nil, ↓evs_cons, ↓evs_nil, beq_self_eq_true, see_eq, and_false, Bool.true_eq_false, e_check, s_check, e_win, e_has, nth_reps, pur_reps, Try.f15, ty22, ty24, h, hr]
  have hc := check_zero.1 h
  have h10 := hc.len
  have hfin : finM st rs o = if permM rs.length o = false then ([], 1) else if errT rs st o o.length ≠ 0 then ([], errT rs st o o.length) else (outT rs st o o.length, 0) := by simp [finM, h]
  generalize hr : finM st rs o = r
  have hmax : (rs.length : Int) ≤ 4294967296 := by omega
  have hsub1 : IntKind.i64.wrap ((rs.length : Int) - 1) = (rs.length : Int) - 1 := wrap64 (by omega) (by omega)
  have hp := pow1024 (k := rs.length) h10
  have hp1 := one_le_pow rs.length
  have hsh := shl1 (k := rs.length) (by omega)
  have h64 : rs.length ≤ 64 := by omega
  have hw1 : IntKind.i64.wrap (((2 ^ rs.length : Nat) : Int) - 1) = ((2 ^ rs.length - 1 : Nat) : Int) := by
    generalize 2 ^ rs.length = q at *
    rw [wrap64 (by omega) (by omega)]; omega
  have hw : ∀ i : Nat, i < o.length → IntKind.i64.wrap ((i : Int) + 1) = ((i + 1 : Nat) : Int) := fun i g => by rw [wrap64 (by omega) (by omega)]; omega
  simp +contextual (maxSteps := 4000000) only [↓ur_skip, ↓ur_seq, ↓ur_block, ↓ur_region, ↓ur_cond, ↓cont_seq, ↓ops_consN, nY_move, nY_assign, nY_box, nY_load, nY_binOp, nY_makeSlice, nY_fieldAddr, nY_callf, nY_callb, ↓ops_nil, opsIf_some, condC_false, Option.map_some, Option.bind_some, Option.getD_some, Nat.reduceLT, Bool.false_eq_true, ↓upd_same, ↓upd_ne, Nat.reduceBEq, true_and, and_true, List.getD_cons_zero, List.getD_cons_succ, List.getElem?_cons_zero, List.getElem?_cons_succ, cfg_P, cfg_tab, cfg_muts, cfg_frz, cfg_num, numOf_eq, List.length_map, List.contains_nil, Int.natCast_nonneg, Int.toNat_natCast, decide_false, List.lookup_cons, List.lookup_nil, tabOf_cons, tab_v, Bool.and_self, List.nil_append, List.append_nil, List.length_cons, List.length_nil, Nat.zero_add, Nat.add_zero, List.drop_zero, Nat.reduceAdd, Nat.lt_succ_self, not_true_eq_false, st0, Nat.le_refl, pur_int, pur_lits, cells_agg, pur_agg, ↓ev_tmp, ↓ev_int, ↓ev_nils, ↓ev_func, ↓iop_move, ↓iop_assign, ↓iop_box, ↓iop_load, ↓iop_binOp, ↓iop_makeSlice, mkSl_int, ↓iop_fieldAddr, ↓iop_callv, ↓iop_callb, nrmAll_cons, nrmAll_nil, bi_len, lenM_none, nrm_agg, nrmL_cons, nrmL_nil, nrm1_int, nrm1_lits, pickP_f, pickP_t, loadP_vptr, fieldP_vptr, lenP_lits, b_neq, env0_eq, valT_eq, pursL_cons, pursL_nil, Store.new, ↓reduceIte, callP_eq, boxP_eq, List.take_succ_cons, List.take_nil, ↓evs_cons, ↓evs_nil, Int.le_refl, beq_self_eq_true, see_eq, and_false, Bool.true_eq_false, e_check, s_check, e_win, e_has, nth_reps, pur_reps, Try.f15, ty3, ty22, ty24, ty25, h, hmax]
  refine loop_cnt [4, 5, 8, 9, 10, 13, 14, 29, 30, 31, 32, 33, 34, 35, 36, 37, 38, 39, 40, 41, 42, 43, 44, 45, 46, 47, 48, 49, 50, 51, 52, 53, 54, 55, 56, 57, 58, 59, 60, 61, 62, 63, 64, 65, 66, 67, 68, 69, 70, 71, 72, 73] o.length (fun j ρ st' => ρ 29 = I j ∧ ρ 8 = I (dT o j) ∧ ρ 9 = I (errT rs st o j) ∧ ρ 10 = I (nowT rs st o j) ∧ goodT rs.length o j = true ∧ st'.obj 0 = some (.arr 0 1 ((outT rs st o j).map (PV.int .i64))) ∧ 0 < st'.next) (.refl _) ?_ ?_
  · simp +contextual (maxSteps := 4000000) only [↓upd_same, ↓upd_ne, Nat.reduceBEq, true_and, and_true, Option.some.injEq, PV.int.injEq, updO_same, IObj.arr.injEq, Nat.lt_succ_self, Int.cast_ofNat_Int, nth_reps, pur_reps, Try.f15]
    simp [dT, nowT, errT, stT, lateT, goodT, outT]
  · rintro j ρ ⟨ob, M⟩ hj ⟨h29, h8, h9, h10', hg, h0, hM⟩
    dsimp only at h0 hM
    have n1 : ¬ 0 = M := by omega
    have n2 : ¬ M = 0 := by omega
    by_cases hlt : j < o.length
    · have hbad : goodT rs.length o (j + 1) = false → r = ([], 1) := fun hb => by
        have : permM rs.length o = false := by
          cases hpm : permM rs.length o with
          | false => rfl
          | true =>
            simp only [permM, Bool.and_eq_true] at hpm
            have := good_le hpm.1 (i := j + 1) (by omega)
            rw [hb] at this; cases this
        rw [← hr, hfin, if_pos this]
      by_cases hin : 0 ≤ o.getD j 0 ∧ o.getD j 0 ≤ (rs.length : Int) - 1
      case neg =>
        have := hbad (by simp only [goodT]; rw [show decide (0 ≤ o.getD j 0 ∧ o.getD j 0 < rs.length) = false by simp only [decide_eq_false_iff_not]; omega]; simp)
        subst this
        simp +contextual (maxSteps := 4000000) only [↓ur_skip, ↓ur_seq, ↓ur_block, ↓ur_ret, ↓ur_region, ↓ur_cond, ↓cont_seq, ↓done_nil, ↓done_seq, ↓done_blk, ↓done_lp, ↓ops_consN, ↓ops_guardN, nY_move, nY_assign, nY_pick, nY_load, nY_binOp, nY_unOp, nY_indexAddr, nY_callf, ↓ops_nil, opsIf_some, condC_true, guardC_tf, Option.map_some, Option.bind_some, Option.getD_some, Nat.reduceLT, Bool.false_eq_true, ↓upd_same, ↓upd_ne, Nat.reduceBEq, true_and, and_true, List.getElem?_toArray, List.getElem?_cons_zero, List.getElem?_cons_succ, endQ, cfg_P, cfg_tab, cfg_muts, cfg_frz, List.map_nil, List.length_map, ↓havoc_in, ↓havoc_out, List.contains_cons, List.contains_nil, Bool.or_false, Bool.or_true, Int.natCast_nonneg, Int.ofNat_lt, Int.toNat_natCast, nth_int, decide_true, decide_false, Option.some.injEq, exists_eq_left', tabOf_cons, tab_v, Bool.and_self, Nat.reduceEqDiff, List.nil_append, List.append_nil, Nat.lt_succ_self, Bool.not_false, cells_int, pur_int, DRx_int, DRx_nils_lits, DRx_tuple, DRxL_cons, DRxL_nil, ↓ev_tmp, ↓ev_int, ↓ev_bool, ↓ev_nils, ↓ev_func, ↓guardP_eq, grd_some, ↓iop_move, ↓iop_assign, ↓pick3_bool, ↓iop_pick, ↓iop_load, ↓iop_binOp, ↓iop_unOp, ↓iop_indexAddr, idxA_int, ↓iop_callv, nrmAll_cons, nrmAll_nil, nrm_int, pickP_f, loadP_vptr, indexP_lits, b_sub, b_lss, u_not, ires_eq, iresL_2, iresAll_nil, iresAll_cons, iresOne_tmp, valT_eq, pursL_cons, pursL_nil, ↓reduceIte, callP_eq, ↓evs_cons, ↓evs_nil, beq_self_eq_true, see_eq, and_false, Bool.true_eq_false, s_win, nth_reps, pur_reps, Try.f15, ty3, ty25, h29, h8, h9, h10', h0, hM, hlt, hsub1, hin]
      have hoi : o.getD j 0 = ((oi o j : Nat) : Int) := by unfold oi; omega
      have hoin : oi o j < rs.length := by omega
      have hin' : (0 : Int) ≤ ((oi o j : Nat) : Int) ∧ ((oi o j : Nat) : Int) ≤ (rs.length : Int) - 1 := by omega
      have hd := Nat.lt_of_lt_of_le (dT_lt hg) hp
      have hd2 : dT o j < 9223372036854775808 := by omega
      have ho64 : oi o j ≤ 64 := by omega
      cases htb : (dT o j).testBit (oi o j)
      case true =>
        have := hbad (by simp only [goodT, htb]; simp)
        subst this
        simp +contextual (maxSteps := 4000000) only [↓ur_skip, ↓ur_seq, ↓ur_block, ↓ur_ret, ↓ur_region, ↓ur_cond, ↓cont_seq, ↓done_nil, ↓done_seq, ↓done_blk, ↓done_lp, ↓ops_consN, ↓ops_guardN, nY_move, nY_assign, nY_pick, nY_load, nY_binOp, nY_unOp, nY_indexAddr, nY_callf, ↓ops_nil, opsIf_some, condC_true, guardC_ff, Option.map_some, Option.bind_some, Option.getD_some, Nat.reduceLT, Bool.false_eq_true, ↓upd_same, ↓upd_ne, Nat.reduceBEq, and_true, List.getElem?_toArray, List.getElem?_cons_zero, List.getElem?_cons_succ, endQ, cfg_P, cfg_tab, cfg_muts, cfg_frz, List.map_nil, List.length_map, ↓havoc_in, ↓havoc_out, List.contains_cons, List.contains_nil, Bool.or_false, Bool.or_true, Int.natCast_nonneg, Int.ofNat_lt, Int.toNat_natCast, nth_int, decide_true, Option.some.injEq, exists_eq_left', tabOf_cons, tab_v, Bool.and_self, Nat.reduceEqDiff, List.nil_append, List.append_nil, Nat.lt_succ_self, Bool.not_true, cells_int, pur_int, DRx_int, DRx_nils_lits, DRx_tuple, DRxL_cons, DRxL_nil, ↓ev_tmp, ↓ev_int, ↓ev_nils, ↓ev_func, ↓guardP_eq, grd_some, ↓iop_move, ↓iop_assign, ↓pick3_bool, ↓iop_pick, ↓iop_load, ↓iop_binOp, ↓iop_unOp, ↓iop_indexAddr, idxA_int, ↓iop_callv, nrmAll_cons, nrmAll_nil, nrm_int, pickP_f, loadP_vptr, indexP_lits, b_sub, b_lss, u_not, ires_eq, iresL_2, iresAll_nil, iresAll_cons, iresOne_tmp, valT_eq, pursL_cons, pursL_nil, ↓reduceIte, callP_eq, ↓evs_cons, ↓evs_nil, beq_self_eq_true, see_eq, and_false, Bool.true_eq_false, s_win, s_has, nth_reps, pur_reps, Try.f15, ty3, ty25, ty64, h29, h8, h9, h10', h0, hM, hlt, hsub1, hoi, hin', hd2, ho64, htb]
      have hg' : goodT rs.length o (j + 1) = true := by
        simp only [goodT, htb, hg, Bool.true_and, Bool.not_false, Bool.and_true, decide_eq_true_eq]; omega
      have hl := hc.rep _ hoin
      have hac : ac rs (oi o j) < 9223372036854775808 := by omega
      have hz := andNI_zero (a := ac rs (oi o j)) (b := dT o j) hac hd2
      have hpk := pow1024 (k := oi o j) (by omega)
      have hsk := shl1 (k := oi o j) (by omega)
      have hor := orI_nat (a := dT o j) (b := 2 ^ oi o j) hd2 (by omega)
      have hn1 := nowT_b hc hg
      have hn2 := good_len hg
      have ht := (hc.tk).2 _ hoin
      have hadd : IntKind.i64.wrap (nowT rs st o j + tk rs (oi o j)) = nowT rs st o (j + 1) := wrap64 (by omega) (by omega)
      have hol : oi o j < (outT rs st o j).length := by rw [outT_len]; exact hoin
      have hout : outT rs st o (j + 1) = (outT rs st o j).set (oi o j) (nowT rs st o (j + 1)) := rfl
      have herr : errT rs st o (j + 1) = if (stT rs o j || !sub (ac rs (oi o j)) (dT o j)) = true then 4 else if (lateT rs st o j || decide (du rs (oi o j) < nowT rs st o (j + 1))) = true then 21 else 0 := rfl
      have her : errT rs st o j = if stT rs o j = true then 4 else if lateT rs st o j = true then 21 else 0 := rfl
      cases hsb : sub (ac rs (oi o j)) (dT o j)
      · rw [hsb] at hz herr
        have hz : ¬ andNI (ac rs (oi o j)) (dT o j) = 0 := fun g => by have := hz.1 g; cases this
        have herr : errT rs st o (j + 1) = 4 := by rw [herr]; simp
        by_cases hlate : du rs (oi o j) < nowT rs st o (j + 1)
        · simp +contextual (maxSteps := 4000000) only [↓ur_skip, ↓ur_seq, ↓ur_block, ↓ur_region, ↓ur_cond, ↓cont_seq, ↓cont_blk, ↓cont_lp, ↓ops_consN, ↓ops_guardN, nY_move, nY_assign, nY_pick, nY_alloc, nY_load, nY_store, nY_binOp, nY_unOp, nY_fieldAddr, nY_indexAddr, nY_callf, ↓ops_nil, opsIf_some, opsIf_none, opsIf_if', map_if, condC_true, condC_false, guardC_tt, guardC_ff, Option.map_some, Option.map_none, Option.bind_some, Option.getD_some, Nat.reduceLT, Bool.false_eq_true, ↓upd_same, ↓upd_ne, Nat.reduceBEq, true_and, and_true, List.getElem?_toArray, List.getElem?_cons_zero, List.getElem?_cons_succ, cfg_P, cfg_tab, cfg_muts, cfg_frz, cfg_num, numOf_eq, List.length_map, ↓havoc_in, ↓havoc_out, agree_upd, agree_havoc, List.contains_cons, List.contains_nil, Bool.or_false, Bool.or_true, Int.natCast_nonneg, Int.ofNat_lt, Int.toNat_natCast, nth_int, decide_true, decide_false, PV.int.injEq, tabOf_cons, tab_v, Bool.and_self, Nat.reduceEqDiff, List.nil_append, List.append_nil, updO_same, updO_ne, List.length_cons, List.length_nil, Nat.zero_add, Nat.add_zero, List.drop_zero, List.take_zero, Nat.reduceAdd, List.set_cons_zero, nth_zero, Nat.lt_succ_self, Bool.not_true, not_false_eq_true, Int.reduceEq, Nat.le_refl, cells_int, pur_int, cells_agg, ↓ev_tmp, ↓ev_int, ↓ev_func, ↓guardP_eq, grd_some, ↓iop_move, ↓iop_assign, ↓pick3_bool, ↓iop_pick, ↓iop_alloc, ↓iop_load, ↓iop_store, ↓iop_binOp, ↓iop_unOp, ↓iop_fieldAddr, ↓iop_indexAddr, idxA_int, ↓iop_callv, nrmAll_cons, nrmAll_nil, nrm_int, pickP_f, pickP_t, loadP_vptr, loadP_ptr, setCells_agg, setCells_int, storeP_ptr, fieldP_vptr, fieldP_ptr, indexP_lits, indexP_ref, b_add, b_sub, b_or, b_andNot, b_eql, b_neq, b_lss, b_gtr, b_shl, u_not, splice_eq, valT_eq, pursL_cons, pursL_nil, Store.new, Store.set, ↓reduceIte, arr_eq, arrB_some, callP_eq, beq_eq_false_iff_ne, ne_eq, set_int, List.take_succ_cons, List.drop_succ_cons, List.drop_nil, List.take_nil, ↓evs_cons, ↓evs_nil, beq_self_eq_true, see_eq, and_false, Bool.true_eq_false, bits_i64, or_i64, Nat.min_def, s_win, s_has, nth_reps, pur_reps, Try.f15, ty3, ty22, ty24, ty25, ty56, ty64, h29, h8, h9, h10', h0, hM, n1, n2, hlt, hsub1, hoi, hoin, hin', hd2, ho64, htb, andNot_i64, af_at, tk_at, du_at, hl.2.1, hz, hadd, hlate, hsk, hor, outT_len, hout, herr, dT, hg']
          exact ⟨by omega, hw j hlt, by omega⟩
        · simp +contextual (maxSteps := 4000000) only [↓ur_skip, ↓ur_seq, ↓ur_block, ↓ur_region, ↓ur_cond, ↓cont_seq, ↓cont_blk, ↓cont_lp, ↓ops_consN, ↓ops_guardN, nY_move, nY_assign, nY_pick, nY_alloc, nY_load, nY_store, nY_binOp, nY_unOp, nY_fieldAddr, nY_indexAddr, nY_callf, ↓ops_nil, opsIf_some, opsIf_none, opsIf_if', map_if, condC_true, condC_false, guardC_ft, guardC_ff, Option.map_some, Option.map_none, Option.bind_some, Option.getD_some, Nat.reduceLT, Bool.false_eq_true, ↓upd_same, ↓upd_ne, Nat.reduceBEq, true_and, and_true, List.getElem?_toArray, List.getElem?_cons_zero, List.getElem?_cons_succ, cfg_P, cfg_tab, cfg_muts, cfg_frz, cfg_num, numOf_eq, List.length_map, ↓havoc_in, ↓havoc_out, agree_upd, agree_havoc, List.contains_cons, List.contains_nil, Bool.or_false, Bool.or_true, Int.natCast_nonneg, Int.ofNat_lt, Int.toNat_natCast, nth_int, decide_true, decide_false, PV.int.injEq, tabOf_cons, tab_v, Bool.and_self, Nat.reduceEqDiff, List.nil_append, List.append_nil, updO_same, updO_ne, List.length_cons, List.length_nil, Nat.zero_add, Nat.add_zero, List.drop_zero, List.take_zero, Nat.reduceAdd, List.set_cons_zero, nth_zero, Nat.lt_succ_self, Bool.not_true, not_false_eq_true, Nat.le_refl, cells_int, pur_int, cells_agg, ↓ev_tmp, ↓ev_int, ↓ev_bool, ↓ev_func, ↓guardP_eq, grd_some, ↓iop_move, ↓iop_assign, ↓pick3_bool, ↓iop_pick, ↓iop_alloc, ↓iop_load, ↓iop_store, ↓iop_binOp, ↓iop_unOp, ↓iop_fieldAddr, ↓iop_indexAddr, idxA_int, ↓iop_callv, nrmAll_cons, nrmAll_nil, nrm_int, pickP_f, pickP_t, loadP_vptr, loadP_ptr, setCells_agg, setCells_int, storeP_ptr, fieldP_vptr, fieldP_ptr, indexP_lits, indexP_ref, b_add, b_sub, b_or, b_andNot, b_neq, b_lss, b_gtr, b_shl, u_not, splice_eq, valT_eq, pursL_cons, pursL_nil, Store.new, Store.set, ↓reduceIte, arr_eq, arrB_some, callP_eq, beq_eq_false_iff_ne, ne_eq, set_int, List.take_succ_cons, List.drop_succ_cons, List.drop_nil, List.take_nil, ↓evs_cons, ↓evs_nil, beq_self_eq_true, see_eq, and_false, Bool.true_eq_false, bits_i64, or_i64, Nat.min_def, s_win, s_has, nth_reps, pur_reps, Try.f15, ty3, ty22, ty24, ty25, ty56, ty64, h29, h8, h9, h10', h0, hM, n1, n2, hlt, hsub1, hoi, hoin, hin', hd2, ho64, htb, andNot_i64, af_at, tk_at, du_at, hl.2.1, hz, hadd, hlate, hsk, hor, outT_len, hout, herr, dT, hg']
          exact ⟨by omega, hw j hlt, by omega⟩
      · rw [hsb] at hz herr
        have hz := hz.2 rfl
        by_cases hlate : du rs (oi o j) < nowT rs st o (j + 1)
        · have herr2 : errT rs st o (j + 1) = if errT rs st o j = 0 then 21 else errT rs st o j := by
            rw [herr, her]
            cases stT rs o j <;> cases lateT rs st o j <;> simp [hlate]
          by_cases he0 : errT rs st o j = 0
          · rw [if_pos he0] at herr2
            simp +contextual (maxSteps := 4000000) only [↓ur_skip, ↓ur_seq, ↓ur_block, ↓ur_region, ↓ur_cond, ↓cont_seq, ↓cont_blk, ↓cont_lp, ↓ops_consN, ↓ops_guardN, nY_move, nY_assign, nY_pick, nY_alloc, nY_load, nY_store, nY_binOp, nY_unOp, nY_fieldAddr, nY_indexAddr, nY_callf, ↓ops_nil, opsIf_some, opsIf_none, opsIf_if', map_if, condC_true, condC_false, guardC_tt, guardC_ff, Option.map_some, Option.map_none, Option.bind_some, Option.getD_some, Nat.reduceLT, Bool.false_eq_true, ↓upd_same, ↓upd_ne, Nat.reduceBEq, true_and, and_true, List.getElem?_toArray, List.getElem?_cons_zero, List.getElem?_cons_succ, cfg_P, cfg_tab, cfg_muts, cfg_frz, cfg_num, numOf_eq, List.length_map, ↓havoc_in, ↓havoc_out, agree_upd, agree_havoc, List.contains_cons, List.contains_nil, Bool.or_false, Bool.or_true, Int.natCast_nonneg, Int.ofNat_lt, Int.toNat_natCast, nth_int, decide_true, decide_false, PV.int.injEq, tabOf_cons, tab_v, Bool.and_self, Nat.reduceEqDiff, List.nil_append, List.append_nil, updO_same, updO_ne, List.length_cons, List.length_nil, Nat.zero_add, Nat.add_zero, List.drop_zero, List.take_zero, Nat.reduceAdd, List.set_cons_zero, nth_zero, Nat.lt_succ_self, Bool.not_true, not_true_eq_false, not_false_eq_true, Nat.le_refl, cells_int, pur_int, cells_agg, ↓ev_tmp, ↓ev_int, ↓ev_func, ↓guardP_eq, grd_some, ↓iop_move, ↓iop_assign, ↓pick3_bool, ↓iop_pick, ↓iop_alloc, ↓iop_load, ↓iop_store, ↓iop_binOp, ↓iop_unOp, ↓iop_fieldAddr, ↓iop_indexAddr, idxA_int, ↓iop_callv, nrmAll_cons, nrmAll_nil, nrm_int, pickP_f, pickP_t, loadP_vptr, loadP_ptr, setCells_agg, setCells_int, storeP_ptr, fieldP_vptr, fieldP_ptr, indexP_lits, indexP_ref, b_add, b_sub, b_or, b_andNot, b_eql, b_neq, b_lss, b_gtr, b_shl, u_not, splice_eq, valT_eq, pursL_cons, pursL_nil, Store.new, Store.set, ↓reduceIte, arr_eq, arrB_some, callP_eq, beq_eq_false_iff_ne, ne_eq, set_int, List.take_succ_cons, List.drop_succ_cons, List.drop_nil, List.take_nil, ↓evs_cons, ↓evs_nil, beq_self_eq_true, see_eq, and_false, Bool.true_eq_false, bits_i64, or_i64, Nat.min_def, s_win, s_has, nth_reps, pur_reps, Try.f15, ty3, ty22, ty24, ty25, ty56, ty64, h29, h8, h9, h10', h0, hM, n1, n2, hlt, hsub1, hoi, hoin, hin', hd2, ho64, htb, andNot_i64, af_at, tk_at, du_at, hl.2.1, hz, hadd, hlate, he0, hsk, hor, outT_len, hout, herr2, dT, hg']
            exact ⟨by omega, hw j hlt, by omega⟩
          · rw [if_neg he0] at herr2
            simp +contextual (maxSteps := 4000000) only [↓ur_skip, ↓ur_seq, ↓ur_block, ↓ur_region, ↓ur_cond, ↓cont_seq, ↓cont_blk, ↓cont_lp, ↓ops_consN, ↓ops_guardN, nY_move, nY_assign, nY_pick, nY_alloc, nY_load, nY_store, nY_binOp, nY_unOp, nY_fieldAddr, nY_indexAddr, nY_callf, ↓ops_nil, opsIf_some, opsIf_none, opsIf_if', map_if, condC_true, condC_false, guardC_tt, guardC_ff, Option.map_some, Option.map_none, Option.bind_some, Option.getD_some, Nat.reduceLT, Bool.false_eq_true, ↓upd_same, ↓upd_ne, Nat.reduceBEq, true_and, and_true, List.getElem?_toArray, List.getElem?_cons_zero, List.getElem?_cons_succ, cfg_P, cfg_tab, cfg_muts, cfg_frz, cfg_num, numOf_eq, List.length_map, ↓havoc_in, ↓havoc_out, agree_upd, agree_havoc, List.contains_cons, List.contains_nil, Bool.or_false, Bool.or_true, Int.natCast_nonneg, Int.ofNat_lt, Int.toNat_natCast, nth_int, decide_true, decide_false, PV.int.injEq, tabOf_cons, tab_v, Bool.and_self, Nat.reduceEqDiff, List.nil_append, List.append_nil, updO_same, updO_ne, List.length_cons, List.length_nil, Nat.zero_add, Nat.add_zero, List.drop_zero, List.take_zero, Nat.reduceAdd, List.set_cons_zero, nth_zero, Nat.lt_succ_self, Bool.not_true, not_true_eq_false, not_false_eq_true, Nat.le_refl, cells_int, pur_int, cells_agg, ↓ev_tmp, ↓ev_int, ↓ev_func, ↓guardP_eq, grd_some, ↓iop_move, ↓iop_assign, ↓pick3_bool, ↓iop_pick, ↓iop_alloc, ↓iop_load, ↓iop_store, ↓iop_binOp, ↓iop_unOp, ↓iop_fieldAddr, ↓iop_indexAddr, idxA_int, ↓iop_callv, nrmAll_cons, nrmAll_nil, nrm_int, pickP_f, pickP_t, loadP_vptr, loadP_ptr, setCells_agg, setCells_int, storeP_ptr, fieldP_vptr, fieldP_ptr, indexP_lits, indexP_ref, b_add, b_sub, b_or, b_andNot, b_eql, b_neq, b_lss, b_gtr, b_shl, u_not, splice_eq, valT_eq, pursL_cons, pursL_nil, Store.new, Store.set, ↓reduceIte, arr_eq, arrB_some, callP_eq, beq_eq_false_iff_ne, ne_eq, set_int, List.take_succ_cons, List.drop_succ_cons, List.drop_nil, List.take_nil, ↓evs_cons, ↓evs_nil, beq_self_eq_true, see_eq, and_false, Bool.true_eq_false, bits_i64, or_i64, Nat.min_def, s_win, s_has, nth_reps, pur_reps, Try.f15, ty3, ty22, ty24, ty25, ty56, ty64, h29, h8, h9, h10', h0, hM, n1, n2, hlt, hsub1, hoi, hoin, hin', hd2, ho64, htb, andNot_i64, af_at, tk_at, du_at, hl.2.1, hz, hadd, hlate, he0, hsk, hor, outT_len, hout, herr2, dT, hg']
            exact ⟨by omega, hw j hlt, by omega⟩
        · have herr2 : errT rs st o (j + 1) = errT rs st o j := by
            rw [herr, her]
            cases stT rs o j <;> cases lateT rs st o j <;> simp [hlate]
          simp +contextual (maxSteps := 4000000) only [↓ur_skip, ↓ur_seq, ↓ur_block, ↓ur_region, ↓ur_cond, ↓cont_seq, ↓cont_blk, ↓cont_lp, ↓ops_consN, ↓ops_guardN, nY_move, nY_assign, nY_pick, nY_alloc, nY_load, nY_store, nY_binOp, nY_unOp, nY_fieldAddr, nY_indexAddr, nY_callf, ↓ops_nil, opsIf_some, opsIf_none, opsIf_if', map_if, condC_true, condC_false, guardC_ft, guardC_ff, Option.map_some, Option.map_none, Option.bind_some, Option.getD_some, Nat.reduceLT, Bool.false_eq_true, ↓upd_same, ↓upd_ne, Nat.reduceBEq, true_and, and_true, List.getElem?_toArray, List.getElem?_cons_zero, List.getElem?_cons_succ, cfg_P, cfg_tab, cfg_muts, cfg_frz, cfg_num, numOf_eq, List.length_map, ↓havoc_in, ↓havoc_out, agree_upd, agree_havoc, List.contains_cons, List.contains_nil, Bool.or_false, Bool.or_true, Int.natCast_nonneg, Int.ofNat_lt, Int.toNat_natCast, nth_int, decide_true, decide_false, PV.int.injEq, tabOf_cons, tab_v, Bool.and_self, Nat.reduceEqDiff, List.nil_append, List.append_nil, updO_same, updO_ne, List.length_cons, List.length_nil, Nat.zero_add, Nat.add_zero, List.drop_zero, List.take_zero, Nat.reduceAdd, List.set_cons_zero, nth_zero, Nat.lt_succ_self, Bool.not_true, not_true_eq_false, not_false_eq_true, Nat.le_refl, cells_int, pur_int, cells_agg, ↓ev_tmp, ↓ev_int, ↓ev_bool, ↓ev_func, ↓guardP_eq, grd_some, ↓iop_move, ↓iop_assign, ↓pick3_bool, ↓iop_pick, ↓iop_alloc, ↓iop_load, ↓iop_store, ↓iop_binOp, ↓iop_unOp, ↓iop_fieldAddr, ↓iop_indexAddr, idxA_int, ↓iop_callv, nrmAll_cons, nrmAll_nil, nrm_int, pickP_f, pickP_t, loadP_vptr, loadP_ptr, setCells_agg, setCells_int, storeP_ptr, fieldP_vptr, fieldP_ptr, indexP_lits, indexP_ref, b_add, b_sub, b_or, b_andNot, b_neq, b_lss, b_gtr, b_shl, u_not, splice_eq, valT_eq, pursL_cons, pursL_nil, Store.new, Store.set, ↓reduceIte, arr_eq, arrB_some, callP_eq, beq_eq_false_iff_ne, ne_eq, set_int, List.take_succ_cons, List.drop_succ_cons, List.drop_nil, List.take_nil, ↓evs_cons, ↓evs_nil, beq_self_eq_true, see_eq, and_false, Bool.true_eq_false, bits_i64, or_i64, Nat.min_def, s_win, s_has, nth_reps, pur_reps, Try.f15, ty3, ty22, ty24, ty25, ty56, ty64, h29, h8, h9, h10', h0, hM, n1, n2, hlt, hsub1, hoi, hoin, hin', hd2, ho64, htb, andNot_i64, af_at, tk_at, du_at, hl.2.1, hz, hadd, hlate, hsk, hor, outT_len, hout, herr2, dT, hg']
          exact ⟨by omega, hw j hlt, by omega⟩
    · have e : j = o.length := by omega
      subst e
      have hfull := dT_full hg
      by_cases hlen : o.length = rs.length
      · have hd := hfull.2 hlen
        have hperm : permM rs.length o = true := by unfold permM; rw [hg]; simp [hlen]
        rw [if_neg (by simp [hperm])] at hfin
        by_cases he0 : errT rs st o o.length = 0
        · rw [if_neg (by simp [he0])] at hfin
          rw [hfin] at hr
          subst hr
          simp +contextual (maxSteps := 4000000) only [↓ur_skip, ↓ur_seq, ↓ur_exit, ↓ur_ret, ↓ur_region, ↓ur_cond, ↓cont_seq, ↓leave_seq, ↓leave_blk, ↓leave_lp, ↓done_nil, ↓ops_consN, nY_move, nY_assign, nY_binOp, ↓ops_nil, opsIf_some, opsIf_if', map_if, condC_false, Option.map_some, Option.map_none, Option.bind_some, Nat.reduceLT, ↓upd_same, ↓upd_ne, Nat.reduceBEq, true_and, and_true, endQ, cfg_P, List.length_map, ↓havoc_in, ↓havoc_out, List.contains_cons, List.contains_nil, Bool.or_false, Bool.or_true, Int.ofNat_lt, Int.toNat_natCast, decide_false, Option.some.injEq, exists_eq_left', pur_ints, Nat.zero_add, List.drop_zero, Prod.mk.injEq, Nat.lt_irrefl, Nat.lt_succ_self, not_true_eq_false, DRx_int, DRx_ref, DRx_tuple, DRxL_cons, DRxL_nil, ↓ev_tmp, ↓ev_int, ↓iop_move, ↓iop_assign, ↓iop_binOp, b_sub, b_neq, b_lss, b_shl, ires_eq, iresL_2, iresAll_nil, iresAll_cons, iresOne_tmp, ↓reduceIte, arr_eq, arrB_some, beq_self_eq_true, bits_i64, Nat.min_def, nth_reps, pur_reps, Try.f15, h29, h8, h9, h10', h0, hM, n1, n2, h64, hsh, hw1, hd, he0]
          rw [outT_len, List.take_of_length_le (by simp [outT_len])]
          exact ⟨by omega, Nat.le_refl _, rfl⟩
        · rw [if_pos he0] at hfin
          rw [hfin] at hr
          subst hr
          simp +contextual (maxSteps := 4000000) only [↓ur_skip, ↓ur_seq, ↓ur_exit, ↓ur_ret, ↓ur_region, ↓ur_cond, ↓cont_seq, ↓leave_seq, ↓leave_blk, ↓leave_lp, ↓done_nil, ↓done_seq, ↓ops_consN, nY_move, nY_assign, nY_binOp, ↓ops_nil, opsIf_some, opsIf_if', map_if, condC_true, condC_false, Option.map_some, Option.map_none, Option.bind_some, Nat.reduceLT, ↓upd_same, ↓upd_ne, Nat.reduceBEq, true_and, and_true, endQ, cfg_P, List.map_nil, ↓havoc_in, ↓havoc_out, List.contains_cons, List.contains_nil, Bool.or_false, Bool.or_true, Int.ofNat_lt, Int.toNat_natCast, decide_true, decide_false, Option.some.injEq, exists_eq_left', Nat.lt_irrefl, not_true_eq_false, not_false_eq_true, DRx_int, DRx_nils_lits, DRx_tuple, DRxL_cons, DRxL_nil, ↓ev_tmp, ↓ev_int, ↓ev_nils, ↓iop_move, ↓iop_assign, ↓iop_binOp, b_sub, b_neq, b_lss, b_shl, ires_eq, iresL_2, iresAll_nil, iresAll_cons, iresOne_tmp, ↓reduceIte, beq_self_eq_true, bits_i64, Nat.min_def, nth_reps, pur_reps, Try.f15, h29, h8, h9, h10', h0, hM, n1, n2, h64, hsh, hw1, hd, he0]
          omega
      · have hd : ¬ dT o o.length = 2 ^ rs.length - 1 := fun g => hlen (hfull.1 g)
        have hperm : permM rs.length o = false := by simp [permM, hlen]
        rw [if_pos hperm] at hfin
        rw [hfin] at hr
        subst hr
        simp +contextual (maxSteps := 4000000) only [↓ur_seq, ↓ur_exit, ↓ur_ret, ↓ur_region, ↓ur_cond, ↓cont_seq, ↓leave_seq, ↓leave_blk, ↓leave_lp, ↓done_nil, ↓done_seq, ↓ops_consN, nY_move, nY_assign, nY_binOp, ↓ops_nil, opsIf_some, opsIf_if', map_if, condC_true, condC_false, Option.map_some, Option.map_none, Option.bind_some, Nat.reduceLT, ↓upd_same, ↓upd_ne, Nat.reduceBEq, true_and, and_true, endQ, cfg_P, List.map_nil, ↓havoc_in, ↓havoc_out, List.contains_cons, List.contains_nil, Bool.or_false, Bool.or_true, Int.ofNat_lt, Int.toNat_natCast, decide_true, decide_false, Option.some.injEq, exists_eq_left', Nat.lt_irrefl, not_false_eq_true, DRx_int, DRx_nils_lits, DRx_tuple, DRxL_cons, DRxL_nil, ↓ev_tmp, ↓ev_int, ↓ev_nils, ↓iop_move, ↓iop_assign, ↓iop_binOp, b_sub, b_neq, b_lss, b_shl, ires_eq, iresL_2, iresAll_nil, iresAll_cons, iresOne_tmp, ↓reduceIte, Int.natCast_inj, beq_self_eq_true, bits_i64, Nat.min_def, nth_reps, pur_reps, Try.f15, h29, h8, h9, h10', h0, hM, n1, n2, h64, hsh, hw1, hd]
        omega
theorem o_Fin : O_Fin := k_Fin c_Fin
end Sim
