/- What functions of this seat compute, by values: contracts (lemmas of the statement's proof, under the conditions that each names). -/
import Derived.Test.YtpaaaaijebdphaaQF
namespace Sim
open Go Go.Proofs
set_option maxRecDepth 10000
set_option maxHeartbeats 2000000
set_option linter.unusedVariables false
set_option linter.unusedSimpArgs false
attribute [local congr] opsIf_congr condC_congr guardC_congr grd_congr pick3_congr obind_congr omap_congr nilC_congr
def valK (b l : List Int) (k : Nat) : Int := b.getD (l.getD k 0).toNat 0
def orderL (b l : List Int) : List Int := (outA (valK b l) l.length l l.length).reverse
def orderN (b l : List Int) : Int := bst (valK b l) l.length (2 ^ l.length - 1)
def reM (o : Option IObj) (st : Store) (k z : Nat) (l : List PV) (n : Nat) : Option (PV × Store) :=
  match o with
  | some (.arr g _ _) => some (.ref (k - 1) (g + 1) 0 n, st.set (k - 1) (.arr (g + 1) z l))
  | _ => none
def rePM (o : Option IObj) (st : Store) (k z : Nat) (e : PV) : Option (PV × Store) :=
  match o with
  | some (.arr g _ _) => some (.ptr (k - 1) (g + 1) 0 0, st.set (k - 1) (.arr (g + 1) z [e]))
  | _ => none
theorem re_arr' {st : Store} {k z n : Nat} {l : List PV} : st.re k z l n = reM (st.obj (k - 1)) st k z l n := nrfl rfl
theorem reP_arr' {st : Store} {k z : Nat} {e : PV} : st.reP k z e = rePM (st.obj (k - 1)) st k z e := nrfl rfl
theorem reM_arr {st : Store} {k z n g z0 : Nat} {l es : List PV} : reM (some (.arr g z0 es)) st k z l n = some (.ref (k - 1) (g + 1) 0 n, st.set (k - 1) (.arr (g + 1) z l)) := nrfl rfl
theorem rePM_arr {st : Store} {k z g z0 : Nat} {e : PV} {es : List PV} : rePM (some (.arr g z0 es)) st k z e = some (.ptr (k - 1) (g + 1) 0 0, st.set (k - 1) (.arr (g + 1) z [e])) := nrfl rfl
def anyB (s : Nat) : Nat → Bool
  | 0 => false
  | j + 1 => s.testBit j || anyB s j
theorem anyB_true {s n : Nat} (h0 : 0 < s) (hs : s < 2 ^ n) : anyB s n = true := by
  obtain ⟨k, hk, hb⟩ := bit_of_pos h0 hs
  have : ∀ m, k < m → anyB s m = true := by
    intro m
    induction m with
    | zero => intro h; omega
    | succ m ih =>
      intro h
      simp only [anyB]
      by_cases e : k = m
      · subst e; rw [hb]; rfl
      · rw [ih (by omega)]; simp
  exact this n hk
noncomputable def A_order : (List Int) × (List Int) → List PV := fun (b, l) => [ints b, ints l]
noncomputable def R_order : (List Int) × (List Int) → PV := fun (b, l) => .tuple [ints (orderL b l), I (orderN b l)]
def H_order : (List Int) × (List Int) → Prop := fun (b, l) => l.length ≤ 12 ∧ (∀ x ∈ l, 0 ≤ x ∧ x < b.length) ∧ ∀ x ∈ b, fitB x
noncomputable def e_order : Nat × Ent := (38, .v (specOf A_order R_order H_order))
theorem j_order : ∀ i j, A_order i = A_order j → i = j := by
  rintro ⟨b₁, l₁⟩ ⟨b₂, l₂⟩ h
  simp only [A_order, List.cons.injEq, and_true, PV.lits.injEq, PV.int.injEq, PV.bool.injEq, PV.str.injEq, PV.agg.injEq, PV.func.injEq, Fn.func.injEq, PV.vptr.injEq, true_and, List.map_nil, inj_ints, inj_strs, inj_psts, inj_gaps, inj_pays] at h
  simp [Prod.ext_iff, h] <;> omega
theorem s_order (b : List Int) (l : List Int) : specOf A_order R_order H_order [ints b, ints l] = @ite (Option (PV)) (l.length ≤ 12 ∧ (∀ x ∈ l, 0 ≤ x ∧ x < b.length) ∧ ∀ x ∈ b, fitB x) (Classical.propDecidable _) (some (.tuple [ints (orderL b l), I (orderN b l)])) none := specOf_if j_order (b, l)
def C_order : Prop := ∀ (b : List Int) (l : List Int) (h : l.length ≤ 12 ∧ (∀ x ∈ l, 0 ≤ x ∧ x < b.length) ∧ ∀ x ∈ b, fitB x) , VC Try.prog 38 [ints b, ints l] (.tuple [ints (orderL b l), I (orderN b l)])
def O_order : Prop := EntOK Try.prog e_order.1 e_order.2
theorem k_order (c : C_order) : O_order := specOf_ok fun ⟨b, l⟩ h => c b l h
theorem c_order : C_order := by
  rintro b l ⟨h12, hl, hb⟩
  refine vc_ofR mixed (l := [e_rev]) ((eok_cons o_rev eok_nil)) [] [100019, 200022, 300025] 3 Try.func38 rfl (by decide +kernel) (N := 126) rfl (by simp) rfl (by kernel_rfl) fun hs => ?_
  simp only [smallL, PV.small, List.length_map, and_true, true_and] at hs
  obtain ⟨RL, hRL⟩ : ∃ RL, orderL b l = RL := ⟨_, rfl⟩
  obtain ⟨RN, hRN⟩ : ∃ RN, orderN b l = RN := ⟨_, rfl⟩
  rw [hRL, hRN]
  obtain ⟨n, hn⟩ : ∃ n, n = l.length := ⟨_, rfl⟩
  have shl : ∀ k : Nat, k ≤ 62 → IntKind.i64.wrap (1 * 2 ^ k) = ((2 ^ k : Nat) : Int) := fun k hk => by
    have := shl_nat (k := k) hk
    rwa [show min ((k : Int)).toNat 64 = k by omega] at this
  have hsh := shl n (by omega)
  have hp12 := pow_le (k := n) 12 (by omega)
  have hpos := Nat.two_pow_pos n
  obtain ⟨N, hN⟩ : ∃ N, N = 2 ^ n := ⟨_, rfl⟩
  rw [← hN] at hsh hp12 hpos
  have h64 : n ≤ 64 := by omega
  have hneg : ¬ (n : Int) < 0 := by omega
  have hNb : (N : Int) ≤ 4294967296 := by omega
  have e11 : 1 - 1 = 0 := rfl
  have e21 : 2 - 1 = 1 := rfl
  have e31 : 3 - 1 = 2 := rfl
  obtain ⟨v, hv⟩ : ∃ v, v = valK b l := ⟨_, rfl⟩
  have hvb : ∀ k, -1125899906842624 ≤ v k ∧ v k ≤ 1125899906842624 := fun k => by
    rw [hv]
    unfold valK
    rcases Nat.lt_or_ge (l.getD k 0).toNat b.length with h | h
    · exact fit_at hb h
    · rw [List.getD_eq_getElem?_getD, List.getElem?_eq_none h]; simp
  simp +contextual (maxSteps := 4000000) only [↓ur_seq, ↓ur_block, ↓ur_region, ↓cont_seq, ↓ops_consN, nY_move, nY_assign, nY_binOp, nilO_tmp, nY_makeSlice, nY_callb, ↓ops_nil, opsIf_some, Option.map_some, Option.getD_some, Nat.reduceLT, Bool.false_eq_true, ↓upd_same, ↓upd_ne, Nat.reduceBEq, true_and, and_true, List.getD_cons_zero, List.getD_cons_succ, cfg_P, cfg_num, numOf_eq, List.length_map, List.contains_cons, List.contains_nil, Bool.or_false, Bool.or_true, Int.natCast_nonneg, Int.toNat_natCast, Nat.reduceEqDiff, updO_ne, Nat.zero_add, Nat.reduceAdd, Nat.lt_succ_self, Bool.not_false, ↓ev_tmp, ↓ev_int, ↓ev_nils, ↓iop_move, ↓iop_assign, ↓iop_binOp, ↓iop_makeSlice, mkSl_re, ↓iop_callb, bi_len, lenM_none, lenP_lits, b_shl, env0_eq, Store.set, ↓reduceIte, ↓evs_cons, ↓evs_nil, Int.le_refl, beq_self_eq_true, bits_i64, Nat.min_def, e_rev, nth_psts, pur_psts, nth_gaps, pur_gaps, nth_pays, pur_pays, Try.f38, ty3, ty34, ← hn, h64, hneg, hNb, hsh, e11, e21, e31, re_arr', reP_arr', reM_arr, rePM_arr, iop_alloc_re]
  refine loop_cnt [10, 11, 12, 26, 27, 28, 29, 30, 31, 32, 33, 34, 35, 36, 37, 38, 39, 40, 41, 42, 43, 44, 45, 46, 47, 48, 49, 50, 51, 52, 53, 54, 55, 56, 57, 58, 59, 60, 61, 62, 63, 64, 65, 66, 67, 68, 69, 70, 71, 72, 73, 74, 75, 76, 77, 78, 79, 80, 81, 82, 83, 84, 85, 86, 87, 88, 89, 90, 91, 92, 93, 94] (N - 1) (fun k ρ st' => ρ 10 = I ((k + 1 : Nat) : Int) ∧ st'.obj 0 = some (.arr 1 1 ((tbl N fun i => if i ≤ k then smB v i n else 0).map (PV.int .i64))) ∧ st'.obj 1 = some (.arr 1 1 ((tbl N fun i => (tabW v n k i).1).map (PV.int .i64))) ∧ st'.obj 2 = some (.arr 1 1 ((tbl N fun i => ((tabW v n k i).2 : Int)).map (PV.int .i64))) ∧ st'.next = 3) (.refl _) ?_ ?_
  · simp +contextual (maxSteps := 4000000) only [↓upd_same, Nat.reduceBEq, true_and, and_true, Option.some.injEq, updO_same, updO_ne, Nat.zero_add, IObj.arr.injEq, Int.cast_ofNat_Int, nth_psts, pur_psts, nth_gaps, pur_gaps, nth_pays, pur_pays, Try.f38, tbl_zero]
    have e0 : ∀ i, smB v 0 i = 0 := fun i => by
      induction i with
      | zero => rfl
      | succ i ih => simp [smB, ih]
    refine ⟨congrArg _ (tbl_ext fun i _ => ?_), rfl, rfl⟩
    split
    · rename_i h
      have : i = 0 := by omega
      subst this
      exact (e0 n).symm
    · rfl
  rintro k ρ ⟨ob, M⟩ hk ⟨h10, o0, o1, o2, hM⟩
  dsimp only at o0 o1 o2 hM
  subst hM
  by_cases hlt : k + 1 < N
  · have hlti : ((k + 1 : Nat) : Int) < (N : Int) := by omega
    have hwk : IntKind.i64.wrap (((k + 1 : Nat) : Int) + 1) = ((k + 1 + 1 : Nat) : Int) := by rw [wrap64 (by omega) (by omega)]; omega
    simp +contextual (maxSteps := 4000000) only [↓ur_skip, ↓ur_seq, ↓ur_block, ↓ur_region, ↓ur_cond, ↓cont_seq, ↓ops_consN, nY_move, nY_store, nY_binOp, nilO_tmp, nY_indexAddr, ↓ops_nil, opsIf_some, opsIf_none, condC_true, Option.map_some, Option.bind_some, Option.getD_some, Nat.reduceLT, Bool.false_eq_true, ↓upd_same, ↓upd_ne, Nat.reduceBEq, true_and, and_true, cfg_P, cfg_frz, List.length_map, ↓havoc_in, ↓havoc_out, List.contains_cons, List.contains_nil, Bool.or_false, Int.natCast_nonneg, Int.toNat_natCast, nth_int, decide_true, List.length_cons, List.length_nil, Nat.zero_add, Nat.lt_succ_self, Bool.not_false, Nat.le_refl, cells_int, ↓ev_tmp, ↓ev_int, ↓iop_move, ↓iop_store, ↓iop_binOp, ↓iop_indexAddr, idxA_int, setCells_int, storeP_ptr, indexP_ref, b_lss, b_shl, Store.set, ↓reduceIte, arr_eq, arrB_some, set_int, beq_self_eq_true, see_eq, bits_i64, Nat.min_def, nth_psts, pur_psts, nth_gaps, pur_gaps, nth_pays, pur_pays, Try.f38, ty3, ty34, ← hn, h64, hneg, hsh, h10, o0, o1, o2, hlti, hlt, tbl_len, tbl_set]
    have hs62 : k + 1 < 4611686018427387904 := by omega
    have hs63 : k + 1 < 9223372036854775808 := by omega
    have hWs : tabW v n k (k + 1) = (0, 0) := tabW_above (by omega)
    refine loop_cnt [11, 12, 36, 37, 38, 39, 40, 41, 42, 43, 44, 45, 46, 47, 48, 49, 50, 51, 52, 53, 54, 55, 56, 57, 58, 59, 60, 61, 62, 63, 64, 65, 66, 67, 68, 69, 70, 71, 72, 73, 74, 75, 76, 77, 78, 79, 80, 81, 82, 83] n (fun j ρ st' => ρ 36 = I j ∧ st'.obj 0 = some (.arr 1 1 ((tbl N fun i => if i = k + 1 then (if anyB (k + 1) j = true then smB v (k + 1) n else 0) else if i ≤ k then smB v i n else 0).map (PV.int .i64))) ∧ st'.obj 1 = some (.arr 1 1 ((tbl N fun i => if i = k + 1 then (scan (tabW v n k) (k + 1) j).1 else (tabW v n k i).1).map (PV.int .i64))) ∧ st'.obj 2 = some (.arr 1 1 ((tbl N fun i => if i = k + 1 then ((scan (tabW v n k) (k + 1) j).2 : Int) else ((tabW v n k i).2 : Int)).map (PV.int .i64))) ∧ st'.next = 3) (.refl _) ?_ ?_
    · simp +contextual (maxSteps := 4000000) only [Bool.false_eq_true, ↓upd_same, Nat.reduceBEq, true_and, and_true, Option.some.injEq, updO_same, updO_ne, IObj.arr.injEq, ↓reduceIte, Int.cast_ofNat_Int, nth_psts, pur_psts, nth_gaps, pur_gaps, nth_pays, pur_pays, Try.f38, anyB, scan, o0, o2]
      refine ⟨congrArg _ (tbl_ext fun i _ => ?_), congrArg _ (tbl_ext fun i _ => ?_)⟩
      · by_cases e : i = k + 1
        · subst e; rw [if_neg (by omega), if_pos rfl]
        · rw [if_neg e]
      · by_cases e : i = k + 1
        · subst e; rw [if_pos rfl, hWs]; rfl
        · rw [if_neg e]
    rintro j ρ2 ⟨ob2, M2⟩ hj ⟨h36, p0, p1, p2, hM2⟩
    dsimp only at p0 p1 p2 hM2
    subst hM2
    by_cases hjn : j < n
    · have hjl : j < l.length := by omega
      have hj64 : j ≤ 64 := by omega
      have hjneg : ¬ (j : Int) < 0 := by omega
      have hwj := wrapN' (k := j) (by omega)
      have hnot := not_nat (s := k + 1) (k := j) hs63 (by omega)
      have hsj := shl j (by omega)
      have hpj := pow_le (k := j) 12 (by omega)
      by_cases hbit : (k + 1).testBit j = true
      case neg =>
        have hnot2 : ¬ (¬ (k + 1).testBit j = true) = False := by simp [hbit]
        have ea : anyB (k + 1) (j + 1) = anyB (k + 1) j := by simp only [anyB]; rw [show (k + 1).testBit j = false by simpa using hbit]; rfl
        have es : scan (tabW v n k) (k + 1) (j + 1) = scan (tabW v n k) (k + 1) j := by simp only [scan]; rw [if_neg (fun h => hbit h.1)]
        rw [ea, es]
        have hnot3 : andI (((k + 1 : Nat) : Int).fdiv (2 ^ j)) 1 = 0 := by rw [hnot]; exact hbit
        simp +contextual (maxSteps := 4000000) only [↓ur_skip, ↓ur_seq, ↓ur_block, ↓ur_exit, ↓ur_region, ↓ur_cond, ↓cont_seq, ↓cont_lp, ↓leave_seq, ↓leave_blk, ↓ops_consN, nY_move, nY_assign, nY_binOp, nilO_tmp, nilO_int, ↓ops_nil, opsIf_some, condC_true, Option.map_some, Nat.reduceLT, ↓upd_same, ↓upd_ne, Nat.reduceBEq, and_true, cfg_P, ↓havoc_in, ↓havoc_out, agree_upd, agree_havoc, List.contains_cons, List.contains_nil, Bool.or_false, Bool.or_true, Int.ofNat_lt, Int.toNat_natCast, decide_true, Bool.not_false, ↓ev_tmp, ↓ev_int, ↓iop_move, ↓iop_assign, ↓iop_binOp, b_add, b_and, b_eql, b_lss, b_shr, ↓reduceIte, beq_self_eq_true, bits_i64, Nat.min_def, nth_psts, pur_psts, nth_gaps, pur_gaps, nth_pays, pur_pays, Try.f38, h10, h36, p0, p1, p2, hjn, hj64, hjneg, hwj, and_i64, hnot3]
      have hnot3 : ¬ andI (((k + 1 : Nat) : Int).fdiv (2 ^ j)) 1 = 0 := by rw [hnot]; exact fun h => h hbit
      have hdif := andNI_nat (a := k + 1) (b := 2 ^ j) hs63 (by omega)
      have hdl := dif_lt hs62 (by omega) hbit
      have hsm := smB_dif (v := v) hs62 (by omega) hbit n
      rw [if_pos hjn] at hsm
      obtain ⟨d, hd⟩ : ∃ d, d = dif (k + 1) (2 ^ j) := ⟨_, rfl⟩
      rw [← hd] at hdif hdl hsm
      have hdN : d < N := by omega
      have hdk : d ≤ k := by omega
      have hdne : ¬ d = k + 1 := by omega
      have hval : v j = b.getD (l.getD j 0).toNat 0 := by rw [hv]; rfl
      have hlj := hl (l.getD j 0) (by rw [List.getD_eq_getElem?_getD, List.getElem?_eq_getElem hjl]; exact List.getElem_mem hjl)
      have hlt2 : (l.getD j 0).toNat < b.length := by omega
      have hb1 := smB_le (s := d) hvb n
      have hb2 := smB_le (s := k + 1) hvb n
      have hws : IntKind.i64.wrap (smB v d n + v j) = smB v (k + 1) n := by rw [hsm]; exact wrap64 (by omega) (by omega)
      rw [hval] at hws
      have ea : anyB (k + 1) (j + 1) = true := by simp only [anyB]; rw [hbit]; rfl
      have es : scan (tabW v n k) (k + 1) (j + 1) = if (scan (tabW v n k) (k + 1) j).1 < (tabW v n k d).1 then ((tabW v n k d).1, j) else scan (tabW v n k) (k + 1) j := by
        simp only [scan, ← hd]
        by_cases c : (scan (tabW v n k) (k + 1) j).1 < (tabW v n k d).1
        · rw [if_pos ⟨hbit, c⟩, if_pos c]
        · rw [if_neg (fun h => c h.2), if_neg c]
      rw [ea, es]
      have q1 : (tbl N fun i => if i = k + 1 then (if anyB (k + 1) j = true then smB v (k + 1) n else 0) else if i ≤ k then smB v i n else 0).getD d 0 = smB v d n := by rw [tbl_at hdN, if_neg hdne, if_pos hdk]
      have q2 : (tbl N fun i => if i = k + 1 then (scan (tabW v n k) (k + 1) j).1 else (tabW v n k i).1).getD d 0 = (tabW v n k d).1 := by rw [tbl_at hdN, if_neg hdne]
      have q3 : (tbl N fun i => if i = k + 1 then (scan (tabW v n k) (k + 1) j).1 else (tabW v n k i).1).getD (k + 1) 0 = (scan (tabW v n k) (k + 1) j).1 := by rw [tbl_at hlt, if_pos rfl]
      by_cases c : (scan (tabW v n k) (k + 1) j).1 < (tabW v n k d).1
      · rw [if_pos c]
        simp +contextual (maxSteps := 4000000) only [↓ur_skip, ↓ur_seq, ↓ur_block, ↓ur_region, ↓ur_cond, ↓cont_seq, ↓cont_blk, ↓cont_lp, ↓ops_consN, nY_move, nY_assign, nY_load, nY_store, nY_binOp, nilO_tmp, nilO_int, nY_indexAddr, ↓ops_nil, opsIf_some, opsIf_none, condC_true, condC_false, Option.map_some, Option.bind_some, Option.getD_some, Nat.reduceLT, Bool.false_eq_true, ↓upd_same, ↓upd_ne, Nat.reduceBEq, and_true, List.getD_cons_zero, List.getD_cons_succ, List.getElem?_cons_zero, cfg_P, cfg_frz, List.length_map, ↓havoc_in, ↓havoc_out, agree_upd, agree_havoc, List.contains_cons, List.contains_nil, Bool.or_false, Bool.or_true, Int.natCast_nonneg, Int.ofNat_lt, Int.toNat_natCast, nth_int, decide_true, decide_false, updO_same, updO_ne, List.length_cons, List.length_nil, Nat.zero_add, Nat.lt_succ_self, Bool.not_false, Nat.le_refl, cells_int, ↓ev_tmp, ↓ev_int, ↓iop_move, ↓iop_assign, ↓iop_load, ↓iop_store, ↓iop_binOp, ↓iop_indexAddr, idxA_int, pickP_f, loadP_vptr, loadP_ptr, setCells_int, storeP_ptr, indexP_lits, indexP_ref, b_add, b_and, b_andNot, b_eql, b_lss, b_gtr, b_shl, b_shr, env0_eq, Store.set, ↓reduceIte, arr_eq, arrB_some, set_int, beq_self_eq_true, see_eq, bits_i64, Nat.min_def, nth_psts, pur_psts, nth_gaps, pur_gaps, nth_pays, pur_pays, Try.f38, ty3, ty34, h10, h36, p0, p1, p2, hjn, hjl, hj64, hjneg, hwj, and_i64, andNot_i64, hnot3, hsj, hdif, hdN, hlt, hlj.1, hlj.2, hlt2, q1, q2, q3, hws, c, tbl_len, tbl_set, h64, hneg]
      · rw [if_neg c]
        simp +contextual (maxSteps := 4000000) only [↓ur_skip, ↓ur_seq, ↓ur_block, ↓ur_region, ↓ur_cond, ↓cont_seq, ↓cont_blk, ↓cont_lp, ↓ops_consN, nY_move, nY_assign, nY_load, nY_store, nY_binOp, nilO_tmp, nilO_int, nY_indexAddr, ↓ops_nil, opsIf_some, opsIf_none, condC_true, condC_false, Option.map_some, Option.bind_some, Option.getD_some, Nat.reduceLT, Bool.false_eq_true, ↓upd_same, ↓upd_ne, Nat.reduceBEq, and_true, List.getD_cons_zero, List.getD_cons_succ, List.getElem?_cons_zero, cfg_P, cfg_frz, List.length_map, ↓havoc_in, ↓havoc_out, agree_upd, agree_havoc, List.contains_cons, List.contains_nil, Bool.or_false, Bool.or_true, Int.natCast_nonneg, Int.ofNat_lt, Int.toNat_natCast, nth_int, decide_true, decide_false, updO_same, updO_ne, List.length_cons, List.length_nil, Nat.zero_add, Nat.lt_succ_self, Bool.not_false, Nat.le_refl, cells_int, ↓ev_tmp, ↓ev_int, ↓iop_move, ↓iop_assign, ↓iop_load, ↓iop_store, ↓iop_binOp, ↓iop_indexAddr, idxA_int, pickP_f, loadP_vptr, loadP_ptr, setCells_int, storeP_ptr, indexP_lits, indexP_ref, b_add, b_and, b_andNot, b_eql, b_lss, b_gtr, b_shl, b_shr, env0_eq, Store.set, ↓reduceIte, arr_eq, arrB_some, set_int, beq_self_eq_true, see_eq, bits_i64, Nat.min_def, nth_psts, pur_psts, nth_gaps, pur_gaps, nth_pays, pur_pays, Try.f38, ty3, ty34, h10, h36, p0, p1, p2, hjn, hjl, hj64, hjneg, hwj, and_i64, andNot_i64, hnot3, hsj, hdif, hdN, hlt, hlj.1, hlj.2, hlt2, q1, q2, q3, hws, c, tbl_len, tbl_set, h64, hneg]
    · have e : j = n := by omega
      subst e
      have hany := anyB_true (s := k + 1) (n := j) (by omega) (by omega)
      have q1 : (tbl N fun i => if i = k + 1 then (if anyB (k + 1) j = true then smB v (k + 1) j else 0) else if i ≤ k then smB v i j else 0).getD (k + 1) 0 = smB v (k + 1) j := by rw [tbl_at hlt, if_pos rfl, if_pos hany]
      have q3 : (tbl N fun i => if i = k + 1 then (scan (tabW v j k) (k + 1) j).1 else (tabW v j k i).1).getD (k + 1) 0 = (scan (tabW v j k) (k + 1) j).1 := by rw [tbl_at hlt, if_pos rfl]
      have hsl := scan_le (F := tabW v j k) (s := k + 1) (m := (k : Int)) (fun i => (tabW_le k i).2) (by omega) j
      have r0 : (tbl N fun i => if i = k + 1 then (if anyB (k + 1) j = true then smB v (k + 1) j else 0) else if i ≤ k then smB v i j else 0) = tbl N fun i => if i ≤ k + 1 then smB v i j else 0 := tbl_ext fun i _ => by
        by_cases e : i = k + 1
        · subst e; rw [if_pos rfl, if_pos hany, if_pos (Nat.le_refl _)]
        · rw [if_neg e]
          by_cases c : i ≤ k
          · rw [if_pos c, if_pos (by omega)]
          · rw [if_neg c, if_neg (by omega)]
      have r2 : (tbl N fun i => if i = k + 1 then ((scan (tabW v j k) (k + 1) j).2 : Int) else ((tabW v j k i).2 : Int)) = tbl N fun i => ((tabW v j (k + 1) i).2 : Int) := tbl_ext fun i _ => by
        by_cases e : i = k + 1
        · subst e; simp [tabW]
        · simp [tabW, e]
      rw [r0] at p0 q1
      rw [r2] at p2
      have r1 : (tbl N fun i => if i = k + 1 then (scan (tabW v j k) (k + 1) j).1 else (tabW v j k i).1).set (k + 1) ((scan (tabW v j k) (k + 1) j).1 + if smB v (k + 1) j = 0 then 1 else 0) = tbl N fun i => (tabW v j (k + 1) i).1 := by
        rw [tbl_set]
        refine tbl_ext fun i _ => ?_
        by_cases e : i = k + 1
        · subst e; simp [tabW]
        · simp [tabW, e]
      have l0 : (tbl N fun i => if i ≤ k + 1 then smB v i j else 0).length = N := tbl_len
      have l1 : (tbl N fun i => if i = k + 1 then (scan (tabW v j k) (k + 1) j).1 else (tabW v j k i).1).length = N := tbl_len
      have hset : ∀ l : List Int, l.getD (k + 1) 0 = (scan (tabW v j k) (k + 1) j).1 → l.length = N → l.set (k + 1) ((scan (tabW v j k) (k + 1) j).1 + 0) = l := fun l h1 h2 => by
        apply List.ext_getElem
        · simp
        · intro i g1 g2
          rw [List.getElem_set]
          by_cases e : k + 1 = i
          · subst e
            rw [if_pos rfl, Int.add_zero, ← h1]
            simp [List.getD_eq_getElem?_getD, g2]
          · rw [if_neg e]
      generalize (tbl N fun i => if i ≤ k + 1 then smB v i j else 0) = T0 at *
      generalize (tbl N fun i => if i = k + 1 then (scan (tabW v j k) (k + 1) j).1 else (tabW v j k i).1) = T1 at *
      generalize (tbl N fun i => ((tabW v j (k + 1) i).2 : Int)) = T2 at *
      generalize (tbl N fun i => (tabW v j (k + 1) i).1) = T3 at *
      generalize (scan (tabW v j k) (k + 1) j).1 = sc at *
      by_cases h0 : smB v (k + 1) j = 0
      · have hws : IntKind.i64.wrap (sc + 1) = sc + 1 := wrap64 (by omega) (by omega)
        rw [if_pos h0] at r1
        rw [h0] at q1
        simp +contextual (maxSteps := 4000000) only [↓ur_seq, ↓ur_exit, ↓ur_region, ↓ur_cond, ↓cont_seq, ↓cont_blk, ↓cont_lp, ↓leave_seq, ↓leave_blk, ↓leave_lp, ↓ops_consN, nY_move, nY_assign, nY_load, nY_store, nY_binOp, nilO_tmp, nilO_int, nY_indexAddr, ↓ops_nil, opsIf_some, opsIf_none, condC_true, condC_false, Option.map_some, Option.bind_some, Option.getD_some, Nat.reduceLT, Bool.false_eq_true, ↓upd_same, ↓upd_ne, Nat.reduceBEq, true_and, and_true, List.getElem?_cons_zero, cfg_P, cfg_frz, List.length_map, ↓havoc_in, ↓havoc_out, agree_upd, List.contains_cons, List.contains_nil, Bool.or_false, Bool.or_true, Int.natCast_nonneg, Int.ofNat_lt, Int.toNat_natCast, nth_int, decide_true, decide_false, updO_same, updO_ne, List.length_cons, List.length_nil, Nat.zero_add, Nat.lt_irrefl, Nat.lt_succ_self, Bool.not_false, Nat.le_refl, cells_int, ↓ev_tmp, ↓ev_int, ↓iop_move, ↓iop_assign, ↓iop_load, ↓iop_store, ↓iop_binOp, ↓iop_indexAddr, idxA_int, pickP_f, loadP_ptr, setCells_int, storeP_ptr, indexP_ref, b_add, b_eql, b_lss, Store.set, ↓reduceIte, arr_eq, arrB_some, set_int, beq_self_eq_true, see_eq, nth_psts, pur_psts, nth_gaps, pur_gaps, nth_pays, pur_pays, Try.f38, ty3, ty34, h10, h36, p0, p1, p2, hlt, l0, l1, q1, q3, hws, r1, hwk]
        rw [agree_havoc_sub (by decide +kernel)]
        simp +contextual (maxSteps := 4000000) only [Nat.reduceBEq, and_true, agree_upd, agree_havoc, List.contains_cons, List.contains_nil, Bool.or_false, Bool.or_true, beq_self_eq_true, nth_psts, pur_psts, nth_gaps, pur_gaps, nth_pays, pur_pays, Try.f38]
        omega
      · rw [if_neg h0, hset T1 q3 l1] at r1
        subst r1
        simp +contextual (maxSteps := 4000000) only [↓ur_skip, ↓ur_seq, ↓ur_exit, ↓ur_region, ↓ur_cond, ↓cont_seq, ↓cont_blk, ↓cont_lp, ↓leave_seq, ↓leave_blk, ↓leave_lp, ↓ops_consN, nY_move, nY_assign, nY_load, nY_binOp, nilO_tmp, nilO_int, nY_indexAddr, ↓ops_nil, opsIf_some, condC_false, Option.map_some, Option.bind_some, Option.getD_some, Nat.reduceLT, Bool.false_eq_true, ↓upd_same, ↓upd_ne, Nat.reduceBEq, true_and, and_true, List.getElem?_cons_zero, cfg_P, cfg_frz, List.length_map, ↓havoc_in, ↓havoc_out, agree_upd, List.contains_cons, List.contains_nil, Bool.or_false, Bool.or_true, Int.natCast_nonneg, Int.ofNat_lt, Int.toNat_natCast, nth_int, decide_false, Nat.zero_add, Nat.lt_irrefl, Bool.not_false, Nat.le_refl, cells_int, ↓ev_tmp, ↓ev_int, ↓iop_move, ↓iop_assign, ↓iop_load, ↓iop_binOp, ↓iop_indexAddr, idxA_int, pickP_f, loadP_ptr, indexP_ref, b_add, b_eql, b_lss, ↓reduceIte, arr_eq, arrB_some, beq_self_eq_true, see_eq, nth_psts, pur_psts, nth_gaps, pur_gaps, nth_pays, pur_pays, Try.f38, ty3, ty34, h10, h36, p0, p1, p2, hlt, l0, l1, q1, h0, hwk]
        rw [agree_havoc_sub (by decide +kernel)]
        simp +contextual (maxSteps := 4000000) only [Nat.reduceBEq, and_true, agree_upd, agree_havoc, List.contains_cons, List.contains_nil, Bool.or_false, Bool.or_true, beq_self_eq_true, nth_psts, pur_psts, nth_gaps, pur_gaps, nth_pays, pur_pays, Try.f38]
        omega
  · have e : k = N - 1 := by omega
    subst e
    have hlti : ¬ ((N - 1 + 1 : Nat) : Int) < (N : Int) := by omega
    have hw1 : IntKind.i64.wrap ((N : Int) - 1) = ((N - 1 : Nat) : Int) := by rw [wrap64 (by omega) (by omega)]; omega
    simp +contextual (maxSteps := 4000000) only [↓ur_seq, ↓ur_block, ↓ur_exit, ↓ur_region, ↓ur_cond, ↓cont_seq, ↓leave_seq, ↓leave_blk, ↓leave_lp, ↓ops_consN, nY_move, nY_assign, nY_binOp, nilO_tmp, nilO_int, ↓ops_nil, opsIf_some, condC_false, Option.map_some, Nat.reduceLT, ↓upd_same, ↓upd_ne, Nat.reduceBEq, true_and, cfg_P, ↓havoc_in, ↓havoc_out, List.contains_cons, List.contains_nil, Bool.or_false, Int.toNat_natCast, decide_false, Bool.not_false, ↓ev_tmp, ↓ev_int, ↓ev_nils, ↓iop_move, ↓iop_assign, ↓iop_binOp, b_sub, b_lss, b_shl, ↓reduceIte, beq_self_eq_true, bits_i64, Nat.min_def, nth_psts, pur_psts, nth_gaps, pur_gaps, nth_pays, pur_pays, Try.f38, ← hn, h64, hneg, hsh, h10, o0, o1, o2, hlti, hw1]
    have hlst : ∀ s, s < N → (tbl N fun i => ((tabW v n (N - 1) i).2 : Int)).getD s 0 = (lst v n s : Int) := fun s hs => by
      rw [tbl_at hs]
      unfold lst
      rw [tabW_below (by omega)]
    have hres : (tbl N fun i => (tabW v n (N - 1) i).1).getD (N - 1) 0 = RN := by
      rw [tbl_at (by omega), ← hRN]
      unfold orderN bst
      rw [← hn, ← hv, ← hN]
    have l1 : (tbl N fun i => (tabW v n (N - 1) i).1).length = N := tbl_len
    have l2 : (tbl N fun i => ((tabW v n (N - 1) i).2 : Int)).length = N := tbl_len
    generalize (tbl N fun i => ((tabW v n (N - 1) i).2 : Int)) = T2 at *
    generalize (tbl N fun i => (tabW v n (N - 1) i).1) = T1 at *
    refine loop_cnt [13, 14, 98, 99, 100, 101, 102, 103, 104, 105, 106, 107, 108, 109, 110, 111, 112, 113, 114, 115, 116] n (fun j ρ st' => ρ 14 = I (setA v n j : Int) ∧ GS st' (ρ 13) 3 1 ((outA v n l j).map (PV.int .i64)) ∧ st'.obj 1 = some (.arr 1 1 (T1.map (PV.int .i64))) ∧ st'.obj 2 = some (.arr 1 1 (T2.map (PV.int .i64)))) (.slot _ 13 1 ?_ ?_) ?_ ?_
    · simp +contextual (maxSteps := 4000000) only [↓upd_same, ↓upd_ne, Nat.reduceBEq, nth_psts, pur_psts, nth_gaps, pur_gaps, nth_pays, pur_pays, Try.f38]
    · decide
    · have : setA v n 0 = N - 1 := by rw [hN]; rfl
      simp +contextual (maxSteps := 4000000) only [↓upd_same, ↓upd_ne, Nat.reduceBEq, and_true, List.map_nil, GS_ref, updO_same, updO_ne, List.length_nil, Nat.reduceAdd, Store.new, nth_psts, pur_psts, nth_gaps, pur_gaps, nth_pays, pur_pays, Try.f38, this, outA, o1, o2]
    rintro j ρ2 ⟨ob2, M2⟩ hj ⟨h14, ⟨g, h13, ho⟩, p1, p2⟩
    dsimp only at ho p1 p2
    rw [List.length_map] at h13
    rw [outA_len] at h13
    by_cases hjn : j < n
    · have hs0 := setA_pos (v := v) (by omega) hjn
      obtain ⟨_, hsN⟩ := setA_cnt (v := v) (n := n) (by omega) j (by omega)
      have hB := bst_at (v := v) (n := n) (by omega) _ _ (Nat.le_refl _) hsN
      rw [← hN] at hsN
      have hb1 := hB.lt hs0
      have hnx : setA v n (j + 1) = dif (setA v n j) (2 ^ lst v n (setA v n j)) := rfl
      have hox : outA v n l (j + 1) = outA v n l j ++ [l.getD (lst v n (setA v n j)) 0] := rfl
      have hq := hlst _ hsN
      have hpk := pow_le (k := lst v n (setA v n j)) 12 (by omega)
      have hdif := andNI_nat (a := setA v n j) (b := 2 ^ lst v n (setA v n j)) (by omega) (by omega)
      rw [← hnx] at hdif
      rw [hox]
      generalize setA v n (j + 1) = s2 at *
      generalize setA v n j = s1 at *
      have hsk := shl (lst v n s1) (by omega)
      generalize lst v n s1 = k1 at *
      have hk1 : k1 < l.length := by omega
      have hk64 : k1 ≤ 64 := by omega
      have hkneg : ¬ (k1 : Int) < 0 := by omega
      have hs1 : (0 : Int) < (s1 : Int) := by omega
      have hj1 : j + 1 ≤ 2147483648 := by omega
      have htk : List.take j ((outA v n l j).map (PV.int .i64)) = (outA v n l j).map (PV.int .i64) := List.take_of_length_le (by rw [List.length_map, outA_len]; exact Nat.le_refl _)
      have hol := outA_len (v := v) (n := n) (l := l) j
      simp +contextual (maxSteps := 4000000) only [↓ur_skip, ↓ur_seq, ↓ur_block, ↓ur_region, ↓ur_cond, Nat.one_ne_zero, ↓cont_seq, ↓cont_blk, ↓cont_lp, ↓ops_consN, nY_move, nY_assign, nY_buildSlice, nY_load, nY_binOp, nilO_tmp, nilO_int, nY_indexAddr, nY_callb, ↓ops_nil, opsIf_some, condC_true, Option.map_some, Option.bind_some, Option.getD_some, Nat.reduceLT, Bool.false_eq_true, ↓upd_same, ↓upd_ne, Nat.reduceBEq, true_and, and_true, List.getD_cons_zero, List.getD_cons_succ, List.getElem?_cons_zero, cfg_P, cfg_muts, cfg_frz, cfg_num, numOf_eq, List.length_map, ↓havoc_in, ↓havoc_out, agree_upd, agree_havoc, List.contains_cons, List.contains_nil, Bool.or_false, Bool.or_true, Int.natCast_nonneg, Int.ofNat_lt, Int.toNat_natCast, nth_int, decide_true, Option.some.injEq, GS_ref, updO_same, updO_ne, List.length_append, List.length_cons, List.length_nil, Nat.zero_add, List.drop_zero, Nat.not_succ_le_self, Nat.reduceAdd, List.replicate_succ, List.replicate_zero, List.set_cons_zero, Nat.reduceMul, Nat.reduceLeDiff, IObj.arr.injEq, Nat.lt_succ_self, Bool.not_false, not_false_eq_true, or_false, Nat.le_refl, cells_int, ↓ev_tmp, ↓ev_int, ↓iop_move, ↓iop_assign, ↓iop_buildSlice, ↓iop_load, ↓iop_binOp, ↓iop_indexAddr, idxA_int, ↓iop_callb, bi_append, pickP_f, loadP_vptr, loadP_ptr, indexP_lits, indexP_ref, elemsP_lits, appendP_ref, b_andNot, b_gtr, b_shl, bel_nil, bel_cons, env0_eq, Store.set, ↓reduceIte, arr_eq, arrB_some, bslP_eq, ne_eq, ↓evs_cons, ↓evs_nil, ↓evp_cons, ↓evp_nil, beq_self_eq_true, see_eq, bits_i64, Nat.min_def, nth_psts, pur_psts, nth_gaps, pur_gaps, nth_pays, pur_pays, Try.f38, ty3, ty34, h14, h13, ho, p1, p2, hs1, hs0, hsN, l2, hq, hk1, hk64, hkneg, hsk, andNot_i64, hdif, htk, hj1, hol]
      exact ⟨hjn, by simp⟩
    · have e : j = n := by omega
      subst e
      rw [setA_end (by omega)] at h14
      have hz : ((0 : Nat) : Int) = 0 := rfl
      have hol := outA_len (v := v) (n := j) (l := l) j
      have hor : (outA v j l j).reverse = RL := by rw [← hRL]; unfold orderL; rw [← hn, ← hv]
      have hrl : RL.length = j := by rw [← hor, List.length_reverse, hol]
      have hj2 : j ≤ 2147483648 := by omega
      generalize outA v j l j = OO at *
      have hN1 : N - 1 < N := by omega
      have hrt : List.take j (RL.map (PV.int .i64)) = RL.map (PV.int .i64) := List.take_of_length_le (by rw [List.length_map, hrl]; exact Nat.le_refl _)
      simp +contextual (maxSteps := 4000000) only [↓ur_seq, ↓ur_exit, ↓ur_ret, ↓ur_region, ↓ur_cond, ↓cont_seq, ↓leave_seq, ↓leave_blk, ↓leave_lp, ↓done_nil, ↓ops_consN, nY_move, nY_assign, nY_load, nY_binOp, nilO_tmp, nilO_int, nY_indexAddr, nY_callf, ↓ops_nil, opsIf_some, condC_false, Option.map_some, Option.bind_some, Option.getD_some, Nat.reduceLT, Bool.false_eq_true, ↓upd_same, ↓upd_ne, Nat.reduceBEq, true_and, and_true, List.getElem?_cons_zero, endQ, cfg_P, cfg_tab, cfg_muts, cfg_frz, List.length_map, ↓havoc_in, ↓havoc_out, List.contains_cons, List.contains_nil, Bool.or_false, Bool.or_true, Int.natCast_nonneg, Int.ofNat_lt, Int.toNat_natCast, nth_int, decide_false, Option.some.injEq, exists_eq_left', tabOf_cons, tab_x, pur_ints, Bool.and_true, List.nil_append, List.append_nil, updO_same, updO_ne, Nat.zero_add, List.drop_zero, Nat.reduceAdd, Prod.mk.injEq, Nat.lt_succ_self, Bool.not_false, Int.reduceLT, Nat.le_refl, cells_int, pur_ref, DRx_int, DRx_ref, DRx_tuple, DRxL_cons, DRxL_nil, ↓ev_tmp, ↓ev_int, ↓ev_func, ↓iop_move, ↓iop_assign, ↓iop_load, ↓iop_binOp, ↓iop_indexAddr, idxA_int, ↓iop_callv, nrmAll_cons, nrmAll_nil, nrm_ref, pickP_f, loadP_ptr, indexP_ref, b_sub, b_gtr, b_shl, ires_eq, iresL_2, iresAll_nil, iresAll_cons, iresOne_tmp, pursL_cons, pursL_nil, Store.set, ↓reduceIte, arr_eq, arrB_some, callP_eq, tsOf_eq, ↓evs_cons, ↓evs_nil, beq_self_eq_true, see_eq, bits_i64, Nat.min_def, s_rev, nth_psts, pur_psts, nth_gaps, pur_gaps, nth_pays, pur_pays, Try.f38, ty3, ty34, h14, hz, h13, ho, p1, p2, revA_some, hol, hor, hj2, h64, hneg, hsh, hw1, l1, hres, hrl, hpos, ← hn, hN1, hrt]
theorem o_order : O_order := k_order c_order
end Sim
