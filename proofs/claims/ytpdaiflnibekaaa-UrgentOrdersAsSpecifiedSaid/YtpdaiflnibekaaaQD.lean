/- What functions of this seat compute, by values: contracts (lemmas of the statement's proof, under the conditions that each names). -/
import Derived.Test.YtpdaiflnibekaaaQC
namespace Sim
open Go Go.Proofs
set_option maxRecDepth 10000
set_option maxHeartbeats 2000000
set_option linter.unusedVariables false
set_option linter.unusedSimpArgs false
attribute [local congr] opsIf_congr condC_congr guardC_congr grd_congr pick3_congr obind_congr omap_congr

/-! The implied deadlines. -/
def impS (rs : List Rep) (k : Nat) (o : List Int) (i : Nat) : List Int :=
  if (ac rs k).testBit i = true then o.set i (if o.getD k 0 - tk rs k < o.getD i 0 then o.getD k 0 - tk rs k else o.getD i 0) else o
def impI (rs : List Rep) (k : Nat) (o : List Int) : Nat → List Int
  | 0 => o
  | i + 1 => impS rs k (impI rs k o i) i
def impK (rs : List Rep) (o : List Int) : Nat → List Int
  | 0 => o
  | k + 1 => impI rs k (impK rs o k) rs.length
def dues (rs : List Rep) : List Int := rs.map fun r => r.2.1
def impR (rs : List Rep) : Nat → List Int
  | 0 => dues rs
  | r + 1 => impK rs (impR rs r) rs.length
def impM (rs : List Rep) : List Int := impR rs rs.length
theorem impS_len {rs : List Rep} {k i : Nat} {o : List Int} : (impS rs k o i).length = o.length := by unfold impS; split <;> simp
theorem impI_len {rs : List Rep} {k : Nat} {o : List Int} : ∀ i, (impI rs k o i).length = o.length
  | 0 => rfl
  | i + 1 => by simp only [impI, impS_len]; exact impI_len i
theorem impK_len {rs : List Rep} {o : List Int} : ∀ k, (impK rs o k).length = o.length
  | 0 => rfl
  | k + 1 => by simp only [impK, impI_len]; exact impK_len k
theorem impR_len {rs : List Rep} : ∀ r, (impR rs r).length = rs.length
  | 0 => by simp [impR, dues]
  | r + 1 => by simp only [impR, impK_len]; exact impR_len r
def inB (c : Int) (o : List Int) : Prop := ∀ j, -c * 1000000 ≤ o.getD j 0 ∧ o.getD j 0 ≤ 1000000
theorem getD_set {l : List Int} {i j : Nat} {v : Int} : (l.set i v).getD j 0 = if i = j ∧ j < l.length then v else l.getD j 0 := by
  simp only [List.getD_eq_getElem?_getD, List.getElem?_set]
  by_cases h : i = j
  · subst h
    by_cases h2 : i < l.length
    · simp [h2]
    · simp [h2]
  · simp [h]
theorem impS_b {rs : List Rep} {st : Int} (hc : OKc st rs) {k i : Nat} (hk : k < rs.length) {o : List Int} {c : Int} (hc0 : 0 ≤ c) (h : inB c o) : inB (c + 1) (impS rs k o i) := by
  intro j
  have := (hc.tk).2 k hk
  have h1 := h k; have h2 := h i; have h3 := h j
  unfold impS
  split
  · rw [getD_set]
    split
    · split <;> omega
    · omega
  · omega
theorem impI_b {rs : List Rep} {st : Int} (hc : OKc st rs) {k : Nat} (hk : k < rs.length) {o : List Int} {c : Int} (hc0 : 0 ≤ c) (h : inB c o) : ∀ i : Nat, inB (c + i) (impI rs k o i)
  | 0 => by simpa [impI] using h
  | i + 1 => by
    have := impS_b (i := i) hc hk (by omega) (impI_b hc hk hc0 h i)
    simp only [impI]
    rwa [show c + ((i + 1 : Nat) : Int) = c + (i : Int) + 1 by omega]
theorem inB.mono {c d : Int} {o : List Int} (h : inB c o) (hd : c ≤ d) : inB d o := fun j => by have := h j; omega
theorem impK_b {rs : List Rep} {st : Int} (hc : OKc st rs) {o : List Int} {c : Int} (hc0 : 0 ≤ c) (h : inB c o) : ∀ k : Nat, k ≤ rs.length → inB (c + 10 * k) (impK rs o k)
  | 0, _ => by simpa [impK] using h
  | k + 1, hk => by
    have := impI_b hc (k := k) (by omega) (c := c + 10 * k) (by omega) (impK_b hc hc0 h k (by omega)) rs.length
    have hl := hc.len
    exact this.mono (by omega)
theorem du_b {rs : List Rep} {st : Int} (hc : OKc st rs) : inB 0 (dues rs) := fun j => by
  by_cases hj : j < rs.length
  · have := (hc.rep j hj).1.2.1
    simp only [dues, List.getD_eq_getElem?_getD, List.getElem?_map, List.getElem?_eq_getElem hj] at this ⊢
    simpa using this
  · simp [dues, List.getD_eq_getElem?_getD, List.getElem?_eq_none (show rs.length ≤ j by omega)]
theorem impR_b {rs : List Rep} {st : Int} (hc : OKc st rs) : ∀ r : Nat, r ≤ rs.length → inB (100 * r) (impR rs r)
  | 0, _ => by simpa [impR] using du_b hc
  | r + 1, hr => by
    have := impK_b hc (c := 100 * r) (by omega) (impR_b hc r (by omega)) rs.length (Nat.le_refl _)
    have hl := hc.len
    exact this.mono (by omega)
theorem impM_b {rs : List Rep} {st : Int} (hc : OKc st rs) : inB 1000 (impM rs) := (impR_b hc rs.length (Nat.le_refl _)).mono (by have := hc.len; omega)
/-- The first k deadlines, and zeros. -/
def dueT (rs : List Rep) (k : Nat) : List Int := (List.range rs.length).map fun j => if j < k then du rs j else 0
theorem dueT_zero {rs : List Rep} : dueT rs 0 = List.replicate rs.length 0 := by
  simp [dueT, List.map_const']
theorem dueT_succ {rs : List Rep} {k : Nat} : (dueT rs k).set k (du rs k) = dueT rs (k + 1) := by
  apply List.ext_getElem?
  intro i
  simp only [dueT, List.getElem?_set, List.getElem?_map, List.getElem?_range, List.length_map, List.length_range]
  by_cases hi : i < rs.length
  · by_cases e : k = i
    · subst e; simp [hi]
    · simp [e, hi, show (i < k) = (i < k + 1) by apply propext; omega]
  · by_cases e : k = i
    · subst e; simp [hi]
    · simp [e, hi]
theorem dueT_end {rs : List Rep} : dueT rs rs.length = dues rs := by
  apply List.ext_getElem?
  intro i
  by_cases hi : i < rs.length
  · simp [dueT, dues, hi, du]
  · simp [dueT, dues, hi]
theorem dueT_len {rs : List Rep} {k : Nat} : (dueT rs k).length = rs.length := by simp [dueT]
theorem set_min {o : List Int} {i k : Nat} {t : Int} (c : Prop) [Decidable c] : (if c then PV.int .i64 (o.getD k 0 - t) else PV.int .i64 (o.getD i 0)) = PV.int .i64 (if c then o.getD k 0 - t else o.getD i 0) := by split <;> rfl
noncomputable def A_imp : (Int) × (List Rep) → List PV := fun (st, rs) => [.agg [I st, reps rs]]
noncomputable def R_imp : (Int) × (List Rep) → PV := fun (st, rs) => ints (impM rs)
def H_imp : (Int) × (List Rep) → Prop := fun (st, rs) => OKc st rs
noncomputable def e_imp : Nat × Ent := (38, .v (specOf A_imp R_imp H_imp))
theorem j_imp : ∀ i j, A_imp i = A_imp j → i = j := by
  rintro ⟨st₁, rs₁⟩ ⟨st₂, rs₂⟩ h
  simp only [A_imp, List.cons.injEq, and_true, PV.lits.injEq, PV.int.injEq, PV.bool.injEq, PV.str.injEq, PV.agg.injEq, PV.func.injEq, PV.vptr.injEq, true_and, List.map_nil, inj_ints, inj_strs, inj_reps] at h
  simp [Prod.ext_iff, h] <;> omega
theorem s_imp (st : Int) (rs : List Rep) : specOf A_imp R_imp H_imp [.agg [I st, reps rs]] = @ite (Option (PV)) (OKc st rs) (Classical.propDecidable _) (some (ints (impM rs))) none := specOf_if j_imp (st, rs)
def C_imp : Prop := ∀ (st : Int) (rs : List Rep) (h : OKc st rs) , VC Try.prog 38 [.agg [I st, reps rs]] (ints (impM rs))
def O_imp : Prop := EntOK Try.prog e_imp.1 e_imp.2
theorem k_imp (c : C_imp) : O_imp := specOf_ok fun ⟨st, rs⟩ h => c st rs h
theorem c_imp : C_imp := by
  rintro st rs hc
  refine vc_ofU mixed (l := [e_has]) ((eok_cons o_has eok_nil)) [] []  Try.func38 rfl (by decide +kernel) (N := 67) rfl (by simp) rfl (by kernel_rfl) fun hs => ?_
  simp only [smallL, PV.small, List.length_map, and_true, true_and] at hs
  generalize hr : impM rs = r
  have h10 := hc.len
  have hw : ∀ i : Nat, i < rs.length → IntKind.i64.wrap ((i : Int) + 1) = ((i + 1 : Nat) : Int) := fun i g => by rw [wrap64 (by omega) (by omega)]; omega
  have hmax : (rs.length : Int) ≤ 4294967296 := by omega
  simp +contextual (maxSteps := 4000000) only [↓ur_seq, ↓ur_block, ↓ur_region, ↓cont_seq, ↓ops_consN, nY_move, nY_assign, nY_box, nY_load, nY_makeSlice, nY_fieldAddr, nY_callb, ↓ops_nil, opsIf_some, Option.map_some, Option.bind_some, Option.getD_some, Nat.reduceLT, Bool.false_eq_true, ↓upd_same, ↓upd_ne, Nat.reduceBEq, true_and, and_true, List.getD_cons_zero, List.getElem?_cons_zero, List.getElem?_cons_succ, cfg_P, cfg_muts, cfg_frz, cfg_num, numOf_eq, List.length_map, List.contains_nil, Int.natCast_nonneg, Int.toNat_natCast, List.length_cons, List.length_nil, Nat.zero_add, Nat.reduceAdd, Nat.lt_succ_self, st0, cells_agg, ↓ev_tmp, ↓ev_int, ↓ev_nils, ↓iop_move, ↓iop_assign, ↓iop_box, ↓iop_load, ↓iop_makeSlice, mkSl_int, ↓iop_fieldAddr, ↓iop_callb, bi_len, lenM_none, pickP_f, loadP_vptr, fieldP_vptr, lenP_lits, env0_eq, Store.new, ↓reduceIte, boxP_eq, ↓evs_cons, ↓evs_nil, Int.le_refl, see_eq, e_has, nth_reps, pur_reps, Try.f38, ty3, ty22, ty24, ty25, hmax]
  refine loop_cnt [4, 5, 16, 17, 18, 19, 20, 21, 22, 23, 24, 25, 26] rs.length (fun i ρ st => ρ 16 = I i ∧ st.obj 0 = some (.arr 0 1 ((dueT rs i).map (PV.int .i64))) ∧ 0 < st.next) (.refl _) ?_ ?_
  · simp +contextual (maxSteps := 4000000) only [↓upd_same, true_and, and_true, Option.some.injEq, updO_same, IObj.arr.injEq, Nat.lt_succ_self, Int.cast_ofNat_Int, nth_reps, pur_reps, Try.f38]
    simp [dueT_zero]
  · rintro i ρ ⟨ob, M⟩ hi ⟨h16, h0, hM⟩
    dsimp only at h0 hM
    have n1 : ¬ 0 = M := by omega
    have n2 : ¬ M = 0 := by omega
    by_cases hlt : i < rs.length
    · simp +contextual (maxSteps := 4000000) only [↓ur_skip, ↓ur_seq, ↓ur_block, ↓ur_region, ↓ur_cond, ↓cont_seq, ↓cont_blk, ↓cont_lp, ↓ops_consN, nY_move, nY_assign, nY_alloc, nY_load, nY_store, nY_binOp, nY_fieldAddr, nY_indexAddr, ↓ops_nil, opsIf_some, opsIf_none, condC_true, Option.map_some, Option.bind_some, Option.getD_some, Nat.reduceLT, Bool.false_eq_true, ↓upd_same, ↓upd_ne, Nat.reduceBEq, true_and, and_true, List.getElem?_cons_zero, List.getElem?_cons_succ, cfg_P, cfg_frz, cfg_num, numOf_eq, List.length_map, ↓havoc_in, ↓havoc_out, agree_upd, agree_havoc, List.contains_cons, List.contains_nil, Bool.or_false, Bool.or_true, Int.natCast_nonneg, Int.ofNat_lt, Int.toNat_natCast, nth_int, decide_true, PV.int.injEq, List.nil_append, List.append_nil, updO_same, updO_ne, List.length_cons, List.length_nil, Nat.zero_add, List.drop_zero, List.take_zero, Nat.reduceAdd, List.set_cons_zero, nth_zero, Nat.lt_succ_self, not_false_eq_true, Nat.le_refl, cells_int, cells_agg, ↓ev_tmp, ↓ev_int, ↓iop_move, ↓iop_assign, ↓iop_alloc, ↓iop_load, ↓iop_store, ↓iop_binOp, ↓iop_fieldAddr, ↓iop_indexAddr, idxA_int, pickP_f, pickP_t, loadP_vptr, loadP_ptr, setCells_agg, setCells_int, storeP_ptr, fieldP_ptr, indexP_lits, indexP_ref, b_add, b_lss, splice_eq, Store.new, Store.set, ↓reduceIte, arr_eq, arrB_some, beq_eq_false_iff_ne, ne_eq, set_int, List.take_succ_cons, List.drop_succ_cons, List.drop_nil, List.take_nil, beq_self_eq_true, see_eq, nth_reps, pur_reps, Try.f38, ty3, ty22, ty25, ty56, h16, h0, hM, hlt, n1, n2, dueT_len, du_at, dueT_succ]
      exact ⟨hw i hlt, by omega⟩
    · have e : i = rs.length := by omega
      subst e
      simp +contextual (maxSteps := 4000000) only [↓ur_seq, ↓ur_block, ↓ur_exit, ↓ur_region, ↓ur_cond, ↓cont_seq, ↓leave_seq, ↓leave_blk, ↓leave_lp, ↓ops_consN, nY_move, nY_binOp, nY_callb, ↓ops_nil, opsIf_some, condC_false, Option.map_some, Option.bind_some, Option.getD_some, Nat.reduceLT, ↓upd_same, ↓upd_ne, Nat.reduceBEq, true_and, cfg_P, ↓havoc_in, ↓havoc_out, List.contains_cons, List.contains_nil, Bool.or_false, Bool.or_true, Int.ofNat_lt, decide_false, Nat.lt_irrefl, Nat.lt_succ_self, ↓ev_tmp, ↓ev_int, ↓iop_move, ↓iop_binOp, ↓iop_callb, bi_len, lenM_none, lenP_ref, b_lss, ↓reduceIte, arr_eq, arrB_some, ↓evs_cons, ↓evs_nil, beq_self_eq_true, nth_reps, pur_reps, Try.f38, ty25, h16, h0, hM, n1, n2, dueT_len, dueT_end]
      refine loop_cnt [6, 7, 8, 29, 30, 31, 32, 33, 34, 35, 36, 37, 38, 39, 40, 41, 42, 43, 44, 45, 46, 47, 48, 49, 50, 51, 52, 53, 54, 55, 56, 57, 58, 59, 60, 61, 62, 63, 64, 65] rs.length (fun a ρ st => ρ 29 = I a ∧ st.obj 0 = some (.arr 0 1 ((impR rs a).map (PV.int .i64))) ∧ 0 < st.next) (.refl _) ?_ ?_
      · simp +contextual (maxSteps := 4000000) only [↓upd_same, true_and, and_true, Option.some.injEq, IObj.arr.injEq, Int.cast_ofNat_Int, nth_reps, pur_reps, Try.f38, h0, hM, dueT_end, dueT_len]
        rfl
      · rintro a ρ2 ⟨ob2, M2⟩ ha ⟨h29, h02, hM2⟩
        dsimp only at h02 hM2
        by_cases halt : a < rs.length
        · simp +contextual (maxSteps := 4000000) only [↓ur_skip, ↓ur_seq, ↓ur_block, ↓ur_region, ↓ur_cond, ↓cont_seq, ↓ops_consN, nY_move, nY_load, nY_binOp, nY_fieldAddr, nY_callb, ↓ops_nil, opsIf_some, condC_true, Option.map_some, Option.bind_some, Option.getD_some, Nat.reduceLT, Bool.false_eq_true, ↓upd_same, ↓upd_ne, Nat.reduceBEq, true_and, List.getElem?_cons_zero, List.getElem?_cons_succ, cfg_P, cfg_frz, List.length_map, ↓havoc_in, ↓havoc_out, List.contains_cons, List.contains_nil, Bool.or_false, Bool.or_true, Int.ofNat_lt, decide_true, Nat.zero_add, Nat.lt_succ_self, ↓ev_tmp, ↓ev_int, ↓iop_move, ↓iop_load, ↓iop_binOp, ↓iop_fieldAddr, ↓iop_callb, bi_len, lenM_none, pickP_f, loadP_vptr, fieldP_vptr, lenP_lits, b_lss, ↓reduceIte, ↓evs_cons, ↓evs_nil, beq_self_eq_true, see_eq, nth_reps, pur_reps, Try.f38, ty22, ty24, h29, h02, hM2, halt, dueT_len]
          refine loop_cnt [6, 7, 8, 34, 35, 36, 37, 38, 39, 40, 41, 42, 43, 44, 45, 46, 47, 48, 49, 50, 51, 52, 53, 54, 55, 56, 57, 58, 59, 60, 61, 62, 63, 64] rs.length (fun k ρ st => ρ 34 = I k ∧ st.obj 0 = some (.arr 0 1 ((impK rs (impR rs a) k).map (PV.int .i64))) ∧ 0 < st.next) (.refl _) ?_ ?_
          · simp +contextual (maxSteps := 4000000) only [↓upd_same, true_and, and_true, Option.some.injEq, IObj.arr.injEq, Int.cast_ofNat_Int, nth_reps, pur_reps, Try.f38, h02, hM2]
            rfl
          · rintro k ρ3 ⟨ob3, M3⟩ hk ⟨h34, h03, hM3⟩
            dsimp only at h03 hM3
            have n1 : ¬ 0 = M3 := by omega
            have n2 : ¬ M3 = 0 := by omega
            by_cases hklt : k < rs.length
            · have hlen1 : (impK rs (impR rs a) k).length = rs.length := by rw [impK_len, impR_len]
              simp +contextual (maxSteps := 4000000) only [↓ur_skip, ↓ur_seq, ↓ur_block, ↓ur_region, ↓ur_cond, ↓cont_seq, ↓ops_consN, nY_move, nY_assign, nY_alloc, nY_load, nY_store, nY_binOp, nY_indexAddr, nY_callb, ↓ops_nil, opsIf_some, opsIf_none, condC_true, Option.map_some, Option.bind_some, Option.getD_some, Nat.reduceLT, Bool.false_eq_true, ↓upd_same, ↓upd_ne, Nat.reduceBEq, true_and, and_true, cfg_P, cfg_frz, cfg_num, numOf_eq, List.length_map, ↓havoc_in, ↓havoc_out, List.contains_cons, List.contains_nil, Bool.or_false, Bool.or_true, Int.natCast_nonneg, Int.ofNat_lt, Int.toNat_natCast, decide_true, List.nil_append, List.append_nil, updO_same, updO_ne, List.length_cons, List.length_nil, Nat.zero_add, List.drop_zero, List.take_zero, Nat.reduceAdd, List.set_cons_zero, nth_zero, Nat.lt_succ_self, not_false_eq_true, Nat.le_refl, cells_agg, ↓ev_tmp, ↓ev_int, ↓iop_move, ↓iop_assign, ↓iop_alloc, ↓iop_load, ↓iop_store, ↓iop_binOp, ↓iop_indexAddr, idxA_int, ↓iop_callb, bi_len, lenM_none, pickP_t, loadP_vptr, setCells_agg, storeP_ptr, indexP_lits, lenP_ref, b_lss, splice_eq, Store.new, Store.set, ↓reduceIte, arr_eq, arrB_some, beq_eq_false_iff_ne, ne_eq, List.take_succ_cons, List.drop_succ_cons, List.drop_nil, List.take_nil, ↓evs_cons, ↓evs_nil, beq_self_eq_true, see_eq, nth_reps, pur_reps, Try.f38, ty22, ty25, ty56, h34, h03, hM3, hklt, n1, n2, dueT_len]
              refine loop_cnt [8, 41, 42, 43, 44, 45, 46, 47, 48, 49, 50, 51, 52, 53, 54, 55, 56, 57, 58, 59, 60, 61, 62, 63] rs.length (fun i ρ st => ρ 41 = I i ∧ st.obj 0 = some (.arr 0 1 ((impI rs k (impK rs (impR rs a) k) i).map (PV.int .i64))) ∧ st.obj M3 = some (.arr 0 4 [repV (rs.getD k dR)]) ∧ M3 < st.next) (.refl _) ?_ ?_
              · simp +contextual (maxSteps := 4000000) only [↓upd_same, true_and, and_true, Option.some.injEq, updO_same, updO_ne, IObj.arr.injEq, Nat.lt_succ_self, not_false_eq_true, beq_eq_false_iff_ne, ne_eq, Int.cast_ofNat_Int, nth_reps, pur_reps, Try.f38, h03, hM3, n1, n2]
                rfl
              · rintro i ρ4 ⟨ob4, M4⟩ hi ⟨h41, h04, hm4, hM4⟩
                dsimp only at h04 hm4 hM4
                have hb := impI_b hc hklt (c := 100 * a + 10 * k) (by omega) (impK_b hc (by omega) (impR_b hc a ha) k hk) i
                have hl := hc.rep k hklt
                have hp := pow1024 (k := rs.length) h10
                have hac : ac rs k < 9223372036854775808 := by omega
                have hlenI : (impI rs k (impK rs (impR rs a) k) i).length = rs.length := by rw [impI_len, impK_len, impR_len]
                by_cases hilt : i < rs.length
                · have hi64 : i ≤ 64 := by omega
                  cases htb : (ac rs k).testBit i
                  · simp +contextual (maxSteps := 4000000) only [↓ur_skip, ↓ur_seq, ↓ur_block, ↓ur_region, ↓ur_cond, ↓cont_seq, ↓cont_blk, ↓cont_lp, ↓ops_consN, nY_move, nY_assign, nY_load, nY_binOp, nY_fieldAddr, nY_callf, ↓ops_nil, opsIf_some, condC_true, condC_false, Option.map_some, Option.bind_some, Option.getD_some, Nat.reduceLT, Bool.false_eq_true, ↓upd_same, ↓upd_ne, Nat.reduceBEq, true_and, and_true, List.getElem?_cons_zero, List.getElem?_cons_succ, cfg_P, cfg_tab, cfg_muts, cfg_frz, ↓havoc_in, ↓havoc_out, agree_upd, agree_havoc, List.contains_cons, List.contains_nil, Bool.or_false, Bool.or_true, Int.ofNat_lt, decide_true, PV.int.injEq, tabOf_cons, tab_v, Bool.and_self, List.nil_append, List.append_nil, Nat.zero_add, nth_zero, Nat.lt_succ_self, pur_int, cells_agg, ↓ev_tmp, ↓ev_int, ↓ev_func, ↓iop_move, ↓iop_assign, ↓iop_load, ↓iop_binOp, ↓iop_fieldAddr, ↓iop_callv, nrmAll_cons, nrmAll_nil, nrm_int, pickP_f, loadP_ptr, fieldP_ptr, b_add, b_lss, valT_eq, pursL_cons, pursL_nil, ↓reduceIte, arr_eq, arrB_some, callP_eq, ↓evs_cons, ↓evs_nil, beq_self_eq_true, see_eq, and_false, Bool.true_eq_false, s_has, nth_reps, pur_reps, Try.f38, ty3, ty56, ty64, h41, h04, hm4, hM4, hilt, hlenI, af_at, hl.2.1, hac, hi64, htb, dueT_len, impI, impS]
                    exact hw i hilt
                  · have b1 := hb k
                    have b2 := hb i
                    have b3 := (hc.tk).2 k hklt
                    have hsub : IntKind.i64.wrap ((impI rs k (impK rs (impR rs a) k) i).getD k 0 - tk rs k) = (impI rs k (impK rs (impR rs a) k) i).getD k 0 - tk rs k := wrap64 (by omega) (by omega)
                    simp +contextual (maxSteps := 4000000) only [↓ur_skip, ↓ur_seq, ↓ur_block, ↓ur_region, ↓ur_cond, ↓cont_seq, ↓cont_blk, ↓cont_lp, ↓ops_consN, nY_move, nY_assign, nY_load, nY_store, nY_binOp, nY_fieldAddr, nY_indexAddr, nY_callf, nY_callb, ↓ops_nil, opsIf_some, opsIf_none, condC_true, Option.map_some, Option.bind_some, Option.getD_some, Nat.reduceLT, Bool.false_eq_true, ↓upd_same, ↓upd_ne, Nat.reduceBEq, true_and, and_true, List.getElem?_cons_zero, List.getElem?_cons_succ, cfg_P, cfg_tab, cfg_muts, cfg_frz, List.length_map, ↓havoc_in, ↓havoc_out, agree_upd, agree_havoc, List.contains_cons, List.contains_nil, Bool.or_false, Bool.or_true, Int.natCast_nonneg, Int.ofNat_lt, Int.toNat_natCast, nth_int, decide_true, PV.int.injEq, tabOf_cons, tab_v, Bool.and_self, List.nil_append, List.append_nil, updO_same, List.length_cons, List.length_nil, Nat.zero_add, Nat.add_zero, nth_zero, Nat.lt_succ_self, Nat.le_refl, cells_int, pur_int, cells_agg, ↓ev_tmp, ↓ev_int, ↓ev_func, ↓iop_move, ↓iop_assign, ↓iop_load, ↓iop_store, ↓iop_binOp, ↓iop_fieldAddr, ↓iop_indexAddr, idxA_int, ↓iop_callv, ↓iop_callb, nrmAll_cons, nrmAll_nil, bi_min, nrm_int, pickP_f, loadP_ptr, setCells_int, storeP_ptr, fieldP_ptr, indexP_ref, b_add, b_sub, b_lss, valT_eq, pursL_cons, pursL_nil, Store.set, ↓reduceIte, arr_eq, arrB_some, callP_eq, set_int, ↓evs_cons, ↓evs_nil, beq_self_eq_true, see_eq, and_false, Bool.true_eq_false, s_has, nth_reps, pur_reps, Try.f38, ty3, ty25, ty56, ty64, h41, h04, hm4, hM4, hilt, hklt, hlenI, af_at, tk_at, hl.2.1, hac, hi64, htb, hsub, dueT_len, impI, impS]
                    exact ⟨hw i hilt, by rw [updO_ne (by simpa using n2)]; exact hm4⟩
                · have e : i = rs.length := by omega
                  subst e
                  simp +contextual (maxSteps := 4000000) only [↓ur_seq, ↓ur_exit, ↓ur_region, ↓ur_cond, ↓cont_seq, ↓cont_blk, ↓cont_lp, ↓leave_seq, ↓leave_blk, ↓leave_lp, ↓ops_consN, nY_move, nY_binOp, ↓ops_nil, opsIf_some, condC_false, Option.map_some, Nat.reduceLT, ↓upd_same, ↓upd_ne, Nat.reduceBEq, true_and, cfg_P, ↓havoc_in, ↓havoc_out, agree_upd, List.contains_cons, List.contains_nil, Bool.or_false, Bool.or_true, Int.ofNat_lt, decide_false, Option.some.injEq, PV.int.injEq, IObj.arr.injEq, Nat.lt_irrefl, ↓ev_tmp, ↓ev_int, ↓iop_move, ↓iop_binOp, b_add, b_lss, ↓reduceIte, beq_self_eq_true, nth_reps, pur_reps, Try.f38, h41, h04, hm4, hM4, h34, dueT_len]
                  refine ⟨?_, hw k hklt, rfl, by omega⟩
                  rw [agree_havoc_sub (by decide +kernel)]; simp +contextual (maxSteps := 4000000) only [Nat.reduceBEq, agree_upd, agree_havoc, List.contains_cons, List.contains_nil, Bool.or_false, Bool.or_true, beq_self_eq_true, nth_reps, pur_reps, Try.f38]
            · have e : k = rs.length := by omega
              subst e
              simp +contextual (maxSteps := 4000000) only [↓ur_seq, ↓ur_exit, ↓ur_region, ↓ur_cond, ↓cont_seq, ↓cont_blk, ↓cont_lp, ↓leave_seq, ↓leave_blk, ↓leave_lp, ↓ops_consN, nY_move, nY_binOp, ↓ops_nil, opsIf_some, condC_false, Option.map_some, Nat.reduceLT, ↓upd_same, ↓upd_ne, Nat.reduceBEq, true_and, and_true, cfg_P, ↓havoc_in, ↓havoc_out, agree_upd, List.contains_cons, List.contains_nil, Bool.or_false, Bool.or_true, Int.ofNat_lt, decide_false, Option.some.injEq, PV.int.injEq, IObj.arr.injEq, Nat.lt_irrefl, ↓ev_tmp, ↓ev_int, ↓iop_move, ↓iop_binOp, b_add, b_lss, ↓reduceIte, beq_self_eq_true, nth_reps, pur_reps, Try.f38, h34, h03, hM3, h29]
              refine ⟨?_, hw a halt, rfl⟩
              rw [agree_havoc_sub (by decide +kernel)]; simp +contextual (maxSteps := 4000000) only [Nat.reduceBEq, agree_upd, agree_havoc, List.contains_cons, List.contains_nil, Bool.or_false, Bool.or_true, beq_self_eq_true, nth_reps, pur_reps, Try.f38]
        · have e : a = rs.length := by omega
          subst e
          simp +contextual (maxSteps := 4000000) only [↓ur_seq, ↓ur_exit, ↓ur_ret, ↓ur_region, ↓ur_cond, ↓cont_seq, ↓leave_seq, ↓leave_blk, ↓leave_lp, ↓done_nil, ↓ops_consN, nY_move, nY_assign, nY_binOp, ↓ops_nil, opsIf_some, condC_false, Option.map_some, Option.bind_some, Nat.reduceLT, ↓upd_same, ↓upd_ne, Nat.reduceBEq, true_and, endQ, cfg_P, List.length_map, ↓havoc_in, ↓havoc_out, List.contains_cons, List.contains_nil, Bool.or_false, Bool.or_true, Int.ofNat_lt, decide_false, Option.some.injEq, exists_eq_left', pur_ints, Nat.zero_add, List.drop_zero, Prod.mk.injEq, Nat.lt_irrefl, Nat.lt_succ_self, DRx_ref, ↓ev_tmp, ↓iop_move, ↓iop_assign, ↓iop_binOp, b_lss, ires_eq, iresL_1, iresAll_nil, iresAll_cons, iresOne_tmp, ↓reduceIte, arr_eq, arrB_some, beq_self_eq_true, nth_reps, pur_reps, Try.f38, h29, h02, hM2, dueT_len]
          rw [impR_len, List.take_of_length_le (by simp [impR_len]), ← hr]
          exact ⟨Nat.le_refl _, rfl⟩
theorem o_imp : O_imp := k_imp c_imp

noncomputable def A_Imp : (Int) × (List Rep) → List PV := fun (st, rs) => [.agg [I st, reps rs]]
noncomputable def R_Imp : (Int) × (List Rep) → PV := fun (st, rs) => .tuple [ints (if checkM st rs = 0 then impM rs else []), I (checkM st rs)]
def H_Imp : (Int) × (List Rep) → Prop := fun (st, rs) => True
noncomputable def e_Imp : Nat × Ent := (13, .v (specOf A_Imp R_Imp H_Imp))
theorem j_Imp : ∀ i j, A_Imp i = A_Imp j → i = j := by
  rintro ⟨st₁, rs₁⟩ ⟨st₂, rs₂⟩ h
  simp only [A_Imp, List.cons.injEq, and_true, PV.lits.injEq, PV.int.injEq, PV.bool.injEq, PV.str.injEq, PV.agg.injEq, PV.func.injEq, PV.vptr.injEq, true_and, List.map_nil, inj_ints, inj_strs, inj_reps] at h
  simp [Prod.ext_iff, h] <;> omega
theorem s_Imp (st : Int) (rs : List Rep) : specOf A_Imp R_Imp H_Imp [.agg [I st, reps rs]] = some (.tuple [ints (if checkM st rs = 0 then impM rs else []), I (checkM st rs)]) := specOf_app j_Imp (i := (st, rs)) trivial
def C_Imp : Prop := ∀ (st : Int) (rs : List Rep) , VC Try.prog 13 [.agg [I st, reps rs]] (.tuple [ints (if checkM st rs = 0 then impM rs else []), I (checkM st rs)])
def O_Imp : Prop := EntOK Try.prog e_Imp.1 e_Imp.2
theorem k_Imp (c : C_Imp) : O_Imp := specOf_ok fun ⟨st, rs⟩ h => c st rs
theorem c_Imp : C_Imp := by
  rintro st rs
  refine vc_ofU mixed (l := [e_check, e_imp]) ((eok_cons o_check (eok_cons o_imp eok_nil))) [] []  Try.func13 rfl (by decide +kernel) (N := 12) rfl (by simp) rfl (by kernel_rfl) fun hs => ?_
  simp only [smallL, PV.small, List.length_map, and_true, true_and] at hs
  by_cases h : checkM st rs = 0
  · have hc := check_zero.1 h
    rw [if_pos h, h]
    generalize hr : impM rs = r
    simp +contextual (maxSteps := 4000000) only [↓ur_skip, ↓ur_seq, ↓ur_ret, ↓ur_region, ↓ur_cond, ↓cont_seq, ↓done_nil, ↓ops_consN, nY_move, nY_assign, nY_box, nY_load, nY_binOp, nY_callf, ↓ops_nil, opsIf_some, condC_false, Option.map_some, Option.bind_some, Option.getD_some, Nat.reduceLT, Bool.false_eq_true, ↓upd_same, ↓upd_ne, Nat.reduceBEq, and_true, List.getD_cons_zero, endQ, cfg_P, cfg_tab, cfg_muts, cfg_frz, List.contains_nil, decide_false, Option.some.injEq, exists_eq_left', List.lookup_cons, List.lookup_nil, tabOf_cons, tab_v, pur_ints, Bool.and_self, Nat.reduceEqDiff, List.nil_append, List.append_nil, List.length_cons, List.length_nil, Nat.zero_add, List.drop_zero, Nat.reduceAdd, Nat.lt_succ_self, not_true_eq_false, st0, Nat.le_refl, pur_int, pur_lits, cells_agg, pur_agg, DRx_int, DRx_lits, DRx_tuple, DRxL_cons, DRxL_nil, ↓ev_tmp, ↓ev_int, ↓ev_nils, ↓ev_func, ↓iop_move, ↓iop_assign, ↓iop_box, ↓iop_load, ↓iop_binOp, ↓iop_callv, nrmAll_cons, nrmAll_nil, nrm_agg, nrmL_cons, nrmL_nil, nrm1_int, nrm1_lits, pickP_t, loadP_vptr, b_neq, env0_eq, ires_eq, iresL_2, iresAll_nil, iresAll_cons, iresOne_tmp, valT_eq, pursL_cons, pursL_nil, ↓reduceIte, callP_eq, boxP_eq, List.take_succ_cons, List.take_nil, ↓evs_cons, ↓evs_nil, beq_self_eq_true, see_eq, and_false, Bool.true_eq_false, e_check, s_check, e_imp, s_imp, nth_reps, pur_reps, Try.f13, ty24, h, hc, hr]
  · rw [if_neg h]
    generalize hr : checkM st rs = r at *
    simp +contextual (maxSteps := 4000000) only [↓ur_seq, ↓ur_ret, ↓ur_region, ↓ur_cond, ↓cont_seq, ↓done_nil, ↓done_seq, ↓ops_consN, nY_move, nY_assign, nY_box, nY_load, nY_binOp, nY_callf, ↓ops_nil, opsIf_some, condC_true, Option.map_some, Option.bind_some, Option.getD_some, Nat.reduceLT, Bool.false_eq_true, ↓upd_same, ↓upd_ne, Nat.reduceBEq, and_true, List.getD_cons_zero, endQ, cfg_P, cfg_tab, cfg_muts, cfg_frz, List.map_nil, List.contains_nil, decide_true, Option.some.injEq, exists_eq_left', List.lookup_cons, List.lookup_nil, tabOf_cons, tab_v, Bool.and_self, List.nil_append, List.append_nil, List.length_cons, List.length_nil, Nat.zero_add, List.drop_zero, Nat.reduceAdd, not_false_eq_true, st0, Nat.le_refl, pur_int, pur_lits, cells_agg, pur_agg, DRx_int, DRx_nils_lits, DRx_tuple, DRxL_cons, DRxL_nil, ↓ev_tmp, ↓ev_int, ↓ev_nils, ↓ev_func, ↓iop_move, ↓iop_assign, ↓iop_box, ↓iop_load, ↓iop_binOp, ↓iop_callv, nrmAll_cons, nrmAll_nil, nrm_agg, nrmL_cons, nrmL_nil, nrm1_int, nrm1_lits, pickP_t, loadP_vptr, b_neq, env0_eq, ires_eq, iresL_2, iresAll_nil, iresAll_cons, iresOne_tmp, valT_eq, pursL_cons, pursL_nil, ↓reduceIte, callP_eq, boxP_eq, List.take_succ_cons, List.take_nil, ↓evs_cons, ↓evs_nil, beq_self_eq_true, see_eq, and_false, Bool.true_eq_false, e_check, s_check, e_imp, nth_reps, pur_reps, Try.f13, ty24, h, hr]
theorem o_Imp : O_Imp := k_Imp c_Imp

theorem dues_get {rs : List Rep} {k : Nat} (h : k < rs.length) : (dues rs).getD k 0 = du rs k := by
  simp [dues, du, h]
theorem dues_len {rs : List Rep} : (dues rs).length = rs.length := by simp [dues]
noncomputable def A_rImp : (Int) × (List Rep) → List PV := fun (st, rs) => [.agg [I st, reps rs]]
noncomputable def R_rImp : (Int) × (List Rep) → PV := fun (st, rs) => .agg [ints (if checkM st rs = 0 then impM rs else []), I (checkM st rs)]
def H_rImp : (Int) × (List Rep) → Prop := fun (st, rs) => True
noncomputable def e_rImp : Nat × Ent := (14, .v (specOf A_rImp R_rImp H_rImp))
theorem j_rImp : ∀ i j, A_rImp i = A_rImp j → i = j := by
  rintro ⟨st₁, rs₁⟩ ⟨st₂, rs₂⟩ h
  simp only [A_rImp, List.cons.injEq, and_true, PV.lits.injEq, PV.int.injEq, PV.bool.injEq, PV.str.injEq, PV.agg.injEq, PV.func.injEq, PV.vptr.injEq, true_and, List.map_nil, inj_ints, inj_strs, inj_reps] at h
  simp [Prod.ext_iff, h] <;> omega
theorem s_rImp (st : Int) (rs : List Rep) : specOf A_rImp R_rImp H_rImp [.agg [I st, reps rs]] = some (.agg [ints (if checkM st rs = 0 then impM rs else []), I (checkM st rs)]) := specOf_app j_rImp (i := (st, rs)) trivial
def C_rImp : Prop := ∀ (st : Int) (rs : List Rep) , VC Try.prog 14 [.agg [I st, reps rs]] (.agg [ints (if checkM st rs = 0 then impM rs else []), I (checkM st rs)])
def O_rImp : Prop := EntOK Try.prog e_rImp.1 e_rImp.2
theorem k_rImp (c : C_rImp) : O_rImp := specOf_ok fun ⟨st, rs⟩ h => c st rs
theorem c_rImp : C_rImp := by
  rintro st rs
  refine vc_ofU mixed (l := [e_rcheck, e_in]) ((eok_cons o_rcheck (eok_cons o_in eok_nil))) [] []  Try.func14 rfl (by decide +kernel) (N := 83) rfl (by simp) rfl (by kernel_rfl) fun hs => ?_
  simp only [smallL, PV.small, List.length_map, and_true, true_and] at hs
  by_cases h : checkM st rs = 0
  case neg =>
    rw [if_neg h]
    generalize hr : checkM st rs = r at *
    simp +contextual (maxSteps := 4000000) only [↓ur_seq, ↓ur_ret, ↓ur_region, ↓ur_cond, ↓cont_seq, ↓done_nil, ↓done_seq, ↓ops_consN, nY_move, nY_assign, nY_alloc, nY_box, nY_build, nY_load, nY_store, nY_binOp, nY_callf, ↓ops_nil, opsIf_some, opsIf_none, condC_true, Option.map_some, Option.bind_some, Option.getD_some, Nat.reduceLT, Bool.false_eq_true, ↓upd_same, ↓upd_ne, Nat.reduceBEq, and_true, List.getD_cons_zero, endQ, cfg_P, cfg_tab, cfg_muts, cfg_frz, cfg_num, numOf_eq, List.map_nil, List.contains_nil, decide_true, Option.some.injEq, exists_eq_left', List.lookup_cons, List.lookup_nil, tabOf_cons, tab_v, Bool.and_self, List.cons_append, List.nil_append, List.append_nil, updO_same, List.length_cons, List.length_nil, Nat.zero_add, List.drop_zero, List.take_zero, Nat.reduceAdd, List.set_cons_zero, nth_zero, Nat.lt_succ_self, not_false_eq_true, st0, Nat.le_refl, cells_int, pur_int, isCell_int, pur_lits, isCell_lits, cells_agg, pur_agg, DRx_int, DRx_nils_lits, DRx_agg, DRxL_cons, DRxL_nil, ↓ev_tmp, ↓ev_int, ↓ev_func, ↓iop_move, ↓iop_assign, ↓iop_alloc, ↓iop_box, ↓iop_build, ↓iop_load, ↓iop_store, ↓iop_binOp, ↓iop_callv, nrmAll_cons, nrmAll_nil, nrm_agg, nrmL_cons, nrmL_nil, nrm1_int, nrm1_lits, pickP_t, loadP_vptr, loadP_ptr, setCells_agg, storeP_ptr, b_neq, fill_nil, fill_cons, fill1_some, buildP_eq, bldA_none, splice_eq, env0_eq, ires_eq, iresL_1, iresAll_nil, iresAll_cons, iresOne_cell, valT_eq, pursL_cons, pursL_nil, Store.new, Store.set, ↓reduceIte, arr_eq, arrB_some, callP_eq, boxP_eq, List.take_succ_cons, List.drop_succ_cons, List.drop_nil, List.take_nil, ↓evs_cons, ↓evs_nil, ↓evp_cons, ↓evp_nil, beq_self_eq_true, List.all_cons, List.all_nil, see_eq, and_false, Bool.true_eq_false, e_rcheck, s_rcheck, e_in, nth_reps, pur_reps, Try.f14, ty24, ty32, h, hr]
  have hc := check_zero.1 h
  rw [if_pos h, h]
  generalize hr : impM rs = r
  have h10 := hc.len
  have hw : ∀ i : Nat, i < rs.length → IntKind.i64.wrap ((i : Int) + 1) = ((i + 1 : Nat) : Int) := fun i g => by rw [wrap64 (by omega) (by omega)]; omega
  simp +contextual (maxSteps := 4000000) only [↓ur_skip, ↓ur_seq, ↓ur_block, ↓ur_region, ↓ur_cond, ↓cont_seq, ↓ops_consN, nY_move, nY_assign, nY_alloc, nY_box, nY_load, nY_binOp, nY_callf, ↓ops_nil, opsIf_some, condC_false, Option.map_some, Option.bind_some, Option.getD_some, Nat.reduceLT, Bool.false_eq_true, ↓upd_same, ↓upd_ne, Nat.reduceBEq, true_and, and_true, List.getD_cons_zero, cfg_P, cfg_tab, cfg_muts, cfg_frz, cfg_num, numOf_eq, List.contains_nil, decide_false, List.lookup_cons, List.lookup_nil, tabOf_cons, tab_v, Bool.and_self, List.nil_append, List.append_nil, List.length_cons, List.length_nil, Nat.zero_add, List.drop_zero, Nat.reduceAdd, not_true_eq_false, st0, Nat.le_refl, pur_int, pur_lits, cells_agg, pur_agg, ↓ev_tmp, ↓ev_int, ↓ev_nils, ↓ev_func, ↓iop_move, ↓iop_assign, ↓iop_alloc, ↓iop_box, ↓iop_load, ↓iop_binOp, ↓iop_callv, nrmAll_cons, nrmAll_nil, nrm_agg, nrmL_cons, nrmL_nil, nrm1_int, nrm1_lits, pickP_t, loadP_vptr, b_neq, env0_eq, valT_eq, pursL_cons, pursL_nil, Store.new, ↓reduceIte, callP_eq, boxP_eq, List.take_succ_cons, List.take_nil, ↓evs_cons, ↓evs_nil, beq_self_eq_true, see_eq, and_false, Bool.true_eq_false, e_rcheck, s_rcheck, e_in, nth_reps, pur_reps, Try.f14, ty24, ty32, h]
  refine loop_cnt [4, 5, 16, 17, 18, 19, 20, 21, 22, 23, 24, 25, 26, 27, 28, 29, 30, 31] rs.length (fun i ρ st => ρ 5 = I i ∧ GS st (ρ 4) 1 1 (((dues rs).take i).map (PV.int .i64)) ∧ st.obj 0 = some (.arr 0 2 [.agg [.nils, I 0]]) ∧ st.next = 2) (.slot _ 4 1 ?_ ?_) ?_ ?_
  · simp +contextual (maxSteps := 4000000) only [↓upd_same, ↓upd_ne, Nat.reduceBEq, nth_reps, pur_reps, Try.f14]
  · decide
  · simp +contextual (maxSteps := 4000000) only [↓upd_same, ↓upd_ne, Nat.reduceBEq, and_true, List.map_nil, GS_ref, updO_same, updO_ne, List.length_nil, List.take_zero, Nat.reduceAdd, Store.new, Int.cast_ofNat_Int, nth_reps, pur_reps, Try.f14]
  · rintro i ρ ⟨ob, M⟩ hi ⟨h5, ⟨g, h4, h1⟩, h0, hM⟩
    dsimp only at h0 hM h1
    subst hM
    by_cases hlt : i < rs.length
    · have hl : (List.map (PV.int .i64) (List.take i (dues rs))).length = i := by simp [dues_len]; omega
      have hts : List.take (i + 1) (dues rs) = List.take i (dues rs) ++ [du rs i] := by rw [take_succ_getD 0 (by rw [dues_len]; exact hlt), dues_get hlt]
      rw [hl] at h4
      simp +contextual (maxSteps := 4000000) only [↓ur_skip, ↓ur_seq, ↓ur_block, ↓ur_region, ↓ur_cond, Nat.one_ne_zero, ↓cont_seq, ↓cont_blk, ↓cont_lp, ↓ops_consN, nY_move, nY_assign, nY_buildSlice, nY_load, nY_binOp, nY_fieldAddr, nY_indexAddr, nY_callb, ↓ops_nil, opsIf_some, opsIf_if, condC_true, Option.map_some, Option.bind_some, Option.getD_some, Nat.reduceLT, Bool.false_eq_true, ↓upd_same, ↓upd_ne, Nat.reduceBEq, true_and, and_true, List.getElem?_cons_zero, List.getElem?_cons_succ, cfg_P, cfg_muts, cfg_frz, cfg_num, numOf_eq, List.length_map, ↓havoc_in, ↓havoc_out, agree_upd, agree_havoc, List.contains_cons, List.contains_nil, Bool.or_false, Bool.or_true, Int.natCast_nonneg, Int.ofNat_lt, Int.toNat_natCast, decide_true, Option.some.injEq, PV.int.injEq, Nat.reduceEqDiff, GS_ref, updO_same, updO_ne, List.length_append, List.length_cons, List.length_nil, Nat.zero_add, List.drop_zero, Nat.not_succ_le_self, Nat.reduceAdd, List.replicate_succ, List.replicate_zero, List.set_cons_zero, Nat.reduceMul, Nat.reduceLeDiff, IObj.arr.injEq, Nat.lt_succ_self, not_false_eq_true, or_false, Nat.le_refl, cells_int, cells_agg, ↓ev_tmp, ↓ev_int, ↓iop_move, ↓iop_assign, ↓iop_buildSlice, ↓iop_load, ↓iop_binOp, ↓iop_fieldAddr, ↓iop_indexAddr, idxA_int, ↓iop_callb, bi_len, lenM_none, bi_append, pickP_f, loadP_vptr, fieldP_vptr, indexP_lits, lenP_lits, elemsP_lits, appendP_ref, b_add, b_lss, bel_nil, bel_cons, Store.set, ↓reduceIte, arr_eq, arrB_some, bslP_eq, ne_eq, ↓evs_cons, ↓evs_nil, ↓evp_cons, ↓evp_nil, beq_self_eq_true, see_eq, nth_reps, pur_reps, Try.f14, ty3, ty22, ty24, ty25, ty56, h5, h4, h0, h1, hlt, hl, du_at, hts]
      refine ⟨by omega, hw i hlt, by simp [dues_len]; omega, ?_⟩
      rw [List.take_of_length_le (by simp [dues_len]; omega)]; simp
    · have e : i = rs.length := by omega
      subst e
      have hdt : List.take rs.length (dues rs) = dues rs := List.take_of_length_le (by simp [dues_len])
      rw [hdt] at h1 h4
      simp only [List.length_map, dues_len] at h4
      simp +contextual (maxSteps := 4000000) only [↓ur_seq, ↓ur_block, ↓ur_exit, ↓ur_region, ↓ur_cond, ↓cont_seq, ↓leave_seq, ↓leave_blk, ↓leave_lp, ↓ops_consN, nY_move, nY_assign, nY_load, nY_binOp, nY_fieldAddr, nY_callb, ↓ops_nil, opsIf_some, condC_false, Option.map_some, Option.bind_some, Option.getD_some, Nat.reduceLT, Bool.false_eq_true, ↓upd_same, ↓upd_ne, Nat.reduceBEq, true_and, List.getElem?_cons_zero, List.getElem?_cons_succ, cfg_P, cfg_frz, List.length_map, ↓havoc_in, ↓havoc_out, List.contains_cons, List.contains_nil, Bool.or_false, Bool.or_true, Int.ofNat_lt, decide_false, Nat.zero_add, Nat.lt_irrefl, Nat.lt_succ_self, ↓ev_tmp, ↓ev_int, ↓iop_move, ↓iop_assign, ↓iop_load, ↓iop_binOp, ↓iop_fieldAddr, ↓iop_callb, bi_len, lenM_none, pickP_f, loadP_vptr, fieldP_vptr, lenP_lits, b_lss, ↓reduceIte, ↓evs_cons, ↓evs_nil, beq_self_eq_true, see_eq, nth_reps, pur_reps, Try.f14, ty22, ty24, h5, h4, h0, h1]
      refine loop_cnt [6, 7, 8, 9, 32, 33, 34, 35, 36, 37, 38, 39, 40, 41, 42, 43, 44, 45, 46, 47, 48, 49, 50, 51, 52, 53, 54, 55, 56, 57, 58, 59, 60, 61, 62, 63, 64, 65, 66, 67, 68, 69, 70, 71, 72, 73, 74, 75, 76, 77, 78, 79, 80] rs.length (fun a ρ st => ρ 6 = I a ∧ st.obj 1 = some (.arr g 1 ((impR rs a).map (PV.int .i64))) ∧ st.obj 0 = some (.arr 0 2 [.agg [.nils, I 0]])) (.refl _) ?_ ?_
      · simp +contextual (maxSteps := 4000000) only [↓upd_same, true_and, and_true, Option.some.injEq, IObj.arr.injEq, Int.cast_ofNat_Int, nth_reps, pur_reps, Try.f14, h0, h1]
        rfl
      · rintro a ρ2 ⟨ob2, M2⟩ ha ⟨h29, h12, h02⟩
        dsimp only at h12 h02
        by_cases halt : a < rs.length
        · simp +contextual (maxSteps := 4000000) only [↓ur_skip, ↓ur_seq, ↓ur_block, ↓ur_region, ↓ur_cond, ↓cont_seq, ↓ops_consN, nY_move, nY_assign, nY_load, nY_binOp, nY_fieldAddr, nY_callb, ↓ops_nil, opsIf_some, condC_true, Option.map_some, Option.bind_some, Option.getD_some, Nat.reduceLT, Bool.false_eq_true, ↓upd_same, ↓upd_ne, Nat.reduceBEq, true_and, List.getElem?_cons_zero, List.getElem?_cons_succ, cfg_P, cfg_frz, List.length_map, ↓havoc_in, ↓havoc_out, List.contains_cons, List.contains_nil, Bool.or_false, Int.ofNat_lt, decide_true, Nat.zero_add, Nat.lt_succ_self, ↓ev_tmp, ↓ev_int, ↓iop_move, ↓iop_assign, ↓iop_load, ↓iop_binOp, ↓iop_fieldAddr, ↓iop_callb, bi_len, lenM_none, pickP_f, loadP_vptr, fieldP_vptr, lenP_lits, b_lss, ↓reduceIte, ↓evs_cons, ↓evs_nil, beq_self_eq_true, see_eq, nth_reps, pur_reps, Try.f14, ty22, ty24, h29, h12, h02, halt]
          refine loop_cnt [7, 8, 9, 39, 40, 41, 42, 43, 44, 45, 46, 47, 48, 49, 50, 51, 52, 53, 54, 55, 56, 57, 58, 59, 60, 61, 62, 63, 64, 65, 66, 67, 68, 69, 70, 71, 72, 73, 74, 75, 76, 77, 78, 79, 80] rs.length (fun k ρ st => ρ 7 = I k ∧ st.obj 1 = some (.arr g 1 ((impK rs (impR rs a) k).map (PV.int .i64))) ∧ st.obj 0 = some (.arr 0 2 [.agg [.nils, I 0]])) (.refl _) ?_ ?_
          · simp +contextual (maxSteps := 4000000) only [↓upd_same, true_and, and_true, Option.some.injEq, IObj.arr.injEq, Int.cast_ofNat_Int, nth_reps, pur_reps, Try.f14, h12, h02]
            rfl
          · rintro k ρ3 ⟨ob3, M3⟩ hk ⟨h34, h13, h03⟩
            dsimp only at h13 h03
            by_cases hklt : k < rs.length
            · have hlen1 : (impK rs (impR rs a) k).length = rs.length := by rw [impK_len, impR_len]
              simp +contextual (maxSteps := 4000000) only [↓ur_skip, ↓ur_seq, ↓ur_block, ↓ur_region, ↓ur_cond, ↓cont_seq, ↓ops_consN, nY_move, nY_assign, nY_load, nY_binOp, nY_fieldAddr, nY_callb, ↓ops_nil, opsIf_some, condC_true, Option.map_some, Option.bind_some, Option.getD_some, Nat.reduceLT, Bool.false_eq_true, ↓upd_same, ↓upd_ne, Nat.reduceBEq, true_and, List.getElem?_cons_zero, List.getElem?_cons_succ, cfg_P, cfg_frz, List.length_map, ↓havoc_in, ↓havoc_out, List.contains_cons, List.contains_nil, Bool.or_false, Int.ofNat_lt, decide_true, Nat.zero_add, Nat.lt_succ_self, ↓ev_tmp, ↓ev_int, ↓iop_move, ↓iop_assign, ↓iop_load, ↓iop_binOp, ↓iop_fieldAddr, ↓iop_callb, bi_len, lenM_none, pickP_f, loadP_vptr, fieldP_vptr, lenP_lits, b_lss, ↓reduceIte, ↓evs_cons, ↓evs_nil, beq_self_eq_true, see_eq, nth_reps, pur_reps, Try.f14, ty22, ty24, h34, h13, h03, hklt]
              refine loop_cnt [8, 9, 46, 47, 48, 49, 50, 51, 52, 53, 54, 55, 56, 57, 58, 59, 60, 61, 62, 63, 64, 65, 66, 67, 68, 69, 70, 71, 72, 73, 74, 75, 76, 77, 78, 79, 80] rs.length (fun i ρ st => ρ 8 = I i ∧ st.obj 1 = some (.arr g 1 ((impI rs k (impK rs (impR rs a) k) i).map (PV.int .i64))) ∧ st.obj 0 = some (.arr 0 2 [.agg [.nils, I 0]])) (.refl _) ?_ ?_
              · simp +contextual (maxSteps := 4000000) only [↓upd_same, true_and, and_true, Option.some.injEq, IObj.arr.injEq, Int.cast_ofNat_Int, nth_reps, pur_reps, Try.f14, h13, h03]
                rfl
              · rintro i ρ4 ⟨ob4, M4⟩ hi ⟨h41, h14, h04⟩
                dsimp only at h14 h04
                have hb := impI_b hc hklt (c := 100 * a + 10 * k) (by omega) (impK_b hc (by omega) (impR_b hc a ha) k hk) i
                have hl := hc.rep k hklt
                have hp := pow1024 (k := rs.length) h10
                have hac : ac rs k < 9223372036854775808 := by omega
                have hlenI : (impI rs k (impK rs (impR rs a) k) i).length = rs.length := by rw [impI_len, impK_len, impR_len]
                by_cases hilt : i < rs.length
                · have hi64 : i ≤ 64 := by omega
                  cases htb : (ac rs k).testBit i
                  · simp +contextual (maxSteps := 4000000) only [↓ur_skip, ↓ur_seq, ↓ur_block, ↓ur_region, ↓ur_cond, ↓cont_seq, ↓cont_blk, ↓cont_lp, ↓ops_consN, nY_move, nY_assign, nY_load, nY_binOp, nY_fieldAddr, nY_indexAddr, nY_callf, nY_callb, ↓ops_nil, opsIf_some, condC_true, condC_false, Option.map_some, Option.bind_some, Option.getD_some, Nat.reduceLT, Bool.false_eq_true, ↓upd_same, ↓upd_ne, Nat.reduceBEq, true_and, and_true, List.getElem?_cons_zero, List.getElem?_cons_succ, cfg_P, cfg_tab, cfg_muts, cfg_frz, List.length_map, ↓havoc_in, ↓havoc_out, agree_upd, agree_havoc, List.contains_cons, List.contains_nil, Bool.or_false, Bool.or_true, Int.natCast_nonneg, Int.ofNat_lt, Int.toNat_natCast, decide_true, PV.int.injEq, tabOf_cons, tab_v, Bool.and_self, Nat.reduceEqDiff, List.nil_append, List.append_nil, Nat.zero_add, Nat.lt_succ_self, pur_int, cells_agg, ↓ev_tmp, ↓ev_int, ↓ev_func, ↓iop_move, ↓iop_assign, ↓iop_load, ↓iop_binOp, ↓iop_fieldAddr, ↓iop_indexAddr, idxA_int, ↓iop_callv, ↓iop_callb, nrmAll_cons, nrmAll_nil, bi_len, lenM_none, nrm_int, pickP_f, loadP_vptr, fieldP_vptr, indexP_lits, lenP_lits, b_add, b_lss, valT_eq, pursL_cons, pursL_nil, ↓reduceIte, callP_eq, ↓evs_cons, ↓evs_nil, beq_self_eq_true, see_eq, and_false, Bool.true_eq_false, s_in, nth_reps, pur_reps, Try.f14, ty3, ty22, ty24, ty56, h41, h14, h04, h4, h34, hilt, hklt, hlenI, af_at, hl.2.1, hac, hi64, htb, impI, impS]
                    exact hw i hilt
                  · have b1 := hb k
                    have b2 := hb i
                    have b3 := (hc.tk).2 k hklt
                    have hsub : IntKind.i64.wrap ((impI rs k (impK rs (impR rs a) k) i).getD k 0 - tk rs k) = (impI rs k (impK rs (impR rs a) k) i).getD k 0 - tk rs k := wrap64 (by omega) (by omega)
                    simp +contextual (maxSteps := 4000000) only [↓ur_skip, ↓ur_seq, ↓ur_block, ↓ur_region, ↓ur_cond, ↓cont_seq, ↓cont_blk, ↓cont_lp, ↓ops_consN, nY_move, nY_assign, nY_load, nY_store, nY_binOp, nY_fieldAddr, nY_indexAddr, nY_callf, nY_callb, ↓ops_nil, opsIf_some, opsIf_none, condC_true, Option.map_some, Option.bind_some, Option.getD_some, Nat.reduceLT, Bool.false_eq_true, ↓upd_same, ↓upd_ne, Nat.reduceBEq, true_and, and_true, List.getElem?_cons_zero, List.getElem?_cons_succ, cfg_P, cfg_tab, cfg_muts, cfg_frz, List.length_map, ↓havoc_in, ↓havoc_out, agree_upd, agree_havoc, List.contains_cons, List.contains_nil, Bool.or_false, Bool.or_true, Int.natCast_nonneg, Int.ofNat_lt, Int.toNat_natCast, nth_int, decide_true, PV.int.injEq, tabOf_cons, tab_v, Bool.and_self, Nat.reduceEqDiff, List.nil_append, List.append_nil, updO_same, updO_ne, List.length_cons, List.length_nil, Nat.zero_add, Nat.add_zero, Nat.lt_succ_self, Nat.le_refl, cells_int, pur_int, cells_agg, ↓ev_tmp, ↓ev_int, ↓ev_func, ↓iop_move, ↓iop_assign, ↓iop_load, ↓iop_store, ↓iop_binOp, ↓iop_fieldAddr, ↓iop_indexAddr, idxA_int, ↓iop_callv, ↓iop_callb, nrmAll_cons, nrmAll_nil, bi_len, lenM_none, bi_min, nrm_int, pickP_f, loadP_vptr, loadP_ptr, setCells_int, storeP_ptr, fieldP_vptr, indexP_lits, indexP_ref, lenP_lits, b_add, b_sub, b_lss, valT_eq, pursL_cons, pursL_nil, Store.set, ↓reduceIte, arr_eq, arrB_some, callP_eq, set_int, ↓evs_cons, ↓evs_nil, beq_self_eq_true, see_eq, and_false, Bool.true_eq_false, s_in, nth_reps, pur_reps, Try.f14, ty3, ty22, ty24, ty25, ty56, h41, h14, h04, h4, h34, hilt, hklt, hlenI, af_at, tk_at, hl.2.1, hac, hi64, htb, hsub, impI, impS]
                    exact hw i hilt
                · have e : i = rs.length := by omega
                  subst e
                  simp +contextual (maxSteps := 4000000) only [↓ur_seq, ↓ur_exit, ↓ur_region, ↓ur_cond, ↓cont_seq, ↓cont_blk, ↓cont_lp, ↓leave_seq, ↓leave_blk, ↓leave_lp, ↓ops_consN, nY_move, nY_assign, nY_load, nY_binOp, nY_fieldAddr, nY_callb, ↓ops_nil, opsIf_some, condC_false, Option.map_some, Option.bind_some, Option.getD_some, Nat.reduceLT, Bool.false_eq_true, ↓upd_same, ↓upd_ne, Nat.reduceBEq, true_and, and_true, List.getElem?_cons_zero, List.getElem?_cons_succ, cfg_P, cfg_frz, List.length_map, ↓havoc_in, ↓havoc_out, agree_upd, List.contains_cons, List.contains_nil, Bool.or_false, Bool.or_true, Int.ofNat_lt, decide_false, Option.some.injEq, PV.int.injEq, Nat.zero_add, IObj.arr.injEq, Nat.lt_irrefl, Nat.lt_succ_self, ↓ev_tmp, ↓ev_int, ↓iop_move, ↓iop_assign, ↓iop_load, ↓iop_binOp, ↓iop_fieldAddr, ↓iop_callb, bi_len, lenM_none, pickP_f, loadP_vptr, fieldP_vptr, lenP_lits, b_add, b_lss, ↓reduceIte, ↓evs_cons, ↓evs_nil, beq_self_eq_true, see_eq, nth_reps, pur_reps, Try.f14, ty22, ty24, h41, h14, h04, h34]
                  refine ⟨?_, hw k hklt, rfl⟩
                  rw [agree_havoc_sub (by decide +kernel)]; simp +contextual (maxSteps := 4000000) only [Nat.reduceBEq, agree_upd, agree_havoc, List.contains_cons, List.contains_nil, Bool.or_false, Bool.or_true, beq_self_eq_true, nth_reps, pur_reps, Try.f14]
            · have e : k = rs.length := by omega
              subst e
              simp +contextual (maxSteps := 4000000) only [↓ur_seq, ↓ur_exit, ↓ur_region, ↓ur_cond, ↓cont_seq, ↓cont_blk, ↓cont_lp, ↓leave_seq, ↓leave_blk, ↓leave_lp, ↓ops_consN, nY_move, nY_assign, nY_load, nY_binOp, nY_fieldAddr, nY_callb, ↓ops_nil, opsIf_some, condC_false, Option.map_some, Option.bind_some, Option.getD_some, Nat.reduceLT, Bool.false_eq_true, ↓upd_same, ↓upd_ne, Nat.reduceBEq, true_and, and_true, List.getElem?_cons_zero, List.getElem?_cons_succ, cfg_P, cfg_frz, List.length_map, ↓havoc_in, ↓havoc_out, agree_upd, List.contains_cons, List.contains_nil, Bool.or_false, Bool.or_true, Int.ofNat_lt, decide_false, Option.some.injEq, PV.int.injEq, Nat.zero_add, IObj.arr.injEq, Nat.lt_irrefl, Nat.lt_succ_self, ↓ev_tmp, ↓ev_int, ↓iop_move, ↓iop_assign, ↓iop_load, ↓iop_binOp, ↓iop_fieldAddr, ↓iop_callb, bi_len, lenM_none, pickP_f, loadP_vptr, fieldP_vptr, lenP_lits, b_add, b_lss, ↓reduceIte, ↓evs_cons, ↓evs_nil, beq_self_eq_true, see_eq, nth_reps, pur_reps, Try.f14, ty22, ty24, h34, h13, h03, h29]
              refine ⟨?_, hw a halt, rfl⟩
              rw [agree_havoc_sub (by decide +kernel)]; simp +contextual (maxSteps := 4000000) only [Nat.reduceBEq, agree_upd, agree_havoc, List.contains_cons, List.contains_nil, Bool.or_false, Bool.or_true, beq_self_eq_true, nth_reps, pur_reps, Try.f14]
        · have e : a = rs.length := by omega
          subst e
          simp +contextual (maxSteps := 4000000) only [↓ur_seq, ↓ur_exit, ↓ur_ret, ↓ur_region, ↓ur_cond, ↓cont_seq, ↓leave_seq, ↓leave_blk, ↓leave_lp, ↓done_nil, ↓ops_consN, nY_move, nY_build, nY_load, nY_store, nY_binOp, nY_fieldAddr, nY_callb, ↓ops_nil, opsIf_some, opsIf_none, condC_false, Option.map_some, Option.bind_some, Option.getD_some, Nat.reduceLT, Bool.false_eq_true, ↓upd_same, ↓upd_ne, Nat.reduceBEq, true_and, and_true, List.getElem?_cons_zero, List.getElem?_cons_succ, endQ, cfg_P, cfg_frz, List.length_map, ↓havoc_in, ↓havoc_out, List.contains_cons, List.contains_nil, Bool.or_false, Int.ofNat_lt, decide_false, Option.some.injEq, exists_eq_left', pur_ints, Bool.and_self, List.cons_append, List.nil_append, List.append_nil, updO_same, updO_ne, List.length_cons, List.length_nil, Nat.zero_add, List.drop_zero, List.take_zero, Nat.reduceAdd, List.set_cons_zero, Nat.reduceLeDiff, nth_zero, Prod.mk.injEq, Nat.lt_irrefl, Nat.lt_succ_self, Nat.le_refl, isCell_int, isCell_lits, cells_ref, cells_agg, DRx_int, DRx_ref, DRx_agg, DRxL_cons, DRxL_nil, ↓ev_tmp, ↓iop_move, ↓iop_build, ↓iop_load, ↓iop_store, ↓iop_binOp, ↓iop_fieldAddr, ↓iop_callb, bi_len, lenM_none, pickP_f, pickP_t, loadP_vptr, loadP_ptr, setCells_agg, storeP_ptr, fieldP_vptr, lenP_lits, b_lss, fill_nil, fill_cons, fill1_some, buildP_eq, bldA_none, splice_eq, ires_eq, iresL_1, iresAll_nil, iresAll_cons, iresOne_cell, Store.set, ↓reduceIte, arr_eq, arrB_some, List.take_succ_cons, List.drop_succ_cons, List.drop_nil, List.take_nil, ↓evs_cons, ↓evs_nil, ↓evp_cons, ↓evp_nil, beq_self_eq_true, List.all_cons, List.all_nil, see_eq, nth_reps, pur_reps, Try.f14, ty22, ty24, ty32, h29, h12, h02, h4]
          rw [impR_len, List.take_of_length_le (by simp [impR_len]), ← hr]
          exact ⟨Nat.le_refl _, rfl⟩
theorem o_rImp : O_rImp := k_rImp c_rImp
end Sim
