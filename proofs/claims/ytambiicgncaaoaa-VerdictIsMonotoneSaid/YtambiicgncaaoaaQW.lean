/- What functions of this seat compute, by values: contracts (lemmas of the statement's proof, under the conditions that each names). -/
import Derived.Test.YtambiicgncaaoaaQQ
namespace Sim
open Go Go.Proofs
set_option maxRecDepth 10000
set_option maxHeartbeats 4000000
set_option linter.unusedVariables false
set_option linter.unusedSimpArgs false
attribute [local congr] opsIf_congr condC_congr guardC_congr grd_congr pick3_congr obind_congr omap_congr
noncomputable def A_less : (Nat) × (Nat) × (Nat) × (Nat) → List PV := fun (a, b, x, y) => [I a, I b, I x, I y]
noncomputable def R_less : (Nat) × (Nat) × (Nat) × (Nat) → PV := fun (a, b, x, y) => .bool (decide (a * y ≤ x * b))
def H_less : (Nat) × (Nat) × (Nat) × (Nat) → Prop := fun (a, b, x, y) => (a ≤ 155117520 ∧ b ≤ 155117520 ∧ x ≤ 155117520 ∧ y ≤ 155117520)
noncomputable def e_less : Nat × (List PV → Option PV) := (18, specOf A_less R_less H_less)
theorem j_less : ∀ i j, A_less i = A_less j → i = j := by
  rintro ⟨a₁, b₁, x₁, y₁⟩ ⟨a₂, b₂, x₂, y₂⟩ h
  simp only [A_less, List.cons.injEq, and_true, PV.lits.injEq, PV.int.injEq, PV.bool.injEq, PV.str.injEq, PV.agg.injEq, PV.func.injEq, PV.vptr.injEq, true_and, List.map_nil, inj_ints, inj_strs] at h
  simp [Prod.ext_iff, h] <;> omega
theorem s_less (a : Nat) (b : Nat) (x : Nat) (y : Nat) : specOf A_less R_less H_less [I a, I b, I x, I y] = @ite (Option PV) ((a ≤ 155117520 ∧ b ≤ 155117520 ∧ x ≤ 155117520 ∧ y ≤ 155117520)) (Classical.propDecidable _) (some (.bool (decide (a * y ≤ x * b)))) none := specOf_if j_less (a, b, x, y)
def C_less : Prop := ∀ (a : Nat) (b : Nat) (x : Nat) (y : Nat) (h : (a ≤ 155117520 ∧ b ≤ 155117520 ∧ x ≤ 155117520 ∧ y ≤ 155117520)) , VC Try.prog 18 [I a, I b, I x, I y] (.bool (decide (a * y ≤ x * b)))
def O_less : Prop := ∀ args r, e_less.2 args = some r → VC Try.prog e_less.1 args r
theorem k_less (c : C_less) : O_less := specOf_ok fun ⟨a, b, x, y⟩ h => c a b x y h
theorem c_less : C_less := by
  intro a b x y ⟨ha, hb, hx, hy⟩
  refine vc_ofU mixed (l := []) (eok_nil) [] [] Try.func18 rfl (by decide +kernel) (N := 16) rfl (by simp) rfl (by kernel_rfl) fun hs => ?_
  simp only [smallL, PV.small, List.length_map, and_true, true_and] at hs
  have h1 : a * y ≤ 155117520 * 155117520 := Nat.mul_le_mul ha hy
  have h2 : x * b ≤ 155117520 * 155117520 := Nat.mul_le_mul hx hb
  have w1 : IntKind.i64.wrap ((a : Int) * (y : Int)) = ((a * y : Nat) : Int) := by rw [← Int.natCast_mul, wrap64 (by omega) (by omega)]
  have w2 : IntKind.i64.wrap ((x : Int) * (b : Int)) = ((x * b : Nat) : Int) := by rw [← Int.natCast_mul, wrap64 (by omega) (by omega)]
  generalize a * y = u at *
  generalize x * b = v at *
  simp +contextual (maxSteps := 4000000) only [↓ur_skip, ↓ur_seq, ↓ur_block, ↓ur_exit, ↓ur_ret, ↓ur_region, ↓ur_cond, Nat.one_ne_zero, ↓run_skip, ↓run_exit, ↓run_ret, ↓run_cond, ↓cont_nil, ↓cont_seq, ↓cont_blk, ↓cont_lp, ↓leave_seq, ↓leave_blk, ↓leave_lp, ↓done_nil, ↓done_seq, ↓done_blk, ↓done_lp, ↓run_seq, ↓run_region, ↓run_block, ↓ops_cons, ↓ops_guard, ↓ops_nil, opsIf_some, opsIf_none, opsIf_if, opsIf_if', map_if, bind_if, condC_true, condC_false, guardC_u, guardC_tt, guardC_tf, guardC_ft, guardC_ff, Option.map_some, Option.map_none, Option.bind_some, Option.bind_none, Option.getD_some, Option.getD_none, Nat.reduceLT, Bool.false_eq_true, ↓upd_same, ↓upd_ne, Nat.reduceBEq, true_and, and_true, List.getD_cons_zero, List.getD_cons_succ, List.getElem?_toArray, List.getElem?_cons_zero, List.getElem?_cons_succ, endQ, decide_eq_true_eq, decide_eq_false_iff_not, true_implies, forall_const, not_dec, cfg_P, cfg_tab, cfg_muts, cfg_frz, List.map_cons, List.map_nil, List.length_map, ↓havoc_in, ↓havoc_out, agree_upd, agree_havoc, agree_self, List.contains_cons, List.contains_nil, Bool.or_false, Bool.or_true, Bool.false_or, Bool.true_or, Int.natCast_nonneg, Int.ofNat_lt, Int.toNat_natCast, nth_int, nth_str, decide_true, decide_false, Option.some.injEq, exists_eq_left', PV.int.injEq, PV.bool.injEq, PV.str.injEq, PV.lits.injEq, PV.tuple.injEq, PV.agg.injEq, List.cons.injEq, List.lookup_cons, List.lookup_nil, tabOf_cons, pur_ints, pur_strs, Bool.and_true, Bool.and_self, Bool.true_and, Nat.reduceEqDiff, List.cons_append, List.nil_append, List.append_nil, GS_ref, updO_same, updO_ne, List.length_append, List.length_cons, List.length_nil, Nat.zero_add, Nat.add_zero, List.drop_zero, List.take_length, List.take_zero, Nat.not_succ_le_self, Nat.reduceAdd, List.replicate_succ, List.replicate_zero, List.length_replicate, List.set_cons_zero, List.set_cons_succ, Nat.reduceMul, Nat.reduceLeDiff, nth_zero, nth_succ, Prod.mk.injEq, IObj.arr.injEq, Nat.lt_irrefl, Nat.lt_succ_self, Bool.not_true, Bool.not_false, reduceCtorEq, not_true_eq_false, not_false_eq_true, false_implies, Int.reduceEq, Int.reduceLT, Int.reduceLE, Int.reduceToNat, take_map_len, or_false, or_true, st0, Nat.le_refl, Classical.not_not, cells_bool, scal1_bool, scal_bool, pur_bool, rdC_bool, rdP_bool, isCell_bool, cells_int, scal1_int, scal_int, pur_int, rdC_int, rdP_int, isCell_int, cells_str, scal1_str, scal_str, pur_str, rdC_str, rdP_str, isCell_str, cells_nilp, scal1_nilp, scal_nilp, pur_nilp, rdC_nilp, rdP_nilp, cells_ptr, cells_vptr, pur_vptr, rdC_vptr, rdP_vptr, cells_nils, scal1_nils, scal_nils, pur_nils, rdC_nils, rdP_nils, isCell_nils, cells_lits, scal1_lits, scal_lits, pur_lits, rdC_lits, rdP_lits, isCell_lits, cells_ref, pur_ref, scal1_ref, rdC_ref, rdP_ref, cells_func, pur_func, rdC_func, rdP_func, cells_nilf, scal1_nilf, scal_nilf, pur_nilf, rdC_nilf, rdP_nilf, isCell_nilf, cells_iface, cells_nili, scal1_nili, scal_nili, pur_nili, rdC_nili, rdP_nili, isCell_nili, cells_agg, scal_agg, pur_agg, rdP_agg, scal_tuple, pur_tuple, cells_nilm, scal1_nilm, scal_nilm, pur_nilm, rdC_nilm, rdP_nilm, DRx_int, DRx_bool, DRx_str, DRx_nils_lits, DRx_nils_nils, DRx_lits, DRx_ref, DRx_agg, DRx_tuple, DRxL_cons, DRxL_nil, ↓ev_tmp, ↓ev_int, ↓ev_bool, ↓ev_str, ↓ev_nils, ↓ev_nilp, ↓ev_nilf, ↓ev_nili, ↓ev_agg, ↓ev_func, c0_int, c0_bool, c0_nils, c0_str, ↓guardP_eq, grd_some, ↓iop_move, ↓iop_assign, ↓pick3_bool, ↓pick3_true, ↓pick3_false, ↓iop_pick, ↓iop_alloc, ↓iop_box, ↓iop_build, ↓iop_buildSlice, ↓iop_load, ↓iop_store, ↓iop_nilCheck, nilCk_vptr, nilCk_ptr, ↓iop_binOp, ↓iop_unOp, ↓iop_convert, ↓iop_makeFunc, ↓iop_makeSlice, mkSl_int, ↓iop_slice, intOfP_int, slcP_ff, slcP_tf, slcP_ft, slcP_tt, ↓iop_fieldAddr, ↓iop_field, fldV_agg, ↓iop_indexAddr, idxA_int, ↓iop_index, idxV_int, ↓iop_extract, extr_tuple, ↓iop_callv, ↓iop_callb, nrmAll_cons, nrmAll_nil, bi_len, bi_append, bi_min, bi_max, nrm_agg, nrmL_cons, nrmL_nil, nrm_nils, nrm1_some, nrm1_none, nrm_no, nrm_int, nrm_str, nrm_bool, nrm_lits, nrm_ref, nrm_func, nrm_vptr, nrm_ptr, nrm1_int, nrm1_str, nrm1_bool, nrm1_lits, nrm1_ref, pickP_f, pickP_t, loadP_vptr, loadP_ptr, setCells_agg, setCells_int, setCells_bool, setCells_nils, setCells_ref, storeP_ptr, fieldP_vptr, fieldP_ptr, indexP_lits, indexP_ref, indexP_vptr, indexP_ptr, indexV_str, indexV_agg, lenP_nils, lenP_lits, lenP_ref, lenP_str, elemsP_nils, elemsP_lits, elemsP_ref, elemsP_str, sliceP_nils, sliceP_lits, sliceP_ref, sliceP_str, appendP_nils, appendP_ref, b_add, b_sub, b_mul, b_quo, b_rem, b_and, b_or, b_xor, b_andNot, b_eql, b_neq, b_lss, b_leq, b_gtr, b_geq, b_shl, b_shr, bs_add, bs_eql, bs_neq, bs_lss, bs_leq, bs_gtr, bs_geq, u_neg, u_not, cv_int, cv_str, fill_nil, fill_cons, fill1_some, buildP_eq, bldA_none, bldA_some, bel_nil, bel_cons, splice_eq, env0_eq, ires_eq, iresL_1, iresL_2, iresAll_nil, iresAll_cons, iresOne_tmp, iresOne_cell, frzP_eq, rdAll_cons, rdAll_nil, rdL_cons, rdL_nil, valT_eq, pursL_cons, pursL_nil, Store.new, Store.set, ↓reduceIte, Int.natCast_eq_zero, arr_eq, arrB_some, callP_eq, boxP_eq, bslP_eq, beq_eq_false_iff_ne, ne_eq, Nat.reduceBeqDiff, set_int, opsIf_ite, Int.natCast_inj, List.take_succ_cons, List.drop_succ_cons, List.drop_nil, List.take_nil, guardC_td, guardC_fd, condC_d, bb_eql', bb_neq', ↓evs_cons, ↓evs_nil, ↓evp_cons, ↓evp_nil, implies_true, Int.natCast_zero, only_obj, only_next, without_obj, without_next, idsOf_cons, idsOf_nil, idC_ref, idC_int, idC_bool, idC_str, idC_nils, idC_lits, idC_agg, idL_cons, idL_nil, idE_ref, idE_int, idE_bool, idE_str, idE_nils, idE_lits, Int.le_refl, Int.natCast_pos, beq_self_eq_true, beq_iff_eq, List.all_cons, List.all_nil, see_eq, false_and, and_false, Bool.true_eq_false, Int.reduceAdd, bits_i64, bits_u64, bits_u32, bits_u8, or_i64, Nat.min_def, Int.reducePow, Int.cast_ofNat_Int, Try.f18, ty3, ty4, w1, w2]
  rw [Bool.eq_iff_iff, decide_eq_true_iff, decide_eq_true_iff]; exact Int.ofNat_le
theorem o_less : O_less := k_less c_less
/-! How the chance falls. -/
theorem binX_mono {m n k : Nat} (h : m ≤ n) (hn : n ≤ 60) : binX m k ≤ binX n k := by
  induction n with
  | zero => have : m = 0 := by omega
            rw [this]; exact Nat.le_refl _
  | succ n ih =>
    by_cases e : m = n + 1
    · rw [e]; exact Nat.le_refl _
    · have := ih (by omega) (by omega)
      cases k with
      | zero => rw [binX_zero (by omega), binX_zero (by omega)]; exact Nat.le_refl _
      | succ k => rw [binX_step (by omega)]; omega
theorem next_all : ((List.range 61).all fun n => (List.range n).all fun i => decide ((i + 1) * binC n (i + 1) = (n - i) * binC n i)) = true := by kernel_rfl
theorem binX_next {n k : Nat} (hn : n ≤ 60) : (k + 1) * binX n (k + 1) = (n - k) * binX n k := by
  unfold binX
  by_cases h : k < n
  · rw [if_pos (by omega), if_pos (by omega)]
    exact of_decide_eq_true (List.all_eq_true.1 (List.all_eq_true.1 next_all n (List.mem_range.2 (by omega))) k (List.mem_range.2 h))
  · rw [if_neg (by omega), show n - k = 0 by omega]; simp
theorem checks_law {m n k : Nat} (h : m ≤ n) (hn : n ≤ 60) : binX m (k + 1) * binX n k ≤ binX m k * binX n (k + 1) := by
  have e1 := binX_next (n := m) (k := k) (by omega)
  have e2 := binX_next (n := n) (k := k) hn
  have h1 : (k + 1) * (binX m (k + 1) * binX n k) = (m - k) * (binX m k * binX n k) := by
    rw [← Nat.mul_assoc, e1]; ac_rfl
  have h2 : (k + 1) * (binX m k * binX n (k + 1)) = (n - k) * (binX m k * binX n k) := by
    rw [show (k + 1) * (binX m k * binX n (k + 1)) = binX m k * ((k + 1) * binX n (k + 1)) by ac_rfl, e2]; ac_rfl
  have h3 : (m - k) * (binX m k * binX n k) ≤ (n - k) * (binX m k * binX n k) := Nat.mul_le_mul_right _ (by omega)
  exact Nat.le_of_mul_le_mul_left (by rw [h1, h2]; exact h3) (show 0 < k + 1 by omega)
theorem cross {g g' p q p' q' A D A' D' : Nat} (hg : 0 < g) (hg' : 0 < g') (e1 : A = g * p) (e2 : D = g * q) (e3 : A' = g' * p') (e4 : D' = g' * q') (h : A' * D ≤ A * D') : p' * q ≤ p * q' := by
  rw [e1, e2, e3, e4, show g' * p' * (g * q) = (g * g') * (p' * q) by ac_rfl, show g * p * (g' * q') = (g * g') * (p * q') by ac_rfl] at h
  exact Nat.le_of_mul_le_mul_left h (Nat.mul_pos hg hg')
theorem miss30 {n c k : Nat} (h1 : 1 ≤ n) (hn : n ≤ 30) (hc : c ≤ n) (hk : k ≤ n) : ∃ p q g : Nat, missM n c k = ((p : Int), (q : Int), 0) ∧ 0 < q ∧ 0 < g ∧ binX (n - c) k = g * p ∧ binX n k = g * q ∧ p ≤ 155117520 ∧ q ≤ 155117520 := by
  obtain ⟨p, q, g, h, h2, h3, h4, h5⟩ := miss_law h1 (by omega : n ≤ 60) hc hk
  obtain ⟨p', q', e1, e2, b1, b2⟩ := missM_le (n := n) (b := c) (k := k) (by rw [h]) (by omega)
  rw [h] at e1 e2
  exact ⟨p, q, g, h, h2, h3, h4, h5, by simp at e1; omega, by simp at e2; omega⟩
theorem miss_zero {n c k p g : Nat} (hn : n ≤ 60) (hg : 0 < g) (h : binX (n - c) k = g * p) : p = 0 ↔ n - c < k := by
  constructor
  · intro e
    subst e
    unfold binX at h
    by_cases hk : k ≤ n - c
    · rw [if_pos hk] at h
      have := binC_pos (n := n - c) (i := k) (by omega) hk
      omega
    · omega
  · intro hk
    rw [binX, if_neg (by omega)] at h
    rcases Nat.eq_zero_or_pos p with e | e
    · exact e
    · have := Nat.mul_pos hg e; omega
theorem firstN_spec (p : Int → Bool) (m : Nat) : ∀ a, (∃ k, k < m ∧ firstN p m a = a + k ∧ p ((a + k : Nat) : Int) = true ∧ ∀ j, j < k → p ((a + j : Nat) : Int) = false) ∨ (∀ j, j < m → p ((a + j : Nat) : Int) = false) := by
  induction m with
  | zero => intro a; exact .inr fun j h => absurd h (by omega)
  | succ m ih =>
    intro a
    by_cases h0 : p a = true
    · exact .inl ⟨0, by omega, by simp [firstN, h0], by simpa using h0, fun j h => absurd h (by omega)⟩
    · have h0' : p a = false := by simpa using h0
      rcases ih (a + 1) with ⟨k, hk, h1, h2, h3⟩ | h
      · refine .inl ⟨k + 1, by omega, by simp only [firstN]; rw [if_neg h0, h1]; omega, by rwa [show a + (k + 1) = a + 1 + k by omega], fun j hj => ?_⟩
        cases j with
        | zero => exact h0'
        | succ j => rw [show a + (j + 1) = a + 1 + j by omega]; exact h3 j (by omega)
      · refine .inr fun j hj => ?_
        cases j with
        | zero => exact h0'
        | succ j => rw [show a + (j + 1) = a + 1 + j by omega]; exact h j (by omega)
theorem least_law {n b o : Nat} (h1 : 1 ≤ n) (hn : n ≤ 30) (hb : 0 < b) (hb' : b ≤ n) (ho : 1 ≤ o) (ho' : o ≤ 100000) : ∃ m : Nat, m ≤ n ∧ leastM n b o = ((m : Int), 0) ∧ enoughM n b m 1 o = (true, 0) ∧ (0 < m → enoughM n b ((m - 1 : Nat) : Int) 1 o = (false, 0)) := by
  have hE : ∀ j : Nat, j ≤ n → (enoughM n b j 1 o).2 = 0 := fun j hj => by
    obtain ⟨p, q, g, h, _⟩ := miss30 h1 hn hb' hj
    have := enough_law (y := 1) hn h (by omega) (by omega) ho ho'
    rw [show ((1 : Nat) : Int) = 1 from rfl] at this
    rw [this]
  have hend : (enoughM n b n 1 o).1 = true := by
    have e : missM n b n = (0, 1, 0) := by
      unfold missM
      rw [if_neg (by omega), if_neg (by omega), if_pos (by omega)]
    unfold enoughM
    rw [e]
    simp only [not_true_eq_false, if_false]
    rw [if_neg (by omega), if_neg (by omega)]
    rfl
  have hL : leastM n b o = (((firstN (fun k => (enoughM n b k 1 o).1) (n + 1) 0 : Nat) : Int), 0) := by
    unfold leastM
    rw [if_neg (by omega), if_neg (by omega), Int.toNat_natCast]
  rcases firstN_spec (fun k => (enoughM n b k 1 o).1) (n + 1) 0 with ⟨m, hm, e, h2, h3⟩ | h
  · rw [Nat.zero_add] at e h2
    refine ⟨m, by omega, by rw [hL, e], Prod.ext h2 (hE m (by omega)), fun hp => ?_⟩
    have := h3 (m - 1) (by omega)
    rw [Nat.zero_add] at this
    exact Prod.ext this (hE (m - 1) (by omega))
  · have := h n (by omega)
    rw [Nat.zero_add] at this
    simp only [hend] at this
    cases this
theorem rounds_mono {o p q y : Nat} (h : p ≤ q) (hh : o * p ^ y ≤ q ^ y) : o * p ^ (y + 1) ≤ q ^ (y + 1) := by
  rw [Nat.pow_succ, Nat.pow_succ, ← Nat.mul_assoc]
  exact Nat.mul_le_mul hh h
end Sim
