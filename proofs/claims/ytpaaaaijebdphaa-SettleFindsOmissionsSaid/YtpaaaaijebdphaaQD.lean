/- What functions of this seat compute, by values: contracts (lemmas of the statement's proof, under the conditions that each names). -/
import Derived.Test.YtpaaaaijebdphaaQB
namespace Sim
open Go Go.Proofs
set_option maxRecDepth 10000
set_option maxHeartbeats 2000000
set_option linter.unusedVariables false
set_option linter.unusedSimpArgs false
attribute [local congr] opsIf_congr condC_congr guardC_congr grd_congr pick3_congr obind_congr omap_congr nilC_congr
theorem wrapN' {k : Nat} (h : k ≤ 100000) : IntKind.i64.wrap ((k : Int) + 1) = ((k + 1 : Nat) : Int) := by rw [wrap64 (by omega) (by omega)]; omega
theorem list_at {b : List Int} {q : Int → Prop} (h : ∀ j, j < b.length → q (b.getD j 0)) : ∀ p ∈ b, q p := fun p hp => by
  obtain ⟨k, hk, rfl⟩ := List.getElem_of_mem hp
  have := h k hk
  simpa [hk] using this
theorem at_list {b : List Int} {q : Int → Prop} (h : ∀ p ∈ b, q p) : ∀ j, j < b.length → q (b.getD j 0) := fun j hj => by
  have := h _ (List.getElem_mem hj)
  simpa [hj] using this
end Sim

namespace Sim
open Go Go.Proofs
set_option maxRecDepth 10000
set_option maxHeartbeats 2000000
set_option linter.unusedVariables false
set_option linter.unusedSimpArgs false
attribute [local congr] opsIf_congr condC_congr guardC_congr grd_congr pick3_congr obind_congr omap_congr nilC_congr
/-- Sums, open accounts and their balances, of the first so many. -/
def sumK (b : List Int) : Nat → Int
  | 0 => 0
  | k + 1 => sumK b k + b.getD k 0
def nzK (b : List Int) : Nat → List Int
  | 0 => []
  | k + 1 => if b.getD k 0 = 0 then nzK b k else nzK b k ++ [(k : Int)]
theorem nzK_len {b : List Int} : ∀ k, (nzK b k).length ≤ k
  | 0 => by simp [nzK]
  | k + 1 => by
    have := nzK_len (b := b) k
    simp only [nzK]
    split
    · omega
    · rw [List.length_append]; simp; omega
theorem sumK_le' {b : List Int} {k : Nat} (hf : ∀ j, j < k → fitB (b.getD j 0)) (hk : k ≤ 40) : -45035996273704960 ≤ sumK b k ∧ sumK b k ≤ 45035996273704960 := by
  have : ∀ n, n ≤ k → -(1125899906842624 * (n : Int)) ≤ sumK b n ∧ sumK b n ≤ 1125899906842624 * (n : Int) := by
    intro n
    induction n with
    | zero => intro _; simp [sumK]
    | succ n ih =>
      intro hn
      have h1 := ih (by omega)
      have h2 : -1125899906842624 ≤ b.getD n 0 ∧ b.getD n 0 ≤ 1125899906842624 := hf n (by omega)
      simp only [sumK]; omega
  have := this k (Nat.le_refl _)
  omega
def openE (b : List Int) : Int := if 40 < b.length then 2 else if ¬ (∀ x ∈ b, fitB x) then 3 else if ¬ sumK b b.length = 0 then 4 else if 12 < (nzK b b.length).length then 2 else 0
def openL (b : List Int) : List Int := if openE b = 0 then nzK b b.length else []
theorem unfit_E {b : List Int} {k : Nat} (h40 : ¬ 40 < b.length) (hk : k < b.length) (h : ¬ fitB (b.getD k 0)) : openE b = 3 := by
  unfold openE
  rw [if_neg h40, if_pos (fun g => h (at_list g k hk))]
noncomputable def A_open : List Int → List PV := fun b => [ints b]
noncomputable def R_open : List Int → PV := fun b => .tuple [ints (openL b), I (openE b)]
def H_open : List Int → Prop := fun b => True
noncomputable def e_open : Nat × Ent := (37, .v (specOf A_open R_open H_open))
theorem j_open : ∀ i j, A_open i = A_open j → i = j := by
  rintro b₁ b₂ h
  simp only [A_open, List.cons.injEq, and_true, PV.lits.injEq, PV.int.injEq, PV.bool.injEq, PV.str.injEq, PV.agg.injEq, PV.func.injEq, Fn.func.injEq, PV.vptr.injEq, true_and, List.map_nil, inj_ints, inj_strs, inj_psts, inj_gaps, inj_pays] at h
  first | exact h | omega | (simp [Prod.ext_iff, h]; done)
theorem s_open (b : List Int) : specOf A_open R_open H_open [ints b] = some (.tuple [ints (openL b), I (openE b)]) := specOf_app j_open (i := b) trivial
def C_open : Prop := ∀ (b : List Int) , VC Try.prog 37 [ints b] (.tuple [ints (openL b), I (openE b)])
def O_open : Prop := EntOK Try.prog e_open.1 e_open.2
theorem k_open (c : C_open) : O_open := specOf_ok fun b h => c b
theorem c_open : C_open := by
  intro b
  refine vc_ofU mixed (l := [e_fits]) ((eok_cons o_fits eok_nil)) [] []  Try.func37 rfl (by decide +kernel) (N := 39) rfl (by simp) rfl (by kernel_rfl) fun hs => ?_
  simp only [smallL, PV.small, List.length_map, and_true, true_and] at hs
  obtain ⟨L, hL⟩ : ∃ L, openL b = L := ⟨_, rfl⟩
  obtain ⟨E, hE⟩ : ∃ E, openE b = E := ⟨_, rfl⟩
  rw [hL, hE]
  by_cases h40 : 40 < b.length
  · have e1 : E = 2 := by rw [← hE]; unfold openE; rw [if_pos h40]
    have e2 : L = [] := by rw [← hL]; unfold openL; rw [if_neg (by omega)]
    subst e1 e2
    have h4 : (40 : Int) < (b.length : Int) := by omega
    simp +contextual (maxSteps := 4000000) only [↓ur_seq, ↓ur_ret, ↓ur_region, ↓ur_cond, ↓cont_seq, ↓done_nil, ↓done_seq, ↓ops_consN, nY_move, nY_assign, nY_binOp, nilO_int, nY_callb, ↓ops_nil, opsIf_some, condC_true, Option.map_some, Option.bind_some, Option.getD_some, Nat.reduceLT, ↓upd_same, ↓upd_ne, Nat.reduceBEq, and_true, List.getD_cons_zero, endQ, cfg_P, List.map_nil, List.length_map, decide_true, Option.some.injEq, exists_eq_left', Nat.lt_succ_self, Bool.not_false, st0, DRx_int, DRx_nils_lits, DRx_tuple, DRxL_cons, DRxL_nil, ↓ev_tmp, ↓ev_int, ↓ev_nils, ↓iop_move, ↓iop_assign, ↓iop_binOp, ↓iop_callb, bi_len, lenM_none, lenP_lits, b_gtr, env0_eq, ires_eq, iresL_2, iresAll_nil, iresAll_cons, iresOne_tmp, ↓reduceIte, ↓evs_cons, ↓evs_nil, e_fits, nth_psts, pur_psts, nth_gaps, pur_gaps, nth_pays, pur_pays, Try.f37, ty34, h4]
  have h4 : ¬ (40 : Int) < (b.length : Int) := by omega
  simp +contextual (maxSteps := 4000000) only [↓ur_skip, ↓ur_seq, ↓ur_block, ↓ur_region, ↓ur_cond, ↓cont_seq, ↓ops_consN, nY_move, nY_assign, nY_binOp, nilO_int, nY_callb, ↓ops_nil, opsIf_some, condC_false, Option.map_some, Option.getD_some, Nat.reduceLT, ↓upd_same, ↓upd_ne, Nat.reduceBEq, true_and, List.getD_cons_zero, cfg_P, List.length_map, decide_false, Nat.lt_succ_self, Bool.not_false, st0, ↓ev_tmp, ↓ev_int, ↓ev_nils, ↓iop_move, ↓iop_assign, ↓iop_binOp, ↓iop_callb, bi_len, lenM_none, lenP_lits, b_gtr, env0_eq, ↓reduceIte, ↓evs_cons, ↓evs_nil, e_fits, nth_psts, pur_psts, nth_gaps, pur_gaps, nth_pays, pur_pays, Try.f37, ty34, h4]
  refine loop_cnt [2, 3, 4, 5, 6, 7, 13, 14, 15, 16, 17, 18, 19, 20, 21, 22, 23, 24, 25, 26, 27, 28, 29, 30] b.length (fun k ρ st' => ρ 13 = I k ∧ ρ 4 = I (sumK b k) ∧ (∀ j, j < k → fitB (b.getD j 0)) ∧ GS st' (ρ 5) 0 1 ((nzK b k).map (PV.int .i64))) (.slot _ 5 1 ?_ ?_) ?_ ?_
  · simp +contextual (maxSteps := 4000000) only [↓upd_same, ↓upd_ne, Nat.reduceBEq, nth_psts, pur_psts, nth_gaps, pur_gaps, nth_pays, pur_pays, Try.f37]
  · decide
  · simp +contextual (maxSteps := 4000000) only [↓upd_same, ↓upd_ne, Nat.reduceBEq, true_and, and_true, List.map_nil, GS_ref, updO_same, List.length_nil, Nat.zero_add, Store.new, Int.cast_ofNat_Int, nth_psts, pur_psts, nth_gaps, pur_gaps, nth_pays, pur_pays, Try.f37, sumK, nzK]
    intro j hj; omega
  rintro k ρ ⟨ob, M⟩ hk ⟨h13, h4s, hf, ⟨g, h5, ho⟩⟩
  dsimp only at ho
  rw [List.length_map] at h5
  by_cases hlt : k < b.length
  · have hwk := wrapN' (k := k) (by omega)
    by_cases hfk : fitB (b.getD k 0)
    case neg =>
      have e1 : E = 3 := by rw [← hE]; exact unfit_E h40 hlt hfk
      have e2 : L = [] := by rw [← hL]; unfold openL; rw [if_neg (by omega)]
      subst e1 e2
      simp +contextual (maxSteps := 4000000) only [↓ur_skip, ↓ur_seq, ↓ur_block, ↓ur_ret, ↓ur_region, ↓ur_cond, ↓cont_seq, ↓done_nil, ↓done_seq, ↓done_blk, ↓done_lp, ↓ops_consN, nY_move, nY_assign, nY_load, nY_binOp, nilO_tmp, nY_unOp, nY_indexAddr, nY_callf, ↓ops_nil, opsIf_some, condC_true, Option.map_some, Option.bind_some, Option.getD_some, Nat.reduceLT, Bool.false_eq_true, ↓upd_same, ↓upd_ne, Nat.reduceBEq, and_true, List.getElem?_cons_zero, endQ, cfg_P, cfg_tab, cfg_muts, cfg_frz, List.map_nil, List.length_map, ↓havoc_in, ↓havoc_out, List.contains_cons, List.contains_nil, Bool.or_false, Bool.or_true, Int.natCast_nonneg, Int.ofNat_lt, Int.toNat_natCast, nth_int, decide_true, decide_false, Option.some.injEq, exists_eq_left', tabOf_cons, tab_v, Bool.and_self, List.nil_append, List.append_nil, Nat.reduceAdd, Nat.lt_succ_self, Bool.not_false, cells_int, pur_int, DRx_int, DRx_nils_lits, DRx_tuple, DRxL_cons, DRxL_nil, ↓ev_tmp, ↓ev_int, ↓ev_nils, ↓ev_func, ↓iop_move, ↓iop_assign, ↓iop_load, ↓iop_binOp, ↓iop_unOp, ↓iop_indexAddr, idxA_int, ↓iop_callv, nrmAll_cons, nrmAll_nil, nrm_int, pickP_f, loadP_vptr, indexP_lits, b_lss, u_not, ires_eq, iresL_2, iresAll_nil, iresAll_cons, iresOne_tmp, valT_eq, pursL_cons, pursL_nil, ↓reduceIte, callP_eq, tsOf_eq, ↓evs_cons, ↓evs_nil, beq_self_eq_true, see_eq, and_false, Bool.true_eq_false, s_fits, nth_psts, pur_psts, nth_gaps, pur_gaps, nth_pays, pur_pays, Try.f37, ty3, ty34, h13, hlt, hfk]
    have hf2 : ∀ j, j < k + 1 → fitB (b.getD j 0) := fun j hj => by
      by_cases e : j = k
      · subst e; exact hfk
      · exact hf j (by omega)
    have hs1 : sumK b (k + 1) = sumK b k + b.getD k 0 := rfl
    have hb1 : -1125899906842624 ≤ b.getD k 0 ∧ b.getD k 0 ≤ 1125899906842624 := hfk
    have hs2 : -45035996273704960 ≤ sumK b k ∧ sumK b k ≤ 45035996273704960 := sumK_le' hf (by omega)
    have hw2 : IntKind.i64.wrap (sumK b k + b.getD k 0) = sumK b (k + 1) := by rw [hs1]; exact wrap64 (by omega) (by omega)
    have hz1 : nzK b (k + 1) = if b.getD k 0 = 0 then nzK b k else nzK b k ++ [(k : Int)] := rfl
    have hnl := nzK_len (b := b) k
    have hnl2 : (nzK b k).length + 1 ≤ 2147483648 := by omega
    rw [hz1]
    by_cases h0 : b.getD k 0 = 0
    · rw [if_pos h0]
      rw [h0] at hw2
      have hf0 : fitB 0 := by decide
      simp +contextual (maxSteps := 4000000) only [↓ur_skip, ↓ur_seq, ↓ur_block, ↓ur_region, ↓ur_cond, ↓cont_seq, ↓cont_blk, ↓cont_lp, ↓ops_consN, nY_move, nY_assign, nY_load, nY_binOp, nilO_tmp, nilO_int, nY_unOp, nY_indexAddr, nY_callf, ↓ops_nil, opsIf_some, condC_true, condC_false, Option.map_some, Option.bind_some, Option.getD_some, Nat.reduceLT, Bool.false_eq_true, ↓upd_same, ↓upd_ne, Nat.reduceBEq, true_and, and_true, List.getElem?_cons_zero, cfg_P, cfg_tab, cfg_muts, cfg_frz, List.length_map, ↓havoc_in, ↓havoc_out, agree_upd, agree_havoc, List.contains_cons, List.contains_nil, Bool.or_false, Bool.or_true, Int.natCast_nonneg, Int.ofNat_lt, Int.toNat_natCast, nth_int, decide_true, decide_false, tabOf_cons, tab_v, Bool.and_self, List.nil_append, List.append_nil, GS_ref, Nat.reduceAdd, Nat.lt_succ_self, Bool.not_true, Bool.not_false, not_true_eq_false, cells_int, pur_int, ↓ev_tmp, ↓ev_int, ↓ev_func, ↓iop_move, ↓iop_assign, ↓iop_load, ↓iop_binOp, ↓iop_unOp, ↓iop_indexAddr, idxA_int, ↓iop_callv, nrmAll_cons, nrmAll_nil, nrm_int, pickP_f, loadP_vptr, indexP_lits, b_add, b_neq, b_lss, u_not, valT_eq, pursL_cons, pursL_nil, ↓reduceIte, callP_eq, tsOf_eq, ↓evs_cons, ↓evs_nil, beq_self_eq_true, see_eq, and_false, Bool.true_eq_false, s_fits, nth_psts, pur_psts, nth_gaps, pur_gaps, nth_pays, pur_pays, Try.f37, ty3, ty34, h13, h4s, h5, ho, hlt, hf0, h0, hw2, hwk]
      exact hf2
    · rw [if_neg h0]
      have htk : List.take (nzK b k).length ((nzK b k).map (PV.int .i64)) = (nzK b k).map (PV.int .i64) := List.take_of_length_le (by rw [List.length_map]; exact Nat.le_refl _)
      simp +contextual (maxSteps := 4000000) only [↓ur_skip, ↓ur_seq, ↓ur_block, ↓ur_region, ↓ur_cond, Nat.one_ne_zero, ↓cont_seq, ↓cont_blk, ↓cont_lp, ↓ops_consN, nY_move, nY_assign, nY_buildSlice, nY_load, nY_binOp, nilO_tmp, nilO_int, nY_unOp, nY_indexAddr, nY_callf, nY_callb, ↓ops_nil, opsIf_some, condC_true, condC_false, Option.map_some, Option.bind_some, Option.getD_some, Nat.reduceLT, Bool.false_eq_true, ↓upd_same, ↓upd_ne, Nat.reduceBEq, true_and, and_true, List.getElem?_cons_zero, cfg_P, cfg_tab, cfg_muts, cfg_frz, cfg_num, numOf_eq, List.length_map, ↓havoc_in, ↓havoc_out, agree_upd, agree_havoc, List.contains_cons, List.contains_nil, Bool.or_false, Bool.or_true, Int.natCast_nonneg, Int.ofNat_lt, Int.toNat_natCast, nth_int, decide_true, Option.some.injEq, tabOf_cons, tab_v, Bool.and_self, List.nil_append, List.append_nil, GS_ref, updO_same, List.length_append, List.length_cons, List.length_nil, Nat.zero_add, List.drop_zero, Nat.not_succ_le_self, Nat.reduceAdd, List.replicate_succ, List.replicate_zero, List.set_cons_zero, Nat.reduceMul, Nat.reduceLeDiff, IObj.arr.injEq, Nat.lt_succ_self, Bool.not_true, Bool.not_false, not_false_eq_true, or_false, Nat.le_refl, cells_int, pur_int, ↓ev_tmp, ↓ev_int, ↓ev_func, ↓iop_move, ↓iop_assign, ↓iop_buildSlice, ↓iop_load, ↓iop_binOp, ↓iop_unOp, ↓iop_indexAddr, idxA_int, ↓iop_callv, ↓iop_callb, nrmAll_cons, nrmAll_nil, bi_append, nrm_int, pickP_f, loadP_vptr, indexP_lits, elemsP_lits, appendP_ref, b_add, b_neq, b_lss, u_not, bel_nil, bel_cons, valT_eq, pursL_cons, pursL_nil, Store.set, ↓reduceIte, arr_eq, arrB_some, callP_eq, tsOf_eq, bslP_eq, ne_eq, ↓evs_cons, ↓evs_nil, ↓evp_cons, ↓evp_nil, beq_self_eq_true, see_eq, and_false, Bool.true_eq_false, s_fits, nth_psts, pur_psts, nth_gaps, pur_gaps, nth_pays, pur_pays, Try.f37, ty3, ty34, h13, h4s, h5, ho, hlt, hfk, h0, hw2, hwk, hnl2, htk]
      exact ⟨hf2, by simp⟩
  · have e : k = b.length := by omega
    subst e
    have hall : ∀ x ∈ b, fitB x := list_at hf
    have htk : List.take (nzK b b.length).length ((nzK b b.length).map (PV.int .i64)) = (nzK b b.length).map (PV.int .i64) := List.take_of_length_le (by rw [List.length_map]; exact Nat.le_refl _)
    by_cases hs0 : sumK b b.length = 0
    case neg =>
      have e1 : E = 4 := by rw [← hE]; unfold openE; rw [if_neg h40, if_neg (fun h => h hall), if_pos hs0]
      have e2 : L = [] := by rw [← hL]; unfold openL; rw [if_neg (by omega)]
      subst e1 e2
      simp +contextual (maxSteps := 4000000) only [↓ur_seq, ↓ur_block, ↓ur_exit, ↓ur_ret, ↓ur_region, ↓ur_cond, ↓cont_seq, ↓leave_seq, ↓leave_blk, ↓leave_lp, ↓done_nil, ↓done_seq, ↓done_blk, ↓ops_consN, nY_move, nY_assign, nY_binOp, nilO_tmp, nilO_int, ↓ops_nil, opsIf_some, condC_true, condC_false, Option.map_some, Option.bind_some, Nat.reduceLT, ↓upd_same, ↓upd_ne, Nat.reduceBEq, and_true, endQ, cfg_P, List.map_nil, ↓havoc_in, ↓havoc_out, List.contains_cons, List.contains_nil, Bool.or_false, Bool.or_true, Int.ofNat_lt, decide_true, decide_false, Option.some.injEq, exists_eq_left', Nat.lt_irrefl, Bool.not_false, not_false_eq_true, DRx_int, DRx_nils_lits, DRx_tuple, DRxL_cons, DRxL_nil, ↓ev_tmp, ↓ev_int, ↓ev_nils, ↓iop_move, ↓iop_assign, ↓iop_binOp, b_neq, b_lss, ires_eq, iresL_2, iresAll_nil, iresAll_cons, iresOne_tmp, ↓reduceIte, beq_self_eq_true, nth_psts, pur_psts, nth_gaps, pur_gaps, nth_pays, pur_pays, Try.f37, h13, h4s, hs0]
    by_cases h12 : 12 < (nzK b b.length).length
    · have e1 : E = 2 := by rw [← hE]; unfold openE; rw [if_neg h40, if_neg (fun h => h hall), if_neg (fun h => h hs0), if_pos h12]
      have e2 : L = [] := by rw [← hL]; unfold openL; rw [if_neg (by omega)]
      subst e1 e2
      have h12i : (12 : Int) < ((nzK b b.length).length : Int) := by omega
      simp +contextual (maxSteps := 4000000) only [↓ur_seq, ↓ur_block, ↓ur_exit, ↓ur_ret, ↓ur_region, ↓ur_cond, ↓cont_seq, ↓leave_seq, ↓leave_blk, ↓leave_lp, ↓done_nil, ↓done_seq, ↓done_blk, ↓ops_consN, nY_move, nY_assign, nY_binOp, nilO_tmp, nilO_int, nY_callb, ↓ops_nil, opsIf_some, condC_true, condC_false, Option.map_some, Option.bind_some, Option.getD_some, Nat.reduceLT, ↓upd_same, ↓upd_ne, Nat.reduceBEq, and_true, endQ, cfg_P, List.map_nil, ↓havoc_in, ↓havoc_out, List.contains_cons, List.contains_nil, Bool.or_false, Bool.or_true, Int.ofNat_lt, decide_true, decide_false, Option.some.injEq, exists_eq_left', Nat.lt_irrefl, Nat.lt_succ_self, Bool.not_false, not_true_eq_false, DRx_int, DRx_nils_lits, DRx_tuple, DRxL_cons, DRxL_nil, ↓ev_tmp, ↓ev_int, ↓ev_nils, ↓iop_move, ↓iop_assign, ↓iop_binOp, ↓iop_callb, bi_len, lenM_none, lenP_ref, b_neq, b_lss, b_gtr, ires_eq, iresL_2, iresAll_nil, iresAll_cons, iresOne_tmp, ↓reduceIte, arr_eq, arrB_some, ↓evs_cons, ↓evs_nil, beq_self_eq_true, nth_psts, pur_psts, nth_gaps, pur_gaps, nth_pays, pur_pays, Try.f37, ty34, h13, h4s, h5, ho, hs0, h12i]
    · have e1 : E = 0 := by rw [← hE]; unfold openE; rw [if_neg h40, if_neg (fun h => h hall), if_neg (fun h => h hs0), if_neg h12]
      have e2 : L = nzK b b.length := by rw [← hL]; unfold openL; rw [if_pos (by omega)]
      subst e1 e2
      have h12i : ¬ (12 : Int) < ((nzK b b.length).length : Int) := by omega
      generalize nzK b b.length = z at *
      simp +contextual (maxSteps := 4000000) only [↓ur_skip, ↓ur_seq, ↓ur_block, ↓ur_exit, ↓ur_ret, ↓ur_region, ↓ur_cond, ↓cont_seq, ↓cont_blk, ↓leave_seq, ↓leave_blk, ↓leave_lp, ↓done_nil, ↓ops_consN, nY_move, nY_assign, nY_binOp, nilO_tmp, nilO_int, nY_callb, ↓ops_nil, opsIf_some, condC_false, Option.map_some, Option.bind_some, Option.getD_some, Nat.reduceLT, ↓upd_same, ↓upd_ne, Nat.reduceBEq, true_and, and_true, endQ, cfg_P, List.length_map, ↓havoc_in, ↓havoc_out, List.contains_cons, List.contains_nil, Bool.or_false, Bool.or_true, Int.ofNat_lt, decide_false, Option.some.injEq, exists_eq_left', pur_ints, Nat.zero_add, List.drop_zero, Prod.mk.injEq, Nat.lt_irrefl, Nat.lt_succ_self, Bool.not_false, not_true_eq_false, Nat.le_refl, DRx_int, DRx_ref, DRx_tuple, DRxL_cons, DRxL_nil, ↓ev_tmp, ↓ev_int, ↓iop_move, ↓iop_assign, ↓iop_binOp, ↓iop_callb, bi_len, lenM_none, lenP_ref, b_neq, b_lss, b_gtr, ires_eq, iresL_2, iresAll_nil, iresAll_cons, iresOne_tmp, ↓reduceIte, arr_eq, arrB_some, ↓evs_cons, ↓evs_nil, beq_self_eq_true, nth_psts, pur_psts, nth_gaps, pur_gaps, nth_pays, pur_pays, Try.f37, ty34, h13, h4s, h5, ho, hs0, h12i, htk]
theorem o_open : O_open := k_open c_open
end Sim
