/- What functions of this seat compute, by values: contracts (lemmas of the statement's proof, under the conditions that each names). -/
import Derived.Test.YtpaaaaijebdphaaQR
namespace Sim
open Go Go.Proofs
set_option maxRecDepth 10000
set_option maxHeartbeats 2000000
set_option linter.unusedVariables false
set_option linter.unusedSimpArgs false
attribute [local congr] opsIf_congr condC_congr guardC_congr grd_congr pick3_congr obind_congr omap_congr nilC_congr opsV_congr
theorem keyIs_ints3 {a b c : Int} : keyIs (.ints 3) (.agg [.int .i64 a, .int .i64 b, .int .i64 c]) = decide ((-9223372036854775808 ≤ a ∧ a ≤ 9223372036854775807) ∧ (-9223372036854775808 ≤ b ∧ b ≤ 9223372036854775807) ∧ (-9223372036854775808 ≤ c ∧ c ≤ 9223372036854775807)) := by
  simp [keyIs, intsL]
/-- What has been seen of the entries. -/
def SeenAt (em : List Gap) (seen : List Nat) (out : List Gap) : Prop := seen.Nodup ∧ (∀ i ∈ seen, i < em.length) ∧ out = seen.map fun i => em.getD i dG
theorem nodup_leq : ∀ (L : Nat) (l : List Nat), l.Nodup → (∀ x ∈ l, x < L) → l.length ≤ L
  | 0, l, _, h => by
    cases l with
    | nil => exact Nat.le_refl _
    | cons a l => exact absurd (h a (by simp)) (by omega)
  | L + 1, l, hn, h => by
    by_cases hm : L ∈ l
    · have h1 := nodup_leq L (l.erase L) (hn.erase L) (fun x hx => by
        have h2 := (hn.mem_erase_iff).1 hx
        have := h x h2.2
        omega)
      rw [List.length_erase_of_mem hm] at h1
      omega
    · have := nodup_leq L l hn (fun x hx => by
        have h1 := h x hx
        have : x ≠ L := fun e => hm (e ▸ hx)
        omega)
      omega
theorem nodup_range : ∀ (L : Nat) (l : List Nat), l.Nodup → (∀ x ∈ l, x < L) → l.length = L → l.Perm (List.range L)
  | 0, l, _, h, hl => by
    cases l with
    | nil => exact .refl _
    | cons a l => simp at hl
  | L + 1, l, hn, h, hl => by
    have hm : L ∈ l := by
      apply Classical.byContradiction
      intro hm
      have := nodup_leq L l hn (fun x hx => by
        have h1 := h x hx
        have : x ≠ L := fun e => hm (e ▸ hx)
        omega)
      omega
    have ih := nodup_range L (l.erase L) (hn.erase L) (fun x hx => by
        have h2 := (hn.mem_erase_iff).1 hx
        have := h x h2.2
        omega) (by rw [List.length_erase_of_mem hm]; omega)
    rw [List.range_succ]
    exact (List.perm_cons_erase hm).trans ((ih.cons L).trans (List.perm_append_comm (l₁ := [L])))
theorem seen_end {em : List Gap} {seen : List Nat} {out : List Gap} (h : SeenAt em seen out) (hl : seen.length = em.length) : out.Perm em := by
  obtain ⟨h1, h2, rfl⟩ := h
  have := (nodup_range _ seen h1 h2 hl).map fun i => em.getD i dG
  refine this.trans (.of_eq ?_)
  apply List.ext_getElem
  · simp
  · intro i g1 g2
    simp [g2]
theorem seen_next {em : List Gap} {seen : List Nat} {out : List Gap} (h : SeenAt em seen out) {j : Nat} (hj : j < em.length) (hn : j ∉ seen) : SeenAt em (seen ++ [j]) (out ++ [em.getD j dG]) := by
  obtain ⟨h1, h2, rfl⟩ := h
  refine ⟨?_, ?_, by simp⟩
  · rw [List.nodup_append]
    exact ⟨h1, by simp, fun a ha b hb e => by simp at hb; subst hb; subst e; exact hn ha⟩
  · intro i hi
    rcases List.mem_append.1 hi with hi | hi
    · exact h2 i hi
    · simp at hi; subst hi; exact hj

def dspE (o c : List Pst) : Int := if 1000 < o.length ∨ 1000 < c.length then 2 else if ¬ ∀ p ∈ o ++ c, rgtO p then 1 else 0
def dspL (o c : List Pst) : List Gap := if dspE o c = 0 then specL o c else []
/-- The entries behind so many lists. -/
def emS (o c : List Pst) (k : Nat) : List Gap := if k = 0 then [] else if k = 1 then o.foldl (addG 0) [] else c.foldl (addG 1) (o.foldl (addG 0) [])
theorem fold_addG_succ {l : List Pst} {acc : List Gap} {i s : Nat} (h : i < l.length) : (l.take (i + 1)).foldl (addG s) acc = addG s ((l.take i).foldl (addG s) acc) (l.getD i dP) := by
  rw [List.take_succ_eq_append_getElem h, List.foldl_append]
  simp [h]
theorem em_part {o c : List Pst} {k i : Nat} (hk : k < 2) : EmOK ((([o, c].getD k []).take i).foldl (addG k) (emS o c k)) (if k = 0 then o.take i else o) (if k = 0 then [] else c.take i) := by
  rcases (show k = 0 ∨ k = 1 by omega) with rfl | rfl
  · have := em_fold 0 (o.take i) em_nil
    simpa [emS] using this
  · have h1 := em_fold 0 o em_nil
    have := em_fold 1 (c.take i) (em := o.foldl (addG 0) []) (o := o) (c := []) (by simpa using h1)
    simpa [emS] using this
theorem gapF_app {l m : List Gap} : gapF (l ++ m) = gapF l ++ gapF m := List.filter_append ..
theorem at_psts {l : List Pst} {q : Pst → Prop} (h : ∀ j, j < l.length → q (l.getD j dP)) : ∀ p ∈ l, q p := fun p hp => by
  obtain ⟨k, hk, rfl⟩ := List.getElem_of_mem hp
  have := h k hk
  simpa [hk] using this
theorem addG_len {s : Nat} {p : Pst} : ∀ {l : List Gap}, (addG s l p).length ≤ l.length + 1
  | [] => by simp [addG]
  | y :: l => by
    have := addG_len (s := s) (p := p) (l := l)
    unfold addG
    split
    · simp
    · simp only [List.length_cons]; omega
theorem foldG_len {s : Nat} : ∀ (l : List Pst) {acc : List Gap}, (l.foldl (addG s) acc).length ≤ acc.length + l.length
  | [], acc => by simp
  | p :: l, acc => by
    have h1 := foldG_len (s := s) l (acc := addG s acc p)
    have h2 := addG_len (s := s) (p := p) (l := acc)
    simp only [List.foldl_cons, List.length_cons]; omega
theorem gapF_mem {l : List Gap} {x : Gap} : gapF (l ++ [x]) = if x.2.2.2.1 = x.2.2.2.2 then gapF l else gapF l ++ [x] := by
  rw [gapF_app]
  by_cases h : x.2.2.2.1 = x.2.2.2.2
  · rw [if_pos h]; simp [gapF, h]
  · rw [if_neg h]; simp [gapF, h]
noncomputable def A_dispute : (List Pst) × (List Pst) → List PV := fun (o, m) => [psts o, psts m]
noncomputable def R_dispute : (List Pst) × (List Pst) → PV := fun (o, m) => .tuple [gaps (dspL o m), I (dspE o m)]
def H_dispute : (List Pst) × (List Pst) → Prop := fun (o, m) => True
noncomputable def e_dispute : Nat × Ent := (11, .v (specOf A_dispute R_dispute H_dispute))
theorem j_dispute : ∀ i j, A_dispute i = A_dispute j → i = j := by
  rintro ⟨o₁, m₁⟩ ⟨o₂, m₂⟩ h
  simp only [A_dispute, List.cons.injEq, and_true, PV.lits.injEq, PV.int.injEq, PV.bool.injEq, PV.str.injEq, PV.agg.injEq, PV.func.injEq, Fn.func.injEq, PV.vptr.injEq, true_and, List.map_nil, inj_ints, inj_strs, inj_psts, inj_gaps, inj_pays] at h
  simp [Prod.ext_iff, h] <;> omega
theorem s_dispute (o : List Pst) (m : List Pst) : specOf A_dispute R_dispute H_dispute [psts o, psts m] = some (.tuple [gaps (dspL o m), I (dspE o m)]) := specOf_app j_dispute (i := (o, m)) trivial
def C_dispute : Prop := ∀ (o : List Pst) (m : List Pst) , VC Try.prog 11 [psts o, psts m] (.tuple [gaps (dspL o m), I (dspE o m)])
def O_dispute : Prop := EntOK Try.prog e_dispute.1 e_dispute.2
theorem k_dispute (c : C_dispute) : O_dispute := specOf_ok fun ⟨o, m⟩ h => c o m
theorem c_dispute : C_dispute := by
  intro o m
  refine vc_ofU mixed (l := [e_win, e_sort]) ((eok_cons o_win (eok_cons o_sort eok_nil))) [] []  Try.func11 rfl (by decide +kernel) (N := 120) rfl (by simp) rfl (by kernel_rfl) fun hs => ?_
  simp only [smallL, PV.small, List.length_map, and_true, true_and] at hs
  obtain ⟨L, hL⟩ : ∃ L, dspL o m = L := ⟨_, rfl⟩
  obtain ⟨E, hE⟩ : ∃ E, dspE o m = E := ⟨_, rfl⟩
  rw [hL, hE]
  have bad : ¬ E = 0 → L = [] := fun h => by rw [← hL]; unfold dspL; rw [if_neg (by rw [hE]; exact h)]
  by_cases n1 : 1000 < o.length
  · have e1 : E = 2 := by rw [← hE]; unfold dspE; rw [if_pos (.inl n1)]
    have e2 := bad (by omega)
    subst e1 e2
    have n1i : (1000 : Int) < (o.length : Int) := by omega
    simp +contextual (maxSteps := 4000000) only [↓ur_seq, ↓ur_ret, ↓ur_region, ↓ur_cond, ↓cont_seq, ↓done_nil, ↓done_seq, ↓ops_consN, ↓ops_guardN, nY_move, nY_assign, nY_pick, nY_binOp, nilO_int, nY_callb, ↓ops_nil, opsIf_some, condC_true, guardC_tf, Option.map_some, Option.bind_some, Option.getD_some, Nat.reduceLT, ↓upd_same, ↓upd_ne, Nat.reduceBEq, and_true, List.getD_cons_zero, List.getElem?_toArray, List.getElem?_cons_zero, List.getElem?_cons_succ, endQ, cfg_P, List.map_nil, List.length_map, decide_true, Option.some.injEq, exists_eq_left', Bool.not_false, st0, DRx_int, DRx_nils_lits, DRx_tuple, DRxL_cons, DRxL_nil, ↓ev_tmp, ↓ev_int, ↓ev_bool, ↓ev_nils, ↓guardP_eq, grd_some, ↓iop_move, ↓iop_assign, ↓pick3_bool, ↓iop_pick, ↓iop_binOp, ↓iop_callb, bi_len, lenM_none, lenP_lits, b_gtr, env0_eq, ires_eq, iresL_2, iresAll_nil, iresAll_cons, iresOne_tmp, ↓reduceIte, ↓evs_cons, ↓evs_nil, e_win, e_sort, nth_psts, pur_psts, nth_gaps, pur_gaps, nth_pays, pur_pays, Try.f11, ty22, n1i]
  have n1i : ¬ (1000 : Int) < (o.length : Int) := by omega
  by_cases n2 : 1000 < m.length
  · have e1 : E = 2 := by rw [← hE]; unfold dspE; rw [if_pos (.inr n2)]
    have e2 := bad (by omega)
    subst e1 e2
    have n2i : (1000 : Int) < (m.length : Int) := by omega
    simp +contextual (maxSteps := 4000000) only [↓ur_seq, ↓ur_ret, ↓ur_region, ↓ur_cond, ↓cont_seq, ↓done_nil, ↓done_seq, ↓ops_consN, ↓ops_guardN, nY_move, nY_assign, nY_pick, nY_binOp, nilO_int, nY_callb, ↓ops_nil, opsIf_some, condC_true, guardC_ff, Option.map_some, Option.bind_some, Option.getD_some, Nat.reduceLT, Bool.false_eq_true, ↓upd_same, ↓upd_ne, Nat.reduceBEq, and_true, List.getD_cons_zero, List.getD_cons_succ, List.getElem?_toArray, List.getElem?_cons_zero, List.getElem?_cons_succ, endQ, cfg_P, List.map_nil, List.length_map, decide_true, decide_false, Option.some.injEq, exists_eq_left', Bool.not_false, st0, DRx_int, DRx_nils_lits, DRx_tuple, DRxL_cons, DRxL_nil, ↓ev_tmp, ↓ev_int, ↓ev_nils, ↓guardP_eq, grd_some, ↓iop_move, ↓iop_assign, ↓pick3_bool, ↓iop_pick, ↓iop_binOp, ↓iop_callb, bi_len, lenM_none, lenP_lits, b_gtr, env0_eq, ires_eq, iresL_2, iresAll_nil, iresAll_cons, iresOne_tmp, ↓reduceIte, ↓evs_cons, ↓evs_nil, e_win, e_sort, nth_psts, pur_psts, nth_gaps, pur_gaps, nth_pays, pur_pays, Try.f11, ty22, n1i, n2i]
  have n2i : ¬ (1000 : Int) < (m.length : Int) := by omega
  have hE2 : E = if ¬ ∀ p ∈ o ++ m, rgtO p then 1 else 0 := by rw [← hE]; unfold dspE; rw [if_neg (by omega)]
  simp +contextual (maxSteps := 4000000) only [↓ur_skip, ↓ur_seq, ↓ur_block, ↓ur_region, ↓ur_cond, ↓cont_seq, ↓ops_consN, ↓ops_guardN, nY_move, nY_assign, nY_pick, nY_buildSlice, nY_binOp, nilO_int, nY_makeMap, nY_callb, ↓ops_nil, opsIf_some, condC_false, guardC_ff, Option.map_some, Option.bind_some, Option.getD_some, Nat.reduceLT, Bool.false_eq_true, ↓upd_same, ↓upd_ne, Nat.reduceBEq, true_and, and_true, List.getD_cons_zero, List.getD_cons_succ, List.getElem?_toArray, List.getElem?_cons_zero, List.getElem?_cons_succ, cfg_P, cfg_muts, List.length_map, List.contains_nil, decide_false, List.length_cons, List.length_nil, Nat.zero_add, Nat.reduceAdd, List.replicate_succ, List.replicate_zero, List.set_cons_zero, List.set_cons_succ, Nat.reduceMul, Nat.reduceLeDiff, Nat.lt_succ_self, Bool.not_false, st0, cells_lits, ↓ev_tmp, ↓ev_int, ↓ev_nils, ↓guardP_eq, grd_some, ↓iop_move, ↓iop_assign, ↓pick3_bool, ↓iop_pick, ↓iop_buildSlice, ↓iop_binOp, ↓iop_callb, bi_len, lenM_none, ↓iop_makeMap, lenP_lits, b_gtr, bel_nil, bel_cons, env0_eq, Store.new, ↓reduceIte, bslP_eq, ↓evs_cons, ↓evs_nil, ↓evp_cons, ↓evp_nil, Int.cast_ofNat_Int, e_win, e_sort, nth_psts, pur_psts, nth_gaps, pur_gaps, nth_pays, pur_pays, Try.f11, ty22, ty23, ty85, n1i, n2i]
  refine loop_cnt [4, 5, 7, 8, 10, 11, 12, 29, 30, 31, 32, 33, 34, 35, 36, 37, 38, 39, 40, 41, 42, 43, 44, 45, 46, 47, 48, 49, 50, 51, 52, 53, 54, 55, 56, 57, 58, 59, 60, 61, 62, 63, 64, 65, 66, 67, 68, 69, 70, 71, 72, 73, 74, 75, 76, 77, 78, 79, 80, 81, 82, 83, 84, 85, 86, 87, 88, 89, 90] 2 (fun k ρ st' => ρ 29 = I k ∧ (∀ i, i < k → ∀ p ∈ [o, m].getD i [], rgtO p) ∧ st'.obj 0 = some (.map 0 (.ints 3) ((emS o m k).map encG)) ∧ 0 < st'.next) (.refl _) ?_ ?_
  · simp +contextual (maxSteps := 4000000) only [↓upd_same, true_and, and_true, List.map_nil, updO_same, Nat.lt_succ_self, ↓reduceIte, Int.cast_ofNat_Int, nth_psts, pur_psts, nth_gaps, pur_gaps, nth_pays, pur_pays, Try.f11, emS]
    intro i hi; omega
  rintro k ρ ⟨ob, M⟩ hk ⟨h29, hok, h0, hM⟩
  dsimp only at h0 hM
  have m0 : ¬ 0 = M := by omega
  have m1 : ¬ M = 0 := by omega
  by_cases hk2 : k < 2
  · have hwk := wrapN' (k := k) (by omega)
    have hki : (k : Int) < 2 := by omega
    have hnth : nth [PV.lits 6 (o.map pstV), PV.lits 6 (m.map pstV)] k = .lits 6 (([o, m].getD k []).map pstV) := by
      rcases (show k = 0 ∨ k = 1 by omega) with rfl | rfl <;> rfl
    have hxl : ([o, m].getD k []).length ≤ 1000 := by
      rcases (show k = 0 ∨ k = 1 by omega) with rfl | rfl
      · show o.length ≤ 1000; omega
      · show m.length ≤ 1000; omega
    have hxm : ∀ p ∈ [o, m].getD k [], p ∈ o ++ m := fun p hp => by
      rcases (show k = 0 ∨ k = 1 by omega) with rfl | rfl
      · exact List.mem_append.2 (.inl hp)
      · exact List.mem_append.2 (.inr hp)
    have hem := fun i => em_part (o := o) (c := m) (k := k) (i := i) hk2
    have hprev : ∀ p ∈ (if k = 0 then ([] : List Pst) else o), rgtO p := fun p hp => by
      rcases (show k = 0 ∨ k = 1 by omega) with rfl | rfl
      · simp at hp
      · exact hok 0 (by omega) p hp
    have hnxt : emS o m (k + 1) = ([o, m].getD k []).foldl (addG k) (emS o m k) := by
      rcases (show k = 0 ∨ k = 1 by omega) with rfl | rfl <;> rfl
    have hpart : ∀ i, (if k = 0 then ([o, m].getD k []).take i else o) = (if k = 0 then o.take i else o) ∧ (if k = 0 then ([] : List Pst) else ([o, m].getD k []).take i) = (if k = 0 then [] else m.take i) := fun i => by
      rcases (show k = 0 ∨ k = 1 by omega) with rfl | rfl <;> exact ⟨rfl, rfl⟩
    have hlim : ∀ i, (if k = 0 then o.take i else o).length ≤ 1000 ∧ (if k = 0 then ([] : List Pst) else m.take i).length ≤ 1000 := fun i => by
      rcases (show k = 0 ∨ k = 1 by omega) with rfl | rfl
      · simp; omega
      · simp; omega
    generalize hx : [o, m].getD k [] = x at *
    generalize hacc : emS o m k = acc at *
    simp +contextual (maxSteps := 4000000) only [↓ur_skip, ↓ur_seq, ↓ur_block, ↓ur_region, ↓ur_cond, ↓cont_seq, ↓ops_consN, nY_move, nY_assign, nY_load, nY_binOp, nilO_tmp, nY_indexAddr, nY_callb, ↓ops_nil, opsIf_some, condC_true, Option.map_some, Option.bind_some, Option.getD_some, Nat.reduceLT, Bool.false_eq_true, ↓upd_same, ↓upd_ne, Nat.reduceBEq, true_and, and_true, List.getElem?_cons_zero, cfg_P, cfg_frz, List.length_map, ↓havoc_in, ↓havoc_out, List.contains_cons, List.contains_nil, Bool.or_false, Bool.or_true, Int.natCast_nonneg, Int.toNat_natCast, decide_true, List.length_cons, List.length_nil, Nat.zero_add, Nat.reduceAdd, Nat.lt_succ_self, Bool.not_false, cells_lits, ↓ev_tmp, ↓ev_int, ↓iop_move, ↓iop_assign, ↓iop_load, ↓iop_binOp, ↓iop_indexAddr, idxA_int, ↓iop_callb, bi_len, lenM_none, pickP_f, loadP_vptr, indexP_lits, lenP_lits, b_lss, ↓reduceIte, ↓evs_cons, ↓evs_nil, beq_self_eq_true, see_eq, Int.cast_ofNat_Int, nth_psts, pur_psts, nth_gaps, pur_gaps, nth_pays, pur_pays, Try.f11, ty22, ty23, h29, hki, hk2, hnth, h0, m0, m1]
    refine loop_cnt [4, 5, 10, 11, 12, 36, 37, 38, 39, 40, 41, 42, 43, 44, 45, 46, 47, 48, 49, 50, 51, 52, 53, 54, 55, 56, 57, 58, 59, 60, 61, 62, 63, 64, 65, 66, 67, 68, 69, 70, 71, 72, 73, 74, 75, 76, 77, 78, 79, 80, 81, 82, 83, 84, 85, 86, 87, 88, 89] x.length (fun i ρ st' => ρ 36 = I i ∧ (∀ j, j < i → rgtO (x.getD j dP)) ∧ st'.obj 0 = some (.map 0 (.ints 3) (((x.take i).foldl (addG k) acc).map encG)) ∧ 0 < st'.next) (.refl _) ?_ ?_
    · simp +contextual (maxSteps := 4000000) only [↓upd_same, true_and, Option.some.injEq, List.take_zero, Int.cast_ofNat_Int, nth_psts, pur_psts, nth_gaps, pur_gaps, nth_pays, pur_pays, Try.f11, h0]
      exact ⟨fun j hj => absurd hj (by omega), rfl, hM⟩
    rintro i ρ2 ⟨ob2, M2⟩ hi ⟨h36, hrg, p0, hM2⟩
    dsimp only at p0 hM2
    have q0 : ¬ 0 = M2 := by omega
    have q1 : ¬ M2 = 0 := by omega
    have q2 : ¬ 0 = M2 + 1 := by omega
    have q3 : ¬ M2 + 1 = 0 := by omega
    have q4 : ¬ 0 = M2 + 1 + 1 := by omega
    have q5 : ¬ M2 + 1 + 1 = 0 := by omega
    have q6 : ¬ M2 = M2 + 1 := by omega
    have q7 : ¬ M2 + 1 = M2 := by omega
    have q8 : ¬ M2 = M2 + 1 + 1 := by omega
    have q9 : ¬ M2 + 1 + 1 = M2 := by omega
    have q10 : ¬ M2 + 1 = M2 + 1 + 1 := by omega
    have q11 : ¬ M2 + 1 + 1 = M2 + 1 := by omega
    by_cases hlt : i < x.length
    · have hwi := wrapN' (k := i) (by omega)
      by_cases hp : rgtO (x.getD i dP)
      case neg =>
        have hmem : x.getD i dP ∈ x := by
          rw [List.getD_eq_getElem?_getD, List.getElem?_eq_getElem hlt]; exact List.getElem_mem hlt
        have e1 : E = 1 := by rw [hE2, if_pos (fun h => hp (h _ (hxm _ hmem)))]
        have e2 := bad (by omega)
        subst e1 e2
        unfold rgtO at hp
        generalize hy : x.getD i dP = y at *
        by_cases d1 : 0 ≤ y.1 ∧ y.1 ≤ 39
        case neg => simp +contextual (maxSteps := 4000000) only [↓ur_skip, ↓ur_seq, ↓ur_block, ↓ur_ret, ↓ur_region, ↓ur_cond, ↓cont_seq, ↓done_nil, ↓done_seq, ↓done_blk, ↓done_lp, ↓ops_consN, ↓ops_guardN, nY_move, nY_assign, nY_pick, nY_alloc, nY_load, nY_store, nY_binOp, nilO_tmp, nY_unOp, nY_fieldAddr, nY_indexAddr, nY_callf, ↓ops_nil, opsIf_some, opsIf_none, condC_true, guardC_tf, Option.map_some, Option.bind_some, Option.getD_some, Nat.reduceLT, Bool.false_eq_true, ↓upd_same, ↓upd_ne, Nat.reduceBEq, true_and, and_true, List.getElem?_toArray, List.getElem?_cons_zero, List.getElem?_cons_succ, endQ, cfg_P, cfg_tab, cfg_muts, cfg_frz, cfg_num, numOf_eq, List.map_nil, List.length_map, ↓havoc_in, ↓havoc_out, List.contains_cons, List.contains_nil, Bool.or_false, Bool.or_true, Int.natCast_nonneg, Int.ofNat_lt, Int.toNat_natCast, decide_true, decide_false, Option.some.injEq, exists_eq_left', tabOf_cons, tab_v, Bool.and_self, List.nil_append, List.append_nil, updO_same, List.length_cons, List.length_nil, Nat.zero_add, Nat.add_zero, List.drop_zero, List.take_zero, Nat.reduceAdd, List.set_cons_zero, nth_zero, Nat.lt_succ_self, Bool.not_false, Nat.le_refl, pur_int, cells_agg, DRx_int, DRx_nils_lits, DRx_tuple, DRxL_cons, DRxL_nil, ↓ev_tmp, ↓ev_int, ↓ev_bool, ↓ev_nils, ↓ev_func, ↓guardP_eq, grd_some, ↓iop_move, ↓iop_assign, ↓pick3_bool, ↓iop_pick, ↓iop_alloc, ↓iop_load, ↓iop_store, ↓iop_binOp, ↓iop_unOp, ↓iop_fieldAddr, ↓iop_indexAddr, idxA_int, ↓iop_callv, nrmAll_cons, nrmAll_nil, nrm_int, pickP_f, pickP_t, loadP_vptr, loadP_ptr, setCells_agg, storeP_ptr, fieldP_ptr, indexP_lits, b_lss, u_not, splice_eq, ires_eq, iresL_2, iresAll_nil, iresAll_cons, iresOne_tmp, valT_eq, pursL_cons, pursL_nil, Store.new, Store.set, ↓reduceIte, arr_eq, arrB_some, callP_eq, tsOf_eq, List.take_succ_cons, List.drop_succ_cons, List.drop_nil, List.take_nil, ↓evs_cons, ↓evs_nil, beq_self_eq_true, see_eq, and_false, Bool.true_eq_false, s_win, nth_psts, pur_psts, nth_gaps, pur_gaps, nth_pays, pur_pays, Try.f11, ty3, ty22, ty61, h36, hlt, hy, d1]
        by_cases d2 : 0 ≤ y.2.1 ∧ y.2.1 ≤ 39
        case neg => simp +contextual (maxSteps := 4000000) only [↓ur_skip, ↓ur_seq, ↓ur_block, ↓ur_ret, ↓ur_region, ↓ur_cond, ↓cont_seq, ↓done_nil, ↓done_seq, ↓done_blk, ↓done_lp, ↓ops_consN, ↓ops_guardN, nY_move, nY_assign, nY_pick, nY_alloc, nY_load, nY_store, nY_binOp, nilO_tmp, nY_unOp, nY_fieldAddr, nY_indexAddr, nY_callf, ↓ops_nil, opsIf_some, opsIf_none, condC_true, guardC_tf, guardC_ff, Option.map_some, Option.bind_some, Option.getD_some, Nat.reduceLT, Bool.false_eq_true, ↓upd_same, ↓upd_ne, Nat.reduceBEq, true_and, and_true, List.getElem?_toArray, List.getElem?_cons_zero, List.getElem?_cons_succ, endQ, cfg_P, cfg_tab, cfg_muts, cfg_frz, cfg_num, numOf_eq, List.map_nil, List.length_map, ↓havoc_in, ↓havoc_out, List.contains_cons, List.contains_nil, Bool.or_false, Bool.or_true, Int.natCast_nonneg, Int.ofNat_lt, Int.toNat_natCast, decide_true, decide_false, Option.some.injEq, exists_eq_left', tabOf_cons, tab_v, Bool.and_self, List.nil_append, List.append_nil, updO_same, List.length_cons, List.length_nil, Nat.zero_add, Nat.add_zero, List.drop_zero, List.take_zero, Nat.reduceAdd, List.set_cons_zero, nth_zero, Nat.lt_succ_self, Bool.not_true, Bool.not_false, Nat.le_refl, pur_int, cells_agg, DRx_int, DRx_nils_lits, DRx_tuple, DRxL_cons, DRxL_nil, ↓ev_tmp, ↓ev_int, ↓ev_bool, ↓ev_nils, ↓ev_func, ↓guardP_eq, grd_some, ↓iop_move, ↓iop_assign, ↓pick3_bool, ↓iop_pick, ↓iop_alloc, ↓iop_load, ↓iop_store, ↓iop_binOp, ↓iop_unOp, ↓iop_fieldAddr, ↓iop_indexAddr, idxA_int, ↓iop_callv, nrmAll_cons, nrmAll_nil, nrm_int, pickP_f, pickP_t, loadP_vptr, loadP_ptr, setCells_agg, storeP_ptr, fieldP_ptr, indexP_lits, b_lss, u_not, splice_eq, ires_eq, iresL_2, iresAll_nil, iresAll_cons, iresOne_tmp, valT_eq, pursL_cons, pursL_nil, Store.new, Store.set, ↓reduceIte, arr_eq, arrB_some, callP_eq, tsOf_eq, List.take_succ_cons, List.drop_succ_cons, List.drop_nil, List.take_nil, ↓evs_cons, ↓evs_nil, beq_self_eq_true, see_eq, and_false, Bool.true_eq_false, s_win, nth_psts, pur_psts, nth_gaps, pur_gaps, nth_pays, pur_pays, Try.f11, ty3, ty22, ty61, h36, hlt, hy, d1, d2]
        by_cases d3 : y.1 = y.2.1
        · rw [d3] at d1
          simp +contextual (maxSteps := 4000000) only [↓ur_skip, ↓ur_seq, ↓ur_block, ↓ur_ret, ↓ur_region, ↓ur_cond, ↓cont_seq, ↓done_nil, ↓done_seq, ↓done_blk, ↓done_lp, ↓ops_consN, ↓ops_guardN, nY_move, nY_assign, nY_pick, nY_alloc, nY_load, nY_store, nY_binOp, nilO_tmp, nY_unOp, nY_fieldAddr, nY_indexAddr, nY_callf, ↓ops_nil, opsIf_some, opsIf_none, condC_true, guardC_tf, guardC_ff, Option.map_some, Option.bind_some, Option.getD_some, Nat.reduceLT, Bool.false_eq_true, ↓upd_same, ↓upd_ne, Nat.reduceBEq, true_and, and_true, List.getElem?_toArray, List.getElem?_cons_zero, List.getElem?_cons_succ, endQ, cfg_P, cfg_tab, cfg_muts, cfg_frz, cfg_num, numOf_eq, List.map_nil, List.length_map, ↓havoc_in, ↓havoc_out, List.contains_cons, List.contains_nil, Bool.or_false, Bool.or_true, Int.natCast_nonneg, Int.ofNat_lt, Int.toNat_natCast, decide_true, Option.some.injEq, exists_eq_left', tabOf_cons, tab_v, Bool.and_self, List.nil_append, List.append_nil, updO_same, List.length_cons, List.length_nil, Nat.zero_add, Nat.add_zero, List.drop_zero, List.take_zero, Nat.reduceAdd, List.set_cons_zero, nth_zero, Nat.lt_succ_self, Bool.not_true, Bool.not_false, Nat.le_refl, pur_int, cells_agg, DRx_int, DRx_nils_lits, DRx_tuple, DRxL_cons, DRxL_nil, ↓ev_tmp, ↓ev_int, ↓ev_bool, ↓ev_nils, ↓ev_func, ↓guardP_eq, grd_some, ↓iop_move, ↓iop_assign, ↓pick3_bool, ↓iop_pick, ↓iop_alloc, ↓iop_load, ↓iop_store, ↓iop_binOp, ↓iop_unOp, ↓iop_fieldAddr, ↓iop_indexAddr, idxA_int, ↓iop_callv, nrmAll_cons, nrmAll_nil, nrm_int, pickP_f, pickP_t, loadP_vptr, loadP_ptr, setCells_agg, storeP_ptr, fieldP_ptr, indexP_lits, b_eql, b_lss, u_not, splice_eq, ires_eq, iresL_2, iresAll_nil, iresAll_cons, iresOne_tmp, valT_eq, pursL_cons, pursL_nil, Store.new, Store.set, ↓reduceIte, arr_eq, arrB_some, callP_eq, tsOf_eq, List.take_succ_cons, List.drop_succ_cons, List.drop_nil, List.take_nil, ↓evs_cons, ↓evs_nil, beq_self_eq_true, see_eq, and_false, Bool.true_eq_false, s_win, nth_psts, pur_psts, nth_gaps, pur_gaps, nth_pays, pur_pays, Try.f11, ty3, ty22, ty61, h36, hlt, hy, d1, d2, d3]
        by_cases d4 : 1 ≤ y.2.2.2.2.1 ∧ y.2.2.2.2.1 ≤ 7
        case neg => simp +contextual (maxSteps := 4000000) only [↓ur_skip, ↓ur_seq, ↓ur_block, ↓ur_ret, ↓ur_region, ↓ur_cond, ↓cont_seq, ↓done_nil, ↓done_seq, ↓done_blk, ↓done_lp, ↓ops_consN, ↓ops_guardN, nY_move, nY_assign, nY_pick, nY_alloc, nY_load, nY_store, nY_binOp, nilO_tmp, nY_unOp, nY_fieldAddr, nY_indexAddr, nY_callf, ↓ops_nil, opsIf_some, opsIf_none, condC_true, guardC_tf, guardC_ff, Option.map_some, Option.bind_some, Option.getD_some, Nat.reduceLT, Bool.false_eq_true, ↓upd_same, ↓upd_ne, Nat.reduceBEq, true_and, and_true, List.getElem?_toArray, List.getElem?_cons_zero, List.getElem?_cons_succ, endQ, cfg_P, cfg_tab, cfg_muts, cfg_frz, cfg_num, numOf_eq, List.map_nil, List.length_map, ↓havoc_in, ↓havoc_out, List.contains_cons, List.contains_nil, Bool.or_false, Bool.or_true, Int.natCast_nonneg, Int.ofNat_lt, Int.toNat_natCast, decide_true, decide_false, Option.some.injEq, exists_eq_left', tabOf_cons, tab_v, Bool.and_self, List.nil_append, List.append_nil, updO_same, List.length_cons, List.length_nil, Nat.zero_add, Nat.add_zero, List.drop_zero, List.take_zero, Nat.reduceAdd, List.set_cons_zero, nth_zero, Nat.lt_succ_self, Bool.not_true, Bool.not_false, Nat.le_refl, pur_int, cells_agg, DRx_int, DRx_nils_lits, DRx_tuple, DRxL_cons, DRxL_nil, ↓ev_tmp, ↓ev_int, ↓ev_bool, ↓ev_nils, ↓ev_func, ↓guardP_eq, grd_some, ↓iop_move, ↓iop_assign, ↓pick3_bool, ↓iop_pick, ↓iop_alloc, ↓iop_load, ↓iop_store, ↓iop_binOp, ↓iop_unOp, ↓iop_fieldAddr, ↓iop_indexAddr, idxA_int, ↓iop_callv, nrmAll_cons, nrmAll_nil, nrm_int, pickP_f, pickP_t, loadP_vptr, loadP_ptr, setCells_agg, storeP_ptr, fieldP_ptr, indexP_lits, b_eql, b_lss, u_not, splice_eq, ires_eq, iresL_2, iresAll_nil, iresAll_cons, iresOne_tmp, valT_eq, pursL_cons, pursL_nil, Store.new, Store.set, ↓reduceIte, arr_eq, arrB_some, callP_eq, tsOf_eq, List.take_succ_cons, List.drop_succ_cons, List.drop_nil, List.take_nil, ↓evs_cons, ↓evs_nil, beq_self_eq_true, see_eq, and_false, Bool.true_eq_false, s_win, nth_psts, pur_psts, nth_gaps, pur_gaps, nth_pays, pur_pays, Try.f11, ty3, ty22, ty61, h36, hlt, hy, d1, d2, d3, d4]
        have d5 : ¬ (1 ≤ y.2.2.1 ∧ y.2.2.1 ≤ 1099511627776) := fun h => hp ⟨d1, d2, d3, d4, h⟩
        simp +contextual (maxSteps := 4000000) only [↓ur_skip, ↓ur_seq, ↓ur_block, ↓ur_ret, ↓ur_region, ↓ur_cond, ↓cont_seq, ↓done_nil, ↓done_seq, ↓done_blk, ↓done_lp, ↓ops_consN, ↓ops_guardN, nY_move, nY_assign, nY_pick, nY_alloc, nY_load, nY_store, nY_binOp, nilO_tmp, nY_unOp, nY_fieldAddr, nY_indexAddr, nY_callf, ↓ops_nil, opsIf_some, opsIf_none, condC_true, guardC_ff, Option.map_some, Option.bind_some, Option.getD_some, Nat.reduceLT, Bool.false_eq_true, ↓upd_same, ↓upd_ne, Nat.reduceBEq, and_true, List.getElem?_toArray, List.getElem?_cons_zero, List.getElem?_cons_succ, endQ, cfg_P, cfg_tab, cfg_muts, cfg_frz, cfg_num, numOf_eq, List.map_nil, List.length_map, ↓havoc_in, ↓havoc_out, List.contains_cons, List.contains_nil, Bool.or_false, Bool.or_true, Int.natCast_nonneg, Int.ofNat_lt, Int.toNat_natCast, decide_true, decide_false, Option.some.injEq, exists_eq_left', tabOf_cons, tab_v, Bool.and_self, List.nil_append, List.append_nil, updO_same, List.length_cons, List.length_nil, Nat.zero_add, Nat.add_zero, List.drop_zero, List.take_zero, Nat.reduceAdd, List.set_cons_zero, nth_zero, Nat.lt_succ_self, Bool.not_true, Bool.not_false, Nat.le_refl, pur_int, cells_agg, DRx_int, DRx_nils_lits, DRx_tuple, DRxL_cons, DRxL_nil, ↓ev_tmp, ↓ev_int, ↓ev_nils, ↓ev_func, ↓guardP_eq, grd_some, ↓iop_move, ↓iop_assign, ↓pick3_bool, ↓iop_pick, ↓iop_alloc, ↓iop_load, ↓iop_store, ↓iop_binOp, ↓iop_unOp, ↓iop_fieldAddr, ↓iop_indexAddr, idxA_int, ↓iop_callv, nrmAll_cons, nrmAll_nil, nrm_int, pickP_f, pickP_t, loadP_vptr, loadP_ptr, setCells_agg, storeP_ptr, fieldP_ptr, indexP_lits, b_eql, b_lss, u_not, splice_eq, ires_eq, iresL_2, iresAll_nil, iresAll_cons, iresOne_tmp, valT_eq, pursL_cons, pursL_nil, Store.new, Store.set, ↓reduceIte, arr_eq, arrB_some, callP_eq, tsOf_eq, List.take_succ_cons, List.drop_succ_cons, List.drop_nil, List.take_nil, ↓evs_cons, ↓evs_nil, beq_self_eq_true, see_eq, and_false, Bool.true_eq_false, s_win, nth_psts, pur_psts, nth_gaps, pur_gaps, nth_pays, pur_pays, Try.f11, ty3, ty22, ty61, h36, hlt, hy, d1, d2, d3, d4, d5]
      have hrg2 : ∀ j, j < i + 1 → rgtO (x.getD j dP) := fun j hj => by
        by_cases e : j = i
        · subst e; exact hp
        · exact hrg j (by omega)
      have hsx := fold_addG_succ (acc := acc) (s := k) hlt
      have hemi := hem i
      have hti : ∀ p ∈ (x.take i), rgtO p := fun p hp => by
        obtain ⟨j, hj1, hj2, rfl⟩ := mem_take_at hp
        exact hrg j hj1
      have hb1 := sumP_nonneg (l := if k = 0 then o.take i else o) (fun p hp => by
        rw [← (hpart i).1] at hp
        rcases (show k = 0 ∨ k = 1 by omega) with rfl | rfl
        · exact hti p hp
        · exact hprev p hp) (x.getD i dP).1 (x.getD i dP).2.1 (x.getD i dP).2.2.2.2.1
      have hb2 := sumP_nonneg (l := if k = 0 then ([] : List Pst) else m.take i) (fun p hp => by
        rw [← (hpart i).2] at hp
        rcases (show k = 0 ∨ k = 1 by omega) with rfl | rfl
        · simp at hp
        · exact hti p hp) (x.getD i dP).1 (x.getD i dP).2.1 (x.getD i dP).2.2.2.2.1
      have hll := hlim i
      have hgt := getG_em hemi (x.getD i dP)
      rw [hsx]
      generalize (x.take i).foldl (addG k) acc = em at *
      generalize hy : x.getD i dP = y at *
      have hget := mget_G (p := y) (em := em)
      have hput := mput_G (p := y) (s := k) (em := em)
      rw [hgt] at hget hput
      generalize sumP (if k = 0 then o.take i else o) y.1 y.2.1 y.2.2.2.2.1 = u at *
      generalize sumP (if k = 0 then ([] : List Pst) else m.take i) y.1 y.2.1 y.2.2.2.2.1 = w at *
      dsimp only at hget hput
      unfold rgtO at hp
      obtain ⟨d1, d2, d3, d4, d5⟩ := hp
      have r1 : (-9223372036854775808 ≤ y.1 ∧ y.1 ≤ 9223372036854775807) := by omega
      have r2 : (-9223372036854775808 ≤ y.2.1 ∧ y.2.1 ≤ 9223372036854775807) := by omega
      have r3 : (-9223372036854775808 ≤ y.2.2.2.2.1 ∧ y.2.2.2.2.1 ≤ 9223372036854775807) := by omega
      have w1 : IntKind.i64.wrap (u + y.2.2.1) = u + y.2.2.1 := wrap64 (by omega) (by omega)
      have w2 : IntKind.i64.wrap (w + y.2.2.1) = w + y.2.2.1 := wrap64 (by omega) (by omega)
      rcases (show k = 0 ∨ k = 1 by omega) with rfl | rfl
      · rw [if_pos rfl] at hput
        simp +contextual (maxSteps := 4000000) only [↓ur_skip, ↓ur_seq, ↓ur_block, ↓ur_region, ↓ur_cond, ↓cont_seq, ↓cont_blk, ↓cont_lp, ↓ops_consN, ↓ops_guardN, nY_move, nY_pick, nY_alloc, nY_build, nY_load, nY_store, nY_binOp, nilO_tmp, nilO_int, nY_unOp, nY_fieldAddr, nY_indexAddr, nY_lookup, nY_mapUpdate, nY_callf, ↓ops_nil, opsIf_some, opsIf_none, condC_true, condC_false, guardC_ff, Option.map_some, Option.bind_some, Option.getD_some, Nat.reduceLT, Bool.false_eq_true, ↓upd_same, ↓upd_ne, Nat.reduceBEq, true_and, and_true, List.getElem?_toArray, List.getElem?_cons_zero, List.getElem?_cons_succ, cfg_P, cfg_tab, cfg_muts, cfg_frz, cfg_num, numOf_eq, List.length_map, ↓havoc_in, ↓havoc_out, agree_upd, agree_havoc, List.contains_cons, List.contains_nil, Bool.or_false, Bool.or_true, Int.natCast_nonneg, Int.ofNat_lt, Int.toNat_natCast, decide_true, decide_false, tabOf_cons, tab_v, Bool.and_self, List.cons_append, List.nil_append, List.append_nil, updO_same, updO_ne, List.length_cons, List.length_nil, Nat.zero_add, Nat.add_zero, List.drop_zero, List.take_zero, Nat.reduceAdd, List.set_cons_zero, Nat.reduceMul, Nat.reduceLeDiff, nth_zero, Nat.lt_succ_self, Bool.not_true, Bool.not_false, not_false_eq_true, Int.reduceLT, Int.reduceToNat, Nat.le_refl, cells_int, pur_int, cells_agg, ↓ev_tmp, ↓ev_int, ↓ev_func, ↓guardP_eq, grd_some, ↓iop_move, ↓pick3_bool, ↓iop_pick, ↓iop_alloc, ↓iop_build, ↓iop_load, ↓iop_store, ↓iop_binOp, ↓iop_unOp, ↓iop_fieldAddr, ↓iop_indexAddr, idxA_int, ↓iop_callv, nrmAll_cons, nrmAll_nil, ↓iop_mapUpdate, ↓iop_lookup, mapPut_mref, mapGet_mref, mapLk_ff, mapB_some, nrm_int, pickP_f, pickP_t, loadP_vptr, loadP_ptr, setCells_agg, storeP_ptr, fieldP_ptr, indexP_lits, indexP_ptr, b_add, b_eql, b_lss, u_not, fill_nil, fill_cons, fill1_some, buildP_eq, bldA_some, splice_eq, valT_eq, pursL_cons, pursL_nil, Store.new, Store.set, ↓reduceIte, arr_eq, arrB_some, callP_eq, tsOf_eq, beq_eq_false_iff_ne, ne_eq, Nat.reduceBeqDiff, List.take_succ_cons, List.drop_succ_cons, List.drop_nil, List.take_nil, ↓evs_cons, ↓evs_nil, ↓evp_cons, ↓evp_nil, Int.le_refl, beq_self_eq_true, see_eq, and_false, Bool.true_eq_false, Int.cast_ofNat_Int, s_win, nth_psts, pur_psts, nth_gaps, pur_gaps, nth_pays, pur_pays, Try.f11, ty3, ty22, ty61, ty85, ty87, ty88, h29, h36, p0, hlt, hy, d1, d2, d3, d4, d5, q0, q1, q2, q3, q4, q5, q6, q7, q8, q9, q10, q11, keyIs_ints3, r1, r2, r3, hget, hput, w1, hwi]
        exact ⟨hrg2, by omega⟩
      · rw [if_neg (by decide)] at hput
        simp +contextual (maxSteps := 4000000) only [↓ur_skip, ↓ur_seq, ↓ur_block, ↓ur_region, ↓ur_cond, ↓cont_seq, ↓cont_blk, ↓cont_lp, ↓ops_consN, ↓ops_guardN, nY_move, nY_pick, nY_alloc, nY_build, nY_load, nY_store, nY_binOp, nilO_tmp, nilO_int, nY_unOp, nY_fieldAddr, nY_indexAddr, nY_lookup, nY_mapUpdate, nY_callf, ↓ops_nil, opsIf_some, opsIf_none, condC_true, condC_false, guardC_ff, Option.map_some, Option.bind_some, Option.getD_some, Nat.reduceLT, Bool.false_eq_true, ↓upd_same, ↓upd_ne, Nat.reduceBEq, true_and, and_true, List.getElem?_toArray, List.getElem?_cons_zero, List.getElem?_cons_succ, cfg_P, cfg_tab, cfg_muts, cfg_frz, cfg_num, numOf_eq, List.length_map, ↓havoc_in, ↓havoc_out, agree_upd, agree_havoc, List.contains_cons, List.contains_nil, Bool.or_false, Bool.or_true, Int.natCast_nonneg, Int.ofNat_lt, Int.toNat_natCast, decide_true, decide_false, tabOf_cons, tab_v, Bool.and_self, List.cons_append, List.nil_append, List.append_nil, updO_same, updO_ne, List.length_cons, List.length_nil, Nat.zero_add, Nat.add_zero, List.drop_zero, List.take_zero, Nat.reduceAdd, List.set_cons_zero, Nat.reduceMul, Nat.reduceLeDiff, nth_zero, Nat.lt_succ_self, Bool.not_true, Bool.not_false, not_false_eq_true, Int.reduceLT, Int.reduceLE, Int.reduceToNat, Nat.le_refl, cells_int, pur_int, cells_agg, ↓ev_tmp, ↓ev_int, ↓ev_func, ↓guardP_eq, grd_some, ↓iop_move, ↓pick3_bool, ↓iop_pick, ↓iop_alloc, ↓iop_build, ↓iop_load, ↓iop_store, ↓iop_binOp, ↓iop_unOp, ↓iop_fieldAddr, ↓iop_indexAddr, idxA_int, ↓iop_callv, nrmAll_cons, nrmAll_nil, ↓iop_mapUpdate, ↓iop_lookup, mapPut_mref, mapGet_mref, mapLk_ff, mapB_some, nrm_int, pickP_f, pickP_t, loadP_vptr, loadP_ptr, setCells_agg, storeP_ptr, fieldP_ptr, indexP_lits, indexP_ptr, b_add, b_eql, b_lss, u_not, fill_nil, fill_cons, fill1_some, buildP_eq, bldA_some, splice_eq, valT_eq, pursL_cons, pursL_nil, Store.new, Store.set, ↓reduceIte, arr_eq, arrB_some, callP_eq, tsOf_eq, beq_eq_false_iff_ne, ne_eq, Nat.reduceBeqDiff, List.take_succ_cons, List.drop_succ_cons, List.drop_nil, List.take_nil, ↓evs_cons, ↓evs_nil, ↓evp_cons, ↓evp_nil, beq_self_eq_true, see_eq, and_false, Bool.true_eq_false, Int.cast_ofNat_Int, s_win, nth_psts, pur_psts, nth_gaps, pur_gaps, nth_pays, pur_pays, Try.f11, ty3, ty22, ty61, ty85, ty87, ty88, h29, h36, p0, hlt, hy, d1, d2, d3, d4, d5, q0, q1, q2, q3, q4, q5, q6, q7, q8, q9, q10, q11, keyIs_ints3, r1, r2, r3, hget, hput, w2, hwi]
        exact ⟨hrg2, by omega⟩
    · have e : i = x.length := by omega
      subst e
      rw [List.take_length] at p0
      have hok2 : ∀ j, j < k + 1 → ∀ p ∈ [o, m].getD j [], rgtO p := fun j hj => by
        by_cases e : j = k
        · subst e; rw [hx]; exact at_psts hrg
        · exact hok j (by omega)
      rw [← hnxt] at p0
      simp +contextual (maxSteps := 4000000) only [↓ur_seq, ↓ur_exit, ↓ur_region, ↓ur_cond, ↓cont_seq, ↓cont_blk, ↓cont_lp, ↓leave_seq, ↓leave_blk, ↓leave_lp, ↓ops_consN, nY_move, nY_binOp, nilO_tmp, nilO_int, ↓ops_nil, opsIf_some, condC_false, Option.map_some, Nat.reduceLT, ↓upd_same, ↓upd_ne, Nat.reduceBEq, true_and, cfg_P, ↓havoc_in, ↓havoc_out, agree_upd, List.contains_cons, List.contains_nil, Bool.or_false, Bool.or_true, Int.ofNat_lt, decide_false, Nat.lt_irrefl, Bool.not_false, ↓ev_tmp, ↓ev_int, ↓iop_move, ↓iop_binOp, b_add, b_lss, ↓reduceIte, beq_self_eq_true, nth_psts, pur_psts, nth_gaps, pur_gaps, nth_pays, pur_pays, Try.f11, h29, h36, p0, hwk]
      rw [agree_havoc_sub (by decide +kernel)]
      simp +contextual (maxSteps := 4000000) only [Nat.reduceBEq, true_and, agree_upd, agree_havoc, List.contains_cons, List.contains_nil, Bool.or_false, Bool.or_true, beq_self_eq_true, nth_psts, pur_psts, nth_gaps, pur_gaps, nth_pays, pur_pays, Try.f11]
      exact ⟨fun i hi => hok2 i hi, hM2⟩
  have e : k = 2 := by omega
  subst e
  have hoo : ∀ p ∈ o ++ m, rgtO p := fun p hp => by
    rcases List.mem_append.1 hp with h | h
    · exact hok 0 (by omega) p h
    · exact hok 1 (by omega) p h
  have e1 : E = 0 := by rw [hE2, if_neg (fun h => h hoo)]
  have e2 : L = specL o m := by rw [← hL]; unfold dspL; rw [if_pos (by rw [hE, e1])]
  subst e1
  have hem : EmOK (emS o m 2) o m := by
    have := em_part (o := o) (c := m) (k := 1) (i := m.length) (by omega)
    have e : emS o m 2 = (([o, m].getD 1 []).take m.length).foldl (addG 1) (emS o m 1) := by simp [emS]
    rw [e]
    simpa using this
  have hel : (emS o m 2).length ≤ 2000 := by
    have h1 := foldG_len (s := 0) o (acc := [])
    have h2 := foldG_len (s := 1) m (acc := o.foldl (addG 0) [])
    have e : emS o m 2 = m.foldl (addG 1) (o.foldl (addG 0) []) := by simp [emS]
    rw [e]
    simp only [List.length_nil] at h1
    omega
  generalize emS o m 2 = em at *
  have n1 : ¬ 0 = M + 1 := by omega
  have n2 : ¬ M = M + 1 := by omega
  have n3 : ¬ M + 1 = M := by omega
  simp +contextual (maxSteps := 4000000) only [↓ur_seq, ↓ur_block, ↓ur_exit, ↓ur_region, ↓ur_cond, ↓cont_seq, ↓leave_seq, ↓leave_blk, ↓leave_lp, ↓ops_consN, nY_move, nY_assign, nY_binOp, nilO_tmp, nY_range, ↓ops_nil, opsIf_some, condC_false, Option.map_some, Option.bind_some, Nat.reduceLT, ↓upd_same, ↓upd_ne, Nat.reduceBEq, true_and, cfg_P, List.length_map, ↓havoc_in, ↓havoc_out, List.contains_cons, List.contains_nil, Bool.or_false, Bool.or_true, decide_false, Bool.not_false, Int.reduceLT, ↓ev_tmp, ↓ev_nils, ↓iop_move, ↓iop_assign, ↓iop_binOp, ↓iop_range, mapRange_mref, mapB_some, b_lss, Store.new, ↓reduceIte, beq_self_eq_true, Int.cast_ofNat_Int, nth_psts, pur_psts, nth_gaps, pur_gaps, nth_pays, pur_pays, Try.f11, ty85, h29, h0, m0, m1]
  refine loop_cnt [13, 14, 15, 93, 94, 95, 96, 97, 98, 99, 100, 101, 102, 103, 104, 105, 106, 107, 108, 109, 110, 111, 112, 113, 114, 115, 116] em.length (fun i ρ st' => ∃ seen w, seen.length = i ∧ SeenAt em seen w ∧ GS st' (ρ 13) (M + 1) 5 ((gapF w).map gapV) ∧ st'.obj 0 = some (.map 0 (.ints 3) (em.map encG)) ∧ st'.obj M = some (.it (some (0, 0)) em.length seen) ∧ M + 1 < st'.next) (.slot _ 13 5 ?_ ?_) ?_ ?_
  · simp +contextual (maxSteps := 4000000) only [↓upd_same, ↓upd_ne, Nat.reduceBEq, nth_psts, pur_psts, nth_gaps, pur_gaps, nth_pays, pur_pays, Try.f11]
  · decide
  · refine ⟨[], [], rfl, ⟨List.nodup_nil, by simp, rfl⟩, ?_⟩
    simp +contextual (maxSteps := 4000000) only [↓upd_same, and_true, List.map_nil, GS_ref, updO_same, updO_ne, List.length_nil, Nat.lt_succ_self, not_false_eq_true, Store.new, beq_eq_false_iff_ne, ne_eq, Nat.reduceBeqDiff, nth_psts, pur_psts, nth_gaps, pur_gaps, nth_pays, pur_pays, Try.f11, h0, m0, n1, n2, gapF, List.filter_nil]
  rintro i ρ2 ⟨ob2, M2⟩ hi ⟨seen, w, hseen, hsa, ⟨g, h13, hv⟩, h02, hM2, hMM⟩
  dsimp only at hv h02 hM2 hMM
  rw [List.length_map] at h13
  simp only [ur_block, ur_seq, ur_region, ops_consI]
  conv => arg 2; simp +contextual (maxSteps := 4000000) only [↓ur_skip, ↓ur_seq, ↓ur_block, ↓ur_exit, ↓ur_ret, ↓ur_region, ↓ur_cond, ur_range, Nat.one_ne_zero, ↓run_skip, ↓run_exit, ↓run_ret, ↓run_cond, ↓cont_nil, ↓cont_seq, ↓cont_blk, ↓cont_lp, ↓leave_seq, ↓leave_blk, ↓leave_lp, ↓done_nil, ↓done_seq, ↓done_blk, ↓done_lp, ↓run_seq, ↓run_region, ↓run_block, ↓ops_consL, ↓ops_consN, ↓ops_guardN, ↓leave_nil, ↓setps_cons, ↓setps_nil, rndX_cfg, ↓ops_consVc, ↓ops_guardVc, ↓opsV_func, ↓opsV_yield, nY_move, nY_assign, nY_pick, nY_alloc, nY_box, nY_build, nY_buildSlice, nY_insert, nY_load, nY_store, nY_nilCheck, nY_binOp, nilO_tmp, nilO_int, nilO_bool, nilO_str, nilO_ptr, nilO_iface, nilC_nils, nilC_cons, nilC_nil, nilC_nil', bn_eql, bn_neq, bnn_eql, bnn_neq, Nat.reduceBNe, nY_unOp, nY_convert, nY_makeInterface, nY_makeFunc, nY_makeMap, nY_makeSlice, nY_slice, nY_fieldAddr, nY_field, nY_indexAddr, nY_index, nY_lookup, nY_mapUpdate, nY_mapEntry, nY_entryStore, nY_range, nY_entry, nY_typeAssert, nY_extract, nY_panic, nY_callf, nY_callb, nY_callt, isNone_none, cfg_yl, ↓ops_nil, opsIf_some, opsIf_none, opsIf_if, opsIf_if', map_if, bind_if, condC_true, condC_false, guardC_u, guardC_tt, guardC_tf, guardC_ft, guardC_ff, Option.map_some, Option.map_none, Option.bind_some, Option.bind_none, Option.getD_some, Option.getD_none, Nat.reduceLT, Bool.false_eq_true, ↓upd_same, ↓upd_ne, Nat.reduceBEq, true_and, and_true, List.getD_cons_zero, List.getD_cons_succ, List.getElem?_toArray, List.getElem?_cons_zero, List.getElem?_cons_succ, endQ, decide_eq_true_eq, decide_eq_false_iff_not, true_implies, forall_const, not_dec, cfg_P, cfg_tab, cfg_muts, cfg_frz, cfg_num, numOf_nil, numOf_eq, List.map_cons, List.map_nil, List.length_map, ↓havoc_in, ↓havoc_out, agree_upd, agree_havoc, agree_self, List.contains_cons, List.contains_nil, Bool.or_false, Bool.or_true, Bool.false_or, Bool.true_or, Int.natCast_nonneg, Int.ofNat_lt, Int.toNat_natCast, nth_int, nth_str, decide_true, decide_false, Option.some.injEq, exists_eq_left', PV.int.injEq, PV.bool.injEq, PV.str.injEq, PV.lits.injEq, PV.tuple.injEq, PV.agg.injEq, List.cons.injEq, List.lookup_cons, List.lookup_nil, tabOf_cons, tab_v, tab_m, tab_a, tab_s, tab_x, sortT_ref, sortT_nils, pur_ints, pur_strs, Bool.and_true, Bool.and_self, Bool.true_and, Nat.reduceEqDiff, List.cons_append, List.nil_append, List.append_nil, GS_ref, updO_same, updO_ne, List.length_append, List.length_cons, List.length_nil, Nat.zero_add, Nat.add_zero, List.drop_zero, List.take_length, List.take_zero, Nat.not_succ_le_self, Nat.reduceAdd, List.replicate_succ, List.replicate_zero, List.length_replicate, List.set_cons_zero, List.set_cons_succ, Nat.reduceMul, Nat.reduceLeDiff, nth_zero, nth_succ, Prod.mk.injEq, IObj.arr.injEq, Nat.lt_irrefl, Nat.lt_succ_self, Bool.not_true, Bool.not_false, reduceCtorEq, not_true_eq_false, not_false_eq_true, false_implies, Int.reduceEq, Int.reduceLT, Int.reduceLE, Int.reduceToNat, take_map_len, or_false, or_true, st0, Nat.le_refl, Classical.not_not, cells_bool, scal1_bool, scal_bool, pur_bool, rdC_bool, rdP_bool, isCell_bool, cells_int, scal1_int, scal_int, pur_int, rdC_int, rdP_int, isCell_int, cells_str, scal1_str, scal_str, pur_str, rdC_str, rdP_str, isCell_str, cells_nilp, scal1_nilp, scal_nilp, pur_nilp, rdC_nilp, rdP_nilp, cells_ptr, cells_vptr, pur_vptr, rdC_vptr, rdP_vptr, cells_nils, scal1_nils, scal_nils, pur_nils, rdC_nils, rdP_nils, isCell_nils, cells_lits, scal1_lits, scal_lits, pur_lits, rdC_lits, rdP_lits, isCell_lits, cells_ref, pur_ref, scal1_ref, rdC_ref, rdP_ref, cells_func, pur_func, rdC_func, rdP_func, cells_nilf, scal1_nilf, scal_nilf, pur_nilf, rdC_nilf, rdP_nilf, isCell_nilf, cells_iface, cells_nili, scal1_nili, scal_nili, pur_nili, rdC_nili, rdP_nili, isCell_nili, cells_agg, scal_agg, pur_agg, rdP_agg, scal_tuple, pur_tuple, cells_nilm, cells_mref, cells_iter, isCell_mref, isCell_iter, setCells_nilm, setCells_mref, scal1_nilm, scal_nilm, pur_nilm, rdC_nilm, rdP_nilm, DRx_int, DRx_bool, DRx_str, DRx_nils_lits, DRx_nils_nils, DRx_lits, DRx_ref, DRx_agg, DRx_tuple, DRxL_cons, DRxL_nil, ↓ev_tmp, ↓ev_int, ↓ev_bool, ↓ev_str, ↓ev_nils, ↓ev_nilp, ↓ev_nilf, ↓ev_nili, ↓ev_agg, ↓ev_func, c0_int, c0_bool, c0_nils, c0_str, ↓guardP_eq, grd_some, ↓iop_move, ↓iop_assign, ↓pick3_bool, ↓pick3_true, ↓pick3_false, ↓iop_pick, ↓iop_alloc, ↓iop_box, ↓iop_build, ↓iop_buildSlice, ↓iop_load, ↓iop_store, ↓iop_nilCheck, nilCk_vptr, nilCk_ptr, ↓iop_binOp, ↓iop_unOp, ↓iop_convert, ↓iop_makeFunc, ↓iop_makeSlice, mkSl_int, mkSl_frz, mkSl_re, ↓iop_slice, intOfP_int, slcP_ff, slcP_tf, slcP_ft, slcP_tt, ↓iop_fieldAddr, ↓iop_field, fldV_agg, ↓iop_indexAddr, idxA_int, ↓iop_index, idxV_int, ↓iop_extract, extr_tuple, ↓iop_callv, ↓iop_callb, nrmAll_cons, nrmAll_nil, bi_len, lenM_none, lenM_mref, lenM_nilm, bi_copy, copyP_ref, isStr_ref, isStr_lits, isStr_nils, ↓iop_makeMap, ↓iop_makeMap', ↓iop_insert, ↓iop_mapUpdate, ↓iop_mapEntry, ↓iop_entryStore, ↓iop_lookup, ↓iop_range, ↓iop_entry, mapPut_mref, mapSlot_mref, mapStore_mref, mset_eq, keyIs_ints2, mapGet_mref, mapGet_nilm, mapRange_mref, mapRange_nilm, mapLk_tt, mapLk_ff, mapB_some, keyIs_int, keyIs_str, keyIs_bool, bi_append, bi_append_re, appGuard_lits, appGuard_nils, re_arr, bi_min, bi_max, nrm_agg, nrmL_cons, nrmL_nil, nrm_nils, nrm1_some, nrm1_none, nrm_no, nrm_int, nrm_str, nrm_bool, nrm_lits, nrm_ref, nrm_func, nrm_vptr, nrm_ptr, nrm1_int, nrm1_str, nrm1_bool, nrm1_lits, nrm1_ref, pickP_f, pickP_t, loadP_vptr, loadP_ptr, setCells_agg, setCells_int, setCells_bool, setCells_nils, setCells_ref, storeP_ptr, fieldP_vptr, fieldP_ptr, indexP_lits, indexP_ref, indexP_vptr, indexP_ptr, indexV_str, indexV_agg, lenP_nils, lenP_lits, lenP_ref, lenP_str, elemsP_nils, elemsP_lits, elemsP_ref, elemsP_str, sliceP_nils, sliceP_lits, sliceP_ref, sliceP_str, sliceP_vptr, fixP_ptr, appendP_nils, appendP_ref, b_add, b_sub, b_mul, b_quo, b_rem, b_and, b_or, b_xor, b_andNot, b_eql, b_neq, b_lss, b_leq, b_gtr, b_geq, b_shl, b_shr, bs_add, bs_eql, bs_neq, bs_lss, bs_leq, bs_gtr, bs_geq, u_neg, u_not, cv_int, cv_str, fill_nil, fill_cons, fill1_some, buildP_eq, bldA_none, bldA_some, bel_nil, bel_cons, splice_eq, env0_eq, ires_eq, iresL_1, iresL_2, iresAll_nil, iresAll_cons, iresOne_tmp, iresOne_cell, frzP_eq, frzQ_eq, frzL_eq, again_eq, seal_obj, seal_next, againO_arr, sealO_arr, sealE_agg, sealE_int, sealC_int, sealC_bool, sealC_lits, sealC_nils, sealC_ref, rdAll_cons, rdAll_nil, rdL_cons, rdL_nil, valT_eq, pursL_cons, pursL_nil, Store.new, Store.set, ↓reduceIte, Int.natCast_eq_zero, arr_eq, arrB_some, callP_eq, tsOf_eq, boxP_eq, bslP_eq, beq_eq_false_iff_ne, ne_eq, Nat.reduceBeqDiff, set_int, opsIf_ite, Int.natCast_inj, List.take_succ_cons, List.drop_succ_cons, List.drop_nil, List.take_nil, guardC_td, guardC_fd, condC_d, bb_eql', bb_neq', ↓evs_cons, ↓evs_nil, ↓evp_cons, ↓evp_nil, implies_true, Int.natCast_zero, only_obj, only_next, without_obj, without_next, idsOf_cons, idsOf_nil, idC_ref, idC_int, idC_bool, idC_str, idC_nils, idC_lits, idC_agg, idL_cons, idL_nil, idE_ref, idE_int, idE_bool, idE_str, idE_nils, idE_lits, Int.le_refl, Int.natCast_pos, beq_self_eq_true, beq_iff_eq, List.all_cons, List.all_nil, see_eq, false_and, and_false, Bool.true_eq_false, Int.reduceAdd, bits_i64, bits_u64, bits_u32, bits_u8, or_i64, Nat.min_def, Int.reducePow, Int.cast_ofNat_Int, e_win, s_win, e_sort, s_sort, nth_psts, pur_psts, nth_gaps, pur_gaps, nth_pays, pur_pays, Try.f11, ty3, ty22, ty23, ty25, ty26, ty61, ty64, ty85, ty87, ty88, ty91]
  rw [mapNext_eq hM2 h02]
  refine ⟨by simp, fun hsl => ?_, fun j k v' hjk hns => ?_⟩
  · have hper := seen_end hsa (by omega)
    have hpf : (gapF w).Perm (gapF em) := hper.filter _
    have hso : specOf A_sort R_sort H_sort ((gapF w).map gapV) = some ((specL o m).map gapV) := by
      rw [s_sort, if_pos, sort_gaps hem hoo hpf]
      have h1 := gapF_perm hem hoo
      obtain ⟨h2, _⟩ := spec_ok (o := o) (c := m) hoo (o ++ m).length (Nat.le_refl _)
      refine ⟨?_, ?_⟩
      · have : (gapF w).length ≤ w.length := List.length_filter_le _ _
        rw [hper.length_eq] at this
        omega
      · refine ((hpf.trans h1).pairwise_iff ?_).2 (asc_keysG h2)
        exact fun {x y} h e => h ⟨e.1.symm, e.2.1.symm, e.2.2.symm⟩
    have hvl : (gapF w).length = (specL o m).length := (hpf.trans (gapF_perm hem hoo)).length_eq
    rw [← e2] at hso hvl
    generalize gapF w = v at *
    have htk : List.take L.length (L.map gapV) = L.map gapV := List.take_of_length_le (by rw [List.length_map]; exact Nat.le_refl _)
    simp +contextual (maxSteps := 4000000) only [↓ur_seq, ↓ur_exit, ↓ur_ret, ↓ur_region, ↓ur_cond, ↓cont_seq, ↓leave_seq, ↓leave_blk, ↓leave_lp, ↓done_nil, ↓ops_consN, nY_move, nY_assign, nY_extract, nY_callf, ↓ops_nil, opsIf_some, condC_false, Option.map_some, Option.bind_some, Option.getD_some, Nat.reduceLT, Bool.false_eq_true, ↓upd_same, ↓upd_ne, Nat.reduceBEq, true_and, and_true, List.getElem?_cons_zero, endQ, cfg_P, cfg_tab, cfg_muts, cfg_frz, List.length_map, ↓havoc_in, List.contains_cons, List.contains_nil, Bool.or_false, Option.some.injEq, exists_eq_left', tabOf_cons, tab_s, sortT_ref, Bool.and_true, Bool.and_self, Nat.reduceEqDiff, List.nil_append, List.append_nil, updO_same, Nat.zero_add, List.drop_zero, Nat.reduceAdd, Prod.mk.injEq, Nat.lt_succ_self, Nat.le_refl, pur_ref, pur_func, DRx_int, DRx_ref, DRx_tuple, DRxL_cons, DRxL_nil, ↓ev_tmp, ↓ev_int, ↓ev_func, ↓iop_move, ↓iop_assign, ↓iop_extract, extr_tuple, ↓iop_callv, nrmAll_cons, nrmAll_nil, nrm_ref, nrm_func, ires_eq, iresL_2, iresAll_nil, iresAll_cons, iresOne_tmp, pursL_cons, pursL_nil, Store.set, ↓reduceIte, arr_eq, arrB_some, callP_eq, tsOf_eq, ↓evs_cons, ↓evs_nil, beq_self_eq_true, nth_psts, pur_psts, nth_gaps, pur_gaps, nth_pays, pur_pays, Try.f11, ty25, ty91, h02, hM2, h13, hv, hso, hvl, htk]
  · rw [List.getElem?_map, Option.map_eq_some_iff] at hjk
    obtain ⟨y, hjy, hkv⟩ := hjk
    simp only [encG, Prod.mk.injEq] at hkv
    obtain ⟨rfl, rfl⟩ := hkv
    obtain ⟨hjl, hjy⟩ := List.getElem?_eq_some_iff.1 hjy
    have hyd : em.getD j dG = y := by simp [hjl, hjy]
    have hnx := seen_next hsa hjl hns
    rw [hyd] at hnx
    have hilt : i < em.length := by
      have := nodup_leq em.length (seen ++ [j]) hnx.1 hnx.2.1
      simp at this; omega
    have hent := mapEntry_eq (st := ⟨updO ob2 M (some (.it (some (0, 0)) em.length (seen ++ [j]))), M2⟩) (id := M) (m := 0) (g := 0) (n := em.length) (seen := seen) (i := j) (mk := .ints 3) (es := em.map encG) (k := .agg [I y.1, I y.2.1, I y.2.2.1]) (v := .agg [I y.2.2.2.1, I y.2.2.2.2]) (by simp [updO]) (by simp [updO, m0, h02]) (by simp) (by simp [encG, hjl, hjy])
    have q0 : ¬ 0 = M2 := by omega
    have q1 : ¬ M = M2 := by omega
    have q2 : ¬ M + 1 = M2 := by omega
    have q3 : ¬ M2 = M := by omega
    have q4 : ¬ M2 = 0 := by omega
    have q5 : ¬ M2 = M + 1 := by omega
    have p0 : ¬ 0 = M2 + 1 := by omega
    have p1 : ¬ M = M2 + 1 := by omega
    have p2 : ¬ M = M2 := by omega
    have p3 : ¬ M2 + 1 = M := by omega
    have p4 : ¬ M2 + 1 = 0 := by omega
    have p5 : ¬ M2 + 1 = M + 1 := by omega
    have p6 : ¬ M2 + 1 = M2 := by omega
    have p7 : ¬ M2 = M2 + 1 := by omega
    have p8 : ¬ M + 1 = M2 + 1 := by omega
    have p9 : ¬ M2 = M := by omega
    have hv1 : (gapF w).length + 1 ≤ 2147483648 := by
      have h1 : (gapF w).length ≤ w.length := List.length_filter_le _ _
      have h2 : w.length = seen.length := by rw [hsa.2.2, List.length_map]
      omega
    have hgm := gapF_mem (l := w) (x := y)
    have htk : List.take (gapF w).length ((gapF w).map gapV) = (gapF w).map gapV := List.take_of_length_le (by rw [List.length_map]; exact Nat.le_refl _)
    by_cases hne : y.2.2.2.1 = y.2.2.2.2
    · rw [if_pos hne] at hgm
      simp +contextual (maxSteps := 4000000) only [↓ur_skip, ↓ur_seq, ↓ur_block, ↓ur_region, ↓ur_cond, ↓cont_seq, ↓cont_blk, ↓cont_lp, ↓ops_consN, nY_alloc, nY_load, nY_store, nY_binOp, nilO_tmp, nY_indexAddr, nY_entry, nY_extract, ↓ops_nil, opsIf_some, opsIf_none, condC_true, condC_false, Option.map_some, Option.bind_some, Option.getD_some, Nat.reduceLT, Bool.false_eq_true, ↓upd_same, ↓upd_ne, Nat.reduceBEq, true_and, and_true, List.getElem?_cons_zero, List.getElem?_cons_succ, cfg_P, cfg_frz, cfg_num, numOf_eq, List.length_map, ↓havoc_in, ↓havoc_out, agree_upd, agree_havoc, List.contains_cons, List.contains_nil, Bool.or_false, Bool.or_true, decide_false, Option.some.injEq, List.nil_append, List.append_nil, GS_ref, updO_same, updO_ne, List.length_cons, List.length_nil, Nat.zero_add, Nat.add_zero, List.take_zero, Nat.reduceAdd, List.set_cons_zero, Nat.reduceMul, nth_zero, IObj.arr.injEq, Nat.lt_succ_self, Bool.not_false, not_true_eq_false, not_false_eq_true, Int.reduceLT, Int.reduceLE, Int.reduceToNat, Nat.le_refl, cells_agg, ↓ev_tmp, ↓ev_int, ↓iop_alloc, ↓iop_load, ↓iop_store, ↓iop_binOp, ↓iop_indexAddr, idxA_int, ↓iop_extract, extr_tuple, ↓iop_entry, pickP_f, loadP_ptr, setCells_agg, storeP_ptr, indexP_ptr, b_neq, splice_eq, Store.new, Store.set, ↓reduceIte, arr_eq, arrB_some, beq_eq_false_iff_ne, ne_eq, Nat.reduceBeqDiff, List.drop_succ_cons, List.drop_nil, Int.le_refl, beq_self_eq_true, see_eq, Int.cast_ofNat_Int, nth_psts, pur_psts, nth_gaps, pur_gaps, nth_pays, pur_pays, Try.f11, ty3, ty87, ty88, h02, hM2, h13, hv, m0, m1, n1, n2, n3, q0, q1, q2, q3, q4, q5, p0, p1, p2, p3, p4, p5, p6, p7, p8, hent, hne]
      exact ⟨hilt, seen ++ [j], w ++ [y], by simp [hseen], hnx, ⟨by rw [hgm], by rw [hgm]⟩, rfl, by omega⟩
    · rw [if_neg hne] at hgm
      simp +contextual (maxSteps := 4000000) only [↓ur_skip, ↓ur_seq, ↓ur_block, ↓ur_region, ↓ur_cond, ↓cont_seq, ↓cont_blk, ↓cont_lp, ↓ops_consN, nY_move, nY_assign, nY_alloc, nY_build, nY_buildSlice, nY_load, nY_store, nY_binOp, nilO_tmp, nY_indexAddr, nY_entry, nY_extract, nY_callb, ↓ops_nil, opsIf_some, opsIf_none, condC_true, Option.map_some, Option.bind_some, Option.getD_some, Nat.reduceLT, Bool.false_eq_true, ↓upd_same, ↓upd_ne, Nat.reduceBEq, true_and, and_true, List.getElem?_cons_zero, List.getElem?_cons_succ, cfg_P, cfg_muts, cfg_frz, cfg_num, numOf_eq, List.length_map, ↓havoc_in, ↓havoc_out, agree_upd, agree_havoc, List.contains_cons, List.contains_nil, Bool.or_false, Bool.or_true, decide_true, Option.some.injEq, List.cons_append, List.nil_append, List.append_nil, GS_ref, updO_same, updO_ne, List.length_cons, List.length_nil, Nat.zero_add, Nat.add_zero, List.drop_zero, List.take_zero, Nat.not_succ_le_self, Nat.reduceAdd, List.replicate_succ, List.replicate_zero, List.set_cons_zero, Nat.reduceMul, Nat.reduceLeDiff, nth_zero, IObj.arr.injEq, Nat.lt_succ_self, Bool.not_false, reduceCtorEq, not_false_eq_true, Int.reduceLT, Int.reduceLE, Int.reduceToNat, or_false, Nat.le_refl, cells_int, cells_agg, ↓ev_tmp, ↓ev_int, ↓iop_move, ↓iop_assign, ↓iop_alloc, ↓iop_build, ↓iop_buildSlice, ↓iop_load, ↓iop_store, ↓iop_binOp, ↓iop_indexAddr, idxA_int, ↓iop_extract, extr_tuple, ↓iop_callb, ↓iop_entry, bi_append, pickP_f, loadP_ptr, setCells_agg, storeP_ptr, indexP_ptr, elemsP_lits, appendP_ref, b_neq, fill_nil, fill_cons, fill1_some, buildP_eq, bldA_none, bel_nil, bel_cons, splice_eq, Store.new, Store.set, ↓reduceIte, arr_eq, arrB_some, bslP_eq, beq_eq_false_iff_ne, ne_eq, Nat.reduceBeqDiff, List.take_succ_cons, List.drop_succ_cons, List.drop_nil, ↓evs_cons, ↓evs_nil, ↓evp_cons, ↓evp_nil, Int.le_refl, beq_self_eq_true, see_eq, Int.cast_ofNat_Int, nth_psts, pur_psts, nth_gaps, pur_gaps, nth_pays, pur_pays, Try.f11, ty3, ty25, ty64, ty87, ty88, h02, hM2, h13, hv, m0, m1, n1, n2, n3, q0, q1, q2, q3, q4, q5, p0, p1, p2, p3, p4, p5, p6, p7, p8, hent, hne, hv1, htk]
      exact ⟨hilt, seen ++ [j], w ++ [y], by simp [hseen], hnx, ⟨by rw [hgm]; simp, by rw [hgm, List.map_append]; rfl⟩, rfl, by omega⟩
theorem o_dispute : O_dispute := k_dispute c_dispute
end Sim
