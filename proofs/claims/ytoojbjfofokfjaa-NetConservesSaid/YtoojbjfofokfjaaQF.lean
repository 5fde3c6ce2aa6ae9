/- What functions of this seat compute, by values: contracts (lemmas of the statement's proof, under the conditions that each names). -/
import Derived.Test.YtoojbjfofokfjaaQE
namespace Sim
open Go Go.Proofs
set_option maxRecDepth 10000
set_option maxHeartbeats 2000000
set_option linter.unusedVariables false
set_option linter.unusedSimpArgs false
attribute [local congr] opsIf_congr condC_congr guardC_congr grd_congr pick3_congr obind_congr omap_congr

/-- The first error of the first k schedules. -/
def rsT (hn : Int) (ls : List Lnk) (L : List (List Snd)) : Nat → Int
  | 0 => 0
  | k + 1 => if rsT hn ls L k ≠ 0 then rsT hn ls L k else rightM hn ls (L.getD k [])
theorem rsT_stays {hn : Int} {ls : List Lnk} {L : List (List Snd)} {k : Nat} (h : rsT hn ls L k ≠ 0) : ∀ m, rsT hn ls L (k + m) = rsT hn ls L k
  | 0 => rfl
  | m + 1 => by
    have ih := rsT_stays h m
    show (if rsT hn ls L (k + m) ≠ 0 then rsT hn ls L (k + m) else _) = _
    rw [ih, if_pos h]
theorem rsT_end {hn : Int} {ls : List Lnk} {L : List (List Snd)} {k m : Nat} (h : rsT hn ls L k ≠ 0) (hk : k ≤ m) : rsT hn ls L m = rsT hn ls L k := by
  have := rsT_stays h (m - k)
  rwa [show k + (m - k) = m by omega] at this
theorem rsT_zero {hn : Int} {ls : List Lnk} {L : List (List Snd)} : ∀ {k}, rsT hn ls L k = 0 ↔ ∀ i, i < k → OKr hn ls (L.getD i [])
  | 0 => ⟨fun _ h g => absurd g (by omega), fun _ => rfl⟩
  | k + 1 => by
    have ih := @rsT_zero hn ls L k
    simp only [rsT]
    by_cases h : rsT hn ls L k = 0
    · rw [if_neg (fun hn => hn h), right_zero]
      constructor
      · intro hb i hi
        by_cases e : i = k
        · subst e; exact hb
        · exact ih.1 h i (by omega)
      · intro g; exact g k (by omega)
    · rw [if_pos h]
      exact ⟨fun g => absurd g h, fun g => absurd (ih.2 fun i hi => g i (by omega)) h⟩
/-- All sends of the first k schedules, joined. -/
def outT (L : List (List Snd)) : Nat → List Snd
  | 0 => []
  | k + 1 => (L.getD k []).foldl putM (outT L k)
def bigT (l : List Snd) : Nat → Bool
  | 0 => false
  | k + 1 => bigT l k || decide (1073741824 < (l.getD k dS).2.2)
def outM (L : List (List Snd)) : List Snd := outT L L.length
def joinE (hn : Int) (ls : List Lnk) (L : List (List Snd)) : Int :=
  if checkM hn ls ≠ 0 then checkM hn ls else if rsT hn ls L L.length ≠ 0 then rsT hn ls L L.length
  else if 2000 < (outM L).length then 2 else if bigT (outM L) (outM L).length = true then 3 else 0
def joinM (hn : Int) (ls : List Lnk) (L : List (List Snd)) : List Snd := if joinE hn ls L = 0 then outM L else []
theorem bigT_end {l : List Snd} {k m : Nat} (h : bigT l k = true) (hk : k ≤ m) : bigT l m = true := by
  induction m with
  | zero => rwa [show k = 0 by omega] at h
  | succ m ih =>
    by_cases e : k = m + 1
    · rwa [← e]
    · simp only [bigT, ih (by omega), Bool.true_or]
theorem bigT_false {l : List Snd} : ∀ {k}, bigT l k = false ↔ ∀ i, i < k → (l.getD i dS).2.2 ≤ 1073741824
  | 0 => ⟨fun _ h g => absurd g (by omega), fun _ => rfl⟩
  | k + 1 => by
    have ih := @bigT_false l k
    simp only [bigT, Bool.or_eq_false_iff, ih, decide_eq_false_iff_not]
    constructor
    · rintro ⟨h1, h2⟩ i hi
      by_cases e : i = k
      · subst e; omega
      · exact h1 i (by omega)
    · intro h
      have := h k (by omega)
      exact ⟨fun i hi => h i (by omega), by omega⟩
/-- So many sends at most are in it. -/
def Bnd (l : List Snd) (N : Nat) : Prop := l.length ≤ N ∧ ∀ y ∈ l, 0 ≤ y.2.2 ∧ y.2.2 ≤ (N : Int) * 1073741824
theorem Bnd.mono {l : List Snd} {N M : Nat} (h : Bnd l N) (hm : N ≤ M) : Bnd l M := ⟨by have := h.1; omega, fun y hy => by have := h.2 y hy; omega⟩
theorem putM_bnd {x : Snd} (hx : 0 ≤ x.2.2 ∧ x.2.2 ≤ 1073741824) : ∀ {l : List Snd} {N : Nat}, l.length ≤ N → (∀ y ∈ l, 0 ≤ y.2.2 ∧ y.2.2 ≤ (N : Int) * 1073741824) → Bnd (putM l x) (N + 1)
  | [], N, _, _ => ⟨by simp [putM], fun y hy => by simp [putM] at hy; subst hy; omega⟩
  | y :: l, N, hl, h => by
    have hy := h y (by simp)
    unfold putM
    split
    · refine ⟨by simp at hl ⊢; omega, fun z hz => ?_⟩
      rcases List.mem_cons.1 hz with rfl | hz
      · dsimp only; omega
      · have := h z (by simp [hz]); omega
    · split
      · refine ⟨by simp at hl ⊢; omega, fun z hz => ?_⟩
        rcases List.mem_cons.1 hz with rfl | hz
        · omega
        · have := h z hz; omega
      · have hl' : l.length ≤ N - 1 := by simp at hl; omega
        have hlN : l.length + 1 ≤ N := by simpa using hl
        have ih := putM_bnd hx (l := l) (N := N) (by omega) (fun z hz => h z (by simp [hz]))
        have hlen : (putM l x).length ≤ l.length + 1 := putM_len l
        refine ⟨by simp; omega, fun z hz => ?_⟩
        rcases List.mem_cons.1 hz with rfl | hz
        · omega
        · exact ih.2 z hz
where
  putM_len : ∀ (l : List Snd), (putM l x).length ≤ l.length + 1
  | [] => by simp [putM]
  | y :: l => by
    unfold putM
    split
    · simp
    · split
      · simp
      · have := putM_len l
        simp; omega
theorem foldl_bnd : ∀ {l acc : List Snd} {N : Nat}, (∀ x ∈ l, 0 ≤ x.2.2 ∧ x.2.2 ≤ 1073741824) → Bnd acc N → Bnd (l.foldl putM acc) (N + l.length)
  | [], acc, N, _, h => h
  | x :: l, acc, N, hx, h => by
    have := foldl_bnd (l := l) (fun z hz => hx z (by simp [hz])) (putM_bnd (hx x (by simp)) h.1 h.2)
    rw [List.foldl_cons, List.length_cons, show N + (l.length + 1) = N + 1 + l.length by omega]
    exact this
theorem at_mem {α : Type} {l : List α} {x d : α} (h : x ∈ l) : ∃ k, k < l.length ∧ l.getD k d = x := by
  obtain ⟨k, hk, rfl⟩ := List.getElem_of_mem h
  exact ⟨k, hk, by simp [hk]⟩
theorem mem_getD {α : Type} {l : List α} {k : Nat} {d : α} (h : k < l.length) : l.getD k d ∈ l := by
  simp [h]
theorem OKr.bytes' {hn : Int} {ls : List Lnk} {l : List Snd} (ok : OKr hn ls l) : ∀ x ∈ l, 0 ≤ x.2.2 ∧ x.2.2 ≤ 1073741824 := fun x hx => by
  obtain ⟨k, hk, rfl⟩ := at_mem (d := dS) hx
  have := ok.bytes k hk
  omega
theorem take_bytes {hn : Int} {ls : List Lnk} {l : List Snd} (ok : OKr hn ls l) (i : Nat) : ∀ x ∈ l.take i, 0 ≤ x.2.2 ∧ x.2.2 ≤ 1073741824 := fun x hx => ok.bytes' x (List.mem_of_mem_take hx)
theorem outT_bnd {hn : Int} {ls : List Lnk} {L : List (List Snd)} : ∀ {k}, (∀ i, i < k → OKr hn ls (L.getD i [])) → Bnd (outT L k) (2000 * k)
  | 0, _ => ⟨by simp [outT], by simp [outT]⟩
  | k + 1, h => by
    have ih := outT_bnd (L := L) (k := k) fun i hi => h i (by omega)
    have hk := h k (by omega)
    exact (foldl_bnd (fun x hx => hk.bytes' x hx) ih).mono (by have := hk.len; omega)
/-- One send more: the bounds of put. -/
theorem put_pre {l : List Snd} {x : Snd} {N : Nat} (h : Bnd l N) (hN : N ≤ 1000000) (hx : 0 ≤ x.2.2 ∧ x.2.2 ≤ 1073741824) : l.length ≤ 1000000 ∧ ∀ k, k < l.length → -4611686018427387904 ≤ (l.getD k dS).2.2 + x.2.2 ∧ (l.getD k dS).2.2 + x.2.2 ≤ 4611686018427387904 := by
  refine ⟨by have := h.1; omega, fun k hk => ?_⟩
  have := h.2 _ (mem_getD (d := dS) hk)
  omega
theorem take_succ_S {l : List Snd} {i : Nat} (h : i < l.length) : (l.take (i + 1)).foldl putM = fun acc => putM ((l.take i).foldl putM acc) (l.getD i dS) := by
  funext acc
  rw [List.take_succ_eq_append_getElem h, List.foldl_append]
  simp [h]
noncomputable def A_rjoin : (Int) × (List Lnk) × (List (List Snd)) → List PV := fun (hn, ls, L) => [.agg [I hn, lnks ls], lss L]
noncomputable def R_rjoin : (Int) × (List Lnk) × (List (List Snd)) → PV := fun (hn, ls, L) => .agg [snds (joinM hn ls L), I (joinE hn ls L)]
def H_rjoin : (Int) × (List Lnk) × (List (List Snd)) → Prop := fun (hn, ls, L) => L.length ≤ 400
noncomputable def e_rjoin : Nat × Ent := (20, .v (specOf A_rjoin R_rjoin H_rjoin))
theorem j_rjoin : ∀ i j, A_rjoin i = A_rjoin j → i = j := by
  rintro ⟨hn₁, ls₁, L₁⟩ ⟨hn₂, ls₂, L₂⟩ h
  simp only [A_rjoin, List.cons.injEq, and_true, PV.lits.injEq, PV.int.injEq, PV.bool.injEq, PV.str.injEq, PV.agg.injEq, PV.func.injEq, PV.vptr.injEq, true_and, List.map_nil, inj_ints, inj_strs, inj_lnks, inj_snds, inj_lss] at h
  simp [Prod.ext_iff, h] <;> omega
theorem s_rjoin (hn : Int) (ls : List Lnk) (L : List (List Snd)) : specOf A_rjoin R_rjoin H_rjoin [.agg [I hn, lnks ls], lss L] = @ite (Option (PV)) (L.length ≤ 400) (Classical.propDecidable _) (some (.agg [snds (joinM hn ls L), I (joinE hn ls L)])) none := specOf_if j_rjoin (hn, ls, L)
def C_rjoin : Prop := ∀ (hn : Int) (ls : List Lnk) (L : List (List Snd)) (h : L.length ≤ 400) , VC Try.prog 20 [.agg [I hn, lnks ls], lss L] (.agg [snds (joinM hn ls L), I (joinE hn ls L)])
def O_rjoin : Prop := EntOK Try.prog e_rjoin.1 e_rjoin.2
theorem k_rjoin (c : C_rjoin) : O_rjoin := specOf_ok fun ⟨hn, ls, L⟩ h => c hn ls L h
theorem c_rjoin : C_rjoin := by
  rintro hn ls L hL
  refine vc_ofU mixed (l := [e_rcheck, e_rright, e_put]) ((eok_cons o_rcheck (eok_cons o_rright (eok_cons o_put eok_nil)))) [4, 28] []  Try.func20 rfl (by decide +kernel) (N := 76) rfl (by simp) rfl (by kernel_rfl) fun hs => ?_
  simp only [smallL, PV.small, List.length_map, and_true, true_and] at hs
  by_cases h : checkM hn ls = 0
  case neg =>
    rw [show joinE hn ls L = checkM hn ls by simp [joinE, h], show joinM hn ls L = [] by simp [joinM, joinE, h]]
    generalize hr : checkM hn ls = r at *
    simp +contextual (maxSteps := 4000000) only [↓ur_seq, ↓ur_ret, ↓ur_region, ↓ur_cond, ↓cont_seq, ↓done_nil, ↓done_seq, ↓ops_consN, nY_move, nY_assign, nY_alloc, nY_box, nY_build, nY_load, nY_store, nY_binOp, nY_callf, ↓ops_nil, opsIf_some, opsIf_none, condC_true, Option.map_some, Option.bind_some, Option.getD_some, Nat.reduceLT, Bool.false_eq_true, ↓upd_same, ↓upd_ne, Nat.reduceBEq, and_true, List.getD_cons_zero, endQ, cfg_P, cfg_tab, cfg_muts, cfg_frz, cfg_num, numOf_eq, List.map_nil, List.contains_cons, List.contains_nil, Bool.or_false, decide_true, Option.some.injEq, exists_eq_left', List.lookup_cons, List.lookup_nil, tabOf_cons, tab_v, Bool.and_self, List.cons_append, List.nil_append, List.append_nil, updO_same, List.length_cons, List.length_nil, Nat.zero_add, List.drop_zero, List.take_zero, Nat.reduceAdd, List.set_cons_zero, nth_zero, Nat.lt_succ_self, not_false_eq_true, st0, Nat.le_refl, cells_int, pur_int, isCell_int, pur_lits, isCell_lits, cells_agg, pur_agg, DRx_int, DRx_nils_lits, DRx_agg, DRxL_cons, DRxL_nil, ↓ev_tmp, ↓ev_int, ↓ev_func, ↓iop_move, ↓iop_assign, ↓iop_alloc, ↓iop_box, ↓iop_build, ↓iop_load, ↓iop_store, ↓iop_binOp, ↓iop_callv, nrmAll_cons, nrmAll_nil, nrm_agg, nrmL_cons, nrmL_nil, nrm1_int, nrm1_lits, pickP_t, loadP_vptr, loadP_ptr, setCells_agg, storeP_ptr, b_neq, fill_nil, fill_cons, fill1_some, buildP_eq, bldA_none, splice_eq, env0_eq, ires_eq, iresL_1, iresAll_nil, iresAll_cons, iresOne_cell, valT_eq, pursL_cons, pursL_nil, Store.new, Store.set, ↓reduceIte, arr_eq, arrB_some, callP_eq, boxP_eq, List.take_succ_cons, List.drop_succ_cons, List.drop_nil, List.take_nil, ↓evs_cons, ↓evs_nil, ↓evp_cons, ↓evp_nil, beq_self_eq_true, List.all_cons, List.all_nil, see_eq, and_false, Bool.true_eq_false, e_rcheck, s_rcheck, e_rright, e_put, nth_lnks, pur_lnks, nth_snds, pur_snds, nth_lss, pur_lss, lkC_len, lkC_0, lkC_1, lkC_cap, lkC_pri, lkC_take, pur_lkC, Nat.mul_one, Try.f20, ty24, ty42, h, hr]
  by_cases hz : rsT hn ls L L.length = 0
  case neg =>
    rw [show joinE hn ls L = rsT hn ls L L.length by simp [joinE, h, hz], show joinM hn ls L = [] by simp [joinM, joinE, h, hz]]
    generalize hr : rsT hn ls L L.length = r at *
    simp +contextual (maxSteps := 4000000) only [↓ur_skip, ↓ur_seq, ↓ur_block, ↓ur_region, ↓ur_cond, ↓cont_seq, ↓ops_consN, nY_move, nY_assign, nY_alloc, nY_box, nY_load, nY_binOp, nY_callf, ↓ops_nil, opsIf_some, condC_false, Option.map_some, Option.bind_some, Option.getD_some, Nat.reduceLT, Bool.false_eq_true, ↓upd_same, ↓upd_ne, Nat.reduceBEq, true_and, and_true, List.getD_cons_zero, cfg_P, cfg_tab, cfg_muts, cfg_frz, cfg_num, numOf_eq, List.contains_cons, List.contains_nil, Bool.or_false, decide_false, List.lookup_cons, List.lookup_nil, tabOf_cons, tab_v, Bool.and_self, List.nil_append, List.append_nil, List.length_cons, List.length_nil, Nat.zero_add, List.drop_zero, Nat.reduceAdd, not_true_eq_false, st0, Nat.le_refl, pur_int, pur_lits, cells_agg, pur_agg, ↓ev_tmp, ↓ev_int, ↓ev_nils, ↓ev_func, ↓iop_move, ↓iop_assign, ↓iop_alloc, ↓iop_box, ↓iop_load, ↓iop_binOp, ↓iop_callv, nrmAll_cons, nrmAll_nil, nrm_agg, nrmL_cons, nrmL_nil, nrm1_int, nrm1_lits, pickP_t, loadP_vptr, b_neq, env0_eq, valT_eq, pursL_cons, pursL_nil, Store.new, ↓reduceIte, callP_eq, boxP_eq, List.take_succ_cons, List.take_nil, ↓evs_cons, ↓evs_nil, beq_self_eq_true, see_eq, and_false, Bool.true_eq_false, e_rcheck, s_rcheck, e_rright, e_put, nth_lnks, pur_lnks, nth_snds, pur_snds, nth_lss, pur_lss, lkC_len, lkC_0, lkC_1, lkC_cap, lkC_pri, lkC_take, pur_lkC, Nat.mul_one, Try.f20, ty24, ty42, h]
    refine loop_cnt [5, 7, 17, 18, 19, 20, 21, 22, 23, 24, 25, 26, 27, 28, 29, 30, 31, 32] L.length (fun k ρ st' => ρ 7 = I k ∧ rsT hn ls L k = 0 ∧ st'.obj 0 = some (.arr 0 2 [.agg [.nils, I 0]])) (.refl _) ?_ ?_
    · simp +contextual (maxSteps := 4000000) only [↓upd_same, and_true, updO_same, Int.cast_ofNat_Int, nth_lnks, pur_lnks, nth_snds, pur_snds, nth_lss, pur_lss, lkC_len, lkC_0, lkC_1, lkC_cap, lkC_pri, lkC_take, pur_lkC, Nat.mul_one, Try.f20, rsT]
    · rintro k ρ ⟨ob, M⟩ hk ⟨h7, hzk, h0⟩
      dsimp only at h0
      by_cases hlt : k < L.length
      · have hw1 : IntKind.i64.wrap ((k : Int) + 1) = ((k + 1 : Nat) : Int) := by rw [wrap64 (by omega) (by omega)]; omega
        have hs : rsT hn ls L (k + 1) = rightM hn ls (L.getD k []) := by simp [rsT, hzk]
        generalize hx : L.getD k [] = x at *
        by_cases hb : rightM hn ls x = 0
        · rw [hb] at hs
          simp +contextual (maxSteps := 4000000) only [↓ur_skip, ↓ur_seq, ↓ur_block, ↓ur_region, ↓ur_cond, ↓cont_seq, ↓cont_blk, ↓cont_lp, ↓ops_consN, nY_move, nY_assign, nY_load, nY_binOp, nY_indexAddr, nY_callf, nY_callb, ↓ops_nil, opsIf_some, condC_true, condC_false, Option.map_some, Option.bind_some, Option.getD_some, Nat.reduceLT, Bool.false_eq_true, ↓upd_same, ↓upd_ne, Nat.reduceBEq, and_true, List.getD_cons_zero, List.getD_cons_succ, List.getElem?_cons_zero, cfg_P, cfg_tab, cfg_muts, cfg_frz, List.length_map, ↓havoc_in, ↓havoc_out, agree_upd, agree_havoc, List.contains_cons, List.contains_nil, Bool.or_false, Bool.or_true, Int.natCast_nonneg, Int.ofNat_lt, Int.toNat_natCast, decide_true, decide_false, List.lookup_cons, List.lookup_nil, tabOf_cons, tab_v, Bool.and_self, Nat.reduceEqDiff, List.nil_append, List.append_nil, List.length_cons, List.length_nil, Nat.zero_add, List.drop_zero, Nat.reduceAdd, Nat.lt_succ_self, not_true_eq_false, Nat.le_refl, pur_int, cells_lits, pur_lits, pur_agg, ↓ev_tmp, ↓ev_int, ↓ev_func, ↓iop_move, ↓iop_assign, ↓iop_load, ↓iop_binOp, ↓iop_indexAddr, idxA_int, ↓iop_callv, ↓iop_callb, nrmAll_cons, nrmAll_nil, bi_len, lenM_none, nrm_agg, nrmL_cons, nrmL_nil, nrm_lits, nrm1_int, nrm1_lits, pickP_f, pickP_t, loadP_vptr, indexP_lits, lenP_lits, b_add, b_neq, b_lss, env0_eq, valT_eq, pursL_cons, pursL_nil, ↓reduceIte, callP_eq, List.take_succ_cons, List.take_nil, ↓evs_cons, ↓evs_nil, beq_self_eq_true, see_eq, and_false, Bool.true_eq_false, s_rright, nth_lnks, pur_lnks, nth_snds, pur_snds, nth_lss, pur_lss, lkC_len, lkC_0, lkC_1, lkC_cap, lkC_pri, lkC_take, pur_lkC, Nat.mul_one, Try.f20, ty24, ty25, ty29, h0, h7, hlt, hx, hb, hs, hw1]
        · have hend := rsT_end (m := L.length) (by rw [hs]; exact hb) (show k + 1 ≤ L.length by omega)
          rw [hr, hs] at hend
          rw [← hend] at hb
          simp +contextual (maxSteps := 4000000) only [↓ur_skip, ↓ur_seq, ↓ur_block, ↓ur_ret, ↓ur_region, ↓ur_cond, ↓cont_seq, ↓done_nil, ↓done_seq, ↓done_blk, ↓done_lp, ↓ops_consN, nY_move, nY_assign, nY_build, nY_load, nY_store, nY_binOp, nY_indexAddr, nY_callf, nY_callb, ↓ops_nil, opsIf_some, opsIf_none, condC_true, Option.map_some, Option.bind_some, Option.getD_some, Nat.reduceLT, Bool.false_eq_true, ↓upd_same, ↓upd_ne, Nat.reduceBEq, and_true, List.getD_cons_zero, List.getD_cons_succ, List.getElem?_cons_zero, endQ, cfg_P, cfg_tab, cfg_muts, cfg_frz, List.map_nil, List.length_map, ↓havoc_in, ↓havoc_out, List.contains_cons, List.contains_nil, Bool.or_false, Bool.or_true, Int.natCast_nonneg, Int.ofNat_lt, Int.toNat_natCast, decide_true, Option.some.injEq, exists_eq_left', List.lookup_cons, List.lookup_nil, tabOf_cons, tab_v, Bool.and_self, Nat.reduceEqDiff, List.cons_append, List.nil_append, List.append_nil, updO_same, List.length_cons, List.length_nil, Nat.zero_add, List.drop_zero, List.take_zero, Nat.reduceAdd, List.set_cons_zero, nth_zero, Nat.lt_succ_self, not_false_eq_true, Nat.le_refl, cells_int, pur_int, isCell_int, cells_lits, pur_lits, isCell_lits, cells_agg, pur_agg, DRx_int, DRx_nils_lits, DRx_agg, DRxL_cons, DRxL_nil, ↓ev_tmp, ↓ev_int, ↓ev_func, ↓iop_move, ↓iop_assign, ↓iop_build, ↓iop_load, ↓iop_store, ↓iop_binOp, ↓iop_indexAddr, idxA_int, ↓iop_callv, ↓iop_callb, nrmAll_cons, nrmAll_nil, bi_len, lenM_none, nrm_agg, nrmL_cons, nrmL_nil, nrm_lits, nrm1_int, nrm1_lits, pickP_f, pickP_t, loadP_vptr, loadP_ptr, setCells_agg, storeP_ptr, indexP_lits, lenP_lits, b_neq, b_lss, fill_nil, fill_cons, fill1_some, buildP_eq, bldA_none, splice_eq, env0_eq, ires_eq, iresL_1, iresAll_nil, iresAll_cons, iresOne_cell, valT_eq, pursL_cons, pursL_nil, Store.set, ↓reduceIte, arr_eq, arrB_some, callP_eq, List.take_succ_cons, List.drop_succ_cons, List.drop_nil, List.take_nil, ↓evs_cons, ↓evs_nil, ↓evp_cons, ↓evp_nil, beq_self_eq_true, List.all_cons, List.all_nil, see_eq, and_false, Bool.true_eq_false, s_rright, nth_lnks, pur_lnks, nth_snds, pur_snds, nth_lss, pur_lss, lkC_len, lkC_0, lkC_1, lkC_cap, lkC_pri, lkC_take, pur_lkC, Nat.mul_one, Try.f20, ty24, ty25, ty29, ty42, h0, h7, hlt, hx, hb, ← hend]
      · exact absurd (by rw [← hr, show L.length = k by omega]; exact hzk) hz
  have hall := rsT_zero.1 hz
  have hbn := outT_bnd hall
  simp +contextual (maxSteps := 4000000) only [↓ur_skip, ↓ur_seq, ↓ur_block, ↓ur_region, ↓ur_cond, ↓cont_seq, ↓ops_consN, nY_move, nY_assign, nY_alloc, nY_box, nY_load, nY_binOp, nY_callf, ↓ops_nil, opsIf_some, condC_false, Option.map_some, Option.bind_some, Option.getD_some, Nat.reduceLT, Bool.false_eq_true, ↓upd_same, ↓upd_ne, Nat.reduceBEq, true_and, and_true, List.getD_cons_zero, cfg_P, cfg_tab, cfg_muts, cfg_frz, cfg_num, numOf_eq, List.contains_cons, List.contains_nil, Bool.or_false, decide_false, List.lookup_cons, List.lookup_nil, tabOf_cons, tab_v, Bool.and_self, List.nil_append, List.append_nil, List.length_cons, List.length_nil, Nat.zero_add, List.drop_zero, Nat.reduceAdd, not_true_eq_false, st0, Nat.le_refl, pur_int, pur_lits, cells_agg, pur_agg, ↓ev_tmp, ↓ev_int, ↓ev_nils, ↓ev_func, ↓iop_move, ↓iop_assign, ↓iop_alloc, ↓iop_box, ↓iop_load, ↓iop_binOp, ↓iop_callv, nrmAll_cons, nrmAll_nil, nrm_agg, nrmL_cons, nrmL_nil, nrm1_int, nrm1_lits, pickP_t, loadP_vptr, b_neq, env0_eq, valT_eq, pursL_cons, pursL_nil, Store.new, ↓reduceIte, callP_eq, boxP_eq, List.take_succ_cons, List.take_nil, ↓evs_cons, ↓evs_nil, beq_self_eq_true, see_eq, and_false, Bool.true_eq_false, e_rcheck, s_rcheck, e_rright, e_put, nth_lnks, pur_lnks, nth_snds, pur_snds, nth_lss, pur_lss, lkC_len, lkC_0, lkC_1, lkC_cap, lkC_pri, lkC_take, pur_lkC, Nat.mul_one, Try.f20, ty24, ty42, h]
  refine loop_cnt [5, 7, 17, 18, 19, 20, 21, 22, 23, 24, 25, 26, 27, 28, 29, 30, 31, 32] L.length (fun k ρ st' => ρ 7 = I k ∧ st'.obj 0 = some (.arr 0 2 [.agg [.nils, I 0]])) (.refl _) ?_ ?_
  · simp +contextual (maxSteps := 4000000) only [↓upd_same, and_true, updO_same, Int.cast_ofNat_Int, nth_lnks, pur_lnks, nth_snds, pur_snds, nth_lss, pur_lss, lkC_len, lkC_0, lkC_1, lkC_cap, lkC_pri, lkC_take, pur_lkC, Nat.mul_one, Try.f20]
  · rintro k ρ ⟨ob, M⟩ hk ⟨h7, h0⟩
    dsimp only at h0
    by_cases hlt : k < L.length
    · have hw1 : IntKind.i64.wrap ((k : Int) + 1) = ((k + 1 : Nat) : Int) := by rw [wrap64 (by omega) (by omega)]; omega
      have hb := right_zero.2 (hall k hlt)
      generalize hx : L.getD k [] = x at *
      simp +contextual (maxSteps := 4000000) only [↓ur_skip, ↓ur_seq, ↓ur_block, ↓ur_region, ↓ur_cond, ↓cont_seq, ↓cont_blk, ↓cont_lp, ↓ops_consN, nY_move, nY_assign, nY_load, nY_binOp, nY_indexAddr, nY_callf, nY_callb, ↓ops_nil, opsIf_some, condC_true, condC_false, Option.map_some, Option.bind_some, Option.getD_some, Nat.reduceLT, Bool.false_eq_true, ↓upd_same, ↓upd_ne, Nat.reduceBEq, and_true, List.getD_cons_zero, List.getD_cons_succ, List.getElem?_cons_zero, cfg_P, cfg_tab, cfg_muts, cfg_frz, List.length_map, ↓havoc_in, ↓havoc_out, agree_upd, agree_havoc, List.contains_cons, List.contains_nil, Bool.or_false, Bool.or_true, Int.natCast_nonneg, Int.ofNat_lt, Int.toNat_natCast, decide_true, decide_false, List.lookup_cons, List.lookup_nil, tabOf_cons, tab_v, Bool.and_self, Nat.reduceEqDiff, List.nil_append, List.append_nil, List.length_cons, List.length_nil, Nat.zero_add, List.drop_zero, Nat.reduceAdd, Nat.lt_succ_self, not_true_eq_false, Nat.le_refl, pur_int, cells_lits, pur_lits, pur_agg, ↓ev_tmp, ↓ev_int, ↓ev_func, ↓iop_move, ↓iop_assign, ↓iop_load, ↓iop_binOp, ↓iop_indexAddr, idxA_int, ↓iop_callv, ↓iop_callb, nrmAll_cons, nrmAll_nil, bi_len, lenM_none, nrm_agg, nrmL_cons, nrmL_nil, nrm_lits, nrm1_int, nrm1_lits, pickP_f, pickP_t, loadP_vptr, indexP_lits, lenP_lits, b_add, b_neq, b_lss, env0_eq, valT_eq, pursL_cons, pursL_nil, ↓reduceIte, callP_eq, List.take_succ_cons, List.take_nil, ↓evs_cons, ↓evs_nil, beq_self_eq_true, see_eq, and_false, Bool.true_eq_false, s_rright, nth_lnks, pur_lnks, nth_snds, pur_snds, nth_lss, pur_lss, lkC_len, lkC_0, lkC_1, lkC_cap, lkC_pri, lkC_take, pur_lkC, Nat.mul_one, Try.f20, ty24, ty25, ty29, h0, h7, hlt, hx, hb, hw1]
    · have e : k = L.length := by omega
      subst e
      simp +contextual (maxSteps := 4000000) only [↓ur_seq, ↓ur_block, ↓ur_exit, ↓ur_region, ↓ur_cond, ↓cont_seq, ↓leave_seq, ↓leave_blk, ↓leave_lp, ↓ops_consN, nY_move, nY_assign, nY_binOp, nY_callb, ↓ops_nil, opsIf_some, condC_false, Option.map_some, Option.getD_some, Nat.reduceLT, ↓upd_same, ↓upd_ne, Nat.reduceBEq, true_and, List.getD_cons_zero, List.getD_cons_succ, cfg_P, List.length_map, ↓havoc_in, ↓havoc_out, List.contains_cons, List.contains_nil, Bool.or_false, Bool.or_true, Int.ofNat_lt, decide_false, Nat.lt_irrefl, Nat.lt_succ_self, ↓ev_tmp, ↓ev_int, ↓iop_move, ↓iop_assign, ↓iop_binOp, ↓iop_callb, bi_len, lenM_none, lenP_lits, b_lss, env0_eq, ↓reduceIte, ↓evs_cons, ↓evs_nil, beq_self_eq_true, nth_lnks, pur_lnks, nth_snds, pur_snds, nth_lss, pur_lss, lkC_len, lkC_0, lkC_1, lkC_cap, lkC_pri, lkC_take, pur_lkC, Nat.mul_one, Try.f20, ty25, h0, h7]
      refine loop_cnt [6, 8, 9, 33, 34, 35, 36, 37, 38, 39, 40, 41, 42, 43, 44, 45, 46, 47, 48, 49, 50, 51, 52, 53, 54, 55, 56] L.length (fun k ρ st' => ρ 8 = I k ∧ (ρ 6 = .nils ∧ outT L k = [] ∨ ρ 6 = snds (outT L k)) ∧ st'.obj 0 = some (.arr 0 2 [.agg [.nils, I 0]])) (.refl _) ?_ ?_
      · simp +contextual (maxSteps := 4000000) only [↓upd_same, ↓upd_ne, Nat.reduceBEq, and_true, ↓havoc_out, List.contains_cons, List.contains_nil, Bool.or_false, reduceCtorEq, or_false, Int.cast_ofNat_Int, nth_lnks, pur_lnks, nth_snds, pur_snds, nth_lss, pur_lss, lkC_len, lkC_0, lkC_1, lkC_cap, lkC_pri, lkC_take, pur_lkC, Nat.mul_one, Try.f20, outT, h0]
      · rintro k ρ2 ⟨ob2, M2⟩ hk2 ⟨h8, h6, h02⟩
        dsimp only at h02
        by_cases hlt2 : k < L.length
        · have hw1 : IntKind.i64.wrap ((k : Int) + 1) = ((k + 1 : Nat) : Int) := by rw [wrap64 (by omega) (by omega)]; omega
          have hok := hall k hlt2
          have hbk := outT_bnd (L := L) (k := k) fun i hi => hall i (by omega)
          have hol := hok.len
          have hst : outT L (k + 1) = (L.getD k []).foldl putM (outT L k) := rfl
          generalize hx : L.getD k [] = x at *
          generalize outT L k = acc at *
          simp +contextual (maxSteps := 4000000) only [↓ur_skip, ↓ur_seq, ↓ur_block, ↓ur_region, ↓ur_cond, ↓cont_seq, ↓ops_consN, nY_move, nY_assign, nY_binOp, nY_callb, ↓ops_nil, opsIf_some, condC_true, Option.map_some, Option.getD_some, Nat.reduceLT, ↓upd_same, ↓upd_ne, Nat.reduceBEq, true_and, List.getD_cons_zero, List.getD_cons_succ, cfg_P, List.length_map, ↓havoc_in, ↓havoc_out, List.contains_cons, List.contains_nil, Bool.or_false, Bool.or_true, Int.ofNat_lt, decide_true, Nat.lt_succ_self, ↓ev_tmp, ↓ev_int, ↓iop_move, ↓iop_assign, ↓iop_binOp, ↓iop_callb, bi_len, lenM_none, lenP_lits, b_lss, env0_eq, ↓reduceIte, ↓evs_cons, ↓evs_nil, beq_self_eq_true, nth_lnks, pur_lnks, nth_snds, pur_snds, nth_lss, pur_lss, lkC_len, lkC_0, lkC_1, lkC_cap, lkC_pri, lkC_take, pur_lkC, Nat.mul_one, Try.f20, ty25, h02, h8, hlt2, hx]
          refine loop_cnt [6, 9, 39, 40, 41, 42, 43, 44, 45, 46, 47, 48, 49, 50, 51, 52, 53, 54, 55, 56] x.length (fun i ρ st' => ρ 9 = I i ∧ (ρ 6 = .nils ∧ (x.take i).foldl putM acc = [] ∨ ρ 6 = snds ((x.take i).foldl putM acc)) ∧ st'.obj 0 = some (.arr 0 2 [.agg [.nils, I 0]])) (.refl _) ?_ ?_
          · simp +contextual (maxSteps := 4000000) only [↓upd_same, ↓upd_ne, Nat.reduceBEq, true_and, and_true, ↓havoc_in, List.contains_cons, List.contains_nil, Bool.or_false, List.take_zero, beq_self_eq_true, Int.cast_ofNat_Int, nth_lnks, pur_lnks, nth_snds, pur_snds, nth_lss, pur_lss, lkC_len, lkC_0, lkC_1, lkC_cap, lkC_pri, lkC_take, pur_lkC, Nat.mul_one, Try.f20, h02]
            rcases h6 with ⟨h6, he⟩ | h6
            · exact .inl ⟨h6, he⟩
            · exact .inr h6
          · rintro i ρ3 ⟨ob3, M3⟩ hi ⟨h9, h63, h03⟩
            dsimp only at h03
            by_cases hilt : i < x.length
            · have hw2 : IntKind.i64.wrap ((i : Int) + 1) = ((i + 1 : Nat) : Int) := by rw [wrap64 (by omega) (by omega)]; omega
              have hacc := foldl_bnd (take_bytes hok i) hbk
              have hpre := put_pre hacc (by simp at *; omega) (hok.bytes' _ (getD_mem dS hilt))
              have hsx : (x.take (i + 1)).foldl putM acc = putM ((x.take i).foldl putM acc) (x.getD i dS) := congrFun (take_succ_S hilt) acc
              rw [hsx]
              generalize (x.take i).foldl putM acc = o at *
              generalize hxi : x.getD i dS = xi at *
              rcases h63 with ⟨h63, he⟩ | h63
              · rw [he] at hpre ⊢
                have hsp : specOf A_put R_put H_put [.lits 3 [], sndV xi] = some (snds (putM [] xi)) := (s_put [] xi).trans (if_pos hpre)
                simp +contextual (maxSteps := 4000000) only [↓ur_skip, ↓ur_seq, ↓ur_block, ↓ur_region, ↓ur_cond, ↓cont_seq, ↓cont_blk, ↓cont_lp, ↓ops_consN, nY_move, nY_assign, nY_load, nY_binOp, nY_indexAddr, nY_callf, nY_callb, ↓ops_nil, opsIf_some, condC_true, Option.map_some, Option.bind_some, Option.getD_some, Nat.reduceLT, Bool.false_eq_true, ↓upd_same, ↓upd_ne, Nat.reduceBEq, and_true, List.getD_cons_zero, List.getD_cons_succ, List.getElem?_cons_zero, cfg_P, cfg_tab, cfg_muts, cfg_frz, List.length_map, ↓havoc_in, ↓havoc_out, agree_upd, agree_havoc, List.contains_cons, List.contains_nil, Bool.or_false, Bool.or_true, Int.natCast_nonneg, Int.ofNat_lt, Int.toNat_natCast, decide_true, List.lookup_cons, List.lookup_nil, tabOf_cons, tab_v, Bool.and_self, Nat.reduceEqDiff, List.nil_append, List.append_nil, List.length_cons, List.length_nil, Nat.zero_add, List.drop_zero, Nat.reduceAdd, Nat.lt_succ_self, reduceCtorEq, or_true, Nat.le_refl, pur_int, cells_lits, pur_lits, cells_agg, pur_agg, ↓ev_tmp, ↓ev_int, ↓ev_func, ↓iop_move, ↓iop_assign, ↓iop_load, ↓iop_binOp, ↓iop_indexAddr, idxA_int, ↓iop_callv, ↓iop_callb, nrmAll_cons, nrmAll_nil, bi_len, lenM_none, nrm_agg, nrmL_cons, nrmL_nil, nrm_nils, nrm1_some, nrm1_int, pickP_f, pickP_t, loadP_vptr, indexP_lits, lenP_lits, b_add, b_lss, env0_eq, valT_eq, pursL_cons, pursL_nil, ↓reduceIte, callP_eq, List.take_succ_cons, List.take_nil, ↓evs_cons, ↓evs_nil, beq_self_eq_true, see_eq, false_and, and_false, Bool.true_eq_false, nth_lnks, pur_lnks, nth_snds, pur_snds, nth_lss, pur_lss, lkC_len, lkC_0, lkC_1, lkC_cap, lkC_pri, lkC_take, pur_lkC, Nat.mul_one, Try.f20, ty25, ty29, ty52, h03, h8, h9, h63, hlt2, hx, hilt, hxi, hw2, hsp]
              · simp +contextual (maxSteps := 4000000) only [↓ur_skip, ↓ur_seq, ↓ur_block, ↓ur_region, ↓ur_cond, ↓cont_seq, ↓cont_blk, ↓cont_lp, ↓ops_consN, nY_move, nY_assign, nY_load, nY_binOp, nY_indexAddr, nY_callf, nY_callb, ↓ops_nil, opsIf_some, condC_true, Option.map_some, Option.bind_some, Option.getD_some, Nat.reduceLT, Bool.false_eq_true, ↓upd_same, ↓upd_ne, Nat.reduceBEq, and_true, List.getD_cons_zero, List.getD_cons_succ, List.getElem?_cons_zero, forall_const, cfg_P, cfg_tab, cfg_muts, cfg_frz, List.length_map, ↓havoc_in, ↓havoc_out, agree_upd, agree_havoc, List.contains_cons, List.contains_nil, Bool.or_false, Bool.or_true, Int.natCast_nonneg, Int.ofNat_lt, Int.toNat_natCast, decide_true, List.lookup_nil, tabOf_cons, tab_v, Bool.and_self, Nat.reduceEqDiff, List.nil_append, List.append_nil, List.length_cons, List.length_nil, Nat.zero_add, List.drop_zero, Nat.reduceAdd, Nat.lt_succ_self, reduceCtorEq, or_true, Nat.le_refl, pur_int, cells_lits, pur_lits, cells_agg, pur_agg, ↓ev_tmp, ↓ev_int, ↓ev_func, ↓iop_move, ↓iop_assign, ↓iop_load, ↓iop_binOp, ↓iop_indexAddr, idxA_int, ↓iop_callv, ↓iop_callb, nrmAll_cons, nrmAll_nil, bi_len, lenM_none, nrm_agg, nrmL_cons, nrmL_nil, nrm_lits, nrm1_int, pickP_f, pickP_t, loadP_vptr, indexP_lits, lenP_lits, b_add, b_lss, env0_eq, valT_eq, pursL_cons, pursL_nil, ↓reduceIte, callP_eq, List.take_succ_cons, List.take_nil, ↓evs_cons, ↓evs_nil, implies_true, beq_self_eq_true, see_eq, false_and, and_false, Bool.true_eq_false, s_put, nth_lnks, pur_lnks, nth_snds, pur_snds, nth_lss, pur_lss, lkC_len, lkC_0, lkC_1, lkC_cap, lkC_pri, lkC_take, pur_lkC, Nat.mul_one, Try.f20, ty25, ty29, ty52, h03, h8, h9, h63, hlt2, hx, hilt, hxi, hw2, hpre]
            · have e : i = x.length := by omega
              subst e
              rw [List.take_length, ← hst] at h63
              simp +contextual (maxSteps := 4000000) only [↓ur_seq, ↓ur_exit, ↓ur_region, ↓ur_cond, ↓cont_seq, ↓cont_blk, ↓cont_lp, ↓leave_seq, ↓leave_blk, ↓leave_lp, ↓ops_consN, nY_move, nY_assign, nY_load, nY_binOp, nY_indexAddr, nY_callb, ↓ops_nil, opsIf_some, condC_false, Option.map_some, Option.bind_some, Option.getD_some, Nat.reduceLT, Bool.false_eq_true, ↓upd_same, ↓upd_ne, Nat.reduceBEq, true_and, and_true, List.getD_cons_zero, List.getD_cons_succ, List.getElem?_cons_zero, cfg_P, cfg_frz, List.length_map, ↓havoc_in, ↓havoc_out, agree_upd, List.contains_cons, List.contains_nil, Bool.or_false, Bool.or_true, Int.natCast_nonneg, Int.ofNat_lt, Int.toNat_natCast, decide_false, Nat.lt_irrefl, Nat.lt_succ_self, cells_lits, ↓ev_tmp, ↓ev_int, ↓iop_move, ↓iop_assign, ↓iop_load, ↓iop_binOp, ↓iop_indexAddr, idxA_int, ↓iop_callb, bi_len, lenM_none, pickP_f, loadP_vptr, indexP_lits, lenP_lits, b_add, b_lss, env0_eq, ↓reduceIte, ↓evs_cons, ↓evs_nil, beq_self_eq_true, see_eq, nth_lnks, pur_lnks, nth_snds, pur_snds, nth_lss, pur_lss, lkC_len, lkC_0, lkC_1, lkC_cap, lkC_pri, lkC_take, pur_lkC, Nat.mul_one, Try.f20, ty25, ty29, h03, h8, h9, hlt2, hx, hw1]
              refine ⟨?_, h63⟩
              rw [agree_havoc_sub (by decide +kernel)]
              simp +contextual (maxSteps := 4000000) only [Nat.reduceBEq, agree_upd, agree_havoc, List.contains_cons, List.contains_nil, Bool.or_false, Bool.or_true, beq_self_eq_true, nth_lnks, pur_lnks, nth_snds, pur_snds, nth_lss, pur_lss, lkC_len, lkC_0, lkC_1, lkC_cap, lkC_pri, lkC_take, pur_lkC, Nat.mul_one, Try.f20]
        · have e : k = L.length := by omega
          subst e
          have hlen := hbn.1
          have hj : ∀ e l, joinE hn ls L = e → (if e = 0 then outM L else []) = l → snds (joinM hn ls L) = snds l ∧ I (joinE hn ls L) = I e := fun e l h1 h2 => by rw [h1, ← h2, joinM, h1]; exact ⟨rfl, rfl⟩
          have hjE : joinE hn ls L = if 2000 < (outM L).length then 2 else if bigT (outM L) (outM L).length = true then 3 else 0 := by simp [joinE, h, hz]
          rw [show outT L L.length = outM L from rfl] at h6 hlen
          generalize outM L = o at *
          by_cases ho : 2000 < o.length
          · rw [if_pos ho] at hjE
            obtain ⟨j1, j2⟩ := hj 2 [] hjE (by simp)
            have hoi : (2000 : Int) < (o.length : Int) := by omega
            rcases h6 with ⟨h6, he⟩ | h6
            · rw [he] at ho; exact absurd ho (by simp)
            · simp +contextual (maxSteps := 4000000) only [↓ur_seq, ↓ur_exit, ↓ur_ret, ↓ur_region, ↓ur_cond, ↓cont_seq, ↓leave_seq, ↓leave_blk, ↓leave_lp, ↓done_nil, ↓done_seq, ↓ops_consN, nY_move, nY_build, nY_store, nY_binOp, nY_callb, ↓ops_nil, opsIf_some, opsIf_none, condC_true, condC_false, Option.map_some, Option.bind_some, Option.getD_some, Nat.reduceLT, ↓upd_same, ↓upd_ne, Nat.reduceBEq, and_true, List.getD_cons_zero, List.getD_cons_succ, endQ, cfg_P, List.map_nil, List.length_map, ↓havoc_in, ↓havoc_out, List.contains_cons, List.contains_nil, Bool.or_false, Bool.or_true, Int.ofNat_lt, decide_true, decide_false, Option.some.injEq, exists_eq_left', Bool.and_self, List.cons_append, List.nil_append, List.append_nil, updO_same, List.length_cons, List.length_nil, Nat.zero_add, List.drop_zero, List.take_zero, Nat.reduceAdd, List.set_cons_zero, nth_zero, Nat.lt_irrefl, Nat.lt_succ_self, Nat.le_refl, cells_int, isCell_int, isCell_lits, cells_agg, DRx_int, DRx_nils_lits, DRx_agg, DRxL_cons, DRxL_nil, ↓ev_tmp, ↓ev_int, ↓iop_move, ↓iop_build, ↓iop_store, ↓iop_binOp, ↓iop_callb, bi_len, lenM_none, pickP_t, loadP_ptr, setCells_agg, storeP_ptr, lenP_lits, b_lss, b_gtr, fill_nil, fill_cons, fill1_some, buildP_eq, bldA_none, splice_eq, env0_eq, ires_eq, iresL_1, iresAll_nil, iresAll_cons, iresOne_cell, Store.set, ↓reduceIte, arr_eq, arrB_some, List.take_succ_cons, List.drop_succ_cons, List.drop_nil, List.take_nil, ↓evs_cons, ↓evs_nil, ↓evp_cons, ↓evp_nil, beq_self_eq_true, List.all_cons, List.all_nil, nth_lnks, pur_lnks, nth_snds, pur_snds, nth_lss, pur_lss, lkC_len, lkC_0, lkC_1, lkC_cap, lkC_pri, lkC_take, pur_lkC, Nat.mul_one, Try.f20, ty25, ty29, ty42, h02, h8, h6, j1, j2, hoi]
          rw [if_neg ho] at hjE
          have hoi : ¬ (2000 : Int) < (o.length : Int) := by omega
          by_cases hb : bigT o o.length = true
          · rw [if_pos hb] at hjE
            obtain ⟨j1, j2⟩ := hj 3 [] hjE (by simp)
            have ho0 : o ≠ [] := fun e => by rw [e] at hb; cases hb
            have h6 := h6.resolve_left fun h => ho0 h.2
            simp +contextual (maxSteps := 4000000) only [↓ur_skip, ↓ur_seq, ↓ur_block, ↓ur_exit, ↓ur_region, ↓ur_cond, ↓cont_seq, ↓leave_seq, ↓leave_blk, ↓leave_lp, ↓ops_consN, nY_move, nY_assign, nY_binOp, nY_callb, ↓ops_nil, opsIf_some, condC_false, Option.map_some, Option.getD_some, Nat.reduceLT, ↓upd_same, ↓upd_ne, Nat.reduceBEq, true_and, List.getD_cons_zero, List.getD_cons_succ, cfg_P, List.length_map, ↓havoc_in, ↓havoc_out, List.contains_cons, List.contains_nil, Bool.or_false, Bool.or_true, Int.ofNat_lt, decide_false, Nat.lt_irrefl, Nat.lt_succ_self, ↓ev_tmp, ↓ev_int, ↓iop_move, ↓iop_assign, ↓iop_binOp, ↓iop_callb, bi_len, lenM_none, lenP_lits, b_lss, b_gtr, env0_eq, ↓reduceIte, ↓evs_cons, ↓evs_nil, beq_self_eq_true, nth_lnks, pur_lnks, nth_snds, pur_snds, nth_lss, pur_lss, lkC_len, lkC_0, lkC_1, lkC_cap, lkC_pri, lkC_take, pur_lkC, Nat.mul_one, Try.f20, ty25, ty29, h02, h8, h6, j1, j2, hoi]
            refine loop_cnt [10, 61, 62, 63, 64, 65, 66, 67, 68, 69, 70, 71, 72, 73] o.length (fun k ρ st' => ρ 10 = I k ∧ bigT o k = false ∧ st'.obj 0 = some (.arr 0 2 [.agg [.nils, I 0]])) (.refl _) ?_ ?_
            · simp +contextual (maxSteps := 4000000) only [↓upd_same, and_true, Int.cast_ofNat_Int, nth_lnks, pur_lnks, nth_snds, pur_snds, nth_lss, pur_lss, lkC_len, lkC_0, lkC_1, lkC_cap, lkC_pri, lkC_take, pur_lkC, Nat.mul_one, Try.f20, h02, bigT]
            · rintro i ρ3 ⟨ob3, M3⟩ hi ⟨h10, hbi, h03⟩
              dsimp only at h03
              by_cases hilt : i < o.length
              · have hw2 : IntKind.i64.wrap ((i : Int) + 1) = ((i + 1 : Nat) : Int) := by rw [wrap64 (by omega) (by omega)]; omega
                have hs1 : bigT o (i + 1) = decide (1073741824 < (o.getD i dS).2.2) := by simp only [bigT, hbi, Bool.false_or]
                generalize hxi : o.getD i dS = xi at *
                by_cases hg : 1073741824 < xi.2.2
                · simp +contextual (maxSteps := 4000000) only [↓ur_skip, ↓ur_seq, ↓ur_block, ↓ur_ret, ↓ur_region, ↓ur_cond, ↓cont_seq, ↓done_nil, ↓done_seq, ↓done_blk, ↓done_lp, ↓ops_consN, nY_move, nY_build, nY_load, nY_store, nY_binOp, nY_fieldAddr, nY_indexAddr, nY_callb, ↓ops_nil, opsIf_some, opsIf_none, condC_true, Option.map_some, Option.bind_some, Option.getD_some, Nat.reduceLT, Bool.false_eq_true, ↓upd_same, ↓upd_ne, Nat.reduceBEq, and_true, List.getElem?_cons_zero, List.getElem?_cons_succ, endQ, cfg_P, cfg_frz, List.map_nil, List.length_map, ↓havoc_in, ↓havoc_out, List.contains_cons, List.contains_nil, Bool.or_false, Int.natCast_nonneg, Int.ofNat_lt, Int.toNat_natCast, decide_true, Option.some.injEq, exists_eq_left', Bool.and_self, List.cons_append, List.nil_append, List.append_nil, updO_same, List.length_cons, List.length_nil, Nat.zero_add, List.drop_zero, List.take_zero, Nat.reduceAdd, List.set_cons_zero, nth_zero, Nat.lt_succ_self, Nat.le_refl, cells_int, isCell_int, isCell_lits, cells_agg, DRx_int, DRx_nils_lits, DRx_agg, DRxL_cons, DRxL_nil, ↓ev_tmp, ↓ev_int, ↓iop_move, ↓iop_build, ↓iop_load, ↓iop_store, ↓iop_binOp, ↓iop_fieldAddr, ↓iop_indexAddr, idxA_int, ↓iop_callb, bi_len, lenM_none, pickP_f, pickP_t, loadP_vptr, loadP_ptr, setCells_agg, storeP_ptr, fieldP_vptr, indexP_lits, lenP_lits, b_lss, b_gtr, fill_nil, fill_cons, fill1_some, buildP_eq, bldA_none, splice_eq, ires_eq, iresL_1, iresAll_nil, iresAll_cons, iresOne_cell, Store.set, ↓reduceIte, arr_eq, arrB_some, List.take_succ_cons, List.drop_succ_cons, List.drop_nil, List.take_nil, ↓evs_cons, ↓evs_nil, ↓evp_cons, ↓evp_nil, beq_self_eq_true, List.all_cons, List.all_nil, see_eq, nth_lnks, pur_lnks, nth_snds, pur_snds, nth_lss, pur_lss, lkC_len, lkC_0, lkC_1, lkC_cap, lkC_pri, lkC_take, pur_lkC, Nat.mul_one, Try.f20, ty3, ty29, ty42, ty52, h03, h10, h6, hilt, hxi, hg, j1, j2]
                · rw [decide_eq_false hg] at hs1
                  simp +contextual (maxSteps := 4000000) only [↓ur_skip, ↓ur_seq, ↓ur_block, ↓ur_region, ↓ur_cond, ↓cont_seq, ↓cont_blk, ↓cont_lp, ↓ops_consN, nY_move, nY_assign, nY_load, nY_binOp, nY_fieldAddr, nY_indexAddr, nY_callb, ↓ops_nil, opsIf_some, condC_true, condC_false, Option.map_some, Option.bind_some, Option.getD_some, Nat.reduceLT, Bool.false_eq_true, ↓upd_same, ↓upd_ne, Nat.reduceBEq, and_true, List.getElem?_cons_zero, List.getElem?_cons_succ, cfg_P, cfg_frz, List.length_map, ↓havoc_in, ↓havoc_out, agree_upd, agree_havoc, List.contains_cons, List.contains_nil, Bool.or_false, Bool.or_true, Int.natCast_nonneg, Int.ofNat_lt, Int.toNat_natCast, decide_true, decide_false, Nat.zero_add, Nat.lt_succ_self, cells_agg, ↓ev_tmp, ↓ev_int, ↓iop_move, ↓iop_assign, ↓iop_load, ↓iop_binOp, ↓iop_fieldAddr, ↓iop_indexAddr, idxA_int, ↓iop_callb, bi_len, lenM_none, pickP_f, loadP_vptr, fieldP_vptr, indexP_lits, lenP_lits, b_add, b_lss, b_gtr, ↓reduceIte, ↓evs_cons, ↓evs_nil, beq_self_eq_true, see_eq, nth_lnks, pur_lnks, nth_snds, pur_snds, nth_lss, pur_lss, lkC_len, lkC_0, lkC_1, lkC_cap, lkC_pri, lkC_take, pur_lkC, Nat.mul_one, Try.f20, ty3, ty29, ty52, h03, h10, h6, hilt, hxi, hg, hs1, hw2]
              · rw [show i = o.length by omega, hb] at hbi
                cases hbi
          · rw [if_neg hb] at hjE
            obtain ⟨j1, j2⟩ := hj 0 o hjE (by simp)
            have hbf : ∀ i, i < o.length → ¬ 1073741824 < (o.getD i dS).2.2 := fun i hi => by
              have := bigT_false.1 (by simpa using hb : bigT o o.length = false) i hi
              omega
            rcases h6 with ⟨h6, he⟩ | h6
            · subst he
              simp +contextual (maxSteps := 4000000) only [↓ur_skip, ↓ur_seq, ↓ur_block, ↓ur_exit, ↓ur_region, ↓ur_cond, ↓cont_seq, ↓leave_seq, ↓leave_blk, ↓leave_lp, ↓ops_consN, nY_move, nY_assign, nY_binOp, nY_callb, ↓ops_nil, opsIf_some, condC_false, Option.map_some, Option.getD_some, Nat.reduceLT, ↓upd_same, ↓upd_ne, Nat.reduceBEq, true_and, List.getD_cons_zero, List.getD_cons_succ, cfg_P, List.length_map, ↓havoc_in, ↓havoc_out, List.contains_cons, List.contains_nil, Bool.or_false, Bool.or_true, Int.ofNat_lt, decide_false, Nat.lt_irrefl, Nat.lt_succ_self, Int.reduceLT, ↓ev_tmp, ↓ev_int, ↓iop_move, ↓iop_assign, ↓iop_binOp, ↓iop_callb, bi_len, lenM_none, lenP_nils, lenP_lits, b_lss, b_gtr, env0_eq, ↓reduceIte, ↓evs_cons, ↓evs_nil, beq_self_eq_true, nth_lnks, pur_lnks, nth_snds, pur_snds, nth_lss, pur_lss, lkC_len, lkC_0, lkC_1, lkC_cap, lkC_pri, lkC_take, pur_lkC, Nat.mul_one, Try.f20, ty25, ty29, h02, h8, h6, j1, j2]
              refine loop_cnt [10, 61, 62, 63, 64, 65, 66, 67, 68, 69, 70, 71, 72, 73] 0 (fun k ρ st' => ρ 10 = I k ∧ st'.obj 0 = some (.arr 0 2 [.agg [.nils, I 0]])) (.refl _) ?_ ?_
              · simp +contextual (maxSteps := 4000000) only [↓upd_same, and_true, Int.cast_ofNat_Int, nth_lnks, pur_lnks, nth_snds, pur_snds, nth_lss, pur_lss, lkC_len, lkC_0, lkC_1, lkC_cap, lkC_pri, lkC_take, pur_lkC, Nat.mul_one, Try.f20, h02]
              · rintro i ρ3 ⟨ob3, M3⟩ hi ⟨h10, h03⟩
                dsimp only at h03
                have e : i = 0 := by omega
                subst e
                simp +contextual (maxSteps := 4000000) only [↓ur_seq, ↓ur_exit, ↓ur_ret, ↓ur_region, ↓ur_cond, ↓cont_seq, ↓leave_seq, ↓leave_blk, ↓leave_lp, ↓done_nil, ↓ops_consN, nY_move, nY_build, nY_store, nY_binOp, nY_callb, ↓ops_nil, opsIf_some, opsIf_none, condC_false, Option.map_some, Option.bind_some, Option.getD_some, Nat.reduceLT, ↓upd_same, ↓upd_ne, Nat.reduceBEq, and_true, endQ, cfg_P, List.map_nil, ↓havoc_in, ↓havoc_out, List.contains_cons, List.contains_nil, Bool.or_false, decide_false, Option.some.injEq, exists_eq_left', Bool.and_self, List.cons_append, List.nil_append, List.append_nil, updO_same, List.length_cons, List.length_nil, Nat.zero_add, List.drop_zero, List.take_zero, Nat.reduceAdd, List.set_cons_zero, Nat.reduceLeDiff, nth_zero, Nat.lt_succ_self, Int.reduceLT, Nat.le_refl, isCell_int, cells_nils, isCell_lits, cells_agg, DRx_int, DRx_nils_lits, DRx_agg, DRxL_cons, DRxL_nil, ↓ev_tmp, ↓iop_move, ↓iop_build, ↓iop_store, ↓iop_binOp, ↓iop_callb, bi_len, lenM_none, pickP_t, loadP_ptr, setCells_agg, storeP_ptr, lenP_nils, b_lss, fill_nil, fill_cons, fill1_some, buildP_eq, bldA_none, splice_eq, ires_eq, iresL_1, iresAll_nil, iresAll_cons, iresOne_cell, Store.set, ↓reduceIte, arr_eq, arrB_some, List.take_succ_cons, List.drop_succ_cons, List.drop_nil, List.take_nil, ↓evs_cons, ↓evs_nil, ↓evp_cons, ↓evp_nil, beq_self_eq_true, List.all_cons, List.all_nil, Int.cast_ofNat_Int, nth_lnks, pur_lnks, nth_snds, pur_snds, nth_lss, pur_lss, lkC_len, lkC_0, lkC_1, lkC_cap, lkC_pri, lkC_take, pur_lkC, Nat.mul_one, Try.f20, ty29, ty42, h03, h10, h6, j1, j2]
            · simp +contextual (maxSteps := 4000000) only [↓ur_skip, ↓ur_seq, ↓ur_block, ↓ur_exit, ↓ur_region, ↓ur_cond, ↓cont_seq, ↓leave_seq, ↓leave_blk, ↓leave_lp, ↓ops_consN, nY_move, nY_assign, nY_binOp, nY_callb, ↓ops_nil, opsIf_some, condC_false, Option.map_some, Option.getD_some, Nat.reduceLT, ↓upd_same, ↓upd_ne, Nat.reduceBEq, true_and, List.getD_cons_zero, List.getD_cons_succ, cfg_P, List.length_map, ↓havoc_in, ↓havoc_out, List.contains_cons, List.contains_nil, Bool.or_false, Bool.or_true, Int.ofNat_lt, decide_false, Nat.lt_irrefl, Nat.lt_succ_self, ↓ev_tmp, ↓ev_int, ↓iop_move, ↓iop_assign, ↓iop_binOp, ↓iop_callb, bi_len, lenM_none, lenP_lits, b_lss, b_gtr, env0_eq, ↓reduceIte, ↓evs_cons, ↓evs_nil, beq_self_eq_true, nth_lnks, pur_lnks, nth_snds, pur_snds, nth_lss, pur_lss, lkC_len, lkC_0, lkC_1, lkC_cap, lkC_pri, lkC_take, pur_lkC, Nat.mul_one, Try.f20, ty25, ty29, h02, h8, h6, j1, j2, hoi]
              refine loop_cnt [10, 61, 62, 63, 64, 65, 66, 67, 68, 69, 70, 71, 72, 73] o.length (fun k ρ st' => ρ 10 = I k ∧ st'.obj 0 = some (.arr 0 2 [.agg [.nils, I 0]])) (.refl _) ?_ ?_
              · simp +contextual (maxSteps := 4000000) only [↓upd_same, and_true, Int.cast_ofNat_Int, nth_lnks, pur_lnks, nth_snds, pur_snds, nth_lss, pur_lss, lkC_len, lkC_0, lkC_1, lkC_cap, lkC_pri, lkC_take, pur_lkC, Nat.mul_one, Try.f20, h02]
              · rintro i ρ3 ⟨ob3, M3⟩ hi ⟨h10, h03⟩
                dsimp only at h03
                by_cases hilt : i < o.length
                · have hw2 : IntKind.i64.wrap ((i : Int) + 1) = ((i + 1 : Nat) : Int) := by rw [wrap64 (by omega) (by omega)]; omega
                  have hg := hbf i hilt
                  generalize hxi : o.getD i dS = xi at *
                  simp +contextual (maxSteps := 4000000) only [↓ur_skip, ↓ur_seq, ↓ur_block, ↓ur_region, ↓ur_cond, ↓cont_seq, ↓cont_blk, ↓cont_lp, ↓ops_consN, nY_move, nY_assign, nY_load, nY_binOp, nY_fieldAddr, nY_indexAddr, nY_callb, ↓ops_nil, opsIf_some, condC_true, condC_false, Option.map_some, Option.bind_some, Option.getD_some, Nat.reduceLT, Bool.false_eq_true, ↓upd_same, ↓upd_ne, Nat.reduceBEq, and_true, List.getElem?_cons_zero, List.getElem?_cons_succ, cfg_P, cfg_frz, List.length_map, ↓havoc_in, ↓havoc_out, agree_upd, agree_havoc, List.contains_cons, List.contains_nil, Bool.or_false, Bool.or_true, Int.natCast_nonneg, Int.ofNat_lt, Int.toNat_natCast, decide_true, decide_false, Nat.zero_add, Nat.lt_succ_self, cells_agg, ↓ev_tmp, ↓ev_int, ↓iop_move, ↓iop_assign, ↓iop_load, ↓iop_binOp, ↓iop_fieldAddr, ↓iop_indexAddr, idxA_int, ↓iop_callb, bi_len, lenM_none, pickP_f, loadP_vptr, fieldP_vptr, indexP_lits, lenP_lits, b_add, b_lss, b_gtr, ↓reduceIte, ↓evs_cons, ↓evs_nil, beq_self_eq_true, see_eq, nth_lnks, pur_lnks, nth_snds, pur_snds, nth_lss, pur_lss, lkC_len, lkC_0, lkC_1, lkC_cap, lkC_pri, lkC_take, pur_lkC, Nat.mul_one, Try.f20, ty3, ty29, ty52, h03, h10, h6, hilt, hxi, hg, hw2]
                · have e : i = o.length := by omega
                  subst e
                  simp +contextual (maxSteps := 4000000) only [↓ur_seq, ↓ur_exit, ↓ur_ret, ↓ur_region, ↓ur_cond, ↓cont_seq, ↓leave_seq, ↓leave_blk, ↓leave_lp, ↓done_nil, ↓ops_consN, nY_move, nY_build, nY_store, nY_binOp, nY_callb, ↓ops_nil, opsIf_some, opsIf_none, condC_false, Option.map_some, Option.bind_some, Option.getD_some, Nat.reduceLT, ↓upd_same, ↓upd_ne, Nat.reduceBEq, and_true, endQ, cfg_P, List.length_map, ↓havoc_in, ↓havoc_out, List.contains_cons, List.contains_nil, Bool.or_false, Int.ofNat_lt, decide_false, Option.some.injEq, exists_eq_left', Bool.and_self, List.cons_append, List.nil_append, List.append_nil, updO_same, List.length_cons, List.length_nil, Nat.zero_add, List.drop_zero, List.take_zero, Nat.reduceAdd, List.set_cons_zero, Nat.reduceLeDiff, nth_zero, Nat.lt_irrefl, Nat.lt_succ_self, Nat.le_refl, isCell_int, cells_lits, isCell_lits, cells_agg, DRx_int, DRx_lits, DRx_agg, DRxL_cons, DRxL_nil, ↓ev_tmp, ↓iop_move, ↓iop_build, ↓iop_store, ↓iop_binOp, ↓iop_callb, bi_len, lenM_none, pickP_t, loadP_ptr, setCells_agg, storeP_ptr, lenP_lits, b_lss, fill_nil, fill_cons, fill1_some, buildP_eq, bldA_none, splice_eq, ires_eq, iresL_1, iresAll_nil, iresAll_cons, iresOne_cell, Store.set, ↓reduceIte, arr_eq, arrB_some, List.take_succ_cons, List.drop_succ_cons, List.drop_nil, List.take_nil, ↓evs_cons, ↓evs_nil, ↓evp_cons, ↓evp_nil, beq_self_eq_true, List.all_cons, List.all_nil, nth_lnks, pur_lnks, nth_snds, pur_snds, nth_lss, pur_lss, lkC_len, lkC_0, lkC_1, lkC_cap, lkC_pri, lkC_take, pur_lkC, Nat.mul_one, Try.f20, ty29, ty42, h03, h10, h6, j1, j2]
theorem o_rjoin : O_rjoin := k_rjoin c_rjoin
end Sim
