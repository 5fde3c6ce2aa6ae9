/- What functions of this seat compute, by values: contracts (lemmas of the statement's proof, under the conditions that each names). -/
import Derived.Test.YtpdaiflnibekaaaQK
namespace Sim
open Go Go.Proofs
set_option maxRecDepth 10000
set_option maxHeartbeats 2000000
set_option linter.unusedVariables false
set_option linter.unusedSimpArgs false
attribute [local congr] opsIf_congr condC_congr guardC_congr grd_congr pick3_congr obind_congr omap_congr opsV_congr

def holdM (st : Int) (rs : List Rep) (vs : List Int) (s : Nat) : Bool := (nextM st rs s).all fun x => decide (vs.getD s 0 ≤ x.2 + vs.getD (s ||| 2 ^ x.1) 0)
def inV (v : Int) : Prop := 0 ≤ v ∧ v ≤ 1125899906842624
instance : DecidablePred inV := fun v => by unfold inV; infer_instance
def holdsT (st : Int) (rs : List Rep) (vs : List Int) : Nat → Bool
  | 0 => true
  | s + 1 => holdsT st rs vs s && (!closM rs s || holdM st rs vs s)
def allV (vs : List Int) : Bool := vs.all fun v => decide (inV v)
def acceptM (st : Int) (rs : List Rep) (o vs : List Int) : Bool :=
  decide ((costM st rs o).2 = 0 ∧ vs.length = 2 ^ rs.length ∧ vs.getD (vs.length - 1) 0 = 0 ∧ (costM st rs o).1 ≤ vs.getD 0 0) && (allV vs && holdsT st rs vs vs.length)
theorem holds_iff {st : Int} {rs : List Rep} {vs : List Int} {n : Nat} : holdsT st rs vs n = true ↔ ∀ s, s < n → closM rs s = true → holdM st rs vs s = true := by
  induction n with
  | zero => simp [holdsT]
  | succ n ih =>
    simp only [holdsT, Bool.and_eq_true, ih, Bool.or_eq_true, Bool.not_eq_true']
    constructor
    · rintro ⟨h1, h2⟩ k hk hs
      by_cases e : k = n
      · subst e; rcases h2 with h2 | h2
        · rw [h2] at hs; cases hs
        · exact h2
      · exact h1 k (by omega) hs
    · intro h
      refine ⟨fun k hk => h k (by omega), ?_⟩
      cases hs : closM rs n with
      | false => exact .inl rfl
      | true => exact .inr (h n (by omega) hs)
theorem allV_iff {vs : List Int} : allV vs = true ↔ ∀ i, i < vs.length → inV (vs.getD i 0) := by
  simp only [allV, List.all_eq_true, decide_eq_true_eq]
  constructor
  · intro h i hi; exact h _ (getD_mem 0 hi)
  · intro h v hv
    obtain ⟨i, hi, e⟩ := List.mem_iff_getElem.1 hv
    have := h i hi
    simpa [hi, e] using this
theorem cost_ok {st : Int} {rs : List Rep} {o : List Int} (h : (costM st rs o).2 = 0) : OKc st rs := by
  have : (finM st rs o).2 = 0 := h
  unfold finM at this
  split at this
  · contradiction
  · rename_i h; exact check_zero.1 (Classical.not_not.1 h)
theorem steps_mem {st : Int} {rs : List Rep} {s : Nat} {x : Nat × Int} : ∀ {n}, x ∈ stepsT st rs s n ↔ x.1 < n ∧ stepOK st rs s x.1 = true ∧ x.2 = ch rs x.1 * (loadM rs s + tk rs x.1)
  | 0 => by simp [stepsT]
  | n + 1 => by
    have ih := @steps_mem st rs s x n
    simp only [stepsT]
    obtain ⟨x1, x2⟩ := x
    split
    · rename_i h
      simp only [List.mem_append, ih, List.mem_singleton, Prod.mk.injEq]
      constructor
      · rintro (⟨h1, h2⟩ | ⟨rfl, rfl⟩)
        · exact ⟨by omega, h2⟩
        · exact ⟨by omega, h, rfl⟩
      · rintro ⟨h1, h2, h3⟩
        by_cases e : x1 = n
        · subst e; exact .inr ⟨rfl, h3⟩
        · exact .inl ⟨by omega, h2, h3⟩
    · rename_i h
      rw [ih]
      constructor
      · rintro ⟨h1, h2⟩; exact ⟨by omega, h2⟩
      · rintro ⟨h1, h2, h3⟩
        by_cases e : x1 = n
        · subst e; exact absurd h2 h
        · exact ⟨by omega, h2, h3⟩
theorem next_mem {st : Int} {rs : List Rep} {s : Nat} {x : Nat × Int} : x ∈ nextM st rs s ↔ x.1 < rs.length ∧ stepOK st rs s x.1 = true ∧ x.2 = ch rs x.1 * (loadM rs s + tk rs x.1) := steps_mem
theorem next_b {st : Int} {rs : List Rep} (hc : OKc st rs) {s : Nat} {x : Nat × Int} (h : x ∈ nextM st rs s) : x.1 < rs.length ∧ 0 ≤ x.2 ∧ x.2 ≤ 12000000000000 := by
  obtain ⟨h1, h2, h3⟩ := next_mem.1 h
  have hb := load_bound hc.tk s rs.length (Nat.le_refl _)
  have ht := (hc.tk).2 _ h1
  have hch := hc.ch.2 _ h1
  have := term_b (b := loadM rs s + tk rs x.1) hch ⟨by unfold loadM; omega, by unfold loadM; omega⟩
  have h0 : 0 ≤ ch rs x.1 * (loadM rs s + tk rs x.1) := Int.mul_nonneg hch.1 (by unfold loadM; omega)
  exact ⟨h1, by omega, by omega⟩
theorem next_at {st : Int} {rs : List Rep} {s i : Nat} {y : List PV} (h : ((nextM st rs s).map fun x => [stepV x])[i]? = some y) : ∃ x ∈ nextM st rs s, (nextM st rs s)[i]? = some x ∧ y = [stepV x] := by
  rw [List.getElem?_map, Option.map_eq_some_iff] at h
  obtain ⟨x, h1, h2⟩ := h
  exact ⟨x, List.mem_of_getElem? h1, h1, h2.symm⟩
noncomputable def A_Accept : (Int) × (List Rep) × (List Int) × (List Int) → List PV := fun (st, rs, o, vs) => [.agg [I st, reps rs], ints o, ints vs]
noncomputable def R_Accept : (Int) × (List Rep) × (List Int) × (List Int) → PV := fun (st, rs, o, vs) => B (acceptM st rs o vs)
def H_Accept : (Int) × (List Rep) × (List Int) × (List Int) → Prop := fun (st, rs, o, vs) => True
noncomputable def e_Accept : Nat × Ent := (31, .v (specOf A_Accept R_Accept H_Accept))
theorem j_Accept : ∀ i j, A_Accept i = A_Accept j → i = j := by
  rintro ⟨st₁, rs₁, o₁, vs₁⟩ ⟨st₂, rs₂, o₂, vs₂⟩ h
  simp only [A_Accept, List.cons.injEq, and_true, PV.lits.injEq, PV.int.injEq, PV.bool.injEq, PV.str.injEq, PV.agg.injEq, PV.func.injEq, PV.vptr.injEq, true_and, List.map_nil, inj_ints, inj_strs, inj_reps] at h
  simp [Prod.ext_iff, h] <;> omega
theorem s_Accept (st : Int) (rs : List Rep) (o : List Int) (vs : List Int) : specOf A_Accept R_Accept H_Accept [.agg [I st, reps rs], ints o, ints vs] = some (B (acceptM st rs o vs)) := specOf_app j_Accept (i := (st, rs, o, vs)) trivial
def C_Accept : Prop := ∀ (st : Int) (rs : List Rep) (o : List Int) (vs : List Int) , VC Try.prog 31 [.agg [I st, reps rs], ints o, ints vs] (B (acceptM st rs o vs))
def O_Accept : Prop := EntOK Try.prog e_Accept.1 e_Accept.2
theorem k_Accept (c : C_Accept) : O_Accept := specOf_ok fun ⟨st, rs, o, vs⟩ h => c st rs o vs
theorem c_Accept : C_Accept := by
  intro st rs o vs
  refine vc_ofD mixed (l := [e_Cost, e_win, e_closed, e_next]) ((eok_cons o_Cost (eok_cons o_win (eok_cons o_closed (eok_cons o_next eok_nil))))) [] [] 0 1 Try.func31 rfl (by decide +kernel) (N := 77) rfl (by simp) rfl (by kernel_rfl) fun hs => ?_
  simp only [smallL, PV.small, List.length_map, and_true, true_and] at hs
  by_cases h : (costM st rs o).2 = 0
  case neg =>
    rw [show acceptM st rs o vs = false by simp [acceptM, h]]
    simp +contextual (maxSteps := 4000000) only [↓ur_seq, ↓ur_ret, ↓ur_region, ↓ur_cond, ↓cont_seq, ↓done_nil, ↓done_seq, ↓ops_consN, ↓ops_guardN, nY_move, nY_assign, nY_pick, nY_alloc, nY_box, nY_load, nY_store, nY_binOp, nY_fieldAddr, nY_indexAddr, nY_extract, nY_callf, nY_callb, ↓ops_nil, opsIf_some, opsIf_none, condC_true, guardC_tf, Option.map_some, Option.bind_some, Option.getD_some, Nat.reduceLT, Bool.false_eq_true, ↓upd_same, ↓upd_ne, Nat.reduceBEq, and_true, List.getD_cons_zero, List.getD_cons_succ, List.getElem?_toArray, List.getElem?_cons_zero, List.getElem?_cons_succ, endQ, cfg_P, cfg_tab, cfg_muts, cfg_frz, cfg_num, numOf_eq, List.contains_nil, decide_true, Option.some.injEq, exists_eq_left', List.lookup_cons, List.lookup_nil, tabOf_cons, tab_v, pur_ints, Bool.and_self, List.nil_append, List.append_nil, updO_same, List.length_cons, List.length_nil, Nat.zero_add, List.drop_zero, Nat.reduceAdd, List.set_cons_zero, nth_zero, Nat.lt_succ_self, not_false_eq_true, Nat.le_refl, cells_bool, pur_int, cells_lits, pur_lits, cells_agg, pur_agg, DRx_bool, ↓ev_tmp, ↓ev_int, ↓ev_bool, ↓ev_func, ↓guardP_eq, grd_some, ↓iop_move, ↓iop_assign, ↓pick3_bool, ↓iop_pick, ↓iop_alloc, ↓iop_box, ↓iop_load, ↓iop_store, ↓iop_binOp, ↓iop_extract, extr_tuple, ↓iop_callv, nrmAll_cons, nrmAll_nil, nrm_agg, nrmL_cons, nrmL_nil, nrm_lits, nrm1_int, nrm1_lits, pickP_f, pickP_t, loadP_vptr, loadP_ptr, setCells_bool, storeP_ptr, b_neq, env0_eq, ires_eq, iresL_1, iresAll_nil, iresAll_cons, iresOne_cell, valT_eq, pursL_cons, pursL_nil, Store.new, Store.set, ↓reduceIte, arr_eq, arrB_some, callP_eq, boxP_eq, List.take_succ_cons, List.take_nil, ↓evs_cons, ↓evs_nil, beq_self_eq_true, see_eq, and_false, Bool.true_eq_false, e_Cost, s_Cost, e_win, e_closed, e_next, nth_reps, pur_reps, Try.f31, ty4, ty24, ty25, h]
  have hc := cost_ok h
  have hac : acceptM st rs o vs = (decide (vs.length = 2 ^ rs.length ∧ vs.getD (vs.length - 1) 0 = 0 ∧ (costM st rs o).1 ≤ vs.getD 0 0) && (allV vs && holdsT st rs vs vs.length)) := by simp only [acceptM, h, true_and]
  generalize hr : acceptM st rs o vs = r
  have h10 := hc.len
  have hp := pow1024 (k := rs.length) h10
  have hp1 := one_le_pow rs.length
  have hsh := shl1 (k := rs.length) (by omega)
  have h64 : rs.length ≤ 64 := by omega
  by_cases hl : vs.length = 2 ^ rs.length
  case neg =>
    have : r = false := by rw [← hr, hac]; simp [hl]
    subst this
    simp +contextual (maxSteps := 4000000) only [↓ur_seq, ↓ur_ret, ↓ur_region, ↓ur_cond, ↓cont_seq, ↓done_nil, ↓done_seq, ↓ops_consN, ↓ops_guardN, nY_move, nY_assign, nY_pick, nY_alloc, nY_box, nY_load, nY_store, nY_binOp, nY_fieldAddr, nY_indexAddr, nY_extract, nY_callf, nY_callb, ↓ops_nil, opsIf_some, opsIf_none, opsIf_if', map_if, condC_true, guardC_tf, guardC_ff, Option.map_some, Option.map_none, Option.bind_some, Option.getD_some, Nat.reduceLT, Bool.false_eq_true, ↓upd_same, ↓upd_ne, Nat.reduceBEq, true_and, and_true, List.getD_cons_zero, List.getD_cons_succ, List.getElem?_toArray, List.getElem?_cons_zero, List.getElem?_cons_succ, endQ, cfg_P, cfg_tab, cfg_muts, cfg_frz, cfg_num, numOf_eq, List.length_map, List.contains_nil, Int.toNat_natCast, decide_true, decide_false, Option.some.injEq, exists_eq_left', List.lookup_cons, List.lookup_nil, tabOf_cons, tab_v, pur_ints, Bool.and_self, List.nil_append, List.append_nil, updO_same, List.length_cons, List.length_nil, Nat.zero_add, List.drop_zero, Nat.reduceAdd, List.set_cons_zero, nth_zero, Nat.lt_succ_self, not_true_eq_false, not_false_eq_true, Nat.le_refl, cells_bool, pur_int, cells_lits, pur_lits, cells_agg, pur_agg, DRx_bool, ↓ev_tmp, ↓ev_int, ↓ev_bool, ↓ev_func, ↓guardP_eq, grd_some, ↓iop_move, ↓iop_assign, ↓pick3_bool, ↓iop_pick, ↓iop_alloc, ↓iop_box, ↓iop_load, ↓iop_store, ↓iop_binOp, ↓iop_fieldAddr, ↓iop_extract, extr_tuple, ↓iop_callv, ↓iop_callb, nrmAll_cons, nrmAll_nil, bi_len, lenM_none, nrm_agg, nrmL_cons, nrmL_nil, nrm_lits, nrm1_int, nrm1_lits, pickP_f, pickP_t, loadP_vptr, loadP_ptr, setCells_bool, storeP_ptr, fieldP_vptr, lenP_lits, b_neq, b_shl, env0_eq, ires_eq, iresL_1, iresAll_nil, iresAll_cons, iresOne_cell, valT_eq, pursL_cons, pursL_nil, Store.new, Store.set, ↓reduceIte, arr_eq, arrB_some, callP_eq, boxP_eq, Int.natCast_inj, List.take_succ_cons, List.take_nil, ↓evs_cons, ↓evs_nil, beq_self_eq_true, see_eq, and_false, Bool.true_eq_false, bits_i64, Nat.min_def, e_Cost, s_Cost, e_win, e_closed, e_next, nth_reps, pur_reps, Try.f31, ty4, ty22, ty24, ty25, h, h64, hsh, hl]
    omega
  have hl1 : 1 ≤ vs.length := by omega
  have hl2 : vs.length ≤ 1024 := by omega
  have hw1 : IntKind.i64.wrap ((vs.length : Int) - 1) = ((vs.length - 1 : Nat) : Int) := by rw [wrap64 (by omega) (by omega)]; omega
  have hlt1 : vs.length - 1 < vs.length := by omega
  have hlt0 : 0 < vs.length := by omega
  rw [← hl] at hsh
  by_cases hz : vs.getD (vs.length - 1) 0 = 0
  case neg =>
    have : r = false := by rw [← hr, hac]; simp only [hz, false_and, and_false, decide_false, Bool.false_and]
    subst this
    simp +contextual (maxSteps := 4000000) only [↓ur_seq, ↓ur_ret, ↓ur_region, ↓ur_cond, ↓cont_seq, ↓done_nil, ↓done_seq, ↓ops_consN, ↓ops_guardN, nY_move, nY_assign, nY_pick, nY_alloc, nY_box, nY_load, nY_store, nY_binOp, nY_fieldAddr, nY_indexAddr, nY_extract, nY_callf, nY_callb, ↓ops_nil, opsIf_some, opsIf_none, opsIf_if', map_if, condC_true, guardC_tf, guardC_ff, Option.map_some, Option.map_none, Option.bind_some, Option.getD_some, Nat.reduceLT, Bool.false_eq_true, ↓upd_same, ↓upd_ne, Nat.reduceBEq, true_and, and_true, List.getD_cons_zero, List.getD_cons_succ, List.getElem?_toArray, List.getElem?_cons_zero, List.getElem?_cons_succ, endQ, cfg_P, cfg_tab, cfg_muts, cfg_frz, cfg_num, numOf_eq, List.length_map, List.contains_nil, Int.natCast_nonneg, Int.ofNat_lt, Int.toNat_natCast, nth_int, decide_true, decide_false, Option.some.injEq, exists_eq_left', List.lookup_cons, List.lookup_nil, tabOf_cons, tab_v, pur_ints, Bool.and_self, List.nil_append, List.append_nil, updO_same, List.length_cons, List.length_nil, Nat.zero_add, List.drop_zero, Nat.reduceAdd, List.set_cons_zero, nth_zero, Nat.lt_succ_self, not_true_eq_false, not_false_eq_true, Nat.le_refl, cells_bool, cells_int, pur_int, cells_lits, pur_lits, cells_agg, pur_agg, DRx_bool, ↓ev_tmp, ↓ev_int, ↓ev_bool, ↓ev_func, ↓guardP_eq, grd_some, ↓iop_move, ↓iop_assign, ↓pick3_bool, ↓iop_pick, ↓iop_alloc, ↓iop_box, ↓iop_load, ↓iop_store, ↓iop_binOp, ↓iop_fieldAddr, ↓iop_indexAddr, idxA_int, ↓iop_extract, extr_tuple, ↓iop_callv, ↓iop_callb, nrmAll_cons, nrmAll_nil, bi_len, lenM_none, nrm_agg, nrmL_cons, nrmL_nil, nrm_lits, nrm1_int, nrm1_lits, pickP_f, pickP_t, loadP_vptr, loadP_ptr, setCells_bool, storeP_ptr, fieldP_vptr, indexP_lits, lenP_lits, b_sub, b_neq, b_shl, env0_eq, ires_eq, iresL_1, iresAll_nil, iresAll_cons, iresOne_cell, valT_eq, pursL_cons, pursL_nil, Store.new, Store.set, ↓reduceIte, arr_eq, arrB_some, callP_eq, boxP_eq, List.take_succ_cons, List.take_nil, ↓evs_cons, ↓evs_nil, beq_self_eq_true, see_eq, and_false, Bool.true_eq_false, bits_i64, Nat.min_def, e_Cost, s_Cost, e_win, e_closed, e_next, nth_reps, pur_reps, Try.f31, ty3, ty4, ty22, ty24, ty25, h, h64, hsh, hw1, hlt1, hz]
    omega
  by_cases hco : (costM st rs o).1 ≤ vs.getD 0 0
  case neg =>
    have : r = false := by rw [← hr, hac]; simp only [hco, and_false, decide_false, Bool.false_and]
    subst this
    have hco : vs.getD 0 0 < (costM st rs o).1 := by omega
    simp +contextual (maxSteps := 4000000) only [↓ur_seq, ↓ur_ret, ↓ur_region, ↓ur_cond, ↓cont_seq, ↓done_nil, ↓done_seq, ↓ops_consN, ↓ops_guardN, nY_move, nY_assign, nY_pick, nY_alloc, nY_box, nY_load, nY_store, nY_binOp, nY_fieldAddr, nY_indexAddr, nY_extract, nY_callf, nY_callb, ↓ops_nil, opsIf_some, opsIf_none, opsIf_if', map_if, condC_true, guardC_ff, Option.map_some, Option.map_none, Option.bind_some, Option.getD_some, Nat.reduceLT, Bool.false_eq_true, ↓upd_same, ↓upd_ne, Nat.reduceBEq, true_and, and_true, List.getD_cons_zero, List.getD_cons_succ, List.getElem?_toArray, List.getElem?_cons_zero, List.getElem?_cons_succ, endQ, cfg_P, cfg_tab, cfg_muts, cfg_frz, cfg_num, numOf_eq, List.length_map, List.contains_nil, Int.natCast_nonneg, Int.ofNat_lt, Int.toNat_natCast, nth_int, decide_true, decide_false, Option.some.injEq, exists_eq_left', List.lookup_cons, List.lookup_nil, tabOf_cons, tab_v, pur_ints, Bool.and_self, List.nil_append, List.append_nil, updO_same, List.length_cons, List.length_nil, Nat.zero_add, List.drop_zero, Nat.reduceAdd, List.set_cons_zero, nth_zero, Nat.lt_succ_self, not_true_eq_false, Int.reduceToNat, Nat.le_refl, cells_bool, cells_int, pur_int, cells_lits, pur_lits, cells_agg, pur_agg, DRx_bool, ↓ev_tmp, ↓ev_int, ↓ev_bool, ↓ev_func, ↓guardP_eq, grd_some, ↓iop_move, ↓iop_assign, ↓pick3_bool, ↓iop_pick, ↓iop_alloc, ↓iop_box, ↓iop_load, ↓iop_store, ↓iop_binOp, ↓iop_fieldAddr, ↓iop_indexAddr, idxA_int, ↓iop_extract, extr_tuple, ↓iop_callv, ↓iop_callb, nrmAll_cons, nrmAll_nil, bi_len, lenM_none, nrm_agg, nrmL_cons, nrmL_nil, nrm_lits, nrm1_int, nrm1_lits, pickP_f, pickP_t, loadP_vptr, loadP_ptr, setCells_bool, storeP_ptr, fieldP_vptr, indexP_lits, lenP_lits, b_sub, b_neq, b_gtr, b_shl, env0_eq, ires_eq, iresL_1, iresAll_nil, iresAll_cons, iresOne_cell, valT_eq, pursL_cons, pursL_nil, Store.new, Store.set, ↓reduceIte, arr_eq, arrB_some, callP_eq, boxP_eq, List.take_succ_cons, List.take_nil, ↓evs_cons, ↓evs_nil, Int.le_refl, Int.natCast_pos, beq_self_eq_true, see_eq, and_false, Bool.true_eq_false, bits_i64, Nat.min_def, e_Cost, s_Cost, e_win, e_closed, e_next, nth_reps, pur_reps, Try.f31, ty3, ty4, ty22, ty24, ty25, h, h64, hsh, hw1, hlt1, hz, hlt0, hco]
    omega
  have hac : acceptM st rs o vs = (allV vs && holdsT st rs vs vs.length) := by rw [hac, decide_eq_true ⟨hl, hz, hco⟩, Bool.true_and]
  have hco : ¬ vs.getD 0 0 < (costM st rs o).1 := by omega
  simp +contextual (maxSteps := 4000000) only [↓ur_skip, ↓ur_seq, ↓ur_block, ↓ur_region, ↓ur_cond, ↓cont_seq, ↓ops_consN, ↓ops_guardN, nY_move, nY_assign, nY_pick, nY_alloc, nY_box, nY_load, nY_binOp, nY_fieldAddr, nY_indexAddr, nY_extract, nY_callf, nY_callb, ↓ops_nil, opsIf_some, opsIf_if', map_if, condC_false, guardC_ff, Option.map_some, Option.map_none, Option.bind_some, Option.getD_some, Nat.reduceLT, Bool.false_eq_true, ↓upd_same, ↓upd_ne, Nat.reduceBEq, true_and, and_true, List.getD_cons_zero, List.getD_cons_succ, List.getElem?_toArray, List.getElem?_cons_zero, List.getElem?_cons_succ, cfg_P, cfg_tab, cfg_muts, cfg_frz, cfg_num, numOf_eq, List.length_map, List.contains_nil, Int.natCast_nonneg, Int.ofNat_lt, Int.toNat_natCast, nth_int, decide_false, List.lookup_cons, List.lookup_nil, tabOf_cons, tab_v, pur_ints, Bool.and_self, List.nil_append, List.append_nil, List.length_cons, List.length_nil, Nat.zero_add, List.drop_zero, Nat.reduceAdd, Nat.lt_succ_self, not_true_eq_false, Int.reduceToNat, Nat.le_refl, cells_bool, cells_int, pur_int, cells_lits, pur_lits, cells_agg, pur_agg, ↓ev_tmp, ↓ev_int, ↓ev_func, ↓guardP_eq, grd_some, ↓iop_move, ↓iop_assign, ↓pick3_bool, ↓iop_pick, ↓iop_alloc, ↓iop_box, ↓iop_load, ↓iop_binOp, ↓iop_fieldAddr, ↓iop_indexAddr, idxA_int, ↓iop_extract, extr_tuple, ↓iop_callv, ↓iop_callb, nrmAll_cons, nrmAll_nil, bi_len, lenM_none, nrm_agg, nrmL_cons, nrmL_nil, nrm_lits, nrm1_int, nrm1_lits, pickP_f, pickP_t, loadP_vptr, fieldP_vptr, indexP_lits, lenP_lits, b_sub, b_neq, b_gtr, b_shl, env0_eq, valT_eq, pursL_cons, pursL_nil, Store.new, ↓reduceIte, callP_eq, boxP_eq, List.take_succ_cons, List.take_nil, ↓evs_cons, ↓evs_nil, Int.le_refl, Int.natCast_pos, beq_self_eq_true, see_eq, and_false, Bool.true_eq_false, bits_i64, Nat.min_def, e_Cost, s_Cost, e_win, e_closed, e_next, nth_reps, pur_reps, Try.f31, ty3, ty4, ty22, ty24, ty25, h, h64, hsh, hw1, hlt1, hz, hlt0, hco]
  refine ⟨by omega, ?_⟩
  have hw : ∀ i : Nat, i < vs.length → IntKind.i64.wrap ((i : Int) + 1) = ((i + 1 : Nat) : Int) := fun i g => by rw [wrap64 (by omega) (by omega)]; omega
  refine loop_cnt [9, 10, 11, 47, 48, 49, 50, 51, 52, 53, 54, 55, 56, 57, 58, 59, 60, 61, 63, 64, 65, 66, 67, 68, 69, 70, 71, 72, 73, 74, 75, 76] vs.length (fun s ρ st' => ρ 47 = I s ∧ (∀ i, i < s → inV (vs.getD i 0)) ∧ (allV vs = true → holdsT st rs vs s = true) ∧ st'.obj 0 = some (.arr 0 1 [.bool false]) ∧ 0 < st'.next) (.refl _) ?_ ?_
  · simp +contextual (maxSteps := 4000000) only [↓upd_same, true_and, and_true, updO_same, Nat.lt_succ_self, Int.cast_ofNat_Int, nth_reps, pur_reps, Try.f31]
    exact ⟨fun i hi => by omega, fun _ => rfl⟩
  · rintro s ρ ⟨ob, M⟩ hs ⟨h47, hin, hho, h0, hM⟩
    dsimp only at h0 hM
    have n0 : ¬ 0 = M := by omega
    have m0 : ¬ M = 0 := by omega
    have n1 : ¬ 0 = M + 1 := by omega
    have m1 : ¬ M + 1 = 0 := by omega
    have k0 : ¬ M = M + 1 := by omega
    have k1 : ¬ M + 1 = M := by omega
    by_cases hlt : s < vs.length
    · by_cases hv : 0 ≤ vs.getD s 0 ∧ vs.getD s 0 ≤ 1125899906842624
      case neg =>
        have : r = false := by
          rw [← hr, hac]
          cases ha : allV vs with
          | false => rfl
          | true => exact absurd (allV_iff.1 ha s hlt) hv
        subst this
        simp +contextual (maxSteps := 4000000) only [↓ur_skip, ↓ur_seq, ↓ur_block, ↓ur_ret, ↓ur_region, ↓ur_cond, ↓cont_seq, ↓done_nil, ↓done_seq, ↓done_blk, ↓done_lp, ↓ops_consN, nY_move, nY_alloc, nY_load, nY_store, nY_binOp, nY_unOp, nY_indexAddr, nY_callf, ↓ops_nil, opsIf_some, opsIf_none, condC_true, Option.map_some, Option.bind_some, Option.getD_some, Nat.reduceLT, Bool.false_eq_true, ↓upd_same, ↓upd_ne, Nat.reduceBEq, and_true, List.getElem?_cons_zero, endQ, cfg_P, cfg_tab, cfg_muts, cfg_frz, cfg_num, numOf_eq, List.length_map, ↓havoc_in, ↓havoc_out, List.contains_cons, List.contains_nil, Bool.or_false, Bool.or_true, Int.natCast_nonneg, Int.ofNat_lt, Int.toNat_natCast, nth_int, decide_true, decide_false, Option.some.injEq, exists_eq_left', tabOf_cons, tab_v, Bool.and_self, Nat.reduceEqDiff, List.nil_append, List.append_nil, updO_same, updO_ne, List.length_cons, List.length_nil, Nat.zero_add, Nat.reduceAdd, List.set_cons_zero, nth_zero, Nat.lt_succ_self, Bool.not_false, not_false_eq_true, Nat.le_refl, cells_bool, cells_int, pur_int, DRx_bool, ↓ev_tmp, ↓ev_int, ↓ev_bool, ↓ev_func, ↓iop_move, ↓iop_alloc, ↓iop_load, ↓iop_store, ↓iop_binOp, ↓iop_unOp, ↓iop_indexAddr, idxA_int, ↓iop_callv, nrmAll_cons, nrmAll_nil, nrm_int, pickP_f, loadP_vptr, loadP_ptr, setCells_int, setCells_bool, storeP_ptr, indexP_lits, b_lss, u_not, ires_eq, iresL_1, iresAll_nil, iresAll_cons, iresOne_cell, valT_eq, pursL_cons, pursL_nil, Store.new, Store.set, ↓reduceIte, arr_eq, arrB_some, callP_eq, beq_eq_false_iff_ne, ne_eq, Nat.reduceBeqDiff, ↓evs_cons, ↓evs_nil, beq_self_eq_true, see_eq, and_false, Bool.true_eq_false, s_win, nth_reps, pur_reps, Try.f31, ty3, ty4, ty25, h47, hlt, h0, n0, m0, n1, m1, k0, k1, hv]
      have hin' : ∀ i, i < s + 1 → inV (vs.getD i 0) := fun i hi => by
        by_cases e : i = s
        · subst e; exact hv
        · exact hin i (by omega)
      have hs1 : s < 1024 := by omega
      cases hcl : closM rs s
      case false =>
        simp +contextual (maxSteps := 4000000) only [↓ur_skip, ↓ur_seq, ↓ur_block, ↓ur_exit, ↓ur_region, ↓ur_cond, ↓cont_seq, ↓cont_lp, ↓leave_seq, ↓leave_blk, ↓ops_consN, nY_move, nY_alloc, nY_load, nY_store, nY_binOp, nY_unOp, nY_indexAddr, nY_callf, ↓ops_nil, opsIf_some, opsIf_none, condC_true, condC_false, Option.map_some, Option.bind_some, Option.getD_some, Nat.reduceLT, Bool.false_eq_true, ↓upd_same, ↓upd_ne, Nat.reduceBEq, true_and, and_true, List.getElem?_cons_zero, cfg_P, cfg_tab, cfg_muts, cfg_frz, cfg_num, numOf_eq, List.length_map, ↓havoc_in, ↓havoc_out, agree_upd, agree_havoc, List.contains_cons, List.contains_nil, Bool.or_false, Bool.or_true, Int.natCast_nonneg, Int.ofNat_lt, Int.toNat_natCast, nth_int, decide_true, PV.int.injEq, List.lookup_cons, List.lookup_nil, tabOf_cons, tab_v, Bool.and_self, Nat.reduceEqDiff, List.nil_append, List.append_nil, updO_same, updO_ne, List.length_cons, List.length_nil, Nat.zero_add, List.drop_zero, Nat.reduceAdd, List.set_cons_zero, nth_zero, Nat.lt_succ_self, Bool.not_true, Bool.not_false, not_false_eq_true, Nat.le_refl, cells_int, pur_int, pur_lits, pur_agg, ↓ev_tmp, ↓ev_int, ↓ev_func, ↓iop_move, ↓iop_alloc, ↓iop_load, ↓iop_store, ↓iop_binOp, ↓iop_unOp, ↓iop_indexAddr, idxA_int, ↓iop_callv, nrmAll_cons, nrmAll_nil, nrm_agg, nrmL_cons, nrmL_nil, nrm_int, nrm1_int, nrm1_lits, pickP_f, pickP_t, loadP_vptr, loadP_ptr, setCells_int, storeP_ptr, indexP_lits, b_add, b_lss, u_not, valT_eq, pursL_cons, pursL_nil, Store.new, Store.set, ↓reduceIte, arr_eq, arrB_some, callP_eq, beq_eq_false_iff_ne, ne_eq, Nat.reduceBeqDiff, List.take_succ_cons, List.take_nil, ↓evs_cons, ↓evs_nil, beq_self_eq_true, see_eq, and_false, Bool.true_eq_false, s_win, s_closed, nth_reps, pur_reps, Try.f31, ty3, ty24, ty25, ty64, h47, hlt, h0, n0, m0, n1, m1, k0, k1, hv, hc, hs1, hcl]
        exact ⟨hw s hlt, hin', fun ha => by simp [holdsT, hho ha, hcl], by omega⟩
      simp +contextual (maxSteps := 4000000) only [↓ur_skip, ↓ur_seq, ↓ur_block, ↓ur_region, ↓ur_cond, ur_range, ↓cont_seq, ↓ops_consN, nY_move, nY_alloc, nY_load, nY_store, nY_binOp, nY_unOp, nY_indexAddr, nY_callf, ↓ops_nil, opsIf_some, opsIf_none, condC_true, condC_false, Option.map_some, Option.bind_some, Option.getD_some, Nat.reduceLT, Bool.false_eq_true, ↓upd_same, ↓upd_ne, Nat.reduceBEq, true_and, and_true, List.getElem?_cons_zero, cfg_P, cfg_tab, cfg_muts, cfg_frz, cfg_num, numOf_eq, List.length_map, ↓havoc_in, ↓havoc_out, List.contains_cons, List.contains_nil, Bool.or_false, Bool.or_true, Int.natCast_nonneg, Int.ofNat_lt, Int.toNat_natCast, nth_int, decide_true, List.lookup_cons, List.lookup_nil, tabOf_cons, tab_v, Bool.and_self, Nat.reduceEqDiff, List.nil_append, List.append_nil, updO_same, updO_ne, List.length_cons, List.length_nil, Nat.zero_add, List.drop_zero, Nat.reduceAdd, List.set_cons_zero, nth_zero, Nat.lt_succ_self, Bool.not_true, not_false_eq_true, Nat.le_refl, cells_int, pur_int, pur_lits, pur_agg, ↓ev_tmp, ↓ev_int, ↓ev_func, ↓iop_move, ↓iop_alloc, ↓iop_load, ↓iop_store, ↓iop_binOp, ↓iop_unOp, ↓iop_indexAddr, idxA_int, ↓iop_callv, nrmAll_cons, nrmAll_nil, nrm_agg, nrmL_cons, nrmL_nil, nrm_int, nrm1_int, nrm1_lits, pickP_f, pickP_t, loadP_vptr, loadP_ptr, setCells_int, storeP_ptr, indexP_lits, b_lss, u_not, valT_eq, pursL_cons, pursL_nil, Store.new, Store.set, ↓reduceIte, arr_eq, arrB_some, callP_eq, beq_eq_false_iff_ne, ne_eq, List.take_succ_cons, List.take_nil, ↓evs_cons, ↓evs_nil, beq_self_eq_true, see_eq, and_false, Bool.true_eq_false, s_win, s_closed, s_next, nth_reps, pur_reps, Try.f31, ty3, ty24, ty25, ty64, h47, hlt, h0, n0, m0, n1, m1, k0, k1, hv, hc, hs1, hcl]
      refine run_range (ys := (nextM st rs s).map fun x => [stepV x]) (f := 57) (first := []) (captured := [.vptr [I st, reps rs] 0, .vptr [I s] 0]) rfl rfl (hookMono_none rfl) ?_ (y_next hc hs1) rfl ?_ (by kernel_rfl) (by kernel_rfl)
        (fun i st' => (st'.obj 0 = some (.arr 0 1 [.bool false]) ∧ 0 < st'.next) ∧ (st'.obj M = some (.arr 0 1 [I s]) ∧ M < st'.next) ∧ (st'.obj (M + 1) = some (.arr 0 1 [I (vs.getD s 0)]) ∧ M + 1 < st'.next) ∧ (allV vs = true → ∀ x ∈ (nextM st rs s).take i, vs.getD s 0 ≤ x.2 + vs.getD (s ||| 2 ^ x.1) 0))
        (fun e st' => (match e with | .ret => r = false | _ => False) ∧ (st'.obj 0 = some (.arr 0 1 [.bool false]) ∧ 0 < st'.next)) ?_ ?_ ?_ ?_ ?_ ?_ ?_
      · simp +contextual (maxSteps := 4000000) only [↓upd_same, ↓ev_tmp, nth_reps, pur_reps, Try.f31]
      · intro y hy
        obtain ⟨x, _, rfl⟩ := List.mem_map.1 hy
        rfl
      · intro i
        exact (Stays.obj (fun _ => by simp)).and ((Stays.obj (fun _ => by simp)).and ((Stays.obj (fun _ => by simp)).and Stays.const))
      · intro e
        exact Stays.const.and (Stays.obj (fun _ => by simp))
      · simp +contextual (maxSteps := 4000000) only [true_and, and_true, updO_same, updO_ne, List.take_zero, Nat.lt_succ_self, not_false_eq_true, beq_eq_false_iff_ne, ne_eq, Nat.reduceBeqDiff, nth_reps, pur_reps, Try.f31, h0, n0, m0, n1, m1, k0, k1]
        exact ⟨by omega, by omega, fun _ x hx => by simp at hx⟩
      · rintro i y ⟨ob2, M2⟩ id lr hy hid hlp ⟨⟨a0, a1⟩, ⟨b0, b1⟩, ⟨c0, c1⟩, hall⟩
        obtain ⟨x, hx, hxi, rfl⟩ := next_at hy
        dsimp only at hid hlp a0 a1 b0 b1 c0 c1
        have d0 : ¬ id = 0 := fun e => by rw [e, a0] at hlp; cases hlp
        have d1 : ¬ id = M := fun e => by rw [e, b0] at hlp; cases hlp
        have d2 : ¬ id = M + 1 := fun e => by rw [e, c0] at hlp; cases hlp
        have d3 : ¬ id = M2 := by omega
        have e0 : ¬ 0 = M2 := by omega
        have e1 : ¬ M = M2 := by omega
        have e2 : ¬ M + 1 = M2 := by omega
        have f0 : ¬ 0 = id := fun e => d0 e.symm
        have f1 : ¬ M = id := fun e => d1 e.symm
        have f2 : ¬ M + 1 = id := fun e => d2 e.symm
        have f3 : ¬ M2 = id := fun e => d3 e.symm
        obtain ⟨g1, g2, g3⟩ := next_b hc hx
        have hx64 : x.1 ≤ 64 := by omega
        have hpx : 2 ^ x.1 < 2 ^ rs.length := Nat.pow_lt_pow_right (by omega) g1
        have hsx := shl1 (k := x.1) (by omega)
        have hor := orI_nat (a := s) (b := 2 ^ x.1) (by omega) (by omega)
        have hlx : s ||| 2 ^ x.1 < vs.length := by rw [hl] at hlt ⊢; exact or_lt _ hlt hpx
        have hwx : allV vs = true → IntKind.i64.wrap (x.2 + vs.getD (s ||| 2 ^ x.1) 0) = x.2 + vs.getD (s ||| 2 ^ x.1) 0 := fun ha => by
          have := allV_iff.1 ha _ hlx
          unfold inV at this
          exact wrap64 (by omega) (by omega)
        by_cases hgt : IntKind.i64.wrap (x.2 + vs.getD (s ||| 2 ^ x.1) 0) < vs.getD s 0
        · have : r = false := by
            rw [← hr, hac]
            cases ha : allV vs with
            | false => rfl
            | true =>
              rw [hwx ha] at hgt
              cases hh : holdsT st rs vs vs.length with
              | false => rfl
              | true =>
                have := holds_iff.1 hh s hlt hcl
                simp only [holdM, List.all_eq_true, decide_eq_true_eq] at this
                have := this x hx
                omega
          subst this
          simp +contextual (maxSteps := 4000000) only [↓ur_seq, ↓ur_block, ↓ur_ret, ↓ur_region, ↓ur_cond, ↓cont_nil, ↓cont_seq, ↓done_nil, ↓done_blk, ↓ops_consN, ↓setps_cons, ↓setps_nil, rndX_cfg, nY_alloc, nY_load, nY_store, nY_binOp, nY_fieldAddr, nY_indexAddr, ↓ops_nil, opsIf_some, opsIf_none, opsIf_if', map_if, condC_true, Option.map_some, Option.map_none, Option.bind_some, Option.getD_some, Nat.reduceLT, Bool.false_eq_true, ↓upd_same, ↓upd_ne, Nat.reduceBEq, true_and, and_true, List.getElem?_cons_zero, List.getElem?_cons_succ, forall_const, cfg_P, cfg_frz, cfg_num, numOf_eq, List.length_map, ↓havoc_out, List.contains_cons, List.contains_nil, Bool.or_false, Int.natCast_nonneg, Int.ofNat_lt, Int.toNat_natCast, nth_int, decide_true, List.nil_append, List.append_nil, updO_same, updO_ne, List.length_cons, List.length_nil, Nat.zero_add, Nat.add_zero, List.take_zero, Nat.reduceAdd, List.set_cons_zero, nth_zero, Nat.lt_succ_self, not_false_eq_true, Nat.le_refl, cells_bool, cells_int, cells_agg, ↓ev_tmp, ↓ev_int, ↓ev_bool, ↓iop_alloc, ↓iop_load, ↓iop_store, ↓iop_binOp, ↓iop_fieldAddr, ↓iop_indexAddr, idxA_int, pickP_f, loadP_vptr, loadP_ptr, setCells_agg, setCells_bool, storeP_ptr, fieldP_ptr, indexP_lits, b_add, b_or, b_gtr, b_shl, splice_eq, Store.new, Store.set, ↓reduceIte, arr_eq, arrB_some, beq_eq_false_iff_ne, ne_eq, List.drop_succ_cons, List.drop_nil, see_eq, bits_i64, or_i64, Nat.min_def, nth_reps, pur_reps, Try.f31, ty3, ty4, ty25, ty78, hlp, a0, b0, c0, d0, d1, d2, d3, e0, e1, e2, f0, f1, f2, f3, roundA, roundB, hx64, hsx, hor, hlx, hgt]
          omega
        · have hall' : allV vs = true → ∀ x ∈ (nextM st rs s).take (i + 1), vs.getD s 0 ≤ x.2 + vs.getD (s ||| 2 ^ x.1) 0 := fun ha z hz => by
            rw [List.take_add_one, List.mem_append] at hz
            rcases hz with hz | hz
            · exact hall ha z hz
            · rw [hxi] at hz
              simp only [Option.toList_some, List.mem_singleton] at hz
              subst hz
              rw [hwx ha] at hgt
              omega
          simp +contextual (maxSteps := 4000000) only [↓ur_skip, ↓ur_seq, ↓ur_block, ↓ur_region, ↓ur_cond, ↓cont_nil, ↓cont_seq, ↓cont_blk, ↓ops_consN, ↓setps_cons, ↓setps_nil, rndX_cfg, nY_alloc, nY_load, nY_store, nY_binOp, nY_fieldAddr, nY_indexAddr, ↓ops_nil, opsIf_some, opsIf_none, opsIf_if', map_if, condC_false, Option.map_some, Option.map_none, Option.bind_some, Option.getD_some, Nat.reduceLT, Bool.false_eq_true, ↓upd_same, ↓upd_ne, Nat.reduceBEq, true_and, and_true, List.getElem?_cons_zero, List.getElem?_cons_succ, forall_const, cfg_P, cfg_frz, cfg_num, numOf_eq, List.length_map, ↓havoc_out, List.contains_cons, List.contains_nil, Bool.or_false, Int.natCast_nonneg, Int.ofNat_lt, Int.toNat_natCast, nth_int, decide_false, List.nil_append, List.append_nil, updO_same, updO_ne, List.length_cons, List.length_nil, Nat.zero_add, Nat.add_zero, List.take_zero, Nat.reduceAdd, List.set_cons_zero, nth_zero, Nat.lt_succ_self, not_false_eq_true, Nat.le_refl, cells_int, cells_agg, ↓ev_tmp, ↓ev_int, ↓iop_alloc, ↓iop_load, ↓iop_store, ↓iop_binOp, ↓iop_fieldAddr, ↓iop_indexAddr, idxA_int, pickP_f, loadP_vptr, loadP_ptr, setCells_agg, storeP_ptr, fieldP_ptr, indexP_lits, b_add, b_or, b_gtr, b_shl, splice_eq, Store.new, Store.set, ↓reduceIte, arr_eq, arrB_some, beq_eq_false_iff_ne, ne_eq, List.drop_succ_cons, List.drop_nil, see_eq, bits_i64, or_i64, Nat.min_def, nth_reps, pur_reps, Try.f31, ty3, ty25, ty78, hlp, a0, b0, c0, d0, d1, d2, d3, e0, e1, e2, f0, f1, f2, f3, roundA, roundB, hx64, hsx, hor, hlx, hgt]
          exact ⟨by omega, by omega, by omega, by omega, by omega, hall'⟩
      · rintro ⟨ob2, M2⟩ ⟨⟨a0, a1⟩, ⟨b0, b1⟩, ⟨c0, c1⟩, hall⟩
        dsimp only at a0 a1 b0 b1 c0 c1
        simp +contextual (maxSteps := 4000000) only [↓ur_region, ↓cont_seq, ↓cont_blk, ↓cont_lp, ↓ops_consN, nY_move, nY_binOp, ↓ops_nil, opsIf_some, Option.map_some, Nat.reduceLT, ↓upd_same, ↓upd_ne, Nat.reduceBEq, true_and, cfg_P, ↓havoc_in, agree_upd, agree_havoc, List.contains_cons, List.contains_nil, Bool.or_false, Bool.or_true, PV.int.injEq, Nat.lt_succ_self, ↓ev_tmp, ↓ev_int, ↓iop_move, ↓iop_binOp, b_add, beq_self_eq_true, nth_reps, pur_reps, Try.f31, h47, a0]
        refine ⟨hw s hlt, hin', fun ha => ?_, by omega⟩
        rw [holdsT, hho ha, hcl]
        simp only [Bool.not_true, Bool.false_or, Bool.true_and]
        simp only [holdM, List.all_eq_true, decide_eq_true_eq]
        intro x hx
        exact hall ha x (by rw [List.length_map, List.take_of_length_le (Nat.le_refl _)]; exact hx)
      · rintro i ⟨ob2, M2⟩ ⟨h, _⟩
        exact h.elim
      · rintro ⟨ob2, M2⟩ ⟨h, a0, a1⟩
        dsimp only at h a0 a1
        subst h
        simp +contextual (maxSteps := 4000000) only [↓done_nil, ↓done_seq, ↓done_blk, ↓done_lp, Option.map_some, Option.bind_some, ↓upd_same, ↓upd_ne, Nat.reduceBEq, List.getElem?_cons_zero, endQ, ↓havoc_out, List.contains_cons, List.contains_nil, Bool.or_false, Option.some.injEq, exists_eq_left', nth_zero, cells_bool, DRx_bool, pickP_f, loadP_ptr, ires_eq, iresL_1, iresAll_nil, iresAll_cons, iresOne_cell, ↓reduceIte, arr_eq, arrB_some, nth_reps, pur_reps, Try.f31, ty4, a0]
    · have e : s = vs.length := by omega
      subst e
      have ha := allV_iff.2 hin
      have : r = true := by rw [← hr, hac, ha, hho ha]; rfl
      subst this
      simp +contextual (maxSteps := 4000000) only [↓ur_seq, ↓ur_exit, ↓ur_ret, ↓ur_region, ↓ur_cond, ↓cont_seq, ↓leave_seq, ↓leave_blk, ↓leave_lp, ↓done_nil, ↓ops_consN, nY_store, nY_binOp, ↓ops_nil, opsIf_some, opsIf_none, condC_false, Option.map_some, Option.bind_some, Nat.reduceLT, ↓upd_same, ↓upd_ne, Nat.reduceBEq, and_true, List.getElem?_cons_zero, endQ, cfg_P, ↓havoc_in, ↓havoc_out, List.contains_cons, List.contains_nil, Bool.or_false, Bool.or_true, Int.ofNat_lt, decide_false, Option.some.injEq, exists_eq_left', updO_same, List.length_cons, List.length_nil, Nat.zero_add, List.set_cons_zero, nth_zero, Nat.lt_irrefl, Nat.lt_succ_self, Nat.le_refl, cells_bool, DRx_bool, ↓ev_tmp, ↓ev_bool, ↓iop_store, ↓iop_binOp, pickP_f, loadP_ptr, setCells_bool, storeP_ptr, b_lss, ires_eq, iresL_1, iresAll_nil, iresAll_cons, iresOne_cell, Store.set, ↓reduceIte, arr_eq, arrB_some, beq_self_eq_true, nth_reps, pur_reps, Try.f31, ty4, h47, h0]
theorem o_Accept : O_Accept := k_Accept c_Accept
end Sim
