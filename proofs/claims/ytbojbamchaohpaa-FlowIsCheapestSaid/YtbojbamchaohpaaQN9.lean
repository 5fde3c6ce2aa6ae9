/- What functions of this seat compute, by values: contracts (lemmas of the statement's proof, under the conditions that each names). -/
import Derived.Test.YtbojbamchaohpaaQN8
namespace Sim
open Go Go.Proofs
set_option maxRecDepth 10000
set_option maxHeartbeats 2000000
set_option linter.unusedVariables false
set_option linter.unusedSimpArgs false
attribute [local congr] opsIf_congr condC_congr guardC_congr grd_congr pick3_congr obind_congr omap_congr opsV_congr
def atM (ls : List Lnk) (l : List Snd) (d : Dem) (t : Int) : Prop := d.2.2.2.1 ≤ t ∧ t ≤ d.2.2.2.2 ∧ d.2.2.1 ≤ haveM ls l d d.2.1 t
instance {ls : List Lnk} {l : List Snd} {d : Dem} {t : Int} : Decidable (atM ls l d t) := inferInstanceAs (Decidable (_ ∧ _))
def arT (ls : List Lnk) (l : List Snd) (d : Dem) : Nat → Int
 | 0 => d.2.2.2.2
 | k + 1 => if d.2.2.2.1 ≤ (l.getD k dS).2.1 + 1 ∧ (l.getD k dS).2.1 + 1 < arT ls l d k ∧ d.2.2.1 ≤ haveM ls l d d.2.1 ((l.getD k dS).2.1 + 1) then (l.getD k dS).2.1 + 1 else arT ls l d k
theorem ar_none {ls : List Lnk} {l : List Snd} {d : Dem} : ∀ {k}, (∀ j, j < k → ¬ atM ls l d ((l.getD j dS).2.1 + 1)) → arT ls l d k = d.2.2.2.2
 | 0, _ => rfl
 | k + 1, h => by
  have ih := ar_none (ls := ls) (l := l) (d := d) (k := k) fun j hj => h j (by omega)
  have := h k (by omega)
  simp only [arT]
  rw [if_neg, ih]
  rintro ⟨h1, h2, h3⟩
  exact this ⟨h1, by omega, h3⟩
theorem asc_le {hn : Int} {ls : List Lnk} {l : List Snd} (ok : OKr hn ls l) {i : Nat} : ∀ {k}, i ≤ k → k < l.length → (l.getD i dS).2.1 ≤ (l.getD k dS).2.1
 | 0, h, _ => by rw [show i = 0 by omega]; exact Int.le_refl _
 | k + 1, h, hk => by
  by_cases e : i = k + 1
  ·rw [e]; exact Int.le_refl _
  ·have ih := asc_le ok (i := i) (k := k) (by omega) (by omega)
   have := ok.asc (k + 1) (by omega) hk
   rw [show k + 1 - 1 = k by omega] at this
   omega
theorem ar_first {hn : Int} {ls : List Lnk} {l : List Snd} {d : Dem} (ok : OKr hn ls l) {k : Nat} (h : ∀ j, j < k → ¬ atM ls l d ((l.getD j dS).2.1 + 1)) (ha : atM ls l d ((l.getD k dS).2.1 + 1)) : ∀ {m}, k < m → m ≤ l.length → arT ls l d m = (l.getD k dS).2.1 + 1
 | 0, hm, _ => absurd hm (by omega)
 | m + 1, hm, hl => by
  by_cases e : k = m
  ·subst e
   have := ar_none h
   simp only [arT]
   rw [this]
   obtain ⟨h1, h2, h3⟩ := ha
   by_cases e : (l.getD k dS).2.1 + 1 = d.2.2.2.2
   ·rw [e]; split <;> rfl
   ·rw [if_pos ⟨h1, by omega, h3⟩]
  ·have ih := ar_first ok h ha (m := m) (by omega) (by omega)
   have := asc_le ok (i := k) (k := m) (by omega) (by omega)
   simp only [arT]
   rw [if_neg, ih]
   rintro ⟨h1, h2, h3⟩
   omega
def arrM (hn : Int) (ls : List Lnk) (l : List Snd) (d : Dem) : Int × Int :=
 if servesM hn ls l d ≠ 0 then (0, servesM hn ls l d) else if d.2.2.1 ≤ haveM ls l d d.2.1 d.2.2.2.1 then (d.2.2.2.1, 0) else (arT ls l d l.length, 0)
theorem serves_zero {hn : Int} {ls : List Lnk} {l : List Snd} {d : Dem} (h : servesM hn ls l d = 0) : OKr hn ls l ∧ demM hn d = true ∧ fitM hn ls l = 0 ∧ svR ls l d l.length = false ∧ d.2.2.1 ≤ haveM ls l d d.2.1 d.2.2.2.2 := by
 unfold servesM at h
 split at h
 ·contradiction
 ·rename_i h1
  split at h
  ·cases h
  ·rename_i h2
   split at h
   ·contradiction
   ·rename_i h3
    split at h
    ·cases h
    ·rename_i h4
     split at h
     ·cases h
     ·rename_i h5
      exact ⟨right_zero.1 (Classical.not_not.1 h1), by simpa using h2, Classical.not_not.1 h3, by simpa using h4, by omega⟩
theorem dem_order {hn : Int} {d : Dem} (h : demM hn d = true) : 0 ≤ d.2.2.2.1 ∧ d.2.2.2.1 ≤ d.2.2.2.2 ∧ d.2.2.2.2 ≤ 1000000 := by
 simp only [demM, Bool.and_eq_true, decide_eq_true_eq] at h
 exact h.2.2.2
noncomputable def A_at : (Int) × (List Lnk) × (List Snd) × (Dem) × (Int) → List PV := fun (hn, ls, l, d, t) => [I t, .vptr [I d.1, I d.2.1, I d.2.2.1, I d.2.2.2.1, I d.2.2.2.2] 0, .vptr [I hn, lnks ls] 0, .vptr [snds l] 0]
noncomputable def R_at : (Int) × (List Lnk) × (List Snd) × (Dem) × (Int) → PV := fun (hn, ls, l, d, t) => B (decide (atM ls l d t))
def H_at : (Int) × (List Lnk) × (List Snd) × (Dem) × (Int) → Prop := fun (hn, ls, l, d, t) => OKr hn ls l ∧ demB d
noncomputable def e_at : Nat × Ent := (37, .v (specOf A_at R_at H_at))
theorem j_at : ∀ i j, A_at i = A_at j → i = j := by
 rintro ⟨hn₁, ls₁, l₁, d₁, t₁⟩ ⟨hn₂, ls₂, l₂, d₂, t₂⟩ h
 simp only [A_at, List.cons.injEq, and_true, PV.lits.injEq, PV.int.injEq, PV.bool.injEq, PV.str.injEq, PV.agg.injEq, PV.func.injEq, Fn.func.injEq, PV.vptr.injEq, true_and, List.map_nil, inj_ints, inj_strs, inj_its, inj_arcs, inj_snds, inj_lnks] at h
 simp [Prod.ext_iff, h] <;> omega
theorem s_at (hn : Int) (ls : List Lnk) (l : List Snd) (d : Dem) (t : Int) : specOf A_at R_at H_at [I t, .vptr [I d.1, I d.2.1, I d.2.2.1, I d.2.2.2.1, I d.2.2.2.2] 0, .vptr [I hn, lnks ls] 0, .vptr [snds l] 0] = @ite (Option (PV)) (OKr hn ls l ∧ demB d) (Classical.propDecidable _) (some (B (decide (atM ls l d t)))) none := specOf_if j_at (hn, ls, l, d, t)
def C_at : Prop := ∀ (hn : Int) (ls : List Lnk) (l : List Snd) (d : Dem) (t : Int) (h : OKr hn ls l ∧ demB d) , VC Try.prog 37 [I t, .vptr [I d.1, I d.2.1, I d.2.2.1, I d.2.2.2.1, I d.2.2.2.2] 0, .vptr [I hn, lnks ls] 0, .vptr [snds l] 0] (B (decide (atM ls l d t)))
def O_at : Prop := EntOK Try.prog e_at.1 e_at.2
theorem k_at (c : C_at) : O_at := specOf_ok fun ⟨hn, ls, l, d, t⟩ h => c hn ls l d t h
theorem c_at : C_at := by
 rintro hn ls l d t ⟨ok, hdb⟩
 refine vc_ofU mixed (l := [e_stock]) ((eok_cons o_stock eok_nil)) [23] []  Try.func37 rfl (by decide +kernel) (N := 28) rfl (by simp) rfl (by kernel_rfl) fun hs => ?_
 simp only [smallL, PV.small, List.length_map, and_true, true_and] at hs
 generalize hr : decide (atM ls l d t) = r
 by_cases h1 : d.2.2.2.1 ≤ t
 case neg =>
  rw [decide_eq_false (fun h => h1 h.1)] at hr
  subst hr
  simp +contextual (maxSteps := 4000000) only [↓ur_seq, ↓ur_ret, ↓ur_region, ↓cont_seq, ↓done_nil, ↓ops_consN, ↓ops_guardN, nY_move, nY_assign, nY_pick, nY_load, nY_binOp, nilO_tmp, nY_fieldAddr, nY_callf, ↓ops_nil, opsIf_some, guardC_ft, Option.map_some, Option.bind_some, Option.getD_some, Nat.reduceLT, Bool.false_eq_true, ↓upd_same, ↓upd_ne, Nat.reduceBEq, and_true, List.getD_cons_zero, List.getD_cons_succ, List.getElem?_toArray, List.getElem?_cons_zero, List.getElem?_cons_succ, endQ, cfg_P, cfg_frz, List.contains_nil, decide_false, Option.some.injEq, exists_eq_left', Nat.zero_add, Nat.reduceAdd, Nat.lt_succ_self, Bool.not_false, st0, DRx_bool, ↓ev_tmp, ↓ev_bool, ↓guardP_eq, grd_some, ↓iop_move, ↓iop_assign, ↓pick3_bool, ↓iop_pick, ↓iop_load, ↓iop_binOp, ↓iop_fieldAddr, pickP_f, loadP_vptr, fieldP_vptr, b_geq, env0_eq, ires_eq, iresL_1, iresAll_nil, iresAll_cons, iresOne_tmp, ↓reduceIte, see_eq, e_stock, nth_its, pur_its, nth_arcs, pur_arcs, nth_snds, pur_snds, nth_lnks, pur_lnks, lkC_len, lkC_0, lkC_1, lkC_cap, lkC_pri, lkC_take, pur_lkC, Nat.mul_one, Try.f37, ty3, ty27, h1]
 by_cases h2 : t ≤ d.2.2.2.2
 case neg =>
  rw [decide_eq_false (fun h => h2 h.2.1)] at hr
  subst hr
  simp +contextual (maxSteps := 4000000) only [↓ur_seq, ↓ur_ret, ↓ur_region, ↓cont_seq, ↓done_nil, ↓ops_consN, ↓ops_guardN, nY_move, nY_assign, nY_pick, nY_load, nY_binOp, nilO_tmp, nY_fieldAddr, nY_callf, ↓ops_nil, opsIf_some, guardC_tt, guardC_ft, Option.map_some, Option.bind_some, Option.getD_some, Nat.reduceLT, Bool.false_eq_true, ↓upd_same, ↓upd_ne, Nat.reduceBEq, and_true, List.getD_cons_zero, List.getD_cons_succ, List.getElem?_toArray, List.getElem?_cons_zero, List.getElem?_cons_succ, endQ, cfg_P, cfg_frz, List.contains_nil, decide_true, decide_false, Option.some.injEq, exists_eq_left', Nat.zero_add, Nat.reduceAdd, Nat.lt_succ_self, Bool.not_false, st0, DRx_bool, ↓ev_tmp, ↓ev_bool, ↓guardP_eq, grd_some, ↓iop_move, ↓iop_assign, ↓pick3_bool, ↓iop_pick, ↓iop_load, ↓iop_binOp, ↓iop_fieldAddr, pickP_f, loadP_vptr, fieldP_vptr, b_leq, b_geq, env0_eq, ires_eq, iresL_1, iresAll_nil, iresAll_cons, iresOne_tmp, ↓reduceIte, see_eq, e_stock, nth_its, pur_its, nth_arcs, pur_arcs, nth_snds, pur_snds, nth_lnks, pur_lnks, lkC_len, lkC_0, lkC_1, lkC_cap, lkC_pri, lkC_take, pur_lkC, Nat.mul_one, Try.f37, ty3, ty27, h1, h2]
 by_cases h3 : d.2.2.1 ≤ haveM ls l d d.2.1 t
 case neg =>
  rw [decide_eq_false (fun h => h3 h.2.2)] at hr
  subst hr
  simp +contextual (maxSteps := 4000000) only [↓ur_seq, ↓ur_ret, ↓ur_region, ↓cont_seq, ↓done_nil, ↓ops_consN, ↓ops_guardN, nY_move, nY_assign, nY_pick, nY_load, nY_binOp, nilO_tmp, nY_fieldAddr, nY_callf, ↓ops_nil, opsIf_some, guardC_tt, Option.map_some, Option.bind_some, Option.getD_some, Nat.reduceLT, Bool.false_eq_true, ↓upd_same, ↓upd_ne, Nat.reduceBEq, and_true, List.getD_cons_zero, List.getD_cons_succ, List.getElem?_toArray, List.getElem?_cons_zero, List.getElem?_cons_succ, endQ, cfg_P, cfg_tab, cfg_muts, cfg_frz, List.contains_cons, List.contains_nil, Bool.or_false, decide_true, decide_false, Option.some.injEq, exists_eq_left', List.lookup_cons, List.lookup_nil, tabOf_cons, tab_v, Bool.and_self, List.nil_append, List.append_nil, List.length_cons, List.length_nil, Nat.zero_add, List.drop_zero, Nat.reduceAdd, Nat.lt_succ_self, Bool.not_false, st0, Nat.le_refl, pur_int, pur_lits, pur_agg, DRx_bool, ↓ev_tmp, ↓ev_bool, ↓ev_func, ↓guardP_eq, grd_some, ↓iop_move, ↓iop_assign, ↓pick3_bool, ↓iop_pick, ↓iop_load, ↓iop_binOp, ↓iop_fieldAddr, ↓iop_callv, nrmAll_cons, nrmAll_nil, nrm_agg, nrmL_cons, nrmL_nil, nrm_int, nrm_lits, nrm1_int, nrm1_lits, pickP_f, pickP_t, loadP_vptr, fieldP_vptr, b_leq, b_geq, env0_eq, ires_eq, iresL_1, iresAll_nil, iresAll_cons, iresOne_tmp, valT_eq, pursL_cons, pursL_nil, ↓reduceIte, callP_eq, tsOf_eq, List.take_succ_cons, List.take_nil, ↓evs_cons, ↓evs_nil, beq_self_eq_true, see_eq, and_false, Bool.true_eq_false, e_stock, s_stock, nth_its, pur_its, nth_arcs, pur_arcs, nth_snds, pur_snds, nth_lnks, pur_lnks, lkC_len, lkC_0, lkC_1, lkC_cap, lkC_pri, lkC_take, pur_lkC, Nat.mul_one, Try.f37, ty3, ty24, ty25, ty27, h1, h2, h3, ok, hdb]
 rw [decide_eq_true (show atM ls l d t from ⟨h1, h2, h3⟩)] at hr
 subst hr
 simp +contextual (maxSteps := 4000000) only [↓ur_seq, ↓ur_ret, ↓ur_region, ↓cont_seq, ↓done_nil, ↓ops_consN, ↓ops_guardN, nY_move, nY_assign, nY_pick, nY_load, nY_binOp, nilO_tmp, nY_fieldAddr, nY_callf, ↓ops_nil, opsIf_some, guardC_tt, Option.map_some, Option.bind_some, Option.getD_some, Nat.reduceLT, Bool.false_eq_true, ↓upd_same, ↓upd_ne, Nat.reduceBEq, and_true, List.getD_cons_zero, List.getD_cons_succ, List.getElem?_toArray, List.getElem?_cons_zero, List.getElem?_cons_succ, endQ, cfg_P, cfg_tab, cfg_muts, cfg_frz, List.contains_cons, List.contains_nil, Bool.or_false, decide_true, Option.some.injEq, exists_eq_left', List.lookup_cons, List.lookup_nil, tabOf_cons, tab_v, Bool.and_self, List.nil_append, List.append_nil, List.length_cons, List.length_nil, Nat.zero_add, List.drop_zero, Nat.reduceAdd, Nat.lt_succ_self, Bool.not_false, st0, Nat.le_refl, pur_int, pur_lits, pur_agg, DRx_bool, ↓ev_tmp, ↓ev_bool, ↓ev_func, ↓guardP_eq, grd_some, ↓iop_move, ↓iop_assign, ↓pick3_bool, ↓iop_pick, ↓iop_load, ↓iop_binOp, ↓iop_fieldAddr, ↓iop_callv, nrmAll_cons, nrmAll_nil, nrm_agg, nrmL_cons, nrmL_nil, nrm_int, nrm_lits, nrm1_int, nrm1_lits, pickP_f, pickP_t, loadP_vptr, fieldP_vptr, b_leq, b_geq, env0_eq, ires_eq, iresL_1, iresAll_nil, iresAll_cons, iresOne_tmp, valT_eq, pursL_cons, pursL_nil, ↓reduceIte, callP_eq, tsOf_eq, List.take_succ_cons, List.take_nil, ↓evs_cons, ↓evs_nil, beq_self_eq_true, see_eq, and_false, Bool.true_eq_false, e_stock, s_stock, nth_its, pur_its, nth_arcs, pur_arcs, nth_snds, pur_snds, nth_lnks, pur_lnks, lkC_len, lkC_0, lkC_1, lkC_cap, lkC_pri, lkC_take, pur_lkC, Nat.mul_one, Try.f37, ty3, ty24, ty25, ty27, h1, h2, h3, ok, hdb]
theorem o_at : O_at := k_at c_at
noncomputable def A_arrives : (Int) × (List Lnk) × (List Snd) × (Dem) → List PV := fun (hn, ls, l, d) => [.agg [I hn, lnks ls], snds l, demV d]
noncomputable def R_arrives : (Int) × (List Lnk) × (List Snd) × (Dem) → PV := fun (hn, ls, l, d) => .tuple [I (arrM hn ls l d).1, I (arrM hn ls l d).2]
def H_arrives : (Int) × (List Lnk) × (List Snd) × (Dem) → Prop := fun (hn, ls, l, d) => True
noncomputable def e_arrives : Nat × Ent := (22, .v (specOf A_arrives R_arrives H_arrives))
theorem j_arrives : ∀ i j, A_arrives i = A_arrives j → i = j := by
 rintro ⟨hn₁, ls₁, l₁, d₁⟩ ⟨hn₂, ls₂, l₂, d₂⟩ h
 simp only [A_arrives, List.cons.injEq, and_true, PV.lits.injEq, PV.int.injEq, PV.bool.injEq, PV.str.injEq, PV.agg.injEq, PV.func.injEq, Fn.func.injEq, PV.vptr.injEq, true_and, List.map_nil, inj_ints, inj_strs, inj_its, inj_arcs, inj_snds, inj_lnks] at h
 simp [Prod.ext_iff, h] <;> omega
theorem s_arrives (hn : Int) (ls : List Lnk) (l : List Snd) (d : Dem) : specOf A_arrives R_arrives H_arrives [.agg [I hn, lnks ls], snds l, demV d] = some (.tuple [I (arrM hn ls l d).1, I (arrM hn ls l d).2]) := specOf_app j_arrives (i := (hn, ls, l, d)) trivial
def C_arrives : Prop := ∀ (hn : Int) (ls : List Lnk) (l : List Snd) (d : Dem) , VC Try.prog 22 [.agg [I hn, lnks ls], snds l, demV d] (.tuple [I (arrM hn ls l d).1, I (arrM hn ls l d).2])
def O_arrives : Prop := EntOK Try.prog e_arrives.1 e_arrives.2
theorem k_arrives (c : C_arrives) : O_arrives := specOf_ok fun ⟨hn, ls, l, d⟩ h => c hn ls l d
theorem c_arrives : C_arrives := by
 intro hn ls l d
 refine vc_ofU mixed (l := [e_serves, e_at]) ((eok_cons o_serves (eok_cons o_at eok_nil))) [] []  Try.func22 rfl (by decide +kernel) (N := 43) rfl (by simp) rfl (by kernel_rfl) fun hs => ?_
 simp only [smallL, PV.small, List.length_map, and_true, true_and] at hs
 by_cases h : servesM hn ls l d = 0
 case neg =>
  rw [show arrM hn ls l d = (0, servesM hn ls l d) by simp [arrM, h]]
  generalize hr : servesM hn ls l d = r at *
  simp +contextual (maxSteps := 4000000) only [↓ur_seq, ↓ur_ret, ↓ur_region, ↓ur_cond, ↓cont_seq, ↓done_nil, ↓done_seq, ↓ops_consN, nY_move, nY_assign, nY_box, nY_load, nY_binOp, nilO_int, nY_callf, ↓ops_nil, opsIf_some, condC_true, Option.map_some, Option.bind_some, Option.getD_some, Nat.reduceLT, Bool.false_eq_true, ↓upd_same, ↓upd_ne, Nat.reduceBEq, and_true, List.getD_cons_zero, List.getD_cons_succ, List.getElem?_cons_zero, endQ, cfg_P, cfg_tab, cfg_muts, cfg_frz, List.contains_nil, decide_true, Option.some.injEq, exists_eq_left', List.lookup_cons, List.lookup_nil, tabOf_cons, tab_v, Bool.and_self, List.nil_append, List.append_nil, List.length_cons, List.length_nil, Nat.zero_add, List.drop_zero, Nat.reduceAdd, Nat.lt_succ_self, Bool.not_false, not_false_eq_true, st0, Nat.le_refl, pur_int, cells_lits, pur_lits, cells_agg, pur_agg, DRx_int, DRx_tuple, DRxL_cons, DRxL_nil, ↓ev_tmp, ↓ev_int, ↓ev_func, ↓iop_move, ↓iop_assign, ↓iop_box, ↓iop_load, ↓iop_binOp, ↓iop_callv, nrmAll_cons, nrmAll_nil, nrm_agg, nrmL_cons, nrmL_nil, nrm_lits, nrm1_int, nrm1_lits, pickP_f, pickP_t, loadP_vptr, b_neq, env0_eq, ires_eq, iresL_2, iresAll_nil, iresAll_cons, iresOne_tmp, valT_eq, pursL_cons, pursL_nil, ↓reduceIte, callP_eq, tsOf_eq, boxP_eq, List.take_succ_cons, List.take_nil, ↓evs_cons, ↓evs_nil, beq_self_eq_true, see_eq, and_false, Bool.true_eq_false, e_serves, s_serves, e_at, nth_its, pur_its, nth_arcs, pur_arcs, nth_snds, pur_snds, nth_lnks, pur_lnks, lkC_len, lkC_0, lkC_1, lkC_cap, lkC_pri, lkC_take, pur_lkC, Nat.mul_one, Try.f22, ty24, ty25, ty27, h, hr]
 obtain ⟨ok, hd, _, _, _⟩ := serves_zero h
 have hdb := demM_B hd
 have hdo := dem_order hd
 have hlen := ok.len
 by_cases h1 : d.2.2.1 ≤ haveM ls l d d.2.1 d.2.2.2.1
 ·have ha : atM ls l d d.2.2.2.1 := ⟨Int.le_refl _, hdo.2.1, h1⟩
  rw [show arrM hn ls l d = (d.2.2.2.1, 0) by simp [arrM, h, h1]]
  simp +contextual (maxSteps := 4000000) only [↓ur_skip, ↓ur_seq, ↓ur_ret, ↓ur_region, ↓ur_cond, ↓cont_seq, ↓done_nil, ↓done_seq, ↓ops_consN, nY_move, nY_assign, nY_box, nY_load, nY_binOp, nilO_int, nY_makeFunc, nY_fieldAddr, nY_callf, nY_callt, isNone_none, cfg_yl, ↓ops_nil, opsIf_some, condC_true, condC_false, Option.map_some, Option.bind_some, Option.getD_some, Nat.reduceLT, Bool.false_eq_true, ↓upd_same, ↓upd_ne, Nat.reduceBEq, and_true, List.getD_cons_zero, List.getD_cons_succ, List.getElem?_cons_zero, List.getElem?_cons_succ, endQ, cfg_P, cfg_tab, cfg_muts, cfg_frz, List.contains_nil, decide_true, decide_false, Option.some.injEq, exists_eq_left', List.lookup_cons, List.lookup_nil, tabOf_cons, tab_v, Bool.and_self, Nat.reduceEqDiff, List.cons_append, List.nil_append, List.append_nil, List.length_cons, List.length_nil, Nat.zero_add, List.drop_zero, Nat.reduceAdd, Nat.lt_succ_self, Bool.not_false, not_true_eq_false, st0, Nat.le_refl, pur_int, pur_vptr, cells_lits, pur_lits, cells_agg, pur_agg, DRx_int, DRx_tuple, DRxL_cons, DRxL_nil, ↓ev_tmp, ↓ev_int, ↓ev_func, ↓iop_move, ↓iop_assign, ↓iop_box, ↓iop_load, ↓iop_binOp, ↓iop_makeFunc, ↓iop_fieldAddr, ↓iop_callv, nrmAll_cons, nrmAll_nil, nrm_agg, nrmL_cons, nrmL_nil, nrm_int, nrm_lits, nrm1_int, nrm1_lits, pickP_f, pickP_t, loadP_vptr, fieldP_vptr, b_neq, env0_eq, ires_eq, iresL_2, iresAll_nil, iresAll_cons, iresOne_tmp, valT_eq, pursL_cons, pursL_nil, ↓reduceIte, callP_eq, tsOf_eq, boxP_eq, List.take_succ_cons, List.take_nil, ↓evs_cons, ↓evs_nil, beq_self_eq_true, see_eq, and_false, Bool.true_eq_false, e_serves, s_serves, e_at, s_at, nth_its, pur_its, nth_arcs, pur_arcs, nth_snds, pur_snds, nth_lnks, pur_lnks, lkC_len, lkC_0, lkC_1, lkC_cap, lkC_pri, lkC_take, pur_lkC, Nat.mul_one, Try.f22, ty3, ty24, ty25, ty27, h, ok, hdb, ha]
 have ha : ¬ atM ls l d d.2.2.2.1 := fun h => h1 h.2.2
 rw [show arrM hn ls l d = (arT ls l d l.length, 0) by simp [arrM, h, h1]]
 generalize hr : arT ls l d l.length = r
 simp +contextual (maxSteps := 4000000) only [↓ur_skip, ↓ur_seq, ↓ur_block, ↓ur_region, ↓ur_cond, ↓cont_seq, ↓ops_consN, nY_move, nY_assign, nY_box, nY_load, nY_binOp, nilO_int, nY_makeFunc, nY_fieldAddr, nY_callf, nY_callb, nY_callt, isNone_none, cfg_yl, ↓ops_nil, opsIf_some, condC_false, Option.map_some, Option.bind_some, Option.getD_some, Nat.reduceLT, Bool.false_eq_true, ↓upd_same, ↓upd_ne, Nat.reduceBEq, true_and, and_true, List.getD_cons_zero, List.getD_cons_succ, List.getElem?_cons_zero, List.getElem?_cons_succ, cfg_P, cfg_tab, cfg_muts, cfg_frz, List.length_map, List.contains_nil, decide_false, List.lookup_cons, List.lookup_nil, tabOf_cons, tab_v, Bool.and_self, Nat.reduceEqDiff, List.cons_append, List.nil_append, List.append_nil, List.length_cons, List.length_nil, Nat.zero_add, List.drop_zero, Nat.reduceAdd, Nat.lt_succ_self, Bool.not_false, not_true_eq_false, st0, Nat.le_refl, pur_int, pur_vptr, cells_lits, pur_lits, cells_agg, pur_agg, ↓ev_tmp, ↓ev_int, ↓ev_func, ↓iop_move, ↓iop_assign, ↓iop_box, ↓iop_load, ↓iop_binOp, ↓iop_makeFunc, ↓iop_fieldAddr, ↓iop_callv, ↓iop_callb, nrmAll_cons, nrmAll_nil, bi_len, lenM_none, nrm_agg, nrmL_cons, nrmL_nil, nrm_int, nrm_lits, nrm1_int, nrm1_lits, pickP_f, pickP_t, loadP_vptr, fieldP_vptr, lenP_lits, b_neq, env0_eq, valT_eq, pursL_cons, pursL_nil, ↓reduceIte, callP_eq, tsOf_eq, boxP_eq, List.take_succ_cons, List.take_nil, ↓evs_cons, ↓evs_nil, beq_self_eq_true, see_eq, and_false, Bool.true_eq_false, e_serves, s_serves, e_at, s_at, nth_its, pur_its, nth_arcs, pur_arcs, nth_snds, pur_snds, nth_lnks, pur_lnks, lkC_len, lkC_0, lkC_1, lkC_cap, lkC_pri, lkC_take, pur_lkC, Nat.mul_one, Try.f22, ty3, ty24, ty25, ty27, h, ok, hdb, ha]
 refine loop_cnt [6, 7, 11, 28, 29, 30, 31, 32, 33, 34, 35, 36, 37, 38, 39, 40] l.length (fun k ρ st' => ρ 28 = I k ∧ ∀ j, j < k → ¬ atM ls l d ((l.getD j dS).2.1 + 1)) (.refl _) ?_ ?_
 ·simp +contextual (maxSteps := 4000000) only [↓upd_same, true_and, Int.cast_ofNat_Int, nth_its, pur_its, nth_arcs, pur_arcs, nth_snds, pur_snds, nth_lnks, pur_lnks, lkC_len, lkC_0, lkC_1, lkC_cap, lkC_pri, lkC_take, pur_lkC, Nat.mul_one, Try.f22]
  intro j hj; omega
 ·rintro k ρ ⟨ob, M⟩ hk ⟨h28, hz⟩
  by_cases hlt : k < l.length
  ·have hw1 := wrapN hlt hlen
   have ht := ok.tick k hlt
   have hfirst := fun ha => ar_first ok hz ha (m := l.length) hlt (Nat.le_refl _)
   have hnext : ¬ atM ls l d ((l.getD k dS).2.1 + 1) → ∀ j, j < k + 1 → ¬ atM ls l d ((l.getD j dS).2.1 + 1) := fun e j hj => by
    by_cases hjk : j = k
    ·subst hjk; exact e
    ·exact hz j (by omega)
   generalize hx : l.getD k dS = x at *
   have hwt : IntKind.i64.wrap (x.2.1 + 1) = x.2.1 + 1 := wrap64 (by omega) (by omega)
   by_cases hc : atM ls l d (x.2.1 + 1)
   ·have hfirst := hfirst hc
    rw [hr] at hfirst
    simp +contextual (maxSteps := 4000000) only [↓ur_skip, ↓ur_seq, ↓ur_block, ↓ur_ret, ↓ur_region, ↓ur_cond, ↓cont_seq, ↓done_nil, ↓done_seq, ↓done_blk, ↓done_lp, ↓ops_consN, nY_move, nY_assign, nY_alloc, nY_load, nY_store, nY_binOp, nilO_tmp, nilO_int, nY_fieldAddr, nY_indexAddr, nY_callt, isNone_none, cfg_yl, ↓ops_nil, opsIf_some, opsIf_none, condC_true, Option.map_some, Option.bind_some, Option.getD_some, Nat.reduceLT, Bool.false_eq_true, ↓upd_same, ↓upd_ne, Nat.reduceBEq, and_true, List.getElem?_cons_zero, List.getElem?_cons_succ, endQ, cfg_P, cfg_tab, cfg_muts, cfg_frz, cfg_num, numOf_eq, List.length_map, ↓havoc_in, ↓havoc_out, List.contains_cons, List.contains_nil, Bool.or_false, Bool.or_true, Int.natCast_nonneg, Int.ofNat_lt, Int.toNat_natCast, decide_true, decide_false, Option.some.injEq, exists_eq_left', tabOf_cons, tab_v, Bool.and_true, Bool.and_self, Nat.reduceEqDiff, List.cons_append, List.nil_append, List.append_nil, updO_same, List.length_cons, List.length_nil, Nat.zero_add, List.drop_zero, List.take_zero, Nat.not_succ_le_self, Nat.reduceAdd, List.set_cons_zero, nth_zero, Nat.lt_succ_self, Bool.not_false, or_false, Nat.le_refl, pur_int, pur_vptr, pur_lits, cells_agg, DRx_int, DRx_tuple, DRxL_cons, DRxL_nil, ↓ev_tmp, ↓ev_int, ↓iop_move, ↓iop_assign, ↓iop_alloc, ↓iop_load, ↓iop_store, ↓iop_binOp, ↓iop_fieldAddr, ↓iop_indexAddr, idxA_int, ↓iop_callv, tmpNo_tmp, softS_ptr, heldS_ptr, isInt1_int, isInt_agg, List.all_cons, List.all_nil, nrmAll_cons, nrmAll_nil, nrm_int, pickP_f, pickP_t, loadP_vptr, loadP_ptr, setCells_agg, storeP_ptr, fieldP_ptr, indexP_lits, b_add, b_lss, splice_eq, ires_eq, iresL_2, iresAll_nil, iresAll_cons, iresOne_tmp, valT_eq, pursL_cons, pursL_nil, Store.new, Store.set, ↓reduceIte, arr_eq, arrB_some, callP_eq, tsOf_eq, beq_eq_false_iff_ne, ne_eq, List.take_succ_cons, List.drop_succ_cons, List.drop_nil, List.take_nil, ↓evs_cons, ↓evs_nil, beq_self_eq_true, List.all_cons, List.all_nil, see_eq, false_and, and_false, Bool.true_eq_false, s_at, nth_its, pur_its, nth_arcs, pur_arcs, nth_snds, pur_snds, nth_lnks, pur_lnks, lkC_len, lkC_0, lkC_1, lkC_cap, lkC_pri, lkC_take, pur_lkC, Nat.mul_one, Try.f22, ty3, ty25, ty56, h28, hlt, hx, hwt, hc, ok, hdb, hfirst]
   ·have hnext := hnext hc
    simp +contextual (maxSteps := 4000000) only [↓ur_skip, ↓ur_seq, ↓ur_block, ↓ur_region, ↓ur_cond, ↓cont_seq, ↓cont_blk, ↓cont_lp, ↓ops_consN, nY_move, nY_alloc, nY_load, nY_store, nY_binOp, nilO_tmp, nilO_int, nY_fieldAddr, nY_indexAddr, nY_callt, isNone_none, cfg_yl, ↓ops_nil, opsIf_some, opsIf_none, condC_true, condC_false, Option.map_some, Option.bind_some, Option.getD_some, Nat.reduceLT, Bool.false_eq_true, ↓upd_same, ↓upd_ne, Nat.reduceBEq, true_and, and_true, List.getElem?_cons_zero, List.getElem?_cons_succ, cfg_P, cfg_tab, cfg_muts, cfg_frz, cfg_num, numOf_eq, List.length_map, ↓havoc_in, ↓havoc_out, agree_upd, agree_havoc, List.contains_cons, List.contains_nil, Bool.or_false, Bool.or_true, Int.natCast_nonneg, Int.ofNat_lt, Int.toNat_natCast, decide_true, decide_false, tabOf_cons, tab_v, Bool.and_true, Bool.and_self, Nat.reduceEqDiff, List.cons_append, List.nil_append, List.append_nil, updO_same, List.length_cons, List.length_nil, Nat.zero_add, List.drop_zero, List.take_zero, Nat.not_succ_le_self, Nat.reduceAdd, List.set_cons_zero, nth_zero, Nat.lt_succ_self, Bool.not_false, or_false, Nat.le_refl, pur_int, pur_vptr, pur_lits, cells_agg, ↓ev_tmp, ↓ev_int, ↓iop_move, ↓iop_alloc, ↓iop_load, ↓iop_store, ↓iop_binOp, ↓iop_fieldAddr, ↓iop_indexAddr, idxA_int, ↓iop_callv, tmpNo_tmp, softS_ptr, heldS_ptr, isInt1_int, isInt_agg, List.all_cons, List.all_nil, nrmAll_cons, nrmAll_nil, nrm_int, pickP_f, pickP_t, loadP_vptr, loadP_ptr, setCells_agg, storeP_ptr, fieldP_ptr, indexP_lits, b_add, b_lss, splice_eq, valT_eq, pursL_cons, pursL_nil, Store.new, Store.set, ↓reduceIte, arr_eq, arrB_some, callP_eq, tsOf_eq, beq_eq_false_iff_ne, ne_eq, List.take_succ_cons, List.drop_succ_cons, List.drop_nil, List.take_nil, ↓evs_cons, ↓evs_nil, beq_self_eq_true, List.all_cons, List.all_nil, see_eq, false_and, and_false, Bool.true_eq_false, s_at, nth_its, pur_its, nth_arcs, pur_arcs, nth_snds, pur_snds, nth_lnks, pur_lnks, lkC_len, lkC_0, lkC_1, lkC_cap, lkC_pri, lkC_take, pur_lkC, Nat.mul_one, Try.f22, ty3, ty25, ty56, h28, hlt, hx, hwt, hc, ok, hdb, hw1]
    exact hnext
  ·have e : k = l.length := by omega
   subst e
   rw [ar_none hz] at hr
   simp +contextual (maxSteps := 4000000) only [↓ur_seq, ↓ur_exit, ↓ur_ret, ↓ur_region, ↓ur_cond, ↓cont_seq, ↓leave_seq, ↓leave_blk, ↓leave_lp, ↓done_nil, ↓ops_consN, nY_assign, nY_load, nY_binOp, nilO_tmp, nY_fieldAddr, ↓ops_nil, opsIf_some, condC_false, Option.map_some, Option.bind_some, Option.getD_some, Nat.reduceLT, Bool.false_eq_true, ↓upd_same, ↓upd_ne, Nat.reduceBEq, and_true, List.getElem?_cons_zero, List.getElem?_cons_succ, endQ, cfg_P, cfg_frz, ↓havoc_in, ↓havoc_out, List.contains_cons, List.contains_nil, Bool.or_false, Bool.or_true, Int.ofNat_lt, decide_false, Option.some.injEq, exists_eq_left', Nat.zero_add, Nat.reduceAdd, Nat.lt_irrefl, Nat.lt_succ_self, Bool.not_false, DRx_int, DRx_tuple, DRxL_cons, DRxL_nil, ↓ev_tmp, ↓ev_int, ↓iop_assign, ↓iop_load, ↓iop_binOp, ↓iop_fieldAddr, pickP_f, loadP_vptr, fieldP_vptr, b_lss, ires_eq, iresL_2, iresAll_nil, iresAll_cons, iresOne_tmp, ↓reduceIte, beq_self_eq_true, see_eq, nth_its, pur_its, nth_arcs, pur_arcs, nth_snds, pur_snds, nth_lnks, pur_lnks, lkC_len, lkC_0, lkC_1, lkC_cap, lkC_pri, lkC_take, pur_lkC, Nat.mul_one, Try.f22, ty3, ty27, h28, hr]
theorem o_arrives : O_arrives := k_arrives c_arrives
end Sim
