/- What functions of this seat compute, by values: contracts (lemmas of the statement's proof, under the conditions that each names). -/
import Derived.Test.YtmgklnbhbomlnaaQM2
import Derived.Test.YtmgklnbhbomlnaaQN4
namespace Sim
open Go Go.Proofs
set_option maxRecDepth 10000
set_option maxHeartbeats 2000000
set_option linter.unusedVariables false
set_option linter.unusedSimpArgs false
attribute [local congr] opsIf_congr condC_congr guardC_congr grd_congr pick3_congr obind_congr omap_congr nilC_congr
noncomputable def A_pr1 : Tar → List PV := fun x => [tarV x]
noncomputable def R_pr1 : Tar → PV := fun x => I x.2.1
def H_pr1 : Tar → Prop := fun x => True
noncomputable def e_pr1 : Nat × Ent := (47, .v (specOf A_pr1 R_pr1 H_pr1))
theorem j_pr1 : ∀ i j, A_pr1 i = A_pr1 j → i = j := by
  rintro x₁ x₂ h
  simp only [A_pr1, List.cons.injEq, and_true, PV.lits.injEq, PV.int.injEq, PV.bool.injEq, PV.str.injEq, PV.agg.injEq, PV.func.injEq, Fn.func.injEq, PV.vptr.injEq, true_and, List.map_nil, inj_ints, inj_strs, inj_psts, inj_tars, inj_snds, inj_uses, inj_rsts, inj_lnks, inj_tars, inj_snds, inj_uses, inj_rsts, inj_lnks] at h
  first | exact h | omega | (simp [Prod.ext_iff, h]; done)
theorem s_pr1 (x : Tar) : specOf A_pr1 R_pr1 H_pr1 [tarV x] = some (I x.2.1) := specOf_app j_pr1 (i := x) trivial
def C_pr1 : Prop := ∀ (x : Tar) , VC Try.prog 47 [tarV x] (I x.2.1)
def O_pr1 : Prop := EntOK Try.prog e_pr1.1 e_pr1.2
theorem k_pr1 (c : C_pr1) : O_pr1 := specOf_ok fun x h => c x
theorem c_pr1 : C_pr1 := by
  intro x
  refine vc_ofU mixed (l := []) (eok_nil) [] []  Try.func47 rfl (by decide +kernel) (N := 5) rfl (by simp) rfl (by kernel_rfl) fun hs => ?_
  simp only [smallL, PV.small, List.length_map, and_true, true_and] at hs
  simp +contextual (maxSteps := 4000000) only [↓ur_seq, ↓ur_ret, ↓ur_region, ↓cont_seq, ↓done_nil, ↓ops_consN, nY_assign, nY_box, nY_load, nY_fieldAddr, ↓ops_nil, opsIf_some, Option.map_some, Option.bind_some, Option.getD_some, Nat.reduceLT, Bool.false_eq_true, ↓upd_same, ↓upd_ne, Nat.reduceBEq, and_true, List.getD_cons_zero, List.getElem?_cons_zero, List.getElem?_cons_succ, endQ, cfg_P, cfg_muts, cfg_frz, List.contains_nil, Option.some.injEq, exists_eq_left', List.length_cons, List.length_nil, Nat.zero_add, Nat.reduceAdd, Nat.lt_succ_self, st0, cells_agg, DRx_int, ↓ev_tmp, ↓ev_int, ↓iop_assign, ↓iop_box, ↓iop_load, ↓iop_fieldAddr, pickP_f, loadP_vptr, fieldP_vptr, env0_eq, ires_eq, iresL_1, iresAll_nil, iresAll_cons, iresOne_tmp, ↓reduceIte, boxP_eq, see_eq, nth_psts, pur_psts, nth_tars, pur_tars, nth_snds, pur_snds, nth_uses, pur_uses, nth_rsts, pur_rsts, nth_lnks, pur_lnks, nth_tars, pur_tars, nth_snds, pur_snds, nth_uses, pur_uses, nth_rsts, pur_rsts, nth_keys, pur_keys, nth_lnks, pur_lnks, Try.f47, ty3, ty80]
theorem o_pr1 : O_pr1 := k_pr1 c_pr1
noncomputable def A_pr2 : Tar → List PV := fun x => [tarV x]
noncomputable def R_pr2 : Tar → PV := fun x => I x.2.2
def H_pr2 : Tar → Prop := fun x => True
noncomputable def e_pr2 : Nat × Ent := (48, .v (specOf A_pr2 R_pr2 H_pr2))
theorem j_pr2 : ∀ i j, A_pr2 i = A_pr2 j → i = j := by
  rintro x₁ x₂ h
  simp only [A_pr2, List.cons.injEq, and_true, PV.lits.injEq, PV.int.injEq, PV.bool.injEq, PV.str.injEq, PV.agg.injEq, PV.func.injEq, Fn.func.injEq, PV.vptr.injEq, true_and, List.map_nil, inj_ints, inj_strs, inj_psts, inj_tars, inj_snds, inj_uses, inj_rsts, inj_lnks, inj_tars, inj_snds, inj_uses, inj_rsts, inj_lnks] at h
  first | exact h | omega | (simp [Prod.ext_iff, h]; done)
theorem s_pr2 (x : Tar) : specOf A_pr2 R_pr2 H_pr2 [tarV x] = some (I x.2.2) := specOf_app j_pr2 (i := x) trivial
def C_pr2 : Prop := ∀ (x : Tar) , VC Try.prog 48 [tarV x] (I x.2.2)
def O_pr2 : Prop := EntOK Try.prog e_pr2.1 e_pr2.2
theorem k_pr2 (c : C_pr2) : O_pr2 := specOf_ok fun x h => c x
theorem c_pr2 : C_pr2 := by
  intro x
  refine vc_ofU mixed (l := []) (eok_nil) [] []  Try.func48 rfl (by decide +kernel) (N := 5) rfl (by simp) rfl (by kernel_rfl) fun hs => ?_
  simp only [smallL, PV.small, List.length_map, and_true, true_and] at hs
  simp +contextual (maxSteps := 4000000) only [↓ur_seq, ↓ur_ret, ↓ur_region, ↓cont_seq, ↓done_nil, ↓ops_consN, nY_assign, nY_box, nY_load, nY_fieldAddr, ↓ops_nil, opsIf_some, Option.map_some, Option.bind_some, Option.getD_some, Nat.reduceLT, Bool.false_eq_true, ↓upd_same, ↓upd_ne, Nat.reduceBEq, and_true, List.getD_cons_zero, List.getElem?_cons_zero, List.getElem?_cons_succ, endQ, cfg_P, cfg_muts, cfg_frz, List.contains_nil, Option.some.injEq, exists_eq_left', List.length_cons, List.length_nil, Nat.zero_add, Nat.reduceAdd, Nat.lt_succ_self, st0, cells_agg, DRx_int, ↓ev_tmp, ↓ev_int, ↓iop_assign, ↓iop_box, ↓iop_load, ↓iop_fieldAddr, pickP_f, loadP_vptr, fieldP_vptr, env0_eq, ires_eq, iresL_1, iresAll_nil, iresAll_cons, iresOne_tmp, ↓reduceIte, boxP_eq, see_eq, nth_psts, pur_psts, nth_tars, pur_tars, nth_snds, pur_snds, nth_uses, pur_uses, nth_rsts, pur_rsts, nth_lnks, pur_lnks, nth_tars, pur_tars, nth_snds, pur_snds, nth_uses, pur_uses, nth_rsts, pur_rsts, nth_keys, pur_keys, nth_lnks, pur_lnks, Try.f48, ty3, ty80]
theorem o_pr2 : O_pr2 := k_pr2 c_pr2
noncomputable def A_pr3 : Tar → List PV := fun x => [tarV x]
noncomputable def R_pr3 : Tar → PV := fun x => I 1000
def H_pr3 : Tar → Prop := fun x => True
noncomputable def e_pr3 : Nat × Ent := (49, .v (specOf A_pr3 R_pr3 H_pr3))
theorem j_pr3 : ∀ i j, A_pr3 i = A_pr3 j → i = j := by
  rintro x₁ x₂ h
  simp only [A_pr3, List.cons.injEq, and_true, PV.lits.injEq, PV.int.injEq, PV.bool.injEq, PV.str.injEq, PV.agg.injEq, PV.func.injEq, Fn.func.injEq, PV.vptr.injEq, true_and, List.map_nil, inj_ints, inj_strs, inj_psts, inj_tars, inj_snds, inj_uses, inj_rsts, inj_lnks, inj_tars, inj_snds, inj_uses, inj_rsts, inj_lnks] at h
  first | exact h | omega | (simp [Prod.ext_iff, h]; done)
theorem s_pr3 (x : Tar) : specOf A_pr3 R_pr3 H_pr3 [tarV x] = some (I 1000) := specOf_app j_pr3 (i := x) trivial
def C_pr3 : Prop := ∀ (x : Tar) , VC Try.prog 49 [tarV x] (I 1000)
def O_pr3 : Prop := EntOK Try.prog e_pr3.1 e_pr3.2
theorem k_pr3 (c : C_pr3) : O_pr3 := specOf_ok fun x h => c x
theorem c_pr3 : C_pr3 := by
  intro x
  refine vc_ofU mixed (l := []) (eok_nil) [] []  Try.func49 rfl (by decide +kernel) (N := 3) rfl (by simp) rfl (by kernel_rfl) fun hs => ?_
  simp only [smallL, PV.small, List.length_map, and_true, true_and] at hs
  simp +contextual (maxSteps := 4000000) only [↓ur_seq, ↓ur_ret, ↓ur_region, ↓cont_seq, ↓done_nil, ↓ops_consN, nY_assign, nY_box, ↓ops_nil, opsIf_some, Option.map_some, Option.bind_some, Option.getD_some, Nat.reduceLT, Bool.false_eq_true, ↓upd_same, and_true, List.getD_cons_zero, endQ, cfg_muts, List.contains_nil, Option.some.injEq, exists_eq_left', List.length_cons, List.length_nil, Nat.zero_add, Nat.reduceAdd, Nat.lt_succ_self, st0, cells_agg, DRx_int, ↓ev_tmp, ↓ev_int, ↓iop_assign, ↓iop_box, env0_eq, ires_eq, iresL_1, iresAll_nil, iresAll_cons, iresOne_tmp, ↓reduceIte, boxP_eq, nth_psts, pur_psts, nth_tars, pur_tars, nth_snds, pur_snds, nth_uses, pur_uses, nth_rsts, pur_rsts, nth_lnks, pur_lnks, nth_tars, pur_tars, nth_snds, pur_snds, nth_uses, pur_uses, nth_rsts, pur_rsts, nth_keys, pur_keys, nth_lnks, pur_lnks, Try.f49]
theorem o_pr3 : O_pr3 := k_pr3 c_pr3
/-- The cost of a use other than a move. -/
def feeN (t : List Tar) (u : Use) : Int :=
  if u.1 = 1 then u.2.2.2.1 * (u.2.2.2.2.2.1 - u.2.2.2.2.1) * (t.getD u.2.1.toNat dT).1 else if u.1 = 3 then u.2.2.2.2.2.2.1 * (t.getD u.2.1.toNat dT).2.1 else if u.1 = 4 then u.2.2.2.2.2.2.1 * (t.getD u.2.1.toNat dT).2.2 else u.2.2.2.2.2.2.1 * 1000
def chgE (t : List Tar) (hn : Int) (ls : List Lnk) (u : Use) : Int :=
  if ¬ mchkE t [u] = 0 then mchkE t [u] else if u.1 = 2 then (if ¬ fitM hn ls u.2.2.2.2.2.2.2 = 0 then fitM hn ls u.2.2.2.2.2.2.2 else if 1099511627776 < costM hn ls u.2.2.2.2.2.2.2 then 2 else 0) else 0
def chgM (t : List Tar) (hn : Int) (ls : List Lnk) (u : Use) : Int := if chgE t hn ls u = 0 then (if u.1 = 2 then 1000 * costM hn ls u.2.2.2.2.2.2.2 else feeN t u) else 0
/-- What uses are met: all. -/
def useP (hn : Int) (ls : List Lnk) (u : Use) : Prop := 0 ≤ 1
structure UseOK (t : List Tar) (u : Use) : Prop where
  tar : ∀ x ∈ t, tarO x
  len : t.length ≤ 12
  par : parO t.length u.1 u.2.1 u.2.2.1
  keep : keepO u
  cnt : cntO u
theorem mchk1 {t : List Tar} {u : Use} (h : mchkE t [u] = 0) : UseOK t u := by
  unfold mchkE at h
  by_cases c1 : 12 < t.length
  · rw [if_pos c1] at h; cases h
  rw [if_neg c1] at h
  by_cases c2 : ∀ x ∈ t, tarO x
  · rw [if_neg (fun g => g c2), if_neg (by simp)] at h
    have e : useK t.length [u] [u].length = useE t.length u := rfl
    rw [e] at h
    unfold useE at h
    by_cases p1 : parO t.length u.1 u.2.1 u.2.2.1
    · rw [if_neg (fun g => g p1)] at h
      by_cases p2 : keepO u
      · rw [if_neg (fun g => g p2)] at h
        by_cases p3 : cntO u
        · exact ⟨c2, by omega, p1, p2, p3⟩
        · rw [if_pos p3] at h; cases h
      · rw [if_pos p2] at h; cases h
    · rw [if_pos p1] at h; cases h
  · rw [if_pos c2] at h; cases h
theorem chg_mchk {t : List Tar} {hn : Int} {ls : List Lnk} {u : Use} (h : chgE t hn ls u = 0) : mchkE t [u] = 0 := by
  unfold chgE at h
  by_cases c : mchkE t [u] = 0
  · exact c
  · rw [if_pos c] at h; exact h
theorem chg_ok {t : List Tar} {hn : Int} {ls : List Lnk} {u : Use} (h : chgE t hn ls u = 0) : UseOK t u := mchk1 (chg_mchk h)
theorem mul_in {a b m n : Int} (ha : 0 ≤ a ∧ a ≤ m) (hb : 0 ≤ b ∧ b ≤ n) : 0 ≤ a * b ∧ a * b ≤ m * n :=
  ⟨Int.mul_nonneg ha.1 hb.1, Int.mul_le_mul ha.2 hb.2 hb.1 (by omega)⟩
theorem tar_at {t : List Tar} {u : Use} (ok : UseOK t u) : u.2.1.toNat < t.length ∧ tarO (t.getD u.2.1.toNat dT) := by
  have h := ok.par.2.1
  unfold inM at h
  have hl : u.2.1.toNat < t.length := by omega
  exact ⟨hl, ok.tar _ (at_mem' hl)⟩
theorem fee_le {t : List Tar} {u : Use} (ok : UseOK t u) (h2 : ¬ u.1 = 2) : 0 ≤ feeN t u ∧ feeN t u ≤ 16777216000000000 := by
  obtain ⟨_, h3⟩ := tar_at ok
  have h4 := ok.par.1
  have h5 := ok.keep
  obtain ⟨h6, h7, h8⟩ := ok.cnt
  unfold tarO inM at h3
  unfold keepO inM at h5
  unfold inM at h6 h7 h8
  unfold feeN
  by_cases c1 : u.1 = 1
  · rw [if_pos c1]
    obtain ⟨g1, g2, g3⟩ := h5 c1
    have a := mul_in (a := u.2.2.2.1) (b := u.2.2.2.2.2.1 - u.2.2.2.2.1) (m := 16777216) (n := 1000000) g1 (by omega)
    have b := mul_in (m := 16777216 * 1000000) (n := 1000) a h3.1
    omega
  · rw [if_neg c1]
    by_cases c3 : u.1 = 3
    · rw [if_pos c3]
      have b := mul_in (h6 c3) h3.2.1
      omega
    · rw [if_neg c3]
      by_cases c4 : u.1 = 4
      · rw [if_pos c4]
        have b := mul_in (h7 c4) h3.2.2
        omega
      · rw [if_neg c4]
        have := h8 (by omega)
        omega
theorem costM_nn {hn : Int} {ls : List Lnk} {l : List Snd} : 0 ≤ costM hn ls l := by
  unfold costM
  by_cases h : rightM hn ls l = 0
  · rw [if_neg (fun g => g h)]; exact (costT_le (right_zero.1 h) _ (Nat.le_refl _)).1
  · rw [if_pos h]; exact Int.le_refl _
theorem fit_right {hn : Int} {ls : List Lnk} {l : List Snd} (h : fitM hn ls l = 0) : rightM hn ls l = 0 := by
  unfold fitM at h
  by_cases c : rightM hn ls l = 0
  · exact c
  · rw [if_pos c] at h; exact h
noncomputable def A_charge : (List Tar) × (Int) × (List Lnk) × (Use) → List PV := fun (t, hn, ls, u) => [tars t, .agg [I hn, lnks ls], useV u]
noncomputable def R_charge : (List Tar) × (Int) × (List Lnk) × (Use) → PV := fun (t, hn, ls, u) => .tuple [I (chgM t hn ls u), I (chgE t hn ls u)]
def H_charge : (List Tar) × (Int) × (List Lnk) × (Use) → Prop := fun (t, hn, ls, u) => useP hn ls u
noncomputable def e_charge : Nat × Ent := (11, .v (specOf A_charge R_charge H_charge))
theorem j_charge : ∀ i j, A_charge i = A_charge j → i = j := by
  rintro ⟨t₁, hn₁, ls₁, u₁⟩ ⟨t₂, hn₂, ls₂, u₂⟩ h
  simp only [A_charge, List.cons.injEq, and_true, PV.lits.injEq, PV.int.injEq, PV.bool.injEq, PV.str.injEq, PV.agg.injEq, PV.func.injEq, Fn.func.injEq, PV.vptr.injEq, true_and, List.map_nil, inj_ints, inj_strs, inj_psts, inj_tars, inj_snds, inj_uses, inj_rsts, inj_lnks, inj_tars, inj_snds, inj_uses, inj_rsts, inj_lnks] at h
  simp [Prod.ext_iff, h] <;> omega
theorem s_charge (t : List Tar) (hn : Int) (ls : List Lnk) (u : Use) : specOf A_charge R_charge H_charge [tars t, .agg [I hn, lnks ls], useV u] = @ite (Option (PV)) (useP hn ls u) (Classical.propDecidable _) (some (.tuple [I (chgM t hn ls u), I (chgE t hn ls u)])) none := specOf_if j_charge (t, hn, ls, u)
def C_charge : Prop := ∀ (t : List Tar) (hn : Int) (ls : List Lnk) (u : Use) (h : useP hn ls u) , VC Try.prog 11 [tars t, .agg [I hn, lnks ls], useV u] (.tuple [I (chgM t hn ls u), I (chgE t hn ls u)])
def O_charge : Prop := EntOK Try.prog e_charge.1 e_charge.2
theorem k_charge (c : C_charge) : O_charge := specOf_ok fun ⟨t, hn, ls, u⟩ h => c t hn ls u h
theorem c_charge : C_charge := by
  intro t hn ls u _
  refine vc_ofU mixed (l := [e_mchk, e_prices, e_pr1, e_pr2, e_pr3, e_fits, e_cost]) ((eok_cons o_mchk (eok_cons o_prices (eok_cons o_pr1 (eok_cons o_pr2 (eok_cons o_pr3 (eok_cons o_fits (eok_cons o_cost eok_nil)))))))) [] [32, 33]  Try.func11 rfl (by decide +kernel) (N := 83) rfl (by simp) rfl (by kernel_rfl) fun hs => ?_
  simp only [smallL, PV.small, List.length_map, and_true, true_and] at hs
  have hone : PV.lits 8 [useV u] = uses [u] := rfl
  obtain ⟨E, hE⟩ : ∃ E, chgE t hn ls u = E := ⟨_, rfl⟩
  obtain ⟨R, hR⟩ : ∃ R, chgM t hn ls u = R := ⟨_, rfl⟩
  rw [hE, hR]
  by_cases he : mchkE t [u] = 0
  case neg =>
    have e1 : E = mchkE t [u] := by rw [← hE]; unfold chgE; rw [if_pos he]
    have e2 : R = 0 := by rw [← hR]; unfold chgM; rw [if_neg (by rw [hE, e1]; exact he)]
    subst e2
    rw [← e1] at he
    have e1' := e1.symm
    clear hE hR
    simp +contextual (maxSteps := 4000000) only [↓ur_seq, ↓ur_ret, ↓ur_region, ↓ur_cond, ↓cont_seq, ↓done_nil, ↓done_seq, ↓ops_consN, nY_move, nY_assign, nY_box, nY_buildSlice, nY_load, nY_binOp, nilO_int, nY_callf, ↓ops_nil, opsIf_some, condC_true, Option.map_some, Option.bind_some, Option.getD_some, Nat.reduceLT, Bool.false_eq_true, ↓upd_same, ↓upd_ne, Nat.reduceBEq, and_true, List.getD_cons_zero, List.getD_cons_succ, endQ, cfg_P, cfg_tab, cfg_muts, cfg_frz, List.map_cons, List.map_nil, List.contains_cons, List.contains_nil, Bool.or_false, decide_true, Option.some.injEq, exists_eq_left', tabOf_cons, tab_v, Bool.and_self, List.nil_append, List.append_nil, List.length_cons, List.length_nil, Nat.zero_add, List.drop_zero, Nat.reduceAdd, List.replicate_succ, List.replicate_zero, List.set_cons_zero, Nat.reduceMul, Nat.reduceLeDiff, Nat.lt_succ_self, Bool.not_false, not_false_eq_true, st0, Nat.le_refl, pur_int, pur_lits, cells_agg, pur_agg, DRx_int, DRx_tuple, DRxL_cons, DRxL_nil, ↓ev_tmp, ↓ev_int, ↓ev_func, ↓iop_move, ↓iop_assign, ↓iop_box, ↓iop_buildSlice, ↓iop_load, ↓iop_binOp, ↓iop_callv, nrmAll_cons, nrmAll_nil, nrm_lits, pickP_t, loadP_vptr, b_neq, bel_nil, bel_cons, env0_eq, ires_eq, iresL_2, iresAll_nil, iresAll_cons, iresOne_tmp, valT_eq, pursL_cons, pursL_nil, ↓reduceIte, callP_eq, tsOf_eq, boxP_eq, bslP_eq, List.take_succ_cons, List.take_nil, ↓evs_cons, ↓evs_nil, ↓evp_cons, ↓evp_nil, see_eq, and_false, Bool.true_eq_false, e_mchk, s_mchk, e_prices, e_pr1, e_pr2, e_pr3, e_fits, e_cost, nth_psts, pur_psts, nth_tars, pur_tars, nth_snds, pur_snds, nth_uses, pur_uses, nth_rsts, pur_rsts, nth_lnks, pur_lnks, nth_tars, pur_tars, nth_snds, pur_snds, nth_uses, pur_uses, nth_rsts, pur_rsts, nth_keys, pur_keys, nth_lnks, pur_lnks, Try.f11, ty23, ty27, ty34, hone, e1', he]
  have ok := mchk1 he
  obtain ⟨hl, ht⟩ := tar_at ok
  have hpar := ok.par
  have hfee := fee_le ok
  have hE2 : ¬ u.1 = 2 → E = 0 := fun h => by rw [← hE]; unfold chgE; rw [if_neg (fun g => g he), if_neg h]
  have hR2 : ¬ u.1 = 2 → R = feeN t u := fun h => by rw [← hR]; unfold chgM; rw [if_pos (by rw [hE]; exact hE2 h), if_neg h]
  have hE3 : u.1 = 2 → E = if ¬ fitM hn ls u.2.2.2.2.2.2.2 = 0 then fitM hn ls u.2.2.2.2.2.2.2 else if 1099511627776 < costM hn ls u.2.2.2.2.2.2.2 then 2 else 0 := fun h => by rw [← hE]; unfold chgE; rw [if_neg (fun g => g he), if_pos h]
  have hR3 : u.1 = 2 → R = if E = 0 then 1000 * costM hn ls u.2.2.2.2.2.2.2 else 0 := fun h => by rw [← hR]; unfold chgM; rw [hE, if_pos h]
  clear hE hR
  have hh0 : 0 ≤ u.2.1 := hpar.2.1.1
  have hhl : u.2.1 < (t.length : Int) := by have := hpar.2.1.2; omega
  have hf3 : u.1 = 3 → feeN t u = u.2.2.2.2.2.2.1 * (t.getD u.2.1.toNat dT).2.1 := fun h => by unfold feeN; rw [if_neg (by omega), if_pos h]
  have hf4 : u.1 = 4 → feeN t u = u.2.2.2.2.2.2.1 * (t.getD u.2.1.toNat dT).2.2 := fun h => by unfold feeN; rw [if_neg (by omega), if_neg (by omega), if_pos h]
  have hf5 : u.1 = 5 → feeN t u = u.2.2.2.2.2.2.1 * 1000 := fun h => by unfold feeN; rw [if_neg (by omega), if_neg (by omega), if_neg (by omega)]
  have hf1 : u.1 = 1 → feeN t u = u.2.2.2.1 * (u.2.2.2.2.2.1 - u.2.2.2.2.1) * (t.getD u.2.1.toNat dT).1 := fun h => by unfold feeN; rw [if_pos h]
  have hkp := ok.keep
  unfold keepO inM at hkp
  generalize feeN t u = F at *
  have hwF : ¬ u.1 = 2 → IntKind.i64.wrap F = F := fun h => by have := hfee h; exact wrap64 (by omega) (by omega)
  simp +contextual (maxSteps := 4000000) only [↓ur_skip, ↓ur_seq, ↓ur_block, ↓ur_region, ↓ur_cond, ↓cont_seq, ↓ops_consN, nY_move, nY_assign, nY_box, nY_buildSlice, nY_load, nY_binOp, nilO_int, nY_callf, nY_callb, ↓ops_nil, opsIf_some, condC_false, Option.map_some, Option.bind_some, Option.getD_some, Nat.reduceLT, Bool.false_eq_true, ↓upd_same, ↓upd_ne, Nat.reduceBEq, true_and, and_true, List.getD_cons_zero, List.getD_cons_succ, cfg_P, cfg_tab, cfg_muts, cfg_frz, List.map_cons, List.map_nil, List.contains_cons, List.contains_nil, Bool.or_false, decide_false, tabOf_cons, tab_v, Bool.and_self, Nat.reduceEqDiff, List.nil_append, List.append_nil, List.length_cons, List.length_nil, Nat.zero_add, List.drop_zero, Nat.reduceAdd, List.replicate_succ, List.replicate_zero, List.set_cons_zero, Nat.reduceMul, Nat.reduceLeDiff, Nat.lt_succ_self, Bool.not_false, not_true_eq_false, st0, Nat.le_refl, pur_int, pur_lits, cells_agg, pur_agg, ↓ev_tmp, ↓ev_int, ↓ev_func, ↓iop_move, ↓iop_assign, ↓iop_box, ↓iop_buildSlice, ↓iop_load, ↓iop_binOp, ↓iop_callv, ↓iop_callb, nrmAll_cons, nrmAll_nil, bi_len, lenM_none, nrm_lits, pickP_t, loadP_vptr, lenP_lits, b_neq, bel_nil, bel_cons, env0_eq, valT_eq, pursL_cons, pursL_nil, ↓reduceIte, callP_eq, tsOf_eq, boxP_eq, bslP_eq, List.take_succ_cons, List.take_nil, ↓evs_cons, ↓evs_nil, ↓evp_cons, ↓evp_nil, see_eq, and_false, Bool.true_eq_false, Int.cast_ofNat_Int, e_mchk, s_mchk, e_prices, s_prices, e_pr1, e_pr2, e_pr3, e_fits, e_cost, nth_psts, pur_psts, nth_tars, pur_tars, nth_snds, pur_snds, nth_uses, pur_uses, nth_rsts, pur_rsts, nth_lnks, pur_lnks, nth_tars, pur_tars, nth_snds, pur_snds, nth_uses, pur_uses, nth_rsts, pur_rsts, nth_keys, pur_keys, nth_lnks, pur_lnks, Try.f11, ty23, ty27, ty34, ty89, hone, he]
  refine loop_cnt [6, 7, 10, 23, 24, 25, 26, 27, 28, 29, 30, 31, 32, 33, 34, 35, 36, 37, 38, 39, 40, 41, 42, 43] 3 (fun j ρ st' => ρ 23 = I j ∧ 0 ≤ st'.next ∧ (0 < j → ¬ u.1 = 3) ∧ (1 < j → ¬ u.1 = 4) ∧ (2 < j → ¬ u.1 = 5)) (.refl _) ?_ ?_
  · simp +contextual (maxSteps := 4000000) only [Nat.reduceLT, ↓upd_same, and_true, Nat.lt_irrefl, false_implies, Nat.le_refl, Int.cast_ofNat_Int, nth_psts, pur_psts, nth_tars, pur_tars, nth_snds, pur_snds, nth_uses, pur_uses, nth_rsts, pur_rsts, nth_lnks, pur_lnks, nth_tars, pur_tars, nth_snds, pur_snds, nth_uses, pur_uses, nth_rsts, pur_rsts, nth_keys, pur_keys, nth_lnks, pur_lnks, Try.f11]
  rintro j ρ3 ⟨ob3, M3⟩ hj ⟨h23, _, g3, g4, g5⟩
  match j, hj with
  | 0, _ =>
    have h23 : ρ3 23 = I 0 := h23
    have w1 : IntKind.i64.wrap (0 + 1) = 1 := rfl
    have w2 : IntKind.i64.wrap 1 = 1 := rfl
    by_cases e : u.1 = 3
    · have hF := hf3 e
      have hwF := hwF (by omega)
      have e0 := hE2 (by omega)
      have e1 := hR2 (by omega)
      subst e0 e1
      simp +contextual (maxSteps := 4000000) only [↓ur_skip, ↓ur_seq, ↓ur_block, ↓ur_ret, ↓ur_region, ↓ur_cond, ↓cont_seq, ↓done_nil, ↓done_seq, ↓done_blk, ↓done_lp, ↓ops_consN, nY_move, nY_assign, nY_alloc, nY_load, nY_store, nY_binOp, nilO_tmp, nY_fieldAddr, nY_indexAddr, nY_callt, isNone_none, cfg_yl, ↓ops_nil, opsIf_some, opsIf_none, condC_true, Option.map_some, Option.bind_some, Option.getD_some, Nat.reduceLT, Bool.false_eq_true, ↓upd_same, ↓upd_ne, Nat.reduceBEq, true_and, and_true, List.getD_cons_zero, List.getElem?_cons_zero, List.getElem?_cons_succ, endQ, cfg_P, cfg_tab, cfg_muts, cfg_frz, cfg_num, numOf_eq, List.length_map, ↓havoc_in, ↓havoc_out, List.contains_cons, List.contains_nil, Bool.or_false, Bool.or_true, decide_true, Option.some.injEq, exists_eq_left', List.lookup_nil, tabOf_cons, tab_v, Bool.and_self, Nat.reduceEqDiff, List.nil_append, List.append_nil, updO_same, List.length_cons, List.length_nil, Nat.zero_add, Nat.add_zero, List.drop_zero, List.take_zero, Nat.reduceAdd, List.set_cons_zero, nth_zero, Nat.lt_succ_self, Bool.not_false, Int.reduceLT, Int.reduceToNat, Nat.le_refl, pur_int, cells_agg, pur_agg, DRx_int, DRx_tuple, DRxL_cons, DRxL_nil, ↓ev_tmp, ↓ev_int, ↓iop_move, ↓iop_assign, ↓iop_alloc, ↓iop_load, ↓iop_store, ↓iop_binOp, ↓iop_fieldAddr, ↓iop_indexAddr, idxA_int, ↓iop_callv, nrmAll_cons, nrmAll_nil, nrm_agg, nrmL_cons, nrmL_nil, nrm1_int, pickP_f, pickP_t, loadP_vptr, loadP_ptr, setCells_agg, storeP_ptr, fieldP_vptr, fieldP_ptr, indexP_lits, b_mul, b_eql, b_lss, splice_eq, env0_eq, ires_eq, iresL_2, iresAll_nil, iresAll_cons, iresOne_tmp, valT_eq, pursL_cons, pursL_nil, Store.new, Store.set, ↓reduceIte, arr_eq, arrB_some, callP_eq, tsOf_eq, List.take_succ_cons, List.drop_succ_cons, List.drop_nil, List.take_nil, ↓evs_cons, ↓evs_nil, Int.le_refl, beq_self_eq_true, see_eq, and_false, Bool.true_eq_false, Int.cast_ofNat_Int, s_pr1, nth_psts, pur_psts, nth_tars, pur_tars, nth_snds, pur_snds, nth_uses, pur_uses, nth_rsts, pur_rsts, nth_lnks, pur_lnks, nth_tars, pur_tars, nth_snds, pur_snds, nth_uses, pur_uses, nth_rsts, pur_rsts, nth_keys, pur_keys, nth_lnks, pur_lnks, Try.f11, ty3, ty23, ty34, ty80, ty89, ty91, ty93, h23, e, w1, w2, hl, hh0, hhl, ← hF]
      exact hwF
    · have e' : ¬ 3 = u.1 := fun h => e h.symm
      simp +contextual (maxSteps := 4000000) only [↓ur_skip, ↓ur_seq, ↓ur_block, ↓ur_region, ↓ur_cond, ↓cont_seq, ↓cont_blk, ↓cont_lp, ↓ops_consN, nY_move, nY_alloc, nY_load, nY_store, nY_binOp, nilO_tmp, nilO_int, nY_fieldAddr, nY_indexAddr, ↓ops_nil, opsIf_some, opsIf_none, condC_true, condC_false, Option.map_some, Option.bind_some, Option.getD_some, Nat.reduceLT, Bool.false_eq_true, ↓upd_same, ↓upd_ne, Nat.reduceBEq, true_and, and_true, List.getElem?_cons_zero, forall_const, cfg_P, cfg_frz, cfg_num, numOf_eq, ↓havoc_in, ↓havoc_out, agree_upd, agree_havoc, List.contains_cons, List.contains_nil, Bool.or_false, Bool.or_true, decide_true, decide_false, List.nil_append, List.append_nil, updO_same, List.length_cons, List.length_nil, Nat.zero_add, Nat.add_zero, List.drop_zero, List.take_zero, Nat.reduceAdd, List.set_cons_zero, Nat.reduceLeDiff, nth_zero, Nat.lt_irrefl, Nat.lt_succ_self, Bool.not_false, false_implies, Int.reduceLT, Int.reduceToNat, Nat.le_refl, cells_agg, ↓ev_tmp, ↓ev_int, ↓iop_move, ↓iop_alloc, ↓iop_load, ↓iop_store, ↓iop_binOp, ↓iop_fieldAddr, ↓iop_indexAddr, idxA_int, pickP_f, pickP_t, loadP_vptr, loadP_ptr, setCells_agg, storeP_ptr, fieldP_vptr, fieldP_ptr, indexP_lits, b_add, b_eql, b_lss, splice_eq, Store.new, Store.set, ↓reduceIte, arr_eq, arrB_some, List.take_succ_cons, List.drop_succ_cons, List.drop_nil, List.take_nil, Int.le_refl, beq_self_eq_true, see_eq, Int.reduceAdd, Int.cast_ofNat_Int, nth_psts, pur_psts, nth_tars, pur_tars, nth_snds, pur_snds, nth_uses, pur_uses, nth_rsts, pur_rsts, nth_lnks, pur_lnks, nth_tars, pur_tars, nth_snds, pur_snds, nth_uses, pur_uses, nth_rsts, pur_rsts, nth_keys, pur_keys, nth_lnks, pur_lnks, Try.f11, ty3, ty34, ty89, ty93, h23, e', w1, w2]
      exact fun h => e' h.symm
  | 1, _ =>
    have h23 : ρ3 23 = I 1 := h23
    have w1 : IntKind.i64.wrap (1 + 1) = 2 := rfl
    have w2 : IntKind.i64.wrap 2 = 2 := rfl
    by_cases e : u.1 = 4
    · have hF := hf4 e
      have hwF := hwF (by omega)
      have e0 := hE2 (by omega)
      have e1 := hR2 (by omega)
      subst e0 e1
      simp +contextual (maxSteps := 4000000) only [↓ur_skip, ↓ur_seq, ↓ur_block, ↓ur_ret, ↓ur_region, ↓ur_cond, ↓cont_seq, ↓done_nil, ↓done_seq, ↓done_blk, ↓done_lp, ↓ops_consN, nY_move, nY_assign, nY_alloc, nY_load, nY_store, nY_binOp, nilO_tmp, nY_fieldAddr, nY_indexAddr, nY_callt, isNone_none, cfg_yl, ↓ops_nil, opsIf_some, opsIf_none, condC_true, Option.map_some, Option.bind_some, Option.getD_some, Nat.reduceLT, Bool.false_eq_true, ↓upd_same, ↓upd_ne, Nat.reduceBEq, true_and, and_true, List.getD_cons_zero, List.getElem?_cons_zero, List.getElem?_cons_succ, endQ, cfg_P, cfg_tab, cfg_muts, cfg_frz, cfg_num, numOf_eq, List.length_map, ↓havoc_in, ↓havoc_out, List.contains_cons, List.contains_nil, Bool.or_false, Bool.or_true, decide_true, Option.some.injEq, exists_eq_left', List.lookup_nil, tabOf_cons, tab_v, Bool.and_self, Nat.reduceEqDiff, List.nil_append, List.append_nil, updO_same, List.length_cons, List.length_nil, Nat.zero_add, Nat.add_zero, List.drop_zero, List.take_zero, Nat.reduceAdd, List.set_cons_zero, nth_zero, nth_succ, Nat.lt_succ_self, Bool.not_false, Int.reduceLT, Int.reduceLE, Int.reduceToNat, Nat.le_refl, pur_int, cells_agg, pur_agg, DRx_int, DRx_tuple, DRxL_cons, DRxL_nil, ↓ev_tmp, ↓ev_int, ↓iop_move, ↓iop_assign, ↓iop_alloc, ↓iop_load, ↓iop_store, ↓iop_binOp, ↓iop_fieldAddr, ↓iop_indexAddr, idxA_int, ↓iop_callv, nrmAll_cons, nrmAll_nil, nrm_agg, nrmL_cons, nrmL_nil, nrm1_int, pickP_f, pickP_t, loadP_vptr, loadP_ptr, setCells_agg, storeP_ptr, fieldP_vptr, fieldP_ptr, indexP_lits, b_mul, b_eql, b_lss, splice_eq, env0_eq, ires_eq, iresL_2, iresAll_nil, iresAll_cons, iresOne_tmp, valT_eq, pursL_cons, pursL_nil, Store.new, Store.set, ↓reduceIte, arr_eq, arrB_some, callP_eq, tsOf_eq, List.take_succ_cons, List.drop_succ_cons, List.drop_nil, List.take_nil, ↓evs_cons, ↓evs_nil, beq_self_eq_true, see_eq, and_false, Bool.true_eq_false, Int.cast_ofNat_Int, s_pr2, nth_psts, pur_psts, nth_tars, pur_tars, nth_snds, pur_snds, nth_uses, pur_uses, nth_rsts, pur_rsts, nth_lnks, pur_lnks, nth_tars, pur_tars, nth_snds, pur_snds, nth_uses, pur_uses, nth_rsts, pur_rsts, nth_keys, pur_keys, nth_lnks, pur_lnks, Try.f11, ty3, ty23, ty34, ty80, ty89, ty91, ty93, h23, e, w1, w2, hl, hh0, hhl, ← hF]
      exact hwF
    · have e' : ¬ 4 = u.1 := fun h => e h.symm
      simp +contextual (maxSteps := 4000000) only [↓ur_skip, ↓ur_seq, ↓ur_block, ↓ur_region, ↓ur_cond, ↓cont_seq, ↓cont_blk, ↓cont_lp, ↓ops_consN, nY_move, nY_alloc, nY_load, nY_store, nY_binOp, nilO_tmp, nilO_int, nY_fieldAddr, nY_indexAddr, ↓ops_nil, opsIf_some, opsIf_none, condC_true, condC_false, Option.map_some, Option.bind_some, Option.getD_some, Nat.reduceLT, Bool.false_eq_true, ↓upd_same, ↓upd_ne, Nat.reduceBEq, true_and, and_true, List.getElem?_cons_zero, forall_const, cfg_P, cfg_frz, cfg_num, numOf_eq, ↓havoc_in, ↓havoc_out, agree_upd, agree_havoc, List.contains_cons, List.contains_nil, Bool.or_false, Bool.or_true, decide_true, decide_false, List.nil_append, List.append_nil, updO_same, List.length_cons, List.length_nil, Nat.zero_add, Nat.add_zero, List.drop_zero, List.take_zero, Nat.reduceAdd, List.set_cons_zero, Nat.reduceLeDiff, nth_zero, nth_succ, Nat.lt_irrefl, Nat.lt_succ_self, Bool.not_false, false_implies, Int.reduceLT, Int.reduceLE, Int.reduceToNat, Nat.le_refl, cells_agg, ↓ev_tmp, ↓ev_int, ↓iop_move, ↓iop_alloc, ↓iop_load, ↓iop_store, ↓iop_binOp, ↓iop_fieldAddr, ↓iop_indexAddr, idxA_int, pickP_f, pickP_t, loadP_vptr, loadP_ptr, setCells_agg, storeP_ptr, fieldP_vptr, fieldP_ptr, indexP_lits, b_add, b_eql, b_lss, splice_eq, Store.new, Store.set, ↓reduceIte, arr_eq, arrB_some, List.take_succ_cons, List.drop_succ_cons, List.drop_nil, List.take_nil, beq_self_eq_true, see_eq, Int.reduceAdd, Int.cast_ofNat_Int, nth_psts, pur_psts, nth_tars, pur_tars, nth_snds, pur_snds, nth_uses, pur_uses, nth_rsts, pur_rsts, nth_lnks, pur_lnks, nth_tars, pur_tars, nth_snds, pur_snds, nth_uses, pur_uses, nth_rsts, pur_rsts, nth_keys, pur_keys, nth_lnks, pur_lnks, Try.f11, ty3, ty34, ty89, ty93, h23, e', w1, w2]
      exact ⟨g3 (by omega), fun h => e' h.symm⟩
  | 2, _ =>
    have h23 : ρ3 23 = I 2 := h23
    have w1 : IntKind.i64.wrap (2 + 1) = 3 := rfl
    have w2 : IntKind.i64.wrap 3 = 3 := rfl
    by_cases e : u.1 = 5
    · have hF := hf5 e
      have hwF := hwF (by omega)
      have e0 := hE2 (by omega)
      have e1 := hR2 (by omega)
      subst e0 e1
      simp +contextual (maxSteps := 4000000) only [↓ur_skip, ↓ur_seq, ↓ur_block, ↓ur_ret, ↓ur_region, ↓ur_cond, ↓cont_seq, ↓done_nil, ↓done_seq, ↓done_blk, ↓done_lp, ↓ops_consN, nY_move, nY_assign, nY_alloc, nY_load, nY_store, nY_binOp, nilO_tmp, nY_fieldAddr, nY_indexAddr, nY_callt, isNone_none, cfg_yl, ↓ops_nil, opsIf_some, opsIf_none, condC_true, Option.map_some, Option.bind_some, Option.getD_some, Nat.reduceLT, Bool.false_eq_true, ↓upd_same, ↓upd_ne, Nat.reduceBEq, true_and, and_true, List.getD_cons_zero, List.getElem?_cons_zero, List.getElem?_cons_succ, endQ, cfg_P, cfg_tab, cfg_muts, cfg_frz, cfg_num, numOf_eq, List.length_map, ↓havoc_in, ↓havoc_out, List.contains_cons, List.contains_nil, Bool.or_false, Bool.or_true, decide_true, Option.some.injEq, exists_eq_left', List.lookup_nil, tabOf_cons, tab_v, Bool.and_self, Nat.reduceEqDiff, List.nil_append, List.append_nil, updO_same, List.length_cons, List.length_nil, Nat.zero_add, Nat.add_zero, List.drop_zero, List.take_zero, Nat.reduceAdd, List.set_cons_zero, nth_zero, nth_succ, Nat.lt_succ_self, Bool.not_false, Int.reduceLT, Int.reduceLE, Int.reduceToNat, Nat.le_refl, pur_int, cells_agg, pur_agg, DRx_int, DRx_tuple, DRxL_cons, DRxL_nil, ↓ev_tmp, ↓ev_int, ↓iop_move, ↓iop_assign, ↓iop_alloc, ↓iop_load, ↓iop_store, ↓iop_binOp, ↓iop_fieldAddr, ↓iop_indexAddr, idxA_int, ↓iop_callv, nrmAll_cons, nrmAll_nil, nrm_agg, nrmL_cons, nrmL_nil, nrm1_int, pickP_f, pickP_t, loadP_vptr, loadP_ptr, setCells_agg, storeP_ptr, fieldP_vptr, fieldP_ptr, indexP_lits, b_mul, b_eql, b_lss, splice_eq, env0_eq, ires_eq, iresL_2, iresAll_nil, iresAll_cons, iresOne_tmp, valT_eq, pursL_cons, pursL_nil, Store.new, Store.set, ↓reduceIte, arr_eq, arrB_some, callP_eq, tsOf_eq, List.take_succ_cons, List.drop_succ_cons, List.drop_nil, List.take_nil, ↓evs_cons, ↓evs_nil, beq_self_eq_true, see_eq, and_false, Bool.true_eq_false, Int.cast_ofNat_Int, s_pr3, nth_psts, pur_psts, nth_tars, pur_tars, nth_snds, pur_snds, nth_uses, pur_uses, nth_rsts, pur_rsts, nth_lnks, pur_lnks, nth_tars, pur_tars, nth_snds, pur_snds, nth_uses, pur_uses, nth_rsts, pur_rsts, nth_keys, pur_keys, nth_lnks, pur_lnks, Try.f11, ty3, ty23, ty34, ty80, ty89, ty91, ty93, h23, e, w1, w2, hl, hh0, hhl, ← hF]
      exact hwF
    · have e' : ¬ 5 = u.1 := fun h => e h.symm
      simp +contextual (maxSteps := 4000000) only [↓ur_skip, ↓ur_seq, ↓ur_block, ↓ur_region, ↓ur_cond, ↓cont_seq, ↓cont_blk, ↓cont_lp, ↓ops_consN, nY_move, nY_alloc, nY_load, nY_store, nY_binOp, nilO_tmp, nilO_int, nY_fieldAddr, nY_indexAddr, ↓ops_nil, opsIf_some, opsIf_none, condC_true, condC_false, Option.map_some, Option.bind_some, Option.getD_some, Nat.reduceLT, Bool.false_eq_true, ↓upd_same, ↓upd_ne, Nat.reduceBEq, true_and, and_true, List.getElem?_cons_zero, forall_const, cfg_P, cfg_frz, cfg_num, numOf_eq, ↓havoc_in, ↓havoc_out, agree_upd, agree_havoc, List.contains_cons, List.contains_nil, Bool.or_false, Bool.or_true, decide_true, decide_false, List.nil_append, List.append_nil, updO_same, List.length_cons, List.length_nil, Nat.zero_add, Nat.add_zero, List.drop_zero, List.take_zero, Nat.reduceAdd, List.set_cons_zero, Nat.reduceLeDiff, nth_zero, nth_succ, Nat.lt_succ_self, Bool.not_false, Int.reduceLT, Int.reduceLE, Int.reduceToNat, Nat.le_refl, cells_agg, ↓ev_tmp, ↓ev_int, ↓iop_move, ↓iop_alloc, ↓iop_load, ↓iop_store, ↓iop_binOp, ↓iop_fieldAddr, ↓iop_indexAddr, idxA_int, pickP_f, pickP_t, loadP_vptr, loadP_ptr, setCells_agg, storeP_ptr, fieldP_vptr, fieldP_ptr, indexP_lits, b_add, b_eql, b_lss, splice_eq, Store.new, Store.set, ↓reduceIte, arr_eq, arrB_some, List.take_succ_cons, List.drop_succ_cons, List.drop_nil, List.take_nil, beq_self_eq_true, see_eq, Int.reduceAdd, Int.cast_ofNat_Int, nth_psts, pur_psts, nth_tars, pur_tars, nth_snds, pur_snds, nth_uses, pur_uses, nth_rsts, pur_rsts, nth_lnks, pur_lnks, nth_tars, pur_tars, nth_snds, pur_snds, nth_uses, pur_uses, nth_rsts, pur_rsts, nth_keys, pur_keys, nth_lnks, pur_lnks, Try.f11, ty3, ty34, ty89, ty93, h23, e', w1, w2]
      exact ⟨g3 (by omega), g4 (by omega), fun h => e' h.symm⟩
  | 3, _ =>
    have h23 : ρ3 23 = I 3 := h23
    by_cases k1 : u.1 = 1
    · have hF := hf1 k1
      have hwF := hwF (by omega)
      have e0 := hE2 (by omega)
      have e1 := hR2 (by omega)
      subst e0 e1
      obtain ⟨q1, q2, q3⟩ := hkp k1
      have m1 := mul_in (a := u.2.2.2.1) (b := u.2.2.2.2.2.1 - u.2.2.2.2.1) (m := 16777216) (n := 1000000) q1 (by omega)
      have x1 : IntKind.i64.wrap (u.2.2.2.2.2.1 - u.2.2.2.2.1) = u.2.2.2.2.2.1 - u.2.2.2.2.1 := wrap64 (by omega) (by omega)
      have x2 : IntKind.i64.wrap (u.2.2.2.1 * (u.2.2.2.2.2.1 - u.2.2.2.2.1)) = u.2.2.2.1 * (u.2.2.2.2.2.1 - u.2.2.2.2.1) := wrap64 (by omega) (by omega)
      simp +contextual (maxSteps := 4000000) only [↓ur_seq, ↓ur_exit, ↓ur_ret, ↓ur_region, ↓ur_cond, ↓cont_seq, ↓leave_seq, ↓leave_blk, ↓leave_lp, ↓done_nil, ↓done_seq, ↓ops_consN, nY_move, nY_assign, nY_load, nY_binOp, nilO_tmp, nilO_int, nY_fieldAddr, nY_indexAddr, ↓ops_nil, opsIf_some, condC_true, condC_false, Option.map_some, Option.bind_some, Option.getD_some, Nat.reduceLT, Bool.false_eq_true, ↓upd_same, ↓upd_ne, Nat.reduceBEq, true_and, and_true, List.getD_cons_zero, List.getElem?_cons_zero, List.getElem?_cons_succ, endQ, cfg_P, cfg_frz, List.length_map, ↓havoc_in, ↓havoc_out, List.contains_cons, List.contains_nil, Bool.or_false, Bool.or_true, decide_true, decide_false, Option.some.injEq, exists_eq_left', Nat.zero_add, Nat.add_zero, Nat.reduceAdd, Nat.lt_succ_self, Bool.not_false, Int.reduceLT, cells_agg, DRx_int, DRx_tuple, DRxL_cons, DRxL_nil, ↓ev_tmp, ↓ev_int, ↓iop_move, ↓iop_assign, ↓iop_load, ↓iop_binOp, ↓iop_fieldAddr, ↓iop_indexAddr, idxA_int, pickP_f, loadP_vptr, fieldP_vptr, indexP_lits, b_sub, b_mul, b_eql, b_lss, env0_eq, ires_eq, iresL_2, iresAll_nil, iresAll_cons, iresOne_tmp, ↓reduceIte, beq_self_eq_true, see_eq, nth_psts, pur_psts, nth_tars, pur_tars, nth_snds, pur_snds, nth_uses, pur_uses, nth_rsts, pur_rsts, nth_lnks, pur_lnks, nth_tars, pur_tars, nth_snds, pur_snds, nth_uses, pur_uses, nth_rsts, pur_rsts, nth_keys, pur_keys, nth_lnks, pur_lnks, Try.f11, ty3, ty23, ty34, ty80, h23, k1, hl, hh0, hhl, x1, x2, ← hF]
      exact hwF
    have k2 : u.1 = 2 := by
      have a := g3 (by omega)
      have b := g4 (by omega)
      have c := g5 (by omega)
      have d := hpar.1
      omega
    have hE := hE3 k2
    have hR := hR3 k2
    have hnn := costM_nn (hn := hn) (ls := ls) (l := u.2.2.2.2.2.2.2)
    have hfr := fit_right (hn := hn) (ls := ls) (l := u.2.2.2.2.2.2.2)
    generalize hsn : u.2.2.2.2.2.2.2 = sn at *
    by_cases f0 : fitM hn ls sn = 0
    case neg =>
      rw [if_pos f0] at hE
      rw [if_neg (by rw [hE]; exact f0)] at hR
      subst hR
      rw [← hE] at f0
      have hE' := hE.symm
      simp +contextual (maxSteps := 4000000) only [↓ur_skip, ↓ur_seq, ↓ur_exit, ↓ur_ret, ↓ur_region, ↓ur_cond, ↓cont_seq, ↓leave_seq, ↓leave_blk, ↓leave_lp, ↓done_nil, ↓done_seq, ↓ops_consN, nY_move, nY_assign, nY_load, nY_binOp, nilO_tmp, nilO_int, nY_fieldAddr, nY_callf, ↓ops_nil, opsIf_some, condC_true, condC_false, Option.map_some, Option.bind_some, Option.getD_some, Nat.reduceLT, Bool.false_eq_true, ↓upd_same, ↓upd_ne, Nat.reduceBEq, and_true, List.getElem?_cons_zero, List.getElem?_cons_succ, endQ, cfg_P, cfg_tab, cfg_muts, cfg_frz, ↓havoc_in, ↓havoc_out, List.contains_cons, List.contains_nil, Bool.or_false, Bool.or_true, decide_true, decide_false, Option.some.injEq, exists_eq_left', List.lookup_cons, List.lookup_nil, tabOf_cons, tab_v, Bool.and_self, Nat.reduceEqDiff, List.nil_append, List.append_nil, List.length_cons, List.length_nil, Nat.zero_add, Nat.add_zero, List.drop_zero, Nat.reduceAdd, Nat.lt_succ_self, Bool.not_false, not_false_eq_true, Int.reduceEq, Int.reduceLT, Nat.le_refl, pur_int, pur_lits, pur_agg, DRx_int, DRx_tuple, DRxL_cons, DRxL_nil, ↓ev_tmp, ↓ev_int, ↓ev_func, ↓iop_move, ↓iop_assign, ↓iop_load, ↓iop_binOp, ↓iop_fieldAddr, ↓iop_callv, nrmAll_cons, nrmAll_nil, nrm_agg, nrmL_cons, nrmL_nil, nrm_lits, nrm1_int, nrm1_lits, pickP_f, pickP_t, loadP_vptr, fieldP_vptr, b_eql, b_neq, b_lss, ires_eq, iresL_2, iresAll_nil, iresAll_cons, iresOne_tmp, valT_eq, pursL_cons, pursL_nil, ↓reduceIte, callP_eq, tsOf_eq, List.take_succ_cons, List.take_nil, ↓evs_cons, ↓evs_nil, beq_self_eq_true, see_eq, and_false, Bool.true_eq_false, s_fits, nth_psts, pur_psts, nth_tars, pur_tars, nth_snds, pur_snds, nth_uses, pur_uses, nth_rsts, pur_rsts, nth_lnks, pur_lnks, nth_tars, pur_tars, nth_snds, pur_snds, nth_uses, pur_uses, nth_rsts, pur_rsts, nth_keys, pur_keys, nth_lnks, pur_lnks, Try.f11, ty3, ty26, ty32, ty34, h23, k2, hsn, hE', f0]
    have hr := hfr f0
    rw [if_neg (fun g => g f0)] at hE
    generalize hcm : costM hn ls sn = c at *
    by_cases c1 : 1099511627776 < c
    · rw [if_pos c1] at hE
      rw [if_neg (by rw [hE]; decide)] at hR
      subst hE hR
      simp +contextual (maxSteps := 4000000) only [↓ur_skip, ↓ur_seq, ↓ur_exit, ↓ur_ret, ↓ur_region, ↓ur_cond, ↓cont_seq, ↓leave_seq, ↓leave_blk, ↓leave_lp, ↓done_nil, ↓done_seq, ↓ops_consN, nY_move, nY_assign, nY_load, nY_binOp, nilO_tmp, nilO_int, nY_fieldAddr, nY_extract, nY_callf, ↓ops_nil, opsIf_some, condC_true, condC_false, Option.map_some, Option.bind_some, Option.getD_some, Nat.reduceLT, Bool.false_eq_true, ↓upd_same, ↓upd_ne, Nat.reduceBEq, and_true, List.getElem?_cons_zero, List.getElem?_cons_succ, endQ, cfg_P, cfg_tab, cfg_muts, cfg_frz, ↓havoc_in, ↓havoc_out, List.contains_cons, List.contains_nil, Bool.or_false, Bool.or_true, decide_true, decide_false, Option.some.injEq, exists_eq_left', List.lookup_cons, List.lookup_nil, tabOf_cons, tab_v, Bool.and_self, Nat.reduceEqDiff, List.nil_append, List.append_nil, List.length_cons, List.length_nil, Nat.zero_add, Nat.add_zero, List.drop_zero, Nat.reduceAdd, Nat.lt_succ_self, Bool.not_false, not_true_eq_false, Int.reduceEq, Int.reduceLT, Nat.le_refl, pur_int, pur_lits, pur_agg, DRx_int, DRx_tuple, DRxL_cons, DRxL_nil, ↓ev_tmp, ↓ev_int, ↓ev_func, ↓iop_move, ↓iop_assign, ↓iop_load, ↓iop_binOp, ↓iop_fieldAddr, ↓iop_extract, extr_tuple, ↓iop_callv, nrmAll_cons, nrmAll_nil, nrm_agg, nrmL_cons, nrmL_nil, nrm_lits, nrm1_int, nrm1_lits, pickP_f, pickP_t, loadP_vptr, fieldP_vptr, b_eql, b_neq, b_lss, b_gtr, ires_eq, iresL_2, iresAll_nil, iresAll_cons, iresOne_tmp, valT_eq, pursL_cons, pursL_nil, ↓reduceIte, callP_eq, tsOf_eq, List.take_succ_cons, List.take_nil, ↓evs_cons, ↓evs_nil, beq_self_eq_true, see_eq, and_false, Bool.true_eq_false, s_fits, s_cost, nth_psts, pur_psts, nth_tars, pur_tars, nth_snds, pur_snds, nth_uses, pur_uses, nth_rsts, pur_rsts, nth_lnks, pur_lnks, nth_tars, pur_tars, nth_snds, pur_snds, nth_uses, pur_uses, nth_rsts, pur_rsts, nth_keys, pur_keys, nth_lnks, pur_lnks, Try.f11, ty3, ty26, ty32, ty34, h23, k2, hsn, hcm, f0, hr, c1]
    · rw [if_neg c1] at hE
      rw [if_pos hE] at hR
      subst hE
      have hw : IntKind.i64.wrap (1000 * c) = R := by rw [hR]; exact wrap64 (by omega) (by omega)
      simp +contextual (maxSteps := 4000000) only [↓ur_skip, ↓ur_seq, ↓ur_exit, ↓ur_ret, ↓ur_region, ↓ur_cond, ↓cont_seq, ↓leave_seq, ↓leave_blk, ↓leave_lp, ↓done_nil, ↓ops_consN, nY_move, nY_assign, nY_load, nY_binOp, nilO_tmp, nilO_int, nY_fieldAddr, nY_extract, nY_callf, ↓ops_nil, opsIf_some, condC_false, Option.map_some, Option.bind_some, Option.getD_some, Nat.reduceLT, Bool.false_eq_true, ↓upd_same, ↓upd_ne, Nat.reduceBEq, and_true, List.getElem?_cons_zero, List.getElem?_cons_succ, endQ, cfg_P, cfg_tab, cfg_muts, cfg_frz, ↓havoc_in, ↓havoc_out, List.contains_cons, List.contains_nil, Bool.or_false, Bool.or_true, decide_false, Option.some.injEq, exists_eq_left', List.lookup_cons, List.lookup_nil, tabOf_cons, tab_v, Bool.and_self, Nat.reduceEqDiff, List.nil_append, List.append_nil, List.length_cons, List.length_nil, Nat.zero_add, Nat.add_zero, List.drop_zero, Nat.reduceAdd, Nat.lt_succ_self, Bool.not_false, not_true_eq_false, Int.reduceEq, Int.reduceLT, Nat.le_refl, pur_int, pur_lits, pur_agg, DRx_int, DRx_tuple, DRxL_cons, DRxL_nil, ↓ev_tmp, ↓ev_int, ↓ev_func, ↓iop_move, ↓iop_assign, ↓iop_load, ↓iop_binOp, ↓iop_fieldAddr, ↓iop_extract, extr_tuple, ↓iop_callv, nrmAll_cons, nrmAll_nil, nrm_agg, nrmL_cons, nrmL_nil, nrm_lits, nrm1_int, nrm1_lits, pickP_f, pickP_t, loadP_vptr, fieldP_vptr, b_mul, b_eql, b_neq, b_lss, b_gtr, ires_eq, iresL_2, iresAll_nil, iresAll_cons, iresOne_tmp, valT_eq, pursL_cons, pursL_nil, ↓reduceIte, callP_eq, tsOf_eq, List.take_succ_cons, List.take_nil, ↓evs_cons, ↓evs_nil, beq_self_eq_true, see_eq, and_false, Bool.true_eq_false, s_fits, s_cost, nth_psts, pur_psts, nth_tars, pur_tars, nth_snds, pur_snds, nth_uses, pur_uses, nth_rsts, pur_rsts, nth_lnks, pur_lnks, nth_tars, pur_tars, nth_snds, pur_snds, nth_uses, pur_uses, nth_rsts, pur_rsts, nth_keys, pur_keys, nth_lnks, pur_lnks, Try.f11, ty3, ty26, ty32, ty34, h23, k2, hsn, hcm, f0, hr, c1, hw]
  | j + 4, h => exact absurd h (by omega)
theorem o_charge : O_charge := k_charge c_charge
theorem chg_par {t : List Tar} {hn : Int} {ls : List Lnk} {u : Use} (he : chgE t hn ls u = 0) : parO t.length u.1 u.2.1 u.2.2.1 := (chg_ok he).par
theorem chg_le {t : List Tar} {hn : Int} {ls : List Lnk} {u : Use} (hp : useP hn ls u) (he : chgE t hn ls u = 0) : 0 ≤ chgM t hn ls u ∧ chgM t hn ls u ≤ 16777216000000000 := by
  unfold chgM
  rw [if_pos he]
  by_cases h2 : u.1 = 2
  · rw [if_pos h2]
    have hc : ¬ 1099511627776 < costM hn ls u.2.2.2.2.2.2.2 := fun g => by
      unfold chgE at he
      rw [if_neg (fun g => g (chg_mchk he)), if_pos h2] at he
      split at he
      · rename_i f; exact f he
      · first | (rw [if_pos g] at he; cases he) | (cases he)
    have := costM_nn (hn := hn) (ls := ls) (l := u.2.2.2.2.2.2.2)
    omega
  · rw [if_neg h2]
    exact fee_le (chg_ok he) h2
end Sim
