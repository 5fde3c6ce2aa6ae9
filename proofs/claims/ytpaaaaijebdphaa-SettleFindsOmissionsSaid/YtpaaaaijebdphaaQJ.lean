/- What functions of this seat compute, by values: contracts (lemmas of the statement's proof, under the conditions that each names). -/
import Derived.Test.YtpaaaaijebdphaaQH
namespace Sim
open Go Go.Proofs
set_option maxRecDepth 10000
set_option maxHeartbeats 2000000
set_option linter.unusedVariables false
set_option linter.unusedSimpArgs false
attribute [local congr] opsIf_congr condC_congr guardC_congr grd_congr pick3_congr obind_congr omap_congr nilC_congr opsV_congr
def accO (n x : Int) : Prop := 0 ≤ x ∧ x < n
instance (n x : Int) : Decidable (accO n x) := by unfold accO; infer_instance
def rngO (p : Pst) : Prop := (1 ≤ p.2.2.1 ∧ p.2.2.1 ≤ 1099511627776) ∧ (0 ≤ p.2.2.2.1 ∧ p.2.2.2.1 ≤ 1000000) ∧ (1 ≤ p.2.2.2.2.1 ∧ p.2.2.2.2.1 ≤ 7) ∧ (0 ≤ p.2.2.2.2.2 ∧ p.2.2.2.2.2 ≤ 1099511627776)
instance (p : Pst) : Decidable (rngO p) := by unfold rngO; infer_instance
def oneE (n : Int) (p : Pst) : Int := if ¬ (accO n p.1 ∧ accO n p.2.1 ∧ ¬ p.1 = p.2.1) then 1 else if ¬ rngO p then 3 else 0
/-- The first error of the first postings. -/
def chkK (n : Int) (ps : List Pst) : Nat → Int
  | 0 => 0
  | k + 1 => if ¬ chkK n ps k = 0 then chkK n ps k else if ¬ oneE n (ps.getD k dP) = 0 then oneE n (ps.getD k dP) else if 0 < k ∧ (ps.getD k dP).2.2.2.1 < (ps.getD (k - 1) dP).2.2.2.1 then 15 else 0
def bookE (n : Int) (ps : List Pst) : Int := if n < 1 ∨ 40 < n then 3 else if 10000 < ps.length then 13 else chkK n ps ps.length
theorem chk_stay {n : Int} {ps : List Pst} {k : Nat} (h : ¬ chkK n ps k = 0) : ∀ m, chkK n ps (k + m) = chkK n ps k
  | 0 => rfl
  | m + 1 => by
    have ih := chk_stay h m
    show chkK n ps (k + m + 1) = _
    simp only [chkK]
    rw [if_pos (by rw [ih]; exact h), ih]
theorem chk_at {n : Int} {ps : List Pst} {k : Nat} (hk : k < ps.length) (h0 : chkK n ps k = 0) (h : ¬ chkK n ps (k + 1) = 0) : chkK n ps ps.length = chkK n ps (k + 1) := by
  have := chk_stay h (ps.length - (k + 1))
  rwa [show k + 1 + (ps.length - (k + 1)) = ps.length by omega] at this
noncomputable def A_acc : (Int) × (List Pst) × (Int) → List PV := fun (n, ps, x) => [.agg [I n, psts ps], I x]
noncomputable def R_acc : (Int) × (List Pst) × (Int) → PV := fun (n, ps, x) => B (decide (accO n x))
def H_acc : (Int) × (List Pst) × (Int) → Prop := fun (n, ps, x) => True
noncomputable def e_acc : Nat × Ent := (56, .v (specOf A_acc R_acc H_acc))
theorem j_acc : ∀ i j, A_acc i = A_acc j → i = j := by
  rintro ⟨n₁, ps₁, x₁⟩ ⟨n₂, ps₂, x₂⟩ h
  simp only [A_acc, List.cons.injEq, and_true, PV.lits.injEq, PV.int.injEq, PV.bool.injEq, PV.str.injEq, PV.agg.injEq, PV.func.injEq, Fn.func.injEq, PV.vptr.injEq, true_and, List.map_nil, inj_ints, inj_strs, inj_psts, inj_gaps, inj_pays] at h
  simp [Prod.ext_iff, h] <;> omega
theorem s_acc (n : Int) (ps : List Pst) (x : Int) : specOf A_acc R_acc H_acc [.agg [I n, psts ps], I x] = some (B (decide (accO n x))) := specOf_app j_acc (i := (n, ps, x)) trivial
def C_acc : Prop := ∀ (n : Int) (ps : List Pst) (x : Int) , VC Try.prog 56 [.agg [I n, psts ps], I x] (B (decide (accO n x)))
def O_acc : Prop := EntOK Try.prog e_acc.1 e_acc.2
theorem k_acc (c : C_acc) : O_acc := specOf_ok fun ⟨n, ps, x⟩ h => c n ps x
theorem c_acc : C_acc := by
  intro n ps x
  refine vc_ofU mixed (l := []) (eok_nil) [] []  Try.func56 rfl (by decide +kernel) (N := 13) rfl (by simp) rfl (by kernel_rfl) fun hs => ?_
  simp only [smallL, PV.small, List.length_map, and_true, true_and] at hs
  unfold accO
  simp +contextual (maxSteps := 4000000) only [↓ur_seq, ↓ur_ret, ↓ur_region, ↓cont_seq, ↓done_nil, ↓ops_consN, ↓ops_guardN, nY_move, nY_assign, nY_pick, nY_box, nY_load, nY_binOp, nilO_tmp, nilO_int, nY_fieldAddr, ↓ops_nil, opsIf_some, guardC_tt, guardC_ft, Option.map_some, Option.bind_some, Option.getD_some, Nat.reduceLT, Bool.false_eq_true, ↓upd_same, ↓upd_ne, Nat.reduceBEq, true_and, and_true, List.getD_cons_zero, List.getD_cons_succ, List.getElem?_toArray, List.getElem?_cons_zero, List.getElem?_cons_succ, endQ, cfg_P, cfg_muts, cfg_frz, List.contains_nil, decide_true, decide_false, Option.some.injEq, exists_eq_left', List.length_cons, List.length_nil, Nat.zero_add, Nat.add_zero, Nat.reduceAdd, Nat.lt_succ_self, Bool.not_false, st0, cells_agg, DRx_bool, ↓ev_tmp, ↓ev_int, ↓ev_bool, ↓guardP_eq, grd_some, ↓iop_move, ↓iop_assign, ↓pick3_bool, ↓iop_pick, ↓iop_box, ↓iop_load, ↓iop_binOp, ↓iop_fieldAddr, pickP_f, loadP_vptr, fieldP_vptr, b_lss, b_geq, env0_eq, ires_eq, iresL_1, iresAll_nil, iresAll_cons, iresOne_tmp, ↓reduceIte, boxP_eq, guardC_td, implies_true, see_eq, false_and, nth_psts, pur_psts, nth_gaps, pur_gaps, nth_pays, pur_pays, Try.f56, ty3, ty45]
  all_goals grind
theorem o_acc : O_acc := k_acc c_acc
noncomputable def A_bwin : (Int) × (Int) × (Int) → List PV := fun (n, lo, hi) => [I n, I lo, I hi]
noncomputable def R_bwin : (Int) × (Int) × (Int) → PV := fun (n, lo, hi) => B (decide (lo ≤ n ∧ n ≤ hi))
def H_bwin : (Int) × (Int) × (Int) → Prop := fun (n, lo, hi) => True
noncomputable def e_bwin : Nat × Ent := (74, .v (specOf A_bwin R_bwin H_bwin))
theorem j_bwin : ∀ i j, A_bwin i = A_bwin j → i = j := by
  rintro ⟨n₁, lo₁, hi₁⟩ ⟨n₂, lo₂, hi₂⟩ h
  simp only [A_bwin, List.cons.injEq, and_true, PV.lits.injEq, PV.int.injEq, PV.bool.injEq, PV.str.injEq, PV.agg.injEq, PV.func.injEq, Fn.func.injEq, PV.vptr.injEq, true_and, List.map_nil, inj_ints, inj_strs, inj_psts, inj_gaps, inj_pays] at h
  simp [Prod.ext_iff, h] <;> omega
theorem s_bwin (n : Int) (lo : Int) (hi : Int) : specOf A_bwin R_bwin H_bwin [I n, I lo, I hi] = some (B (decide (lo ≤ n ∧ n ≤ hi))) := specOf_app j_bwin (i := (n, lo, hi)) trivial
def C_bwin : Prop := ∀ (n : Int) (lo : Int) (hi : Int) , VC Try.prog 74 [I n, I lo, I hi] (B (decide (lo ≤ n ∧ n ≤ hi)))
def O_bwin : Prop := EntOK Try.prog e_bwin.1 e_bwin.2
theorem k_bwin (c : C_bwin) : O_bwin := specOf_ok fun ⟨n, lo, hi⟩ h => c n lo hi
theorem c_bwin : C_bwin := by
  intro n lo hi
  refine vc_ofU mixed (l := []) (eok_nil) [] []  Try.func74 rfl (by decide +kernel) (N := 15) rfl (by simp) rfl (by kernel_rfl) fun hs => ?_
  simp only [smallL, PV.small, List.length_map, and_true, true_and] at hs
  simp +contextual (maxSteps := 4000000) only [↓ur_seq, ↓ur_ret, ↓ur_region, ↓cont_seq, ↓done_nil, ↓ops_consN, ↓ops_guardN, nY_move, nY_assign, nY_pick, nY_binOp, nilO_tmp, ↓ops_nil, opsIf_some, guardC_tt, guardC_ft, Option.map_some, Option.bind_some, Nat.reduceLT, Bool.false_eq_true, ↓upd_same, ↓upd_ne, Nat.reduceBEq, true_and, and_true, List.getD_cons_zero, List.getD_cons_succ, List.getElem?_toArray, List.getElem?_cons_zero, List.getElem?_cons_succ, endQ, cfg_P, decide_true, decide_false, Option.some.injEq, exists_eq_left', Nat.lt_succ_self, Bool.not_false, st0, DRx_bool, ↓ev_tmp, ↓ev_bool, ↓guardP_eq, grd_some, ↓iop_move, ↓iop_assign, ↓pick3_bool, ↓iop_pick, ↓iop_binOp, b_leq, b_geq, env0_eq, ires_eq, iresL_1, iresAll_nil, iresAll_cons, iresOne_tmp, ↓reduceIte, guardC_td, implies_true, false_and, nth_psts, pur_psts, nth_gaps, pur_gaps, nth_pays, pur_pays, Try.f74]
  all_goals grind
theorem o_bwin : O_bwin := k_bwin c_bwin
end Sim
