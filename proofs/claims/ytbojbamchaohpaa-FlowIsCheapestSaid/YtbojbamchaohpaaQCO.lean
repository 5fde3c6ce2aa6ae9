/- What functions of this seat compute, by values: contracts (lemmas of the statement's proof, under the conditions that each names). -/
import Derived.Test.YtbojbamchaohpaaQS
import Derived.Test.YtbojbamchaohpaaQPO
namespace Sim
open Go Go.Proofs
set_option maxRecDepth 10000
set_option maxHeartbeats 4000000
set_option linter.unusedVariables false
set_option linter.unusedSimpArgs false
attribute [local congr] opsIf_congr condC_congr guardC_congr grd_congr pick3_congr obind_congr omap_congr
theorem cheap_ok {hn : Int} {ls : List Lnk} {us : List Snd} {d : Dem} (h : chpE hn ls us d = 0) : fckM hn ls us d = 0 ∧ (planR hn ls us d d.2.2.1).2 = d.2.2.1 ∧ OutOK hn ls us d (chpL hn ls us d) (planG hn ls us d d.2.2.1) := by
 unfold chpE at h
 split at h
 ·contradiction
 ·rename_i c
  split at h
  ·cases h
  ·rename_i c2
   have c : fckM hn ls us d = 0 := Classical.not_not.1 c
   obtain ⟨hf, hd, hD, _⟩ := fck_ok c
   obtain ⟨_, _, hr⟩ := dem_ok hd
   have P := planR_ok (bytes := d.2.2.1) hf hd (by have := hr.1; omega)
   have e : (planR hn ls us d d.2.2.1).2 = d.2.2.1 := by have := P.n1; omega
   have p := P.plan
   rw [e] at p
   refine ⟨c, e, ?_⟩
   have hl : chpL hn ls us d = outP (planR hn ls us d d.2.2.1).1 hn.toNat (hn.toNat + ls.length) d.2.2.2.1 (pairsM hn ls d) := by
    have hE : chpE hn ls us d = 0 := by unfold chpE; rw [if_neg (fun g => g c), if_neg c2]
    unfold chpL
    rw [if_pos hE]
   rw [hl]
   exact out_ok hf hd hD p
theorem cheap_none {hn : Int} {ls : List Lnk} {us : List Snd} {d : Dem} (hc : fckM hn ls us d = 0) (h : chpE hn ls us d ≠ 0) : chpE hn ls us d = 21 ∧ ∀ g, ¬ (netD hn ls us d).Plan (durM d) d.1.toNat d.2.1.toNat d.2.2.1 g := by
 obtain ⟨hf, hd, hD, _⟩ := fck_ok hc
 obtain ⟨_, _, hr⟩ := dem_ok hd
 have hr0 := hr.1
 have hr1 := hr.2.1
 unfold chpE at h ⊢
 rw [if_neg (fun g => g hc)] at h ⊢
 split at h
 ·rename_i c
  rw [if_pos c]
  refine ⟨rfl, fun g hg => ?_⟩
  have P := planR_ok (bytes := d.2.2.1) hf hd (by omega)
  have := P.max c _ _ hr1 hg
  omega
 ·contradiction
noncomputable def cosM (hn : Int) (ls : List Lnk) (us : List Snd) (d : Dem) : Int := if chpE hn ls us d = 0 then costM hn ls (chpL hn ls us d) else -1
noncomputable def A_cost2 : (Int) × (List Lnk) × (List Snd) × (Dem) → List PV := fun (hn, ls, us, d) => [.agg [I hn, lnks ls], snds us, demV d]
noncomputable def R_cost2 : (Int) × (List Lnk) × (List Snd) × (Dem) → PV := fun (hn, ls, us, d) => I (cosM hn ls us d)
def H_cost2 : (Int) × (List Lnk) × (List Snd) × (Dem) → Prop := fun (hn, ls, us, d) => True
noncomputable def e_cost2 : Nat × Ent := (19, .v (specOf A_cost2 R_cost2 H_cost2))
theorem j_cost2 : ∀ i j, A_cost2 i = A_cost2 j → i = j := by
 rintro ⟨hn₁, ls₁, us₁, d₁⟩ ⟨hn₂, ls₂, us₂, d₂⟩ h
 simp only [A_cost2, List.cons.injEq, and_true, PV.lits.injEq, PV.int.injEq, PV.bool.injEq, PV.str.injEq, PV.agg.injEq, PV.func.injEq, Fn.func.injEq, PV.vptr.injEq, true_and, List.map_nil, inj_ints, inj_strs, inj_its, inj_arcs, inj_snds, inj_lnks] at h
 simp [Prod.ext_iff, h] <;> omega
theorem s_cost2 (hn : Int) (ls : List Lnk) (us : List Snd) (d : Dem) : specOf A_cost2 R_cost2 H_cost2 [.agg [I hn, lnks ls], snds us, demV d] = some (I (cosM hn ls us d)) := specOf_app j_cost2 (i := (hn, ls, us, d)) trivial
def C_cost2 : Prop := ∀ (hn : Int) (ls : List Lnk) (us : List Snd) (d : Dem) , VC Try.prog 19 [.agg [I hn, lnks ls], snds us, demV d] (I (cosM hn ls us d))
def O_cost2 : Prop := EntOK Try.prog e_cost2.1 e_cost2.2
theorem k_cost2 (c : C_cost2) : O_cost2 := specOf_ok fun ⟨hn, ls, us, d⟩ h => c hn ls us d
theorem c_cost2 : C_cost2 := by
 intro hn ls us d
 refine vc_ofU mixed (l := [e_cheap, e_cost, e_serves]) ((eok_cons o_cheap (eok_cons o_cost (eok_cons o_serves eok_nil)))) [] []  Try.func19 rfl (by decide +kernel) (N := 38) rfl (by simp) rfl (by kernel_rfl) fun hs => ?_
 simp only [smallL, PV.small, List.length_map, and_true, true_and] at hs
 unfold cosM
 by_cases h : chpE hn ls us d = 0
 ·obtain ⟨_, _, ho⟩ := cheap_ok h
  have hs := ho.serves
  have hr := right_zero.2 (serves_iff.1 hs).ok
  rw [if_pos h]
  generalize hl : chpL hn ls us d = l at *
  generalize hc : costM hn ls l = c at *
  simp +contextual (maxSteps := 4000000) only [↓ur_skip, ↓ur_seq, ↓ur_ret, ↓ur_region, ↓ur_cond, ↓cont_seq, ↓done_nil, ↓ops_consN, ↓ops_guardN, nY_move, nY_assign, nY_pick, nY_box, nY_load, nY_binOp, nilO_int, nY_extract, nY_callf, ↓ops_nil, opsIf_some, condC_false, guardC_ff, Option.map_some, Option.bind_some, Option.getD_some, Nat.reduceLT, Bool.false_eq_true, ↓upd_same, ↓upd_ne, Nat.reduceBEq, and_true, List.getD_cons_zero, List.getD_cons_succ, List.getElem?_toArray, List.getElem?_cons_zero, List.getElem?_cons_succ, endQ, cfg_P, cfg_tab, cfg_muts, cfg_frz, List.contains_nil, decide_false, Option.some.injEq, exists_eq_left', List.lookup_cons, List.lookup_nil, tabOf_cons, tab_v, Bool.and_self, Nat.reduceEqDiff, List.nil_append, List.append_nil, List.length_cons, List.length_nil, Nat.zero_add, List.drop_zero, Nat.reduceAdd, Nat.lt_succ_self, Bool.not_false, not_true_eq_false, st0, Nat.le_refl, pur_int, pur_lits, cells_agg, pur_agg, DRx_int, ↓ev_tmp, ↓ev_int, ↓ev_func, ↓guardP_eq, grd_some, ↓iop_move, ↓iop_assign, ↓pick3_bool, ↓iop_pick, ↓iop_box, ↓iop_load, ↓iop_binOp, ↓iop_extract, extr_tuple, ↓iop_callv, nrmAll_cons, nrmAll_nil, nrm_agg, nrmL_cons, nrmL_nil, nrm_lits, nrm1_int, nrm1_lits, pickP_t, loadP_vptr, b_neq, env0_eq, ires_eq, iresL_1, iresAll_nil, iresAll_cons, iresOne_tmp, valT_eq, pursL_cons, pursL_nil, ↓reduceIte, callP_eq, tsOf_eq, boxP_eq, List.take_succ_cons, List.take_nil, ↓evs_cons, ↓evs_nil, beq_self_eq_true, see_eq, and_false, Bool.true_eq_false, e_cheap, s_cheap, e_cost, s_cost, e_serves, s_serves, nth_its, pur_its, nth_arcs, pur_arcs, nth_snds, pur_snds, nth_lnks, pur_lnks, lkC_len, lkC_0, lkC_1, lkC_cap, lkC_pri, lkC_take, pur_lkC, Nat.mul_one, Try.f19, ty24, ty25, ty27, h, hs, hr, hc, hl]
 ·rw [if_neg h]
  generalize chpL hn ls us d = l at *
  simp +contextual (maxSteps := 4000000) only [↓ur_seq, ↓ur_ret, ↓ur_region, ↓ur_cond, ↓cont_seq, ↓done_nil, ↓done_seq, ↓ops_consN, ↓ops_guardN, nY_move, nY_assign, nY_pick, nY_box, nY_load, nY_binOp, nilO_int, nY_extract, nY_callf, ↓ops_nil, opsIf_some, condC_true, guardC_tf, Option.map_some, Option.bind_some, Option.getD_some, Nat.reduceLT, Bool.false_eq_true, ↓upd_same, ↓upd_ne, Nat.reduceBEq, and_true, List.getD_cons_zero, List.getD_cons_succ, List.getElem?_toArray, List.getElem?_cons_zero, List.getElem?_cons_succ, endQ, cfg_P, cfg_tab, cfg_muts, cfg_frz, List.contains_nil, decide_true, Option.some.injEq, exists_eq_left', List.lookup_cons, List.lookup_nil, tabOf_cons, tab_v, Bool.and_self, Nat.reduceEqDiff, List.nil_append, List.append_nil, List.length_cons, List.length_nil, Nat.zero_add, List.drop_zero, Nat.reduceAdd, Bool.not_false, not_false_eq_true, st0, Nat.le_refl, pur_int, pur_lits, cells_agg, pur_agg, DRx_int, ↓ev_tmp, ↓ev_int, ↓ev_bool, ↓ev_func, ↓guardP_eq, grd_some, ↓iop_move, ↓iop_assign, ↓pick3_bool, ↓iop_pick, ↓iop_box, ↓iop_load, ↓iop_binOp, ↓iop_extract, extr_tuple, ↓iop_callv, nrmAll_cons, nrmAll_nil, nrm_agg, nrmL_cons, nrmL_nil, nrm_lits, nrm1_int, nrm1_lits, pickP_t, loadP_vptr, b_neq, env0_eq, ires_eq, iresL_1, iresAll_nil, iresAll_cons, iresOne_tmp, valT_eq, pursL_cons, pursL_nil, ↓reduceIte, callP_eq, tsOf_eq, boxP_eq, List.take_succ_cons, List.take_nil, ↓evs_cons, ↓evs_nil, beq_self_eq_true, see_eq, and_false, Bool.true_eq_false, e_cheap, s_cheap, e_cost, s_cost, e_serves, nth_its, pur_its, nth_arcs, pur_arcs, nth_snds, pur_snds, nth_lnks, pur_lnks, lkC_len, lkC_0, lkC_1, lkC_cap, lkC_pri, lkC_take, pur_lkC, Nat.mul_one, Try.f19, ty24, ty25, ty27, h]
theorem o_cost2 : O_cost2 := k_cost2 c_cost2
def besT (hn : Int) (ls : List Lnk) (us l : List Snd) : Nat → Bool
 | 0 => true
 | k + 1 => besT hn ls us l k && decide ((leftM hn ls us (l.getD k dS).1 (l.getD k dS).2.1).2 = 0 ∧ (l.getD k dS).2.2 ≤ (leftM hn ls us (l.getD k dS).1 (l.getD k dS).2.1).1)
theorem besT_end {hn : Int} {ls : List Lnk} {us l : List Snd} {k : Nat} (h : besT hn ls us l k = false) : ∀ {m}, k ≤ m → besT hn ls us l m = false
 | 0, hm => by rwa [show k = 0 by omega] at h
 | m + 1, hm => by
  by_cases e : k = m + 1
  ·rwa [← e]
  ·rw [besT, besT_end h (by omega)]; rfl
theorem besT_iff {hn : Int} {ls : List Lnk} {us l : List Snd} : ∀ {n}, besT hn ls us l n = true ↔ ∀ k, k < n → (leftM hn ls us (l.getD k dS).1 (l.getD k dS).2.1).2 = 0 ∧ (l.getD k dS).2.2 ≤ (leftM hn ls us (l.getD k dS).1 (l.getD k dS).2.1).1
 | 0 => ⟨fun _ k hk => absurd hk (by omega), fun _ => rfl⟩
 | n + 1 => by
  rw [besT, Bool.and_eq_true, besT_iff (n := n), decide_eq_true_eq]
  constructor
  ·rintro ⟨h1, h2⟩ k hk
   by_cases e : k = n
   ·subst e; exact h2
   ·exact h1 k (by omega)
  ·exact fun h => ⟨fun k hk => h k (by omega), h n (by omega)⟩
noncomputable def A_bes : (Int) × (List Lnk) × (List Snd) × (List Snd) → List PV := fun (hn, ls, us, l) => [.agg [I hn, lnks ls], snds us, snds l]
noncomputable def R_bes : (Int) × (List Lnk) × (List Snd) × (List Snd) → PV := fun (hn, ls, us, l) => B (besT hn ls us l l.length)
def H_bes : (Int) × (List Lnk) × (List Snd) × (List Snd) → Prop := fun (hn, ls, us, l) => l.length ≤ 100000
noncomputable def e_bes : Nat × Ent := (21, .v (specOf A_bes R_bes H_bes))
theorem j_bes : ∀ i j, A_bes i = A_bes j → i = j := by
 rintro ⟨hn₁, ls₁, us₁, l₁⟩ ⟨hn₂, ls₂, us₂, l₂⟩ h
 simp only [A_bes, List.cons.injEq, and_true, PV.lits.injEq, PV.int.injEq, PV.bool.injEq, PV.str.injEq, PV.agg.injEq, PV.func.injEq, Fn.func.injEq, PV.vptr.injEq, true_and, List.map_nil, inj_ints, inj_strs, inj_its, inj_arcs, inj_snds, inj_lnks] at h
 simp [Prod.ext_iff, h] <;> omega
theorem s_bes (hn : Int) (ls : List Lnk) (us : List Snd) (l : List Snd) : specOf A_bes R_bes H_bes [.agg [I hn, lnks ls], snds us, snds l] = @ite (Option (PV)) (l.length ≤ 100000) (Classical.propDecidable _) (some (B (besT hn ls us l l.length))) none := specOf_if j_bes (hn, ls, us, l)
def C_bes : Prop := ∀ (hn : Int) (ls : List Lnk) (us : List Snd) (l : List Snd) (h : l.length ≤ 100000) , VC Try.prog 21 [.agg [I hn, lnks ls], snds us, snds l] (B (besT hn ls us l l.length))
def O_bes : Prop := EntOK Try.prog e_bes.1 e_bes.2
theorem k_bes (c : C_bes) : O_bes := specOf_ok fun ⟨hn, ls, us, l⟩ h => c hn ls us l h
theorem c_bes : C_bes := by
 rintro hn ls us l hlen
 refine vc_ofU mixed (l := [e_left]) ((eok_cons o_left eok_nil)) [] []  Try.func21 rfl (by decide +kernel) (N := 36) rfl (by simp) rfl (by kernel_rfl) fun hs => ?_
 simp only [smallL, PV.small, List.length_map, and_true, true_and] at hs
 generalize hr : besT hn ls us l l.length = r
 simp +contextual (maxSteps := 4000000) only [↓ur_seq, ↓ur_block, ↓ur_region, ↓cont_seq, ↓ops_consN, nY_move, nY_assign, nY_box, nY_callb, ↓ops_nil, opsIf_some, Option.map_some, Option.getD_some, Nat.reduceLT, Bool.false_eq_true, ↓upd_same, ↓upd_ne, Nat.reduceBEq, true_and, List.getD_cons_zero, List.getD_cons_succ, cfg_P, cfg_muts, List.length_map, List.contains_nil, List.length_cons, List.length_nil, Nat.zero_add, Nat.reduceAdd, st0, cells_agg, ↓ev_tmp, ↓ev_int, ↓ev_bool, ↓iop_move, ↓iop_assign, ↓iop_box, ↓iop_callb, bi_len, lenM_none, lenP_lits, env0_eq, ↓reduceIte, boxP_eq, ↓evs_cons, ↓evs_nil, e_left, nth_its, pur_its, nth_arcs, pur_arcs, nth_snds, pur_snds, nth_lnks, pur_lnks, lkC_len, lkC_0, lkC_1, lkC_cap, lkC_pri, lkC_take, pur_lkC, Nat.mul_one, Try.f21, ty25]
 refine loop_cnt [6, 8, 9, 10, 13, 14, 15, 16, 17, 18, 19, 20, 21, 22, 23, 24, 25, 26, 27, 28, 29, 30, 31, 32, 33, 34, 35] l.length (fun k ρ st' => ρ 13 = I k ∧ besT hn ls us l k = true) (.refl _) ?_ ?_
 ·simp +contextual (maxSteps := 4000000) only [↓upd_same, true_and, Int.cast_ofNat_Int, nth_its, pur_its, nth_arcs, pur_arcs, nth_snds, pur_snds, nth_lnks, pur_lnks, lkC_len, lkC_0, lkC_1, lkC_cap, lkC_pri, lkC_take, pur_lkC, Nat.mul_one, Try.f21]
  rfl
 rintro k ρ ⟨ob, M⟩ hk ⟨h13, hb⟩
 by_cases hlt : k < l.length
 ·have hwk := wrapN' (k := k) (by omega)
  have hst : besT hn ls us l (k + 1) = (besT hn ls us l k && decide ((leftM hn ls us (l.getD k dS).1 (l.getD k dS).2.1).2 = 0 ∧ (l.getD k dS).2.2 ≤ (leftM hn ls us (l.getD k dS).1 (l.getD k dS).2.1).1)) := rfl
  rw [hb, Bool.true_and] at hst
  have hend : besT hn ls us l (k + 1) = false → r = false := fun h => by rw [← hr]; exact besT_end h (by omega)
  generalize hx : l.getD k dS = x at *
  generalize hq : leftM hn ls us x.1 x.2.1 = q at *
  by_cases c1 : q.2 = 0
  ·by_cases c2 : q.1 < x.2.2
   ·rw [decide_eq_false (fun g => by omega)] at hst
    rw [hst] at hend
    have hend := hend rfl
    subst hend
    simp +contextual (maxSteps := 4000000) only [↓ur_skip, ↓ur_seq, ↓ur_block, ↓ur_ret, ↓ur_region, ↓ur_cond, ↓cont_seq, ↓done_nil, ↓done_seq, ↓done_blk, ↓done_lp, ↓ops_consN, ↓ops_guardN, nY_move, nY_assign, nY_pick, nY_alloc, nY_load, nY_store, nY_binOp, nilO_tmp, nilO_int, nY_fieldAddr, nY_indexAddr, nY_extract, nY_callf, ↓ops_nil, opsIf_some, opsIf_none, condC_true, guardC_ff, Option.map_some, Option.bind_some, Option.getD_some, Nat.reduceLT, Bool.false_eq_true, ↓upd_same, ↓upd_ne, Nat.reduceBEq, and_true, List.getD_cons_zero, List.getD_cons_succ, List.getElem?_toArray, List.getElem?_cons_zero, List.getElem?_cons_succ, endQ, cfg_P, cfg_tab, cfg_muts, cfg_frz, cfg_num, numOf_eq, List.length_map, ↓havoc_in, ↓havoc_out, List.contains_cons, List.contains_nil, Bool.or_false, Bool.or_true, Int.natCast_nonneg, Int.ofNat_lt, Int.toNat_natCast, decide_true, decide_false, Option.some.injEq, exists_eq_left', List.lookup_cons, List.lookup_nil, tabOf_cons, tab_v, Bool.and_true, Bool.and_self, List.nil_append, List.append_nil, updO_same, List.length_cons, List.length_nil, Nat.zero_add, Nat.add_zero, List.drop_zero, List.take_zero, Nat.not_succ_le_self, Nat.reduceAdd, List.set_cons_zero, nth_zero, Nat.lt_succ_self, Bool.not_false, not_true_eq_false, or_false, Nat.le_refl, pur_int, pur_lits, cells_agg, pur_agg, DRx_bool, ↓ev_tmp, ↓ev_int, ↓ev_bool, ↓ev_func, ↓guardP_eq, grd_some, ↓iop_move, ↓iop_assign, ↓pick3_bool, ↓iop_pick, ↓iop_alloc, ↓iop_load, ↓iop_store, ↓iop_binOp, ↓iop_fieldAddr, ↓iop_indexAddr, idxA_int, ↓iop_extract, extr_tuple, ↓iop_callv, tmpNo_tmp, softS_ptr, heldS_ptr, isInt1_int, isInt_agg, List.all_cons, List.all_nil, nrmAll_cons, nrmAll_nil, nrm_agg, nrmL_cons, nrmL_nil, nrm_int, nrm_lits, nrm1_int, nrm1_lits, pickP_f, pickP_t, loadP_vptr, loadP_ptr, setCells_agg, storeP_ptr, fieldP_ptr, indexP_lits, b_neq, b_lss, b_gtr, splice_eq, env0_eq, ires_eq, iresL_1, iresAll_nil, iresAll_cons, iresOne_tmp, valT_eq, pursL_cons, pursL_nil, Store.new, Store.set, ↓reduceIte, arr_eq, arrB_some, callP_eq, tsOf_eq, beq_eq_false_iff_ne, ne_eq, List.take_succ_cons, List.drop_succ_cons, List.drop_nil, List.take_nil, ↓evs_cons, ↓evs_nil, beq_self_eq_true, List.all_cons, List.all_nil, see_eq, false_and, and_false, Bool.true_eq_false, s_left, nth_its, pur_its, nth_arcs, pur_arcs, nth_snds, pur_snds, nth_lnks, pur_lnks, lkC_len, lkC_0, lkC_1, lkC_cap, lkC_pri, lkC_take, pur_lkC, Nat.mul_one, Try.f21, ty3, ty24, ty25, ty56, h13, hlt, hwk, hx, hq, c1, c2]
   ·rw [decide_eq_true (show q.2 = 0 ∧ x.2.2 ≤ q.1 from ⟨c1, by omega⟩)] at hst
    simp +contextual (maxSteps := 4000000) only [↓ur_skip, ↓ur_seq, ↓ur_block, ↓ur_region, ↓ur_cond, ↓cont_seq, ↓cont_blk, ↓cont_lp, ↓ops_consN, ↓ops_guardN, nY_move, nY_assign, nY_pick, nY_alloc, nY_load, nY_store, nY_binOp, nilO_tmp, nilO_int, nY_fieldAddr, nY_indexAddr, nY_extract, nY_callf, ↓ops_nil, opsIf_some, opsIf_none, condC_true, condC_false, guardC_ff, Option.map_some, Option.bind_some, Option.getD_some, Nat.reduceLT, Bool.false_eq_true, ↓upd_same, ↓upd_ne, Nat.reduceBEq, true_and, and_true, List.getD_cons_zero, List.getD_cons_succ, List.getElem?_toArray, List.getElem?_cons_zero, List.getElem?_cons_succ, cfg_P, cfg_tab, cfg_muts, cfg_frz, cfg_num, numOf_eq, List.length_map, ↓havoc_in, ↓havoc_out, agree_upd, agree_havoc, List.contains_cons, List.contains_nil, Bool.or_false, Bool.or_true, Int.natCast_nonneg, Int.ofNat_lt, Int.toNat_natCast, decide_true, decide_false, List.lookup_cons, List.lookup_nil, tabOf_cons, tab_v, Bool.and_true, Bool.and_self, List.nil_append, List.append_nil, updO_same, List.length_cons, List.length_nil, Nat.zero_add, Nat.add_zero, List.drop_zero, List.take_zero, Nat.not_succ_le_self, Nat.reduceAdd, List.set_cons_zero, nth_zero, Nat.lt_succ_self, Bool.not_false, not_true_eq_false, or_false, Nat.le_refl, pur_int, pur_lits, cells_agg, pur_agg, ↓ev_tmp, ↓ev_int, ↓ev_func, ↓guardP_eq, grd_some, ↓iop_move, ↓iop_assign, ↓pick3_bool, ↓iop_pick, ↓iop_alloc, ↓iop_load, ↓iop_store, ↓iop_binOp, ↓iop_fieldAddr, ↓iop_indexAddr, idxA_int, ↓iop_extract, extr_tuple, ↓iop_callv, tmpNo_tmp, softS_ptr, heldS_ptr, isInt1_int, isInt_agg, List.all_cons, List.all_nil, nrmAll_cons, nrmAll_nil, nrm_agg, nrmL_cons, nrmL_nil, nrm_int, nrm_lits, nrm1_int, nrm1_lits, pickP_f, pickP_t, loadP_vptr, loadP_ptr, setCells_agg, storeP_ptr, fieldP_ptr, indexP_lits, b_add, b_neq, b_lss, b_gtr, splice_eq, env0_eq, valT_eq, pursL_cons, pursL_nil, Store.new, Store.set, ↓reduceIte, arr_eq, arrB_some, callP_eq, tsOf_eq, beq_eq_false_iff_ne, ne_eq, List.take_succ_cons, List.drop_succ_cons, List.drop_nil, List.take_nil, ↓evs_cons, ↓evs_nil, beq_self_eq_true, List.all_cons, List.all_nil, see_eq, false_and, and_false, Bool.true_eq_false, s_left, nth_its, pur_its, nth_arcs, pur_arcs, nth_snds, pur_snds, nth_lnks, pur_lnks, lkC_len, lkC_0, lkC_1, lkC_cap, lkC_pri, lkC_take, pur_lkC, Nat.mul_one, Try.f21, ty3, ty24, ty25, ty56, h13, hlt, hwk, hx, hq, c1, c2]
    exact hst
  ·rw [decide_eq_false (fun g => c1 g.1)] at hst
   rw [hst] at hend
   have hend := hend rfl
   subst hend
   simp +contextual (maxSteps := 4000000) only [↓ur_skip, ↓ur_seq, ↓ur_block, ↓ur_ret, ↓ur_region, ↓ur_cond, ↓cont_seq, ↓done_nil, ↓done_seq, ↓done_blk, ↓done_lp, ↓ops_consN, ↓ops_guardN, nY_move, nY_assign, nY_pick, nY_alloc, nY_load, nY_store, nY_binOp, nilO_tmp, nilO_int, nY_fieldAddr, nY_indexAddr, nY_extract, nY_callf, ↓ops_nil, opsIf_some, opsIf_none, condC_true, guardC_tf, Option.map_some, Option.bind_some, Option.getD_some, Nat.reduceLT, Bool.false_eq_true, ↓upd_same, ↓upd_ne, Nat.reduceBEq, true_and, and_true, List.getD_cons_zero, List.getD_cons_succ, List.getElem?_toArray, List.getElem?_cons_zero, List.getElem?_cons_succ, endQ, cfg_P, cfg_tab, cfg_muts, cfg_frz, cfg_num, numOf_eq, List.length_map, ↓havoc_in, ↓havoc_out, List.contains_cons, List.contains_nil, Bool.or_false, Bool.or_true, Int.natCast_nonneg, Int.ofNat_lt, Int.toNat_natCast, decide_true, decide_false, Option.some.injEq, exists_eq_left', List.lookup_cons, List.lookup_nil, tabOf_cons, tab_v, Bool.and_true, Bool.and_self, List.nil_append, List.append_nil, updO_same, List.length_cons, List.length_nil, Nat.zero_add, Nat.add_zero, List.drop_zero, List.take_zero, Nat.not_succ_le_self, Nat.reduceAdd, List.set_cons_zero, nth_zero, Nat.lt_succ_self, Bool.not_false, not_false_eq_true, or_false, Nat.le_refl, pur_int, pur_lits, cells_agg, pur_agg, DRx_bool, ↓ev_tmp, ↓ev_int, ↓ev_bool, ↓ev_func, ↓guardP_eq, grd_some, ↓iop_move, ↓iop_assign, ↓pick3_bool, ↓iop_pick, ↓iop_alloc, ↓iop_load, ↓iop_store, ↓iop_binOp, ↓iop_fieldAddr, ↓iop_indexAddr, idxA_int, ↓iop_extract, extr_tuple, ↓iop_callv, tmpNo_tmp, softS_ptr, heldS_ptr, isInt1_int, isInt_agg, List.all_cons, List.all_nil, nrmAll_cons, nrmAll_nil, nrm_agg, nrmL_cons, nrmL_nil, nrm_int, nrm_lits, nrm1_int, nrm1_lits, pickP_f, pickP_t, loadP_vptr, loadP_ptr, setCells_agg, storeP_ptr, fieldP_ptr, indexP_lits, b_neq, b_lss, splice_eq, env0_eq, ires_eq, iresL_1, iresAll_nil, iresAll_cons, iresOne_tmp, valT_eq, pursL_cons, pursL_nil, Store.new, Store.set, ↓reduceIte, arr_eq, arrB_some, callP_eq, tsOf_eq, beq_eq_false_iff_ne, ne_eq, List.take_succ_cons, List.drop_succ_cons, List.drop_nil, List.take_nil, ↓evs_cons, ↓evs_nil, beq_self_eq_true, List.all_cons, List.all_nil, see_eq, false_and, and_false, Bool.true_eq_false, s_left, nth_its, pur_its, nth_arcs, pur_arcs, nth_snds, pur_snds, nth_lnks, pur_lnks, lkC_len, lkC_0, lkC_1, lkC_cap, lkC_pri, lkC_take, pur_lkC, Nat.mul_one, Try.f21, ty3, ty24, ty25, ty56, h13, hlt, hwk, hx, hq, c1]
 ·have e : k = l.length := by omega
  subst e
  rw [hb] at hr
  subst hr
  simp +contextual (maxSteps := 4000000) only [↓ur_seq, ↓ur_exit, ↓ur_ret, ↓ur_region, ↓ur_cond, ↓cont_seq, ↓leave_seq, ↓leave_blk, ↓leave_lp, ↓done_nil, ↓ops_consN, nY_assign, nY_binOp, nilO_tmp, ↓ops_nil, opsIf_some, condC_false, Option.map_some, Option.bind_some, Nat.reduceLT, ↓upd_same, ↓upd_ne, Nat.reduceBEq, and_true, endQ, cfg_P, ↓havoc_in, ↓havoc_out, List.contains_cons, List.contains_nil, Bool.or_false, Bool.or_true, Int.ofNat_lt, decide_false, Option.some.injEq, exists_eq_left', Nat.lt_irrefl, Bool.not_false, DRx_bool, ↓ev_tmp, ↓ev_bool, ↓iop_assign, ↓iop_binOp, b_lss, ires_eq, iresL_1, iresAll_nil, iresAll_cons, iresOne_tmp, ↓reduceIte, beq_self_eq_true, nth_its, pur_its, nth_arcs, pur_arcs, nth_snds, pur_snds, nth_lnks, pur_lnks, lkC_len, lkC_0, lkC_1, lkC_cap, lkC_pri, lkC_take, pur_lkC, Nat.mul_one, Try.f21, h13]
theorem o_bes : O_bes := k_bes c_bes
theorem bes_ok {hn : Int} {ls : List Lnk} {us l : List Snd} (hf : fitM hn ls us = 0) (ok : OKr hn ls l) : besT hn ls us l l.length = true ↔ ∀ i, i < l.length → (l.getD i dS).2.2 ≤ capM ls (l.getD i dS).1 (l.getD i dS).2.1 - sentT us (l.getD i dS).1 (l.getD i dS).2.1 us.length := by
 have key : ∀ i, i < l.length → leftM hn ls us (l.getD i dS).1 (l.getD i dS).2.1 = (capM ls (l.getD i dS).1 (l.getD i dS).2.1 - sentT us (l.getD i dS).1 (l.getD i dS).2.1 us.length, 0) := fun i hi => by
  have e1 := ok.link i hi
  have e2 := ok.tick i hi
  unfold leftM
  rw [if_neg (fun g => g (right_zero.2 (fit_ok hf).1)), if_neg (by omega)]
 rw [besT_iff]
 constructor
 ·intro h i hi
  have := (h i hi).2
  rw [key i hi] at this
  exact this
 ·intro h i hi
  rw [key i hi]
  exact ⟨rfl, h i hi⟩
end Sim
