/- What functions of this seat compute, by values: contracts (lemmas of the statement's proof, under the conditions that each names). -/
import Derived.Test.YtbojbamchaohpaaQN2
namespace Sim
open Go Go.Proofs
set_option maxRecDepth 10000
set_option maxHeartbeats 2000000
set_option linter.unusedVariables false
set_option linter.unusedSimpArgs false
attribute [local congr] opsIf_congr condC_congr guardC_congr grd_congr pick3_congr obind_congr omap_congr
structure OKr (hn : Int) (ls : List Lnk) (l : List Snd) : Prop where
 net : OKn hn ls
 len : l.length ≤ 2000
 link : ∀ k, k < l.length → 0 ≤ (l.getD k dS).1 ∧ (l.getD k dS).1 < (ls.length : Int)
 tick : ∀ k, k < l.length → 0 ≤ (l.getD k dS).2.1 ∧ (l.getD k dS).2.1 < 1000000
 bytes : ∀ k, k < l.length → 1 ≤ (l.getD k dS).2.2 ∧ (l.getD k dS).2.2 ≤ 1073741824
 asc : ∀ k, 0 < k → k < l.length → (l.getD (k - 1) dS).2.1 < (l.getD k dS).2.1 ∨ ((l.getD (k - 1) dS).2.1 = (l.getD k dS).2.1 ∧ (l.getD (k - 1) dS).1 < (l.getD k dS).1)
theorem rgT_zero {ls : List Lnk} {l : List Snd} : ∀ {k}, rgT ls l k = 0 ↔ ∀ i, i < k → sndE ls l i = 0
 | 0 => ⟨fun _ h g => absurd g (by omega), fun _ => rfl⟩
 | k + 1 => by
  have ih := @rgT_zero ls l k
  simp only [rgT]
  by_cases h : rgT ls l k = 0
  ·rw [if_neg (fun hn => hn h)]
   constructor
   ·intro hb i hi
    by_cases e : i = k
    ·subst e; exact hb
    ·exact ih.1 h i (by omega)
   ·intro g; exact g k (by omega)
  ·rw [if_pos h]
   exact ⟨fun g => absurd g h, fun g => absurd (ih.2 fun i hi => g i (by omega)) h⟩
theorem sndE_zero {ls : List Lnk} {l : List Snd} {k : Nat} : sndE ls l k = 0 ↔ (0 ≤ (l.getD k dS).1 ∧ (l.getD k dS).1 < (ls.length : Int)) ∧ (0 ≤ (l.getD k dS).2.1 ∧ (l.getD k dS).2.1 < 1000000) ∧ (1 ≤ (l.getD k dS).2.2 ∧ (l.getD k dS).2.2 ≤ 1073741824) ∧ (0 < k → (l.getD (k - 1) dS).2.1 < (l.getD k dS).2.1 ∨ ((l.getD (k - 1) dS).2.1 = (l.getD k dS).2.1 ∧ (l.getD (k - 1) dS).1 < (l.getD k dS).1)) := by
 unfold sndE
 generalize l.getD k dS = x
 generalize l.getD (k - 1) dS = y
 split
 ·constructor
  ·intro h; cases h
  ·omega
 ·split
  ·constructor
   ·intro h; cases h
   ·omega
  ·split
   ·constructor
    ·intro h; cases h
    ·omega
   ·constructor
    ·intro; omega
    ·intro; rfl
theorem right_zero {hn : Int} {ls : List Lnk} {l : List Snd} : rightM hn ls l = 0 ↔ OKr hn ls l := by
 unfold rightM
 split
 ·rename_i h
  exact ⟨fun g => absurd g h, fun g => absurd (check_zero.2 g.net) h⟩
 ·rename_i h
  have h := check_zero.1 (Classical.not_not.1 h)
  split
  ·exact ⟨fun g => (by cases g), fun g => (by have := g.len; omega)⟩
  ·rw [rgT_zero]
   constructor
   ·intro g
    exact ⟨h, by omega, fun k hk => (sndE_zero.1 (g k hk)).1, fun k hk => (sndE_zero.1 (g k hk)).2.1, fun k hk => (sndE_zero.1 (g k hk)).2.2.1, fun k h0 hk => (sndE_zero.1 (g k hk)).2.2.2 h0⟩
   ·intro g k hk
    exact sndE_zero.2 ⟨g.link k hk, g.tick k hk, g.bytes k hk, fun h0 => g.asc k h0 hk⟩
def capM (ls : List Lnk) (link tick : Int) : Int := capA (ls.getD link.toNat dL) (tick.toNat % 24)
def priM (ls : List Lnk) (link tick : Int) : Int := priA (ls.getD link.toNat dL) (tick.toNat % 24)
theorem tmod24 {t : Int} (h : 0 ≤ t) : Int.tmod t 24 = ((t.toNat % 24 : Nat) : Int) := by
 rw [Int.tmod_eq_emod_of_nonneg h]; omega
theorem toNat_lt' {a : Int} {n : Nat} (h0 : 0 ≤ a) (h : a < (n : Int)) : a.toNat < n := by omega
noncomputable def A_cap : (Int) × (List Lnk) × (Int) × (Int) → List PV := fun (hn, ls, link, tick) => [.agg [I hn, lnks ls], I link, I tick]
noncomputable def R_cap : (Int) × (List Lnk) × (Int) × (Int) → PV := fun (hn, ls, link, tick) => I (capM ls link tick)
def H_cap : (Int) × (List Lnk) × (Int) × (Int) → Prop := fun (hn, ls, link, tick) => 0 ≤ link ∧ link < (ls.length : Int) ∧ 0 ≤ tick
noncomputable def e_cap : Nat × Ent := (36, .v (specOf A_cap R_cap H_cap))
theorem j_cap : ∀ i j, A_cap i = A_cap j → i = j := by
 rintro ⟨hn₁, ls₁, link₁, tick₁⟩ ⟨hn₂, ls₂, link₂, tick₂⟩ h
 simp only [A_cap, List.cons.injEq, and_true, PV.lits.injEq, PV.int.injEq, PV.bool.injEq, PV.str.injEq, PV.agg.injEq, PV.func.injEq, Fn.func.injEq, PV.vptr.injEq, true_and, List.map_nil, inj_ints, inj_strs, inj_its, inj_arcs, inj_snds, inj_lnks] at h
 simp [Prod.ext_iff, h] <;> omega
theorem s_cap (hn : Int) (ls : List Lnk) (link : Int) (tick : Int) : specOf A_cap R_cap H_cap [.agg [I hn, lnks ls], I link, I tick] = @ite (Option (PV)) (0 ≤ link ∧ link < (ls.length : Int) ∧ 0 ≤ tick) (Classical.propDecidable _) (some (I (capM ls link tick))) none := specOf_if j_cap (hn, ls, link, tick)
def C_cap : Prop := ∀ (hn : Int) (ls : List Lnk) (link : Int) (tick : Int) (h : 0 ≤ link ∧ link < (ls.length : Int) ∧ 0 ≤ tick) , VC Try.prog 36 [.agg [I hn, lnks ls], I link, I tick] (I (capM ls link tick))
def O_cap : Prop := EntOK Try.prog e_cap.1 e_cap.2
theorem k_cap (c : C_cap) : O_cap := specOf_ok fun ⟨hn, ls, link, tick⟩ h => c hn ls link tick h
theorem c_cap : C_cap := by
 rintro hn ls link tick ⟨h0, h1, h2⟩
 refine vc_ofU mixed (l := []) (eok_nil) [] []  Try.func36 rfl (by decide +kernel) (N := 16) rfl (by simp) rfl (by kernel_rfl) fun hs => ?_
 simp only [smallL, PV.small, List.length_map, and_true, true_and] at hs
 unfold capM
 have h3 := tmod24 h2
 have h4 : tick.toNat % 24 < 24 := Nat.mod_lt _ (by omega)
 have h4i : ((tick.toNat % 24 : Nat) : Int) < 24 := by omega
 generalize tick.toNat % 24 = h at *
 have h5 := toNat_lt' h0 h1
 have h6 := Int.toNat_of_nonneg h0
 generalize link.toNat = k at *
 generalize hr : capA (ls.getD k dL) h = r
 subst h6
 simp +contextual (maxSteps := 4000000) only [↓ur_seq, ↓ur_ret, ↓ur_region, ↓cont_seq, ↓done_nil, ↓ops_consN, nY_move, nY_assign, nY_box, nY_load, nY_binOp, nilO_int, nY_fieldAddr, nY_indexAddr, ↓ops_nil, opsIf_some, Option.map_some, Option.bind_some, Option.getD_some, Nat.reduceLT, Bool.false_eq_true, ↓upd_same, ↓upd_ne, Nat.reduceBEq, and_true, List.getD_cons_zero, List.getD_cons_succ, List.getElem?_cons_zero, List.getElem?_cons_succ, endQ, cfg_P, cfg_muts, cfg_frz, List.length_map, List.contains_nil, Int.natCast_nonneg, Int.toNat_natCast, Option.some.injEq, exists_eq_left', List.length_cons, List.length_nil, Nat.zero_add, Nat.reduceAdd, Nat.lt_succ_self, Bool.not_false, Int.reduceEq, st0, cells_agg, DRx_int, ↓ev_tmp, ↓ev_int, ↓iop_move, ↓iop_assign, ↓iop_box, ↓iop_load, ↓iop_binOp, ↓iop_fieldAddr, ↓iop_indexAddr, idxA_int, pickP_f, loadP_vptr, fieldP_vptr, indexP_lits, indexP_vptr, b_rem, env0_eq, ires_eq, iresL_1, iresAll_nil, iresAll_cons, iresOne_tmp, ↓reduceIte, boxP_eq, see_eq, Int.cast_ofNat_Int, nth_its, pur_its, nth_arcs, pur_arcs, nth_snds, pur_snds, nth_lnks, pur_lnks, lkC_len, lkC_0, lkC_1, lkC_cap, lkC_pri, lkC_take, pur_lkC, Nat.mul_one, Try.f36, ty3, ty22, ty24, ty47, ty49, h0, h1, h2, h3, h4, h4i, h5, hr]
theorem o_cap : O_cap := k_cap c_cap
def ftT (ls : List Lnk) (l : List Snd) : Nat → Bool
 | 0 => false
 | k + 1 => ftT ls l k || decide (capM ls (l.getD k dS).1 (l.getD k dS).2.1 < (l.getD k dS).2.2)
def fitM (hn : Int) (ls : List Lnk) (l : List Snd) : Int := if rightM hn ls l ≠ 0 then rightM hn ls l else if ftT ls l l.length = true then 13 else 0
theorem ftT_end {ls : List Lnk} {l : List Snd} {k m : Nat} (h : ftT ls l k = true) (hk : k ≤ m) : ftT ls l m = true := by
 induction m with
 | zero => rwa [show k = 0 by omega] at h
 | succ m ih =>
  by_cases e : k = m + 1
  ·rwa [← e]
  ·simp only [ftT, ih (by omega), Bool.true_or]
noncomputable def A_fits : (Int) × (List Lnk) × (List Snd) → List PV := fun (hn, ls, l) => [.agg [I hn, lnks ls], snds l]
noncomputable def R_fits : (Int) × (List Lnk) × (List Snd) → PV := fun (hn, ls, l) => I (fitM hn ls l)
def H_fits : (Int) × (List Lnk) × (List Snd) → Prop := fun (hn, ls, l) => True
noncomputable def e_fits : Nat × Ent := (27, .v (specOf A_fits R_fits H_fits))
theorem j_fits : ∀ i j, A_fits i = A_fits j → i = j := by
 rintro ⟨hn₁, ls₁, l₁⟩ ⟨hn₂, ls₂, l₂⟩ h
 simp only [A_fits, List.cons.injEq, and_true, PV.lits.injEq, PV.int.injEq, PV.bool.injEq, PV.str.injEq, PV.agg.injEq, PV.func.injEq, Fn.func.injEq, PV.vptr.injEq, true_and, List.map_nil, inj_ints, inj_strs, inj_its, inj_arcs, inj_snds, inj_lnks] at h
 simp [Prod.ext_iff, h] <;> omega
theorem s_fits (hn : Int) (ls : List Lnk) (l : List Snd) : specOf A_fits R_fits H_fits [.agg [I hn, lnks ls], snds l] = some (I (fitM hn ls l)) := specOf_app j_fits (i := (hn, ls, l)) trivial
def C_fits : Prop := ∀ (hn : Int) (ls : List Lnk) (l : List Snd) , VC Try.prog 27 [.agg [I hn, lnks ls], snds l] (I (fitM hn ls l))
def O_fits : Prop := EntOK Try.prog e_fits.1 e_fits.2
theorem k_fits (c : C_fits) : O_fits := specOf_ok fun ⟨hn, ls, l⟩ h => c hn ls l
theorem c_fits : C_fits := by
 intro hn ls l
 refine vc_ofU mixed (l := [e_right, e_cap]) ((eok_cons o_right (eok_cons o_cap eok_nil))) [27] []  Try.func27 rfl (by decide +kernel) (N := 30) rfl (by simp) rfl (by kernel_rfl) fun hs => ?_
 simp only [smallL, PV.small, List.length_map, and_true, true_and] at hs
 by_cases h : rightM hn ls l = 0
 case neg =>
  rw [show fitM hn ls l = rightM hn ls l by simp [fitM, h]]
  generalize hr : rightM hn ls l = r at *
  simp +contextual (maxSteps := 4000000) only [↓ur_seq, ↓ur_ret, ↓ur_region, ↓ur_cond, ↓cont_seq, ↓done_nil, ↓done_seq, ↓ops_consN, nY_move, nY_assign, nY_box, nY_load, nY_binOp, nilO_int, nY_callf, ↓ops_nil, opsIf_some, condC_true, Option.map_some, Option.bind_some, Option.getD_some, Nat.reduceLT, Bool.false_eq_true, ↓upd_same, ↓upd_ne, Nat.reduceBEq, and_true, List.getD_cons_zero, List.getD_cons_succ, endQ, cfg_P, cfg_tab, cfg_muts, cfg_frz, List.contains_cons, List.contains_nil, Bool.or_false, decide_true, Option.some.injEq, exists_eq_left', List.lookup_cons, List.lookup_nil, tabOf_cons, tab_v, Bool.and_self, List.nil_append, List.append_nil, List.length_cons, List.length_nil, Nat.zero_add, List.drop_zero, Nat.reduceAdd, Bool.not_false, not_false_eq_true, st0, Nat.le_refl, pur_int, pur_lits, cells_agg, pur_agg, DRx_int, ↓ev_tmp, ↓ev_int, ↓ev_func, ↓iop_move, ↓iop_assign, ↓iop_box, ↓iop_load, ↓iop_binOp, ↓iop_callv, nrmAll_cons, nrmAll_nil, nrm_agg, nrmL_cons, nrmL_nil, nrm_lits, nrm1_int, nrm1_lits, pickP_t, loadP_vptr, b_neq, env0_eq, ires_eq, iresL_1, iresAll_nil, iresAll_cons, iresOne_tmp, valT_eq, pursL_cons, pursL_nil, ↓reduceIte, callP_eq, tsOf_eq, boxP_eq, List.take_succ_cons, List.take_nil, ↓evs_cons, ↓evs_nil, beq_self_eq_true, see_eq, and_false, Bool.true_eq_false, e_right, s_right, e_cap, nth_its, pur_its, nth_arcs, pur_arcs, nth_snds, pur_snds, nth_lnks, pur_lnks, lkC_len, lkC_0, lkC_1, lkC_cap, lkC_pri, lkC_take, pur_lkC, Nat.mul_one, Try.f27, ty24, ty25, h, hr]
 have ok := right_zero.1 h
 have hlen := ok.len
 rw [show fitM hn ls l = if ftT ls l l.length = true then 13 else 0 by simp [fitM, h]]
 generalize hr : (if ftT ls l l.length = true then (13 : Int) else 0) = r
 simp +contextual (maxSteps := 4000000) only [↓ur_skip, ↓ur_seq, ↓ur_block, ↓ur_region, ↓ur_cond, ↓cont_seq, ↓ops_consN, nY_move, nY_assign, nY_box, nY_load, nY_binOp, nilO_int, nY_callf, nY_callb, ↓ops_nil, opsIf_some, condC_false, Option.map_some, Option.bind_some, Option.getD_some, Nat.reduceLT, Bool.false_eq_true, ↓upd_same, ↓upd_ne, Nat.reduceBEq, true_and, List.getD_cons_zero, List.getD_cons_succ, cfg_P, cfg_tab, cfg_muts, cfg_frz, List.length_map, List.contains_cons, List.contains_nil, Bool.or_false, decide_false, List.lookup_cons, List.lookup_nil, tabOf_cons, tab_v, Bool.and_self, List.nil_append, List.append_nil, List.length_cons, List.length_nil, Nat.zero_add, List.drop_zero, Nat.reduceAdd, Bool.not_false, not_true_eq_false, st0, Nat.le_refl, pur_int, pur_lits, cells_agg, pur_agg, ↓ev_tmp, ↓ev_int, ↓ev_func, ↓iop_move, ↓iop_assign, ↓iop_box, ↓iop_load, ↓iop_binOp, ↓iop_callv, ↓iop_callb, nrmAll_cons, nrmAll_nil, bi_len, lenM_none, nrm_agg, nrmL_cons, nrmL_nil, nrm_lits, nrm1_int, nrm1_lits, pickP_t, loadP_vptr, lenP_lits, b_neq, env0_eq, valT_eq, pursL_cons, pursL_nil, ↓reduceIte, callP_eq, tsOf_eq, boxP_eq, List.take_succ_cons, List.take_nil, ↓evs_cons, ↓evs_nil, beq_self_eq_true, see_eq, and_false, Bool.true_eq_false, e_right, s_right, e_cap, nth_its, pur_its, nth_arcs, pur_arcs, nth_snds, pur_snds, nth_lnks, pur_lnks, lkC_len, lkC_0, lkC_1, lkC_cap, lkC_pri, lkC_take, pur_lkC, Nat.mul_one, Try.f27, ty24, ty25, h]
 refine loop_cnt [4, 7, 16, 17, 18, 19, 20, 21, 22, 23, 24, 25, 26, 27, 28, 29] l.length (fun k ρ st' => ρ 16 = I k ∧ ftT ls l k = false) (.refl _) ?_ ?_
 ·simp +contextual (maxSteps := 4000000) only [↓upd_same, and_true, Int.cast_ofNat_Int, nth_its, pur_its, nth_arcs, pur_arcs, nth_snds, pur_snds, nth_lnks, pur_lnks, lkC_len, lkC_0, lkC_1, lkC_cap, lkC_pri, lkC_take, pur_lkC, Nat.mul_one, Try.f27, ftT]
 ·rintro k ρ ⟨ob, M⟩ hk ⟨h16, hz⟩
  by_cases hlt : k < l.length
  ·have hw1 : IntKind.i64.wrap ((k : Int) + 1) = ((k + 1 : Nat) : Int) := by rw [wrap64 (by omega) (by omega)]; omega
   have e1 := ok.link k hlt
   have e2 := (ok.tick k hlt).1
   have hs : ftT ls l (k + 1) = decide (capM ls (l.getD k dS).1 (l.getD k dS).2.1 < (l.getD k dS).2.2) := by simp only [ftT, hz, Bool.false_or]
   generalize hx : l.getD k dS = x at *
   by_cases hb : capM ls x.1 x.2.1 < x.2.2
   ·rw [decide_eq_true hb] at hs
    rw [if_pos (ftT_end hs (by omega))] at hr
    subst hr
    simp +contextual (maxSteps := 4000000) only [↓ur_skip, ↓ur_seq, ↓ur_block, ↓ur_ret, ↓ur_region, ↓ur_cond, ↓cont_seq, ↓done_nil, ↓done_seq, ↓done_blk, ↓done_lp, ↓ops_consN, nY_assign, nY_alloc, nY_load, nY_store, nY_binOp, nilO_tmp, nY_fieldAddr, nY_indexAddr, nY_callf, ↓ops_nil, opsIf_some, opsIf_none, condC_true, Option.map_some, Option.bind_some, Option.getD_some, Nat.reduceLT, Bool.false_eq_true, ↓upd_same, ↓upd_ne, Nat.reduceBEq, and_true, List.getElem?_cons_zero, List.getElem?_cons_succ, endQ, cfg_P, cfg_tab, cfg_muts, cfg_frz, cfg_num, numOf_eq, List.length_map, ↓havoc_in, ↓havoc_out, List.contains_cons, List.contains_nil, Bool.or_false, Bool.or_true, Int.natCast_nonneg, Int.ofNat_lt, Int.toNat_natCast, decide_true, decide_false, Option.some.injEq, exists_eq_left', List.lookup_cons, List.lookup_nil, tabOf_cons, tab_v, Bool.and_true, Bool.and_self, Nat.reduceEqDiff, List.nil_append, List.append_nil, updO_same, List.length_cons, List.length_nil, Nat.zero_add, Nat.add_zero, List.drop_zero, List.take_zero, Nat.not_succ_le_self, Nat.reduceAdd, List.set_cons_zero, nth_zero, Nat.lt_succ_self, Bool.not_false, or_false, Nat.le_refl, pur_int, pur_lits, cells_agg, pur_agg, DRx_int, ↓ev_tmp, ↓ev_int, ↓ev_func, ↓iop_assign, ↓iop_alloc, ↓iop_load, ↓iop_store, ↓iop_binOp, ↓iop_fieldAddr, ↓iop_indexAddr, idxA_int, ↓iop_callv, tmpNo_tmp, softS_ptr, heldS_ptr, isInt1_int, isInt_agg, List.all_cons, List.all_nil, nrmAll_cons, nrmAll_nil, nrm_agg, nrmL_cons, nrmL_nil, nrm_int, nrm1_int, nrm1_lits, pickP_f, pickP_t, loadP_vptr, loadP_ptr, setCells_agg, storeP_ptr, fieldP_ptr, indexP_lits, b_lss, b_gtr, splice_eq, ires_eq, iresL_1, iresAll_nil, iresAll_cons, iresOne_tmp, valT_eq, pursL_cons, pursL_nil, Store.new, Store.set, ↓reduceIte, arr_eq, arrB_some, callP_eq, tsOf_eq, beq_eq_false_iff_ne, ne_eq, List.take_succ_cons, List.drop_succ_cons, List.drop_nil, List.take_nil, ↓evs_cons, ↓evs_nil, beq_self_eq_true, List.all_cons, List.all_nil, see_eq, false_and, and_false, Bool.true_eq_false, s_cap, nth_its, pur_its, nth_arcs, pur_arcs, nth_snds, pur_snds, nth_lnks, pur_lnks, lkC_len, lkC_0, lkC_1, lkC_cap, lkC_pri, lkC_take, pur_lkC, Nat.mul_one, Try.f27, ty3, ty24, ty25, ty56, h16, hlt, hx, e1, e2, hb]
   ·rw [decide_eq_false hb] at hs
    simp +contextual (maxSteps := 4000000) only [↓ur_skip, ↓ur_seq, ↓ur_block, ↓ur_region, ↓ur_cond, ↓cont_seq, ↓cont_blk, ↓cont_lp, ↓ops_consN, nY_move, nY_alloc, nY_load, nY_store, nY_binOp, nilO_tmp, nilO_int, nY_fieldAddr, nY_indexAddr, nY_callf, ↓ops_nil, opsIf_some, opsIf_none, condC_true, condC_false, Option.map_some, Option.bind_some, Option.getD_some, Nat.reduceLT, Bool.false_eq_true, ↓upd_same, ↓upd_ne, Nat.reduceBEq, and_true, List.getElem?_cons_zero, List.getElem?_cons_succ, cfg_P, cfg_tab, cfg_muts, cfg_frz, cfg_num, numOf_eq, List.length_map, ↓havoc_in, ↓havoc_out, agree_upd, agree_havoc, List.contains_cons, List.contains_nil, Bool.or_false, Bool.or_true, Int.natCast_nonneg, Int.ofNat_lt, Int.toNat_natCast, decide_true, decide_false, List.lookup_cons, List.lookup_nil, tabOf_cons, tab_v, Bool.and_true, Bool.and_self, Nat.reduceEqDiff, List.nil_append, List.append_nil, updO_same, List.length_cons, List.length_nil, Nat.zero_add, Nat.add_zero, List.drop_zero, List.take_zero, Nat.not_succ_le_self, Nat.reduceAdd, List.set_cons_zero, nth_zero, Nat.lt_succ_self, Bool.not_false, or_false, Nat.le_refl, pur_int, pur_lits, cells_agg, pur_agg, ↓ev_tmp, ↓ev_int, ↓ev_func, ↓iop_move, ↓iop_alloc, ↓iop_load, ↓iop_store, ↓iop_binOp, ↓iop_fieldAddr, ↓iop_indexAddr, idxA_int, ↓iop_callv, tmpNo_tmp, softS_ptr, heldS_ptr, isInt1_int, isInt_agg, List.all_cons, List.all_nil, nrmAll_cons, nrmAll_nil, nrm_agg, nrmL_cons, nrmL_nil, nrm_int, nrm1_int, nrm1_lits, pickP_f, pickP_t, loadP_vptr, loadP_ptr, setCells_agg, storeP_ptr, fieldP_ptr, indexP_lits, b_add, b_lss, b_gtr, splice_eq, valT_eq, pursL_cons, pursL_nil, Store.new, Store.set, ↓reduceIte, arr_eq, arrB_some, callP_eq, tsOf_eq, beq_eq_false_iff_ne, ne_eq, List.take_succ_cons, List.drop_succ_cons, List.drop_nil, List.take_nil, ↓evs_cons, ↓evs_nil, beq_self_eq_true, List.all_cons, List.all_nil, see_eq, false_and, and_false, Bool.true_eq_false, s_cap, nth_its, pur_its, nth_arcs, pur_arcs, nth_snds, pur_snds, nth_lnks, pur_lnks, lkC_len, lkC_0, lkC_1, lkC_cap, lkC_pri, lkC_take, pur_lkC, Nat.mul_one, Try.f27, ty3, ty24, ty25, ty56, h16, hlt, hx, e1, e2, hb, hs, hw1]
  ·have e : k = l.length := by omega
   subst e
   rw [hz, if_neg (by simp)] at hr
   subst hr
   simp +contextual (maxSteps := 4000000) only [↓ur_seq, ↓ur_exit, ↓ur_ret, ↓ur_region, ↓ur_cond, ↓cont_seq, ↓leave_seq, ↓leave_blk, ↓leave_lp, ↓done_nil, ↓ops_consN, nY_assign, nY_binOp, nilO_tmp, ↓ops_nil, opsIf_some, condC_false, Option.map_some, Option.bind_some, Nat.reduceLT, ↓upd_same, ↓upd_ne, Nat.reduceBEq, and_true, endQ, cfg_P, ↓havoc_in, ↓havoc_out, List.contains_cons, List.contains_nil, Bool.or_false, Bool.or_true, Int.ofNat_lt, decide_false, Option.some.injEq, exists_eq_left', Nat.lt_irrefl, Bool.not_false, DRx_int, ↓ev_tmp, ↓ev_int, ↓iop_assign, ↓iop_binOp, b_lss, ires_eq, iresL_1, iresAll_nil, iresAll_cons, iresOne_tmp, ↓reduceIte, beq_self_eq_true, nth_its, pur_its, nth_arcs, pur_arcs, nth_snds, pur_snds, nth_lnks, pur_lnks, lkC_len, lkC_0, lkC_1, lkC_cap, lkC_pri, lkC_take, pur_lkC, Nat.mul_one, Try.f27, h16]
theorem o_fits : O_fits := k_fits c_fits
end Sim
