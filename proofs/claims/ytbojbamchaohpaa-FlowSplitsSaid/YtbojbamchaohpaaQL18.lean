/- What functions of this seat compute, by values: contracts (lemmas of the statement's proof, under the conditions that each names). -/
import Derived.Test.YtbojbamchaohpaaQZ2
namespace Sim
open Go Go.Proofs
set_option maxRecDepth 10000
set_option maxHeartbeats 4000000
set_option linter.unusedVariables false
set_option linter.unusedSimpArgs false
attribute [local congr] opsIf_congr condC_congr guardC_congr grd_congr pick3_congr obind_congr omap_congr
def dB (d : Dem) (b : Int) : Dem := (d.1, d.2.1, b, d.2.2.2.1, d.2.2.2.2)
section
variable {hn : Int} {ls : List Lnk} {us l : List Snd} {d : Dem}
theorem fckB (hc : fckM hn ls us d = 0) {b : Int} (h0 : 1 ≤ b) (h1 : b ≤ 1099511627776) : fckM hn ls us (dB d b) = 0 := by
 obtain ⟨hf, hd, hD, hdu⟩ := fck_ok hc
 obtain ⟨⟨a0, a1⟩, ⟨c0, c1⟩, hr⟩ := dem_ok hd
 refine fck_zero.2 ⟨hf, ?_, ?_⟩
 ·have e1 : hOK hn d.1 = true := by simp [hOK]; omega
  have e2 : hOK hn d.2.1 = true := by simp [hOK]; omega
  unfold demM
  rw [show (dB d b).1 = d.1 from rfl, show (dB d b).2.1 = d.2.1 from rfl, e1, e2]
  exact decide_eq_true (show demR (dB d b) from ⟨h0, h1, hr.2.2.1, hr.2.2.2.1, hr.2.2.2.2⟩)
 ·show d.2.2.2.2 - d.2.2.2.1 ≤ 32
  exact (fck_zero.1 hc).2.2
theorem cos_at (h : chpE hn ls us d = 0) : cosM hn ls us d = (netD hn ls us d).cst (durM d) (planG hn ls us d d.2.2.1) := by
 obtain ⟨_, _, ho⟩ := cheap_ok h
 unfold cosM
 rw [if_pos h, ho.cost]
theorem cos_bnd (h : chpE hn ls us d = 0) : 0 ≤ cosM hn ls us d ∧ cosM hn ls us d ≤ 2147483648000000000 := by
 obtain ⟨_, _, ho⟩ := cheap_ok h
 have ok := (serves_iff.1 ho.serves).ok
 have := costT_le ok _ (Nat.le_refl _)
 have := ok.len
 unfold cosM costM
 rw [if_pos h, if_neg (fun g => g (right_zero.2 ok))]
 omega
theorem chp_plan (h : chpE hn ls us d = 0) : (netD hn ls us d).Plan (durM d) d.1.toNat d.2.1.toNat d.2.2.1 (planG hn ls us d d.2.2.1) := by
 obtain ⟨hc, e, _⟩ := cheap_ok h
 obtain ⟨hf, hd, _, _⟩ := fck_ok hc
 obtain ⟨_, _, hr⟩ := dem_ok hd
 have p := (planR_ok (bytes := d.2.2.1) hf hd (by have := hr.1; omega)).plan
 rw [e] at p
 exact p
theorem law18 (h : chpE hn ls [] d = 0) {b : Int} (hb : d.2.2.1 = 2 * b) : chpE hn ls [] (dB d b) = 0 ∧ 2 * cosM hn ls [] (dB d b) ≤ cosM hn ls [] d ∧
  fckM hn ls (chpL hn ls [] (dB d b)) (dB d b) = 0 ∧ (chpE hn ls (chpL hn ls [] (dB d b)) (dB d b) = 0 → cosM hn ls [] (dB d b) ≤ cosM hn ls (chpL hn ls [] (dB d b)) (dB d b) ∧ cosM hn ls [] d ≤ cosM hn ls [] (dB d b) + cosM hn ls (chpL hn ls [] (dB d b)) (dB d b)) := by
 obtain ⟨hc, e, ho⟩ := cheap_ok h
 obtain ⟨hf, hd, hD, hdu⟩ := fck_ok hc
 obtain ⟨_, _, hr⟩ := dem_ok hd
 have hr0 := hr.1
 have hr1 := hr.2.1
 have hcB := fckB hc (b := b) (by omega) (by omega)
 obtain ⟨_, hdB, _, _⟩ := fck_ok hcB
 have hp := chp_plan h
 have P := planR_ok (bytes := b) hf hdB (by omega)
 have h1 : chpE hn ls [] (dB d b) = 0 := by
  apply Classical.byContradiction
  intro hne
  have h2 := (cheap_none hcB hne).2
  by_cases c : (planR hn ls [] (dB d b) b).2 < b
  ·have := P.max c _ _ hr1 hp
   omega
  ·have e2 : (planR hn ls [] (dB d b) b).2 = b := by have := P.n1; omega
   have q := P.plan
   rw [e2] at q
   exact h2 _ q
 obtain ⟨_, e1, ho1⟩ := cheap_ok h1
 have hp1 := chp_plan h1
 have sv1 := serves_iff.1 ho1.serves
 have hcl : fckM hn ls (chpL hn ls [] (dB d b)) (dB d b) = 0 := fck_zero.2 ⟨sv1.fits, hdB, (fck_zero.1 hcB).2.2⟩
 have c1 := cos_at h
 have c2 := cos_at h1
 refine ⟨h1, ?_, hcl, fun h2 => ?_⟩
 ·have := P.best hf hdB hr1 hp 2 (by decide) (by rw [hb]; congr 1; exact e1.symm)
  rw [c1, c2]
  exact this
 ·have hp2 := chp_plan h2
  have c3 := cos_at h2
  obtain ⟨oku, _⟩ := fit_ok hf
  have okl := sv1.ok
  generalize chpL hn ls [] (dB d b) = l at *
  have hle : ∀ k t, k < ls.length → t < durM d → planG hn ls l (dB d b) b k t ≤ capM ls (k : Int) (d.2.2.2.1 + (t : Int)) - planG hn ls [] (dB d b) b k t := fun k t hk ht => by
   have q1 := hp2.le k t hk ht
   have q2 := ho1.sent k t hk ht
   unfold gS at q2
   have q3 : (netD hn ls l (dB d b)).lf k t = capM ls (k : Int) (d.2.2.2.1 + (t : Int)) - sentT l (k : Int) (d.2.2.2.1 + (t : Int)) l.length := rfl
   rw [q3] at q1
   have q4 : sentT l (k : Int) (d.2.2.2.1 + (t : Int)) l.length = planG hn ls [] (dB d b) b k t := q2
   rw [q4] at q1
   exact q1
  have nn1 := hp1.nn
  constructor
  ·have hp3 : (netD hn ls [] (dB d b)).Plan (durM (dB d b)) (dB d b).1.toNat (dB d b).2.1.toNat b (fun k t => if t < durM (dB d b) then planG hn ls l (dB d b) b k t else 0) :=
    TN.Plan.more (T := netD hn ls l (dB d b)) (T' := netD hn ls [] (dB d b)) rfl rfl rfl rfl (fun k t hk ht => by
     have := sent_nn okl (k : Int) (d.2.2.2.1 + (t : Int))
     show capM ls (k : Int) (d.2.2.2.1 + (t : Int)) - sentT l (k : Int) (d.2.2.2.1 + (t : Int)) l.length ≤ capM ls (k : Int) (d.2.2.2.1 + (t : Int)) - 0
     omega) (fun k t hk ht => (netT_ok (r := d.2.2.2.1) (D := durM d) hf).lf k t hk ht) (Nat.le_refl _) (by omega) hp2
   have := P.best hf hdB (by omega) hp3 1 (Int.le_refl _) (by rw [show (planR hn ls [] (dB d b) b).2 = b from e1]; omega)
   rw [Int.one_mul, TN.cst_more (T := netD hn ls l (dB d b)) (T' := netD hn ls [] (dB d b)) rfl (fun _ _ _ _ => rfl) (Nat.le_refl _)] at this
   rw [c2, c3]
   exact this
  ·have hp4 := TN.Plan.add (T := netD hn ls [] (dB d b)) (T2 := netD hn ls l (dB d b)) (T' := netD hn ls [] d) rfl rfl rfl rfl rfl rfl rfl rfl (fun k t hk ht => by
    have := hle k t hk ht
    show planG hn ls [] (dB d b) b k t + planG hn ls l (dB d b) b k t ≤ capM ls (k : Int) (d.2.2.2.1 + (t : Int)) - 0
    omega) hp1 hp2
   have Q := planR_ok (bytes := d.2.2.1) hf hd (by omega)
   have := Q.best hf hd (by show b + b ≤ _; omega) hp4 1 (Int.le_refl _) (by rw [e]; show b + b = _; omega)
   rw [Int.one_mul, TN.cst_add (T := netD hn ls [] (dB d b)) (T' := netD hn ls [] d) (T2 := netD hn ls l (dB d b)) rfl rfl (fun _ _ _ _ => rfl) (fun _ _ _ _ => rfl)] at this
   rw [c1, c2, c3]
   exact this
end
def C_law18 : Prop := ∀ (hn : Int) (ls : List Lnk) (d : Dem) , VC Try.prog 5 [.agg [I hn, lnks ls], demV d] (B true)
theorem c_law18 : C_law18 := by
 intro hn ls d
 refine vc_ofU mixed (l := [e_fcheck, e_sanity, e_cheap, e_most, e_cost2]) ((eok_cons o_fcheck (eok_cons o_sanity (eok_cons o_cheap (eok_cons o_most (eok_cons o_cost2 eok_nil)))))) [] []  Try.func5 rfl (by decide +kernel) (N := 108) rfl (by simp) rfl (by kernel_rfl) fun hs => ?_
 simp only [smallL, PV.small, List.length_map, and_true, true_and] at hs
 have f1 := s_fcheck (hn := hn) (ls := ls) (us := []) (d := d)
 have f2 := s_cost2 (hn := hn) (ls := ls) (us := []) (d := d)
 rw [show snds [] = PV.lits 3 [] from rfl] at f1 f2
 by_cases g1 : 12 < ls.length
 ·have g1i : (12 : Int) < (ls.length : Int) := by omega
  simp +contextual (maxSteps := 4000000) only [↓ur_seq, ↓ur_ret, ↓ur_region, ↓ur_cond, ↓cont_seq, ↓done_nil, ↓done_seq, ↓ops_consN, ↓ops_guardN, nY_move, nY_assign, nY_pick, nY_box, nY_load, nY_binOp, nilO_tmp, nilO_int, nY_fieldAddr, nY_callf, nY_callb, ↓ops_nil, opsIf_some, condC_true, guardC_tf, Option.map_some, Option.bind_some, Option.getD_some, Nat.reduceLT, Bool.false_eq_true, ↓upd_same, ↓upd_ne, Nat.reduceBEq, and_true, List.getD_cons_zero, List.getD_cons_succ, List.getElem?_toArray, List.getElem?_cons_zero, List.getElem?_cons_succ, endQ, cfg_P, cfg_tab, cfg_muts, cfg_frz, List.length_map, List.contains_nil, decide_true, Option.some.injEq, exists_eq_left', tabOf_cons, tab_v, Nat.reduceEqDiff, List.append_nil, List.length_cons, List.length_nil, Nat.zero_add, Nat.reduceAdd, Nat.lt_succ_self, Bool.not_false, st0, cells_agg, DRx_bool, ↓ev_tmp, ↓ev_int, ↓ev_bool, ↓ev_func, ↓guardP_eq, grd_some, ↓iop_move, ↓iop_assign, ↓pick3_bool, ↓iop_pick, ↓iop_box, ↓iop_load, ↓iop_binOp, ↓iop_fieldAddr, ↓iop_callv, ↓iop_callb, nrmAll_nil, bi_len, lenM_none, pickP_f, loadP_vptr, fieldP_vptr, lenP_lits, b_gtr, env0_eq, ires_eq, iresL_1, iresAll_nil, iresAll_cons, iresOne_tmp, valT_eq, pursL_nil, ↓reduceIte, callP_eq, tsOf_eq, boxP_eq, ↓evs_cons, ↓evs_nil, see_eq, and_false, Bool.true_eq_false, e_fcheck, e_sanity, s_sanity, e_cheap, e_most, e_cost2, nth_its, pur_its, nth_arcs, pur_arcs, nth_snds, pur_snds, nth_lnks, pur_lnks, lkC_len, lkC_0, lkC_1, lkC_cap, lkC_pri, lkC_take, pur_lkC, Nat.mul_one, Try.f5, ty22, ty24, g1, g1i]
 have g1i : ¬ (12 : Int) < (ls.length : Int) := by omega
 by_cases hc : fckM hn ls [] d = 0
 case neg => simp +contextual (maxSteps := 4000000) only [↓ur_seq, ↓ur_ret, ↓ur_region, ↓ur_cond, ↓cont_seq, ↓done_nil, ↓done_seq, ↓ops_consN, ↓ops_guardN, nY_move, nY_assign, nY_pick, nY_box, nY_load, nY_binOp, nilO_tmp, nilO_int, nY_fieldAddr, nY_callf, nY_callb, ↓ops_nil, opsIf_some, condC_true, guardC_tf, guardC_ff, Option.map_some, Option.bind_some, Option.getD_some, Nat.reduceLT, Bool.false_eq_true, ↓upd_same, ↓upd_ne, Nat.reduceBEq, and_true, List.getD_cons_zero, List.getD_cons_succ, List.getElem?_toArray, List.getElem?_cons_zero, List.getElem?_cons_succ, endQ, cfg_P, cfg_tab, cfg_muts, cfg_frz, List.length_map, List.contains_nil, decide_true, decide_false, Option.some.injEq, exists_eq_left', List.lookup_cons, List.lookup_nil, tabOf_cons, tab_v, Bool.and_self, Nat.reduceEqDiff, List.nil_append, List.append_nil, List.length_cons, List.length_nil, Nat.zero_add, List.drop_zero, Nat.reduceAdd, Nat.lt_succ_self, Bool.not_false, not_false_eq_true, st0, Nat.le_refl, pur_int, pur_lits, cells_agg, pur_agg, DRx_bool, ↓ev_tmp, ↓ev_int, ↓ev_bool, ↓ev_nils, ↓ev_func, ↓guardP_eq, grd_some, ↓iop_move, ↓iop_assign, ↓pick3_bool, ↓iop_pick, ↓iop_box, ↓iop_load, ↓iop_binOp, ↓iop_fieldAddr, ↓iop_callv, ↓iop_callb, nrmAll_cons, nrmAll_nil, bi_len, lenM_none, nrm_agg, nrmL_cons, nrmL_nil, nrm_nils, nrm1_some, nrm1_int, nrm1_lits, pickP_f, pickP_t, loadP_vptr, fieldP_vptr, lenP_lits, b_neq, b_gtr, env0_eq, ires_eq, iresL_1, iresAll_nil, iresAll_cons, iresOne_tmp, valT_eq, pursL_cons, pursL_nil, ↓reduceIte, callP_eq, tsOf_eq, boxP_eq, List.take_succ_cons, List.take_nil, ↓evs_cons, ↓evs_nil, beq_self_eq_true, see_eq, and_false, Bool.true_eq_false, e_fcheck, e_sanity, s_sanity, e_cheap, e_most, e_cost2, nth_its, pur_its, nth_arcs, pur_arcs, nth_snds, pur_snds, nth_lnks, pur_lnks, lkC_len, lkC_0, lkC_1, lkC_cap, lkC_pri, lkC_take, pur_lkC, Nat.mul_one, Try.f5, ty22, ty24, ty25, ty27, g1, g1i, f1, hc]
 rw [hc] at f1
 obtain ⟨hf, hd, hD, hdu⟩ := fck_ok hc
 obtain ⟨_, _, hr⟩ := dem_ok hd
 have hr0 := hr.1
 have hr1 := hr.2.1
 have hr2 := hr.2.2.1
 have hr3 := hr.2.2.2.2
 have wD : IntKind.i64.wrap (d.2.2.2.2 - d.2.2.2.1) = d.2.2.2.2 - d.2.2.2.1 := wrap64 (by omega) (by omega)
 by_cases g4 : 12 < d.2.2.2.2 - d.2.2.2.1
 ·simp +contextual (maxSteps := 4000000) only [↓ur_seq, ↓ur_ret, ↓ur_region, ↓ur_cond, ↓cont_seq, ↓done_nil, ↓done_seq, ↓ops_consN, ↓ops_guardN, nY_move, nY_assign, nY_pick, nY_box, nY_load, nY_binOp, nilO_tmp, nilO_int, nY_fieldAddr, nY_callf, nY_callb, ↓ops_nil, opsIf_some, condC_true, guardC_tf, guardC_ff, Option.map_some, Option.bind_some, Option.getD_some, Nat.reduceLT, Bool.false_eq_true, ↓upd_same, ↓upd_ne, Nat.reduceBEq, and_true, List.getD_cons_zero, List.getD_cons_succ, List.getElem?_toArray, List.getElem?_cons_zero, List.getElem?_cons_succ, endQ, cfg_P, cfg_tab, cfg_muts, cfg_frz, List.length_map, List.contains_nil, decide_true, decide_false, Option.some.injEq, exists_eq_left', List.lookup_cons, List.lookup_nil, tabOf_cons, tab_v, Bool.and_self, Nat.reduceEqDiff, List.nil_append, List.append_nil, List.length_cons, List.length_nil, Nat.zero_add, List.drop_zero, Nat.reduceAdd, Nat.lt_succ_self, Bool.not_false, not_true_eq_false, st0, Nat.le_refl, pur_int, pur_lits, cells_agg, pur_agg, DRx_bool, ↓ev_tmp, ↓ev_int, ↓ev_bool, ↓ev_nils, ↓ev_func, ↓guardP_eq, grd_some, ↓iop_move, ↓iop_assign, ↓pick3_bool, ↓iop_pick, ↓iop_box, ↓iop_load, ↓iop_binOp, ↓iop_fieldAddr, ↓iop_callv, ↓iop_callb, nrmAll_cons, nrmAll_nil, bi_len, lenM_none, nrm_agg, nrmL_cons, nrmL_nil, nrm_nils, nrm1_some, nrm1_int, nrm1_lits, pickP_f, pickP_t, loadP_vptr, fieldP_vptr, lenP_lits, b_sub, b_neq, b_gtr, env0_eq, ires_eq, iresL_1, iresAll_nil, iresAll_cons, iresOne_tmp, valT_eq, pursL_cons, pursL_nil, ↓reduceIte, callP_eq, tsOf_eq, boxP_eq, List.take_succ_cons, List.take_nil, ↓evs_cons, ↓evs_nil, beq_self_eq_true, see_eq, and_false, Bool.true_eq_false, e_fcheck, e_sanity, s_sanity, e_cheap, e_most, e_cost2, nth_its, pur_its, nth_arcs, pur_arcs, nth_snds, pur_snds, nth_lnks, pur_lnks, lkC_len, lkC_0, lkC_1, lkC_cap, lkC_pri, lkC_take, pur_lkC, Nat.mul_one, Try.f5, ty3, ty22, ty24, ty25, ty27, g1, g1i, f1, wD, g4]
 have t2 : Int.tmod d.2.2.1 2 = d.2.2.1 % 2 := Int.tmod_eq_emod_of_nonneg (by omega)
 by_cases g5 : d.2.2.1 % 2 = 0
 case neg => simp +contextual (maxSteps := 4000000) only [↓ur_seq, ↓ur_ret, ↓ur_region, ↓ur_cond, ↓cont_seq, ↓done_nil, ↓done_seq, ↓ops_consN, ↓ops_guardN, nY_move, nY_assign, nY_pick, nY_box, nY_load, nY_binOp, nilO_tmp, nilO_int, nY_fieldAddr, nY_callf, nY_callb, ↓ops_nil, opsIf_some, condC_true, guardC_ff, Option.map_some, Option.bind_some, Option.getD_some, Nat.reduceLT, Bool.false_eq_true, ↓upd_same, ↓upd_ne, Nat.reduceBEq, and_true, List.getD_cons_zero, List.getD_cons_succ, List.getElem?_toArray, List.getElem?_cons_zero, List.getElem?_cons_succ, endQ, cfg_P, cfg_tab, cfg_muts, cfg_frz, List.length_map, List.contains_nil, decide_true, decide_false, Option.some.injEq, exists_eq_left', List.lookup_cons, List.lookup_nil, tabOf_cons, tab_v, Bool.and_self, Nat.reduceEqDiff, List.nil_append, List.append_nil, List.length_cons, List.length_nil, Nat.zero_add, List.drop_zero, Nat.reduceAdd, Nat.lt_succ_self, Bool.not_false, not_true_eq_false, not_false_eq_true, Int.reduceEq, st0, Nat.le_refl, pur_int, pur_lits, cells_agg, pur_agg, DRx_bool, ↓ev_tmp, ↓ev_int, ↓ev_bool, ↓ev_nils, ↓ev_func, ↓guardP_eq, grd_some, ↓iop_move, ↓iop_assign, ↓pick3_bool, ↓iop_pick, ↓iop_box, ↓iop_load, ↓iop_binOp, ↓iop_fieldAddr, ↓iop_callv, ↓iop_callb, nrmAll_cons, nrmAll_nil, bi_len, lenM_none, nrm_agg, nrmL_cons, nrmL_nil, nrm_nils, nrm1_some, nrm1_int, nrm1_lits, pickP_f, pickP_t, loadP_vptr, fieldP_vptr, lenP_lits, b_sub, b_rem, b_neq, b_gtr, env0_eq, ires_eq, iresL_1, iresAll_nil, iresAll_cons, iresOne_tmp, valT_eq, pursL_cons, pursL_nil, ↓reduceIte, callP_eq, tsOf_eq, boxP_eq, List.take_succ_cons, List.take_nil, ↓evs_cons, ↓evs_nil, beq_self_eq_true, see_eq, and_false, Bool.true_eq_false, e_fcheck, e_sanity, s_sanity, e_cheap, e_most, e_cost2, nth_its, pur_its, nth_arcs, pur_arcs, nth_snds, pur_snds, nth_lnks, pur_lnks, lkC_len, lkC_0, lkC_1, lkC_cap, lkC_pri, lkC_take, pur_lkC, Nat.mul_one, Try.f5, ty3, ty22, ty24, ty25, ty27, g1, g1i, f1, wD, g4, t2, g5]
 by_cases h0 : chpE hn ls [] d = 0
 case neg =>
  have : cosM hn ls [] d = -1 := by unfold cosM; rw [if_neg h0]
  rw [this] at f2
  simp +contextual (maxSteps := 4000000) only [↓ur_skip, ↓ur_seq, ↓ur_ret, ↓ur_region, ↓ur_cond, ↓cont_seq, ↓done_nil, ↓done_seq, ↓ops_consN, ↓ops_guardN, nY_move, nY_assign, nY_pick, nY_box, nY_load, nY_binOp, nilO_tmp, nilO_int, nY_fieldAddr, nY_callf, nY_callb, ↓ops_nil, opsIf_some, condC_true, condC_false, guardC_ff, Option.map_some, Option.bind_some, Option.getD_some, Nat.reduceLT, Bool.false_eq_true, ↓upd_same, ↓upd_ne, Nat.reduceBEq, and_true, List.getD_cons_zero, List.getD_cons_succ, List.getElem?_toArray, List.getElem?_cons_zero, List.getElem?_cons_succ, endQ, cfg_P, cfg_tab, cfg_muts, cfg_frz, List.length_map, List.contains_nil, decide_true, decide_false, Option.some.injEq, exists_eq_left', List.lookup_cons, List.lookup_nil, tabOf_cons, tab_v, Bool.and_self, Nat.reduceEqDiff, List.nil_append, List.append_nil, List.length_cons, List.length_nil, Nat.zero_add, List.drop_zero, Nat.reduceAdd, Nat.lt_succ_self, Bool.not_false, not_true_eq_false, Int.reduceEq, Int.reduceLT, st0, Nat.le_refl, pur_int, pur_lits, cells_agg, pur_agg, DRx_bool, ↓ev_tmp, ↓ev_int, ↓ev_bool, ↓ev_nils, ↓ev_func, ↓guardP_eq, grd_some, ↓iop_move, ↓iop_assign, ↓pick3_bool, ↓iop_pick, ↓iop_box, ↓iop_load, ↓iop_binOp, ↓iop_fieldAddr, ↓iop_callv, ↓iop_callb, nrmAll_cons, nrmAll_nil, bi_len, lenM_none, nrm_agg, nrmL_cons, nrmL_nil, nrm_nils, nrm1_some, nrm1_int, nrm1_lits, pickP_f, pickP_t, loadP_vptr, fieldP_vptr, lenP_lits, b_sub, b_rem, b_neq, b_lss, b_gtr, env0_eq, ires_eq, iresL_1, iresAll_nil, iresAll_cons, iresOne_tmp, valT_eq, pursL_cons, pursL_nil, ↓reduceIte, callP_eq, tsOf_eq, boxP_eq, List.take_succ_cons, List.take_nil, ↓evs_cons, ↓evs_nil, beq_self_eq_true, see_eq, and_false, Bool.true_eq_false, e_fcheck, e_sanity, s_sanity, e_cheap, e_most, e_cost2, nth_its, pur_its, nth_arcs, pur_arcs, nth_snds, pur_snds, nth_lnks, pur_lnks, lkC_len, lkC_0, lkC_1, lkC_cap, lkC_pri, lkC_take, pur_lkC, Nat.mul_one, Try.f5, ty3, ty22, ty24, ty25, ty27, g1, g1i, f1, f2, wD, g4, t2, g5]
 obtain ⟨b, hb⟩ : ∃ b, d.2.2.1 = 2 * b := ⟨d.2.2.1 / 2, by omega⟩
 have t3 : Int.tdiv d.2.2.1 2 = b := by rw [Int.tdiv_eq_ediv_of_nonneg (by omega)]; omega
 have wb : IntKind.i64.wrap b = b := wrap64 (by omega) (by omega)
 obtain ⟨k1, k2, k3, k4⟩ := law18 h0 hb
 have cb0 := cos_bnd h0
 have cb1 := cos_bnd k1
 have f3 := s_cheap (hn := hn) (ls := ls) (us := []) (d := dB d b)
 have f4 := s_cost2 (hn := hn) (ls := ls) (us := []) (d := dB d b)
 have f5 := s_cost2 (hn := hn) (ls := ls) (us := chpL hn ls [] (dB d b)) (d := dB d b)
 have f6 := s_most (hn := hn) (ls := ls) (us := chpL hn ls [] (dB d b)) (d := dB d b)
 rw [show snds [] = PV.lits 3 [] from rfl] at f3 f4
 rw [k1] at f3
 rw [k3] at f6
 have km := cheap_most k3
 have cb2 := fun h => cos_bnd (hn := hn) (ls := ls) (us := chpL hn ls [] (dB d b)) (d := dB d b) h
 have cn2 : ¬ chpE hn ls (chpL hn ls [] (dB d b)) (dB d b) = 0 → cosM hn ls (chpL hn ls [] (dB d b)) (dB d b) = -1 := fun h => by unfold cosM; rw [if_neg h]
 rw [show (dB d b).2.2.1 = b from rfl] at km
 generalize cosM hn ls [] d = w at *
 generalize cosM hn ls [] (dB d b) = a at *
 generalize chpL hn ls [] (dB d b) = l at *
 generalize cosM hn ls l (dB d b) = c at *
 generalize mostM hn ls l (dB d b) = mo at *
 dsimp only [demV, dB, snds] at f3 f4 f5 f6
 have wa : IntKind.i64.wrap (2 * a) = 2 * a := wrap64 (by omega) (by omega)
 have n0 : ¬ w < 0 := by omega
 have n1 : ¬ a < 0 := by omega
 have n2 : ¬ w < 2 * a := by omega
 by_cases h2 : chpE hn ls l (dB d b) = 0
 ·obtain ⟨k5, k6⟩ := k4 h2
  have := cb2 h2
  have n3 : ¬ c < 0 := by omega
  have wc : IntKind.i64.wrap (a + c) = a + c := wrap64 (by omega) (by omega)
  simp +contextual (maxSteps := 4000000) only [↓ur_skip, ↓ur_seq, ↓ur_ret, ↓ur_region, ↓ur_cond, ↓cont_seq, ↓done_nil, ↓ops_consN, ↓ops_guardN, nY_move, nY_assign, nY_pick, nY_alloc, nY_box, nY_load, nY_store, nY_binOp, nilO_tmp, nilO_int, nY_fieldAddr, nY_extract, nY_callf, nY_callb, ↓ops_nil, opsIf_some, opsIf_none, condC_false, guardC_tt, guardC_ft, guardC_ff, Option.map_some, Option.bind_some, Option.getD_some, Nat.reduceLT, Bool.false_eq_true, ↓upd_same, ↓upd_ne, Nat.reduceBEq, and_true, List.getD_cons_zero, List.getD_cons_succ, List.getElem?_toArray, List.getElem?_cons_zero, List.getElem?_cons_succ, endQ, cfg_P, cfg_tab, cfg_muts, cfg_frz, cfg_num, numOf_eq, List.length_map, List.contains_nil, decide_true, decide_false, Option.some.injEq, exists_eq_left', List.lookup_cons, List.lookup_nil, tabOf_cons, tab_v, Bool.and_true, Bool.and_self, Bool.true_and, Nat.reduceEqDiff, List.cons_append, List.nil_append, List.append_nil, updO_same, List.length_cons, List.length_nil, Nat.zero_add, List.drop_zero, List.take_zero, Nat.reduceAdd, List.set_cons_zero, Nat.reduceLeDiff, nth_zero, Nat.lt_succ_self, Bool.not_false, not_true_eq_false, Int.reduceEq, or_false, st0, Nat.le_refl, cells_int, pur_int, pur_lits, cells_agg, pur_agg, DRx_bool, ↓ev_tmp, ↓ev_int, ↓ev_bool, ↓ev_nils, ↓ev_func, ↓guardP_eq, grd_some, ↓iop_move, ↓iop_assign, ↓pick3_bool, ↓iop_pick, ↓iop_alloc, ↓iop_box, ↓iop_load, ↓iop_store, ↓iop_binOp, ↓iop_fieldAddr, ↓iop_extract, extr_tuple, ↓iop_callv, ↓iop_callb, tmpNo_tmp, softS_ptr, heldS_ptr, isInt1_int, isInt_agg, List.all_cons, List.all_nil, nrmAll_cons, nrmAll_nil, bi_len, lenM_none, nrm_agg, nrmL_cons, nrmL_nil, nrm_nils, nrm1_some, nrm_lits, nrm1_int, nrm1_lits, pickP_f, pickP_t, loadP_vptr, loadP_ptr, setCells_agg, storeP_ptr, fieldP_vptr, fieldP_ptr, lenP_lits, b_add, b_sub, b_mul, b_quo, b_rem, b_eql, b_neq, b_lss, b_gtr, b_geq, splice_eq, env0_eq, ires_eq, iresL_1, iresAll_nil, iresAll_cons, iresOne_tmp, valT_eq, pursL_cons, pursL_nil, Store.new, Store.set, ↓reduceIte, arr_eq, arrB_some, callP_eq, tsOf_eq, boxP_eq, List.take_succ_cons, List.drop_succ_cons, List.drop_nil, List.take_nil, ↓evs_cons, ↓evs_nil, beq_self_eq_true, List.all_cons, List.all_nil, see_eq, false_and, and_false, Bool.true_eq_false, e_fcheck, e_sanity, s_sanity, e_cheap, e_most, e_cost2, nth_its, pur_its, nth_arcs, pur_arcs, nth_snds, pur_snds, nth_lnks, pur_lnks, lkC_len, lkC_0, lkC_1, lkC_cap, lkC_pri, lkC_take, pur_lkC, Nat.mul_one, Try.f5, ty3, ty22, ty24, ty25, ty27, g1, g1i, f1, f2, f3, f4, f5, f6, wD, g4, t2, t3, wb, g5, wa, n0, n1, n2, n3, wc, k5, k6]
 ·have n3 := cn2 h2
  subst n3
  have n4 : mo < b := by
   have : ¬ b ≤ mo := fun g => h2 (km.2 g)
   omega
  simp +contextual (maxSteps := 4000000) only [↓ur_skip, ↓ur_seq, ↓ur_ret, ↓ur_region, ↓ur_cond, ↓cont_seq, ↓done_nil, ↓ops_consN, ↓ops_guardN, nY_move, nY_assign, nY_pick, nY_alloc, nY_box, nY_load, nY_store, nY_binOp, nilO_tmp, nilO_int, nY_fieldAddr, nY_extract, nY_callf, nY_callb, ↓ops_nil, opsIf_some, opsIf_none, condC_false, guardC_u, guardC_tt, guardC_tf, guardC_ff, Option.map_some, Option.bind_some, Option.getD_some, Nat.reduceLT, Bool.false_eq_true, ↓upd_same, ↓upd_ne, Nat.reduceBEq, and_true, List.getD_cons_zero, List.getD_cons_succ, List.getElem?_toArray, List.getElem?_cons_zero, List.getElem?_cons_succ, endQ, cfg_P, cfg_tab, cfg_muts, cfg_frz, cfg_num, numOf_eq, List.length_map, List.contains_nil, decide_true, decide_false, Option.some.injEq, exists_eq_left', List.lookup_cons, List.lookup_nil, tabOf_cons, tab_v, Bool.and_true, Bool.and_self, Bool.true_and, Nat.reduceEqDiff, List.cons_append, List.nil_append, List.append_nil, updO_same, List.length_cons, List.length_nil, Nat.zero_add, List.drop_zero, List.take_zero, Nat.reduceAdd, List.set_cons_zero, Nat.reduceLeDiff, nth_zero, Nat.lt_succ_self, Bool.not_false, not_true_eq_false, Int.reduceEq, Int.reduceLT, or_false, st0, Nat.le_refl, cells_int, pur_int, pur_lits, cells_agg, pur_agg, DRx_bool, ↓ev_tmp, ↓ev_int, ↓ev_bool, ↓ev_nils, ↓ev_func, ↓guardP_eq, grd_some, ↓iop_move, ↓iop_assign, ↓pick3_bool, ↓iop_pick, ↓iop_alloc, ↓iop_box, ↓iop_load, ↓iop_store, ↓iop_binOp, ↓iop_fieldAddr, ↓iop_extract, extr_tuple, ↓iop_callv, ↓iop_callb, tmpNo_tmp, softS_ptr, heldS_ptr, isInt1_int, isInt_agg, List.all_cons, List.all_nil, nrmAll_cons, nrmAll_nil, bi_len, lenM_none, nrm_agg, nrmL_cons, nrmL_nil, nrm_nils, nrm1_some, nrm_lits, nrm1_int, nrm1_lits, pickP_f, pickP_t, loadP_vptr, loadP_ptr, setCells_agg, storeP_ptr, fieldP_vptr, fieldP_ptr, lenP_lits, b_sub, b_mul, b_quo, b_rem, b_eql, b_neq, b_lss, b_gtr, splice_eq, env0_eq, ires_eq, iresL_1, iresAll_nil, iresAll_cons, iresOne_tmp, valT_eq, pursL_cons, pursL_nil, Store.new, Store.set, ↓reduceIte, arr_eq, arrB_some, callP_eq, tsOf_eq, boxP_eq, List.take_succ_cons, List.drop_succ_cons, List.drop_nil, List.take_nil, ↓evs_cons, ↓evs_nil, beq_self_eq_true, List.all_cons, List.all_nil, see_eq, false_and, and_false, Bool.true_eq_false, e_fcheck, e_sanity, s_sanity, e_cheap, e_most, e_cost2, nth_its, pur_its, nth_arcs, pur_arcs, nth_snds, pur_snds, nth_lnks, pur_lnks, lkC_len, lkC_0, lkC_1, lkC_cap, lkC_pri, lkC_take, pur_lkC, Nat.mul_one, Try.f5, ty3, ty22, ty24, ty25, ty27, g1, g1i, f1, f2, f3, f4, f5, f6, wD, g4, t2, t3, wb, g5, wa, n0, n1, n2, n4]
end Sim
