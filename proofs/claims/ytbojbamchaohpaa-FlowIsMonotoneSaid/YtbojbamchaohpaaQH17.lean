/- What functions of this seat compute, by values: contracts (lemmas of the statement's proof, under the conditions that each names). -/
import Derived.Test.YtbojbamchaohpaaQL18
import Derived.Test.YtbojbamchaohpaaRows
import Derived.ReadAgain
import Derived.JoinedOf
namespace Sim
open Go Go.Proofs
set_option maxRecDepth 10000
set_option maxHeartbeats 4000000
set_option linter.unusedVariables false
set_option linter.unusedSimpArgs false
attribute [local congr] opsIf_congr condC_congr guardC_congr grd_congr pick3_congr obind_congr omap_congr
section
variable {hn : Int} {ls : List Lnk} {us l : List Snd} {d : Dem}
theorem fckW (hc : fckM hn ls us d = 0) {u : Int} (h0 : d.2.2.2.1 ≤ u) (h1 : u ≤ 1000000) (h2 : u - d.2.2.2.1 ≤ 32) : fckM hn ls us (dW d u) = 0 := by
 obtain ⟨hf, hd, _, _⟩ := fck_ok hc
 exact fck_zero.2 ⟨hf, dW_ok hd h0 h1, h2⟩
theorem take_getD {k m : Nat} (h : k < m) : (us.take m).getD k dS = us.getD k dS := by
 rw [List.getD_eq_getElem?_getD, List.getElem?_take_of_lt h, List.getD_eq_getElem?_getD]
theorem okr_take (ok : OKr hn ls us) (m : Nat) : OKr hn ls (us.take m) := by
 have e : ∀ k, k < (us.take m).length → k < us.length ∧ (us.take m).getD k dS = us.getD k dS := fun k hk => by
  rw [List.length_take] at hk
  exact ⟨by omega, take_getD (by omega)⟩
 refine ⟨ok.net, by rw [List.length_take]; have := ok.len; omega, fun k hk => ?_, fun k hk => ?_, fun k hk => ?_, fun k h0 hk => ?_⟩
 ·obtain ⟨a, b⟩ := e k hk; rw [b]; exact ok.link k a
 ·obtain ⟨a, b⟩ := e k hk; rw [b]; exact ok.tick k a
 ·obtain ⟨a, b⟩ := e k hk; rw [b]; exact ok.bytes k a
 ·obtain ⟨a, b⟩ := e k hk
  obtain ⟨_, c⟩ := e (k - 1) (by omega)
  rw [b, c]; exact ok.asc k h0 a
theorem fit_take (hf : fitM hn ls us = 0) (m : Nat) : fitM hn ls (us.take m) = 0 := by
 obtain ⟨ok, h⟩ := fit_ok hf
 refine fit_iff (okr_take ok m) fun i hi => ?_
 rw [List.length_take] at hi
 rw [take_getD (by omega)]
 exact h i (by omega)
theorem sent_take (ok : OKr hn ls us) (m : Nat) (a t : Int) : sentT (us.take m) a t (us.take m).length ≤ sentT us a t us.length := by
 rw [sentT_N, sentT_N, List.length_take]
 have e : sumN (fun i => if ((us.take m).getD i dS).1 = a ∧ ((us.take m).getD i dS).2.1 = t then ((us.take m).getD i dS).2.2 else 0) (min m us.length) = sumN (fun i => if (us.getD i dS).1 = a ∧ (us.getD i dS).2.1 = t then (us.getD i dS).2.2 else 0) (min m us.length) :=
  sumN_congr fun i hi => by rw [take_getD (by omega)]
 rw [e]
 have key : ∀ n k : Nat, k ≤ n → n ≤ us.length → sumN (fun i => if (us.getD i dS).1 = a ∧ (us.getD i dS).2.1 = t then (us.getD i dS).2.2 else 0) k ≤ sumN (fun i => if (us.getD i dS).1 = a ∧ (us.getD i dS).2.1 = t then (us.getD i dS).2.2 else 0) n := by
  intro n k hk hn'
  rw [show n = k + (n - k) by omega, sumN_append]
  have := sumN_nonneg (f := fun i => if (us.getD (k + i) dS).1 = a ∧ (us.getD (k + i) dS).2.1 = t then (us.getD (k + i) dS).2.2 else 0) (n := n - k) fun i hi => by
   have := ok.bytes (k + i) (by omega)
   split <;> omega
  omega
 exact key _ _ (Nat.min_le_right _ _) (Nat.le_refl _)
theorem cos_fewer (h : chpE hn ls us d = 0) {b : Int} (h0 : 1 ≤ b) (h1 : b ≤ d.2.2.1) : 0 ≤ cosM hn ls us (dB d b) ∧ cosM hn ls us (dB d b) ≤ cosM hn ls us d := by
 obtain ⟨hc, e, ho⟩ := cheap_ok h
 obtain ⟨hf, hd, hD, hdu⟩ := fck_ok hc
 obtain ⟨_, _, hr⟩ := dem_ok hd
 have hr1 := hr.2.1
 have hcB := fckB hc (b := b) (by omega) (by omega)
 obtain ⟨_, hdB, _, _⟩ := fck_ok hcB
 have hp := chp_plan h
 have P := planR_ok (bytes := b) hf hdB (by omega)
 have h2 : chpE hn ls us (dB d b) = 0 := by
  apply Classical.byContradiction
  intro hne
  have h3 := (cheap_none hcB hne).2
  by_cases c : (planR hn ls us (dB d b) b).2 < b
  ·have := P.max c _ _ hr1 hp
   omega
  ·have e2 : (planR hn ls us (dB d b) b).2 = b := by have := P.n1; omega
   have q := P.plan
   rw [e2] at q
   exact h3 _ q
 refine ⟨(cos_bnd h2).1, ?_⟩
 rw [cos_at h, cos_at h2]
 exact P.fewer hf hdB hr1 hp (by have := P.n1; omega) (by omega)
theorem cos_more {us' : List Snd} {u : Int} (h : chpE hn ls us d = 0) (hf' : fitM hn ls us' = 0) (hs : ∀ k t : Int, sentT us' k t us'.length ≤ sentT us k t us.length) (h0 : d.2.2.2.2 ≤ u) (h1 : u ≤ 1000000) (h2 : u - d.2.2.2.1 ≤ 32) :
  0 ≤ cosM hn ls us' (dW d u) ∧ cosM hn ls us' (dW d u) ≤ cosM hn ls us d := by
 obtain ⟨hc, e, ho⟩ := cheap_ok h
 obtain ⟨hf, hd, hD, hdu⟩ := fck_ok hc
 obtain ⟨_, _, hr⟩ := dem_ok hd
 have hr0 := hr.1
 have hr1 := hr.2.1
 have hdW := dW_ok hd (show d.2.2.2.1 ≤ u by omega) h1
 have hcW : fckM hn ls us' (dW d u) = 0 := fck_zero.2 ⟨hf', hdW, h2⟩
 have hp := chp_plan h
 have okT := netT_ok (r := d.2.2.2.1) (D := durM (dW d u)) hf'
 have hle : durM d ≤ durM (dW d u) := by rw [durW]; omega
 have hm := TN.Plan.more (T := netD hn ls us d) (T' := netD hn ls us' (dW d u)) (D' := durM (dW d u)) rfl rfl rfl rfl (fun k t _ _ => by
  have := hs (k : Int) (d.2.2.2.1 + (t : Int))
  show capM ls (k : Int) (d.2.2.2.1 + (t : Int)) - sentT us (k : Int) (d.2.2.2.1 + (t : Int)) us.length ≤ capM ls (k : Int) (d.2.2.2.1 + (t : Int)) - sentT us' (k : Int) (d.2.2.2.1 + (t : Int)) us'.length
  omega) (fun k t hk ht => okT.lf k t hk ht) hle (by omega) hp
 have h3 : chpE hn ls us' (dW d u) = 0 := by
  apply Classical.byContradiction
  intro hne
  exact (cheap_none hcW hne).2 _ hm
 obtain ⟨_, e3, _⟩ := cheap_ok h3
 refine ⟨(cos_bnd h3).1, ?_⟩
 have P := planR_ok (bytes := d.2.2.1) hf' hdW (by omega)
 have := P.best hf' hdW hr1 hm 1 (Int.le_refl _) (by rw [show (planR hn ls us' (dW d u) d.2.2.1).2 = d.2.2.1 from e3]; omega)
 rw [Int.one_mul, TN.cst_more (T := netD hn ls us d) (T' := netD hn ls us' (dW d u)) rfl (fun _ _ _ _ => rfl) hle] at this
 rw [cos_at h, cos_at h3]
 exact this
theorem chp_okE (hc : fckM hn ls us d = 0) {u : Int} (h0 : d.2.2.2.1 ≤ u) (h1 : u ≤ d.2.2.2.2) : chpE hn ls us (dW d u) = if okE hn ls us d u = true then 0 else 21 := by
 obtain ⟨hf, hd, hD, hdu⟩ := fck_ok hc
 obtain ⟨_, _, hr⟩ := dem_ok hd
 have hr3 := hr.2.2.2.2
 have hcW := fckW hc (u := u) (by omega) (by omega) (by omega)
 unfold chpE okE
 rw [if_neg (fun g => g hcW)]
 simp only [decide_eq_true_eq]
 by_cases c : (planR hn ls us (dW d u) d.2.2.1).2 < d.2.2.1
 ·rw [if_pos (show (planR hn ls us (dW d u) (dW d u).2.2.1).2 < (dW d u).2.2.1 from c), if_neg (fun g => g c)]
 ·rw [if_neg (show ¬ (planR hn ls us (dW d u) (dW d u).2.2.1).2 < (dW d u).2.2.1 from c), if_pos c]
theorem first_ok (h : chpE hn ls us d = 0) : earE hn ls us d = 0 ∧ d.2.2.2.1 ≤ earN hn ls us d ∧ earN hn ls us d ≤ d.2.2.2.2 ∧ chpE hn ls us (dW d (earN hn ls us d)) = 0 ∧
  (earN hn ls us d = d.2.2.2.1 → d.1 = d.2.1) ∧ (earN hn ls us d ≠ d.2.2.2.1 → chpE hn ls us (dW d (earN hn ls us d - 1)) = 21) := by
 obtain ⟨hc, e, ho⟩ := cheap_ok h
 obtain ⟨hf, hd, hD, hdu⟩ := fck_ok hc
 obtain ⟨⟨a0, a1⟩, ⟨c0, c1⟩, hr⟩ := dem_ok hd
 have hr0 := hr.1
 have hr2 := hr.2.2.1
 have hr3 := hr.2.2.2.2
 have he := (cheap_earl hc).1 h
 obtain ⟨e1, e2⟩ := earN_bnd hc he
 have hfi := fun k hk => fst_iff hc (k := k) hk
 have hoe := (hfi _ e2).2 (Nat.le_refl _)
 rw [← e1] at hoe
 refine ⟨he, by omega, by omega, ?_, fun g => ?_, fun g => ?_⟩
 ·rw [chp_okE hc (by omega) (by omega), if_pos hoe]
 ·rw [g] at hoe
  obtain ⟨q, hq⟩ := (okE_plan hf hd (Int.le_refl _) (by omega)).1 hoe
  rw [Int.sub_self] at hq
  have := hq.en d.1.toNat (show d.1.toNat < hn.toNat by omega)
  rw [show (0 : Int).toNat = 0 from rfl, TN.stk, if_pos rfl] at this
  by_cases c : d.2.1.toNat = d.1.toNat
  ·omega
  ·rw [if_neg c] at this; omega
 ·obtain ⟨k, hk⟩ : ∃ k, fstE hn ls us d = k + 1 := ⟨fstE hn ls us d - 1, by omega⟩
  have e3 : earN hn ls us d - 1 = d.2.2.2.1 + (k : Int) := by omega
  rw [e3, chp_okE hc (by omega) (by omega), if_neg (fun g2 => by have := (hfi k (by omega)).1 g2; omega)]
end
def C_law17 : Prop := ∀ (hn : Int) (ls : List Lnk) (us : List Snd) (d : Dem) (p : Nat) (q : Nat) (r : Nat) (h : p < 65536 ∧ q < 65536 ∧ r < 65536) , VC Try.prog 4 [.agg [I hn, lnks ls], snds us, demV d, .agg [.int .u16 p, .int .u16 q, .int .u16 r]] (B true)
theorem c_law17 : C_law17 := by
 rintro hn ls us d p q r ⟨hp, hq, hr16⟩
 refine vc_ofR mixed (l := [e_fcheck, e_sanity, e_cheap, e_earl, e_cost2]) ((eok_cons o_fcheck (eok_cons o_sanity (eok_cons o_cheap (eok_cons o_earl (eok_cons o_cost2 eok_nil)))))) [] [56, 57, 145, 146, 100010, 200011, 300018, 500019] 4 Try.func4 rfl (by decide +kernel) (N := 185) rfl (by simp) rfl (by kernel_rfl) fun hs => ?_
 simp only [smallL, PV.small, List.length_map, and_true, true_and] at hs
 by_cases g1 : 12 < ls.length
 ·have g1i : (12 : Int) < (ls.length : Int) := by omega
  simp +contextual (maxSteps := 4000000) only [↓ur_seq, ↓ur_ret, ↓ur_region, ↓ur_cond, ↓cont_seq, ↓done_nil, ↓done_seq, ↓ops_consN, ↓ops_guardN, nY_move, nY_assign, nY_pick, nY_box, nY_load, nY_binOp, nilO_tmp, nilO_int, nY_fieldAddr, nY_callf, nY_callb, ↓ops_nil, opsIf_some, condC_true, guardC_tf, Option.map_some, Option.bind_some, Option.getD_some, Nat.reduceLT, Bool.false_eq_true, ↓upd_same, ↓upd_ne, Nat.reduceBEq, and_true, List.getD_cons_zero, List.getD_cons_succ, List.getElem?_toArray, List.getElem?_cons_zero, List.getElem?_cons_succ, endQ, cfg_P, cfg_tab, cfg_muts, cfg_frz, List.length_map, List.contains_cons, List.contains_nil, Bool.or_false, decide_true, Option.some.injEq, exists_eq_left', tabOf_cons, tab_v, Nat.reduceEqDiff, List.append_nil, List.length_cons, List.length_nil, Nat.zero_add, Nat.reduceAdd, Nat.lt_succ_self, Bool.not_false, cells_agg, DRx_bool, ↓ev_tmp, ↓ev_int, ↓ev_bool, ↓ev_func, ↓guardP_eq, grd_some, ↓iop_move, ↓iop_assign, ↓pick3_bool, ↓iop_pick, ↓iop_box, ↓iop_load, ↓iop_binOp, ↓iop_fieldAddr, ↓iop_callv, ↓iop_callb, nrmAll_nil, bi_len, lenM_none, pickP_f, loadP_vptr, fieldP_vptr, lenP_lits, b_gtr, env0_eq, ires_eq, iresL_1, iresAll_nil, iresAll_cons, iresOne_tmp, valT_eq, pursL_nil, ↓reduceIte, callP_eq, tsOf_eq, boxP_eq, ↓evs_cons, ↓evs_nil, see_eq, and_false, Bool.true_eq_false, e_fcheck, e_sanity, s_sanity, e_cheap, e_earl, e_cost2, nth_its, pur_its, nth_arcs, pur_arcs, nth_snds, pur_snds, nth_lnks, pur_lnks, lkC_len, lkC_0, lkC_1, lkC_cap, lkC_pri, lkC_take, pur_lkC, Nat.mul_one, Try.f4, ty22, ty24, g1, g1i]
 have g1i : ¬ (12 : Int) < (ls.length : Int) := by omega
 by_cases g2 : 60 < us.length
 ·have g2i : (60 : Int) < (us.length : Int) := by omega
  simp +contextual (maxSteps := 4000000) only [↓ur_seq, ↓ur_ret, ↓ur_region, ↓ur_cond, ↓cont_seq, ↓done_nil, ↓done_seq, ↓ops_consN, ↓ops_guardN, nY_move, nY_assign, nY_pick, nY_box, nY_load, nY_binOp, nilO_tmp, nilO_int, nY_fieldAddr, nY_callf, nY_callb, ↓ops_nil, opsIf_some, condC_true, guardC_tf, guardC_ff, Option.map_some, Option.bind_some, Option.getD_some, Nat.reduceLT, Bool.false_eq_true, ↓upd_same, ↓upd_ne, Nat.reduceBEq, and_true, List.getD_cons_zero, List.getD_cons_succ, List.getElem?_toArray, List.getElem?_cons_zero, List.getElem?_cons_succ, endQ, cfg_P, cfg_tab, cfg_muts, cfg_frz, List.length_map, List.contains_cons, List.contains_nil, Bool.or_false, decide_true, decide_false, Option.some.injEq, exists_eq_left', tabOf_cons, tab_v, Nat.reduceEqDiff, List.append_nil, List.length_cons, List.length_nil, Nat.zero_add, Nat.reduceAdd, Nat.lt_succ_self, Bool.not_false, cells_agg, DRx_bool, ↓ev_tmp, ↓ev_int, ↓ev_bool, ↓ev_func, ↓guardP_eq, grd_some, ↓iop_move, ↓iop_assign, ↓pick3_bool, ↓iop_pick, ↓iop_box, ↓iop_load, ↓iop_binOp, ↓iop_fieldAddr, ↓iop_callv, ↓iop_callb, nrmAll_nil, bi_len, lenM_none, pickP_f, loadP_vptr, fieldP_vptr, lenP_lits, b_gtr, env0_eq, ires_eq, iresL_1, iresAll_nil, iresAll_cons, iresOne_tmp, valT_eq, pursL_nil, ↓reduceIte, callP_eq, tsOf_eq, boxP_eq, ↓evs_cons, ↓evs_nil, see_eq, and_false, Bool.true_eq_false, e_fcheck, e_sanity, s_sanity, e_cheap, e_earl, e_cost2, nth_its, pur_its, nth_arcs, pur_arcs, nth_snds, pur_snds, nth_lnks, pur_lnks, lkC_len, lkC_0, lkC_1, lkC_cap, lkC_pri, lkC_take, pur_lkC, Nat.mul_one, Try.f4, ty22, ty24, ty25, g1, g1i, g2, g2i]
 have g2i : ¬ (60 : Int) < (us.length : Int) := by omega
 by_cases hc : fckM hn ls us d = 0
 case neg => simp +contextual (maxSteps := 4000000) only [↓ur_seq, ↓ur_ret, ↓ur_region, ↓ur_cond, ↓cont_seq, ↓done_nil, ↓done_seq, ↓ops_consN, ↓ops_guardN, nY_move, nY_assign, nY_pick, nY_box, nY_load, nY_binOp, nilO_tmp, nilO_int, nY_fieldAddr, nY_callf, nY_callb, ↓ops_nil, opsIf_some, condC_true, guardC_tf, guardC_ff, Option.map_some, Option.bind_some, Option.getD_some, Nat.reduceLT, Bool.false_eq_true, ↓upd_same, ↓upd_ne, Nat.reduceBEq, and_true, List.getD_cons_zero, List.getD_cons_succ, List.getElem?_toArray, List.getElem?_cons_zero, List.getElem?_cons_succ, endQ, cfg_P, cfg_tab, cfg_muts, cfg_frz, List.length_map, List.contains_cons, List.contains_nil, Bool.or_false, decide_true, decide_false, Option.some.injEq, exists_eq_left', List.lookup_cons, List.lookup_nil, tabOf_cons, tab_v, Bool.and_self, Nat.reduceEqDiff, List.nil_append, List.append_nil, List.length_cons, List.length_nil, Nat.zero_add, List.drop_zero, Nat.reduceAdd, Nat.lt_succ_self, Bool.not_false, not_false_eq_true, Nat.le_refl, pur_int, pur_lits, cells_agg, pur_agg, DRx_bool, ↓ev_tmp, ↓ev_int, ↓ev_bool, ↓ev_func, ↓guardP_eq, grd_some, ↓iop_move, ↓iop_assign, ↓pick3_bool, ↓iop_pick, ↓iop_box, ↓iop_load, ↓iop_binOp, ↓iop_fieldAddr, ↓iop_callv, ↓iop_callb, nrmAll_cons, nrmAll_nil, bi_len, lenM_none, nrm_agg, nrmL_cons, nrmL_nil, nrm_lits, nrm1_int, nrm1_lits, pickP_f, pickP_t, loadP_vptr, fieldP_vptr, lenP_lits, b_neq, b_gtr, env0_eq, ires_eq, iresL_1, iresAll_nil, iresAll_cons, iresOne_tmp, valT_eq, pursL_cons, pursL_nil, ↓reduceIte, callP_eq, tsOf_eq, boxP_eq, List.take_succ_cons, List.take_nil, ↓evs_cons, ↓evs_nil, beq_self_eq_true, see_eq, and_false, Bool.true_eq_false, e_fcheck, s_fcheck, e_sanity, s_sanity, e_cheap, e_earl, e_cost2, nth_its, pur_its, nth_arcs, pur_arcs, nth_snds, pur_snds, nth_lnks, pur_lnks, lkC_len, lkC_0, lkC_1, lkC_cap, lkC_pri, lkC_take, pur_lkC, Nat.mul_one, Try.f4, ty22, ty24, ty25, ty27, g1, g1i, g2, g2i, hc]
 obtain ⟨hf, hd, hD, hdu⟩ := fck_ok hc
 obtain ⟨_, _, hr⟩ := dem_ok hd
 have hr0 := hr.1
 have hr1 := hr.2.1
 have hr2 := hr.2.2.1
 have hr3 := hr.2.2.2.2
 have wD : IntKind.i64.wrap (d.2.2.2.2 - d.2.2.2.1) = d.2.2.2.2 - d.2.2.2.1 := wrap64 (by omega) (by omega)
 by_cases g4 : 12 < d.2.2.2.2 - d.2.2.2.1
 ·simp +contextual (maxSteps := 4000000) only [↓ur_seq, ↓ur_ret, ↓ur_region, ↓ur_cond, ↓cont_seq, ↓done_nil, ↓done_seq, ↓ops_consN, ↓ops_guardN, nY_move, nY_assign, nY_pick, nY_box, nY_load, nY_binOp, nilO_tmp, nilO_int, nY_fieldAddr, nY_callf, nY_callb, ↓ops_nil, opsIf_some, condC_true, guardC_ff, Option.map_some, Option.bind_some, Option.getD_some, Nat.reduceLT, Bool.false_eq_true, ↓upd_same, ↓upd_ne, Nat.reduceBEq, and_true, List.getD_cons_zero, List.getD_cons_succ, List.getElem?_toArray, List.getElem?_cons_zero, List.getElem?_cons_succ, endQ, cfg_P, cfg_tab, cfg_muts, cfg_frz, List.length_map, List.contains_cons, List.contains_nil, Bool.or_false, decide_true, decide_false, Option.some.injEq, exists_eq_left', List.lookup_cons, List.lookup_nil, tabOf_cons, tab_v, Bool.and_self, Nat.reduceEqDiff, List.nil_append, List.append_nil, List.length_cons, List.length_nil, Nat.zero_add, List.drop_zero, Nat.reduceAdd, Nat.lt_succ_self, Bool.not_false, not_true_eq_false, Nat.le_refl, pur_int, pur_lits, cells_agg, pur_agg, DRx_bool, ↓ev_tmp, ↓ev_int, ↓ev_bool, ↓ev_func, ↓guardP_eq, grd_some, ↓iop_move, ↓iop_assign, ↓pick3_bool, ↓iop_pick, ↓iop_box, ↓iop_load, ↓iop_binOp, ↓iop_fieldAddr, ↓iop_callv, ↓iop_callb, nrmAll_cons, nrmAll_nil, bi_len, lenM_none, nrm_agg, nrmL_cons, nrmL_nil, nrm_lits, nrm1_int, nrm1_lits, pickP_f, pickP_t, loadP_vptr, fieldP_vptr, lenP_lits, b_sub, b_neq, b_gtr, env0_eq, ires_eq, iresL_1, iresAll_nil, iresAll_cons, iresOne_tmp, valT_eq, pursL_cons, pursL_nil, ↓reduceIte, callP_eq, tsOf_eq, boxP_eq, List.take_succ_cons, List.take_nil, ↓evs_cons, ↓evs_nil, beq_self_eq_true, see_eq, and_false, Bool.true_eq_false, e_fcheck, s_fcheck, e_sanity, s_sanity, e_cheap, e_earl, e_cost2, nth_its, pur_its, nth_arcs, pur_arcs, nth_snds, pur_snds, nth_lnks, pur_lnks, lkC_len, lkC_0, lkC_1, lkC_cap, lkC_pri, lkC_take, pur_lkC, Nat.mul_one, Try.f4, ty3, ty22, ty24, ty25, ty27, g1, g1i, g2, g2i, hc, wD, g4]
 by_cases h0 : chpE hn ls us d = 0
 case neg =>
  have : cosM hn ls us d = -1 := by unfold cosM; rw [if_neg h0]
  simp +contextual (maxSteps := 4000000) only [↓ur_skip, ↓ur_seq, ↓ur_ret, ↓ur_region, ↓ur_cond, ↓cont_seq, ↓done_nil, ↓done_seq, ↓ops_consN, ↓ops_guardN, nY_move, nY_assign, nY_pick, nY_box, nY_load, nY_binOp, nilO_tmp, nilO_int, nY_fieldAddr, nY_callf, nY_callb, ↓ops_nil, opsIf_some, condC_true, condC_false, guardC_ff, Option.map_some, Option.bind_some, Option.getD_some, Nat.reduceLT, Bool.false_eq_true, ↓upd_same, ↓upd_ne, Nat.reduceBEq, and_true, List.getD_cons_zero, List.getD_cons_succ, List.getElem?_toArray, List.getElem?_cons_zero, List.getElem?_cons_succ, endQ, cfg_P, cfg_tab, cfg_muts, cfg_frz, List.length_map, List.contains_cons, List.contains_nil, Bool.or_false, decide_true, decide_false, Option.some.injEq, exists_eq_left', List.lookup_cons, List.lookup_nil, tabOf_cons, tab_v, Bool.and_self, Nat.reduceEqDiff, List.nil_append, List.append_nil, List.length_cons, List.length_nil, Nat.zero_add, List.drop_zero, Nat.reduceAdd, Nat.lt_succ_self, Bool.not_false, not_true_eq_false, Int.reduceLT, Nat.le_refl, pur_int, pur_lits, cells_agg, pur_agg, DRx_bool, ↓ev_tmp, ↓ev_int, ↓ev_bool, ↓ev_func, ↓guardP_eq, grd_some, ↓iop_move, ↓iop_assign, ↓pick3_bool, ↓iop_pick, ↓iop_box, ↓iop_load, ↓iop_binOp, ↓iop_fieldAddr, ↓iop_callv, ↓iop_callb, nrmAll_cons, nrmAll_nil, bi_len, lenM_none, nrm_agg, nrmL_cons, nrmL_nil, nrm_lits, nrm1_int, nrm1_lits, pickP_f, pickP_t, loadP_vptr, fieldP_vptr, lenP_lits, b_sub, b_neq, b_lss, b_gtr, env0_eq, ires_eq, iresL_1, iresAll_nil, iresAll_cons, iresOne_tmp, valT_eq, pursL_cons, pursL_nil, ↓reduceIte, callP_eq, tsOf_eq, boxP_eq, List.take_succ_cons, List.take_nil, ↓evs_cons, ↓evs_nil, beq_self_eq_true, see_eq, and_false, Bool.true_eq_false, e_fcheck, s_fcheck, e_sanity, s_sanity, e_cheap, e_earl, e_cost2, s_cost2, nth_its, pur_its, nth_arcs, pur_arcs, nth_snds, pur_snds, nth_lnks, pur_lnks, lkC_len, lkC_0, lkC_1, lkC_cap, lkC_pri, lkC_take, pur_lkC, Nat.mul_one, Try.f4, ty3, ty22, ty24, ty25, ty27, g1, g1i, g2, g2i, hc, wD, g4, this]
 have cb := cos_bnd h0
 have wp : IntKind.i64.wrap (p : Int) = p := wrap64 (by omega) (by omega)
 have wq : IntKind.i64.wrap (q : Int) = q := wrap64 (by omega) (by omega)
 have wr : IntKind.i64.wrap (r : Int) = r := wrap64 (by omega) (by omega)
 have wb : IntKind.i64.wrap (d.2.2.1 - (p : Int)) = d.2.2.1 - p := wrap64 (by omega) (by omega)
 have tq : Int.tmod (q : Int) 4 = (q : Int) % 4 := Int.tmod_eq_emod_of_nonneg (by omega)
 have wu : IntKind.i64.wrap (d.2.2.2.2 + (q : Int) % 4) = d.2.2.2.2 + (q : Int) % 4 := wrap64 (by omega) (by omega)
 have wl := wrapN' (k := us.length) (by omega)
 have tr : Int.tmod (r : Int) ((us.length + 1 : Nat) : Int) = ((r % (us.length + 1) : Nat) : Int) := by rw [Int.tmod_eq_emod_of_nonneg (by omega)]; rfl
 have hrl : r % (us.length + 1) < us.length + 1 := Nat.mod_lt _ (by omega)
 have f4 := cos_more (us' := us.take (us.length - r % (us.length + 1))) (u := d.2.2.2.2) h0 (fit_take hf _) (fun k t => sent_take (fit_ok hf).1 _ k t) (Int.le_refl _) hr3 (by omega)
 generalize r % (us.length + 1) = m at *
 have wm : IntKind.i64.wrap ((us.length : Int) - (m : Int)) = ((us.length - m : Nat) : Int) := by rw [wrap64 (by omega) (by omega)]; omega
 have nl : ¬ us.length + 1 = 0 := by omega
 have nli : ¬ ((us.length + 1 : Nat) : Int) = 0 := by omega
 obtain ⟨b, hb⟩ : ∃ b, b = if 1 < d.2.2.1 - (p : Int) then d.2.2.1 - (p : Int) else 1 := ⟨_, rfl⟩
 have hb1 : 1 ≤ b := by rw [hb]; split <;> omega
 have hb2 : b ≤ d.2.2.1 := by rw [hb]; split <;> omega
 obtain ⟨u, hu⟩ : ∃ u, u = if d.2.2.2.2 + (q : Int) % 4 < 1000000 then d.2.2.2.2 + (q : Int) % 4 else 1000000 := ⟨_, rfl⟩
 have hu1 : d.2.2.2.2 ≤ u := by rw [hu]; split <;> omega
 have hu2 : u ≤ 1000000 := by rw [hu]; split <;> omega
 have hu3 : u - d.2.2.2.1 ≤ 32 := by rw [hu]; split <;> omega
 have f3 := cos_fewer h0 hb1 hb2
 have f5 := cos_more (us' := us) (u := u) h0 hf (fun k t => Int.le_refl _) hu1 hu2 hu3
 obtain ⟨k1, k2, k3, k4, k5, k6⟩ := first_ok h0
 have s3 := s_cost2 (hn := hn) (ls := ls) (us := us) (d := dB d b)
 have s4 := s_cost2 (hn := hn) (ls := ls) (us := us.take (us.length - m)) (d := d)
 have s5 := s_cost2 (hn := hn) (ls := ls) (us := us) (d := dW d u)
 have s6 := s_cheap (hn := hn) (ls := ls) (us := us) (d := dW d (earN hn ls us d))
 have s7 := s_cheap (hn := hn) (ls := ls) (us := us) (d := dW d (earN hn ls us d - 1))
 rw [k4] at s6
 rw [dW_self] at f4
 generalize cosM hn ls us (dB d b) = x3 at *
 generalize cosM hn ls (us.take (us.length - m)) d = x4 at *
 generalize cosM hn ls us (dW d u) = x5 at *
 generalize hw : cosM hn ls us d = w at *
 generalize hen : earN hn ls us d = en at *
 generalize chpL hn ls us (dW d en) = c6 at *
 generalize chpL hn ls us (dW d (en - 1)) = c7 at *
 dsimp only [demV, dB, dW] at s3 s5 s6
 dsimp only [snds] at s4
 rw [List.map_take] at s4
 have we : IntKind.i64.wrap (en - 1) = en - 1 := wrap64 (by omega) (by omega)
 have z0 : ¬ w < 0 := by omega
 have z1 : ¬ x3 < 0 := by omega
 have z2 : ¬ w < x3 := by omega
 have z3 : ¬ x4 < 0 := by omega
 have z4 : ¬ w < x4 := by omega
 have z5 : ¬ x5 < 0 := by omega
 have z6 : ¬ w < x5 := by omega
 have z7 : ¬ en < d.2.2.2.1 := by omega
 have z8 : ¬ d.2.2.2.2 < en := by omega
 have n1 : 1 - 1 = 0 := rfl
 have n2 : 2 - 1 = 1 := rfl
 have n3 : 3 - 1 = 2 := rfl
 have n4 : 4 - 1 = 3 := rfl
 have hul : us.length - m ≤ us.length := by omega
 have hui : ((us.length - m : Nat) : Int) ≤ (us.length : Int) := by omega
 have hpt : pursL (List.take (us.length - m) (us.map sndV)) = true := by rw [← List.map_take]; exact pur_snds
 by_cases e1 : en = d.2.2.2.1
 ·have k5 := eq_true (k5 e1)
  have e1 := eq_true e1
  simp +contextual (maxSteps := 4000000) only [↓ur_skip, ↓ur_seq, ↓ur_ret, ↓ur_region, ↓ur_cond, ↓cont_seq, ↓done_nil, ↓done_seq, ↓ops_consN, ↓ops_guardN, nY_move, nY_assign, nY_pick, nY_alloc, nY_box, nY_load, nY_store, nY_binOp, nilO_tmp, nilO_int, nY_convert, nY_slice, nY_fieldAddr, nY_indexAddr, nY_extract, nY_callf, nY_callb, ↓ops_nil, opsIf_some, opsIf_none, condC_true, condC_false, guardC_tt, guardC_ff, Option.map_some, Option.map_none, Option.bind_some, Option.getD_some, Option.getD_none, Nat.reduceLT, Bool.false_eq_true, ↓upd_same, ↓upd_ne, Nat.reduceBEq, and_true, List.getD_cons_zero, List.getD_cons_succ, List.getElem?_toArray, List.getElem?_cons_zero, List.getElem?_cons_succ, endQ, cfg_P, cfg_tab, cfg_muts, cfg_frz, cfg_num, numOf_eq, List.length_map, List.contains_cons, List.contains_nil, Bool.or_false, Bool.or_true, Int.natCast_nonneg, Int.toNat_natCast, decide_true, decide_false, Option.some.injEq, exists_eq_left', List.lookup_cons, List.lookup_nil, tabOf_cons, tab_v, Bool.and_true, Bool.and_self, Bool.true_and, Nat.reduceEqDiff, List.cons_append, List.nil_append, List.append_nil, updO_same, updO_ne, List.length_cons, List.length_nil, Nat.zero_add, Nat.add_zero, List.drop_zero, List.take_zero, Nat.reduceAdd, List.set_cons_zero, Nat.reduceLeDiff, nth_zero, Nat.lt_succ_self, Bool.not_false, not_true_eq_false, Int.reduceEq, Int.reduceLT, Int.reduceLE, Int.reduceToNat, or_false, Nat.le_refl, cells_int, pur_int, pur_lits, cells_agg, pur_agg, DRx_bool, ↓ev_tmp, ↓ev_int, ↓ev_bool, ↓ev_func, ↓guardP_eq, grd_some, ↓iop_move, ↓iop_assign, ↓pick3_bool, ↓iop_pick, ↓iop_box, ↓iop_load, ↓iop_store, ↓iop_binOp, ↓iop_convert, ↓iop_slice, intOfP_int, slcP_ft, ↓iop_fieldAddr, ↓iop_indexAddr, idxA_int, ↓iop_extract, extr_tuple, ↓iop_callv, ↓iop_callb, tmpNo_tmp, softS_ptr, heldS_ptr, isInt1_int, isInt_agg, List.all_cons, List.all_nil, nrmAll_cons, nrmAll_nil, bi_len, lenM_none, bi_min, bi_max, nrm_agg, nrmL_cons, nrmL_nil, nrm_lits, nrm1_int, nrm1_lits, pickP_f, pickP_t, loadP_vptr, loadP_ptr, setCells_agg, storeP_ptr, fieldP_vptr, fieldP_ptr, indexP_vptr, lenP_lits, sliceP_lits, b_add, b_sub, b_rem, b_eql, b_neq, b_lss, b_gtr, cv_int, splice_eq, env0_eq, ires_eq, iresL_1, iresAll_nil, iresAll_cons, iresOne_tmp, valT_eq, pursL_cons, pursL_nil, Store.set, ↓reduceIte, arr_eq, arrB_some, callP_eq, tsOf_eq, boxP_eq, List.take_succ_cons, List.drop_succ_cons, List.drop_nil, List.take_nil, ↓evs_cons, ↓evs_nil, Int.le_refl, beq_self_eq_true, List.all_cons, List.all_nil, see_eq, false_and, and_false, Bool.true_eq_false, Int.cast_ofNat_Int, e_fcheck, s_fcheck, e_sanity, s_sanity, e_cheap, e_earl, s_earl, e_cost2, s_cost2, nth_its, pur_its, nth_arcs, pur_arcs, nth_snds, pur_snds, nth_lnks, pur_lnks, lkC_len, lkC_0, lkC_1, lkC_cap, lkC_pri, lkC_take, pur_lkC, Nat.mul_one, Try.f4, ty3, ty22, ty24, ty25, ty27, ty40, ty41, g1, g1i, g2, g2i, hc, wD, g4, wp, wq, wr, wb, tq, wu, wl, tr, wm, nl, nli, ← hb, ← hu, s3, s4, s5, s6, z0, z1, z2, z3, z4, z5, z6, z7, z8, n1, n2, n3, n4, re_arr', reP_arr', reM_arr, rePM_arr, iop_alloc_re, k1, k5, e1, we, hul, hui, hpt, hw, hen, Nat.sub_zero]
 ·have k6 := k6 e1
  rw [k6] at s7
  dsimp only [demV, dW] at s7
  simp +contextual (maxSteps := 4000000) only [↓ur_skip, ↓ur_seq, ↓ur_ret, ↓ur_region, ↓ur_cond, ↓cont_seq, ↓done_nil, ↓ops_consN, ↓ops_guardN, nY_move, nY_assign, nY_pick, nY_alloc, nY_box, nY_load, nY_store, nY_binOp, nilO_tmp, nilO_int, nY_convert, nY_slice, nY_fieldAddr, nY_indexAddr, nY_extract, nY_callf, nY_callb, ↓ops_nil, opsIf_some, opsIf_none, condC_false, guardC_tt, guardC_ff, Option.map_some, Option.map_none, Option.bind_some, Option.getD_some, Option.getD_none, Nat.reduceLT, Bool.false_eq_true, ↓upd_same, ↓upd_ne, Nat.reduceBEq, and_true, List.getD_cons_zero, List.getD_cons_succ, List.getElem?_toArray, List.getElem?_cons_zero, List.getElem?_cons_succ, endQ, cfg_P, cfg_tab, cfg_muts, cfg_frz, cfg_num, numOf_eq, List.length_map, List.contains_cons, List.contains_nil, Bool.or_false, Bool.or_true, Int.natCast_nonneg, Int.toNat_natCast, decide_true, decide_false, Option.some.injEq, exists_eq_left', List.lookup_cons, List.lookup_nil, tabOf_cons, tab_v, Bool.and_true, Bool.and_self, Bool.true_and, Nat.reduceEqDiff, List.cons_append, List.nil_append, List.append_nil, updO_same, updO_ne, List.length_cons, List.length_nil, Nat.zero_add, Nat.add_zero, List.drop_zero, List.take_zero, Nat.reduceAdd, List.set_cons_zero, Nat.reduceLeDiff, nth_zero, Nat.lt_succ_self, Bool.not_false, not_true_eq_false, Int.reduceEq, Int.reduceLT, Int.reduceLE, Int.reduceToNat, or_false, Nat.le_refl, cells_int, pur_int, pur_lits, cells_agg, pur_agg, DRx_bool, ↓ev_tmp, ↓ev_int, ↓ev_bool, ↓ev_func, ↓guardP_eq, grd_some, ↓iop_move, ↓iop_assign, ↓pick3_bool, ↓iop_pick, ↓iop_box, ↓iop_load, ↓iop_store, ↓iop_binOp, ↓iop_convert, ↓iop_slice, intOfP_int, slcP_ft, ↓iop_fieldAddr, ↓iop_indexAddr, idxA_int, ↓iop_extract, extr_tuple, ↓iop_callv, ↓iop_callb, tmpNo_tmp, softS_ptr, heldS_ptr, isInt1_int, isInt_agg, List.all_cons, List.all_nil, nrmAll_cons, nrmAll_nil, bi_len, lenM_none, bi_min, bi_max, nrm_agg, nrmL_cons, nrmL_nil, nrm_lits, nrm1_int, nrm1_lits, pickP_f, pickP_t, loadP_vptr, loadP_ptr, setCells_agg, storeP_ptr, fieldP_vptr, fieldP_ptr, indexP_vptr, lenP_lits, sliceP_lits, b_add, b_sub, b_rem, b_eql, b_neq, b_lss, b_gtr, cv_int, splice_eq, env0_eq, ires_eq, iresL_1, iresAll_nil, iresAll_cons, iresOne_tmp, valT_eq, pursL_cons, pursL_nil, Store.set, ↓reduceIte, arr_eq, arrB_some, callP_eq, tsOf_eq, boxP_eq, List.take_succ_cons, List.drop_succ_cons, List.drop_nil, List.take_nil, ↓evs_cons, ↓evs_nil, Int.le_refl, beq_self_eq_true, List.all_cons, List.all_nil, see_eq, false_and, and_false, Bool.true_eq_false, Int.cast_ofNat_Int, e_fcheck, s_fcheck, e_sanity, s_sanity, e_cheap, e_earl, s_earl, e_cost2, s_cost2, nth_its, pur_its, nth_arcs, pur_arcs, nth_snds, pur_snds, nth_lnks, pur_lnks, lkC_len, lkC_0, lkC_1, lkC_cap, lkC_pri, lkC_take, pur_lkC, Nat.mul_one, Try.f4, ty3, ty22, ty24, ty25, ty27, ty40, ty41, g1, g1i, g2, g2i, hc, wD, g4, wp, wq, wr, wb, tq, wu, wl, tr, wm, nl, nli, ← hb, ← hu, s3, s4, s5, s6, s7, z0, z1, z2, z3, z4, z5, z6, z7, z8, n1, n2, n3, n4, re_arr', reP_arr', reM_arr, rePM_arr, iop_alloc_re, k1, e1, we, hul, hui, hpt, hw, hen, Nat.sub_zero]
end Sim
namespace Go.Proofs.Ytbojbamchaohpaa
open Go Go.ChangeShapes Go.WideShapes Go.ChangeAt Go.RowKit Sim
set_option linter.unusedVariables false
set_option maxRecDepth 100000 in
theorem lifted4 (os : Os) (started : os.Started) (H : Type) (enc : TypeId × Value → H) :
  ReturnsInHanded {} Try.checked os 4 .any (Rows.flowIsMonotoneSpec.pre6 enc Try.prog Try.f4 Rows.flowIsMonotoneRow.domain false) (Rows.flowIsMonotoneSpec.post enc Try.prog Try.f4 false true false false) := by
 refine returnsInHanded_of_change (C := Try.checked) own16 started (by kernel_rfl) Try.func4
  (ChangeSpec.witness6 (enc := enc) (C := Try.checked) false ⟨#[], #[.agg #[.int .i64 0, .slice Option.none 0 0], .slice Option.none 0 0, .agg #[.int .i64 0, .int .i64 0, .int .i64 0, .int .i64 0, .int .i64 0], .agg #[.int .u16 0, .int .u16 0, .int .u16 0]], []⟩ 8 (by kernel_rfl) (by kernel_rfl) (by kernel_rfl) (by kernel_rfl)) ?_
 intro W base args ds gs before hval0 hW hcnd _
 have hval : ∀ (j : Nat) t v, Try.f4.params[j]? = some t → args[j]? = some v → Value.okWide Try.prog W .any base t v := hval0
 have hW' := hW
 obtain ⟨p, q, hA0, hV, rfl, hfz, hnd⟩ := hW
 have hA : DataW.TrodAll enc Try.prog W 0 (fun _ => true) true Try.f4.params.toList args.toList ds p := hA0
 rw [Try.params4] at hA hval
 obtain ⟨v0, vs0, d0, ds0, p0, q0, hargs, rfl, rfl, h0, r0⟩ := trodAll_cons hA
 obtain ⟨v1, vs1, d1, ds1, p1, q1, rfl, rfl, rfl, h1, r1⟩ := trodAll_cons r0
 obtain ⟨v2, vs2, d2, ds2, p2, q2, rfl, rfl, rfl, h2, r2⟩ := trodAll_cons r1
 obtain ⟨v3, vs3, d3, ds3, p3, q3, rfl, rfl, rfl, h3, r3⟩ := trodAll_cons r2
 obtain ⟨rfl, rfl, rfl⟩ := trodAll_nil r3
 obtain rfl : args = #[v0, v1, v2, v3] := by cases args; simp_all
 obtain ⟨rfl, rfl⟩ := trodVars_none hV
 obtain ⟨hn0, ls0, g0⟩ := net_arg (hval 0 24 v0 rfl rfl) h0
 obtain ⟨l1, g1⟩ := sends_arg (hval 1 25 v1 rfl rfl) h1
 obtain ⟨d2, g2⟩ := dem_arg (hval 2 27 v2 rfl rfl) h2
 obtain ⟨a3, b3, c3, u3, g3⟩ := three_arg (hval 3 41 v3 rfl rfl) h3
 refine ((c_law17 hn0 ls0 l1 d2 a3 b3 c3 u3).2 (full W) W #[v0, v1, v2, v3] (fun _ _ _ h => h) ⟨rfl, fun i p hp => ?_⟩).mono fun e W' ⟨v, he, hfr, hold, hsz, hv⟩ => ?_
 ·match i, hp with
  | 0, hp => simp at hp; subst hp; exact g0
  | 1, hp => simp at hp; subst hp; exact g1
  | 2, hp => simp at hp; subst hp; exact g2
  | 3, hp => simp at hp; subst hp; exact g3
  | i + 4, hp => simp at hp
 ·subst he
  have e := inv_bool hv
  subst e
  exact ⟨_, rfl, post_keep kids16 wide16 (by rw [Try.params4]; decide +kernel) rfl hW' hfr hold rfl rfl (fun _ _ _ => trodAll_mk1 (shut_bool Try.underlying4 _)) (ok_one (by kernel_rfl) rfl (okWide_bool_mk Try.underlying4 _))⟩
theorem flowIsMonotone_holds : Rows.FlowIsMonotoneSaid :=
 OpenClaim.holds_of_wide 4 Try.f4 rfl rfl rfl rfl rfl rfl rfl ⟨rfl, rfl, rfl, rfl, rfl⟩ rfl rfl rfl rfl rfl (by kernel_rfl) Try.func4 (by kernel_rfl)
  (of_decide_eq_true (by kernel_rfl)) (by unfold Func.isWrapper; first | (rw [if_pos (by decide +kernel)]; kernel_rfl) | (rw [if_neg (by decide +kernel)]; exact ⟨rfl, rfl⟩))
  (fun os started H enc _ => lifted4 os started H enc)
end Go.Proofs.Ytbojbamchaohpaa
