/- What functions of this seat compute, by values: contracts (lemmas of the statement's proof, under the conditions that each names). -/
import Derived.Test.YtpaaaaijebdphaaQP9
import Derived.Test.YtpaaaaijebdphaaQM1
namespace Sim
open Go Go.Proofs
set_option maxRecDepth 10000
set_option maxHeartbeats 4000000
set_option linter.unusedVariables false
set_option linter.unusedSimpArgs false
attribute [local congr] opsIf_congr condC_congr guardC_congr grd_congr pick3_congr obind_congr omap_congr nilC_congr opsV_congr
theorem rev_step {l : List Use} {k : Nat} (h : k < l.length) : (l.reverse.take (k + 1)).map useV = (l.reverse.take k).map useV ++ [useV (l.getD (l.length - 1 - k) dU)] := by
  have hk : k < l.reverse.length := by rw [List.length_reverse]; exact h
  rw [List.take_succ_eq_append_getElem hk, List.map_append, List.getElem_reverse, List.getD_eq_getElem?_getD, List.getElem?_eq_getElem (by omega)]
  rfl
theorem run_env9 {X : Cfg} {N : Nat} {Q : IExit → IState → Prop} {c : Code} {ks : List Kf} {A : Prop} (T : (Nat → PV) → Store → Prop) (h1 : (∀ ρ st, T ρ st → run X N Q c ks ⟨ρ, st⟩) → A) (h2 : ∀ ρ st, T ρ st → run X N Q c ks ⟨ρ, st⟩) : A := h1 h2
structure GapIn9 (x : Gap) : Prop where
  a : 0 ≤ x.1 ∧ x.1 ≤ 39
  b : 0 ≤ x.2.1 ∧ x.2.1 ≤ 39
/-- What the law needs of the three lists. -/
structure OmitAt (t : List Tar) (l : List Use) (out : Nat) (a : Int) (A C : List Pst) (G : List Gap) : Prop where
  a1 : perL [] t 1 [] l a = A
  b0 : perE [] t 1 [] l.reverse a = 0
  b1 : perL [] t 1 [] l.reverse a = A
  c0 : perE [] t 1 [] (l.take out ++ l.drop (out + 1)) a = 0
  c1 : perL [] t 1 [] (l.take out ++ l.drop (out + 1)) a = C
  d0 : dspE A A = 0
  d1 : dspL A A = []
  e0 : dspE A C = 0
  e1 : dspL A C = G
  one : G.length ≤ 1
  gap : ∀ z ∈ G, (z.1, z.2.1, z.2.2.1) = pk (ukey (l.getD out dU)) ∧ z.2.2.2.2 < z.2.2.2.1
  gin : ∀ z ∈ G, GapIn9 z
  kin : kin' (ukey (l.getD out dU))
theorem omit_at {t : List Tar} {l : List Use} {out : Nat} {a : Int} (hu : ∀ u ∈ l, ¬ u.1 = 2) (hl : l.length ≤ 20) (ho : out < l.length) (h0 : perE [] t 1 [] l a = 0) : ∃ A C G, OmitAt t l out a A C G := by
  have ok := per_iff.1 h0
  have hsp : l = l.take out ++ l.getD out dU :: l.drop (out + 1) := by
    rw [List.getD_eq_getElem?_getD, List.getElem?_eq_getElem ho]
    simp
  have okr := per_perm (List.reverse_perm l).symm ok
  have ok1 : PerOK t 1 [] (l.take out ++ l.getD out dU :: l.drop (out + 1)) a := by rw [← hsp]; exact ok
  have hu1 : ∀ v ∈ l.take out ++ l.getD out dU :: l.drop (out + 1), useP 1 [] v := by rw [← hsp]; exact hu
  have ok2 := per_less hu1 ok1
  have pl : ∀ m, PerOK t 1 [] m a → perL [] t 1 [] m a = outL (emL t 1 [] m) a (ordK (emL t 1 [] m)) := fun m h => by unfold perL; rw [if_pos (per_iff.2 h), emA_nil]
  have hrA := (out_ok ok).1
  have hlA := (out_ok ok).2
  have hrC := (out_ok ok2).1
  have hlC := (out_ok ok2).2
  have hl2 : (l.take out ++ l.drop (out + 1)).length ≤ 20 := by rw [List.length_append, List.length_take, List.length_drop]; omega
  have hgap := fun z => omit_gap hu1 ok1 (z := z)
  rw [← hsp] at hgap
  have hrAC : ∀ p ∈ outL (emL t 1 [] l) a (ordK (emL t 1 [] l)) ++ outL (emL t 1 [] (l.take out ++ l.drop (out + 1))) a (ordK (emL t 1 [] (l.take out ++ l.drop (out + 1)))), rgtO p := fun p hp => by
    rcases List.mem_append.1 hp with h | h
    · exact hrA p h
    · exact hrC p h
  have hrAA : ∀ p ∈ outL (emL t 1 [] l) a (ordK (emL t 1 [] l)) ++ outL (emL t 1 [] l) a (ordK (emL t 1 [] l)), rgtO p := fun p hp => by
    rcases List.mem_append.1 hp with h | h <;> exact hrA p h
  have dE : ∀ o c : List Pst, o.length ≤ 1000 → c.length ≤ 1000 → (∀ p ∈ o ++ c, rgtO p) → dspE o c = 0 := fun o c h1 h2 h3 => by
    unfold dspE
    rw [if_neg (by omega), if_neg (fun g => g h3)]
  refine ⟨_, _, specL (outL (emL t 1 [] l) a (ordK (emL t 1 [] l))) (outL (emL t 1 [] (l.take out ++ l.drop (out + 1))) a (ordK (emL t 1 [] (l.take out ++ l.drop (out + 1))))), pl l ok, per_iff.2 okr, (pl _ okr).trans (em_perm (List.reverse_perm l)), per_iff.2 ok2, pl _ ok2, dE _ _ (by omega) (by omega) hrAA, ?_, dE _ _ (by omega) (by omega) hrAC, ?_, ?_, fun z hz => hgap z hz, fun z hz => ?_, ukey_in ok (at_mem' ho)⟩
  · rw [dspL_zero (dE _ _ (by omega) (by omega) hrAA), spec_self hrAA]
  · rw [dspL_zero (dE _ _ (by omega) (by omega) hrAC)]
  · exact asc_one (spec_mem hrAC).1 fun z hz => (hgap z hz).1
  · obtain ⟨p, hp, rfl, _⟩ := ((spec_mem hrAC).2 z).1 hz
    have h1 := hrAC p hp
    unfold rgtO at h1
    exact ⟨h1.1, h1.2.1⟩
def C_law9 : Prop := ∀ (t : List Tar) (l : List Use) (a : Int) (b : Int) (h : (0 ≤ a ∧ a ≤ 65535) ∧ (0 ≤ b ∧ b ≤ 65535)) , VC Try.prog 9 [tars t, uses l, .agg [.int .u16 a, .int .u16 b]] (B true)
theorem c_law9 : C_law9 := by
  rintro t l a b ⟨⟨a0, a1⟩, b0, b1⟩
  refine vc_ofU mixed (l := [e_sanity, e_period, e_dispute]) ((eok_cons o_sanity (eok_cons o_period (eok_cons o_dispute eok_nil)))) [100] [96, 103, 108, 115]  Try.func9 rfl (by decide +kernel) (N := 203) rfl (by simp) rfl (by kernel_rfl) fun hs => ?_
  simp only [smallL, PV.small, List.length_map, and_true, true_and] at hs
  by_cases c1 : l.length = 0
  · have e : l = [] := List.eq_nil_of_length_eq_zero c1
    subst e
    simp +contextual (maxSteps := 4000000) only [↓ur_seq, ↓ur_ret, ↓ur_region, ↓ur_cond, ↓cont_seq, ↓done_nil, ↓done_seq, ↓ops_consN, ↓ops_guardN, nY_move, nY_assign, nY_pick, nY_box, nY_binOp, nilO_int, nY_callf, nY_callb, ↓ops_nil, opsIf_some, condC_true, guardC_tf, Option.map_some, Option.bind_some, Option.getD_some, Nat.reduceLT, Bool.false_eq_true, ↓upd_same, ↓upd_ne, Nat.reduceBEq, and_true, List.getD_cons_zero, List.getD_cons_succ, List.getElem?_toArray, List.getElem?_cons_zero, List.getElem?_cons_succ, endQ, cfg_P, cfg_tab, cfg_muts, cfg_frz, List.map_nil, List.contains_cons, List.contains_nil, Bool.or_false, decide_true, Option.some.injEq, exists_eq_left', tabOf_cons, tab_v, List.append_nil, List.length_cons, List.length_nil, Nat.zero_add, Nat.reduceAdd, Bool.not_false, st0, cells_agg, DRx_bool, ↓ev_tmp, ↓ev_int, ↓ev_bool, ↓ev_func, ↓guardP_eq, grd_some, ↓iop_move, ↓iop_assign, ↓pick3_bool, ↓iop_pick, ↓iop_box, ↓iop_binOp, ↓iop_callv, ↓iop_callb, nrmAll_nil, bi_len, lenM_none, lenP_lits, b_eql, env0_eq, ires_eq, iresL_1, iresAll_nil, iresAll_cons, iresOne_tmp, valT_eq, pursL_nil, ↓reduceIte, callP_eq, tsOf_eq, boxP_eq, ↓evs_cons, ↓evs_nil, and_false, Bool.true_eq_false, Int.cast_ofNat_Int, e_sanity, s_sanity, e_period, e_dispute, nth_psts, pur_psts, nth_gaps, pur_gaps, nth_pays, pur_pays, nth_tars, pur_tars, nth_snds, pur_snds, nth_uses, pur_uses, nth_rsts, pur_rsts, nth_lnks, pur_lnks, Try.f9, ty73]
  have c1i : ¬ (l.length : Int) = 0 := by omega
  by_cases c2 : 20 < l.length
  · have c2i : (20 : Int) < (l.length : Int) := by omega
    simp +contextual (maxSteps := 4000000) only [↓ur_seq, ↓ur_ret, ↓ur_region, ↓ur_cond, ↓cont_seq, ↓done_nil, ↓done_seq, ↓ops_consN, ↓ops_guardN, nY_move, nY_assign, nY_pick, nY_box, nY_binOp, nilO_int, nY_callf, nY_callb, ↓ops_nil, opsIf_some, condC_true, guardC_tf, guardC_ff, Option.map_some, Option.bind_some, Option.getD_some, Nat.reduceLT, Bool.false_eq_true, ↓upd_same, ↓upd_ne, Nat.reduceBEq, and_true, List.getD_cons_zero, List.getD_cons_succ, List.getElem?_toArray, List.getElem?_cons_zero, List.getElem?_cons_succ, endQ, cfg_P, cfg_tab, cfg_muts, cfg_frz, List.length_map, List.contains_cons, List.contains_nil, Bool.or_false, decide_true, decide_false, Option.some.injEq, exists_eq_left', tabOf_cons, tab_v, List.append_nil, List.length_cons, List.length_nil, Nat.zero_add, Nat.reduceAdd, Bool.not_false, st0, cells_agg, DRx_bool, ↓ev_tmp, ↓ev_int, ↓ev_bool, ↓ev_func, ↓guardP_eq, grd_some, ↓iop_move, ↓iop_assign, ↓pick3_bool, ↓iop_pick, ↓iop_box, ↓iop_binOp, ↓iop_callv, ↓iop_callb, nrmAll_nil, bi_len, lenM_none, lenP_lits, b_eql, b_gtr, env0_eq, ires_eq, iresL_1, iresAll_nil, iresAll_cons, iresOne_tmp, valT_eq, pursL_nil, ↓reduceIte, callP_eq, tsOf_eq, boxP_eq, ↓evs_cons, ↓evs_nil, and_false, Bool.true_eq_false, e_sanity, s_sanity, e_period, e_dispute, nth_psts, pur_psts, nth_gaps, pur_gaps, nth_pays, pur_pays, nth_tars, pur_tars, nth_snds, pur_snds, nth_uses, pur_uses, nth_rsts, pur_rsts, nth_lnks, pur_lnks, Try.f9, ty73, c1, c1i, c2, c2i]
  have c2i : ¬ (20 : Int) < (l.length : Int) := by omega
  by_cases c3 : 12 < t.length
  · have c3i : (12 : Int) < (t.length : Int) := by omega
    simp +contextual (maxSteps := 4000000) only [↓ur_seq, ↓ur_ret, ↓ur_region, ↓ur_cond, ↓cont_seq, ↓done_nil, ↓done_seq, ↓ops_consN, ↓ops_guardN, nY_move, nY_assign, nY_pick, nY_box, nY_binOp, nilO_int, nY_callf, nY_callb, ↓ops_nil, opsIf_some, condC_true, guardC_ff, Option.map_some, Option.bind_some, Option.getD_some, Nat.reduceLT, Bool.false_eq_true, ↓upd_same, ↓upd_ne, Nat.reduceBEq, and_true, List.getD_cons_zero, List.getD_cons_succ, List.getElem?_toArray, List.getElem?_cons_zero, List.getElem?_cons_succ, endQ, cfg_P, cfg_tab, cfg_muts, cfg_frz, List.length_map, List.contains_cons, List.contains_nil, Bool.or_false, decide_true, decide_false, Option.some.injEq, exists_eq_left', tabOf_cons, tab_v, List.append_nil, List.length_cons, List.length_nil, Nat.zero_add, Nat.reduceAdd, Bool.not_false, st0, cells_agg, DRx_bool, ↓ev_tmp, ↓ev_int, ↓ev_bool, ↓ev_func, ↓guardP_eq, grd_some, ↓iop_move, ↓iop_assign, ↓pick3_bool, ↓iop_pick, ↓iop_box, ↓iop_binOp, ↓iop_callv, ↓iop_callb, nrmAll_nil, bi_len, lenM_none, lenP_lits, b_eql, b_gtr, env0_eq, ires_eq, iresL_1, iresAll_nil, iresAll_cons, iresOne_tmp, valT_eq, pursL_nil, ↓reduceIte, callP_eq, tsOf_eq, boxP_eq, ↓evs_cons, ↓evs_nil, and_false, Bool.true_eq_false, e_sanity, s_sanity, e_period, e_dispute, nth_psts, pur_psts, nth_gaps, pur_gaps, nth_pays, pur_pays, nth_tars, pur_tars, nth_snds, pur_snds, nth_uses, pur_uses, nth_rsts, pur_rsts, nth_lnks, pur_lnks, Try.f9, ty72, ty73, c1, c1i, c2, c2i, c3, c3i]
  have c3i : ¬ (12 : Int) < (t.length : Int) := by omega
  have wa : IntKind.i64.wrap a = a := wrap64 (by omega) (by omega)
  have wb : IntKind.i64.wrap b = b := wrap64 (by omega) (by omega)
  obtain ⟨out, hout⟩ : ∃ out : Nat, b.tmod (l.length : Int) = (out : Int) := ⟨(b.tmod (l.length : Int)).toNat, (Int.toNat_of_nonneg (Int.tmod_nonneg _ b0)).symm⟩
  have hol : out < l.length := by
    have := Int.tmod_lt_of_pos b (show (0 : Int) < (l.length : Int) by omega)
    omega
  simp +contextual (maxSteps := 4000000) only [↓ur_skip, ↓ur_seq, ↓ur_block, ↓ur_region, ↓ur_cond, ↓cont_seq, ↓ops_consN, ↓ops_guardN, nY_move, nY_assign, nY_pick, nY_box, nY_load, nY_binOp, nilO_tmp, nilO_int, nY_convert, nY_indexAddr, nY_callb, ↓ops_nil, opsIf_some, condC_false, guardC_ff, Option.map_some, Option.bind_some, Option.getD_some, Nat.reduceLT, Bool.false_eq_true, ↓upd_same, ↓upd_ne, Nat.reduceBEq, true_and, and_true, List.getD_cons_zero, List.getD_cons_succ, List.getElem?_toArray, List.getElem?_cons_zero, List.getElem?_cons_succ, cfg_P, cfg_muts, cfg_frz, List.length_map, List.contains_cons, List.contains_nil, Bool.or_false, decide_false, List.length_cons, List.length_nil, Nat.zero_add, Nat.add_zero, Nat.reduceAdd, Nat.reduceMul, Nat.lt_succ_self, Bool.not_false, Int.reduceLT, Int.reduceLE, Int.reduceToNat, st0, cells_agg, ↓ev_tmp, ↓ev_int, ↓ev_bool, ↓ev_nils, ↓guardP_eq, grd_some, ↓iop_move, ↓iop_assign, ↓pick3_bool, ↓iop_pick, ↓iop_box, ↓iop_load, ↓iop_binOp, ↓iop_convert, ↓iop_indexAddr, idxA_int, ↓iop_callb, bi_len, lenM_none, pickP_f, loadP_vptr, indexP_vptr, lenP_lits, b_rem, b_eql, b_gtr, cv_int, env0_eq, ↓reduceIte, boxP_eq, ↓evs_cons, ↓evs_nil, Int.le_refl, see_eq, Int.cast_ofNat_Int, e_sanity, e_period, e_dispute, nth_psts, pur_psts, nth_gaps, pur_gaps, nth_pays, pur_pays, nth_tars, pur_tars, nth_snds, pur_snds, nth_uses, pur_uses, nth_rsts, pur_rsts, nth_lnks, pur_lnks, Try.f9, ty3, ty65, ty72, ty73, ty74, c1, c1i, c2, c2i, c3, c3i, wa, wb, hout]
  refine loop_cnt [6, 9, 10, 56, 57, 58, 59, 60, 61, 62, 63, 64, 65, 66, 67, 68, 69, 70, 71, 72, 73, 74, 75, 76, 77] l.length (fun k ρ st' => ρ 56 = I k ∧ (∀ j, j < k → ¬ (l.getD j dU).1 = 2) ∧ GS st' (ρ 9) 0 8 ((l.reverse.take k).map useV) ∧ 0 < st'.next) (.slot _ 9 8 ?_ ?_) ?_ ?_
  · simp +contextual (maxSteps := 4000000) only [↓upd_same, ↓upd_ne, Nat.reduceBEq, nth_psts, pur_psts, nth_gaps, pur_gaps, nth_pays, pur_pays, nth_tars, pur_tars, nth_snds, pur_snds, nth_uses, pur_uses, nth_rsts, pur_rsts, nth_lnks, pur_lnks, Try.f9]
  · decide
  · simp +contextual (maxSteps := 4000000) only [↓upd_same, ↓upd_ne, Nat.reduceBEq, true_and, and_true, List.map_nil, GS_ref, updO_same, List.length_nil, Nat.zero_add, List.take_zero, Nat.lt_succ_self, Store.new, Int.cast_ofNat_Int, nth_psts, pur_psts, nth_gaps, pur_gaps, nth_pays, pur_pays, nth_tars, pur_tars, nth_snds, pur_snds, nth_uses, pur_uses, nth_rsts, pur_rsts, nth_lnks, pur_lnks, Try.f9]
    exact fun j h => absurd h (by omega)
  rintro k ρ ⟨ob, M⟩ hk ⟨h56, hall, ⟨g, h9, hv⟩, hM⟩
  dsimp only at hv hM
  have hkl : (l.reverse.take k).length = k := by rw [List.length_take, List.length_reverse]; omega
  rw [List.length_map, hkl] at h9
  have m0 : ¬ 0 = M := by omega
  have m1 : ¬ M = 0 := by omega
  by_cases hlt : k < l.length
  · have hwk := wrapM (k := k) (by omega)
    by_cases h2 : (l.getD k dU).1 = 2
    · simp +contextual (maxSteps := 4000000) only [↓ur_skip, ↓ur_seq, ↓ur_block, ↓ur_ret, ↓ur_region, ↓ur_cond, ↓cont_seq, ↓done_nil, ↓done_seq, ↓done_blk, ↓done_lp, ↓ops_consN, nY_move, nY_assign, nY_load, nY_binOp, nilO_tmp, nilO_int, nY_fieldAddr, nY_indexAddr, nY_callf, ↓ops_nil, opsIf_some, condC_true, Option.map_some, Option.bind_some, Option.getD_some, Nat.reduceLT, Bool.false_eq_true, ↓upd_same, ↓upd_ne, Nat.reduceBEq, and_true, List.getD_cons_zero, List.getD_cons_succ, List.getElem?_cons_zero, endQ, cfg_P, cfg_tab, cfg_muts, cfg_frz, List.length_map, ↓havoc_in, ↓havoc_out, List.contains_cons, List.contains_nil, Bool.or_false, Bool.or_true, Int.natCast_nonneg, Int.ofNat_lt, Int.toNat_natCast, decide_true, Option.some.injEq, exists_eq_left', tabOf_cons, tab_v, List.append_nil, Nat.add_zero, Nat.reduceAdd, Nat.lt_succ_self, Bool.not_false, cells_agg, DRx_bool, ↓ev_tmp, ↓ev_int, ↓ev_func, ↓iop_move, ↓iop_assign, ↓iop_load, ↓iop_binOp, ↓iop_fieldAddr, ↓iop_indexAddr, idxA_int, ↓iop_callv, nrmAll_nil, pickP_f, loadP_vptr, fieldP_vptr, indexP_lits, b_eql, b_lss, env0_eq, ires_eq, iresL_1, iresAll_nil, iresAll_cons, iresOne_tmp, valT_eq, pursL_nil, ↓reduceIte, callP_eq, tsOf_eq, ↓evs_nil, beq_self_eq_true, see_eq, and_false, Bool.true_eq_false, s_sanity, nth_psts, pur_psts, nth_gaps, pur_gaps, nth_pays, pur_pays, nth_tars, pur_tars, nth_snds, pur_snds, nth_uses, pur_uses, nth_rsts, pur_rsts, nth_lnks, pur_lnks, Try.f9, ty3, ty73, ty77, h56, hlt, h2]
    · have hrs := rev_step hlt
      have w1 : IntKind.i64.wrap ((l.length : Int) - 1) = ((l.length - 1 : Nat) : Int) := by rw [wrap64 (by omega) (by omega)]; omega
      have w2 : IntKind.i64.wrap (((l.length - 1 : Nat) : Int) - (k : Int)) = ((l.length - 1 - k : Nat) : Int) := by rw [wrap64 (by omega) (by omega)]; omega
      have hlt2 : l.length - 1 - k < l.length := by omega
      have htk : List.take k ((l.reverse.take k).map useV) = (l.reverse.take k).map useV := List.take_of_length_le (by rw [List.length_map, hkl]; exact Nat.le_refl _)
      have hk1 : k + 1 ≤ 2147483648 := by omega
      have hkl2 : (l.reverse.take (k + 1)).length = k + 1 := by rw [List.length_take, List.length_reverse]; omega
      generalize l.reverse.take (k + 1) = B2 at *
      generalize l.reverse.take k = B1 at *
      simp +contextual (maxSteps := 4000000) only [↓ur_skip, ↓ur_seq, ↓ur_block, ↓ur_region, ↓ur_cond, ↓cont_seq, ↓cont_blk, ↓cont_lp, ↓ops_consN, nY_move, nY_assign, nY_buildSlice, nY_load, nY_binOp, nilO_tmp, nilO_int, nY_fieldAddr, nY_indexAddr, nY_callb, ↓ops_nil, opsIf_some, condC_true, condC_false, Option.map_some, Option.bind_some, Option.getD_some, Nat.reduceLT, Bool.false_eq_true, ↓upd_same, ↓upd_ne, Nat.reduceBEq, true_and, and_true, List.getD_cons_zero, List.getD_cons_succ, List.getElem?_cons_zero, cfg_P, cfg_muts, cfg_frz, cfg_num, numOf_eq, List.length_map, ↓havoc_in, ↓havoc_out, agree_upd, agree_havoc, List.contains_cons, List.contains_nil, Bool.or_false, Bool.or_true, Int.natCast_nonneg, Int.ofNat_lt, Int.toNat_natCast, decide_true, decide_false, GS_ref, updO_same, List.length_append, List.length_cons, List.length_nil, Nat.zero_add, Nat.add_zero, List.drop_zero, Nat.not_succ_le_self, Nat.reduceAdd, List.replicate_succ, List.replicate_zero, List.set_cons_zero, Nat.reduceMul, Nat.reduceLeDiff, Nat.lt_succ_self, Bool.not_false, reduceCtorEq, not_false_eq_true, or_false, Nat.le_refl, cells_agg, ↓ev_tmp, ↓ev_int, ↓iop_move, ↓iop_assign, ↓iop_buildSlice, ↓iop_load, ↓iop_binOp, ↓iop_fieldAddr, ↓iop_indexAddr, idxA_int, ↓iop_callb, bi_len, lenM_none, bi_append, pickP_f, pickP_t, loadP_vptr, fieldP_vptr, indexP_lits, lenP_lits, elemsP_lits, appendP_ref, b_add, b_sub, b_eql, b_lss, bel_nil, bel_cons, env0_eq, Store.set, ↓reduceIte, arr_eq, arrB_some, bslP_eq, ne_eq, List.take_succ_cons, List.take_nil, ↓evs_cons, ↓evs_nil, ↓evp_cons, ↓evp_nil, beq_self_eq_true, see_eq, nth_psts, pur_psts, nth_gaps, pur_gaps, nth_pays, pur_pays, nth_tars, pur_tars, nth_snds, pur_snds, nth_uses, pur_uses, nth_rsts, pur_rsts, nth_lnks, pur_lnks, Try.f9, ty3, ty73, ty77, h56, hlt, h2, h9, hv, w1, w2, hlt2, htk, hk1, hwk, hkl, hkl2, hrs]
      refine ⟨fun j hj => ?_, hM⟩
      by_cases e : j = k
      · subst e; exact h2
      · exact hall j (by omega)
  have e : k = l.length := by omega
  subst e
  have hu : ∀ u ∈ l, ¬ u.1 = 2 := fun u hu => by
    obtain ⟨j, hj, rfl⟩ := List.getElem_of_mem hu
    have := hall j hj
    rwa [List.getD_eq_getElem?_getD, List.getElem?_eq_getElem hj] at this
  rw [show l.length = l.reverse.length from List.length_reverse.symm, List.take_length] at hv
  have hsp := fun m => s_period [] t 1 [] m a
  rw [show rsts [] = PV.lits 4 [] from rfl, show lnks [] = PV.lits 50 [] from rfl] at hsp
  have hsp1 := hsp l
  rw [if_pos ⟨by simp, hu⟩] at hsp1
  by_cases he : perE [] t 1 [] l a = 0
  case neg =>
    obtain ⟨E, hE⟩ : ∃ E, perE [] t 1 [] l a = E := ⟨_, rfl⟩
    rw [hE] at he hsp1
    simp +contextual (maxSteps := 4000000) only [↓ur_seq, ↓ur_exit, ↓ur_ret, ↓ur_region, ↓ur_cond, ↓cont_seq, ↓leave_seq, ↓leave_blk, ↓leave_lp, ↓done_nil, ↓done_seq, ↓ops_consN, nY_move, nY_assign, nY_alloc, nY_build, nY_load, nY_store, nY_binOp, nilO_tmp, nilO_int, nY_extract, nY_callf, ↓ops_nil, opsIf_some, opsIf_none, condC_true, condC_false, Option.map_some, Option.bind_some, Option.getD_some, Nat.reduceLT, Bool.false_eq_true, ↓upd_same, ↓upd_ne, Nat.reduceBEq, and_true, List.getD_cons_zero, List.getD_cons_succ, List.getElem?_cons_zero, List.getElem?_cons_succ, endQ, cfg_P, cfg_tab, cfg_muts, cfg_frz, cfg_num, numOf_eq, ↓havoc_in, ↓havoc_out, List.contains_cons, List.contains_nil, Bool.or_false, Bool.or_true, Int.ofNat_lt, decide_true, decide_false, Option.some.injEq, exists_eq_left', List.lookup_cons, List.lookup_nil, tabOf_cons, tab_v, Bool.and_self, Nat.reduceEqDiff, List.cons_append, List.nil_append, List.append_nil, updO_same, List.length_cons, List.length_nil, Nat.zero_add, List.drop_zero, List.take_zero, Nat.reduceAdd, List.set_cons_zero, Nat.reduceLeDiff, nth_zero, Nat.lt_irrefl, Nat.lt_succ_self, Bool.not_false, not_false_eq_true, Nat.le_refl, cells_int, pur_int, pur_lits, cells_agg, pur_agg, DRx_bool, ↓ev_tmp, ↓ev_int, ↓ev_nils, ↓ev_func, ↓iop_move, ↓iop_assign, ↓iop_alloc, ↓iop_build, ↓iop_load, ↓iop_store, ↓iop_binOp, ↓iop_extract, extr_tuple, ↓iop_callv, nrmAll_cons, nrmAll_nil, nrm_agg, nrmL_cons, nrmL_nil, nrm_nils, nrm1_some, nrm_int, nrm_lits, nrm1_int, pickP_t, loadP_ptr, setCells_agg, storeP_ptr, b_neq, b_lss, fill_nil, fill_cons, fill1_some, buildP_eq, bldA_none, splice_eq, env0_eq, ires_eq, iresL_1, iresAll_nil, iresAll_cons, iresOne_tmp, valT_eq, pursL_cons, pursL_nil, Store.new, Store.set, ↓reduceIte, arr_eq, arrB_some, callP_eq, tsOf_eq, List.take_succ_cons, List.drop_succ_cons, List.drop_nil, List.take_nil, ↓evs_cons, ↓evs_nil, ↓evp_cons, ↓evp_nil, beq_self_eq_true, see_eq, and_false, Bool.true_eq_false, s_sanity, nth_psts, pur_psts, nth_gaps, pur_gaps, nth_pays, pur_pays, nth_tars, pur_tars, nth_snds, pur_snds, nth_uses, pur_uses, nth_rsts, pur_rsts, nth_lnks, pur_lnks, Try.f9, ty3, ty72, ty73, ty80, ty81, h56, hsp1, he]
  obtain ⟨A, C, G, om⟩ := omit_at hu (by omega) hol he
  have hsp2 := hsp l.reverse
  rw [if_pos ⟨by simp, fun u h => hu u (List.mem_reverse.1 h)⟩, om.b0, om.b1] at hsp2
  have hsp3 := hsp (l.take out ++ l.drop (out + 1))
  rw [if_pos ⟨by simp, fun u h => hu u (by
    rcases List.mem_append.1 h with h | h
    · exact List.mem_of_mem_take h
    · exact List.mem_of_mem_drop h)⟩, om.c0, om.c1] at hsp3
  rw [he, om.a1] at hsp1
  obtain ⟨_, _, _, _, _, d0, d1, e0, e1, hone, hgap, hgin, hkin⟩ := om
  have hG1 : ¬ (1 : Int) < (G.length : Int) := by omega
  have wo : IntKind.i64.wrap ((out : Int) + 1) = ((out + 1 : Nat) : Int) := by rw [wrap64 (by omega) (by omega)]; omega
  have hBL : (l.reverse.map useV).length = l.length := by rw [List.length_map, List.length_reverse]
  have hBP : pursL (l.reverse.map useV) = true := pur_uses
  have hBT : List.take l.length (l.reverse.map useV) = l.reverse.map useV := List.take_of_length_le (by rw [hBL]; exact Nat.le_refl _)
  rw [show uses l.reverse = PV.lits 8 (l.reverse.map useV) from rfl] at hsp2
  have hBle : l.length ≤ (l.reverse.map useV).length := by rw [hBL]; exact Nat.le_refl _
  generalize hBV : l.reverse.map useV = BV at *
  have hT1 : List.take (out - 0) (l.map useV) = (l.take out).map useV := by rw [Nat.sub_zero, List.map_take]
  have hT2 : List.take (l.length - (out + 1)) (List.drop (out + 1) (l.map useV)) = (l.drop (out + 1)).map useV := by
    rw [List.take_of_length_le (by simp), List.map_drop]
  have hPl : (l.take out).length ≤ 20 := by rw [List.length_take]; omega
  have hDl : (l.drop (out + 1)).length ≤ 20 := by rw [List.length_drop]; omega
  have hol2 : out ≤ l.length := by omega
  have holi : (out : Int) ≤ (l.length : Int) := by omega
  have hol3 : ((out + 1 : Nat) : Int) ≤ (l.length : Int) := by omega
  have hol4 : ¬ ((out + 1 : Nat) : Int) < 0 := by omega
  have hol5 : (0 : Int) ≤ ((out + 1 : Nat) : Int) := by omega
  generalize l.take out = P at *
  generalize l.drop (out + 1) = D at *
  have hPt : List.take P.length (P.map useV) = P.map useV := List.take_of_length_le (by rw [List.length_map]; exact Nat.le_refl _)
  have hPd : ∀ n, List.drop (P.length + n) (P.map useV) = [] := fun n => List.drop_of_length_le (by rw [List.length_map]; omega)
  have hsp3' : specOf A_period R_period H_period [PV.lits 4 [], PV.lits 3 (t.map tarV), PV.agg [I 1, PV.lits 50 []], PV.lits 8 (P.map useV ++ D.map useV), I a] = some (PV.tuple [psts C, rsts (perR [] t 1 [] (P ++ D) a), I 0]) := by
    rw [← List.map_append]; exact hsp3
  have hPDt : List.take (P.length + D.length) (P.map useV ++ D.map useV) = P.map useV ++ D.map useV := List.take_of_length_le (by rw [List.length_append, List.length_map, List.length_map]; exact Nat.le_refl _)
  have hpurPD : pursL (P.map useV ++ D.map useV) = true := by rw [← List.map_append]; exact pur_uses
  have k1 : P.length ≤ 2147483648 := by omega
  have k2 : P.length + D.length ≤ 2147483648 := by omega
  have hGc : ∀ j, j < G.length → (((G.getD j dG).1, (G.getD j dG).2.1, (G.getD j dG).2.2.1) = pk (ukey (l.getD out dU)) ∧ (G.getD j dG).2.2.2.2 < (G.getD j dG).2.2.2.1) := fun j hj => hgap _ (at_mem' hj)
  have n1 : ¬ M = M + 1 := by omega
  have n2 : ¬ M + 1 = M := by omega
  have n3 : ¬ M + 1 = 0 := by omega
  have n4 : ¬ 0 = M + 1 := by omega
  have n5 : ¬ M = 0 := m1
  have hPd0 : List.drop P.length (P.map useV) = [] := hPd 0
  refine run_env9 (X := ?X) (N := ?N) (Q := ?Q) (c := ?c) (ks := ?ks) (fun ρ st => ρ 1 = uses l ∧ ρ 8 = I out ∧ ρ 24 = gaps G ∧ ρ 26 = .ptr (M + 2) 0 0 0 ∧ ρ 159 = gaps G ∧ ρ 160 = I G.length ∧ ρ 161 = I 0 ∧ st.obj (M + 2) = some (.arr 0 8 [useV (l.getD out dU)]) ∧ st.next = M + 3) ?h1 ?h2
  case h1 =>
    intro tail
    by_cases e1' : P.length ≤ 0
    · by_cases e2' : P.length + D.length ≤ P.length
      · simp +contextual (maxSteps := 4000000) only [↓ur_skip, ↓ur_seq, ↓ur_block, ↓ur_exit, ↓ur_region, ↓ur_cond, ↓cont_seq, ↓leave_seq, ↓leave_blk, ↓leave_lp, ↓ops_consN, ↓ops_guardN, nY_move, nY_assign, nY_pick, nY_alloc, nY_build, nY_buildSlice, nY_load, nY_store, nY_binOp, nilO_tmp, nilO_int, nY_slice, nY_indexAddr, nY_extract, nY_callf, nY_callb, ↓ops_nil, opsIf_some, opsIf_none, condC_false, guardC_ff, Option.map_some, Option.map_none, Option.bind_some, Option.getD_some, Option.getD_none, Nat.reduceLT, Bool.false_eq_true, ↓upd_same, ↓upd_ne, Nat.reduceBEq, true_and, and_true, List.getD_cons_zero, List.getD_cons_succ, List.getElem?_toArray, List.getElem?_cons_zero, List.getElem?_cons_succ, cfg_P, cfg_tab, cfg_muts, cfg_frz, cfg_num, numOf_eq, List.map_nil, List.length_map, ↓havoc_in, ↓havoc_out, List.contains_cons, List.contains_nil, Bool.or_false, Bool.or_true, Int.natCast_nonneg, Int.ofNat_lt, Int.toNat_natCast, decide_false, List.lookup_cons, List.lookup_nil, tabOf_cons, tab_v, Bool.and_self, Nat.reduceEqDiff, List.cons_append, List.nil_append, List.append_nil, updO_same, updO_ne, List.length_append, List.length_cons, List.length_nil, Nat.zero_add, Nat.add_zero, List.drop_zero, List.take_zero, Nat.reduceAdd, List.replicate_zero, List.set_cons_zero, Nat.reduceMul, Nat.reduceLeDiff, nth_zero, Nat.lt_irrefl, Nat.lt_succ_self, Bool.not_false, reduceCtorEq, not_true_eq_false, not_false_eq_true, Int.reduceToNat, or_false, Nat.le_refl, cells_int, pur_int, rdC_int, rdP_int, isCell_int, pur_lits, rdC_lits, rdP_lits, isCell_lits, rdP_ref, cells_agg, pur_agg, rdP_agg, ↓ev_tmp, ↓ev_int, ↓ev_nils, ↓ev_func, ↓guardP_eq, grd_some, ↓iop_move, ↓iop_assign, ↓pick3_bool, ↓iop_pick, ↓iop_alloc, ↓iop_build, ↓iop_buildSlice, ↓iop_load, ↓iop_store, ↓iop_binOp, ↓iop_slice, intOfP_int, slcP_tf, slcP_ft, ↓iop_indexAddr, idxA_int, ↓iop_extract, extr_tuple, ↓iop_callv, ↓iop_callb, nrmAll_cons, nrmAll_nil, bi_len, lenM_none, bi_append, nrm_agg, nrmL_cons, nrmL_nil, nrm_nils, nrm1_some, nrm_int, nrm_lits, nrm_ref, nrm1_int, pickP_t, loadP_vptr, loadP_ptr, setCells_agg, storeP_ptr, indexP_lits, lenP_lits, elemsP_lits, sliceP_lits, appendP_ref, b_add, b_neq, b_lss, b_gtr, fill_nil, fill_cons, fill1_some, buildP_eq, bldA_none, bel_nil, splice_eq, env0_eq, frzP_eq, rdAll_cons, rdAll_nil, rdL_cons, rdL_nil, valT_eq, pursL_cons, pursL_nil, Store.new, Store.set, ↓reduceIte, arr_eq, arrB_some, callP_eq, tsOf_eq, bslP_eq, beq_eq_false_iff_ne, ne_eq, List.take_succ_cons, List.drop_succ_cons, List.drop_nil, List.take_nil, ↓evs_cons, ↓evs_nil, ↓evp_cons, ↓evp_nil, only_obj, without_obj, without_next, idsOf_cons, idsOf_nil, idC_ref, idC_int, idC_lits, idC_agg, idL_cons, idL_nil, idE_int, idE_lits, Int.le_refl, beq_self_eq_true, beq_iff_eq, List.all_cons, List.all_nil, see_eq, and_false, Bool.true_eq_false, Int.cast_ofNat_Int, s_dispute, nth_psts, pur_psts, nth_gaps, pur_gaps, nth_pays, pur_pays, nth_tars, pur_tars, nth_snds, pur_snds, nth_uses, pur_uses, nth_rsts, pur_rsts, nth_lnks, pur_lnks, Try.f9, ty3, ty22, ty25, ty72, ty73, ty77, ty80, ty81, h56, hsp1, hsp2, hsp3', h9, hv, m0, m1, n1, n2, n3, n4, d0, d1, e0, e1, hG1, wo, hol, hBL, hBP, hBT, hBle, hol2, holi, hol3, hol4, hol5, hT1, hT2, hPt, hPd, hPDt, hpurPD, k1, k2, e1', e2', hPd0]
        refine tail _ _ ?_
        simp +contextual (maxSteps := 4000000) only [↓upd_same, ↓upd_ne, Nat.reduceBEq, and_true, List.getD_cons_zero, List.getD_cons_succ, ↓havoc_out, List.contains_cons, List.contains_nil, Bool.or_false, updO_same, env0_eq, nth_psts, pur_psts, nth_gaps, pur_gaps, nth_pays, pur_pays, nth_tars, pur_tars, nth_snds, pur_snds, nth_uses, pur_uses, nth_rsts, pur_rsts, nth_lnks, pur_lnks, Try.f9, h56, hsp1, hsp2, hsp3', h9, hv, m0, m1, n1, n2, n3, n4, d0, d1, e0, e1, hG1, wo, hol, hBL, hBP, hBT, hBle, hol2, holi, hol3, hol4, hol5, hT1, hT2, hPt, hPd, hPDt, hpurPD, k1, k2, e1', e2', hPd0]
      · simp +contextual (maxSteps := 4000000) only [↓ur_skip, ↓ur_seq, ↓ur_block, ↓ur_exit, ↓ur_region, ↓ur_cond, ↓cont_seq, ↓leave_seq, ↓leave_blk, ↓leave_lp, ↓ops_consN, ↓ops_guardN, nY_move, nY_assign, nY_pick, nY_alloc, nY_build, nY_buildSlice, nY_load, nY_store, nY_binOp, nilO_tmp, nilO_int, nY_slice, nY_indexAddr, nY_extract, nY_callf, nY_callb, ↓ops_nil, opsIf_some, opsIf_none, condC_false, guardC_ff, Option.map_some, Option.map_none, Option.bind_some, Option.getD_some, Option.getD_none, Nat.reduceLT, Bool.false_eq_true, ↓upd_same, ↓upd_ne, Nat.reduceBEq, true_and, and_true, List.getD_cons_zero, List.getD_cons_succ, List.getElem?_toArray, List.getElem?_cons_zero, List.getElem?_cons_succ, cfg_P, cfg_tab, cfg_muts, cfg_frz, cfg_num, numOf_eq, List.map_nil, List.length_map, ↓havoc_in, ↓havoc_out, List.contains_cons, List.contains_nil, Bool.or_false, Bool.or_true, Int.natCast_nonneg, Int.ofNat_lt, Int.toNat_natCast, decide_false, List.lookup_cons, List.lookup_nil, tabOf_cons, tab_v, Bool.and_self, Nat.reduceEqDiff, List.cons_append, List.nil_append, List.append_nil, updO_same, updO_ne, List.length_append, List.length_cons, List.length_nil, Nat.zero_add, Nat.add_zero, List.drop_zero, List.take_zero, Nat.reduceAdd, List.replicate_zero, List.set_cons_zero, Nat.reduceMul, Nat.reduceLeDiff, nth_zero, Nat.lt_irrefl, Nat.lt_succ_self, Bool.not_false, reduceCtorEq, not_true_eq_false, not_false_eq_true, Int.reduceToNat, or_false, Nat.le_refl, cells_int, pur_int, rdC_int, rdP_int, isCell_int, pur_lits, rdC_lits, rdP_lits, isCell_lits, rdP_ref, cells_agg, pur_agg, rdP_agg, ↓ev_tmp, ↓ev_int, ↓ev_nils, ↓ev_func, ↓guardP_eq, grd_some, ↓iop_move, ↓iop_assign, ↓pick3_bool, ↓iop_pick, ↓iop_alloc, ↓iop_build, ↓iop_buildSlice, ↓iop_load, ↓iop_store, ↓iop_binOp, ↓iop_slice, intOfP_int, slcP_tf, slcP_ft, ↓iop_indexAddr, idxA_int, ↓iop_extract, extr_tuple, ↓iop_callv, ↓iop_callb, nrmAll_cons, nrmAll_nil, bi_len, lenM_none, bi_append, nrm_agg, nrmL_cons, nrmL_nil, nrm_nils, nrm1_some, nrm_int, nrm_lits, nrm_ref, nrm1_int, pickP_t, loadP_vptr, loadP_ptr, setCells_agg, storeP_ptr, indexP_lits, lenP_lits, elemsP_lits, sliceP_lits, appendP_ref, b_add, b_neq, b_lss, b_gtr, fill_nil, fill_cons, fill1_some, buildP_eq, bldA_none, bel_nil, splice_eq, env0_eq, frzP_eq, rdAll_cons, rdAll_nil, rdL_cons, rdL_nil, valT_eq, pursL_cons, pursL_nil, Store.new, Store.set, ↓reduceIte, arr_eq, arrB_some, callP_eq, tsOf_eq, bslP_eq, beq_eq_false_iff_ne, ne_eq, List.take_succ_cons, List.drop_succ_cons, List.drop_nil, List.take_nil, ↓evs_cons, ↓evs_nil, ↓evp_cons, ↓evp_nil, only_obj, without_obj, without_next, idsOf_cons, idsOf_nil, idC_ref, idC_int, idC_lits, idC_agg, idL_cons, idL_nil, idE_int, idE_lits, Int.le_refl, beq_self_eq_true, beq_iff_eq, List.all_cons, List.all_nil, see_eq, and_false, Bool.true_eq_false, Int.cast_ofNat_Int, s_dispute, nth_psts, pur_psts, nth_gaps, pur_gaps, nth_pays, pur_pays, nth_tars, pur_tars, nth_snds, pur_snds, nth_uses, pur_uses, nth_rsts, pur_rsts, nth_lnks, pur_lnks, Try.f9, ty3, ty22, ty25, ty72, ty73, ty77, ty80, ty81, h56, hsp1, hsp2, hsp3', h9, hv, m0, m1, n1, n2, n3, n4, d0, d1, e0, e1, hG1, wo, hol, hBL, hBP, hBT, hBle, hol2, holi, hol3, hol4, hol5, hT1, hT2, hPt, hPd, hPDt, hpurPD, k1, k2, e1', e2', hPd0]
        refine tail _ _ ?_
        simp +contextual (maxSteps := 4000000) only [↓upd_same, ↓upd_ne, Nat.reduceBEq, and_true, List.getD_cons_zero, List.getD_cons_succ, ↓havoc_out, List.contains_cons, List.contains_nil, Bool.or_false, updO_same, env0_eq, nth_psts, pur_psts, nth_gaps, pur_gaps, nth_pays, pur_pays, nth_tars, pur_tars, nth_snds, pur_snds, nth_uses, pur_uses, nth_rsts, pur_rsts, nth_lnks, pur_lnks, Try.f9, h56, hsp1, hsp2, hsp3', h9, hv, m0, m1, n1, n2, n3, n4, d0, d1, e0, e1, hG1, wo, hol, hBL, hBP, hBT, hBle, hol2, holi, hol3, hol4, hol5, hT1, hT2, hPt, hPd, hPDt, hpurPD, k1, k2, e1', e2', hPd0]
    · by_cases e2' : P.length + D.length ≤ P.length
      · simp +contextual (maxSteps := 4000000) only [↓ur_skip, ↓ur_seq, ↓ur_block, ↓ur_exit, ↓ur_region, ↓ur_cond, ↓cont_seq, ↓leave_seq, ↓leave_blk, ↓leave_lp, ↓ops_consN, ↓ops_guardN, nY_move, nY_assign, nY_pick, nY_alloc, nY_build, nY_buildSlice, nY_load, nY_store, nY_binOp, nilO_tmp, nilO_int, nY_slice, nY_indexAddr, nY_extract, nY_callf, nY_callb, ↓ops_nil, opsIf_some, opsIf_none, condC_false, guardC_ff, Option.map_some, Option.map_none, Option.bind_some, Option.getD_some, Option.getD_none, Nat.reduceLT, Bool.false_eq_true, ↓upd_same, ↓upd_ne, Nat.reduceBEq, true_and, and_true, List.getD_cons_zero, List.getD_cons_succ, List.getElem?_toArray, List.getElem?_cons_zero, List.getElem?_cons_succ, cfg_P, cfg_tab, cfg_muts, cfg_frz, cfg_num, numOf_eq, List.map_nil, List.length_map, ↓havoc_in, ↓havoc_out, List.contains_cons, List.contains_nil, Bool.or_false, Bool.or_true, Int.natCast_nonneg, Int.ofNat_lt, Int.toNat_natCast, decide_false, List.lookup_cons, List.lookup_nil, tabOf_cons, tab_v, Bool.and_self, Nat.reduceEqDiff, List.cons_append, List.nil_append, List.append_nil, updO_same, updO_ne, List.length_append, List.length_cons, List.length_nil, Nat.zero_add, Nat.add_zero, List.drop_zero, List.take_zero, Nat.reduceAdd, List.replicate_zero, List.set_cons_zero, Nat.reduceMul, Nat.reduceLeDiff, nth_zero, Nat.lt_irrefl, Nat.lt_succ_self, Bool.not_false, reduceCtorEq, not_true_eq_false, not_false_eq_true, Int.reduceToNat, or_false, Nat.le_refl, cells_int, pur_int, rdC_int, rdP_int, isCell_int, pur_lits, rdC_lits, rdP_lits, isCell_lits, rdP_ref, cells_agg, pur_agg, rdP_agg, ↓ev_tmp, ↓ev_int, ↓ev_nils, ↓ev_func, ↓guardP_eq, grd_some, ↓iop_move, ↓iop_assign, ↓pick3_bool, ↓iop_pick, ↓iop_alloc, ↓iop_build, ↓iop_buildSlice, ↓iop_load, ↓iop_store, ↓iop_binOp, ↓iop_slice, intOfP_int, slcP_tf, slcP_ft, ↓iop_indexAddr, idxA_int, ↓iop_extract, extr_tuple, ↓iop_callv, ↓iop_callb, nrmAll_cons, nrmAll_nil, bi_len, lenM_none, bi_append, nrm_agg, nrmL_cons, nrmL_nil, nrm_nils, nrm1_some, nrm_int, nrm_lits, nrm_ref, nrm1_int, pickP_t, loadP_vptr, loadP_ptr, setCells_agg, storeP_ptr, indexP_lits, lenP_lits, elemsP_lits, sliceP_lits, appendP_ref, b_add, b_neq, b_lss, b_gtr, fill_nil, fill_cons, fill1_some, buildP_eq, bldA_none, bel_nil, splice_eq, env0_eq, frzP_eq, rdAll_cons, rdAll_nil, rdL_cons, rdL_nil, valT_eq, pursL_cons, pursL_nil, Store.new, Store.set, ↓reduceIte, arr_eq, arrB_some, callP_eq, tsOf_eq, bslP_eq, beq_eq_false_iff_ne, ne_eq, List.take_succ_cons, List.drop_succ_cons, List.drop_nil, List.take_nil, ↓evs_cons, ↓evs_nil, ↓evp_cons, ↓evp_nil, only_obj, without_obj, without_next, idsOf_cons, idsOf_nil, idC_ref, idC_int, idC_lits, idC_agg, idL_cons, idL_nil, idE_int, idE_lits, Int.le_refl, beq_self_eq_true, beq_iff_eq, List.all_cons, List.all_nil, see_eq, and_false, Bool.true_eq_false, Int.cast_ofNat_Int, s_dispute, nth_psts, pur_psts, nth_gaps, pur_gaps, nth_pays, pur_pays, nth_tars, pur_tars, nth_snds, pur_snds, nth_uses, pur_uses, nth_rsts, pur_rsts, nth_lnks, pur_lnks, Try.f9, ty3, ty22, ty25, ty72, ty73, ty77, ty80, ty81, h56, hsp1, hsp2, hsp3', h9, hv, m0, m1, n1, n2, n3, n4, d0, d1, e0, e1, hG1, wo, hol, hBL, hBP, hBT, hBle, hol2, holi, hol3, hol4, hol5, hT1, hT2, hPt, hPd, hPDt, hpurPD, k1, k2, e1', e2', hPd0]
        refine tail _ _ ?_
        simp +contextual (maxSteps := 4000000) only [↓upd_same, ↓upd_ne, Nat.reduceBEq, and_true, List.getD_cons_zero, List.getD_cons_succ, ↓havoc_out, List.contains_cons, List.contains_nil, Bool.or_false, updO_same, env0_eq, nth_psts, pur_psts, nth_gaps, pur_gaps, nth_pays, pur_pays, nth_tars, pur_tars, nth_snds, pur_snds, nth_uses, pur_uses, nth_rsts, pur_rsts, nth_lnks, pur_lnks, Try.f9, h56, hsp1, hsp2, hsp3', h9, hv, m0, m1, n1, n2, n3, n4, d0, d1, e0, e1, hG1, wo, hol, hBL, hBP, hBT, hBle, hol2, holi, hol3, hol4, hol5, hT1, hT2, hPt, hPd, hPDt, hpurPD, k1, k2, e1', e2', hPd0]
      · simp +contextual (maxSteps := 4000000) only [↓ur_skip, ↓ur_seq, ↓ur_block, ↓ur_exit, ↓ur_region, ↓ur_cond, ↓cont_seq, ↓leave_seq, ↓leave_blk, ↓leave_lp, ↓ops_consN, ↓ops_guardN, nY_move, nY_assign, nY_pick, nY_alloc, nY_build, nY_buildSlice, nY_load, nY_store, nY_binOp, nilO_tmp, nilO_int, nY_slice, nY_indexAddr, nY_extract, nY_callf, nY_callb, ↓ops_nil, opsIf_some, opsIf_none, condC_false, guardC_ff, Option.map_some, Option.map_none, Option.bind_some, Option.getD_some, Option.getD_none, Nat.reduceLT, Bool.false_eq_true, ↓upd_same, ↓upd_ne, Nat.reduceBEq, true_and, and_true, List.getD_cons_zero, List.getD_cons_succ, List.getElem?_toArray, List.getElem?_cons_zero, List.getElem?_cons_succ, cfg_P, cfg_tab, cfg_muts, cfg_frz, cfg_num, numOf_eq, List.map_nil, List.length_map, ↓havoc_in, ↓havoc_out, List.contains_cons, List.contains_nil, Bool.or_false, Bool.or_true, Int.natCast_nonneg, Int.ofNat_lt, Int.toNat_natCast, decide_false, List.lookup_cons, List.lookup_nil, tabOf_cons, tab_v, Bool.and_self, Nat.reduceEqDiff, List.cons_append, List.nil_append, List.append_nil, updO_same, updO_ne, List.length_append, List.length_cons, List.length_nil, Nat.zero_add, Nat.add_zero, List.drop_zero, List.take_zero, Nat.reduceAdd, List.replicate_zero, List.set_cons_zero, Nat.reduceMul, Nat.reduceLeDiff, nth_zero, Nat.lt_irrefl, Nat.lt_succ_self, Bool.not_false, reduceCtorEq, not_true_eq_false, not_false_eq_true, Int.reduceToNat, or_false, Nat.le_refl, cells_int, pur_int, rdC_int, rdP_int, isCell_int, pur_lits, rdC_lits, rdP_lits, isCell_lits, rdP_ref, cells_agg, pur_agg, rdP_agg, ↓ev_tmp, ↓ev_int, ↓ev_nils, ↓ev_func, ↓guardP_eq, grd_some, ↓iop_move, ↓iop_assign, ↓pick3_bool, ↓iop_pick, ↓iop_alloc, ↓iop_build, ↓iop_buildSlice, ↓iop_load, ↓iop_store, ↓iop_binOp, ↓iop_slice, intOfP_int, slcP_tf, slcP_ft, ↓iop_indexAddr, idxA_int, ↓iop_extract, extr_tuple, ↓iop_callv, ↓iop_callb, nrmAll_cons, nrmAll_nil, bi_len, lenM_none, bi_append, nrm_agg, nrmL_cons, nrmL_nil, nrm_nils, nrm1_some, nrm_int, nrm_lits, nrm_ref, nrm1_int, pickP_t, loadP_vptr, loadP_ptr, setCells_agg, storeP_ptr, indexP_lits, lenP_lits, elemsP_lits, sliceP_lits, appendP_ref, b_add, b_neq, b_lss, b_gtr, fill_nil, fill_cons, fill1_some, buildP_eq, bldA_none, bel_nil, splice_eq, env0_eq, frzP_eq, rdAll_cons, rdAll_nil, rdL_cons, rdL_nil, valT_eq, pursL_cons, pursL_nil, Store.new, Store.set, ↓reduceIte, arr_eq, arrB_some, callP_eq, tsOf_eq, bslP_eq, beq_eq_false_iff_ne, ne_eq, List.take_succ_cons, List.drop_succ_cons, List.drop_nil, List.take_nil, ↓evs_cons, ↓evs_nil, ↓evp_cons, ↓evp_nil, only_obj, without_obj, without_next, idsOf_cons, idsOf_nil, idC_ref, idC_int, idC_lits, idC_agg, idL_cons, idL_nil, idE_int, idE_lits, Int.le_refl, beq_self_eq_true, beq_iff_eq, List.all_cons, List.all_nil, see_eq, and_false, Bool.true_eq_false, Int.cast_ofNat_Int, s_dispute, nth_psts, pur_psts, nth_gaps, pur_gaps, nth_pays, pur_pays, nth_tars, pur_tars, nth_snds, pur_snds, nth_uses, pur_uses, nth_rsts, pur_rsts, nth_lnks, pur_lnks, Try.f9, ty3, ty22, ty25, ty72, ty73, ty77, ty80, ty81, h56, hsp1, hsp2, hsp3', h9, hv, m0, m1, n1, n2, n3, n4, d0, d1, e0, e1, hG1, wo, hol, hBL, hBP, hBT, hBle, hol2, holi, hol3, hol4, hol5, hT1, hT2, hPt, hPd, hPDt, hpurPD, k1, k2, e1', e2', hPd0]
        refine tail _ _ ?_
        simp +contextual (maxSteps := 4000000) only [↓upd_same, ↓upd_ne, Nat.reduceBEq, and_true, List.getD_cons_zero, List.getD_cons_succ, ↓havoc_out, List.contains_cons, List.contains_nil, Bool.or_false, updO_same, env0_eq, nth_psts, pur_psts, nth_gaps, pur_gaps, nth_pays, pur_pays, nth_tars, pur_tars, nth_snds, pur_snds, nth_uses, pur_uses, nth_rsts, pur_rsts, nth_lnks, pur_lnks, Try.f9, h56, hsp1, hsp2, hsp3', h9, hv, m0, m1, n1, n2, n3, n4, d0, d1, e0, e1, hG1, wo, hol, hBL, hBP, hBT, hBle, hol2, holi, hol3, hol4, hol5, hT1, hT2, hPt, hPd, hPDt, hpurPD, k1, k2, e1', e2', hPd0]
  case h2 =>
    rintro ρ0 ⟨ob0, M0⟩ ⟨r1, r8, r24, r26, r159, r160, r161, o0, hM0⟩
    dsimp only at o0 hM0
    subst hM0
    have hGn : G.length ≤ 1 := hone
    generalize hu0 : l.getD out dU = u at *
    refine loop_cnt [6, 28, 29, 30, 161, 162, 163, 164, 165, 166, 167, 168, 169, 170, 171, 172, 173, 174, 175, 176, 177, 178, 179, 180, 181, 182, 183, 184, 185, 186, 187, 188, 189, 190, 191, 192, 193, 194, 195, 196, 197, 198, 199, 200, 201] G.length (fun j ρ st' => ρ 161 = I j ∧ st'.obj (M + 2) = some (.arr 0 8 [useV u]) ∧ M + 2 < st'.next) (.refl _) ?_ ?_
    · exact ⟨r161, o0, by simp⟩
    rintro j ρ1 ⟨ob1, M1⟩ hj ⟨h161, p0, hM1⟩
    dsimp only at p0 hM1
    have q1 : ¬ M + 2 = M1 := by omega
    have q2 : ¬ M1 = M + 2 := by omega
    by_cases hlj : j < G.length
    · have hwj := wrapM (k := j) (by omega)
      obtain ⟨g1, g2⟩ := hGc j hlj
      generalize hz : G.getD j dG = z at *
      unfold kin' ukey at hkin
      dsimp only at hkin
      have wc : IntKind.i64.wrap (12 + u.2.2.1) = 12 + u.2.2.1 := wrap64 (by omega) (by omega)
      have g3 : ¬ z.2.2.2.1 ≤ z.2.2.2.2 := by omega
      have lt1 : M + 2 < M1 + 1 := by omega
      unfold pk ukey at g1
      dsimp only at g1
      by_cases c5 : u.1 = 5
      · rw [if_pos c5] at g1
        simp only [Prod.mk.injEq] at g1
        obtain ⟨z1, z2, z3⟩ := g1
        rw [c5] at z3
        simp +contextual (maxSteps := 4000000) only [↓ur_skip, ↓ur_seq, ↓ur_block, ↓ur_region, ↓ur_cond, ↓cont_seq, ↓cont_blk, ↓cont_lp, ↓ops_consN, ↓ops_guardN, nY_move, nY_assign, nY_pick, nY_alloc, nY_load, nY_store, nY_binOp, nilO_tmp, nilO_int, nY_fieldAddr, nY_indexAddr, ↓ops_nil, opsIf_some, opsIf_none, condC_true, condC_false, guardC_ff, Option.map_some, Option.bind_some, Option.getD_some, Nat.reduceLT, Bool.false_eq_true, ↓upd_same, ↓upd_ne, Nat.reduceBEq, and_true, List.getElem?_toArray, List.getElem?_cons_zero, List.getElem?_cons_succ, cfg_P, cfg_frz, cfg_num, numOf_eq, List.length_map, ↓havoc_in, ↓havoc_out, agree_upd, agree_havoc, List.contains_cons, List.contains_nil, Bool.or_false, Bool.or_true, Int.natCast_nonneg, Int.ofNat_lt, Int.toNat_natCast, decide_true, decide_false, List.nil_append, List.append_nil, updO_same, updO_ne, List.length_cons, List.length_nil, Nat.zero_add, Nat.add_zero, List.drop_zero, List.take_zero, Nat.reduceAdd, List.set_cons_zero, nth_zero, Nat.lt_succ_self, Bool.not_false, not_true_eq_false, not_false_eq_true, Nat.le_refl, cells_agg, ↓ev_tmp, ↓ev_int, ↓guardP_eq, grd_some, ↓iop_move, ↓iop_assign, ↓pick3_bool, ↓iop_pick, ↓iop_alloc, ↓iop_load, ↓iop_store, ↓iop_binOp, ↓iop_fieldAddr, ↓iop_indexAddr, idxA_int, pickP_f, pickP_t, loadP_vptr, loadP_ptr, setCells_agg, storeP_ptr, fieldP_ptr, indexP_lits, b_add, b_eql, b_neq, b_lss, b_leq, splice_eq, Store.new, Store.set, ↓reduceIte, arr_eq, arrB_some, beq_eq_false_iff_ne, ne_eq, List.take_succ_cons, List.drop_succ_cons, List.drop_nil, List.take_nil, beq_self_eq_true, see_eq, nth_psts, pur_psts, nth_gaps, pur_gaps, nth_pays, pur_pays, nth_tars, pur_tars, nth_snds, pur_snds, nth_uses, pur_uses, nth_rsts, pur_rsts, nth_lnks, pur_lnks, Try.f9, ty3, ty25, ty64, ty77, h161, r26, r159, r160, p0, q1, q2, hlj, hz, hwj, c5, z1, z2, z3, wc, g3, lt1]
      · rw [if_neg c5] at g1
        simp only [Prod.mk.injEq] at g1
        obtain ⟨z1, z2, z3⟩ := g1
        simp +contextual (maxSteps := 4000000) only [↓ur_skip, ↓ur_seq, ↓ur_block, ↓ur_region, ↓ur_cond, ↓cont_seq, ↓cont_blk, ↓cont_lp, ↓ops_consN, ↓ops_guardN, nY_move, nY_assign, nY_pick, nY_alloc, nY_load, nY_store, nY_binOp, nilO_tmp, nilO_int, nY_fieldAddr, nY_indexAddr, ↓ops_nil, opsIf_some, opsIf_none, condC_true, condC_false, guardC_ff, Option.map_some, Option.bind_some, Option.getD_some, Nat.reduceLT, Bool.false_eq_true, ↓upd_same, ↓upd_ne, Nat.reduceBEq, and_true, List.getElem?_toArray, List.getElem?_cons_zero, List.getElem?_cons_succ, cfg_P, cfg_frz, cfg_num, numOf_eq, List.length_map, ↓havoc_in, ↓havoc_out, agree_upd, agree_havoc, List.contains_cons, List.contains_nil, Bool.or_false, Bool.or_true, Int.natCast_nonneg, Int.ofNat_lt, Int.toNat_natCast, decide_true, decide_false, List.nil_append, List.append_nil, updO_same, updO_ne, List.length_cons, List.length_nil, Nat.zero_add, Nat.add_zero, List.drop_zero, List.take_zero, Nat.reduceAdd, List.set_cons_zero, nth_zero, Nat.lt_succ_self, Bool.not_false, not_true_eq_false, not_false_eq_true, Nat.le_refl, cells_agg, ↓ev_tmp, ↓ev_int, ↓guardP_eq, grd_some, ↓iop_move, ↓iop_assign, ↓pick3_bool, ↓iop_pick, ↓iop_alloc, ↓iop_load, ↓iop_store, ↓iop_binOp, ↓iop_fieldAddr, ↓iop_indexAddr, idxA_int, pickP_f, pickP_t, loadP_vptr, loadP_ptr, setCells_agg, storeP_ptr, fieldP_ptr, indexP_lits, b_add, b_eql, b_neq, b_lss, b_leq, splice_eq, Store.new, Store.set, ↓reduceIte, arr_eq, arrB_some, beq_eq_false_iff_ne, ne_eq, List.take_succ_cons, List.drop_succ_cons, List.drop_nil, List.take_nil, beq_self_eq_true, see_eq, nth_psts, pur_psts, nth_gaps, pur_gaps, nth_pays, pur_pays, nth_tars, pur_tars, nth_snds, pur_snds, nth_uses, pur_uses, nth_rsts, pur_rsts, nth_lnks, pur_lnks, Try.f9, ty3, ty25, ty64, ty77, h161, r26, r159, r160, p0, q1, q2, hlj, hz, hwj, c5, z1, z2, z3, wc, g3, lt1]
    · have e : j = G.length := by omega
      subst e
      simp +contextual (maxSteps := 4000000) only [↓ur_seq, ↓ur_exit, ↓ur_ret, ↓ur_region, ↓ur_cond, ↓cont_seq, ↓leave_seq, ↓leave_blk, ↓leave_lp, ↓done_nil, ↓ops_consN, nY_assign, nY_binOp, nilO_tmp, nY_callf, ↓ops_nil, opsIf_some, condC_false, Option.map_some, Option.bind_some, Option.getD_some, Nat.reduceLT, Bool.false_eq_true, ↓upd_same, Nat.reduceBEq, and_true, endQ, cfg_P, cfg_tab, cfg_muts, cfg_frz, ↓havoc_in, ↓havoc_out, List.contains_cons, List.contains_nil, Bool.or_false, Bool.or_true, Int.ofNat_lt, decide_false, Option.some.injEq, exists_eq_left', tabOf_cons, tab_v, List.append_nil, Nat.reduceAdd, Nat.lt_irrefl, Nat.lt_succ_self, Bool.not_false, DRx_bool, ↓ev_tmp, ↓ev_func, ↓iop_assign, ↓iop_binOp, ↓iop_callv, nrmAll_nil, b_lss, ires_eq, iresL_1, iresAll_nil, iresAll_cons, iresOne_tmp, valT_eq, pursL_nil, ↓reduceIte, callP_eq, tsOf_eq, ↓evs_nil, beq_self_eq_true, and_false, Bool.true_eq_false, s_sanity, nth_psts, pur_psts, nth_gaps, pur_gaps, nth_pays, pur_pays, nth_tars, pur_tars, nth_snds, pur_snds, nth_uses, pur_uses, nth_rsts, pur_rsts, nth_lnks, pur_lnks, Try.f9, h161, r160]
end Sim
