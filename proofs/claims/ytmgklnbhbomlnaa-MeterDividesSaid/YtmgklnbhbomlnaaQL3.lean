/- What functions of this seat compute, by values: contracts (lemmas of the statement's proof, under the conditions that each names). -/
import Derived.Test.YtmgklnbhbomlnaaQZ
namespace Sim
open Go Go.Proofs
set_option maxRecDepth 10000
set_option maxHeartbeats 4000000
set_option linter.unusedVariables false
set_option linter.unusedSimpArgs false
attribute [local congr] opsIf_congr condC_congr guardC_congr grd_congr pick3_congr obind_congr omap_congr nilC_congr opsV_congr
def reM (o : Option IObj) (st : Store) (k z : Nat) (l : List PV) (n : Nat) : Option (PV × Store) :=
  match o with
  | some (.arr g _ _) => some (.ref (k - 1) (g + 1) 0 n, st.set (k - 1) (.arr (g + 1) z l))
  | _ => none
def rePM (o : Option IObj) (st : Store) (k z : Nat) (e : PV) : Option (PV × Store) :=
  match o with
  | some (.arr g _ _) => some (.ptr (k - 1) (g + 1) 0 0, st.set (k - 1) (.arr (g + 1) z [e]))
  | _ => none
theorem re_arr' {st : Store} {k z n : Nat} {l : List PV} : st.re k z l n = reM (st.obj (k - 1)) st k z l n := nrfl rfl
theorem reP_arr' {st : Store} {k z : Nat} {e : PV} : st.reP k z e = rePM (st.obj (k - 1)) st k z e := nrfl rfl
theorem reM_arr {st : Store} {k z n g z0 : Nat} {l es : List PV} : reM (some (.arr g z0 es)) st k z l n = some (.ref (k - 1) (g + 1) 0 n, st.set (k - 1) (.arr (g + 1) z l)) := nrfl rfl
theorem rePM_arr {st : Store} {k z g z0 : Nat} {e : PV} {es : List PV} : rePM (some (.arr g z0 es)) st k z e = some (.ptr (k - 1) (g + 1) 0 0, st.set (k - 1) (.arr (g + 1) z [e])) := nrfl rfl
theorem mchk_of {t : List Tar} {u : Use} (h : UseOK t u) : mchkE t [u] = 0 := by
  have h12 := h.len
  unfold mchkE
  rw [if_neg (by omega), if_neg (fun g => g h.tar), if_neg (by simp)]
  show useE t.length u = 0
  unfold useE
  rw [if_neg (fun g => g h.par), if_neg (fun g => g h.keep), if_neg (fun g => g h.cnt)]
theorem chg_of {t : List Tar} {hn : Int} {ls : List Lnk} {u : Use} (h : UseOK t u) (h2 : ¬ u.1 = 2) : chgE t hn ls u = 0 ∧ chgM t hn ls u = feeN t u := by
  have e : chgE t hn ls u = 0 := by unfold chgE; rw [if_neg (fun g => g (mchk_of h)), if_neg h2]
  refine ⟨e, ?_⟩
  unfold chgM
  rw [if_pos e, if_neg h2]
/-- A part of a use of bytes that are kept. -/
theorem part_ok {t : List Tar} {u : Use} {b fr to : Int} (h : UseOK t u) (k1 : u.1 = 1) (hb : 0 ≤ b ∧ b ≤ 16777216) (hf : 0 ≤ fr ∧ fr ≤ to) (ht : to ≤ 1000000) : UseOK t (1, u.2.1, u.2.2.1, b, fr, to, u.2.2.2.2.2.2.1, u.2.2.2.2.2.2.2) :=
  ⟨h.tar, h.len, by have := h.par; rw [k1] at this; exact this, fun _ => ⟨hb, ⟨by dsimp only; omega, ht⟩, hf⟩, by
    have := h.cnt
    exact ⟨fun g => by simp at g, fun g => by simp at g, fun g => by simp at g⟩⟩
theorem fee_keep {t : List Tar} {u : Use} {b fr to : Int} : feeN t (1, u.2.1, u.2.2.1, b, fr, to, u.2.2.2.2.2.2.1, u.2.2.2.2.2.2.2) = b * (to - fr) * (t.getD u.2.1.toNat dT).1 := by
  unfold feeN; rw [if_pos rfl]
theorem cut_time {b f m t k : Int} : b * (m - f) * k + b * (t - m) * k = b * (t - f) * k := by
  rw [← Int.add_mul, ← Int.mul_add, show m - f + (t - m) = t - f by omega]
theorem cut_bytes {b x d k : Int} : x * d * k + (b - x) * d * k = b * d * k := by
  rw [← Int.add_mul, ← Int.add_mul, show x + (b - x) = b by omega]
def C_law3 : Prop := ∀ (t : List Tar) (hn : Int) (ls : List Lnk) (u : Use) (a : Int) (b : Int) (h : (0 ≤ a ∧ a ≤ 4294967295) ∧ (0 ≤ b ∧ b ≤ 4294967295)) , VC Try.prog 5 [tars t, .agg [I hn, lnks ls], useV u, .agg [.int .u32 a, .int .u32 b]] (B true)
theorem c_law3 : C_law3 := by
  rintro t hn ls u a b ⟨⟨a0, a1⟩, b0, b1⟩
  refine vc_ofR mixed (l := [e_sanity, e_charge, e_cost, e_fits]) ((eok_cons o_sanity (eok_cons o_charge (eok_cons o_cost (eok_cons o_fits eok_nil))))) [] [67, 68, 69, 70, 100011, 200012, 300013, 500014] 4 Try.func5 rfl (by decide +kernel) (N := 168) rfl (by simp) rfl (by kernel_rfl) fun hs => ?_
  simp only [smallL, PV.small, List.length_map, and_true, true_and] at hs
  by_cases c1 : 10 < ls.length
  · have c1i : (10 : Int) < (ls.length : Int) := by omega
    simp +contextual (maxSteps := 4000000) only [↓ur_seq, ↓ur_ret, ↓ur_region, ↓ur_cond, ↓cont_seq, ↓done_nil, ↓done_seq, ↓ops_consN, ↓ops_guardN, nY_move, nY_assign, nY_pick, nY_box, nY_load, nY_binOp, nilO_int, nY_fieldAddr, nY_callf, nY_callb, ↓ops_nil, opsIf_some, condC_true, guardC_tf, Option.map_some, Option.bind_some, Option.getD_some, Nat.reduceLT, Bool.false_eq_true, ↓upd_same, ↓upd_ne, Nat.reduceBEq, and_true, List.getD_cons_zero, List.getD_cons_succ, List.getElem?_toArray, List.getElem?_cons_zero, List.getElem?_cons_succ, endQ, cfg_P, cfg_tab, cfg_muts, cfg_frz, List.length_map, List.contains_cons, List.contains_nil, Bool.or_false, decide_true, Option.some.injEq, exists_eq_left', tabOf_cons, tab_v, List.append_nil, List.length_cons, List.length_nil, Nat.zero_add, Nat.reduceAdd, Nat.lt_succ_self, Bool.not_false, cells_agg, DRx_bool, ↓ev_tmp, ↓ev_int, ↓ev_bool, ↓ev_func, ↓guardP_eq, grd_some, ↓iop_move, ↓iop_assign, ↓pick3_bool, ↓iop_pick, ↓iop_box, ↓iop_load, ↓iop_binOp, ↓iop_fieldAddr, ↓iop_callv, ↓iop_callb, nrmAll_nil, bi_len, lenM_none, pickP_f, loadP_vptr, fieldP_vptr, lenP_lits, b_gtr, env0_eq, ires_eq, iresL_1, iresAll_nil, iresAll_cons, iresOne_tmp, valT_eq, pursL_nil, ↓reduceIte, callP_eq, tsOf_eq, boxP_eq, ↓evs_cons, ↓evs_nil, see_eq, and_false, Bool.true_eq_false, e_sanity, s_sanity, e_charge, e_cost, e_fits, nth_psts, pur_psts, nth_tars, pur_tars, nth_snds, pur_snds, nth_uses, pur_uses, nth_rsts, pur_rsts, nth_lnks, pur_lnks, Try.f5, ty24, ty26, c1, c1i]
  have c1i : ¬ (10 : Int) < (ls.length : Int) := by omega
  by_cases c2 : 10 < u.2.2.2.2.2.2.2.length
  · have c2i : (10 : Int) < (u.2.2.2.2.2.2.2.length : Int) := by omega
    simp +contextual (maxSteps := 4000000) only [↓ur_seq, ↓ur_ret, ↓ur_region, ↓ur_cond, ↓cont_seq, ↓done_nil, ↓done_seq, ↓ops_consN, ↓ops_guardN, nY_move, nY_assign, nY_pick, nY_box, nY_load, nY_binOp, nilO_int, nY_fieldAddr, nY_callf, nY_callb, ↓ops_nil, opsIf_some, condC_true, guardC_ff, Option.map_some, Option.bind_some, Option.getD_some, Nat.reduceLT, Bool.false_eq_true, ↓upd_same, ↓upd_ne, Nat.reduceBEq, and_true, List.getD_cons_zero, List.getD_cons_succ, List.getElem?_toArray, List.getElem?_cons_zero, List.getElem?_cons_succ, endQ, cfg_P, cfg_tab, cfg_muts, cfg_frz, List.length_map, List.contains_cons, List.contains_nil, Bool.or_false, decide_true, decide_false, Option.some.injEq, exists_eq_left', tabOf_cons, tab_v, List.append_nil, List.length_cons, List.length_nil, Nat.zero_add, Nat.reduceAdd, Nat.lt_succ_self, Bool.not_false, cells_agg, DRx_bool, ↓ev_tmp, ↓ev_int, ↓ev_bool, ↓ev_func, ↓guardP_eq, grd_some, ↓iop_move, ↓iop_assign, ↓pick3_bool, ↓iop_pick, ↓iop_box, ↓iop_load, ↓iop_binOp, ↓iop_fieldAddr, ↓iop_callv, ↓iop_callb, nrmAll_nil, bi_len, lenM_none, pickP_f, loadP_vptr, fieldP_vptr, lenP_lits, b_gtr, env0_eq, ires_eq, iresL_1, iresAll_nil, iresAll_cons, iresOne_tmp, valT_eq, pursL_nil, ↓reduceIte, callP_eq, tsOf_eq, boxP_eq, ↓evs_cons, ↓evs_nil, see_eq, and_false, Bool.true_eq_false, e_sanity, s_sanity, e_charge, e_cost, e_fits, nth_psts, pur_psts, nth_tars, pur_tars, nth_snds, pur_snds, nth_uses, pur_uses, nth_rsts, pur_rsts, nth_lnks, pur_lnks, Try.f5, ty24, ty26, ty32, ty34, c1, c1i, c2, c2i]
  have c2i : ¬ (10 : Int) < (u.2.2.2.2.2.2.2.length : Int) := by omega
  have hu : useP hn ls u := by unfold useP; omega
  by_cases he : chgE t hn ls u = 0
  case neg =>
    generalize hE : chgE t hn ls u = E at *
    simp +contextual (maxSteps := 4000000) only [↓ur_skip, ↓ur_seq, ↓ur_ret, ↓ur_region, ↓ur_cond, ↓cont_seq, ↓done_nil, ↓done_seq, ↓ops_consN, ↓ops_guardN, nY_move, nY_assign, nY_pick, nY_box, nY_load, nY_binOp, nilO_int, nY_fieldAddr, nY_extract, nY_callf, nY_callb, ↓ops_nil, opsIf_some, condC_true, condC_false, guardC_ff, Option.map_some, Option.bind_some, Option.getD_some, Nat.reduceLT, Bool.false_eq_true, ↓upd_same, ↓upd_ne, Nat.reduceBEq, and_true, List.getD_cons_zero, List.getD_cons_succ, List.getElem?_toArray, List.getElem?_cons_zero, List.getElem?_cons_succ, endQ, cfg_P, cfg_tab, cfg_muts, cfg_frz, List.length_map, List.contains_cons, List.contains_nil, Bool.or_false, decide_true, decide_false, Option.some.injEq, exists_eq_left', List.lookup_cons, List.lookup_nil, tabOf_cons, tab_v, Bool.and_self, Nat.reduceEqDiff, List.nil_append, List.append_nil, List.length_cons, List.length_nil, Nat.zero_add, List.drop_zero, Nat.reduceAdd, Nat.lt_succ_self, Bool.not_false, not_false_eq_true, Nat.le_refl, pur_int, pur_lits, cells_agg, pur_agg, DRx_bool, ↓ev_tmp, ↓ev_int, ↓ev_bool, ↓ev_func, ↓guardP_eq, grd_some, ↓iop_move, ↓iop_assign, ↓pick3_bool, ↓iop_pick, ↓iop_box, ↓iop_load, ↓iop_binOp, ↓iop_fieldAddr, ↓iop_extract, extr_tuple, ↓iop_callv, ↓iop_callb, nrmAll_cons, nrmAll_nil, bi_len, lenM_none, nrm_agg, nrmL_cons, nrmL_nil, nrm_lits, nrm1_int, nrm1_lits, pickP_f, pickP_t, loadP_vptr, fieldP_vptr, lenP_lits, b_neq, b_gtr, env0_eq, ires_eq, iresL_1, iresAll_nil, iresAll_cons, iresOne_tmp, valT_eq, pursL_cons, pursL_nil, ↓reduceIte, callP_eq, tsOf_eq, boxP_eq, List.take_succ_cons, List.take_nil, ↓evs_cons, ↓evs_nil, beq_self_eq_true, see_eq, and_false, Bool.true_eq_false, e_sanity, s_sanity, e_charge, s_charge, e_cost, e_fits, nth_psts, pur_psts, nth_tars, pur_tars, nth_snds, pur_snds, nth_uses, pur_uses, nth_rsts, pur_rsts, nth_lnks, pur_lnks, Try.f5, ty23, ty24, ty26, ty32, ty34, c1, c1i, c2, c2i, hu, hE, he]
  have ok := chg_ok he
  have hle := chg_le hu he
  have hcg : specOf A_charge R_charge H_charge [tars t, .agg [I hn, lnks ls], useV u] = some (.tuple [I (chgM t hn ls u), I (chgE t hn ls u)]) := by
    rw [s_charge]; simp [hu]
  rw [he] at hcg
  by_cases k1 : u.1 = 1
  · have hM := (chg_of (hn := hn) (ls := ls) ok (by omega)).2
    have hkp := ok.keep k1
    unfold inM at hkp
    obtain ⟨⟨q1, q2⟩, ⟨q3, q4⟩, q5, q6⟩ := hkp
    have hfee : feeN t u = u.2.2.2.1 * (u.2.2.2.2.2.1 - u.2.2.2.2.1) * (t.getD u.2.1.toNat dT).1 := by unfold feeN; rw [if_pos k1]
    rw [hfee] at hM
    have hD0 : 0 < u.2.2.2.2.2.1 - u.2.2.2.2.1 + 1 := by omega
    have r0 := Int.tmod_nonneg (u.2.2.2.2.2.1 - u.2.2.2.2.1 + 1) a0
    have r1 := Int.tmod_lt_of_pos a hD0
    have s0 := Int.tmod_nonneg (u.2.2.2.1 + 1) b0
    have s1 := Int.tmod_lt_of_pos b (show 0 < u.2.2.2.1 + 1 by omega)
    have wa : IntKind.i64.wrap a = a := wrap64 (by omega) (by omega)
    have wb : IntKind.i64.wrap b = b := wrap64 (by omega) (by omega)
    have w1 : IntKind.i64.wrap (u.2.2.2.2.2.1 - u.2.2.2.2.1) = u.2.2.2.2.2.1 - u.2.2.2.2.1 := wrap64 (by omega) (by omega)
    generalize hD : u.2.2.2.2.2.1 - u.2.2.2.2.1 + 1 = D at *
    generalize hB : u.2.2.2.1 + 1 = BB at *
    generalize hr : a.tmod D = r at *
    generalize hs' : b.tmod BB = x at *
    have nz1 : ¬ D = 0 := by omega
    have nz2 : ¬ BB = 0 := by omega
    have oa := part_ok (b := u.2.2.2.1) (fr := u.2.2.2.2.1) (to := u.2.2.2.2.1 + r) ok k1 ⟨q1, q2⟩ ⟨q5, by omega⟩ (by omega)
    have ob := part_ok (b := u.2.2.2.1) (fr := u.2.2.2.2.1 + r) (to := u.2.2.2.2.2.1) ok k1 ⟨q1, q2⟩ ⟨by omega, by omega⟩ (by omega)
    have ox := part_ok (b := x) (fr := u.2.2.2.2.1) (to := u.2.2.2.2.2.1) ok k1 ⟨s0, by omega⟩ ⟨q5, by omega⟩ (by omega)
    have oy := part_ok (b := u.2.2.2.1 - x) (fr := u.2.2.2.2.1) (to := u.2.2.2.2.2.1) ok k1 ⟨by omega, by omega⟩ ⟨q5, by omega⟩ (by omega)
    have sp : ∀ v : Use, UseOK t v → v.1 = 1 → specOf A_charge R_charge H_charge [tars t, .agg [I hn, lnks ls], useV v] = some (.tuple [I (feeN t v), I 0]) := fun v hv h1 => by
      have h := s_charge t hn ls v
      have hp : H_charge (t, hn, ls, v) := by show useP hn ls v; unfold useP; omega
      obtain ⟨g1, g2⟩ := chg_of (hn := hn) (ls := ls) hv (by omega)
      rw [h, g1, g2]
      first | rw [if_pos (by unfold useP; omega)] | simp [useP]
    have sa := sp _ oa rfl
    have sb := sp _ ob rfl
    have sx := sp _ ox rfl
    have sy := sp _ oy rfl
    rw [fee_keep] at sa sb sx sy
    have la := fee_le oa (by simp)
    have lb := fee_le ob (by simp)
    have lx := fee_le ox (by simp)
    have ly := fee_le oy (by simp)
    rw [fee_keep] at la lb lx ly
    have t1 := cut_time (b := u.2.2.2.1) (f := u.2.2.2.2.1) (m := u.2.2.2.2.1 + r) (t := u.2.2.2.2.2.1) (k := (t.getD u.2.1.toNat dT).1)
    have t2 := cut_bytes (b := u.2.2.2.1) (x := x) (d := u.2.2.2.2.2.1 - u.2.2.2.2.1) (k := (t.getD u.2.1.toNat dT).1)
    rw [← hM] at t1 t2
    simp only [useV] at sa sb sx sy
    generalize u.2.2.2.1 * (u.2.2.2.2.1 + r - u.2.2.2.2.1) * (t.getD u.2.1.toNat dT).1 = fa at *
    generalize u.2.2.2.1 * (u.2.2.2.2.2.1 - (u.2.2.2.2.1 + r)) * (t.getD u.2.1.toNat dT).1 = fb at *
    generalize x * (u.2.2.2.2.2.1 - u.2.2.2.2.1) * (t.getD u.2.1.toNat dT).1 = fx at *
    generalize (u.2.2.2.1 - x) * (u.2.2.2.2.2.1 - u.2.2.2.2.1) * (t.getD u.2.1.toNat dT).1 = fy at *
    clear hM hfee
    generalize hc : chgM t hn ls u = c at *
    generalize hA : u.2.2.2.2.1 + r = A at *
    generalize hY : u.2.2.2.1 - x = Y at *
    have w2 : IntKind.i64.wrap (u.2.2.2.2.2.1 - u.2.2.2.2.1 + 1) = D := by rw [hD]; exact wrap64 (by omega) (by omega)
    have w5 : IntKind.i64.wrap (u.2.2.2.1 + 1) = BB := by rw [hB]; exact wrap64 (by omega) (by omega)
    have w3 : IntKind.i64.wrap (a.tmod D) = r := by rw [hr]; exact wrap64 (by omega) (by omega)
    have w4 : IntKind.i64.wrap (u.2.2.2.2.1 + r) = A := by rw [hA]; exact wrap64 (by omega) (by omega)
    have w6 : IntKind.i64.wrap (b.tmod BB) = x := by rw [hs']; exact wrap64 (by omega) (by omega)
    have w7 : IntKind.i64.wrap (u.2.2.2.1 - x) = Y := by rw [hY]; exact wrap64 (by omega) (by omega)
    have n1 : ¬ u.2.2.2.2.1 < 0 := by omega
    have n2 : ¬ u.2.2.2.2.2.1 < u.2.2.2.2.1 := by omega
    have n3 : ¬ u.2.2.2.1 < 0 := by omega
    have n4 : ¬ 1000000 < u.2.2.2.2.2.1 := by omega
    simp only [useV, k1] at hcg
    simp +contextual (maxSteps := 4000000) only [↓ur_skip, ↓ur_seq, ↓ur_block, ↓ur_region, ↓ur_cond, ↓cont_seq, ↓ops_consN, ↓ops_guardN, nY_move, nY_assign, nY_pick, nY_alloc, nY_box, nY_buildSlice, nY_load, nY_store, nY_binOp, nilO_tmp, nilO_int, nY_convert, nY_fieldAddr, nY_indexAddr, nY_extract, nY_callf, nY_callb, ↓ops_nil, opsIf_some, opsIf_none, condC_true, condC_false, guardC_ff, Option.map_some, Option.bind_some, Option.getD_some, Nat.reduceLT, Bool.false_eq_true, ↓upd_same, ↓upd_ne, Nat.reduceBEq, true_and, and_true, List.getD_cons_zero, List.getD_cons_succ, List.getElem?_toArray, List.getElem?_cons_zero, List.getElem?_cons_succ, cfg_P, cfg_tab, cfg_muts, cfg_frz, cfg_num, numOf_eq, List.length_map, List.contains_cons, List.contains_nil, Bool.or_false, Bool.or_true, decide_true, decide_false, List.lookup_cons, List.lookup_nil, tabOf_cons, tab_v, Bool.and_self, Nat.reduceEqDiff, List.cons_append, List.nil_append, List.append_nil, updO_same, updO_ne, List.length_cons, List.length_nil, Nat.zero_add, Nat.add_zero, List.drop_zero, List.take_zero, Nat.reduceAdd, List.replicate_succ, List.replicate_zero, List.set_cons_zero, List.set_cons_succ, Nat.reduceMul, Nat.reduceLeDiff, nth_zero, Nat.lt_succ_self, Bool.not_false, not_true_eq_false, Int.reduceLT, Int.reduceLE, Int.reduceToNat, Nat.le_refl, cells_int, pur_int, pur_lits, cells_agg, pur_agg, ↓ev_tmp, ↓ev_int, ↓ev_bool, ↓ev_func, ↓guardP_eq, grd_some, ↓iop_move, ↓iop_assign, ↓pick3_bool, ↓iop_pick, ↓iop_box, ↓iop_buildSlice, ↓iop_load, ↓iop_store, ↓iop_binOp, ↓iop_convert, ↓iop_fieldAddr, ↓iop_indexAddr, idxA_int, ↓iop_extract, extr_tuple, ↓iop_callv, ↓iop_callb, nrmAll_cons, nrmAll_nil, bi_len, lenM_none, nrm_agg, nrmL_cons, nrmL_nil, nrm_lits, nrm1_int, nrm1_lits, pickP_f, pickP_t, loadP_vptr, loadP_ptr, setCells_agg, storeP_ptr, fieldP_vptr, fieldP_ptr, indexP_vptr, lenP_lits, b_add, b_sub, b_rem, b_eql, b_neq, b_lss, b_gtr, cv_int, bel_nil, bel_cons, splice_eq, env0_eq, valT_eq, pursL_cons, pursL_nil, Store.set, ↓reduceIte, arr_eq, arrB_some, callP_eq, tsOf_eq, boxP_eq, bslP_eq, List.take_succ_cons, List.drop_succ_cons, List.drop_nil, List.take_nil, ↓evs_cons, ↓evs_nil, ↓evp_cons, ↓evp_nil, Int.le_refl, beq_self_eq_true, see_eq, and_false, Bool.true_eq_false, Int.cast_ofNat_Int, e_sanity, e_charge, e_cost, e_fits, nth_psts, pur_psts, nth_tars, pur_tars, nth_snds, pur_snds, nth_uses, pur_uses, nth_rsts, pur_rsts, nth_lnks, pur_lnks, Try.f5, ty3, ty23, ty24, ty26, ty27, ty32, ty34, ty58, ty59, c1, c1i, c2, c2i, hu, hcg, k1, (by decide : 1 - 1 = 0), (by decide : 2 - 1 = 1), (by decide : 3 - 1 = 2), (by decide : 4 - 1 = 3), re_arr', reP_arr', reM_arr, rePM_arr, iop_alloc_re, n1, n2, n3, n4, wa, wb, w1, w2, w3, w4, w5, w6, w7, hr, hs', nz1, nz2]
    have m0 : IntKind.i64.wrap (0 + fa) = fa := by rw [Int.zero_add]; exact wrap64 (by omega) (by omega)
    have m1 : IntKind.i64.wrap (fa + fb) = c := by rw [t1]; exact wrap64 (by omega) (by omega)
    have m2 : IntKind.i64.wrap (c + fx) = c + fx := wrap64 (by omega) (by omega)
    have m3 : IntKind.i64.wrap (c + fx + fy) = 2 * c := by rw [show c + fx + fy = 2 * c by omega]; exact wrap64 (by omega) (by omega)
    have m4 : IntKind.i64.wrap (2 * c) = 2 * c := wrap64 (by omega) (by omega)
    refine loop_cnt [8, 15, 16, 17, 18, 19, 108, 109, 110, 111, 112, 113, 114, 115, 116, 117, 118, 119, 120, 121, 122, 123, 124, 125, 126, 127, 128, 129, 130, 131, 132] 4 (fun j ρ st' => ρ 108 = I j ∧ (j = 0 → ρ 15 = I 0) ∧ (j = 1 → ρ 15 = I fa) ∧ (j = 2 → ρ 15 = I c) ∧ (j = 3 → ρ 15 = I (c + fx)) ∧ (j = 4 → ρ 15 = I (2 * c))) (.refl _) ?_ ?_
    · simp +contextual (maxSteps := 4000000) only [↓upd_same, ↓upd_ne, Nat.reduceBEq, true_and, and_true, forall_const, PV.int.injEq, reduceCtorEq, false_implies, Int.cast_ofNat_Int, nth_psts, pur_psts, nth_tars, pur_tars, nth_snds, pur_snds, nth_uses, pur_uses, nth_rsts, pur_rsts, nth_lnks, pur_lnks, Try.f5]
    rintro j ρ ⟨ob, M⟩ hj ⟨h108, g0, g1, g2, g3, g4⟩
    match j, hj with
    | 0, _ =>
      have h108 : ρ 108 = I 0 := h108
      have h15 := g0 rfl
      have v1 : IntKind.i64.wrap (0 + 1) = 1 := rfl
      have v2 : IntKind.i64.wrap 1 = 1 := rfl
      simp +contextual (maxSteps := 4000000) only [↓ur_skip, ↓ur_seq, ↓ur_block, ↓ur_region, ↓ur_cond, Nat.one_ne_zero, ↓cont_seq, ↓cont_blk, ↓cont_lp, ↓ops_consN, ↓ops_guardN, nY_move, nY_assign, nY_pick, nY_alloc, nY_load, nY_store, nY_binOp, nilO_tmp, nilO_int, nY_indexAddr, nY_extract, nY_callf, ↓ops_nil, opsIf_some, opsIf_none, condC_true, condC_false, guardC_ft, Option.map_some, Option.bind_some, Option.getD_some, Nat.reduceLT, Bool.false_eq_true, ↓upd_same, ↓upd_ne, Nat.reduceBEq, true_and, and_true, List.getD_cons_zero, List.getElem?_toArray, List.getElem?_cons_zero, List.getElem?_cons_succ, forall_const, cfg_P, cfg_tab, cfg_muts, cfg_frz, cfg_num, numOf_eq, ↓havoc_in, ↓havoc_out, agree_upd, agree_havoc, List.contains_cons, List.contains_nil, Bool.or_false, Bool.or_true, decide_true, decide_false, List.lookup_cons, List.lookup_nil, tabOf_cons, tab_v, Bool.and_self, Nat.reduceEqDiff, List.nil_append, List.append_nil, updO_same, List.length_cons, List.length_nil, Nat.zero_add, List.drop_zero, List.take_zero, Nat.reduceAdd, List.set_cons_zero, nth_zero, Nat.lt_succ_self, Bool.not_false, not_true_eq_false, false_implies, Int.reduceEq, Int.reduceLT, Int.reduceToNat, Nat.le_refl, pur_int, pur_lits, cells_agg, pur_agg, ↓ev_tmp, ↓ev_int, ↓ev_bool, ↓ev_func, ↓guardP_eq, grd_some, ↓iop_move, ↓iop_assign, ↓pick3_bool, ↓iop_pick, ↓iop_alloc, ↓iop_load, ↓iop_store, ↓iop_binOp, ↓iop_indexAddr, idxA_int, ↓iop_extract, extr_tuple, ↓iop_callv, nrmAll_cons, nrmAll_nil, nrm_agg, nrmL_cons, nrmL_nil, nrm_lits, nrm1_int, nrm1_lits, pickP_t, loadP_vptr, loadP_ptr, setCells_agg, storeP_ptr, indexP_lits, b_add, b_eql, b_neq, b_lss, splice_eq, env0_eq, valT_eq, pursL_cons, pursL_nil, Store.new, Store.set, ↓reduceIte, arr_eq, arrB_some, callP_eq, tsOf_eq, List.take_succ_cons, List.drop_succ_cons, List.drop_nil, List.take_nil, ↓evs_cons, ↓evs_nil, Int.le_refl, beq_self_eq_true, see_eq, and_false, Bool.true_eq_false, Int.reduceAdd, Int.cast_ofNat_Int, nth_psts, pur_psts, nth_tars, pur_tars, nth_snds, pur_snds, nth_uses, pur_uses, nth_rsts, pur_rsts, nth_lnks, pur_lnks, Try.f5, ty23, ty26, ty27, ty34, h108, h15, sa, m0, v1, v2]
    | 1, _ =>
      have h108 : ρ 108 = I 1 := h108
      have h15 := g1 rfl
      have v1 : IntKind.i64.wrap (1 + 1) = 2 := rfl
      have v2 : IntKind.i64.wrap 2 = 2 := rfl
      simp +contextual (maxSteps := 4000000) only [↓ur_skip, ↓ur_seq, ↓ur_block, ↓ur_region, ↓ur_cond, ↓cont_seq, ↓cont_blk, ↓cont_lp, ↓ops_consN, ↓ops_guardN, nY_move, nY_assign, nY_pick, nY_alloc, nY_load, nY_store, nY_binOp, nilO_tmp, nilO_int, nY_indexAddr, nY_extract, nY_callf, ↓ops_nil, opsIf_some, opsIf_none, condC_true, condC_false, guardC_tt, Option.map_some, Option.bind_some, Option.getD_some, Nat.reduceLT, Bool.false_eq_true, ↓upd_same, ↓upd_ne, Nat.reduceBEq, true_and, and_true, List.getD_cons_zero, List.getElem?_toArray, List.getElem?_cons_zero, List.getElem?_cons_succ, forall_const, cfg_P, cfg_tab, cfg_muts, cfg_frz, cfg_num, numOf_eq, ↓havoc_in, ↓havoc_out, agree_upd, agree_havoc, List.contains_cons, List.contains_nil, Bool.or_false, Bool.or_true, decide_true, decide_false, PV.int.injEq, List.lookup_cons, List.lookup_nil, tabOf_cons, tab_v, Bool.and_self, Nat.reduceEqDiff, List.nil_append, List.append_nil, updO_same, List.length_cons, List.length_nil, Nat.zero_add, List.drop_zero, List.take_zero, Nat.reduceAdd, List.set_cons_zero, nth_zero, nth_succ, Nat.lt_succ_self, Bool.not_false, reduceCtorEq, not_true_eq_false, false_implies, Int.reduceLT, Int.reduceLE, Int.reduceToNat, Nat.le_refl, pur_int, pur_lits, cells_agg, pur_agg, ↓ev_tmp, ↓ev_int, ↓ev_func, ↓guardP_eq, grd_some, ↓iop_move, ↓iop_assign, ↓pick3_bool, ↓iop_pick, ↓iop_alloc, ↓iop_load, ↓iop_store, ↓iop_binOp, ↓iop_indexAddr, idxA_int, ↓iop_extract, extr_tuple, ↓iop_callv, nrmAll_cons, nrmAll_nil, nrm_agg, nrmL_cons, nrmL_nil, nrm_lits, nrm1_int, nrm1_lits, pickP_t, loadP_vptr, loadP_ptr, setCells_agg, storeP_ptr, indexP_lits, b_add, b_eql, b_neq, b_lss, splice_eq, env0_eq, valT_eq, pursL_cons, pursL_nil, Store.new, Store.set, ↓reduceIte, arr_eq, arrB_some, callP_eq, tsOf_eq, List.take_succ_cons, List.drop_succ_cons, List.drop_nil, List.take_nil, ↓evs_cons, ↓evs_nil, beq_self_eq_true, see_eq, and_false, Bool.true_eq_false, Int.reduceAdd, Int.cast_ofNat_Int, nth_psts, pur_psts, nth_tars, pur_tars, nth_snds, pur_snds, nth_uses, pur_uses, nth_rsts, pur_rsts, nth_lnks, pur_lnks, Try.f5, ty23, ty26, ty27, ty34, h108, h15, sb, m1, v1, v2]
    | 2, _ =>
      have h108 : ρ 108 = I 2 := h108
      have h15 := g2 rfl
      have v1 : IntKind.i64.wrap (2 + 1) = 3 := rfl
      have v2 : IntKind.i64.wrap 3 = 3 := rfl
      simp +contextual (maxSteps := 4000000) only [↓ur_skip, ↓ur_seq, ↓ur_block, ↓ur_region, ↓ur_cond, ↓cont_seq, ↓cont_blk, ↓cont_lp, ↓ops_consN, ↓ops_guardN, nY_move, nY_assign, nY_pick, nY_alloc, nY_load, nY_store, nY_binOp, nilO_tmp, nilO_int, nY_indexAddr, nY_extract, nY_callf, ↓ops_nil, opsIf_some, opsIf_none, condC_true, condC_false, guardC_ft, Option.map_some, Option.bind_some, Option.getD_some, Nat.reduceLT, Bool.false_eq_true, ↓upd_same, ↓upd_ne, Nat.reduceBEq, true_and, and_true, List.getD_cons_zero, List.getElem?_toArray, List.getElem?_cons_zero, List.getElem?_cons_succ, forall_const, cfg_P, cfg_tab, cfg_muts, cfg_frz, cfg_num, numOf_eq, ↓havoc_in, ↓havoc_out, agree_upd, agree_havoc, List.contains_cons, List.contains_nil, Bool.or_false, Bool.or_true, decide_true, decide_false, List.lookup_cons, List.lookup_nil, tabOf_cons, tab_v, Bool.and_self, Nat.reduceEqDiff, List.nil_append, List.append_nil, updO_same, List.length_cons, List.length_nil, Nat.zero_add, List.drop_zero, List.take_zero, Nat.reduceAdd, List.set_cons_zero, nth_zero, nth_succ, Nat.lt_succ_self, Bool.not_false, reduceCtorEq, not_true_eq_false, false_implies, Int.reduceEq, Int.reduceLT, Int.reduceLE, Int.reduceToNat, Nat.le_refl, pur_int, pur_lits, cells_agg, pur_agg, ↓ev_tmp, ↓ev_int, ↓ev_bool, ↓ev_func, ↓guardP_eq, grd_some, ↓iop_move, ↓iop_assign, ↓pick3_bool, ↓iop_pick, ↓iop_alloc, ↓iop_load, ↓iop_store, ↓iop_binOp, ↓iop_indexAddr, idxA_int, ↓iop_extract, extr_tuple, ↓iop_callv, nrmAll_cons, nrmAll_nil, nrm_agg, nrmL_cons, nrmL_nil, nrm_lits, nrm1_int, nrm1_lits, pickP_t, loadP_vptr, loadP_ptr, setCells_agg, storeP_ptr, indexP_lits, b_add, b_eql, b_neq, b_lss, splice_eq, env0_eq, valT_eq, pursL_cons, pursL_nil, Store.new, Store.set, ↓reduceIte, arr_eq, arrB_some, callP_eq, tsOf_eq, List.take_succ_cons, List.drop_succ_cons, List.drop_nil, List.take_nil, ↓evs_cons, ↓evs_nil, beq_self_eq_true, see_eq, and_false, Bool.true_eq_false, Int.reduceAdd, Int.cast_ofNat_Int, nth_psts, pur_psts, nth_tars, pur_tars, nth_snds, pur_snds, nth_uses, pur_uses, nth_rsts, pur_rsts, nth_lnks, pur_lnks, Try.f5, ty23, ty26, ty27, ty34, h108, h15, sx, m2, v1, v2]
    | 3, _ =>
      have h108 : ρ 108 = I 3 := h108
      have h15 := g3 rfl
      have v1 : IntKind.i64.wrap (3 + 1) = 4 := rfl
      have v2 : IntKind.i64.wrap 4 = 4 := rfl
      simp +contextual (maxSteps := 4000000) only [↓ur_skip, ↓ur_seq, ↓ur_block, ↓ur_region, ↓ur_cond, ↓cont_seq, ↓cont_blk, ↓cont_lp, ↓ops_consN, ↓ops_guardN, nY_move, nY_assign, nY_pick, nY_alloc, nY_load, nY_store, nY_binOp, nilO_tmp, nilO_int, nY_indexAddr, nY_extract, nY_callf, ↓ops_nil, opsIf_some, opsIf_none, condC_true, condC_false, guardC_ft, Option.map_some, Option.bind_some, Option.getD_some, Nat.reduceLT, Bool.false_eq_true, ↓upd_same, ↓upd_ne, Nat.reduceBEq, true_and, and_true, List.getD_cons_zero, List.getElem?_toArray, List.getElem?_cons_zero, List.getElem?_cons_succ, forall_const, cfg_P, cfg_tab, cfg_muts, cfg_frz, cfg_num, numOf_eq, ↓havoc_in, ↓havoc_out, agree_upd, agree_havoc, List.contains_cons, List.contains_nil, Bool.or_false, Bool.or_true, decide_true, decide_false, List.lookup_cons, List.lookup_nil, tabOf_cons, tab_v, Bool.and_self, Nat.reduceEqDiff, List.nil_append, List.append_nil, updO_same, List.length_cons, List.length_nil, Nat.zero_add, List.drop_zero, List.take_zero, Nat.reduceAdd, List.set_cons_zero, nth_zero, nth_succ, Nat.lt_succ_self, Bool.not_false, reduceCtorEq, not_true_eq_false, false_implies, Int.reduceEq, Int.reduceLT, Int.reduceLE, Int.reduceToNat, Nat.le_refl, pur_int, pur_lits, cells_agg, pur_agg, ↓ev_tmp, ↓ev_int, ↓ev_bool, ↓ev_func, ↓guardP_eq, grd_some, ↓iop_move, ↓iop_assign, ↓pick3_bool, ↓iop_pick, ↓iop_alloc, ↓iop_load, ↓iop_store, ↓iop_binOp, ↓iop_indexAddr, idxA_int, ↓iop_extract, extr_tuple, ↓iop_callv, nrmAll_cons, nrmAll_nil, nrm_agg, nrmL_cons, nrmL_nil, nrm_lits, nrm1_int, nrm1_lits, pickP_t, loadP_vptr, loadP_ptr, setCells_agg, storeP_ptr, indexP_lits, b_add, b_eql, b_neq, b_lss, splice_eq, env0_eq, valT_eq, pursL_cons, pursL_nil, Store.new, Store.set, ↓reduceIte, arr_eq, arrB_some, callP_eq, tsOf_eq, List.take_succ_cons, List.drop_succ_cons, List.drop_nil, List.take_nil, ↓evs_cons, ↓evs_nil, beq_self_eq_true, see_eq, and_false, Bool.true_eq_false, Int.reduceAdd, Int.cast_ofNat_Int, nth_psts, pur_psts, nth_tars, pur_tars, nth_snds, pur_snds, nth_uses, pur_uses, nth_rsts, pur_rsts, nth_lnks, pur_lnks, Try.f5, ty23, ty26, ty27, ty34, h108, h15, sy, m3, v1, v2]
    | 4, _ =>
      have h108 : ρ 108 = I 4 := h108
      have h15 := g4 rfl
      simp +contextual (maxSteps := 4000000) only [↓ur_seq, ↓ur_exit, ↓ur_ret, ↓ur_region, ↓ur_cond, ↓cont_seq, ↓leave_seq, ↓leave_blk, ↓leave_lp, ↓done_nil, ↓done_seq, ↓done_blk, ↓ops_consN, ↓ops_guardN, nY_move, nY_assign, nY_pick, nY_binOp, nilO_tmp, nY_callf, ↓ops_nil, opsIf_some, condC_false, guardC_tt, Option.map_some, Option.bind_some, Option.getD_some, Nat.reduceLT, Bool.false_eq_true, ↓upd_same, ↓upd_ne, Nat.reduceBEq, and_true, List.getElem?_toArray, List.getElem?_cons_zero, List.getElem?_cons_succ, endQ, cfg_P, cfg_tab, cfg_muts, cfg_frz, ↓havoc_in, ↓havoc_out, List.contains_cons, List.contains_nil, Bool.or_false, Bool.or_true, decide_true, decide_false, Option.some.injEq, exists_eq_left', tabOf_cons, tab_v, List.append_nil, Nat.reduceAdd, Bool.not_false, Int.reduceLT, DRx_bool, ↓ev_tmp, ↓ev_int, ↓ev_func, ↓guardP_eq, grd_some, ↓iop_move, ↓iop_assign, ↓pick3_bool, ↓iop_pick, ↓iop_binOp, ↓iop_callv, nrmAll_nil, b_mul, b_eql, b_lss, ires_eq, iresL_1, iresAll_nil, iresAll_cons, iresOne_tmp, valT_eq, pursL_nil, ↓reduceIte, callP_eq, tsOf_eq, ↓evs_nil, beq_self_eq_true, and_false, Bool.true_eq_false, s_sanity, nth_psts, pur_psts, nth_tars, pur_tars, nth_snds, pur_snds, nth_uses, pur_uses, nth_rsts, pur_rsts, nth_lnks, pur_lnks, Try.f5, h108, h15, m4]
    | j + 5, h => exact absurd h (by omega)
  by_cases k2 : u.1 = 2
  · have hq : fitM hn ls u.2.2.2.2.2.2.2 = 0 ∧ ¬ 1099511627776 < costM hn ls u.2.2.2.2.2.2.2 := by
      have h := he
      unfold chgE at h
      rw [if_neg (fun g => g (chg_mchk he)), if_pos k2] at h
      by_cases f : fitM hn ls u.2.2.2.2.2.2.2 = 0
      · rw [if_neg (fun g => g f)] at h
        refine ⟨f, fun g => ?_⟩
        rw [if_pos g] at h; cases h
      · rw [if_pos f] at h; exact absurd h f
    obtain ⟨f0, f1⟩ := hq
    have hr := fit_right f0
    have hM : chgM t hn ls u = 1000 * costM hn ls u.2.2.2.2.2.2.2 := by unfold chgM; rw [if_pos he, if_pos k2]
    have hnn := costM_nn (hn := hn) (ls := ls) (l := u.2.2.2.2.2.2.2)
    generalize hsn : u.2.2.2.2.2.2.2 = sn at *
    generalize hcm : costM hn ls sn = cc at *
    have hw : IntKind.i64.wrap (1000 * cc) = 1000 * cc := wrap64 (by omega) (by omega)
    simp only [useV, k2, hsn, hM] at hcg
    simp +contextual (maxSteps := 4000000) only [↓ur_skip, ↓ur_seq, ↓ur_block, ↓ur_ret, ↓ur_region, ↓ur_cond, ↓cont_seq, ↓done_nil, ↓done_seq, ↓done_blk, ↓ops_consN, ↓ops_guardN, nY_move, nY_assign, nY_pick, nY_box, nY_load, nY_binOp, nilO_tmp, nilO_int, nY_fieldAddr, nY_extract, nY_callf, nY_callb, ↓ops_nil, opsIf_some, condC_true, condC_false, guardC_tt, guardC_ff, Option.map_some, Option.bind_some, Option.getD_some, Nat.reduceLT, Bool.false_eq_true, ↓upd_same, ↓upd_ne, Nat.reduceBEq, and_true, List.getD_cons_zero, List.getD_cons_succ, List.getElem?_toArray, List.getElem?_cons_zero, List.getElem?_cons_succ, endQ, cfg_P, cfg_tab, cfg_muts, cfg_frz, List.length_map, List.contains_cons, List.contains_nil, Bool.or_false, decide_true, decide_false, Option.some.injEq, exists_eq_left', List.lookup_cons, List.lookup_nil, tabOf_cons, tab_v, Bool.and_self, Nat.reduceEqDiff, List.nil_append, List.append_nil, List.length_cons, List.length_nil, Nat.zero_add, Nat.add_zero, List.drop_zero, Nat.reduceAdd, Nat.lt_succ_self, Bool.not_false, not_true_eq_false, Int.reduceEq, Nat.le_refl, pur_int, pur_lits, cells_agg, pur_agg, DRx_bool, ↓ev_tmp, ↓ev_int, ↓ev_bool, ↓ev_func, ↓guardP_eq, grd_some, ↓iop_move, ↓iop_assign, ↓pick3_bool, ↓iop_pick, ↓iop_box, ↓iop_load, ↓iop_binOp, ↓iop_fieldAddr, ↓iop_extract, extr_tuple, ↓iop_callv, ↓iop_callb, nrmAll_cons, nrmAll_nil, bi_len, lenM_none, nrm_agg, nrmL_cons, nrmL_nil, nrm_lits, nrm1_int, nrm1_lits, pickP_f, pickP_t, loadP_vptr, fieldP_vptr, lenP_lits, b_mul, b_eql, b_neq, b_gtr, env0_eq, ires_eq, iresL_1, iresAll_nil, iresAll_cons, iresOne_tmp, valT_eq, pursL_cons, pursL_nil, ↓reduceIte, callP_eq, tsOf_eq, boxP_eq, List.take_succ_cons, List.take_nil, ↓evs_cons, ↓evs_nil, beq_self_eq_true, see_eq, and_false, Bool.true_eq_false, e_sanity, s_sanity, e_charge, e_cost, s_cost, e_fits, s_fits, nth_psts, pur_psts, nth_tars, pur_tars, nth_snds, pur_snds, nth_uses, pur_uses, nth_rsts, pur_rsts, nth_lnks, pur_lnks, Try.f5, ty3, ty23, ty24, ty26, ty32, ty34, c1, c1i, c2, c2i, hu, hcg, hsn, k1, k2, f0, hr, hcm, hw]
  · generalize hM : chgM t hn ls u = c at *
    simp +contextual (maxSteps := 4000000) only [↓ur_skip, ↓ur_seq, ↓ur_block, ↓ur_ret, ↓ur_region, ↓ur_cond, ↓cont_seq, ↓cont_blk, ↓done_nil, ↓ops_consN, ↓ops_guardN, nY_move, nY_assign, nY_pick, nY_box, nY_load, nY_binOp, nilO_int, nY_fieldAddr, nY_extract, nY_callf, nY_callb, ↓ops_nil, opsIf_some, condC_false, guardC_ff, Option.map_some, Option.bind_some, Option.getD_some, Nat.reduceLT, Bool.false_eq_true, ↓upd_same, ↓upd_ne, Nat.reduceBEq, and_true, List.getD_cons_zero, List.getD_cons_succ, List.getElem?_toArray, List.getElem?_cons_zero, List.getElem?_cons_succ, endQ, cfg_P, cfg_tab, cfg_muts, cfg_frz, List.length_map, List.contains_cons, List.contains_nil, Bool.or_false, decide_false, Option.some.injEq, exists_eq_left', List.lookup_cons, List.lookup_nil, tabOf_cons, tab_v, Bool.and_self, Nat.reduceEqDiff, List.nil_append, List.append_nil, List.length_cons, List.length_nil, Nat.zero_add, Nat.add_zero, List.drop_zero, Nat.reduceAdd, Nat.lt_succ_self, Bool.not_false, not_true_eq_false, Nat.le_refl, pur_int, pur_lits, cells_agg, pur_agg, DRx_bool, ↓ev_tmp, ↓ev_int, ↓ev_bool, ↓ev_func, ↓guardP_eq, grd_some, ↓iop_move, ↓iop_assign, ↓pick3_bool, ↓iop_pick, ↓iop_box, ↓iop_load, ↓iop_binOp, ↓iop_fieldAddr, ↓iop_extract, extr_tuple, ↓iop_callv, ↓iop_callb, nrmAll_cons, nrmAll_nil, bi_len, lenM_none, nrm_agg, nrmL_cons, nrmL_nil, nrm_lits, nrm1_int, nrm1_lits, pickP_f, pickP_t, loadP_vptr, fieldP_vptr, lenP_lits, b_eql, b_neq, b_gtr, env0_eq, ires_eq, iresL_1, iresAll_nil, iresAll_cons, iresOne_tmp, valT_eq, pursL_cons, pursL_nil, ↓reduceIte, callP_eq, tsOf_eq, boxP_eq, List.take_succ_cons, List.take_nil, ↓evs_cons, ↓evs_nil, beq_self_eq_true, see_eq, and_false, Bool.true_eq_false, e_sanity, s_sanity, e_charge, s_charge, e_cost, e_fits, nth_psts, pur_psts, nth_tars, pur_tars, nth_snds, pur_snds, nth_uses, pur_uses, nth_rsts, pur_rsts, nth_lnks, pur_lnks, Try.f5, ty3, ty23, ty24, ty26, ty32, ty34, c1, c1i, c2, c2i, hu, he, hM, k1, k2]
end Sim
