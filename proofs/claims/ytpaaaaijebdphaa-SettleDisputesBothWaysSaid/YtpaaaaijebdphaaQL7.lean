/- What functions of this seat compute, by values: contracts (lemmas of the statement's proof, under the conditions that each names). -/
import Derived.Test.YtpaaaaijebdphaaQC7
namespace Sim
open Go Go.Proofs
set_option maxRecDepth 10000
set_option maxHeartbeats 2000000
set_option linter.unusedVariables false
set_option linter.unusedSimpArgs false
attribute [local congr] opsIf_congr condC_congr guardC_congr grd_congr pick3_congr obind_congr omap_congr nilC_congr
/-- The sums behind so many gaps. -/
def sumT (o m : List Pst) (k : Nat) : List Int := tbl 40 fun i => gotS m i - gotS o i - wS ((specL o m).take k) i
structure GapIn (x : Gap) : Prop where
  a : 0 ≤ x.1 ∧ x.1 ≤ 39
  b : 0 ≤ x.2.1 ∧ x.2.1 ≤ 39
  ne : ¬ x.1 = x.2.1
  own : 0 ≤ x.2.2.2.1 ∧ x.2.2.2.1 ≤ 109951162777600
  cl : 0 ≤ x.2.2.2.2 ∧ x.2.2.2.2 ≤ 109951162777600
  dif : ¬ x.2.2.2.1 = x.2.2.2.2
theorem gap_in {o m : List Pst} (hr : ∀ p ∈ o ++ m, rgtO p) (ho : o.length ≤ 100) (hm : m.length ≤ 100) {x : Gap} (h : x ∈ specL o m) : GapIn x := by
  obtain ⟨p, hp, rfl, hn⟩ := ((spec_mem hr).2 x).1 h
  have h1 := hr p hp
  unfold rgtO at h1
  have h2 := sumP_nonneg (l := o) (fun q hq => hr q (by simp [hq])) p.1 p.2.1 p.2.2.2.2.1
  have h3 := sumP_nonneg (l := m) (fun q hq => hr q (by simp [hq])) p.1 p.2.1 p.2.2.2.2.1
  refine ⟨h1.1, h1.2.1, h1.2.2.1, ?_, ?_, hn⟩ <;> · unfold gapP; dsimp only; omega
theorem wG_le {x : Gap} (h : GapIn x) (i : Int) : -219902325555200 ≤ wG i x ∧ wG i x ≤ 219902325555200 := by
  have h1 := h.own
  have h2 := h.cl
  unfold wG
  split <;> split <;> omega
theorem wS_le {i : Int} : ∀ {l : List Gap}, (∀ x ∈ l, GapIn x) → -(219902325555200 * (l.length : Int)) ≤ wS l i ∧ wS l i ≤ 219902325555200 * (l.length : Int)
  | [], _ => by simp [wS]
  | x :: l, h => by
    have ih := wS_le (i := i) (l := l) fun y hy => h y (by simp [hy])
    have h1 := wG_le (h x (by simp)) i
    simp only [wS, List.map_cons, List.sum_cons, List.length_cons] at ih ⊢
    omega
theorem wS_succ {l : List Gap} {k : Nat} (h : k < l.length) (i : Int) : wS (l.take (k + 1)) i = wS (l.take k) i + wG i (l.getD k dG) := by
  unfold wS
  rw [List.take_succ_eq_append_getElem h, List.map_append, List.sum_append]
  simp [h]
theorem sum_step {o m : List Pst} {k u v : Nat} {x : Gap} (hk : k < (specL o m).length) (hx : (specL o m).getD k dG = x) (hu : (u : Int) = x.1) (hv : (v : Int) = x.2.1) (hne : ¬ u = v) (hun : u < 40) (hvn : v < 40) :
    ((sumT o m k).set u ((sumT o m k).getD u 0 - (x.2.2.2.2 - x.2.2.2.1))).set v ((sumT o m k).getD v 0 + (x.2.2.2.2 - x.2.2.2.1)) = sumT o m (k + 1) := by
  unfold sumT
  rw [tbl_at hun, tbl_at hvn, tbl_set, tbl_set]
  refine tbl_ext fun i hi => ?_
  simp only [wS_succ hk, hx, wG]
  rw [← hu, ← hv]
  by_cases c1 : i = v
  · subst c1
    rw [if_pos rfl, if_neg (show ¬ (u : Int) = (i : Int) by omega), if_pos rfl]; omega
  · rw [if_neg c1]
    by_cases c2 : i = u
    · subst c2
      rw [if_pos rfl, if_pos rfl, if_neg (show ¬ (v : Int) = (i : Int) by omega)]; omega
    · rw [if_neg c2, if_neg (show ¬ (u : Int) = (i : Int) by omega), if_neg (show ¬ (v : Int) = (i : Int) by omega)]; omega
theorem sumT_0 {o m : List Pst} : addK (addK (tbl 40 fun _ => 0) m 1 m.length) o (-1) o.length = sumT o m 0 := by
  unfold addK sumT
  refine tbl_ext fun i hi => ?_
  rw [tbl_at hi, tbl_at hi]
  simp [sgn, wS]; omega
theorem sumT_end {o m : List Pst} (hr : ∀ p ∈ o ++ m, rgtO p) : sumT o m (specL o m).length = tbl 40 fun _ => 0 := by
  unfold sumT
  refine tbl_ext fun i hi => ?_
  rw [List.take_length, wS_spec hr]; omega
theorem insG_len7 {x : Gap} {out : List Gap} : (insG x out).length = out.length + 1 := by
  have := posG_le (x := x) (out := out) out.length
  unfold insG
  simp only [List.length_append, List.length_take, List.length_drop, List.length_singleton]
  omega
theorem specK_len7 {o m all : List Pst} : ∀ k, (specK o m all k).length ≤ k
  | 0 => by simp [specK]
  | k + 1 => by
    have := specK_len7 (o := o) (m := m) (all := all) k
    simp only [specK]
    split
    · omega
    · rw [insG_len7]; omega
theorem dspL_len' {o m : List Pst} (he : dspE o m = 0) : (dspL o m).length ≤ o.length + m.length := by
  obtain ⟨h1, h2, h3⟩ := dspE_zero he
  rw [dspL_zero he]
  unfold specL
  rw [← List.length_append]
  exact specK_len7 _
theorem neq_gap' (a b c d e : Int) : binP Try.prog .neq 64 (.agg [I a, I b, I c, I d, I e]) (.agg [I a, I b, I c, I d, I e]) = some (.bool false) := by
  have := neq_gap (x := (a, b, c, d, e)) (y := (a, b, c, d, e))
  simpa using this
noncomputable def A_law7 : (List Pst) × (List Pst) → List PV := fun (o, m) => [psts o, psts m]
noncomputable def R_law7 : (List Pst) × (List Pst) → PV := fun (o, m) => B true
def H_law7 : (List Pst) × (List Pst) → Prop := fun (o, m) => True
noncomputable def e_law7 : Nat × Ent := (7, .v (specOf A_law7 R_law7 H_law7))
theorem j_law7 : ∀ i j, A_law7 i = A_law7 j → i = j := by
  rintro ⟨o₁, m₁⟩ ⟨o₂, m₂⟩ h
  simp only [A_law7, List.cons.injEq, and_true, PV.lits.injEq, PV.int.injEq, PV.bool.injEq, PV.str.injEq, PV.agg.injEq, PV.func.injEq, Fn.func.injEq, PV.vptr.injEq, true_and, List.map_nil, inj_ints, inj_strs, inj_psts, inj_gaps, inj_pays] at h
  simp [Prod.ext_iff, h] <;> omega
theorem s_law7 (o : List Pst) (m : List Pst) : specOf A_law7 R_law7 H_law7 [psts o, psts m] = some (B true) := specOf_app j_law7 (i := (o, m)) trivial
def C_law7 : Prop := ∀ (o : List Pst) (m : List Pst) , VC Try.prog 7 [psts o, psts m] (B true)
def O_law7 : Prop := EntOK Try.prog e_law7.1 e_law7.2
theorem k_law7 (c : C_law7) : O_law7 := specOf_ok fun ⟨o, m⟩ h => c o m
theorem c_law7 : C_law7 := by
  intro o m
  refine vc_ofU mixed (l := [e_sanity, e_dispute, e_add]) ((eok_cons o_sanity (eok_cons o_dispute (eok_cons o_add eok_nil)))) [] []  Try.func7 rfl (by decide +kernel) (N := 153) rfl (by simp) rfl (by kernel_rfl) fun hs => ?_
  simp only [smallL, PV.small, List.length_map, and_true, true_and] at hs
  by_cases c1 : 100 < o.length
  · have c1i : (100 : Int) < (o.length : Int) := by omega
    simp +contextual (maxSteps := 4000000) only [↓ur_seq, ↓ur_ret, ↓ur_region, ↓ur_cond, ↓cont_seq, ↓done_nil, ↓done_seq, ↓ops_consN, ↓ops_guardN, nY_move, nY_assign, nY_pick, nY_binOp, nilO_int, nY_callf, nY_callb, ↓ops_nil, opsIf_some, condC_true, guardC_tf, Option.map_some, Option.bind_some, Option.getD_some, Nat.reduceLT, Bool.false_eq_true, ↓upd_same, ↓upd_ne, Nat.reduceBEq, and_true, List.getD_cons_zero, List.getElem?_toArray, List.getElem?_cons_zero, List.getElem?_cons_succ, endQ, cfg_P, cfg_tab, cfg_muts, cfg_frz, List.length_map, List.contains_nil, decide_true, Option.some.injEq, exists_eq_left', tabOf_cons, tab_v, List.append_nil, Nat.reduceAdd, Bool.not_false, st0, DRx_bool, ↓ev_tmp, ↓ev_int, ↓ev_bool, ↓ev_func, ↓guardP_eq, grd_some, ↓iop_move, ↓iop_assign, ↓pick3_bool, ↓iop_pick, ↓iop_binOp, ↓iop_callv, ↓iop_callb, nrmAll_nil, bi_len, lenM_none, lenP_lits, b_gtr, env0_eq, ires_eq, iresL_1, iresAll_nil, iresAll_cons, iresOne_tmp, valT_eq, pursL_nil, ↓reduceIte, callP_eq, tsOf_eq, ↓evs_cons, ↓evs_nil, and_false, Bool.true_eq_false, e_sanity, s_sanity, e_dispute, e_add, nth_psts, pur_psts, nth_gaps, pur_gaps, nth_pays, pur_pays, Try.f7, ty22, c1i]
  have c1i : ¬ (100 : Int) < (o.length : Int) := by omega
  by_cases c2 : 100 < m.length
  · have c2i : (100 : Int) < (m.length : Int) := by omega
    simp +contextual (maxSteps := 4000000) only [↓ur_seq, ↓ur_ret, ↓ur_region, ↓ur_cond, ↓cont_seq, ↓done_nil, ↓done_seq, ↓ops_consN, ↓ops_guardN, nY_move, nY_assign, nY_pick, nY_binOp, nilO_int, nY_callf, nY_callb, ↓ops_nil, opsIf_some, condC_true, guardC_ff, Option.map_some, Option.bind_some, Option.getD_some, Nat.reduceLT, Bool.false_eq_true, ↓upd_same, ↓upd_ne, Nat.reduceBEq, and_true, List.getD_cons_zero, List.getD_cons_succ, List.getElem?_toArray, List.getElem?_cons_zero, List.getElem?_cons_succ, endQ, cfg_P, cfg_tab, cfg_muts, cfg_frz, List.length_map, List.contains_nil, decide_true, decide_false, Option.some.injEq, exists_eq_left', tabOf_cons, tab_v, List.append_nil, Nat.reduceAdd, Bool.not_false, st0, DRx_bool, ↓ev_tmp, ↓ev_int, ↓ev_bool, ↓ev_func, ↓guardP_eq, grd_some, ↓iop_move, ↓iop_assign, ↓pick3_bool, ↓iop_pick, ↓iop_binOp, ↓iop_callv, ↓iop_callb, nrmAll_nil, bi_len, lenM_none, lenP_lits, b_gtr, env0_eq, ires_eq, iresL_1, iresAll_nil, iresAll_cons, iresOne_tmp, valT_eq, pursL_nil, ↓reduceIte, callP_eq, tsOf_eq, ↓evs_cons, ↓evs_nil, and_false, Bool.true_eq_false, e_sanity, s_sanity, e_dispute, e_add, nth_psts, pur_psts, nth_gaps, pur_gaps, nth_pays, pur_pays, Try.f7, ty22, c1i, c2i]
  have c2i : ¬ (100 : Int) < (m.length : Int) := by omega
  have hcm : dspE m o = dspE o m := dspE_comm
  by_cases he : dspE o m = 0
  case neg =>
    have e1 := dspL_not he
    have e2 := dspL_not (o := m) (c := o) (by rw [hcm]; exact he)
    generalize hE : dspE o m = E at *
    simp +contextual (maxSteps := 4000000) only [↓ur_skip, ↓ur_seq, ↓ur_ret, ↓ur_region, ↓ur_cond, ↓cont_seq, ↓done_nil, ↓done_seq, ↓ops_consN, ↓ops_guardN, nY_move, nY_assign, nY_pick, nY_binOp, nilO_tmp, nilO_int, nY_extract, nY_callf, nY_callb, ↓ops_nil, opsIf_some, condC_true, condC_false, guardC_tt, guardC_ff, Option.map_some, Option.bind_some, Option.getD_some, Nat.reduceLT, Bool.false_eq_true, ↓upd_same, ↓upd_ne, Nat.reduceBEq, and_true, List.getD_cons_zero, List.getD_cons_succ, List.getElem?_toArray, List.getElem?_cons_zero, List.getElem?_cons_succ, endQ, cfg_P, cfg_tab, cfg_muts, cfg_frz, List.map_nil, List.length_map, List.contains_nil, decide_true, decide_false, Option.some.injEq, exists_eq_left', tabOf_cons, tab_v, Bool.and_self, Nat.reduceEqDiff, List.nil_append, List.append_nil, List.length_nil, Nat.reduceAdd, Bool.not_false, not_true_eq_false, not_false_eq_true, st0, pur_lits, DRx_bool, ↓ev_tmp, ↓ev_int, ↓ev_bool, ↓ev_func, ↓guardP_eq, grd_some, ↓iop_move, ↓iop_assign, ↓pick3_bool, ↓iop_pick, ↓iop_binOp, ↓iop_extract, extr_tuple, ↓iop_callv, ↓iop_callb, nrmAll_cons, nrmAll_nil, bi_len, lenM_none, nrm_lits, lenP_lits, b_eql, b_neq, b_gtr, env0_eq, ires_eq, iresL_1, iresAll_nil, iresAll_cons, iresOne_tmp, valT_eq, pursL_cons, pursL_nil, ↓reduceIte, callP_eq, tsOf_eq, ↓evs_cons, ↓evs_nil, and_false, Bool.true_eq_false, Int.cast_ofNat_Int, e_sanity, s_sanity, e_dispute, s_dispute, e_add, nth_psts, pur_psts, nth_gaps, pur_gaps, nth_pays, pur_pays, Try.f7, ty22, ty25, c1i, c2i, hcm, hE, he, e1, e2]
  obtain ⟨_, _, hr⟩ := dspE_zero he
  have hs := dspE_self he
  have e1 := dspL_zero he
  have e2 : dspL m o = (specL o m).map swG := by rw [dspL_zero (by rw [hcm]; exact he), spec_swap hr]
  have e3 : dspL o o = [] := by rw [dspL_zero hs, spec_self ((dspE_zero hs).2.2)]
  have hA : (specL o m).length ≤ 200 := by
    have h1 := dspL_len' (o := o) (m := m) he
    rw [e1] at h1; omega
  have k0 : addOK (tbl 40 fun _ => 0) m 1 := ⟨tbl_len, .inl rfl, by omega, fun p hp => hr p (by simp [hp]), fun i hi => by rw [tbl_at hi]; omega⟩
  have k1 : addOK (addK (tbl 40 fun _ => 0) m 1 m.length) o (-1) := ⟨tbl_len, .inr rfl, by omega, fun p hp => hr p (by simp [hp]), fun i hi => by
    have := gotS_le (l := m) (fun p hp => hr p (by simp [hp])) (i : Int)
    unfold addK
    rw [tbl_at hi, tbl_at hi, List.take_length]
    unfold sgn
    rw [if_pos rfl]; omega⟩
  have h0 := sumT_0 (o := o) (m := m)
  have hend := sumT_end hr
  have hin : ∀ x ∈ specL o m, GapIn x := fun x hx => gap_in hr (by omega) (by omega) hx
  have hst := fun k u v x => sum_step (o := o) (m := m) (k := k) (u := u) (v := v) (x := x)
  have hbnd : ∀ k, k ≤ (specL o m).length → ∀ i, i < 40 → -(44200367436595200) ≤ (sumT o m k).getD i 0 ∧ (sumT o m k).getD i 0 ≤ 44200367436595200 := fun k hk i hi => by
    have a := gotS_le (l := m) (fun p hp => hr p (by simp [hp])) (i : Int)
    have b := gotS_le (l := o) (fun p hp => hr p (by simp [hp])) (i : Int)
    have d := wS_le (i := (i : Int)) (l := (specL o m).take k) fun x hx => hin x (List.mem_of_mem_take hx)
    rw [List.length_take, Nat.min_eq_left hk] at d
    unfold sumT
    rw [tbl_at hi]; omega
  have hlen : ∀ k, (sumT o m k).length = 40 := fun k => tbl_len
  have hzl : PV.agg [I 0, I 0, I 0, I 0, I 0, I 0, I 0, I 0, I 0, I 0, I 0, I 0, I 0, I 0, I 0, I 0, I 0, I 0, I 0, I 0, I 0, I 0, I 0, I 0, I 0, I 0, I 0, I 0, I 0, I 0, I 0, I 0, I 0, I 0, I 0, I 0, I 0, I 0, I 0, I 0] = PV.agg ((tbl 40 fun _ => (0 : Int)).map (PV.int .i64)) := rfl
  have hzz : binP Try.prog .eql 59 (PV.agg ((tbl 40 fun _ => (0 : Int)).map (PV.int .i64))) (PV.agg ((tbl 40 fun _ => (0 : Int)).map (PV.int .i64))) = some (.bool true) := by kernel_rfl
  generalize tbl 40 (fun _ => (0 : Int)) = Z at *
  have q0 := fun (st : Store) (h : 0 < st.next) => addA_some (l := m) (b := 1) (st := st) (id := 0) (gen := 0) k0 h
  have q1 := fun (st : Store) (h : 0 < st.next) => addA_some (l := o) (b := -1) (st := st) (id := 0) (gen := 0) k1 h
  rw [h0] at q1
  generalize addK Z m 1 m.length = T1 at *
  generalize sumT o m = TK at *
  generalize specL o m = A at *
  have hAB : (A.map swG).length = A.length := List.length_map _
  have hZ := k0.1
  have hp1 : 0 < 1 + m.length := by omega
  simp +contextual (maxSteps := 4000000) only [↓ur_skip, ↓ur_seq, ↓ur_block, ↓ur_region, ↓ur_cond, ↓cont_seq, ↓ops_consN, ↓ops_guardN, nY_move, nY_assign, nY_pick, nY_alloc, nY_binOp, nilO_tmp, nilO_int, nY_makeFunc, nY_extract, nY_callf, nY_callb, nY_callt, isNone_none, cfg_yl, ↓ops_nil, opsIf_some, condC_false, guardC_ff, Option.map_some, Option.bind_some, Option.getD_some, Nat.reduceLT, Bool.false_eq_true, ↓upd_same, ↓upd_ne, Nat.reduceBEq, true_and, and_true, List.getD_cons_zero, List.getD_cons_succ, List.getElem?_toArray, List.getElem?_cons_zero, List.getElem?_cons_succ, cfg_P, cfg_tab, cfg_muts, cfg_frz, cfg_num, numOf_eq, List.map_nil, List.length_map, List.contains_nil, decide_false, tabOf_cons, tab_v, tab_x, Bool.and_true, Bool.and_self, Bool.true_and, Nat.reduceEqDiff, List.cons_append, List.nil_append, List.append_nil, updO_same, List.length_nil, Nat.zero_add, Nat.reduceAdd, Nat.lt_succ_self, Bool.not_false, not_true_eq_false, st0, pur_int, pur_lits, cells_agg, ↓ev_tmp, ↓ev_int, ↓ev_bool, ↓ev_func, ↓guardP_eq, grd_some, ↓iop_move, ↓iop_assign, ↓pick3_bool, ↓iop_pick, ↓iop_alloc, ↓iop_binOp, ↓iop_makeFunc, ↓iop_extract, extr_tuple, ↓iop_callv, ↓iop_callb, nrmAll_cons, nrmAll_nil, bi_len, lenM_none, nrm_int, nrm_lits, lenP_lits, b_neq, b_gtr, env0_eq, valT_eq, pursL_cons, pursL_nil, Store.new, ↓reduceIte, arr_eq, arrB_some, callP_eq, tsOf_eq, ↓evs_cons, ↓evs_nil, false_and, and_false, Bool.true_eq_false, Int.cast_ofNat_Int, e_sanity, e_dispute, s_dispute, e_add, s_add, nth_psts, pur_psts, nth_gaps, pur_gaps, nth_pays, pur_pays, Try.f7, ty3, ty22, ty25, ty59, c1i, c2i, hcm, he, hs, e1, e2, e3, hAB, hzl, q0, q1, hZ, hp1]
  refine loop_cnt [4, 13, 14, 76, 77, 78, 79, 80, 81, 82, 83, 84, 85, 86, 87, 88, 89, 90, 91, 92, 93, 94, 95, 96, 97, 98, 99, 100, 101, 102, 103, 104, 105, 106, 107, 108, 109, 110, 111, 112, 113, 114, 115, 116, 117, 118, 119, 120, 121, 122, 123, 124, 125, 126, 127, 128, 129, 130, 131, 132, 133, 134, 135, 136, 137, 138, 139, 140, 141, 142, 143, 144, 145, 146] A.length (fun k ρ st' => ρ 76 = I k ∧ st'.obj 0 = some (.arr 0 40 [.agg ((TK k).map (PV.int .i64))]) ∧ 0 < st'.next) (.refl _) ?_ ?_
  · simp +contextual (maxSteps := 4000000) only [↓upd_same, true_and, updO_same, Int.cast_ofNat_Int, nth_psts, pur_psts, nth_gaps, pur_gaps, nth_pays, pur_pays, Try.f7]
    omega
  rintro k ρ ⟨ob, M⟩ hk ⟨h76, o0, hM⟩
  dsimp only at o0 hM
  have m0 : ¬ 0 = M := by omega
  have m1 : ¬ M = 0 := by omega
  by_cases hlt : k < A.length
  · have hwk := wrapN' (k := k) (by omega)
    have hx1 := hin (A.getD k dG) (by rw [List.getD_eq_getElem?_getD, List.getElem?_eq_getElem hlt]; exact List.getElem_mem _)
    have hB : (A.map swG).getD k dG = swG (A.getD k dG) := by
      rw [List.getD_eq_getElem?_getD, List.getElem?_map, List.getElem?_eq_getElem hlt, List.getD_eq_getElem?_getD, List.getElem?_eq_getElem hlt]; rfl
    have hltB : k < (A.map swG).length := by rw [hAB]; exact hlt
    have hst := fun u v => hst k u v _ hlt rfl
    have hb := hbnd k hk
    have hbl := hlen k
    generalize hx : A.getD k dG = x at *
    have hst := hst x.1.toNat x.2.1.toNat (Int.toNat_of_nonneg hx1.a.1) (Int.toNat_of_nonneg hx1.b.1) (by have := hx1.a; have := hx1.b; have := hx1.ne; omega) (by have := hx1.a; omega) (by have := hx1.b; omega)
    obtain ⟨xa, xb, xn, xo, xc, xd⟩ := hx1
    have f1 := Int.toNat_of_nonneg xa.1
    have f2 := Int.toNat_of_nonneg xb.1
    have hun : x.1.toNat < 40 := by omega
    have hvn : x.2.1.toNat < 40 := by omega
    have huv : ¬ x.1.toNat = x.2.1.toNat := by omega
    have b1 := hb _ hun
    have b2 := hb _ hvn
    have w0 : IntKind.i64.wrap (x.2.2.2.2 - x.2.2.2.1) = x.2.2.2.2 - x.2.2.2.1 := wrap64 (by omega) (by omega)
    obtain ⟨D, hD⟩ : ∃ D, x.2.2.2.2 - x.2.2.2.1 = D := ⟨_, rfl⟩
    have hDb : -109951162777600 ≤ D ∧ D ≤ 109951162777600 := by omega
    rw [hD] at w0 hst
    have hs1 : ((TK k).set x.1.toNat ((TK k).getD x.1.toNat 0 - D)).getD x.2.1.toNat 0 = (TK k).getD x.2.1.toNat 0 := by
      simp only [List.getD_eq_getElem?_getD, List.getElem?_set, if_neg huv]
    have w1 : IntKind.i64.wrap ((TK k).getD x.1.toNat 0 - D) = (TK k).getD x.1.toNat 0 - D := wrap64 (by omega) (by omega)
    have w2 : IntKind.i64.wrap ((TK k).getD x.2.1.toNat 0 + D) = (TK k).getD x.2.1.toNat 0 + D := wrap64 (by omega) (by omega)
    rw [← hst]
    generalize x.1.toNat = u at *
    generalize x.2.1.toNat = v at *
    generalize TK k = T at *
    have huni : (u : Int) < 40 := by omega
    have hvni : (v : Int) < 40 := by omega
    have hg1 := get_ints (l := T) (k := u) (by omega)
    have hg2 := get_ints (l := T.set u (T.getD u 0 - D)) (k := v) (by rw [List.length_set]; omega)
    rw [hs1] at hg2
    have sp1 := spl_ints (l := T) (o := u) (v := T.getD u 0 - D) (by omega)
    have sp2 := spl_ints (l := T.set u (T.getD u 0 - D)) (o := v) (v := T.getD v 0 + D) (by rw [List.length_set]; omega)
    have un0 : ¬ (u : Int) < 0 := by omega
    have vn0 : ¬ (v : Int) < 0 := by omega
    have un1 : ¬ 40 ≤ (u : Int) := by omega
    have vn1 : ¬ 40 ≤ (v : Int) := by omega
    simp +contextual (maxSteps := 4000000) only [↓ur_skip, ↓ur_seq, ↓ur_block, ↓ur_region, ↓ur_cond, ↓cont_seq, ↓cont_blk, ↓cont_lp, ↓ops_consN, ↓ops_guardN, nY_move, nY_assign, nY_pick, nY_alloc, nY_build, nY_load, nY_store, nY_binOp, nilO_tmp, nilO_int, nY_fieldAddr, nY_indexAddr, ↓ops_nil, opsIf_some, opsIf_none, opsIf_if, map_if, condC_true, condC_false, guardC_ff, Option.map_some, Option.map_none, Option.bind_some, Option.getD_some, Nat.reduceLT, Bool.false_eq_true, ↓upd_same, ↓upd_ne, Nat.reduceBEq, true_and, and_true, List.getElem?_toArray, List.getElem?_cons_zero, List.getElem?_cons_succ, cfg_P, cfg_frz, cfg_num, numOf_eq, List.length_map, ↓havoc_in, ↓havoc_out, agree_upd, agree_havoc, List.contains_cons, List.contains_nil, Bool.or_false, Bool.or_true, Int.natCast_nonneg, Int.ofNat_lt, Int.toNat_natCast, decide_true, decide_false, List.cons_append, List.nil_append, List.append_nil, updO_same, updO_ne, List.length_cons, List.length_nil, Nat.zero_add, Nat.add_zero, List.drop_zero, List.take_zero, Nat.reduceAdd, List.set_cons_zero, Nat.reduceLeDiff, nth_zero, Nat.lt_succ_self, Bool.not_false, not_false_eq_true, Nat.le_refl, cells_int, cells_agg, ↓ev_tmp, ↓ev_int, ↓guardP_eq, grd_some, ↓iop_move, ↓iop_assign, ↓pick3_bool, ↓iop_pick, ↓iop_alloc, ↓iop_build, ↓iop_load, ↓iop_store, ↓iop_binOp, ↓iop_fieldAddr, ↓iop_indexAddr, idxA_int, pickP_f, pickP_t, loadP_vptr, loadP_ptr, setCells_agg, storeP_ptr, fieldP_ptr, indexP_lits, indexP_ptr, b_add, b_sub, b_eql, b_lss, b_geq, fill_nil, fill_cons, fill1_some, buildP_eq, bldA_none, splice_eq, Store.new, Store.set, ↓reduceIte, arr_eq, arrB_some, beq_eq_false_iff_ne, ne_eq, List.take_succ_cons, List.drop_succ_cons, List.drop_nil, List.take_nil, ↓evp_cons, ↓evp_nil, beq_self_eq_true, see_eq, Int.cast_ofNat_Int, nth_psts, pur_psts, nth_gaps, pur_gaps, nth_pays, pur_pays, Try.f7, ty3, ty25, ty59, ty64, h76, o0, m0, m1, hlt, hltB, hx, hB, swG, hwk, Nat.mul_one, hg1, hg2, sp1, sp2, huni, hvni, hun, hvn, ← f1, ← f2, un0, vn0, un1, vn1, xd, hD, w0, w1, w2, hbl, List.length_set, updO_updO, neq_gap']
    omega
  · have e : k = A.length := by omega
    subst e
    rw [hend] at o0
    have hzt : List.take 40 (Z.map (PV.int .i64)) = Z.map (PV.int .i64) := List.take_of_length_le (by rw [List.length_map, hZ]; exact Nat.le_refl _)
    simp +contextual (maxSteps := 4000000) only [↓ur_seq, ↓ur_exit, ↓ur_ret, ↓ur_region, ↓ur_cond, ↓cont_seq, ↓leave_seq, ↓leave_blk, ↓leave_lp, ↓done_nil, ↓ops_consN, ↓ops_guardN, nY_move, nY_assign, nY_pick, nY_build, nY_load, nY_binOp, nilO_tmp, nY_callf, ↓ops_nil, opsIf_some, condC_false, guardC_tt, Option.map_some, Option.bind_some, Option.getD_some, Nat.reduceLT, Bool.false_eq_true, ↓upd_same, ↓upd_ne, Nat.reduceBEq, and_true, List.getElem?_toArray, List.getElem?_cons_zero, List.getElem?_cons_succ, endQ, cfg_P, cfg_tab, cfg_muts, cfg_frz, List.length_map, ↓havoc_in, ↓havoc_out, List.contains_cons, List.contains_nil, Bool.or_false, Bool.or_true, Int.ofNat_lt, decide_false, Option.some.injEq, exists_eq_left', tabOf_cons, tab_v, List.append_nil, Nat.zero_add, List.drop_zero, Nat.reduceAdd, nth_zero, Nat.lt_irrefl, Nat.lt_succ_self, Bool.not_false, Nat.le_refl, cells_agg, DRx_bool, ↓ev_tmp, ↓ev_func, ↓guardP_eq, grd_some, ↓iop_move, ↓iop_assign, ↓pick3_bool, ↓iop_pick, ↓iop_build, ↓iop_load, ↓iop_binOp, ↓iop_callv, nrmAll_nil, pickP_t, loadP_ptr, b_lss, fill_nil, buildP_eq, bldA_some, ires_eq, iresL_1, iresAll_nil, iresAll_cons, iresOne_tmp, valT_eq, pursL_nil, ↓reduceIte, arr_eq, arrB_some, callP_eq, tsOf_eq, ↓evs_nil, ↓evp_nil, beq_self_eq_true, see_eq, and_false, Bool.true_eq_false, s_sanity, nth_psts, pur_psts, nth_gaps, pur_gaps, nth_pays, pur_pays, Try.f7, ty59, h76, o0, hzl, hZ, hzt, hzz]
theorem o_law7 : O_law7 := k_law7 c_law7
end Sim
