/- What functions of this seat compute, by values: contracts (lemmas of the statement's proof, under the conditions that each names). -/
import Derived.Test.YtpaaaaijebdphaaQU
namespace Sim
open Go Go.Proofs
set_option maxRecDepth 10000
set_option maxHeartbeats 2000000
set_option linter.unusedVariables false
set_option linter.unusedSimpArgs false
attribute [local congr] opsIf_congr condC_congr guardC_congr grd_congr pick3_congr obind_congr omap_congr nilC_congr opsV_congr
theorem run_env4 {X : Cfg} {N : Nat} {Q : IExit → IState → Prop} {c : Code} {ks : List Kf} {A : Prop} (T : (Nat → PV) → Store → Prop) (h1 : (∀ ρ st, T ρ st → run X N Q c ks ⟨ρ, st⟩) → A) (h2 : ∀ ρ st, T ρ st → run X N Q c ks ⟨ρ, st⟩) : A := h1 h2
/-! The specification's list, with sums as the machine makes them. -/
def gapW (o m : List Pst) (p : Pst) : Gap := (p.1, p.2.1, p.2.2.2.2.1, sumW o p.1 p.2.1 p.2.2.2.2.1 o.length, sumW m p.1 p.2.1 p.2.2.2.2.1 m.length)
def preW (all : List Pst) (k : Nat) (p : Pst) : Int := sumW (all.take k) p.1 p.2.1 p.2.2.2.2.1 (all.take k).length
def specW (o m all : List Pst) : Nat → List Gap
  | 0 => []
  | k + 1 => if 0 < preW all k (all.getD k dP) ∨ (gapW o m (all.getD k dP)).2.2.2.1 = (gapW o m (all.getD k dP)).2.2.2.2 then specW o m all k else insG (gapW o m (all.getD k dP)) (specW o m all k)
theorem insG_len {x : Gap} {out : List Gap} : (insG x out).length = out.length + 1 := by
  have := posG_le (x := x) (out := out) out.length
  unfold insG
  simp only [List.length_append, List.length_take, List.length_drop, List.length_singleton]
  omega
theorem specW_len {o m all : List Pst} : ∀ k, (specW o m all k).length ≤ k
  | 0 => by simp [specW]
  | k + 1 => by
    have := specW_len (o := o) (m := m) (all := all) k
    simp only [specW]
    split
    · omega
    · rw [insG_len]; omega
theorem specW_eq {o m : List Pst} (ho : o.length ≤ 1000) (hm : m.length ≤ 1000) (hr : ∀ p ∈ o ++ m, rgtO p) : ∀ k, k ≤ (o ++ m).length → specW o m (o ++ m) k = specK o m (o ++ m) k
  | 0, _ => rfl
  | k + 1, hk => by
    have ih := specW_eq ho hm hr k (by omega)
    have hl : (o ++ m).length ≤ 2000 := by simp; omega
    have g : ∀ p, gapW o m p = gapP o m p := fun p => by
      unfold gapW gapP
      rw [sumW_eq (fun q hq => hr q (by simp [hq])) (by omega) _ (Nat.le_refl _), sumW_eq (fun q hq => hr q (by simp [hq])) (by omega) _ (Nat.le_refl _), List.take_length, List.take_length]
    have q : ∀ p, preW (o ++ m) k p = sumP ((o ++ m).take k) p.1 p.2.1 p.2.2.2.2.1 := fun p => by
      unfold preW
      rw [sumW_eq (fun q hq => hr q (List.mem_of_mem_take hq)) (by rw [List.length_take]; omega) _ (Nat.le_refl _), List.take_length]
    simp only [specW, specK, ih, g, q, skipG]
/-- A variable and a list are written no more. -/
theorem frz2 {ρ : Nat → PV} {st : Store} {d1 d2 id1 z1 A g z2 n : Nat} {e : PV} {es : List PV} (h1 : ρ d1 = .ptr id1 0 0 0) (o1 : st.obj id1 = some (.arr 0 z1 [e])) (hp1 : pursL [e] = true) (h2 : ρ d2 = .ref A g 0 n) (hn : n = es.length) (o2 : st.obj A = some (.arr g z2 es)) (hp2 : pursL es = true) (hne : A ≠ id1) (hd : d2 ≠ d1) :
    Ghost ⟨ρ, st⟩ ⟨upd (upd ρ d1 (.vptr e.cells 0)) d2 (.lits z2 es), (st.without [id1]).seal [A]⟩ := by
  subst hn
  refine .trans (.fix ⟨ρ, st⟩ d1 id1 0 0 z1 [e] h1 (by simp [Store.arr?, o1]) (by simp) hp1) (.sealv _ d2 _ [A] ?_ ?_)
  · show upd ρ d1 _ d2 ≠ PV.bad
    unfold upd
    rw [if_neg hd, h2]; intro h; cases h
  · show rdP _ (upd ρ d1 _ d2) = _
    unfold upd
    rw [if_neg hd, h2]
    simp only [rdP, rdC, Store.only, Store.arr?, Store.without]
    simp [hne, o2, hp2]
noncomputable def A_rdispute : (List Pst) × (List Pst) → List PV := fun (o, m) => [psts o, psts m]
noncomputable def R_rdispute : (List Pst) × (List Pst) → PV := fun (o, m) => .agg [gaps (dspL o m), I (dspE o m)]
def H_rdispute : (List Pst) × (List Pst) → Prop := fun (o, m) => True
noncomputable def e_rdispute : Nat × Ent := (12, .v (specOf A_rdispute R_rdispute H_rdispute))
theorem j_rdispute : ∀ i j, A_rdispute i = A_rdispute j → i = j := by
  rintro ⟨o₁, m₁⟩ ⟨o₂, m₂⟩ h
  simp only [A_rdispute, List.cons.injEq, and_true, PV.lits.injEq, PV.int.injEq, PV.bool.injEq, PV.str.injEq, PV.agg.injEq, PV.func.injEq, Fn.func.injEq, PV.vptr.injEq, true_and, List.map_nil, inj_ints, inj_strs, inj_psts, inj_gaps, inj_pays] at h
  simp [Prod.ext_iff, h] <;> omega
theorem s_rdispute (o : List Pst) (m : List Pst) : specOf A_rdispute R_rdispute H_rdispute [psts o, psts m] = some (.agg [gaps (dspL o m), I (dspE o m)]) := specOf_app j_rdispute (i := (o, m)) trivial
def C_rdispute : Prop := ∀ (o : List Pst) (m : List Pst) , VC Try.prog 12 [psts o, psts m] (.agg [gaps (dspL o m), I (dspE o m)])
def O_rdispute : Prop := EntOK Try.prog e_rdispute.1 e_rdispute.2
theorem k_rdispute (c : C_rdispute) : O_rdispute := specOf_ok fun ⟨o, m⟩ h => c o m
theorem c_rdispute : C_rdispute := by
  intro o m
  refine vc_ofR mixed (l := [e_rgt, e_rsum, e_rbef]) ((eok_cons o_rgt (eok_cons o_rsum (eok_cons o_rbef eok_nil)))) [22, 101, 106] [109, 111, 100106, 100110] 1 Try.func12 rfl (by decide +kernel) (N := 118) rfl (by simp) rfl (by kernel_rfl) fun hs => ?_
  simp only [smallL, PV.small, List.length_map, and_true, true_and] at hs
  obtain ⟨L, hL⟩ : ∃ L, dspL o m = L := ⟨_, rfl⟩
  obtain ⟨E, hE⟩ : ∃ E, dspE o m = E := ⟨_, rfl⟩
  rw [hL, hE]
  have bad : ¬ E = 0 → L = [] := fun h => by rw [← hL]; unfold dspL; rw [if_neg (by rw [hE]; exact h)]
  by_cases n1 : 1000 < o.length
  · have e1 : E = 2 := by rw [← hE]; unfold dspE; rw [if_pos (.inl n1)]
    have e2 := bad (by omega)
    subst e1 e2
    have n1i : (1000 : Int) < (o.length : Int) := by omega
    simp +contextual (maxSteps := 4000000) only [↓ur_seq, ↓ur_ret, ↓ur_region, ↓ur_cond, ↓cont_seq, ↓done_nil, ↓done_seq, ↓ops_consN, ↓ops_guardN, nY_move, nY_pick, nY_alloc, nY_build, nY_store, nY_binOp, nilO_int, nY_callb, ↓ops_nil, opsIf_some, opsIf_none, condC_true, guardC_tf, Option.map_some, Option.bind_some, Option.getD_some, Nat.reduceLT, Bool.false_eq_true, ↓upd_same, ↓upd_ne, Nat.reduceBEq, and_true, List.getD_cons_zero, List.getElem?_toArray, List.getElem?_cons_zero, List.getElem?_cons_succ, endQ, cfg_P, cfg_num, numOf_eq, List.map_nil, List.length_map, List.contains_cons, List.contains_nil, Bool.or_false, decide_true, Option.some.injEq, exists_eq_left', Bool.and_self, List.cons_append, List.nil_append, List.append_nil, updO_same, List.length_cons, List.length_nil, Nat.zero_add, List.drop_zero, List.take_zero, Nat.reduceAdd, List.set_cons_zero, nth_zero, Nat.lt_succ_self, Bool.not_false, Nat.le_refl, cells_int, isCell_int, isCell_lits, cells_agg, DRx_int, DRx_nils_lits, DRx_agg, DRxL_cons, DRxL_nil, ↓ev_tmp, ↓ev_int, ↓ev_bool, ↓guardP_eq, grd_some, ↓iop_move, ↓pick3_bool, ↓iop_pick, ↓iop_alloc, ↓iop_build, ↓iop_store, ↓iop_binOp, ↓iop_callb, bi_len, lenM_none, pickP_t, loadP_ptr, setCells_agg, storeP_ptr, lenP_lits, b_gtr, fill_nil, fill_cons, fill1_some, buildP_eq, bldA_none, splice_eq, env0_eq, ires_eq, iresL_1, iresAll_nil, iresAll_cons, iresOne_cell, Store.new, Store.set, ↓reduceIte, arr_eq, arrB_some, List.take_succ_cons, List.drop_succ_cons, List.drop_nil, List.take_nil, ↓evs_cons, ↓evs_nil, ↓evp_cons, ↓evp_nil, List.all_cons, List.all_nil, e_rgt, e_rsum, e_rbef, nth_psts, pur_psts, nth_gaps, pur_gaps, nth_pays, pur_pays, Try.f12, ty22, ty30, n1i]
  have n1i : ¬ (1000 : Int) < (o.length : Int) := by omega
  by_cases n2 : 1000 < m.length
  · have e1 : E = 2 := by rw [← hE]; unfold dspE; rw [if_pos (.inr n2)]
    have e2 := bad (by omega)
    subst e1 e2
    have n2i : (1000 : Int) < (m.length : Int) := by omega
    simp +contextual (maxSteps := 4000000) only [↓ur_seq, ↓ur_ret, ↓ur_region, ↓ur_cond, ↓cont_seq, ↓done_nil, ↓done_seq, ↓ops_consN, ↓ops_guardN, nY_move, nY_pick, nY_alloc, nY_build, nY_store, nY_binOp, nilO_int, nY_callb, ↓ops_nil, opsIf_some, opsIf_none, condC_true, guardC_ff, Option.map_some, Option.bind_some, Option.getD_some, Nat.reduceLT, Bool.false_eq_true, ↓upd_same, ↓upd_ne, Nat.reduceBEq, and_true, List.getD_cons_zero, List.getD_cons_succ, List.getElem?_toArray, List.getElem?_cons_zero, List.getElem?_cons_succ, endQ, cfg_P, cfg_num, numOf_eq, List.map_nil, List.length_map, List.contains_cons, List.contains_nil, Bool.or_false, decide_true, decide_false, Option.some.injEq, exists_eq_left', Bool.and_self, List.cons_append, List.nil_append, List.append_nil, updO_same, List.length_cons, List.length_nil, Nat.zero_add, List.drop_zero, List.take_zero, Nat.reduceAdd, List.set_cons_zero, nth_zero, Nat.lt_succ_self, Bool.not_false, Nat.le_refl, cells_int, isCell_int, isCell_lits, cells_agg, DRx_int, DRx_nils_lits, DRx_agg, DRxL_cons, DRxL_nil, ↓ev_tmp, ↓ev_int, ↓guardP_eq, grd_some, ↓iop_move, ↓pick3_bool, ↓iop_pick, ↓iop_alloc, ↓iop_build, ↓iop_store, ↓iop_binOp, ↓iop_callb, bi_len, lenM_none, pickP_t, loadP_ptr, setCells_agg, storeP_ptr, lenP_lits, b_gtr, fill_nil, fill_cons, fill1_some, buildP_eq, bldA_none, splice_eq, env0_eq, ires_eq, iresL_1, iresAll_nil, iresAll_cons, iresOne_cell, Store.new, Store.set, ↓reduceIte, arr_eq, arrB_some, List.take_succ_cons, List.drop_succ_cons, List.drop_nil, List.take_nil, ↓evs_cons, ↓evs_nil, ↓evp_cons, ↓evp_nil, List.all_cons, List.all_nil, e_rgt, e_rsum, e_rbef, nth_psts, pur_psts, nth_gaps, pur_gaps, nth_pays, pur_pays, Try.f12, ty22, ty30, n1i, n2i]
  have n2i : ¬ (1000 : Int) < (m.length : Int) := by omega
  have hE2 : E = if ¬ ∀ p ∈ o ++ m, rgtO p then 1 else 0 := by rw [← hE]; unfold dspE; rw [if_neg (by omega)]
  have hal : (o ++ m).length = o.length + m.length := by simp
  have e11 : 1 - 1 = 0 := rfl
  refine run_env4 (X := ?X) (N := ?N) (Q := ?Q) (c := ?c) (ks := ?ks) (fun ρ st => ρ 0 = psts o ∧ ρ 1 = psts m ∧ ρ 4 = .ptr 1 0 0 0 ∧ ρ 6 = .nils ∧ ρ 7 = I 0 ∧ (∃ g, ρ 5 = .ref 2 g 0 (o ++ m).length ∧ st.obj 2 = some (.arr g 6 ((o ++ m).map pstV))) ∧ st.obj 0 = some (.arr 0 1 []) ∧ st.obj 1 = some (.arr 0 2 [.agg [.nils, I 0]]) ∧ st.next = 3) ?h1 ?h2
  case h1 =>
    intro tail
    have k1 : o.length ≤ 2147483648 := by omega
    have k2 : m.length ≤ 2147483648 := by omega
    have k3 : o.length + m.length ≤ 2147483648 := by omega
    have htm : List.take m.length (m.map pstV) = m.map pstV := List.take_of_length_le (by rw [List.length_map]; exact Nat.le_refl _)
    have hto : List.take o.length (o.map pstV) = o.map pstV := List.take_of_length_le (by rw [List.length_map]; exact Nat.le_refl _)
    by_cases z1 : o.length = 0
    · have ho : o = [] := List.length_eq_zero_iff.1 z1
      by_cases z2 : m.length = 0
      · have hm : m = [] := List.length_eq_zero_iff.1 z2
        simp +contextual (maxSteps := 4000000) only [↓ur_skip, ↓ur_seq, ↓ur_block, ↓ur_region, ↓ur_cond, ↓cont_seq, ↓ops_consN, ↓ops_guardN, nY_move, nY_assign, nY_pick, nY_alloc, nY_buildSlice, nY_binOp, nilO_int, nY_callb, ↓ops_nil, opsIf_some, condC_false, guardC_ff, Option.map_some, Option.bind_some, Option.getD_some, Nat.reduceLT, Bool.false_eq_true, ↓upd_same, ↓upd_ne, Nat.reduceBEq, true_and, and_true, List.getD_cons_zero, List.getD_cons_succ, List.getElem?_toArray, List.getElem?_cons_zero, List.getElem?_cons_succ, cfg_P, cfg_muts, cfg_num, numOf_eq, List.length_map, List.contains_cons, List.contains_nil, Bool.or_false, decide_false, List.nil_append, List.append_nil, updO_same, List.length_cons, List.length_nil, Nat.zero_add, Nat.add_zero, List.drop_zero, List.take_zero, Nat.reduceAdd, List.replicate_zero, Nat.reduceMul, Nat.reduceLeDiff, Bool.not_false, reduceCtorEq, not_false_eq_true, Int.reduceLT, or_false, Nat.le_refl, cells_agg, ↓ev_tmp, ↓ev_int, ↓ev_nils, ↓guardP_eq, grd_some, ↓iop_move, ↓iop_assign, ↓pick3_bool, ↓iop_pick, ↓iop_alloc, ↓iop_buildSlice, ↓iop_binOp, ↓iop_callb, bi_len, lenM_none, bi_append, lenP_lits, elemsP_lits, appendP_ref, b_gtr, bel_nil, env0_eq, Store.new, Store.set, ↓reduceIte, arr_eq, arrB_some, bslP_eq, ne_eq, List.drop_nil, List.take_nil, ↓evs_cons, ↓evs_nil, ↓evp_nil, beq_self_eq_true, Int.cast_ofNat_Int, e_rgt, e_rsum, e_rbef, nth_psts, pur_psts, nth_gaps, pur_gaps, nth_pays, pur_pays, Try.f12, ty22, ty30, ty61, n1i, n2i, z1, z2]
        refine tail _ _ ?_
        simp +contextual (maxSteps := 4000000) only [↓upd_same, ↓upd_ne, Nat.reduceBEq, true_and, and_true, List.getD_cons_zero, List.getD_cons_succ, List.map_nil, Option.some.injEq, List.append_nil, updO_same, updO_ne, List.length_nil, IObj.arr.injEq, Nat.lt_succ_self, env0_eq, ↓reduceIte, nth_psts, pur_psts, nth_gaps, pur_gaps, nth_pays, pur_pays, Try.f12, ho, hm]
        exact ⟨0, rfl, rfl⟩
      · have z3 : ¬ m.length ≤ 0 := by omega
        simp +contextual (maxSteps := 4000000) only [↓ur_skip, ↓ur_seq, ↓ur_block, ↓ur_region, ↓ur_cond, ↓cont_seq, ↓ops_consN, ↓ops_guardN, nY_move, nY_assign, nY_pick, nY_alloc, nY_buildSlice, nY_binOp, nilO_int, nY_callb, ↓ops_nil, opsIf_some, condC_false, guardC_ff, Option.map_some, Option.bind_some, Option.getD_some, Nat.reduceLT, Bool.false_eq_true, ↓upd_same, ↓upd_ne, Nat.reduceBEq, true_and, and_true, List.getD_cons_zero, List.getD_cons_succ, List.getElem?_toArray, List.getElem?_cons_zero, List.getElem?_cons_succ, cfg_P, cfg_muts, cfg_num, numOf_eq, List.length_map, List.contains_cons, List.contains_nil, Bool.or_false, decide_false, List.nil_append, List.append_nil, updO_same, List.length_cons, List.length_nil, Nat.zero_add, Nat.add_zero, List.drop_zero, List.take_zero, Nat.reduceAdd, List.replicate_zero, Nat.reduceMul, Nat.reduceLeDiff, Bool.not_false, reduceCtorEq, not_false_eq_true, Int.reduceLT, or_false, Nat.le_refl, cells_agg, ↓ev_tmp, ↓ev_int, ↓ev_nils, ↓guardP_eq, grd_some, ↓iop_move, ↓iop_assign, ↓pick3_bool, ↓iop_pick, ↓iop_alloc, ↓iop_buildSlice, ↓iop_binOp, ↓iop_callb, bi_len, lenM_none, bi_append, lenP_lits, elemsP_lits, appendP_ref, b_gtr, bel_nil, env0_eq, Store.new, Store.set, ↓reduceIte, arr_eq, arrB_some, bslP_eq, ne_eq, List.drop_nil, List.take_nil, ↓evs_cons, ↓evs_nil, ↓evp_nil, beq_self_eq_true, Int.cast_ofNat_Int, e_rgt, e_rsum, e_rbef, nth_psts, pur_psts, nth_gaps, pur_gaps, nth_pays, pur_pays, Try.f12, ty22, ty30, ty61, n1i, n2i, z1, z2, z3, k1, k2, k3]
        refine tail _ _ ?_
        simp +contextual (maxSteps := 4000000) only [↓upd_same, ↓upd_ne, Nat.reduceBEq, true_and, and_true, List.getD_cons_zero, List.getD_cons_succ, List.map_nil, Option.some.injEq, List.nil_append, updO_same, updO_ne, IObj.arr.injEq, Nat.lt_succ_self, env0_eq, ↓reduceIte, nth_psts, pur_psts, nth_gaps, pur_gaps, nth_pays, pur_pays, Try.f12, ho, htm]
        exact ⟨1, rfl, rfl⟩
    · have z4 : ¬ o.length ≤ 0 := by omega
      by_cases z2 : m.length = 0
      · have hm : m = [] := List.length_eq_zero_iff.1 z2
        simp +contextual (maxSteps := 4000000) only [↓ur_skip, ↓ur_seq, ↓ur_block, ↓ur_region, ↓ur_cond, ↓cont_seq, ↓ops_consN, ↓ops_guardN, nY_move, nY_assign, nY_pick, nY_alloc, nY_buildSlice, nY_binOp, nilO_int, nY_callb, ↓ops_nil, opsIf_some, condC_false, guardC_ff, Option.map_some, Option.bind_some, Option.getD_some, Nat.reduceLT, Bool.false_eq_true, ↓upd_same, ↓upd_ne, Nat.reduceBEq, true_and, and_true, List.getD_cons_zero, List.getD_cons_succ, List.getElem?_toArray, List.getElem?_cons_zero, List.getElem?_cons_succ, cfg_P, cfg_muts, cfg_num, numOf_eq, List.length_map, List.contains_cons, List.contains_nil, Bool.or_false, decide_false, List.nil_append, updO_same, List.length_cons, List.length_nil, Nat.zero_add, Nat.add_zero, Nat.reduceAdd, List.replicate_zero, Nat.reduceMul, Nat.reduceLeDiff, Bool.not_false, reduceCtorEq, not_false_eq_true, Int.reduceLT, take_map_len, or_false, Nat.le_refl, cells_agg, ↓ev_tmp, ↓ev_int, ↓ev_nils, ↓guardP_eq, grd_some, ↓iop_move, ↓iop_assign, ↓pick3_bool, ↓iop_pick, ↓iop_alloc, ↓iop_buildSlice, ↓iop_binOp, ↓iop_callb, bi_len, lenM_none, bi_append, lenP_lits, elemsP_lits, appendP_ref, b_gtr, bel_nil, env0_eq, Store.new, Store.set, ↓reduceIte, arr_eq, arrB_some, bslP_eq, ne_eq, List.drop_nil, List.take_nil, ↓evs_cons, ↓evs_nil, ↓evp_nil, beq_self_eq_true, Int.cast_ofNat_Int, e_rgt, e_rsum, e_rbef, nth_psts, pur_psts, nth_gaps, pur_gaps, nth_pays, pur_pays, Try.f12, ty22, ty30, ty61, n1i, n2i, z1, z2, z4, k1, k2, k3]
        refine tail _ _ ?_
        simp +contextual (maxSteps := 4000000) only [↓upd_same, ↓upd_ne, Nat.reduceBEq, true_and, and_true, List.getD_cons_zero, List.getD_cons_succ, List.map_nil, Option.some.injEq, List.append_nil, updO_same, updO_ne, IObj.arr.injEq, Nat.lt_succ_self, env0_eq, ↓reduceIte, nth_psts, pur_psts, nth_gaps, pur_gaps, nth_pays, pur_pays, Try.f12, hm, hto]
        exact ⟨1, rfl, rfl, by rw [List.drop_eq_nil_of_le (by simp), List.append_nil]⟩
      · have z5 : ¬ o.length + m.length ≤ o.length := by omega
        simp +contextual (maxSteps := 4000000) only [↓ur_skip, ↓ur_seq, ↓ur_block, ↓ur_region, ↓ur_cond, ↓cont_seq, ↓ops_consN, ↓ops_guardN, nY_move, nY_assign, nY_pick, nY_alloc, nY_buildSlice, nY_binOp, nilO_int, nY_callb, ↓ops_nil, opsIf_some, condC_false, guardC_ff, Option.map_some, Option.bind_some, Option.getD_some, Nat.reduceLT, Bool.false_eq_true, ↓upd_same, ↓upd_ne, Nat.reduceBEq, true_and, and_true, List.getD_cons_zero, List.getD_cons_succ, List.getElem?_toArray, List.getElem?_cons_zero, List.getElem?_cons_succ, cfg_P, cfg_muts, cfg_num, numOf_eq, List.length_map, List.contains_cons, List.contains_nil, Bool.or_false, decide_false, List.nil_append, updO_same, List.length_cons, List.length_nil, Nat.zero_add, Nat.add_zero, List.drop_zero, Nat.reduceAdd, List.replicate_zero, Nat.reduceMul, Nat.reduceLeDiff, Bool.not_false, reduceCtorEq, not_false_eq_true, take_map_len, or_false, Nat.le_refl, cells_agg, ↓ev_tmp, ↓ev_int, ↓ev_nils, ↓guardP_eq, grd_some, ↓iop_move, ↓iop_assign, ↓pick3_bool, ↓iop_pick, ↓iop_alloc, ↓iop_buildSlice, ↓iop_binOp, ↓iop_callb, bi_len, lenM_none, bi_append, lenP_lits, elemsP_lits, appendP_ref, b_gtr, bel_nil, env0_eq, Store.new, Store.set, ↓reduceIte, arr_eq, arrB_some, bslP_eq, ne_eq, List.drop_nil, List.take_nil, ↓evs_cons, ↓evs_nil, ↓evp_nil, beq_self_eq_true, e_rgt, e_rsum, e_rbef, nth_psts, pur_psts, nth_gaps, pur_gaps, nth_pays, pur_pays, Try.f12, ty22, ty30, ty61, n1i, n2i, z1, z2, z4, z5, k1, k2, k3]
        refine tail _ _ ?_
        simp +contextual (maxSteps := 4000000) only [↓upd_same, ↓upd_ne, Nat.reduceBEq, true_and, and_true, List.getD_cons_zero, List.getD_cons_succ, Option.some.injEq, updO_same, updO_ne, List.length_append, IObj.arr.injEq, Nat.lt_succ_self, env0_eq, ↓reduceIte, nth_psts, pur_psts, nth_gaps, pur_gaps, nth_pays, pur_pays, Try.f12, hto, htm]
        exact ⟨2, rfl, rfl, by rw [List.map_append]⟩
  case h2 =>
    rintro ρ0 ⟨ob0, M0⟩ ⟨t0, t1, t4, t6, t7, ⟨g5, t5, o2⟩, o0, o1, hM0⟩
    dsimp only at o2 o0 o1 hM0
    subst hM0
    have hspec : (∀ p ∈ o ++ m, rgtO p) → specW o m (o ++ m) (o ++ m).length = specL o m := fun h => specW_eq (by omega) (by omega) h _ (Nat.le_refl _)
    obtain ⟨all, hall⟩ : ∃ all, all = o ++ m := ⟨_, rfl⟩
    rw [← hall] at hE2 t5 o2 hal hspec
    refine loop_cnt [6, 7, 8, 9, 10, 11, 12, 27, 28, 29, 30, 31, 32, 33, 34, 35, 36, 37, 38, 39, 40, 41, 42, 43, 44, 45, 46, 47, 48, 49, 50, 51, 52, 53, 54, 55, 56, 57, 58, 59, 60, 61, 62, 63, 64, 65, 66, 67, 68, 69, 70, 71, 72, 73, 74, 75, 76, 77, 78, 79, 80, 81, 82, 83, 84, 85, 86, 87, 88, 89, 90, 91, 92, 93, 94, 95, 96, 97, 98, 99, 100, 101, 102, 103, 104, 105, 106, 107, 108, 109, 110, 111, 112, 113, 114, 115] all.length (fun k ρ st' => ρ 7 = I k ∧ ρ 5 = .lits 6 (all.map pstV) ∧ (∀ j, j < k → rgtO (all.getD j dP)) ∧ (∃ A g, ρ 6 = .ref A g 0 (specW o m all k).length ∧ st'.obj A = some (.arr g 5 ((specW o m all k).map gapV)) ∧ ¬ A = 1 ∧ A < st'.next) ∧ (∃ g0 z0 es0, st'.obj 0 = some (.arr g0 z0 es0)) ∧ st'.obj 1 = some (.arr 0 2 [.agg [.nils, I 0]]) ∧ 3 ≤ st'.next) (.trans (.sealv _ 5 (.lits 6 (all.map pstV)) [2] ?_ ?_) (.slot _ 6 5 ?_ ?_)) ?_ ?_
    · show ρ0 5 ≠ PV.bad
      rw [t5]; intro h; cases h
    · have hp := pur_psts (l := all)
      simp only [t5, rdP, rdC, Store.only, Store.arr?]
      simp [o2, hp]
      exact List.take_of_length_le (by rw [List.length_map]; exact Nat.le_refl _)
    · simp only [upd]; rw [if_neg (by decide)]; exact t6
    · decide
    · simp only [specW]
      have c0 : ¬ 3 = 0 := by decide
      have c1 : ¬ 0 = 3 := by decide
      have c2 : ¬ 1 = 3 := by decide
      simp +contextual (maxSteps := 4000000) only [Option.map_some, Bool.false_eq_true, ↓upd_same, ↓upd_ne, Nat.reduceBEq, true_and, and_true, List.map_cons, List.map_nil, List.contains_cons, List.contains_nil, Bool.or_false, Option.some.injEq, updO_ne, List.length_nil, Nat.reduceAdd, Nat.reduceLeDiff, IObj.arr.injEq, seal_obj, seal_next, sealO_arr, sealE_agg, sealC_int, sealC_nils, Store.new, ↓reduceIte, Int.cast_ofNat_Int, nth_psts, pur_psts, nth_gaps, pur_gaps, nth_pays, pur_pays, Try.f12, t7, o0, o1, c0, c1, c2]
      refine ⟨fun j hj => absurd hj (by omega), ⟨3, 0, rfl, by simp [updO], by decide, by decide⟩, ?_⟩
      exact ⟨_, _, _, rfl, rfl, rfl⟩
    rintro k ρ ⟨ob, M⟩ hk ⟨h7, h5, hrg, ⟨A, g, h6, oA, hA1, hAM⟩, ⟨g0, z0, es0, o0⟩, o1, hM⟩
    dsimp only at oA hAM o0 o1 hM
    have m0 : ¬ 0 = M := by omega
    have m1 : ¬ 1 = M := by omega
    have m2 : ¬ M = 0 := by omega
    have m3 : ¬ M = 1 := by omega
    have m4 : ¬ A = M := by omega
    have m5 : ¬ M = A := by omega
    have m6 : ¬ 0 = M + 1 := by omega
    have m7 : ¬ 1 = M + 1 := by omega
    have m8 : ¬ M + 1 = 0 := by omega
    have m9 : ¬ M + 1 = 1 := by omega
    have m10 : ¬ A = M + 1 := by omega
    have m11 : ¬ M + 1 = A := by omega
    have m12 : ¬ M = M + 1 := by omega
    have m13 : ¬ M + 1 = M := by omega
    have m14 : ¬ 1 = A := fun h => hA1 h.symm
    by_cases hlt : k < all.length
    case neg =>
      have e : k = all.length := by omega
      subst e
      have hok : ∀ p ∈ all, rgtO p := at_psts hrg
      have e1 : E = 0 := by rw [hE2, if_neg (fun h => h hok)]
      have e2 : L = specW o m all all.length := by rw [hspec hok, ← hL]; unfold dspL; rw [if_pos (by rw [hE, e1])]
      rw [← e2] at h6 oA
      subst e1
      have htk : List.take L.length (L.map gapV) = L.map gapV := List.take_of_length_le (by rw [List.length_map]; exact Nat.le_refl _)
      simp +contextual (maxSteps := 4000000) only [↓ur_seq, ↓ur_exit, ↓ur_ret, ↓ur_region, ↓ur_cond, ↓cont_seq, ↓leave_seq, ↓leave_blk, ↓leave_lp, ↓done_nil, ↓ops_consN, nY_move, nY_build, nY_store, nY_binOp, nilO_tmp, nY_callb, ↓ops_nil, opsIf_some, opsIf_none, condC_false, Option.map_some, Option.bind_some, Option.getD_some, Nat.reduceLT, ↓upd_same, ↓upd_ne, Nat.reduceBEq, true_and, and_true, endQ, cfg_P, List.length_map, ↓havoc_in, ↓havoc_out, List.contains_cons, List.contains_nil, Bool.or_false, Bool.or_true, Int.ofNat_lt, decide_false, Option.some.injEq, exists_eq_left', Bool.and_self, List.cons_append, List.nil_append, List.append_nil, updO_same, updO_ne, List.length_cons, List.length_nil, Nat.zero_add, List.drop_zero, List.take_zero, Nat.reduceAdd, List.set_cons_zero, Nat.reduceLeDiff, nth_zero, Prod.mk.injEq, Nat.lt_irrefl, Nat.lt_succ_self, Bool.not_false, not_false_eq_true, Nat.le_refl, isCell_int, isCell_lits, cells_ref, cells_agg, DRx_int, DRx_ref, DRx_agg, DRxL_cons, DRxL_nil, ↓ev_tmp, ↓iop_move, ↓iop_build, ↓iop_store, ↓iop_binOp, ↓iop_callb, bi_len, lenM_none, pickP_t, loadP_ptr, setCells_agg, storeP_ptr, lenP_lits, b_lss, fill_nil, fill_cons, fill1_some, buildP_eq, bldA_none, splice_eq, ires_eq, iresL_1, iresAll_nil, iresAll_cons, iresOne_cell, seal_next, Store.set, ↓reduceIte, arr_eq, arrB_some, beq_eq_false_iff_ne, ne_eq, List.take_succ_cons, List.drop_succ_cons, List.drop_nil, List.take_nil, ↓evs_cons, ↓evs_nil, ↓evp_cons, ↓evp_nil, beq_self_eq_true, List.all_cons, List.all_nil, nth_psts, pur_psts, nth_gaps, pur_gaps, nth_pays, pur_pays, Try.f12, ty22, ty30, h7, h5, h6, oA, o1, t4, hA1, m14, htk]
    have hwk := wrapN' (k := k) (by omega)
    have hmem : all.getD k dP ∈ all := by rw [List.getD_eq_getElem?_getD, List.getElem?_eq_getElem hlt]; exact List.getElem_mem hlt
    have hst : specW o m all (k + 1) = if 0 < preW all k (all.getD k dP) ∨ (gapW o m (all.getD k dP)).2.2.2.1 = (gapW o m (all.getD k dP)).2.2.2.2 then specW o m all k else insG (gapW o m (all.getD k dP)) (specW o m all k) := rfl
    by_cases hp : rgtO (all.getD k dP)
    case neg =>
      have e1 : E = 1 := by rw [hE2, if_pos (fun h => hp (h _ hmem))]
      have e2 := bad (by omega)
      subst e1 e2
      generalize hy : all.getD k dP = y at *
      simp +contextual (maxSteps := 4000000) only [↓ur_skip, ↓ur_seq, ↓ur_block, ↓ur_ret, ↓ur_region, ↓ur_cond, ↓cont_seq, ↓done_nil, ↓done_seq, ↓done_blk, ↓done_lp, ↓ops_consN, nY_move, nY_assign, nY_alloc, nY_build, nY_load, nY_store, nY_binOp, nilO_tmp, nY_unOp, nY_indexAddr, nY_callf, nY_callb, ↓ops_nil, opsIf_some, opsIf_none, condC_true, Option.map_some, Option.bind_some, Option.getD_some, Nat.reduceLT, Bool.false_eq_true, ↓upd_same, ↓upd_ne, Nat.reduceBEq, and_true, endQ, cfg_P, cfg_tab, cfg_muts, cfg_frz, cfg_num, numOf_eq, List.map_nil, List.length_map, ↓havoc_in, ↓havoc_out, List.contains_cons, List.contains_nil, Bool.or_false, Bool.or_true, Int.natCast_nonneg, Int.ofNat_lt, Int.toNat_natCast, decide_true, decide_false, Option.some.injEq, exists_eq_left', List.lookup_nil, tabOf_cons, tab_v, Bool.and_self, List.cons_append, List.nil_append, List.append_nil, updO_same, updO_ne, List.length_cons, List.length_nil, Nat.zero_add, List.drop_zero, List.take_zero, Nat.reduceAdd, List.set_cons_zero, nth_zero, Nat.lt_succ_self, Bool.not_false, not_false_eq_true, Nat.le_refl, cells_int, pur_int, isCell_int, isCell_lits, cells_agg, pur_agg, DRx_int, DRx_nils_lits, DRx_agg, DRxL_cons, DRxL_nil, ↓ev_tmp, ↓ev_int, ↓ev_func, ↓iop_move, ↓iop_assign, ↓iop_alloc, ↓iop_build, ↓iop_load, ↓iop_store, ↓iop_binOp, ↓iop_unOp, ↓iop_indexAddr, idxA_int, ↓iop_callv, ↓iop_callb, nrmAll_cons, nrmAll_nil, bi_len, lenM_none, nrm_agg, nrmL_cons, nrmL_nil, nrm1_int, pickP_t, loadP_vptr, loadP_ptr, setCells_agg, storeP_ptr, indexP_lits, lenP_lits, b_lss, u_not, fill_nil, fill_cons, fill1_some, buildP_eq, bldA_none, splice_eq, ires_eq, iresL_1, iresAll_nil, iresAll_cons, iresOne_cell, seal_next, valT_eq, pursL_cons, pursL_nil, Store.new, Store.set, ↓reduceIte, arr_eq, arrB_some, callP_eq, tsOf_eq, beq_eq_false_iff_ne, ne_eq, List.take_succ_cons, List.drop_succ_cons, List.drop_nil, List.take_nil, ↓evs_cons, ↓evs_nil, ↓evp_cons, ↓evp_nil, beq_self_eq_true, List.all_cons, List.all_nil, see_eq, and_false, Bool.true_eq_false, s_rgt, nth_psts, pur_psts, nth_gaps, pur_gaps, nth_pays, pur_pays, Try.f12, ty22, ty30, ty61, h7, h5, hlt, hy, hp, o1, t4, m0, m1, m2, m3]
    have hrg2 : ∀ j, j < k + 1 → rgtO (all.getD j dP) := fun j hj => by
      by_cases e : j = k
      · subst e; exact hp
      · exact hrg j (by omega)
    have hol : o.length ≤ 100000 := by omega
    have hml : m.length ≤ 100000 := by omega
    have hsl : List.take k (all.map pstV) = (all.take k).map pstV := by rw [List.map_take]
    have hkl : (all.take k).length ≤ 100000 := by rw [List.length_take]; omega
    have hki : (k : Int) ≤ (all.length : Int) := by omega
    have hsub : k - 0 = k := rfl
    have hout := specW_len (o := o) (m := m) (all := all) k
    rw [hst]
    generalize specW o m all k = out at *
    generalize hy : all.getD k dP = y at *
    unfold preW gapW
    obtain ⟨s0, hs0⟩ : ∃ s0, sumW (all.take k) y.1 y.2.1 y.2.2.2.2.1 (all.take k).length = s0 := ⟨_, rfl⟩
    obtain ⟨s1, hs1⟩ : ∃ s1, sumW o y.1 y.2.1 y.2.2.2.2.1 o.length = s1 := ⟨_, rfl⟩
    obtain ⟨s2, hs2⟩ : ∃ s2, sumW m y.1 y.2.1 y.2.2.2.2.1 m.length = s2 := ⟨_, rfl⟩
    rw [hs0, hs1, hs2]
    dsimp only
    by_cases c1 : 0 < s0
    · rw [if_pos (.inl c1)]
      simp +contextual (maxSteps := 4000000) only [↓ur_skip, ↓ur_seq, ↓ur_block, ↓ur_exit, ↓ur_region, ↓ur_cond, ↓cont_seq, ↓cont_lp, ↓leave_seq, ↓leave_blk, ↓ops_consN, ↓ops_guardN, nY_move, nY_assign, nY_pick, nY_alloc, nY_build, nY_load, nY_store, nY_binOp, nilO_tmp, nilO_int, nY_unOp, nY_slice, nY_fieldAddr, nY_indexAddr, nY_callf, nY_callb, ↓ops_nil, opsIf_some, opsIf_none, condC_true, condC_false, guardC_tf, Option.map_some, Option.map_none, Option.bind_some, Option.getD_some, Option.getD_none, Nat.reduceLT, Bool.false_eq_true, ↓upd_same, ↓upd_ne, Nat.reduceBEq, true_and, and_true, List.getElem?_toArray, List.getElem?_cons_zero, List.getElem?_cons_succ, cfg_P, cfg_tab, cfg_muts, cfg_frz, cfg_num, numOf_eq, List.length_map, ↓havoc_in, ↓havoc_out, agree_upd, agree_havoc, List.contains_cons, List.contains_nil, Bool.or_false, Bool.or_true, Int.natCast_nonneg, Int.ofNat_lt, Int.toNat_natCast, decide_true, Option.some.injEq, List.lookup_nil, tabOf_cons, tab_v, Bool.and_self, Nat.reduceEqDiff, List.cons_append, List.nil_append, List.append_nil, updO_same, updO_ne, List.length_cons, List.length_nil, Nat.zero_add, Nat.add_zero, List.drop_zero, List.take_zero, Nat.reduceAdd, List.set_cons_zero, Nat.reduceLeDiff, nth_zero, IObj.arr.injEq, Nat.lt_succ_self, Bool.not_true, Bool.not_false, not_false_eq_true, Int.reduceToNat, Nat.le_refl, cells_int, pur_int, pur_lits, cells_agg, pur_agg, ↓ev_tmp, ↓ev_int, ↓ev_bool, ↓ev_func, ↓guardP_eq, grd_some, ↓iop_move, ↓iop_assign, ↓pick3_bool, ↓iop_pick, ↓iop_alloc, ↓iop_build, ↓iop_load, ↓iop_store, ↓iop_binOp, ↓iop_unOp, ↓iop_slice, intOfP_int, slcP_ft, ↓iop_fieldAddr, ↓iop_indexAddr, idxA_int, ↓iop_callv, ↓iop_callb, nrmAll_cons, nrmAll_nil, bi_len, lenM_none, nrm_agg, nrmL_cons, nrmL_nil, nrm_int, nrm_lits, nrm1_int, pickP_f, pickP_t, loadP_vptr, loadP_ptr, setCells_agg, storeP_ptr, fieldP_ptr, indexP_lits, lenP_lits, sliceP_lits, b_add, b_lss, b_gtr, u_not, fill_nil, fill_cons, fill1_some, buildP_eq, bldA_none, splice_eq, seal_next, valT_eq, pursL_cons, pursL_nil, Store.new, Store.set, ↓reduceIte, arr_eq, arrB_some, callP_eq, tsOf_eq, beq_eq_false_iff_ne, ne_eq, Nat.reduceBeqDiff, List.take_succ_cons, List.drop_succ_cons, List.drop_nil, List.take_nil, ↓evs_cons, ↓evs_nil, ↓evp_cons, ↓evp_nil, Int.le_refl, beq_self_eq_true, see_eq, and_false, Bool.true_eq_false, s_rgt, s_rsum, nth_psts, pur_psts, nth_gaps, pur_gaps, nth_pays, pur_pays, Try.f12, ty3, ty22, ty61, ty64, h7, h5, t0, t1, hlt, hy, hp, o1, o0, m0, m1, m2, m3, m6, m7, m8, m9, m12, m13, hol, hml, hs1, hs2, hsl, hkl, hki, hsub, hs0, c1, hwk]
      exact ⟨hrg2, ⟨A, g, h6, by simp [updO, m4, m10, oA], hA1, by omega⟩, ⟨_, _, _, rfl, rfl, rfl⟩, by omega⟩
    by_cases c2 : s1 = s2
    · rw [if_pos (.inr c2)]
      simp +contextual (maxSteps := 4000000) only [↓ur_skip, ↓ur_seq, ↓ur_block, ↓ur_exit, ↓ur_region, ↓ur_cond, ↓cont_seq, ↓cont_lp, ↓leave_seq, ↓leave_blk, ↓ops_consN, ↓ops_guardN, nY_move, nY_assign, nY_pick, nY_alloc, nY_build, nY_load, nY_store, nY_binOp, nilO_tmp, nilO_int, nY_unOp, nY_slice, nY_fieldAddr, nY_indexAddr, nY_callf, nY_callb, ↓ops_nil, opsIf_some, opsIf_none, condC_true, condC_false, guardC_ff, Option.map_some, Option.map_none, Option.bind_some, Option.getD_some, Option.getD_none, Nat.reduceLT, Bool.false_eq_true, ↓upd_same, ↓upd_ne, Nat.reduceBEq, true_and, and_true, List.getElem?_toArray, List.getElem?_cons_zero, List.getElem?_cons_succ, cfg_P, cfg_tab, cfg_muts, cfg_frz, cfg_num, numOf_eq, List.length_map, ↓havoc_in, ↓havoc_out, agree_upd, agree_havoc, List.contains_cons, List.contains_nil, Bool.or_false, Bool.or_true, Int.natCast_nonneg, Int.ofNat_lt, Int.toNat_natCast, decide_true, decide_false, Option.some.injEq, List.lookup_nil, tabOf_cons, tab_v, Bool.and_self, Nat.reduceEqDiff, List.cons_append, List.nil_append, List.append_nil, updO_same, updO_ne, List.length_cons, List.length_nil, Nat.zero_add, Nat.add_zero, List.drop_zero, List.take_zero, Nat.reduceAdd, List.set_cons_zero, Nat.reduceLeDiff, nth_zero, IObj.arr.injEq, Nat.lt_succ_self, Bool.not_true, Bool.not_false, not_false_eq_true, Int.reduceToNat, Nat.le_refl, cells_int, pur_int, pur_lits, cells_agg, pur_agg, ↓ev_tmp, ↓ev_int, ↓ev_func, ↓guardP_eq, grd_some, ↓iop_move, ↓iop_assign, ↓pick3_bool, ↓iop_pick, ↓iop_alloc, ↓iop_build, ↓iop_load, ↓iop_store, ↓iop_binOp, ↓iop_unOp, ↓iop_slice, intOfP_int, slcP_ft, ↓iop_fieldAddr, ↓iop_indexAddr, idxA_int, ↓iop_callv, ↓iop_callb, nrmAll_cons, nrmAll_nil, bi_len, lenM_none, nrm_agg, nrmL_cons, nrmL_nil, nrm_int, nrm_lits, nrm1_int, pickP_f, pickP_t, loadP_vptr, loadP_ptr, setCells_agg, storeP_ptr, fieldP_ptr, indexP_lits, lenP_lits, sliceP_lits, b_add, b_eql, b_lss, b_gtr, u_not, fill_nil, fill_cons, fill1_some, buildP_eq, bldA_none, splice_eq, seal_next, valT_eq, pursL_cons, pursL_nil, Store.new, Store.set, ↓reduceIte, arr_eq, arrB_some, callP_eq, tsOf_eq, beq_eq_false_iff_ne, ne_eq, Nat.reduceBeqDiff, List.take_succ_cons, List.drop_succ_cons, List.drop_nil, List.take_nil, ↓evs_cons, ↓evs_nil, ↓evp_cons, ↓evp_nil, Int.le_refl, beq_self_eq_true, see_eq, and_false, Bool.true_eq_false, s_rgt, s_rsum, nth_psts, pur_psts, nth_gaps, pur_gaps, nth_pays, pur_pays, Try.f12, ty3, ty22, ty61, ty64, h7, h5, t0, t1, hlt, hy, hp, o1, o0, m0, m1, m2, m3, m6, m7, m8, m9, m12, m13, hol, hml, hs1, hs2, hsl, hkl, hki, hsub, hs0, c1, c2, hwk]
      exact ⟨hrg2, ⟨A, g, h6, by simp [updO, m4, m10, oA], hA1, by omega⟩, ⟨_, _, _, rfl, rfl, rfl⟩, by omega⟩
    rw [if_neg (fun h => h.elim c1 c2)]
    simp +contextual (maxSteps := 4000000) only [↓ur_skip, ↓ur_seq, ↓ur_block, ↓ur_region, ↓ur_cond, ↓cont_seq, ↓ops_consN, ↓ops_guardN, nY_move, nY_assign, nY_pick, nY_alloc, nY_build, nY_load, nY_store, nY_binOp, nilO_tmp, nilO_int, nY_unOp, nY_slice, nY_fieldAddr, nY_indexAddr, nY_callf, nY_callb, ↓ops_nil, opsIf_some, opsIf_none, condC_true, condC_false, guardC_ff, Option.map_some, Option.map_none, Option.bind_some, Option.getD_some, Option.getD_none, Nat.reduceLT, Bool.false_eq_true, ↓upd_same, ↓upd_ne, Nat.reduceBEq, true_and, and_true, List.getElem?_toArray, List.getElem?_cons_zero, List.getElem?_cons_succ, cfg_P, cfg_tab, cfg_muts, cfg_frz, cfg_num, numOf_eq, List.length_map, ↓havoc_in, ↓havoc_out, List.contains_cons, List.contains_nil, Bool.or_false, Bool.or_true, Int.natCast_nonneg, Int.ofNat_lt, Int.toNat_natCast, decide_true, decide_false, List.lookup_nil, tabOf_cons, tab_v, Bool.and_self, Nat.reduceEqDiff, List.cons_append, List.nil_append, List.append_nil, updO_same, updO_ne, List.length_cons, List.length_nil, Nat.zero_add, Nat.add_zero, List.drop_zero, List.take_zero, Nat.reduceAdd, List.set_cons_zero, Nat.reduceLeDiff, nth_zero, Nat.lt_succ_self, Bool.not_true, Bool.not_false, not_false_eq_true, Int.reduceToNat, Nat.le_refl, cells_int, pur_int, pur_lits, cells_agg, pur_agg, ↓ev_tmp, ↓ev_int, ↓ev_func, ↓guardP_eq, grd_some, ↓iop_move, ↓iop_assign, ↓pick3_bool, ↓iop_pick, ↓iop_alloc, ↓iop_build, ↓iop_load, ↓iop_store, ↓iop_binOp, ↓iop_unOp, ↓iop_slice, intOfP_int, slcP_ft, ↓iop_fieldAddr, ↓iop_indexAddr, idxA_int, ↓iop_callv, ↓iop_callb, nrmAll_cons, nrmAll_nil, bi_len, lenM_none, nrm_agg, nrmL_cons, nrmL_nil, nrm_int, nrm_lits, nrm1_int, pickP_f, pickP_t, loadP_vptr, loadP_ptr, setCells_agg, storeP_ptr, fieldP_ptr, indexP_lits, lenP_lits, lenP_ref, sliceP_lits, b_eql, b_lss, b_gtr, u_not, fill_nil, fill_cons, fill1_some, buildP_eq, bldA_none, splice_eq, seal_next, valT_eq, pursL_cons, pursL_nil, Store.new, Store.set, ↓reduceIte, arr_eq, arrB_some, callP_eq, tsOf_eq, beq_eq_false_iff_ne, ne_eq, List.take_succ_cons, List.drop_succ_cons, List.drop_nil, List.take_nil, ↓evs_cons, ↓evs_nil, ↓evp_cons, ↓evp_nil, Int.le_refl, beq_self_eq_true, see_eq, and_false, Bool.true_eq_false, s_rgt, s_rsum, nth_psts, pur_psts, nth_gaps, pur_gaps, nth_pays, pur_pays, Try.f12, ty3, ty22, ty25, ty61, ty64, h7, h5, t0, t1, h6, hlt, hy, hp, o1, o0, oA, m0, m1, m2, m3, m4, m5, m6, m7, m8, m9, m10, m11, m12, m13, hol, hml, hs1, hs2, hsl, hkl, hki, hsub, hs0, c1, c2, hwk]
    obtain ⟨x, hx⟩ : ∃ x : Gap, x = (y.1, y.2.1, y.2.2.2.2.1, s1, s2) := ⟨_, rfl⟩
    rw [← hx]
    have hpo := pur_gaps (l := out)
    refine loop_cnt [11, 87, 88, 89, 90, 91, 92, 93, 94, 95, 96, 97, 98, 99, 100] out.length (fun j ρ st' => ρ 11 = I ((out.length - j : Nat) : Int) ∧ posG x out (out.length - j) = posG x out out.length ∧ (∃ g0 z0 es0, st'.obj 0 = some (.arr g0 z0 es0)) ∧ st'.obj 1 = some (.arr 0 2 [.agg [.nils, I 0]]) ∧ M + 2 ≤ st'.next) (frz2 (d1 := 10) (id1 := M + 1) (z1 := 5) (e := gapV x) (d2 := 6) (A := A) (g := g) (z2 := 5) (n := out.length) (es := out.map gapV) ?_ ?_ ?_ ?_ ?_ ?_ ?_ ?_ ?_) ?_ ?_
    · simp +contextual (maxSteps := 4000000) only [↓upd_same, ↓upd_ne, Nat.reduceBEq, nth_psts, pur_psts, nth_gaps, pur_gaps, nth_pays, pur_pays, Try.f12]
    · simp +contextual (maxSteps := 4000000) only [updO_same, nth_psts, pur_psts, nth_gaps, pur_gaps, nth_pays, pur_pays, Try.f12, hx]
    · simp [pursL_cons, pur_agg, pur_int, pursL_nil]
    · simp +contextual (maxSteps := 4000000) only [↓upd_ne, Nat.reduceBEq, ↓havoc_in, List.contains_cons, List.contains_nil, Bool.or_false, beq_self_eq_true, nth_psts, pur_psts, nth_gaps, pur_gaps, nth_pays, pur_pays, Try.f12, h6]
    · rw [List.length_map]
    · simp +contextual (maxSteps := 4000000) only [updO_ne, not_false_eq_true, beq_eq_false_iff_ne, ne_eq, nth_psts, pur_psts, nth_gaps, pur_gaps, nth_pays, pur_pays, Try.f12, oA, m4, m10]
    · exact hpo
    · exact m10
    · decide
    · by_cases hA0 : A = 0
      · subst hA0
        simp +contextual (maxSteps := 4000000) only [map_if, Option.map_some, Option.map_none, Option.bind_some, Bool.false_eq_true, ↓upd_same, ↓upd_ne, Nat.reduceBEq, true_and, and_true, List.map_cons, List.map_nil, List.contains_cons, List.contains_nil, Bool.or_false, Option.some.injEq, PV.int.injEq, updO_ne, Nat.zero_add, Nat.reduceAdd, IObj.arr.injEq, not_false_eq_true, Nat.le_refl, seal_obj, seal_next, againO_arr, sealO_arr, sealE_agg, sealC_int, sealC_nils, ↓reduceIte, beq_eq_false_iff_ne, ne_eq, Nat.reduceBeqDiff, Int.natCast_inj, without_obj, without_next, beq_self_eq_true, beq_iff_eq, nth_psts, pur_psts, nth_gaps, pur_gaps, nth_pays, pur_pays, Try.f12, oA, o1, m0, m1, m6, m7]
        exact ⟨rfl, rfl, ⟨_, _, _, rfl, rfl, rfl⟩, if_neg m2⟩
      · have hA0' : ¬ 0 = A := fun h => hA0 h.symm
        simp +contextual (maxSteps := 4000000) only [map_if, Option.map_some, Option.map_none, Bool.false_eq_true, ↓upd_same, ↓upd_ne, Nat.reduceBEq, true_and, and_true, List.map_cons, List.map_nil, List.contains_cons, List.contains_nil, Bool.or_false, Option.some.injEq, PV.int.injEq, updO_ne, Nat.zero_add, Nat.reduceAdd, IObj.arr.injEq, not_false_eq_true, Nat.le_refl, seal_obj, seal_next, sealO_arr, sealE_agg, sealC_int, sealC_nils, ↓reduceIte, beq_eq_false_iff_ne, ne_eq, Nat.reduceBeqDiff, Int.natCast_inj, without_obj, without_next, beq_iff_eq, nth_psts, pur_psts, nth_gaps, pur_gaps, nth_pays, pur_pays, Try.f12, o0, o1, hA0, hA0', hA1, m14, m0, m1, m6, m7]
        exact ⟨rfl, rfl, ⟨_, _, _, rfl, rfl, rfl⟩, if_neg m2⟩
    rintro j ρ2 ⟨ob2, M2⟩ hj ⟨h11, hpg, ⟨g1, z1, es1, p0⟩, p1, hM2⟩
    dsimp only at p0 p1 hM2
    have q0 : ¬ 0 = M2 := by omega
    have q1 : ¬ 1 = M2 := by omega
    have q2 : ¬ M2 = 0 := by omega
    have q3 : ¬ M2 = 1 := by omega
    obtain ⟨a, ha⟩ : ∃ a, a = out.length - j := ⟨_, rfl⟩
    rw [← ha] at h11 hpg
    have hai : (a : Int) ≤ (out.length : Int) := by omega
    have fin : posG x out out.length = a → ¬ (0 < a ∧ befG x (out.getD (a - 1) dG)) := fun h g => by
      rw [← hpg] at h
      obtain ⟨b, hb⟩ : ∃ b, a = b + 1 := ⟨a - 1, by omega⟩
      subst hb
      simp only [posG] at h
      rw [if_pos (by simpa using g.2)] at h
      have := posG_le (x := x) (out := out) b
      omega
    by_cases hgo : 0 < a ∧ befG x (out.getD (a - 1) dG)
    · obtain ⟨ha0, hbf⟩ := hgo
      have ha0i : (0 : Int) < (a : Int) := by omega
      have hw1 : IntKind.i64.wrap ((a : Int) - 1) = ((a - 1 : Nat) : Int) := by rw [wrap64 (by omega) (by omega)]; omega
      have hal1 : a - 1 < out.length := by omega
      have hnx : out.length - (j + 1) = a - 1 := by omega
      have hpg2 : posG x out (a - 1) = posG x out out.length := by
        rw [← hpg]
        obtain ⟨b, hb⟩ : ∃ b, a = b + 1 := ⟨a - 1, by omega⟩
        subst hb
        simp only [posG]
        rw [if_pos (by simpa using hbf)]; rfl
      have hjl : j < out.length := by omega
      have hmx : (if 0 < a - 1 then ((a - 1 : Nat) : Int) else 0) = ((a - 1 : Nat) : Int) := by split <;> omega
      rw [hnx]
      simp +contextual (maxSteps := 4000000) only [↓ur_skip, ↓ur_seq, ↓ur_block, ↓ur_region, ↓ur_cond, ↓cont_seq, ↓cont_blk, ↓cont_lp, ↓ops_consN, ↓ops_guardN, nY_move, nY_assign, nY_pick, nY_load, nY_binOp, nilO_int, nY_indexAddr, nY_callf, nY_callb, ↓ops_nil, opsIf_some, condC_true, guardC_tt, Option.map_some, Option.bind_some, Option.getD_some, Nat.reduceLT, Bool.false_eq_true, ↓upd_same, ↓upd_ne, Nat.reduceBEq, true_and, and_true, List.getElem?_toArray, List.getElem?_cons_zero, List.getElem?_cons_succ, cfg_P, cfg_tab, cfg_muts, cfg_frz, List.length_map, ↓havoc_in, ↓havoc_out, agree_upd, agree_havoc, List.contains_cons, List.contains_nil, Bool.or_false, Bool.or_true, Int.natCast_nonneg, Int.ofNat_lt, Int.toNat_natCast, decide_true, Option.some.injEq, List.lookup_nil, tabOf_cons, tab_v, Bool.and_self, Nat.reduceEqDiff, List.nil_append, List.append_nil, List.length_cons, List.length_nil, Nat.zero_add, List.drop_zero, Nat.reduceAdd, IObj.arr.injEq, Bool.not_false, Nat.le_refl, pur_int, cells_agg, pur_agg, ↓ev_tmp, ↓ev_int, ↓ev_func, ↓guardP_eq, grd_some, ↓iop_move, ↓iop_assign, ↓pick3_bool, ↓iop_pick, ↓iop_load, ↓iop_binOp, ↓iop_indexAddr, idxA_int, ↓iop_callv, ↓iop_callb, nrmAll_cons, nrmAll_nil, bi_max, nrm_agg, nrmL_cons, nrmL_nil, nrm1_int, pickP_t, loadP_vptr, indexP_lits, b_sub, b_gtr, valT_eq, pursL_cons, pursL_nil, ↓reduceIte, callP_eq, tsOf_eq, List.take_succ_cons, List.take_nil, ↓evs_cons, ↓evs_nil, Int.natCast_pos, beq_self_eq_true, see_eq, and_false, Bool.true_eq_false, s_rbef, nth_psts, pur_psts, nth_gaps, pur_gaps, nth_pays, pur_pays, Try.f12, ty25, ty64, h11, p0, p1, ha0i, hw1, hal1, hmx, hbf, hjl, hpg2]
      exact ⟨⟨_, _, _, rfl, rfl, rfl⟩, hM2⟩
    · have hpos : posG x out out.length = a := by
        rw [← hpg]
        rcases Nat.eq_zero_or_pos a with h0 | h0
        · rw [h0]; rfl
        · obtain ⟨b, hb⟩ : ∃ b, a = b + 1 := ⟨a - 1, by omega⟩
          subst hb
          simp only [posG]
          rw [if_neg (fun h => hgo ⟨h0, by simpa using h⟩)]
      have hins : insG x out = out.take a ++ [x] ++ out.drop a := by unfold insG; rw [hpos]
      have hil : (insG x out).length = out.length + 1 := insG_len
      have hal : a ≤ out.length := by omega
      have hta : List.take a (out.map gapV) = (out.take a).map gapV := by rw [List.map_take]
      have htd : List.take (out.length - a) (List.drop a (out.map gapV)) = (out.drop a).map gapV := by
        rw [← List.map_drop, List.take_of_length_le (by simp)]
      have hla : (out.take a).length = a := by rw [List.length_take]; omega
      have hld : (out.drop a).length = out.length - a := by rw [List.length_drop]
      have hfin : (out.take a).map gapV ++ [PV.agg [I x.1, I x.2.1, I x.2.2.1, I x.2.2.2.1, I x.2.2.2.2]] ++ (out.drop a).map gapV = (insG x out).map gapV := by rw [hins, List.map_append, List.map_append]; rfl
      have hxx : x.1 = y.1 ∧ True := ⟨by rw [hx], trivial⟩
      have hrest : ∀ (H : a = 0 ∨ 0 < a), True := fun _ => trivial
      have k1 : out.length + 1 ≤ 2147483648 := by omega
      have k2 : out.length - a ≤ 2147483648 := by omega
      have k3 : a ≤ 2147483648 := by omega
      have k4 : a + 1 ≤ 2147483648 := by omega
      have k5 : a + 1 + (out.length - a) ≤ 2147483648 := by omega
      have k6 : a + 1 + (out.length - a) = out.length + 1 := by omega
      have k7 : a - 0 = a := rfl
      have u1 : ¬ 0 = M2 + 1 := by omega
      have hcond : ¬ 0 < a ∨ ∃ b, a = b + 1 ∧ b < out.length ∧ ¬ befG x (out.getD b dG) := by
        rcases Nat.eq_zero_or_pos a with h0 | h0
        · exact .inl (by omega)
        · exact .inr ⟨a - 1, by omega, by omega, fun h => hgo ⟨h0, h⟩⟩
      rcases hcond with h0 | ⟨b, rfl, hbl, hnb⟩
      · have h0 : a = 0 := by omega
        subst h0
        have hz : ((0 : Nat) : Int) = 0 := rfl
        by_cases hn : out.length = 0
        · have ho : out = [] := List.length_eq_zero_iff.1 hn
          have hil1 : (insG x out).length = 1 := by rw [hil, hn]
          have hfin1 : [PV.agg [I x.1, I x.2.1, I x.2.2.1, I x.2.2.2.1, I x.2.2.2.2]] = (insG x out).map gapV := by rw [← hfin, ho]; rfl
          simp +contextual (maxSteps := 4000000) only [↓ur_seq, ↓ur_exit, ↓ur_region, ↓ur_cond, Nat.one_ne_zero, ↓cont_seq, ↓cont_blk, ↓cont_lp, ↓leave_seq, ↓leave_blk, ↓leave_lp, ↓ops_consN, ↓ops_guardN, nY_move, nY_assign, nY_pick, nY_buildSlice, nY_load, nY_binOp, nilO_int, nY_slice, nY_indexAddr, nY_callf, nY_callb, ↓ops_nil, opsIf_some, condC_false, guardC_ft, Option.map_some, Option.map_none, Option.bind_some, Option.getD_some, Option.getD_none, Nat.reduceLT, Bool.false_eq_true, ↓upd_same, ↓upd_ne, Nat.reduceBEq, true_and, and_true, List.getElem?_toArray, List.getElem?_cons_zero, List.getElem?_cons_succ, cfg_P, cfg_muts, cfg_frz, cfg_num, numOf_eq, List.length_map, ↓havoc_in, ↓havoc_out, agree_upd, List.contains_cons, List.contains_nil, Bool.or_false, Bool.or_true, decide_false, Option.some.injEq, Nat.reduceEqDiff, List.nil_append, List.append_nil, updO_same, updO_ne, List.length_cons, List.length_nil, Nat.zero_add, Nat.add_zero, List.drop_zero, List.take_zero, Nat.not_succ_le_self, Nat.reduceAdd, List.replicate_succ, List.replicate_zero, List.set_cons_zero, Nat.reduceMul, Nat.reduceLeDiff, IObj.arr.injEq, Nat.lt_succ_self, Bool.not_false, reduceCtorEq, not_false_eq_true, Int.reduceLT, Int.reduceToNat, or_false, Nat.le_refl, cells_agg, ↓ev_tmp, ↓ev_int, ↓ev_bool, ↓guardP_eq, grd_some, ↓iop_move, ↓iop_assign, ↓pick3_bool, ↓iop_pick, ↓iop_buildSlice, ↓iop_load, ↓iop_binOp, ↓iop_slice, intOfP_int, slcP_tf, slcP_ft, ↓iop_callb, bi_append, bi_append_re, appGuard_lits, pickP_t, loadP_vptr, elemsP_lits, elemsP_ref, sliceP_lits, appendP_ref, b_add, b_gtr, bel_nil, bel_cons, Store.new, Store.set, ↓reduceIte, arr_eq, arrB_some, bslP_eq, beq_eq_false_iff_ne, ne_eq, List.take_succ_cons, List.drop_succ_cons, List.drop_nil, List.take_nil, ↓evs_cons, ↓evs_nil, ↓evp_cons, ↓evp_nil, Int.le_refl, beq_self_eq_true, see_eq, nth_psts, pur_psts, nth_gaps, pur_gaps, nth_pays, pur_pays, Try.f12, ty25, ty64, h7, hwk, h11, p0, p1, q0, q1, q2, q3, hz, hn, e11, re_arr', reP_arr', reM_arr, rePM_arr, iop_alloc_re]
          rw [agree_havoc_sub (by decide +kernel)]
          simp +contextual (maxSteps := 4000000) only [Nat.reduceBEq, true_and, agree_upd, agree_havoc, List.contains_cons, List.contains_nil, Bool.or_false, Bool.or_true, beq_self_eq_true, nth_psts, pur_psts, nth_gaps, pur_gaps, nth_pays, pur_pays, Try.f12, h5, hil1]
          exact ⟨hrg2, ⟨0, g1 + 1 + 1, rfl, by rw [updO_same, hfin1], by decide, by omega⟩, ⟨_, _, _, rfl, rfl, rfl⟩, by omega⟩
        · have v1 : ¬ out.length ≤ 0 := by omega
          have v2 : ¬ 1 + out.length ≤ 1 := by omega
          have v3 : 1 + out.length ≤ 2147483648 := by omega
          have v4 : 1 + out.length = out.length + 1 := by omega
          have v5 : out.length ≤ 2147483648 := by omega
          have hfin1 : PV.agg [I x.1, I x.2.1, I x.2.2.1, I x.2.2.2.1, I x.2.2.2.2] :: out.map gapV = (insG x out).map gapV := by rw [← hfin, List.take_zero, List.drop_zero]; rfl
          simp +contextual (maxSteps := 4000000) only [↓ur_seq, ↓ur_exit, ↓ur_region, ↓ur_cond, Nat.one_ne_zero, ↓cont_seq, ↓cont_blk, ↓cont_lp, ↓leave_seq, ↓leave_blk, ↓leave_lp, ↓ops_consN, ↓ops_guardN, nY_move, nY_assign, nY_pick, nY_buildSlice, nY_load, nY_binOp, nilO_int, nY_slice, nY_indexAddr, nY_callf, nY_callb, ↓ops_nil, opsIf_some, condC_false, guardC_ft, Option.map_some, Option.map_none, Option.bind_some, Option.getD_some, Option.getD_none, Nat.reduceLT, Bool.false_eq_true, ↓upd_same, ↓upd_ne, Nat.reduceBEq, true_and, and_true, List.getElem?_toArray, List.getElem?_cons_zero, List.getElem?_cons_succ, cfg_P, cfg_muts, cfg_frz, cfg_num, numOf_eq, List.length_map, ↓havoc_in, ↓havoc_out, agree_upd, List.contains_cons, List.contains_nil, Bool.or_false, Bool.or_true, Int.natCast_nonneg, Int.toNat_natCast, decide_false, Option.some.injEq, Nat.reduceEqDiff, List.cons_append, List.nil_append, List.append_nil, updO_same, updO_ne, List.length_cons, List.length_nil, Nat.zero_add, Nat.add_zero, List.drop_zero, List.take_zero, Nat.not_succ_le_self, Nat.reduceAdd, List.replicate_succ, List.replicate_zero, List.set_cons_zero, Nat.reduceMul, Nat.reduceLeDiff, IObj.arr.injEq, Nat.lt_succ_self, Bool.not_false, reduceCtorEq, not_false_eq_true, Int.reduceLT, Int.reduceToNat, take_map_len, or_false, Nat.le_refl, cells_agg, ↓ev_tmp, ↓ev_int, ↓ev_bool, ↓guardP_eq, grd_some, ↓iop_move, ↓iop_assign, ↓pick3_bool, ↓iop_pick, ↓iop_buildSlice, ↓iop_load, ↓iop_binOp, ↓iop_slice, intOfP_int, slcP_tf, slcP_ft, ↓iop_callb, bi_append, bi_append_re, appGuard_lits, pickP_t, loadP_vptr, elemsP_lits, elemsP_ref, sliceP_lits, appendP_ref, b_add, b_gtr, bel_nil, bel_cons, Store.new, Store.set, ↓reduceIte, arr_eq, arrB_some, bslP_eq, beq_eq_false_iff_ne, ne_eq, List.take_succ_cons, List.drop_nil, List.take_nil, ↓evs_cons, ↓evs_nil, ↓evp_cons, ↓evp_nil, Int.le_refl, beq_self_eq_true, see_eq, nth_psts, pur_psts, nth_gaps, pur_gaps, nth_pays, pur_pays, Try.f12, ty25, ty64, h7, hwk, h11, p0, p1, q0, q1, q2, q3, hz, hn, e11, re_arr', reP_arr', reM_arr, rePM_arr, iop_alloc_re, Nat.sub_zero, v1, v2, v3, v5]
          rw [agree_havoc_sub (by decide +kernel)]
          simp +contextual (maxSteps := 4000000) only [Nat.reduceBEq, true_and, agree_upd, agree_havoc, List.contains_cons, List.contains_nil, Bool.or_false, Bool.or_true, beq_self_eq_true, nth_psts, pur_psts, nth_gaps, pur_gaps, nth_pays, pur_pays, Try.f12, h5, hil, v4, hfin1]
          exact ⟨hrg2, ⟨0, g1 + 1 + 1 + 1, rfl, by rw [updO_same], by decide, by omega⟩, ⟨_, _, _, rfl, rfl, rfl⟩, by omega⟩
      · have hb0 : (0 : Int) < ((b + 1 : Nat) : Int) := by omega
        have hb1 : IntKind.i64.wrap (((b + 1 : Nat) : Int) - 1) = (b : Int) := by rw [wrap64 (by omega) (by omega)]; omega
        have hmx : (if 0 < b then (b : Int) else 0) = (b : Int) := by split <;> omega
        have hai2 : ((b + 1 : Nat) : Int) ≤ (out.length : Int) := by omega
        have w1 : ¬ b + 1 ≤ 0 := by omega
        have w2 : ¬ b + 1 + 1 ≤ b + 1 := by omega
        have w3 : b + 1 - 0 = b + 1 := rfl
        have w4 : ¬ b + 1 = 0 := by omega
        obtain ⟨T1, hT1⟩ : ∃ T1, (out.take (b + 1)).map gapV = T1 := ⟨_, rfl⟩
        obtain ⟨T2, hT2⟩ : ∃ T2, (out.drop (b + 1)).map gapV = T2 := ⟨_, rfl⟩
        have fl1 : T1.length = b + 1 := by rw [← hT1, List.length_map, hla]
        have fl2 : T2.length = out.length - (b + 1) := by rw [← hT2, List.length_map, hld]
        have fp1 : pursL T1 = true := by rw [← hT1]; exact pur_gaps
        have fp2 : pursL T2 = true := by rw [← hT2]; exact pur_gaps
        obtain ⟨X, hX⟩ : ∃ X, PV.agg [I x.1, I x.2.1, I x.2.2.1, I x.2.2.2.1, I x.2.2.2.2] = X := ⟨_, rfl⟩
        have ft1 : List.take (b + 1) T1 = T1 := List.take_of_length_le (by omega)
        have ft2 : List.take (out.length - (b + 1)) T2 = T2 := List.take_of_length_le (by omega)
        have ft3 : ∀ X : PV, List.take (b + 1 + 1) (T1 ++ [X]) = T1 ++ [X] := fun X => List.take_of_length_le (by simp; omega)
        have fd3 : ∀ X : PV, List.drop (b + 2) (T1 ++ [X]) = [] := fun X => List.drop_eq_nil_of_le (by simp; omega)
        rw [hT1] at hta
        rw [hT2] at htd
        rw [hT1, hT2] at hfin
        by_cases hn : out.length - (b + 1) = 0
        · have hT20 : T2 = [] := List.length_eq_zero_iff.1 (by omega)
          rw [hT20, List.append_nil] at hfin
          have hil2 : (insG x out).length = b + 2 := by omega
          simp +contextual (maxSteps := 4000000) only [↓ur_seq, ↓ur_exit, ↓ur_region, ↓ur_cond, Nat.one_ne_zero, ↓cont_seq, ↓cont_blk, ↓cont_lp, ↓leave_seq, ↓leave_blk, ↓leave_lp, ↓ops_consN, ↓ops_guardN, nY_move, nY_assign, nY_pick, nY_buildSlice, nY_load, nY_binOp, nilO_int, nY_slice, nY_indexAddr, nY_callf, nY_callb, ↓ops_nil, opsIf_some, condC_false, guardC_tt, Option.map_some, Option.map_none, Option.bind_some, Option.getD_some, Option.getD_none, Nat.reduceLT, Bool.false_eq_true, ↓upd_same, ↓upd_ne, Nat.reduceBEq, true_and, and_true, List.getElem?_toArray, List.getElem?_cons_zero, List.getElem?_cons_succ, cfg_P, cfg_tab, cfg_muts, cfg_frz, cfg_num, numOf_eq, List.length_map, ↓havoc_in, ↓havoc_out, agree_upd, List.contains_cons, List.contains_nil, Bool.or_false, Bool.or_true, Int.natCast_nonneg, Int.ofNat_lt, Int.toNat_natCast, decide_true, decide_false, Option.some.injEq, List.lookup_nil, tabOf_cons, tab_v, Bool.and_self, Nat.reduceEqDiff, List.nil_append, List.append_nil, updO_same, updO_ne, List.length_append, List.length_cons, List.length_nil, Nat.zero_add, Nat.add_zero, List.drop_zero, List.take_zero, Nat.reduceAdd, List.replicate_succ, List.replicate_zero, List.set_cons_zero, Nat.reduceMul, Nat.reduceLeDiff, IObj.arr.injEq, Nat.lt_succ_self, Bool.not_false, reduceCtorEq, not_false_eq_true, Int.reduceToNat, or_false, Nat.le_refl, pur_int, cells_agg, pur_agg, ↓ev_tmp, ↓ev_int, ↓ev_func, ↓guardP_eq, grd_some, ↓iop_move, ↓iop_assign, ↓pick3_bool, ↓iop_pick, ↓iop_buildSlice, ↓iop_load, ↓iop_binOp, ↓iop_slice, intOfP_int, slcP_tf, slcP_ft, ↓iop_indexAddr, idxA_int, ↓iop_callv, ↓iop_callb, nrmAll_cons, nrmAll_nil, bi_append, bi_append_re, appGuard_lits, bi_max, nrm_agg, nrmL_cons, nrmL_nil, nrm1_int, pickP_t, loadP_vptr, indexP_lits, elemsP_lits, elemsP_ref, sliceP_lits, appendP_ref, b_add, b_sub, b_gtr, bel_nil, bel_cons, valT_eq, pursL_cons, pursL_nil, Store.new, Store.set, ↓reduceIte, arr_eq, arrB_some, callP_eq, tsOf_eq, bslP_eq, beq_eq_false_iff_ne, ne_eq, List.take_succ_cons, List.drop_nil, List.take_nil, ↓evs_cons, ↓evs_nil, ↓evp_cons, ↓evp_nil, Int.le_refl, Int.natCast_pos, beq_self_eq_true, see_eq, and_false, Bool.true_eq_false, s_rbef, nth_psts, pur_psts, nth_gaps, pur_gaps, nth_pays, pur_pays, Try.f12, ty25, ty64, h7, hwk, h11, p0, p1, q0, q1, q2, q3, hb0, hb1, hmx, hbl, hnb, hai2, w1, w2, w3, w4, hn, e11, re_arr', reP_arr', reM_arr, rePM_arr, iop_alloc_re, hta, htd, hT20, fl1, fp1, ft1, ft3, fd3, k3, k4]
          rw [agree_havoc_sub (by decide +kernel)]
          simp +contextual (maxSteps := 4000000) only [Nat.reduceBEq, true_and, agree_upd, agree_havoc, List.contains_cons, List.contains_nil, Bool.or_false, Bool.or_true, beq_self_eq_true, nth_psts, pur_psts, nth_gaps, pur_gaps, nth_pays, pur_pays, Try.f12, h5, hil2, hfin]
          exact ⟨hrg2, ⟨0, g1 + 1 + 1 + 1, rfl, by rw [updO_same], by decide, by omega⟩, ⟨_, _, _, rfl, rfl, rfl⟩, by omega⟩
        · have v1 : ¬ out.length - (b + 1) ≤ 0 := by omega
          have v2 : ¬ b + 1 + 1 + (out.length - (b + 1)) ≤ b + 1 + 1 := by omega
          simp +contextual (maxSteps := 4000000) only [↓ur_seq, ↓ur_exit, ↓ur_region, ↓ur_cond, Nat.one_ne_zero, ↓cont_seq, ↓cont_blk, ↓cont_lp, ↓leave_seq, ↓leave_blk, ↓leave_lp, ↓ops_consN, ↓ops_guardN, nY_move, nY_assign, nY_pick, nY_buildSlice, nY_load, nY_binOp, nilO_int, nY_slice, nY_indexAddr, nY_callf, nY_callb, ↓ops_nil, opsIf_some, condC_false, guardC_tt, Option.map_some, Option.map_none, Option.bind_some, Option.getD_some, Option.getD_none, Nat.reduceLT, Bool.false_eq_true, ↓upd_same, ↓upd_ne, Nat.reduceBEq, true_and, and_true, List.getElem?_toArray, List.getElem?_cons_zero, List.getElem?_cons_succ, cfg_P, cfg_tab, cfg_muts, cfg_frz, cfg_num, numOf_eq, List.length_map, ↓havoc_in, ↓havoc_out, agree_upd, List.contains_cons, List.contains_nil, Bool.or_false, Bool.or_true, Int.natCast_nonneg, Int.ofNat_lt, Int.toNat_natCast, decide_true, decide_false, Option.some.injEq, List.lookup_nil, tabOf_cons, tab_v, Bool.and_self, Nat.reduceEqDiff, List.nil_append, List.append_nil, updO_same, updO_ne, List.length_append, List.length_cons, List.length_nil, Nat.zero_add, Nat.add_zero, List.drop_zero, Nat.reduceAdd, List.replicate_succ, List.replicate_zero, List.set_cons_zero, Nat.reduceMul, Nat.reduceLeDiff, IObj.arr.injEq, Nat.lt_succ_self, Bool.not_false, reduceCtorEq, not_false_eq_true, Int.reduceToNat, or_false, Nat.le_refl, pur_int, cells_agg, pur_agg, ↓ev_tmp, ↓ev_int, ↓ev_func, ↓guardP_eq, grd_some, ↓iop_move, ↓iop_assign, ↓pick3_bool, ↓iop_pick, ↓iop_buildSlice, ↓iop_load, ↓iop_binOp, ↓iop_slice, intOfP_int, slcP_tf, slcP_ft, ↓iop_indexAddr, idxA_int, ↓iop_callv, ↓iop_callb, nrmAll_cons, nrmAll_nil, bi_append, bi_append_re, appGuard_lits, bi_max, nrm_agg, nrmL_cons, nrmL_nil, nrm1_int, pickP_t, loadP_vptr, indexP_lits, elemsP_lits, elemsP_ref, sliceP_lits, appendP_ref, b_add, b_sub, b_gtr, bel_nil, bel_cons, valT_eq, pursL_cons, pursL_nil, Store.new, Store.set, ↓reduceIte, arr_eq, arrB_some, callP_eq, tsOf_eq, bslP_eq, beq_eq_false_iff_ne, ne_eq, List.take_succ_cons, List.drop_nil, List.take_nil, ↓evs_cons, ↓evs_nil, ↓evp_cons, ↓evp_nil, Int.le_refl, Int.natCast_pos, beq_self_eq_true, see_eq, and_false, Bool.true_eq_false, s_rbef, nth_psts, pur_psts, nth_gaps, pur_gaps, nth_pays, pur_pays, Try.f12, ty25, ty64, h7, hwk, h11, p0, p1, q0, q1, q2, q3, hb0, hb1, hmx, hbl, hnb, hai2, w1, w2, w3, w4, hn, v1, v2, e11, re_arr', reP_arr', reM_arr, rePM_arr, iop_alloc_re, hta, htd, fl1, fl2, fp1, fp2, ft1, ft2, ft3, fd3, k2, k3, k4, k5]
          rw [agree_havoc_sub (by decide +kernel)]
          simp +contextual (maxSteps := 4000000) only [Nat.reduceBEq, true_and, agree_upd, agree_havoc, List.contains_cons, List.contains_nil, Bool.or_false, Bool.or_true, beq_self_eq_true, nth_psts, pur_psts, nth_gaps, pur_gaps, nth_pays, pur_pays, Try.f12, h5, hil, k6, hfin]
          exact ⟨hrg2, ⟨0, g1 + 1 + 1 + 1 + 1, rfl, by rw [updO_same], by decide, by omega⟩, ⟨_, _, _, rfl, rfl, rfl⟩, by omega⟩
theorem o_rdispute : O_rdispute := k_rdispute c_rdispute
end Sim
