/- What functions of this seat compute, by values: contracts (lemmas of the statement's proof, under the conditions that each names). -/
import Derived.Test.YtbojbamchaohpaaQN3
namespace Sim
open Go Go.Proofs
set_option maxRecDepth 10000
set_option maxHeartbeats 2000000
set_option linter.unusedVariables false
set_option linter.unusedSimpArgs false
attribute [local congr] opsIf_congr condC_congr guardC_congr grd_congr pick3_congr obind_congr omap_congr
theorem priM_le {hn : Int} {ls : List Lnk} (h : OKn hn ls) {link tick : Int} (h0 : 0 ≤ link) (h1 : link < (ls.length : Int)) : 0 ≤ priM ls link tick ∧ priM ls link tick ≤ 1000000 := by
 have := h.hours link.toNat (tick.toNat % 24) (toNat_lt' h0 h1) (Nat.mod_lt _ (by omega))
 exact ⟨this.2.2.1, this.2.2.2⟩
theorem capM_le {hn : Int} {ls : List Lnk} (h : OKn hn ls) {link tick : Int} (h0 : 0 ≤ link) (h1 : link < (ls.length : Int)) : 0 ≤ capM ls link tick ∧ capM ls link tick ≤ 1073741824 := by
 have := h.hours link.toNat (tick.toNat % 24) (toNat_lt' h0 h1) (Nat.mod_lt _ (by omega))
 exact ⟨this.1, this.2.1⟩
def costT (ls : List Lnk) (l : List Snd) : Nat → Int
 | 0 => 0
 | k + 1 => costT ls l k + (l.getD k dS).2.2 * priM ls (l.getD k dS).1 (l.getD k dS).2.1
def costM (hn : Int) (ls : List Lnk) (l : List Snd) : Int := if rightM hn ls l ≠ 0 then 0 else costT ls l l.length
theorem mul_le_of {a b A B : Int} (h0 : 0 ≤ a) (h1 : a ≤ A) (h2 : 0 ≤ b) (h3 : b ≤ B) : 0 ≤ a * b ∧ a * b ≤ A * B :=
 ⟨Int.mul_nonneg h0 h2, Int.mul_le_mul h1 h3 h2 (by omega)⟩
theorem costT_le {hn : Int} {ls : List Lnk} {l : List Snd} (ok : OKr hn ls l) : ∀ k : Nat, k ≤ l.length → 0 ≤ costT ls l k ∧ costT ls l k ≤ 1073741824000000 * (k : Int)
 | 0, _ => ⟨Int.le_refl _, by simp [costT]⟩
 | k + 1, h => by
  have ih := costT_le ok k (by omega)
  have h1 := ok.link k (by omega)
  have h2 := ok.bytes k (by omega)
  have h3 := priM_le ok.net h1.1 h1.2 (tick := (l.getD k dS).2.1)
  have h4 := mul_le_of (by omega) h2.2 h3.1 h3.2
  simp only [costT]
  omega
theorem costT_w {hn : Int} {ls : List Lnk} {l : List Snd} (ok : OKr hn ls l) {k : Nat} (h : k < l.length) : IntKind.i64.wrap ((l.getD k dS).2.2 * priM ls (l.getD k dS).1 (l.getD k dS).2.1) = (l.getD k dS).2.2 * priM ls (l.getD k dS).1 (l.getD k dS).2.1 ∧
  IntKind.i64.wrap (costT ls l k + (l.getD k dS).2.2 * priM ls (l.getD k dS).1 (l.getD k dS).2.1) = costT ls l (k + 1) := by
 have h0 := ok.len
 have h1 := ok.link k h
 have h2 := ok.bytes k h
 have h3 := priM_le ok.net h1.1 h1.2 (tick := (l.getD k dS).2.1)
 have h4 := mul_le_of (by omega) h2.2 h3.1 h3.2
 have h5 := costT_le ok k (by omega)
 exact ⟨wrap64 (by omega) (by omega), wrap64 (by omega) (by omega)⟩
noncomputable def A_cost : (Int) × (List Lnk) × (List Snd) → List PV := fun (hn, ls, l) => [.agg [I hn, lnks ls], snds l]
noncomputable def R_cost : (Int) × (List Lnk) × (List Snd) → PV := fun (hn, ls, l) => .tuple [I (costM hn ls l), I (rightM hn ls l)]
def H_cost : (Int) × (List Lnk) × (List Snd) → Prop := fun (hn, ls, l) => True
noncomputable def e_cost : Nat × Ent := (17, .v (specOf A_cost R_cost H_cost))
theorem j_cost : ∀ i j, A_cost i = A_cost j → i = j := by
 rintro ⟨hn₁, ls₁, l₁⟩ ⟨hn₂, ls₂, l₂⟩ h
 simp only [A_cost, List.cons.injEq, and_true, PV.lits.injEq, PV.int.injEq, PV.bool.injEq, PV.str.injEq, PV.agg.injEq, PV.func.injEq, Fn.func.injEq, PV.vptr.injEq, true_and, List.map_nil, inj_ints, inj_strs, inj_its, inj_arcs, inj_snds, inj_lnks] at h
 simp [Prod.ext_iff, h] <;> omega
theorem s_cost (hn : Int) (ls : List Lnk) (l : List Snd) : specOf A_cost R_cost H_cost [.agg [I hn, lnks ls], snds l] = some (.tuple [I (costM hn ls l), I (rightM hn ls l)]) := specOf_app j_cost (i := (hn, ls, l)) trivial
def C_cost : Prop := ∀ (hn : Int) (ls : List Lnk) (l : List Snd) , VC Try.prog 17 [.agg [I hn, lnks ls], snds l] (.tuple [I (costM hn ls l), I (rightM hn ls l)])
def O_cost : Prop := EntOK Try.prog e_cost.1 e_cost.2
theorem k_cost (c : C_cost) : O_cost := specOf_ok fun ⟨hn, ls, l⟩ h => c hn ls l
theorem c_cost : C_cost := by
 intro hn ls l
 refine vc_ofU mixed (l := [e_right]) ((eok_cons o_right eok_nil)) [] []  Try.func17 rfl (by decide +kernel) (N := 40) rfl (by simp) rfl (by kernel_rfl) fun hs => ?_
 simp only [smallL, PV.small, List.length_map, and_true, true_and] at hs
 by_cases h : rightM hn ls l = 0
 case neg =>
  rw [show costM hn ls l = 0 by simp [costM, h]]
  generalize hr : rightM hn ls l = r at *
  simp +contextual (maxSteps := 4000000) only [↓ur_seq, ↓ur_ret, ↓ur_region, ↓ur_cond, ↓cont_seq, ↓done_nil, ↓done_seq, ↓ops_consN, nY_move, nY_assign, nY_box, nY_load, nY_binOp, nilO_int, nY_callf, ↓ops_nil, opsIf_some, condC_true, Option.map_some, Option.bind_some, Option.getD_some, Nat.reduceLT, Bool.false_eq_true, ↓upd_same, ↓upd_ne, Nat.reduceBEq, and_true, List.getD_cons_zero, List.getD_cons_succ, endQ, cfg_P, cfg_tab, cfg_muts, cfg_frz, List.contains_nil, decide_true, Option.some.injEq, exists_eq_left', List.lookup_cons, List.lookup_nil, tabOf_cons, tab_v, Bool.and_self, List.nil_append, List.append_nil, List.length_cons, List.length_nil, Nat.zero_add, List.drop_zero, Nat.reduceAdd, Bool.not_false, not_false_eq_true, st0, Nat.le_refl, pur_int, pur_lits, cells_agg, pur_agg, DRx_int, DRx_tuple, DRxL_cons, DRxL_nil, ↓ev_tmp, ↓ev_int, ↓ev_func, ↓iop_move, ↓iop_assign, ↓iop_box, ↓iop_load, ↓iop_binOp, ↓iop_callv, nrmAll_cons, nrmAll_nil, nrm_agg, nrmL_cons, nrmL_nil, nrm_lits, nrm1_int, nrm1_lits, pickP_t, loadP_vptr, b_neq, env0_eq, ires_eq, iresL_2, iresAll_nil, iresAll_cons, iresOne_tmp, valT_eq, pursL_cons, pursL_nil, ↓reduceIte, callP_eq, tsOf_eq, boxP_eq, List.take_succ_cons, List.take_nil, ↓evs_cons, ↓evs_nil, beq_self_eq_true, see_eq, and_false, Bool.true_eq_false, e_right, s_right, nth_its, pur_its, nth_arcs, pur_arcs, nth_snds, pur_snds, nth_lnks, pur_lnks, lkC_len, lkC_0, lkC_1, lkC_cap, lkC_pri, lkC_take, pur_lkC, Nat.mul_one, Try.f17, ty24, ty25, h, hr]
 have ok := right_zero.1 h
 have hlen := ok.len
 rw [show costM hn ls l = costT ls l l.length by simp [costM, h], h]
 generalize hr : costT ls l l.length = r
 simp +contextual (maxSteps := 4000000) only [↓ur_skip, ↓ur_seq, ↓ur_block, ↓ur_region, ↓ur_cond, ↓cont_seq, ↓ops_consN, nY_move, nY_assign, nY_box, nY_load, nY_binOp, nilO_int, nY_callf, nY_callb, ↓ops_nil, opsIf_some, condC_false, Option.map_some, Option.bind_some, Option.getD_some, Nat.reduceLT, Bool.false_eq_true, ↓upd_same, ↓upd_ne, Nat.reduceBEq, true_and, List.getD_cons_zero, List.getD_cons_succ, cfg_P, cfg_tab, cfg_muts, cfg_frz, List.length_map, List.contains_nil, decide_false, List.lookup_cons, List.lookup_nil, tabOf_cons, tab_v, Bool.and_self, List.nil_append, List.append_nil, List.length_cons, List.length_nil, Nat.zero_add, List.drop_zero, Nat.reduceAdd, Bool.not_false, not_true_eq_false, st0, Nat.le_refl, pur_int, pur_lits, cells_agg, pur_agg, ↓ev_tmp, ↓ev_int, ↓ev_func, ↓iop_move, ↓iop_assign, ↓iop_box, ↓iop_load, ↓iop_binOp, ↓iop_callv, ↓iop_callb, nrmAll_cons, nrmAll_nil, bi_len, lenM_none, nrm_agg, nrmL_cons, nrmL_nil, nrm_lits, nrm1_int, nrm1_lits, pickP_t, loadP_vptr, lenP_lits, b_neq, env0_eq, valT_eq, pursL_cons, pursL_nil, ↓reduceIte, callP_eq, tsOf_eq, boxP_eq, List.take_succ_cons, List.take_nil, ↓evs_cons, ↓evs_nil, beq_self_eq_true, see_eq, and_false, Bool.true_eq_false, e_right, s_right, nth_its, pur_its, nth_arcs, pur_arcs, nth_snds, pur_snds, nth_lnks, pur_lnks, lkC_len, lkC_0, lkC_1, lkC_cap, lkC_pri, lkC_take, pur_lkC, Nat.mul_one, Try.f17, ty24, ty25, h]
 refine loop_cnt [7, 9, 18, 19, 20, 21, 22, 23, 24, 25, 26, 27, 28, 29, 30, 31, 32, 33, 34, 35, 36, 37, 38] l.length (fun k ρ st' => ρ 18 = I k ∧ ρ 7 = I (costT ls l k)) (.refl _) ?_ ?_
 ·simp +contextual (maxSteps := 4000000) only [↓upd_same, ↓upd_ne, Nat.reduceBEq, and_true, Int.cast_ofNat_Int, nth_its, pur_its, nth_arcs, pur_arcs, nth_snds, pur_snds, nth_lnks, pur_lnks, lkC_len, lkC_0, lkC_1, lkC_cap, lkC_pri, lkC_take, pur_lkC, Nat.mul_one, Try.f17, costT]
 ·rintro k ρ ⟨ob, M⟩ hk ⟨h18, h7⟩
  by_cases hlt : k < l.length
  ·have hw1 : IntKind.i64.wrap ((k : Int) + 1) = ((k + 1 : Nat) : Int) := by rw [wrap64 (by omega) (by omega)]; omega
   have e1 := ok.link k hlt
   have e2 := (ok.tick k hlt).1
   have hw := costT_w ok hlt
   generalize hx : l.getD k dS = x at *
   have h3 := tmod24 e2
   have h4 : x.2.1.toNat % 24 < 24 := Nat.mod_lt _ (by omega)
   have h4i : ((x.2.1.toNat % 24 : Nat) : Int) < 24 := by omega
   unfold priM at hw
   generalize x.2.1.toNat % 24 = hh at *
   have h5 := toNat_lt' e1.1 e1.2
   have h6 := Int.toNat_of_nonneg e1.1
   generalize x.1.toNat = kk at *
   simp +contextual (maxSteps := 4000000) only [↓ur_skip, ↓ur_seq, ↓ur_block, ↓ur_region, ↓ur_cond, ↓cont_seq, ↓cont_blk, ↓cont_lp, ↓ops_consN, nY_move, nY_assign, nY_alloc, nY_load, nY_store, nY_binOp, nilO_tmp, nilO_int, nY_fieldAddr, nY_indexAddr, ↓ops_nil, opsIf_some, opsIf_none, condC_true, Option.map_some, Option.bind_some, Option.getD_some, Nat.reduceLT, Bool.false_eq_true, ↓upd_same, ↓upd_ne, Nat.reduceBEq, and_true, List.getElem?_cons_zero, List.getElem?_cons_succ, cfg_P, cfg_frz, cfg_num, numOf_eq, List.length_map, ↓havoc_in, ↓havoc_out, agree_upd, agree_havoc, List.contains_cons, List.contains_nil, Bool.or_false, Bool.or_true, Int.natCast_nonneg, Int.ofNat_lt, Int.toNat_natCast, decide_true, decide_false, Bool.and_true, Bool.and_self, List.nil_append, List.append_nil, updO_same, List.length_cons, List.length_nil, Nat.zero_add, Nat.add_zero, List.drop_zero, List.take_zero, Nat.not_succ_le_self, Nat.reduceAdd, List.set_cons_zero, nth_zero, Nat.lt_succ_self, Bool.not_false, Int.reduceEq, or_false, Nat.le_refl, cells_agg, ↓ev_tmp, ↓ev_int, ↓iop_move, ↓iop_assign, ↓iop_alloc, ↓iop_load, ↓iop_store, ↓iop_binOp, ↓iop_fieldAddr, ↓iop_indexAddr, idxA_int, tmpNo_tmp, softS_ptr, heldS_ptr, isInt1_int, isInt_agg, List.all_cons, List.all_nil, pickP_f, pickP_t, loadP_vptr, loadP_ptr, setCells_agg, storeP_ptr, fieldP_vptr, fieldP_ptr, indexP_lits, indexP_vptr, b_add, b_mul, b_rem, b_lss, splice_eq, Store.new, Store.set, ↓reduceIte, arr_eq, arrB_some, beq_eq_false_iff_ne, ne_eq, List.take_succ_cons, List.drop_succ_cons, List.drop_nil, List.take_nil, beq_self_eq_true, List.all_cons, List.all_nil, see_eq, false_and, Int.cast_ofNat_Int, nth_its, pur_its, nth_arcs, pur_arcs, nth_snds, pur_snds, nth_lnks, pur_lnks, lkC_len, lkC_0, lkC_1, lkC_cap, lkC_pri, lkC_take, pur_lkC, Nat.mul_one, Try.f17, ty3, ty22, ty24, ty25, ty47, ty49, ty56, h18, h7, hlt, hx, e1, e2, h3, h4, h4i, h5, ← h6, hw, hw1]
  ·have e : k = l.length := by omega
   subst e
   rw [hr] at h7
   simp +contextual (maxSteps := 4000000) only [↓ur_seq, ↓ur_exit, ↓ur_ret, ↓ur_region, ↓ur_cond, ↓cont_seq, ↓leave_seq, ↓leave_blk, ↓leave_lp, ↓done_nil, ↓ops_consN, nY_move, nY_assign, nY_binOp, nilO_tmp, ↓ops_nil, opsIf_some, condC_false, Option.map_some, Option.bind_some, Nat.reduceLT, ↓upd_same, ↓upd_ne, Nat.reduceBEq, and_true, endQ, cfg_P, ↓havoc_in, ↓havoc_out, List.contains_cons, List.contains_nil, Bool.or_false, Bool.or_true, Int.ofNat_lt, decide_false, Option.some.injEq, exists_eq_left', Nat.lt_irrefl, Nat.lt_succ_self, Bool.not_false, DRx_int, DRx_tuple, DRxL_cons, DRxL_nil, ↓ev_tmp, ↓ev_int, ↓iop_move, ↓iop_assign, ↓iop_binOp, b_lss, ires_eq, iresL_2, iresAll_nil, iresAll_cons, iresOne_tmp, ↓reduceIte, beq_self_eq_true, nth_its, pur_its, nth_arcs, pur_arcs, nth_snds, pur_snds, nth_lnks, pur_lnks, lkC_len, lkC_0, lkC_1, lkC_cap, lkC_pri, lkC_take, pur_lkC, Nat.mul_one, Try.f17, h18, h7]
theorem o_cost : O_cost := k_cost c_cost
def sentT (l : List Snd) (link tick : Int) : Nat → Int
 | 0 => 0
 | k + 1 => sentT l link tick k + if (l.getD k dS).1 = link ∧ (l.getD k dS).2.1 = tick then (l.getD k dS).2.2 else 0
end Sim
