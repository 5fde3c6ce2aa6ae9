/- What functions of this seat compute, by values: contracts (lemmas of the statement's proof, under the conditions that each names). -/
import Derived.Test.YtbojbamchaohpaaQN5
namespace Sim
open Go Go.Proofs
set_option maxRecDepth 10000
set_option maxHeartbeats 2000000
set_option linter.unusedVariables false
set_option linter.unusedSimpArgs false
attribute [local congr] opsIf_congr condC_congr guardC_congr grd_congr pick3_congr obind_congr omap_congr opsV_congr
def linkM (ls : List Lnk) (s : Snd) : Lnk := ls.getD s.1.toNat dL
def chgN (ls : List Lnk) (l : List Snd) (i : Nat) : Int × Int × Int :=
 if i % 2 = 0 then ((l.getD (i / 2) dS).2.1, (linkM ls (l.getD (i / 2) dS)).1, -(l.getD (i / 2) dS).2.2) else ((l.getD (i / 2) dS).2.1, (linkM ls (l.getD (i / 2) dS)).2.1, (l.getD (i / 2) dS).2.2)
abbrev chgV (x : Int × Int × Int) : List PV := [I x.1, .agg [I x.2.1, I x.2.2]]
def ysL (ls : List Lnk) (l : List Snd) : List (List PV) := (List.range (2 * l.length)).map fun i => chgV (chgN ls l i)
theorem ys_at {ls : List Lnk} {l : List Snd} {i : Nat} (h : i < 2 * l.length) : (ysL ls l)[i]? = some (chgV (chgN ls l i)) := by
 simp [ysL, h]
theorem ys_len {ls : List Lnk} {l : List Snd} : (ysL ls l).length = 2 * l.length := by simp [ysL]
theorem ys_inv {ls : List Lnk} {l : List Snd} {i : Nat} {y : List PV} (h : (ysL ls l)[i]? = some y) : i < 2 * l.length ∧ y = chgV (chgN ls l i) := by
 have hlt := (List.getElem?_eq_some_iff.1 h).1
 rw [ys_len] at hlt
 rw [ys_at hlt] at h
 exact ⟨hlt, (Option.some.inj h).symm⟩
theorem chg_even {ls : List Lnk} {l : List Snd} {k : Nat} : chgN ls l (2 * k) = ((l.getD k dS).2.1, (linkM ls (l.getD k dS)).1, -(l.getD k dS).2.2) := by
 unfold chgN
 rw [if_pos (by omega), show 2 * k / 2 = k by omega]
theorem chg_odd {ls : List Lnk} {l : List Snd} {k : Nat} : chgN ls l (2 * k + 1) = ((l.getD k dS).2.1, (linkM ls (l.getD k dS)).2.1, (l.getD k dS).2.2) := by
 unfold chgN
 rw [if_neg (by omega), show (2 * k + 1) / 2 = k by omega]
abbrev chgF (hn : Int) (ls : List Lnk) (l : List Snd) : PV := .func (.func 54) [] [.vptr [snds l] 0, .vptr [I hn, lnks ls] 0]
noncomputable def A_changes : (Int) × (List Lnk) × (List Snd) → List PV := fun (hn, ls, l) => [.agg [I hn, lnks ls], snds l]
noncomputable def R_changes : (Int) × (List Lnk) × (List Snd) → PV := fun (hn, ls, l) => chgF hn ls l
def H_changes : (Int) × (List Lnk) × (List Snd) → Prop := fun (hn, ls, l) => True
noncomputable def e_changes : Nat × Ent := (49, .v (specOf A_changes R_changes H_changes))
theorem j_changes : ∀ i j, A_changes i = A_changes j → i = j := by
 rintro ⟨hn₁, ls₁, l₁⟩ ⟨hn₂, ls₂, l₂⟩ h
 simp only [A_changes, List.cons.injEq, and_true, PV.lits.injEq, PV.int.injEq, PV.bool.injEq, PV.str.injEq, PV.agg.injEq, PV.func.injEq, Fn.func.injEq, PV.vptr.injEq, true_and, List.map_nil, inj_ints, inj_strs, inj_its, inj_arcs, inj_snds, inj_lnks] at h
 simp [Prod.ext_iff, h] <;> omega
theorem s_changes (hn : Int) (ls : List Lnk) (l : List Snd) : specOf A_changes R_changes H_changes [.agg [I hn, lnks ls], snds l] = some (chgF hn ls l) := specOf_app j_changes (i := (hn, ls, l)) trivial
def C_changes : Prop := ∀ (hn : Int) (ls : List Lnk) (l : List Snd) , VC Try.prog 49 [.agg [I hn, lnks ls], snds l] (chgF hn ls l)
def O_changes : Prop := EntOK Try.prog e_changes.1 e_changes.2
theorem k_changes (c : C_changes) : O_changes := specOf_ok fun ⟨hn, ls, l⟩ h => c hn ls l
theorem c_changes : C_changes := by
 intro hn ls l
 refine vc_ofU mixed (l := []) (eok_nil) [] []  Try.func49 rfl (by decide +kernel) (N := 6) rfl (by simp) rfl (by kernel_rfl) fun hs => ?_
 simp only [smallL, PV.small, List.length_map, and_true, true_and] at hs
 simp +contextual (maxSteps := 4000000) only [↓ur_seq, ↓ur_ret, ↓ur_region, ↓cont_seq, ↓done_nil, ↓ops_consN, nY_assign, nY_box, nY_makeFunc, ↓ops_nil, opsIf_some, Option.map_some, Option.bind_some, Option.getD_some, Nat.reduceLT, Bool.false_eq_true, ↓upd_same, ↓upd_ne, Nat.reduceBEq, true_and, List.getD_cons_zero, List.getD_cons_succ, endQ, cfg_muts, List.contains_nil, Option.some.injEq, exists_eq_left', List.length_cons, List.length_nil, Nat.zero_add, Nat.reduceAdd, Nat.lt_succ_self, st0, cells_lits, cells_agg, ↓ev_tmp, ↓ev_nilf, ↓iop_assign, ↓iop_box, ↓iop_makeFunc, env0_eq, ires_eq, iresL_1, iresAll_nil, iresAll_cons, iresOne_tmp, ↓reduceIte, boxP_eq, ↓evs_cons, ↓evs_nil, nth_its, pur_its, nth_arcs, pur_arcs, nth_snds, pur_snds, nth_lnks, pur_lnks, lkC_len, lkC_0, lkC_1, lkC_cap, lkC_pri, lkC_take, pur_lkC, Nat.mul_one, Try.f49]
 simp [DRx, chgF, pur_func, pursL_cons, pur_vptr, pur_lits, pur_lnks, pur_snds, pur_int, pursL_nil]
theorem o_changes : O_changes := k_changes c_changes
theorem y_changes {hn : Int} {ls : List Lnk} {l : List Snd} (ok : OKr hn ls l) : YieldsF Try.prog 0 54 [] [.vptr [snds l] 0, .vptr [I hn, lnks ls] 0] (ysL ls l) := by
 refine yields_ofF (l := []) eok_nil [] [] 0 Try.func54 rfl (by decide +kernel) rfl (N := 46) rfl (by simp) (fun y => by kernel_rfl) fun y H J E st0 hm h0 hstab hy => ?_
 have hlen := ok.len
 have hyl := ys_len (ls := ls) (l := l)
 obtain ⟨ob0, M0⟩ := st0
 simp +contextual (maxSteps := 4000000) only [↓ur_seq, ↓ur_block, ↓ur_region, ↓cont_seq, ↓ops_consN, nY_move, nY_load, nY_callb, ↓ops_nil, opsIf_some, Option.map_some, Option.bind_some, Option.getD_some, Nat.reduceLT, Bool.false_eq_true, ↓upd_same, true_and, List.getD_cons_zero, List.getD_cons_succ, List.getElem?_cons_zero, cfg_P, cfg_frz, List.length_map, List.contains_nil, List.nil_append, Nat.reduceAdd, ↓ev_tmp, ↓ev_int, ↓iop_move, ↓iop_load, ↓iop_callb, bi_len, lenM_none, pickP_f, loadP_vptr, lenP_lits, env0_eq, ↓reduceIte, ↓evs_cons, ↓evs_nil, see_eq, nth_its, pur_its, nth_arcs, pur_arcs, nth_snds, pur_snds, nth_lnks, pur_lnks, lkC_len, lkC_0, lkC_1, lkC_cap, lkC_pri, lkC_take, pur_lkC, Nat.mul_one, Try.f54, ty25]
 refine loop_cnt (hm := hm) [5, 8, 9, 10, 11, 12, 13, 14, 15, 16, 17, 18, 19, 20, 21, 22, 23, 24, 25, 26, 27, 28, 29, 30, 31, 32, 33, 34, 35, 36, 37, 38, 39, 40, 41, 42, 43, 44, 45] l.length (fun k ρ st' => ρ 8 = I k ∧ J (2 * k) st' ∧ M0 ≤ st'.next) (.refl _) ?_ ?_
 ·simp +contextual (maxSteps := 4000000) only [↓upd_same, true_and, and_true, Nat.reduceMul, Nat.le_refl, Int.cast_ofNat_Int, nth_its, pur_its, nth_arcs, pur_arcs, nth_snds, pur_snds, nth_lnks, pur_lnks, lkC_len, lkC_0, lkC_1, lkC_cap, lkC_pri, lkC_take, pur_lkC, Nat.mul_one, Try.f54]
  exact h0
 ·rintro k ρ ⟨ob, M⟩ hk ⟨h8, hJ, hMM⟩
  dsimp only at hMM
  by_cases hlt : k < l.length
  ·have hw1 : IntKind.i64.wrap ((k : Int) + 1) = ((k + 1 : Nat) : Int) := by rw [wrap64 (by omega) (by omega)]; omega
   have e1 := ok.link k hlt
   have hb := ok.bytes k hlt
   have c1 := ys_at (ls := ls) (l := l) (i := 2 * k) (by omega)
   have c2 := ys_at (ls := ls) (l := l) (i := 2 * k + 1) (by omega)
   rw [chg_even] at c1
   rw [chg_odd] at c2
   unfold linkM at c1 c2
   generalize hx : l.getD k dS = x at *
   have hwn : IntKind.i64.wrap (0 - x.2.2) = -x.2.2 := by rw [wrap64 (by omega) (by omega)]; omega
   have h5 := toNat_lt' e1.1 e1.2
   have h6 := Int.toNat_of_nonneg e1.1
   generalize x.1.toNat = kk at *
   simp +contextual (maxSteps := 4000000) only [↓ur_skip, ↓ur_seq, ↓ur_block, ↓ur_ret, ↓ur_region, ↓ur_cond, ↓cont_seq, ↓cont_blk, ↓cont_lp, ↓done_nil, ↓done_seq, ↓done_blk, ↓done_lp, ↓ops_consN, ↓ops_guardN, ↓ops_consVc, ↓ops_guardVc, ↓opsV_yield, nY_move, nY_pick, nY_alloc, nY_build, nY_load, nY_store, nY_binOp, nilO_tmp, nilO_int, nY_unOp, nY_fieldAddr, nY_indexAddr, ↓ops_nil, opsIf_some, opsIf_none, opsIf_if, map_if, condC_true, Option.map_some, Option.map_none, Option.bind_some, Option.getD_some, Nat.reduceLT, Bool.false_eq_true, ↓upd_same, ↓upd_ne, Nat.reduceBEq, true_and, and_true, List.getD_cons_zero, List.getD_cons_succ, List.getElem?_toArray, List.getElem?_cons_zero, List.getElem?_cons_succ, cfg_P, cfg_frz, cfg_num, numOf_eq, List.length_map, ↓havoc_in, ↓havoc_out, agree_upd, agree_havoc, List.contains_cons, List.contains_nil, Bool.or_false, Bool.or_true, Int.natCast_nonneg, Int.ofNat_lt, Int.toNat_natCast, decide_true, decide_false, PV.int.injEq, Bool.and_true, Bool.and_self, List.cons_append, List.nil_append, List.append_nil, updO_same, List.length_append, List.length_cons, List.length_nil, Nat.zero_add, Nat.add_zero, List.drop_zero, List.take_zero, Nat.not_succ_le_self, Nat.reduceAdd, List.set_cons_zero, Nat.reduceLeDiff, nth_zero, Nat.lt_succ_self, Bool.not_false, reduceCtorEq, or_false, or_true, Nat.le_refl, cells_int, cells_agg, ↓ev_tmp, ↓ev_int, ↓ev_bool, ↓guardP_eq, grd_some, ↓iop_move, ↓pick3_bool, ↓iop_pick, ↓iop_alloc, ↓iop_build, ↓iop_load, ↓iop_store, ↓iop_binOp, ↓iop_unOp, ↓iop_fieldAddr, ↓iop_indexAddr, idxA_int, tmpNo_tmp, softS_ptr, heldS_ptr, isInt1_int, isInt_agg, List.all_cons, List.all_nil, pickP_f, pickP_t, loadP_vptr, loadP_ptr, setCells_agg, storeP_ptr, fieldP_vptr, fieldP_ptr, indexP_lits, b_add, b_lss, u_neg, u_not, fill_nil, fill_cons, fill1_some, buildP_eq, bldA_some, splice_eq, env0_eq, Store.new, Store.set, ↓reduceIte, arr_eq, arrB_some, tsOf_eq, beq_eq_false_iff_ne, ne_eq, List.take_succ_cons, List.drop_succ_cons, List.drop_nil, List.take_nil, ↓evs_cons, ↓evs_nil, ↓evp_cons, ↓evp_nil, beq_self_eq_true, List.all_cons, List.all_nil, see_eq, false_and, nth_its, pur_its, nth_arcs, pur_arcs, nth_snds, pur_snds, nth_lnks, pur_lnks, lkC_len, lkC_0, lkC_1, lkC_cap, lkC_pri, lkC_take, pur_lkC, Nat.mul_one, Try.f54, ty3, ty22, ty24, ty25, ty49, ty56, ty94, h8, hlt, hx, e1, h5, ← h6, hwn]
   have hJ' : ∀ o o2, J (2 * k) ⟨updO (updO ob M o) M o2, M + 1⟩ := fun o o2 => hstab _ _ _ hJ (by simp) (fun x hx => (updO_ne (by simp; exact Nat.ne_of_lt hx)).trans (updO_ne (by simp; exact Nat.ne_of_lt hx)))
   refine hy (2 * k) _ _ _ c1 (hJ' _ _) (fun st2 h2 hk2 => ?_) (fun st2 h2 => ?_)
   ·obtain ⟨ob2, M2⟩ := st2
    have hM := hk2.2 M hMM (by simp) (fun r => by simp [updO])
    have hM2 := hk2.1
    dsimp only at hM hM2
    rw [updO_same] at hM
    simp +contextual (maxSteps := 4000000) only [↓ur_skip, ↓ur_ret, ↓ur_region, ↓ur_cond, ↓cont_seq, ↓cont_blk, ↓cont_lp, ↓done_nil, ↓done_seq, ↓done_blk, ↓done_lp, ↓ops_consN, ↓ops_guardN, ↓ops_guardVc, ↓opsV_yield, nY_move, nY_pick, nY_build, nY_load, nY_binOp, nilO_int, nY_unOp, nY_fieldAddr, nY_indexAddr, ↓ops_nil, opsIf_some, guardC_ff, Option.map_some, Option.bind_some, Option.getD_some, Nat.reduceLT, Bool.false_eq_true, ↓upd_same, ↓upd_ne, Nat.reduceBEq, true_and, and_true, List.getD_cons_zero, List.getD_cons_succ, List.getElem?_toArray, List.getElem?_cons_zero, List.getElem?_cons_succ, cfg_P, cfg_frz, List.length_map, ↓havoc_in, ↓havoc_out, agree_upd, agree_havoc, List.contains_cons, List.contains_nil, Bool.or_false, Bool.or_true, Int.natCast_nonneg, Int.ofNat_lt, Int.toNat_natCast, PV.int.injEq, List.cons_append, List.nil_append, List.append_nil, List.length_cons, List.length_nil, Nat.zero_add, Nat.add_zero, List.drop_zero, List.take_zero, Nat.reduceAdd, Nat.reduceLeDiff, nth_zero, Nat.lt_succ_self, Bool.not_true, Bool.not_false, reduceCtorEq, or_true, Nat.le_refl, cells_int, cells_agg, ↓ev_tmp, ↓ev_int, ↓guardP_eq, grd_some, ↓iop_move, ↓pick3_bool, ↓iop_pick, ↓iop_build, ↓iop_load, ↓iop_binOp, ↓iop_unOp, ↓iop_fieldAddr, ↓iop_indexAddr, idxA_int, pickP_f, loadP_vptr, loadP_ptr, fieldP_vptr, fieldP_ptr, indexP_lits, b_add, u_not, fill_nil, fill_cons, fill1_some, buildP_eq, bldA_some, splice_eq, env0_eq, ↓reduceIte, arr_eq, arrB_some, List.take_succ_cons, List.drop_succ_cons, List.drop_nil, ↓evs_cons, ↓evs_nil, ↓evp_cons, ↓evp_nil, beq_self_eq_true, see_eq, nth_its, pur_its, nth_arcs, pur_arcs, nth_snds, pur_snds, nth_lnks, pur_lnks, lkC_len, lkC_0, lkC_1, lkC_cap, lkC_pri, lkC_take, pur_lkC, Nat.mul_one, Try.f54, ty3, ty22, ty24, ty49, ty56, ty94, hM, h8, hlt, hx, e1, h5, ← h6, hwn]
    refine hy (2 * k + 1) _ _ _ c2 h2 (fun st3 h3 hk3 => ?_) (fun st3 h3 => ?_)
    ·have hM3 := hk3.1
     dsimp only at hM3
     simp +contextual (maxSteps := 4000000) only [condC_false, true_and, Bool.not_true, nth_its, pur_its, nth_arcs, pur_arcs, nth_snds, pur_snds, nth_lnks, pur_lnks, lkC_len, lkC_0, lkC_1, lkC_cap, lkC_pri, lkC_take, pur_lkC, Nat.mul_one, Try.f54, h8, hw1]
     exact ⟨by rw [show 2 * (k + 1) = 2 * k + 1 + 1 by omega]; exact h3, by omega⟩
    ·simp +contextual (maxSteps := 4000000) only [condC_true, Bool.not_false, nth_its, pur_its, nth_arcs, pur_arcs, nth_snds, pur_snds, nth_lnks, pur_lnks, lkC_len, lkC_0, lkC_1, lkC_cap, lkC_pri, lkC_take, pur_lkC, Nat.mul_one, Try.f54]
     exact .inr h3
   ·simp +contextual (maxSteps := 4000000) only [condC_true, guardC_tf, Bool.not_false, ↓reduceIte, nth_its, pur_its, nth_arcs, pur_arcs, nth_snds, pur_snds, nth_lnks, pur_lnks, lkC_len, lkC_0, lkC_1, lkC_cap, lkC_pri, lkC_take, pur_lkC, Nat.mul_one, Try.f54]
    exact .inr h2
  ·have e : k = l.length := by omega
   subst e
   simp +contextual (maxSteps := 4000000) only [↓ur_seq, ↓ur_exit, ↓ur_region, ↓ur_cond, ↓cont_nil, ↓cont_seq, ↓leave_seq, ↓leave_blk, ↓leave_lp, ↓ops_consN, nY_binOp, nilO_tmp, ↓ops_nil, opsIf_some, condC_false, Option.map_some, Nat.reduceLT, ↓upd_same, ↓upd_ne, Nat.reduceBEq, true_and, cfg_P, ↓havoc_in, ↓havoc_out, List.contains_cons, List.contains_nil, Bool.or_false, Bool.or_true, Int.ofNat_lt, decide_false, Nat.lt_irrefl, Bool.not_false, reduceCtorEq, or_false, ↓ev_tmp, ↓iop_binOp, b_lss, ↓reduceIte, beq_self_eq_true, nth_its, pur_its, nth_arcs, pur_arcs, nth_snds, pur_snds, nth_lnks, pur_lnks, lkC_len, lkC_0, lkC_1, lkC_cap, lkC_pri, lkC_take, pur_lkC, Nat.mul_one, Try.f54, h8, hyl]
   exact .inl hJ
end Sim
