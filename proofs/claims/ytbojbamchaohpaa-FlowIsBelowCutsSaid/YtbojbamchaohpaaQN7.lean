/- What functions of this seat compute, by values: contracts (lemmas of the statement's proof, under the conditions that each names). -/
import Derived.Test.YtbojbamchaohpaaQN6
namespace Sim
open Go Go.Proofs
set_option maxRecDepth 10000
set_option maxHeartbeats 2000000
set_option linter.unusedVariables false
set_option linter.unusedSimpArgs false
attribute [local congr] opsIf_congr condC_congr guardC_congr grd_congr pick3_congr obind_congr omap_congr opsV_congr
theorem run_env2 {X : Cfg} {N : Nat} {Q : IExit → IState → Prop} {c : Code} {ks : List Kf} {A : Prop} (T : (Nat → PV) → Store → Prop) (h1 : (∀ ρ st, T ρ st → run X N Q c ks ⟨ρ, st⟩) → A) (h2 : ∀ ρ st, T ρ st → run X N Q c ks ⟨ρ, st⟩) : A := h1 h2
def have0 (d : Dem) (at_ tick : Int) : Int := if at_ = d.1 ∧ d.2.2.2.1 ≤ tick then d.2.2.1 else 0
def haveS (ls : List Lnk) (s : Snd) (at_ tick : Int) : Int := if s.2.1 < tick then (if (linkM ls s).2.1 = at_ then s.2.2 else 0) - (if (linkM ls s).1 = at_ then s.2.2 else 0) else 0
def haveT (ls : List Lnk) (l : List Snd) (at_ tick : Int) : Nat → Int
 | 0 => 0
 | k + 1 => haveT ls l at_ tick k + haveS ls (l.getD k dS) at_ tick
def haveM (ls : List Lnk) (l : List Snd) (d : Dem) (at_ tick : Int) : Int := have0 d at_ tick + haveT ls l at_ tick l.length
def hyT (ls : List Lnk) (l : List Snd) (at_ tick : Int) : Nat → Int
 | 0 => 0
 | i + 1 => hyT ls l at_ tick i + if (chgN ls l i).1 < tick ∧ (chgN ls l i).2.1 = at_ then (chgN ls l i).2.2 else 0
theorem hyT_two {ls : List Lnk} {l : List Snd} {at_ tick : Int} : ∀ k, hyT ls l at_ tick (2 * k) = haveT ls l at_ tick k
 | 0 => rfl
 | k + 1 => by
  show hyT ls l at_ tick (2 * k + 1 + 1) = _
  simp only [hyT, chg_odd, chg_even, haveT, haveS]
  rw [hyT_two k]
  by_cases h : (l.getD k dS).2.1 < tick
  ·simp only [h, true_and, if_true]
   split <;> split <;> omega
  ·simp only [h, false_and, if_false]
   omega
theorem hyT_le {hn : Int} {ls : List Lnk} {l : List Snd} (ok : OKr hn ls l) (at_ tick : Int) : ∀ i, i ≤ 2 * l.length → -(1073741824 * (i : Int)) ≤ hyT ls l at_ tick i ∧ hyT ls l at_ tick i ≤ 1073741824 * (i : Int)
 | 0, _ => by simp [hyT]
 | i + 1, hi => by
  have ih := hyT_le ok at_ tick i (by omega)
  have hb := ok.bytes (i / 2) (by omega)
  simp only [hyT]
  split
  ·unfold chgN
   split <;> dsimp only <;> omega
  ·omega
def demB (d : Dem) : Prop := 0 ≤ d.2.2.1 ∧ d.2.2.1 ≤ 1099511627776
theorem have0_le {d : Dem} (h : demB d) (at_ tick : Int) : 0 ≤ have0 d at_ tick ∧ have0 d at_ tick ≤ 1099511627776 := by
 unfold demB at h
 unfold have0
 split <;> omega
noncomputable def A_stock : (Int) × (List Lnk) × (List Snd) × (Dem) × (Int) × (Int) → List PV := fun (hn, ls, l, d, at_, tick) => [.agg [I hn, lnks ls], snds l, demV d, I at_, I tick]
noncomputable def R_stock : (Int) × (List Lnk) × (List Snd) × (Dem) × (Int) × (Int) → PV := fun (hn, ls, l, d, at_, tick) => I (haveM ls l d at_ tick)
def H_stock : (Int) × (List Lnk) × (List Snd) × (Dem) × (Int) × (Int) → Prop := fun (hn, ls, l, d, at_, tick) => OKr hn ls l ∧ demB d
noncomputable def e_stock : Nat × Ent := (35, .v (specOf A_stock R_stock H_stock))
theorem j_stock : ∀ i j, A_stock i = A_stock j → i = j := by
 rintro ⟨hn₁, ls₁, l₁, d₁, at_₁, tick₁⟩ ⟨hn₂, ls₂, l₂, d₂, at_₂, tick₂⟩ h
 simp only [A_stock, List.cons.injEq, and_true, PV.lits.injEq, PV.int.injEq, PV.bool.injEq, PV.str.injEq, PV.agg.injEq, PV.func.injEq, Fn.func.injEq, PV.vptr.injEq, true_and, List.map_nil, inj_ints, inj_strs, inj_its, inj_arcs, inj_snds, inj_lnks] at h
 simp [Prod.ext_iff, h] <;> omega
theorem s_stock (hn : Int) (ls : List Lnk) (l : List Snd) (d : Dem) (at_ : Int) (tick : Int) : specOf A_stock R_stock H_stock [.agg [I hn, lnks ls], snds l, demV d, I at_, I tick] = @ite (Option (PV)) (OKr hn ls l ∧ demB d) (Classical.propDecidable _) (some (I (haveM ls l d at_ tick))) none := specOf_if j_stock (hn, ls, l, d, at_, tick)
def C_stock : Prop := ∀ (hn : Int) (ls : List Lnk) (l : List Snd) (d : Dem) (at_ : Int) (tick : Int) (h : OKr hn ls l ∧ demB d) , VC Try.prog 35 [.agg [I hn, lnks ls], snds l, demV d, I at_, I tick] (I (haveM ls l d at_ tick))
def O_stock : Prop := EntOK Try.prog e_stock.1 e_stock.2
theorem k_stock (c : C_stock) : O_stock := specOf_ok fun ⟨hn, ls, l, d, at_, tick⟩ h => c hn ls l d at_ tick h
theorem c_stock : C_stock := by
 rintro hn ls l d at_ tick ⟨ok, hd⟩
 refine vc_ofD mixed (l := [e_changes]) ((eok_cons o_changes eok_nil)) [] [] 0 1 Try.func35 rfl (by decide +kernel) (N := 45) rfl (by simp) rfl (by kernel_rfl) fun hs => ?_
 simp only [smallL, PV.small, List.length_map, and_true, true_and] at hs
 have h0 := have0_le hd at_ tick
 have hlen := ok.len
 generalize hr : haveM ls l d at_ tick = r
 have hr2 : have0 d at_ tick + hyT ls l at_ tick (2 * l.length) = r := by rw [← hr, hyT_two]; rfl
 have hle := hyT_le ok at_ tick
 obtain ⟨c, hc⟩ : ∃ c, c = have0 d at_ tick := ⟨_, rfl⟩
 have tail : ∀ (ρ : Nat → PV) (st : Store), True := fun _ _ => trivial
 have hcases : (at_ = d.1 ∧ d.2.2.2.1 ≤ tick ∧ c = d.2.2.1) ∨ (at_ = d.1 ∧ ¬ d.2.2.2.1 ≤ tick ∧ c = 0) ∨ (¬ at_ = d.1 ∧ c = 0) := by
  unfold have0 at hc
  by_cases h1 : at_ = d.1
  ·by_cases h2 : d.2.2.2.1 ≤ tick
   ·rw [if_pos ⟨h1, h2⟩] at hc; exact .inl ⟨h1, h2, hc⟩
   ·rw [if_neg (fun h => h2 h.2)] at hc; exact .inr (.inl ⟨h1, h2, hc⟩)
  ·rw [if_neg (fun h => h1 h.1)] at hc; exact .inr (.inr ⟨h1, hc⟩)
 rw [← hc] at hr2 h0
 refine run_env2 (X := ?X) (N := ?N) (Q := ?Q) (c := ?c) (ks := ?ks) (fun ρ st => ρ 8 = .vptr [I at_] 0 ∧ ρ 9 = .vptr [I tick] 0 ∧ ρ 11 = .ptr 0 0 0 0 ∧ ρ 28 = chgF hn ls l ∧ st.obj 0 = some (.arr 0 1 [I c]) ∧ st.next = 1) ?h1 ?h2
 case h1 =>
  intro tail
  rcases hcases with ⟨g1, g2, g3⟩ | ⟨g1, g2, g3⟩ | ⟨g1, g3⟩
  ·simp +contextual (maxSteps := 4000000) only [↓ur_seq, ↓ur_block, ↓ur_region, ↓ur_cond, ur_range, ↓cont_seq, ↓ops_consN, ↓ops_guardN, nY_move, nY_assign, nY_pick, nY_alloc, nY_box, nY_load, nY_store, nY_binOp, nilO_tmp, nY_fieldAddr, nY_callf, ↓ops_nil, opsIf_some, opsIf_none, condC_true, guardC_tt, Option.map_some, Option.bind_some, Option.getD_some, Nat.reduceLT, Bool.false_eq_true, ↓upd_same, ↓upd_ne, Nat.reduceBEq, true_and, and_true, List.getD_cons_zero, List.getD_cons_succ, List.getElem?_toArray, List.getElem?_cons_zero, List.getElem?_cons_succ, cfg_P, cfg_tab, cfg_muts, cfg_frz, cfg_num, numOf_eq, List.contains_nil, decide_true, List.lookup_cons, List.lookup_nil, tabOf_cons, tab_v, Bool.and_self, List.nil_append, List.append_nil, updO_same, List.length_cons, List.length_nil, Nat.zero_add, Nat.add_zero, List.drop_zero, Nat.reduceAdd, List.set_cons_zero, Nat.reduceLeDiff, nth_zero, Nat.lt_succ_self, Bool.not_false, or_false, Nat.le_refl, cells_int, pur_int, pur_lits, cells_agg, pur_agg, ↓ev_tmp, ↓ev_int, ↓ev_func, ↓guardP_eq, grd_some, ↓iop_move, ↓iop_assign, ↓pick3_bool, ↓iop_pick, ↓iop_alloc, ↓iop_box, ↓iop_load, ↓iop_store, ↓iop_binOp, ↓iop_fieldAddr, ↓iop_callv, tmpNo_tmp, softS_ptr, heldS_ptr, isInt1_int, isInt_int, List.all_cons, List.all_nil, nrmAll_cons, nrmAll_nil, nrm_agg, nrmL_cons, nrmL_nil, nrm_lits, nrm1_int, nrm1_lits, pickP_f, pickP_t, loadP_vptr, setCells_int, storeP_ptr, fieldP_vptr, b_eql, b_geq, env0_eq, valT_eq, pursL_cons, pursL_nil, Store.new, Store.set, ↓reduceIte, arr_eq, arrB_some, callP_eq, tsOf_eq, boxP_eq, List.take_succ_cons, List.take_nil, ↓evs_cons, ↓evs_nil, beq_self_eq_true, List.all_cons, List.all_nil, see_eq, and_false, Bool.true_eq_false, e_changes, s_changes, nth_its, pur_its, nth_arcs, pur_arcs, nth_snds, pur_snds, nth_lnks, pur_lnks, lkC_len, lkC_0, lkC_1, lkC_cap, lkC_pri, lkC_take, pur_lkC, Nat.mul_one, Try.f35, ty3, ty24, ty25, ty27, g1, g2]
   refine tail _ _ ?_
   simp +contextual (maxSteps := 4000000) only [↓upd_same, ↓upd_ne, Nat.reduceBEq, and_true, updO_same, nth_its, pur_its, nth_arcs, pur_arcs, nth_snds, pur_snds, nth_lnks, pur_lnks, lkC_len, lkC_0, lkC_1, lkC_cap, lkC_pri, lkC_take, pur_lkC, Nat.mul_one, Try.f35, g1, g3]
  ·simp +contextual (maxSteps := 4000000) only [↓ur_skip, ↓ur_seq, ↓ur_block, ↓ur_region, ↓ur_cond, ur_range, ↓cont_seq, ↓ops_consN, ↓ops_guardN, nY_move, nY_assign, nY_pick, nY_alloc, nY_box, nY_load, nY_store, nY_binOp, nilO_tmp, nY_fieldAddr, nY_callf, ↓ops_nil, opsIf_some, opsIf_none, condC_false, guardC_tt, Option.map_some, Option.bind_some, Option.getD_some, Nat.reduceLT, Bool.false_eq_true, ↓upd_same, ↓upd_ne, Nat.reduceBEq, true_and, and_true, List.getD_cons_zero, List.getD_cons_succ, List.getElem?_toArray, List.getElem?_cons_zero, List.getElem?_cons_succ, cfg_P, cfg_tab, cfg_muts, cfg_frz, cfg_num, numOf_eq, List.contains_nil, decide_true, decide_false, List.lookup_cons, List.lookup_nil, tabOf_cons, tab_v, Bool.and_self, List.nil_append, List.append_nil, updO_same, List.length_cons, List.length_nil, Nat.zero_add, Nat.add_zero, List.drop_zero, Nat.reduceAdd, List.set_cons_zero, Nat.reduceLeDiff, nth_zero, Nat.lt_succ_self, Bool.not_false, or_false, Nat.le_refl, cells_int, pur_int, pur_lits, cells_agg, pur_agg, ↓ev_tmp, ↓ev_int, ↓ev_func, ↓guardP_eq, grd_some, ↓iop_move, ↓iop_assign, ↓pick3_bool, ↓iop_pick, ↓iop_alloc, ↓iop_box, ↓iop_load, ↓iop_store, ↓iop_binOp, ↓iop_fieldAddr, ↓iop_callv, tmpNo_tmp, softS_ptr, heldS_ptr, isInt1_int, isInt_int, List.all_cons, List.all_nil, nrmAll_cons, nrmAll_nil, nrm_agg, nrmL_cons, nrmL_nil, nrm_lits, nrm1_int, nrm1_lits, pickP_f, pickP_t, loadP_vptr, setCells_int, storeP_ptr, fieldP_vptr, b_eql, b_geq, env0_eq, valT_eq, pursL_cons, pursL_nil, Store.new, Store.set, ↓reduceIte, arr_eq, arrB_some, callP_eq, tsOf_eq, boxP_eq, List.take_succ_cons, List.take_nil, ↓evs_cons, ↓evs_nil, beq_self_eq_true, List.all_cons, List.all_nil, see_eq, and_false, Bool.true_eq_false, e_changes, s_changes, nth_its, pur_its, nth_arcs, pur_arcs, nth_snds, pur_snds, nth_lnks, pur_lnks, lkC_len, lkC_0, lkC_1, lkC_cap, lkC_pri, lkC_take, pur_lkC, Nat.mul_one, Try.f35, ty3, ty24, ty25, ty27, g1, g2]
   refine tail _ _ ?_
   simp +contextual (maxSteps := 4000000) only [↓upd_same, ↓upd_ne, Nat.reduceBEq, and_true, updO_same, nth_its, pur_its, nth_arcs, pur_arcs, nth_snds, pur_snds, nth_lnks, pur_lnks, lkC_len, lkC_0, lkC_1, lkC_cap, lkC_pri, lkC_take, pur_lkC, Nat.mul_one, Try.f35, g1, g3]
  ·simp +contextual (maxSteps := 4000000) only [↓ur_skip, ↓ur_seq, ↓ur_block, ↓ur_region, ↓ur_cond, ur_range, ↓cont_seq, ↓ops_consN, ↓ops_guardN, nY_move, nY_assign, nY_pick, nY_alloc, nY_box, nY_load, nY_store, nY_binOp, nilO_tmp, nY_fieldAddr, nY_callf, ↓ops_nil, opsIf_some, opsIf_none, condC_false, guardC_ft, Option.map_some, Option.bind_some, Option.getD_some, Nat.reduceLT, Bool.false_eq_true, ↓upd_same, ↓upd_ne, Nat.reduceBEq, true_and, and_true, List.getD_cons_zero, List.getD_cons_succ, List.getElem?_toArray, List.getElem?_cons_zero, List.getElem?_cons_succ, cfg_P, cfg_tab, cfg_muts, cfg_frz, cfg_num, numOf_eq, List.contains_nil, decide_true, decide_false, List.lookup_cons, List.lookup_nil, tabOf_cons, tab_v, Bool.and_self, List.nil_append, List.append_nil, updO_same, List.length_cons, List.length_nil, Nat.zero_add, Nat.add_zero, List.drop_zero, Nat.reduceAdd, List.set_cons_zero, Nat.reduceLeDiff, nth_zero, Nat.lt_succ_self, Bool.not_false, or_false, Nat.le_refl, cells_int, pur_int, pur_lits, cells_agg, pur_agg, ↓ev_tmp, ↓ev_int, ↓ev_bool, ↓ev_func, ↓guardP_eq, grd_some, ↓iop_move, ↓iop_assign, ↓pick3_bool, ↓iop_pick, ↓iop_alloc, ↓iop_box, ↓iop_load, ↓iop_store, ↓iop_binOp, ↓iop_fieldAddr, ↓iop_callv, tmpNo_tmp, softS_ptr, heldS_ptr, isInt1_int, isInt_int, List.all_cons, List.all_nil, nrmAll_cons, nrmAll_nil, nrm_agg, nrmL_cons, nrmL_nil, nrm_lits, nrm1_int, nrm1_lits, pickP_f, pickP_t, loadP_vptr, setCells_int, storeP_ptr, fieldP_vptr, b_eql, env0_eq, valT_eq, pursL_cons, pursL_nil, Store.new, Store.set, ↓reduceIte, arr_eq, arrB_some, callP_eq, tsOf_eq, boxP_eq, List.take_succ_cons, List.take_nil, ↓evs_cons, ↓evs_nil, beq_self_eq_true, List.all_cons, List.all_nil, see_eq, and_false, Bool.true_eq_false, e_changes, s_changes, nth_its, pur_its, nth_arcs, pur_arcs, nth_snds, pur_snds, nth_lnks, pur_lnks, lkC_len, lkC_0, lkC_1, lkC_cap, lkC_pri, lkC_take, pur_lkC, Nat.mul_one, Try.f35, ty3, ty24, ty25, ty27, g1]
   refine tail _ _ ?_
   simp +contextual (maxSteps := 4000000) only [↓upd_same, ↓upd_ne, Nat.reduceBEq, and_true, updO_same, nth_its, pur_its, nth_arcs, pur_arcs, nth_snds, pur_snds, nth_lnks, pur_lnks, lkC_len, lkC_0, lkC_1, lkC_cap, lkC_pri, lkC_take, pur_lkC, Nat.mul_one, Try.f35, g1, g3]
 case h2 =>
  rintro ρ ⟨ob, M⟩ ⟨h8, h9, h11, h28, ho, hM⟩
  dsimp only at ho hM
  subst hM
  refine run_rangeF (ys := ysL ls l) (f := 54) (first := []) (captured := [.vptr [snds l] 0, .vptr [I hn, lnks ls] 0]) rfl rfl (hookMono_none rfl) ?_ (y_changes ok) rfl ?_ (by kernel_rfl) (by kernel_rfl)
   (fun i st' => st'.obj 0 = some (.arr 0 1 [I (c + hyT ls l at_ tick i)]) ∧ 0 < st'.next) (fun e st' => False) ?_ ?_ ?_ ?_ ?_ ?_ ?_
  ·simp +contextual (maxSteps := 4000000) only [↓ev_tmp, nth_its, pur_its, nth_arcs, pur_arcs, nth_snds, pur_snds, nth_lnks, pur_lnks, lkC_len, lkC_0, lkC_1, lkC_cap, lkC_pri, lkC_take, pur_lkC, Nat.mul_one, Try.f35, h28]
  ·intro y hy
   obtain ⟨x, _, rfl⟩ := List.mem_map.1 hy
   rfl
  ·intro i
   exact Stays.obj (fun _ => by simp)
  ·intro e
   exact Stays.const
  ·exact ⟨by simp [hyT, ho], by simp⟩
  ·rintro i y ⟨ob2, M2⟩ id lr hy hid hlp hbase ⟨a0, a1⟩
   obtain ⟨hi, rfl⟩ := ys_inv hy
   dsimp only at hid hlp hbase a0 a1
   have hstep : hyT ls l at_ tick (i + 1) = hyT ls l at_ tick i + if (chgN ls l i).1 < tick ∧ (chgN ls l i).2.1 = at_ then (chgN ls l i).2.2 else 0 := rfl
   have hl1 := hle i (by omega)
   have hl2 := hle (i + 1) (by omega)
   rw [hstep] at hl2 ⊢
   generalize chgN ls l i = x at *
   have d0 : ¬ id = 0 := by omega
   have d3 : ¬ id = M2 := by omega
   have e0 : ¬ 0 = M2 := by omega
   have f0 : ¬ 0 = id := by omega
   have f3 : ¬ M2 = id := by omega
   have hkeep2 : ∀ (o1 o2 o3 o4 : IObj), Keep 1 ⟨ob2, M2⟩ ⟨updO (updO (updO (updO ob2 M2 (some o1)) M2 (some o2)) id (some o3)) 0 (some o4), M2 + 1⟩ := fun o1 o2 o3 o4 => ⟨by simp, fun x h1 h2 h3 => by
    dsimp only at h2 h3 ⊢
    have n1 : x ≠ M2 := by omega
    have n2 : x ≠ id := fun e => h3 lr (by rw [e]; exact hlp)
    have n3 : x ≠ 0 := by omega
    simp [updO, n1, n2, n3]⟩
   have hkeep : ∀ (o1 o2 o3 : IObj), Keep 1 ⟨ob2, M2⟩ ⟨updO (updO (updO ob2 M2 (some o1)) M2 (some o2)) id (some o3), M2 + 1⟩ := fun o1 o2 o3 => ⟨by simp, fun x h1 h2 h3 => by
    dsimp only at h2 h3 ⊢
    have n1 : x ≠ M2 := by omega
    have n2 : x ≠ id := fun e => h3 lr (by rw [e]; exact hlp)
    simp [updO, n1, n2]⟩
   by_cases c1 : x.1 < tick
   ·by_cases c2 : x.2.1 = at_
    ·rw [if_pos ⟨c1, c2⟩] at hl2 ⊢
     have hw : IntKind.i64.wrap (c + hyT ls l at_ tick i + x.2.2) = c + (hyT ls l at_ tick i + x.2.2) := by rw [wrap64 (by omega) (by omega)]; omega
     simp +contextual (maxSteps := 4000000) only [↓ur_seq, ↓ur_block, ↓ur_region, ↓ur_cond, ↓cont_nil, ↓cont_seq, ↓cont_blk, ↓ops_consN, ↓ops_guardN, ↓setps_cons, ↓setps_nil, rndX_cfg, nY_move, nY_assign, nY_pick, nY_alloc, nY_load, nY_store, nY_binOp, nilO_tmp, nY_indexAddr, ↓ops_nil, opsIf_some, opsIf_none, condC_true, guardC_tt, Option.map_some, Option.bind_some, Option.getD_some, Nat.reduceLT, Bool.false_eq_true, ↓upd_same, ↓upd_ne, Nat.reduceBEq, true_and, and_true, List.getElem?_toArray, List.getElem?_cons_zero, List.getElem?_cons_succ, cfg_P, cfg_frz, cfg_num, numOf_eq, List.contains_nil, decide_true, Bool.and_true, Bool.and_self, List.nil_append, List.append_nil, updO_same, updO_ne, List.length_cons, List.length_nil, Nat.zero_add, Nat.add_zero, List.take_zero, Nat.reduceAdd, List.set_cons_zero, Nat.reduceLeDiff, nth_zero, Nat.lt_succ_self, Bool.not_false, not_false_eq_true, Int.reduceLT, Int.reduceLE, Int.reduceToNat, or_false, Nat.le_refl, cells_int, cells_agg, ↓ev_tmp, ↓ev_int, ↓guardP_eq, grd_some, ↓iop_move, ↓iop_assign, ↓pick3_bool, ↓iop_pick, ↓iop_alloc, ↓iop_load, ↓iop_store, ↓iop_binOp, ↓iop_indexAddr, idxA_int, tmpNo_tmp, softS_ptr, heldS_ptr, isInt1_int, isInt_agg, isInt_int, List.all_cons, List.all_nil, pickP_f, loadP_vptr, loadP_ptr, setCells_agg, setCells_int, storeP_ptr, indexP_ptr, b_add, b_eql, b_lss, splice_eq, Store.new, Store.set, ↓reduceIte, arr_eq, arrB_some, beq_eq_false_iff_ne, ne_eq, List.drop_succ_cons, List.drop_nil, Int.le_refl, beq_self_eq_true, List.all_cons, List.all_nil, see_eq, false_and, and_false, Bool.true_eq_false, Int.cast_ofNat_Int, nth_its, pur_its, nth_arcs, pur_arcs, nth_snds, pur_snds, nth_lnks, pur_lnks, lkC_len, lkC_0, lkC_1, lkC_cap, lkC_pri, lkC_take, pur_lkC, Nat.mul_one, Try.f35, ty3, ty94, hlp, h8, h9, h11, a0, d0, d3, e0, f0, f3, roundA, roundB, c1, c2, hw]
     exact fun rb => ⟨by omega, by omega, hkeep2 _ _ _ _⟩
    ·rw [if_neg (fun h => c2 h.2), Int.add_zero] at hl2 ⊢
     simp +contextual (maxSteps := 4000000) only [↓ur_skip, ↓ur_seq, ↓ur_block, ↓ur_region, ↓ur_cond, ↓cont_nil, ↓cont_seq, ↓cont_blk, ↓ops_consN, ↓ops_guardN, ↓setps_cons, ↓setps_nil, rndX_cfg, nY_move, nY_assign, nY_pick, nY_alloc, nY_load, nY_store, nY_binOp, nilO_tmp, nY_indexAddr, ↓ops_nil, opsIf_some, opsIf_none, condC_false, guardC_tt, Option.map_some, Option.bind_some, Option.getD_some, Nat.reduceLT, Bool.false_eq_true, ↓upd_same, ↓upd_ne, Nat.reduceBEq, true_and, and_true, List.getElem?_toArray, List.getElem?_cons_zero, List.getElem?_cons_succ, cfg_P, cfg_frz, cfg_num, numOf_eq, List.contains_nil, decide_true, decide_false, Bool.and_true, Bool.and_self, List.nil_append, List.append_nil, updO_same, updO_ne, List.length_cons, List.length_nil, Nat.zero_add, Nat.add_zero, List.take_zero, Nat.reduceAdd, List.set_cons_zero, nth_zero, Nat.lt_succ_self, Bool.not_false, not_false_eq_true, Int.reduceLT, Int.reduceToNat, or_false, Nat.le_refl, cells_agg, ↓ev_tmp, ↓ev_int, ↓guardP_eq, grd_some, ↓iop_move, ↓iop_assign, ↓pick3_bool, ↓iop_pick, ↓iop_alloc, ↓iop_load, ↓iop_store, ↓iop_binOp, ↓iop_indexAddr, idxA_int, tmpNo_tmp, softS_ptr, heldS_ptr, isInt1_int, isInt_agg, List.all_cons, List.all_nil, pickP_f, loadP_vptr, loadP_ptr, setCells_agg, storeP_ptr, indexP_ptr, b_eql, b_lss, splice_eq, Store.new, Store.set, ↓reduceIte, arr_eq, arrB_some, beq_eq_false_iff_ne, ne_eq, List.drop_succ_cons, List.drop_nil, Int.le_refl, List.all_cons, List.all_nil, see_eq, false_and, Int.cast_ofNat_Int, nth_its, pur_its, nth_arcs, pur_arcs, nth_snds, pur_snds, nth_lnks, pur_lnks, lkC_len, lkC_0, lkC_1, lkC_cap, lkC_pri, lkC_take, pur_lkC, Nat.mul_one, Try.f35, ty3, ty94, hlp, h8, h9, h11, a0, d0, d3, e0, f0, f3, roundA, roundB, c1, c2]
     exact fun rb => ⟨by omega, by omega, hkeep _ _ _⟩
   ·rw [if_neg (fun h => c1 h.1), Int.add_zero] at hl2 ⊢
    simp +contextual (maxSteps := 4000000) only [↓ur_skip, ↓ur_seq, ↓ur_block, ↓ur_region, ↓ur_cond, ↓cont_nil, ↓cont_seq, ↓cont_blk, ↓ops_consN, ↓ops_guardN, ↓setps_cons, ↓setps_nil, rndX_cfg, nY_move, nY_assign, nY_pick, nY_alloc, nY_load, nY_store, nY_binOp, nilO_tmp, nY_indexAddr, ↓ops_nil, opsIf_some, opsIf_none, condC_false, guardC_ft, Option.map_some, Option.bind_some, Option.getD_some, Nat.reduceLT, Bool.false_eq_true, ↓upd_same, ↓upd_ne, Nat.reduceBEq, true_and, and_true, List.getElem?_toArray, List.getElem?_cons_zero, List.getElem?_cons_succ, cfg_P, cfg_frz, cfg_num, numOf_eq, List.contains_nil, decide_true, decide_false, Bool.and_true, Bool.and_self, List.nil_append, List.append_nil, updO_same, updO_ne, List.length_cons, List.length_nil, Nat.zero_add, List.take_zero, Nat.reduceAdd, List.set_cons_zero, nth_zero, Nat.lt_succ_self, Bool.not_false, not_false_eq_true, or_false, Nat.le_refl, cells_agg, ↓ev_tmp, ↓ev_bool, ↓guardP_eq, grd_some, ↓iop_move, ↓iop_assign, ↓pick3_bool, ↓iop_pick, ↓iop_alloc, ↓iop_load, ↓iop_store, ↓iop_binOp, tmpNo_tmp, softS_ptr, heldS_ptr, isInt1_int, isInt_agg, List.all_cons, List.all_nil, pickP_f, loadP_vptr, setCells_agg, storeP_ptr, b_lss, splice_eq, Store.new, Store.set, ↓reduceIte, arr_eq, arrB_some, beq_eq_false_iff_ne, ne_eq, List.drop_succ_cons, List.drop_nil, List.all_cons, List.all_nil, see_eq, false_and, nth_its, pur_its, nth_arcs, pur_arcs, nth_snds, pur_snds, nth_lnks, pur_lnks, lkC_len, lkC_0, lkC_1, lkC_cap, lkC_pri, lkC_take, pur_lkC, Nat.mul_one, Try.f35, ty3, ty94, hlp, h8, h9, h11, a0, d0, d3, e0, f0, f3, roundA, roundB, c1]
    exact fun rb => ⟨by omega, by omega, hkeep _ _ _⟩
  ·rintro ⟨ob2, M2⟩ ⟨a0, a1⟩
   dsimp only at a0 a1
   rw [ys_len, hr2] at a0
   simp +contextual (maxSteps := 4000000) only [↓ur_seq, ↓ur_ret, ↓ur_region, ↓cont_seq, ↓cont_blk, ↓done_nil, ↓ops_consN, nY_assign, nY_load, ↓ops_nil, opsIf_some, Option.map_some, Option.bind_some, Option.getD_some, Nat.reduceLT, Bool.false_eq_true, ↓upd_same, and_true, List.getElem?_cons_zero, endQ, cfg_P, cfg_frz, List.contains_nil, Option.some.injEq, exists_eq_left', Nat.reduceAdd, nth_zero, Nat.lt_succ_self, cells_int, DRx_int, ↓ev_tmp, ↓iop_assign, ↓iop_load, pickP_f, loadP_ptr, ires_eq, iresL_1, iresAll_nil, iresAll_cons, iresOne_tmp, ↓reduceIte, arr_eq, arrB_some, see_eq, nth_its, pur_its, nth_arcs, pur_arcs, nth_snds, pur_snds, nth_lnks, pur_lnks, lkC_len, lkC_0, lkC_1, lkC_cap, lkC_pri, lkC_take, pur_lkC, Nat.mul_one, Try.f35, ty3, h11, a0]
  ·rintro i ⟨ob2, M2⟩ h
   exact h.elim
  ·rintro ⟨ob2, M2⟩ h
   exact h.elim
theorem o_stock : O_stock := k_stock c_stock
end Sim
