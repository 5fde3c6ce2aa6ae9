/- What functions of this seat compute, by values: contracts (lemmas of the statement's proof, under the conditions that each names). -/
import Derived.Test.YtpdaiflnibekaaaQO
namespace Sim
open Go Go.Proofs
set_option maxRecDepth 10000
set_option maxHeartbeats 2000000
set_option linter.unusedVariables false
set_option linter.unusedSimpArgs false
attribute [local congr] opsIf_congr condC_congr guardC_congr grd_congr pick3_congr obind_congr omap_congr opsV_congr

/-- The step that the value of a set is of. -/
def isBest (st : Int) (rs : List Rep) (s : Nat) (x : Nat × Int) : Bool := match V st rs (s ||| 2 ^ x.1) with | some r => decide (some (x.2 + r) = V st rs s) | none => false
def pick (st : Int) (rs : List Rep) (s : Nat) : Option (Nat × Int) := (nextM st rs s).find? (isBest st rs s)
def bestT (st : Int) (rs : List Rep) : Nat → Nat × List Int
  | 0 => (0, [])
  | j + 1 => match pick st rs (bestT st rs j).1 with
    | some x => ((bestT st rs j).1 ||| 2 ^ x.1, (bestT st rs j).2 ++ [(x.1 : Int)])
    | none => bestT st rs j
def bestM (st : Int) (rs : List Rep) : List Int × Int :=
  if checkM st rs ≠ 0 then ([], checkM st rs) else match V st rs 0 with | none => ([], 21) | some _ => ((bestT st rs rs.length).2, 0)
theorem pick_some {st : Int} {rs : List Rep} {s : Nat} {v : Int} (hs : s < allS rs) (h : V st rs s = some v) : ∃ x ∈ nextM st rs s, ∃ r, pick st rs s = some x ∧ V st rs (s ||| 2 ^ x.1) = some r ∧ x.2 + r = v := by
  obtain ⟨⟨x, hx, r, hr, hv⟩, _⟩ := V_some hs h
  cases hp : pick st rs s with
  | none =>
    have := List.find?_eq_none.1 hp x hx
    simp [isBest, hr, hv, h] at this
  | some y =>
    have h1 := List.find?_some hp
    have h2 := List.mem_of_find?_eq_some hp
    unfold isBest at h1
    cases hq : V st rs (s ||| 2 ^ y.1) with
    | none => simp [hq] at h1
    | some q =>
      simp only [hq, decide_eq_true_eq, h, Option.some.injEq] at h1
      exact ⟨y, h2, q, rfl, hq, h1⟩
/-- The order follows the values. -/
structure BestAt (st : Int) (rs : List Rep) (j : Nat) (b : Nat × List Int) : Prop where
  le : b.1 ≤ allS rs
  val : ∃ v, V st rs b.1 = some v
  cnt : cnt b.1 rs.length = j
  len : b.2.length = j
theorem cnt_lt_all {rs : List Rep} {s : Nat} (h : cnt s rs.length < rs.length) (hs : s ≤ allS rs) : s < allS rs := by
  rcases Nat.lt_or_ge s (allS rs) with g | g
  · exact g
  · have e : s = allS rs := by omega
    subst e
    rw [show cnt (allS rs) rs.length = rs.length from cnt_all _ _ (Nat.le_refl _)] at h
    omega
theorem best_at {st : Int} {rs : List Rep} {v : Int} (h : V st rs 0 = some v) : ∀ j, j ≤ rs.length → BestAt st rs j (bestT st rs j)
  | 0, _ => ⟨by simp [bestT], ⟨v, h⟩, cnt_zero _, rfl⟩
  | j + 1, hj => by
    have ih := best_at h j (by omega)
    obtain ⟨w, hw⟩ := ih.val
    have hlt := cnt_lt_all (rs := rs) (s := (bestT st rs j).1) (by rw [ih.cnt]; omega) ih.le
    obtain ⟨x, hx, r, hp, hr, _⟩ := pick_some hlt hw
    have hb := (next_mem.1 hx)
    simp only [bestT, hp]
    exact ⟨next_le ih.le hx, ⟨r, hr⟩, by rw [cnt_or (step_ok hb.2.1).1 hb.1, ih.cnt], by simp [ih.len]⟩
theorem find_take {α : Type} {p : α → Bool} {l : List α} {i : Nat} {x : α} (h : ∀ y ∈ l.take i, p y = false) (hx : l[i]? = some x) (hp : p x = true) : l.find? p = some x := by
  rw [← List.take_append_drop i l, List.find?_append]
  have h1 : (l.take i).find? p = none := List.find?_eq_none.2 fun y hy => by rw [h y hy]; simp
  rw [h1, Option.none_or]
  have hi : i < l.length := (List.getElem?_eq_some_iff.1 hx).1
  rw [List.drop_eq_getElem_cons hi]
  have e : l[i] = x := (List.getElem?_eq_some_iff.1 hx).2
  rw [e, List.find?_cons, hp]
noncomputable def A_Best : (Int) × (List Rep) → List PV := fun (st, rs) => [.agg [I st, reps rs]]
noncomputable def R_Best : (Int) × (List Rep) → PV := fun (st, rs) => .tuple [ints (bestM st rs).1, I (bestM st rs).2]
def H_Best : (Int) × (List Rep) → Prop := fun (st, rs) => True
noncomputable def e_Best : Nat × Ent := (27, .v (specOf A_Best R_Best H_Best))
theorem j_Best : ∀ i j, A_Best i = A_Best j → i = j := by
  rintro ⟨st₁, rs₁⟩ ⟨st₂, rs₂⟩ h
  simp only [A_Best, List.cons.injEq, and_true, PV.lits.injEq, PV.int.injEq, PV.bool.injEq, PV.str.injEq, PV.agg.injEq, PV.func.injEq, PV.vptr.injEq, true_and, List.map_nil, inj_ints, inj_strs, inj_reps] at h
  simp [Prod.ext_iff, h] <;> omega
theorem s_Best (st : Int) (rs : List Rep) : specOf A_Best R_Best H_Best [.agg [I st, reps rs]] = some (.tuple [ints (bestM st rs).1, I (bestM st rs).2]) := specOf_app j_Best (i := (st, rs)) trivial
def C_Best : Prop := ∀ (st : Int) (rs : List Rep) , VC Try.prog 27 [.agg [I st, reps rs]] (.tuple [ints (bestM st rs).1, I (bestM st rs).2])
def O_Best : Prop := EntOK Try.prog e_Best.1 e_Best.2
theorem k_Best (c : C_Best) : O_Best := specOf_ok fun ⟨st, rs⟩ h => c st rs
theorem c_Best : C_Best := by
  intro st rs
  refine vc_ofD mixed (l := [e_check, e_values, e_next]) ((eok_cons o_check (eok_cons o_values (eok_cons o_next eok_nil)))) [] [] 0 1 Try.func27 rfl (by decide +kernel) (N := 69) rfl (by simp) rfl (by kernel_rfl) fun hs => ?_
  simp only [smallL, PV.small, List.length_map, and_true, true_and] at hs
  by_cases h : checkM st rs = 0
  case neg =>
    rw [show bestM st rs = ([], checkM st rs) by simp [bestM, h]]
    generalize hr : checkM st rs = r at *
    simp +contextual (maxSteps := 4000000) only [↓ur_seq, ↓ur_ret, ↓ur_region, ↓ur_cond, ↓cont_seq, ↓done_nil, ↓done_seq, ↓ops_consN, nY_move, nY_assign, nY_box, nY_load, nY_binOp, nY_callf, ↓ops_nil, opsIf_some, condC_true, Option.map_some, Option.bind_some, Option.getD_some, Nat.reduceLT, Bool.false_eq_true, ↓upd_same, ↓upd_ne, Nat.reduceBEq, and_true, List.getD_cons_zero, endQ, cfg_P, cfg_tab, cfg_muts, cfg_frz, List.map_nil, List.contains_nil, decide_true, Option.some.injEq, exists_eq_left', List.lookup_cons, List.lookup_nil, tabOf_cons, tab_v, Bool.and_self, List.nil_append, List.append_nil, List.length_cons, List.length_nil, Nat.zero_add, List.drop_zero, Nat.reduceAdd, not_false_eq_true, Nat.le_refl, pur_int, pur_lits, cells_agg, pur_agg, DRx_int, DRx_nils_lits, DRx_tuple, DRxL_cons, DRxL_nil, ↓ev_tmp, ↓ev_int, ↓ev_nils, ↓ev_func, ↓iop_move, ↓iop_assign, ↓iop_box, ↓iop_load, ↓iop_binOp, ↓iop_callv, nrmAll_cons, nrmAll_nil, nrm_agg, nrmL_cons, nrmL_nil, nrm1_int, nrm1_lits, pickP_t, loadP_vptr, b_neq, env0_eq, ires_eq, iresL_2, iresAll_nil, iresAll_cons, iresOne_tmp, valT_eq, pursL_cons, pursL_nil, ↓reduceIte, callP_eq, boxP_eq, List.take_succ_cons, List.take_nil, ↓evs_cons, ↓evs_nil, beq_self_eq_true, see_eq, and_false, Bool.true_eq_false, e_check, s_check, e_values, e_next, nth_reps, pur_reps, Try.f27, ty24, h, hr]
  have hc := check_zero.1 h
  have h10 := hc.len
  have hV0 : aget (valsM st rs) 0 = V st rs 0 := rfl
  have hget0 := mget_enc (k := 0) (es := valsM st rs)
  rw [hV0] at hget0
  have hz0 : (I ((0 : Nat) : Int)) = I 0 := rfl
  rw [hz0] at hget0
  cases hv : V st rs 0 with
  | none =>
    rw [show bestM st rs = ([], 21) by simp [bestM, h, hv]]
    rw [hv] at hget0
    simp +contextual (maxSteps := 4000000) only [↓ur_skip, ↓ur_seq, ↓ur_ret, ↓ur_region, ↓ur_cond, ↓cont_seq, ↓done_nil, ↓done_seq, ↓ops_consN, nY_move, nY_assign, nY_alloc, nY_box, nY_load, nY_store, nY_binOp, nY_unOp, nY_lookup, nY_extract, nY_callf, ↓ops_nil, opsIf_some, opsIf_none, condC_true, condC_false, Option.map_some, Option.map_none, Option.bind_some, Option.getD_some, Option.getD_none, Nat.reduceLT, Bool.false_eq_true, ↓upd_same, ↓upd_ne, Nat.reduceBEq, and_true, List.getD_cons_zero, List.getElem?_cons_zero, List.getElem?_cons_succ, endQ, cfg_P, cfg_tab, cfg_muts, cfg_frz, cfg_num, numOf_eq, List.map_nil, List.contains_nil, decide_true, decide_false, Option.some.injEq, exists_eq_left', List.lookup_cons, List.lookup_nil, tabOf_cons, tab_v, tab_m, Bool.and_self, Nat.reduceEqDiff, List.nil_append, List.append_nil, updO_same, updO_ne, List.length_cons, List.length_nil, Nat.zero_add, List.drop_zero, Nat.reduceAdd, List.set_cons_zero, nth_zero, Nat.lt_succ_self, Bool.not_false, not_true_eq_false, Nat.le_refl, cells_int, pur_int, pur_lits, cells_agg, pur_agg, cells_nilm, cells_mref, setCells_nilm, DRx_int, DRx_nils_lits, DRx_tuple, DRxL_cons, DRxL_nil, ↓ev_tmp, ↓ev_int, ↓ev_nils, ↓ev_func, ↓iop_move, ↓iop_assign, ↓iop_alloc, ↓iop_box, ↓iop_load, ↓iop_store, ↓iop_binOp, ↓iop_unOp, ↓iop_extract, extr_tuple, ↓iop_callv, nrmAll_cons, nrmAll_nil, ↓iop_lookup, mapGet_mref, mapLk_tt, mapB_some, keyIs_int, nrm_agg, nrmL_cons, nrmL_nil, nrm1_int, nrm1_lits, pickP_f, pickP_t, loadP_vptr, loadP_ptr, setCells_int, storeP_ptr, b_neq, u_not, env0_eq, ires_eq, iresL_2, iresAll_nil, iresAll_cons, iresOne_tmp, valT_eq, pursL_cons, pursL_nil, Store.new, Store.set, ↓reduceIte, arr_eq, arrB_some, callP_eq, boxP_eq, List.take_succ_cons, List.take_nil, ↓evs_cons, ↓evs_nil, beq_self_eq_true, see_eq, and_false, Bool.true_eq_false, e_check, s_check, e_values, s_values, e_next, nth_reps, pur_reps, Try.f27, ty24, ty64, ty71, h, hc, hget0, Option.isSome_none]
  | some v =>
  rw [show bestM st rs = ((bestT st rs rs.length).2, 0) by simp [bestM, h, hv]]
  rw [hv] at hget0
  generalize hr : (bestT st rs rs.length).2 = r
  have hp := pow1024 (k := rs.length) h10
  have hp1 := one_le_pow rs.length
  have hall : allS rs < 1024 := by unfold allS; omega
  simp +contextual (maxSteps := 4000000) only [↓ur_skip, ↓ur_seq, ↓ur_block, ↓ur_region, ↓ur_cond, ↓cont_seq, ↓ops_consN, nY_move, nY_assign, nY_alloc, nY_box, nY_load, nY_store, nY_binOp, nY_unOp, nY_lookup, nY_extract, nY_callf, ↓ops_nil, opsIf_some, opsIf_none, condC_false, Option.map_some, Option.bind_some, Option.getD_some, Nat.reduceLT, Bool.false_eq_true, ↓upd_same, ↓upd_ne, Nat.reduceBEq, true_and, and_true, List.getD_cons_zero, List.getElem?_cons_zero, List.getElem?_cons_succ, cfg_P, cfg_tab, cfg_muts, cfg_frz, cfg_num, numOf_eq, List.contains_nil, decide_true, decide_false, List.lookup_cons, List.lookup_nil, tabOf_cons, tab_v, tab_m, Bool.and_self, Nat.reduceEqDiff, List.nil_append, List.append_nil, updO_same, updO_ne, List.length_cons, List.length_nil, Nat.zero_add, List.drop_zero, Nat.reduceAdd, List.set_cons_zero, nth_zero, Nat.lt_succ_self, Bool.not_true, not_true_eq_false, Nat.le_refl, cells_int, pur_int, cells_nils, pur_lits, cells_agg, pur_agg, cells_nilm, cells_mref, setCells_nilm, ↓ev_tmp, ↓ev_int, ↓ev_nils, ↓ev_func, ↓iop_move, ↓iop_assign, ↓iop_alloc, ↓iop_box, ↓iop_load, ↓iop_store, ↓iop_binOp, ↓iop_unOp, ↓iop_extract, extr_tuple, ↓iop_callv, nrmAll_cons, nrmAll_nil, ↓iop_lookup, mapGet_mref, mapLk_tt, mapB_some, keyIs_int, nrm_agg, nrmL_cons, nrmL_nil, nrm1_int, nrm1_lits, pickP_f, pickP_t, loadP_vptr, loadP_ptr, setCells_int, storeP_ptr, b_neq, u_not, env0_eq, valT_eq, pursL_cons, pursL_nil, Store.new, Store.set, ↓reduceIte, arr_eq, arrB_some, callP_eq, boxP_eq, List.take_succ_cons, List.take_nil, ↓evs_cons, ↓evs_nil, beq_self_eq_true, see_eq, and_false, Bool.true_eq_false, e_check, s_check, e_values, s_values, e_next, nth_reps, pur_reps, Try.f27, ty24, ty25, ty64, ty71, h, hc, hget0, Option.isSome_some]
  refine loop_cnt [10, 11, 12, 27, 28, 29, 30, 31, 32, 33, 34, 35, 37, 38, 39, 40, 41, 42, 43, 44, 45, 46, 47, 48, 49, 50, 51, 52, 53, 54, 55, 56, 57, 58, 59, 60, 61, 62, 63, 64, 65, 66, 67] rs.length (fun j ρ st' => (st'.obj 0 = some (.map 0 (.int .i64) (encE (valsM st rs))) ∧ 0 < st'.next) ∧ (st'.obj 1 = some (.arr 0 1 [.mref 0 0]) ∧ 1 < st'.next) ∧ (st'.obj 2 = some (.arr 0 1 [I (bestT st rs j).1]) ∧ 2 < st'.next) ∧ ∃ g, (st'.obj 3 = some (.arr 0 1 [.ref 4 g 0 j]) ∧ 3 < st'.next) ∧ (st'.obj 4 = some (.arr g 1 ((bestT st rs j).2.map (PV.int .i64))) ∧ 4 < st'.next)) (.cell _ 3 0 1 1 [.nils] 0 0 ?_ ?_ ?_) ?_ ?_
  · simp +contextual (maxSteps := 4000000) only [updO_same, nth_reps, pur_reps, Try.f27]
  · rfl
  · decide
  · simp +contextual (maxSteps := 4000000) only [Nat.reduceLT, Nat.reduceBEq, true_and, and_true, Option.some.injEq, PV.int.injEq, List.cons.injEq, updO_same, updO_ne, Nat.reduceAdd, List.set_cons_zero, nth_zero, IObj.arr.injEq, Nat.lt_succ_self, setCells_nils, Store.new, Store.set, nth_reps, pur_reps, Try.f27]
    exact ⟨rfl, 0, rfl, rfl, rfl⟩
  · rintro j ρ ⟨ob, M⟩ hj ⟨⟨h0, k0⟩, ⟨h1, k1⟩, ⟨h2, k2⟩, g, ⟨h3, k3⟩, ⟨h4, k4⟩⟩
    dsimp only at h0 k0 h1 k1 h2 k2 h3 k3 h4 k4
    have hba := best_at hv j hj
    obtain ⟨w, hw⟩ := hba.val
    by_cases hlt : j < rs.length
    · have hsl := cnt_lt_all (rs := rs) (s := (bestT st rs j).1) (by rw [hba.cnt]; omega) hba.le
      obtain ⟨x0, hx0, r0, hp0, hr0, hxr0⟩ := pick_some hsl hw
      have hbs : bestT st rs (j + 1) = ((bestT st rs j).1 ||| 2 ^ x0.1, (bestT st rs j).2 ++ [(x0.1 : Int)]) := by simp only [bestT, hp0]
      have hblen := hba.len
      generalize bestT st rs j = b at *
      obtain ⟨s, l⟩ := b
      dsimp only at hba hw hsl hx0 hp0 hr0 hbs hblen h2 h4
      have hs1 : s < 1024 := by omega
      have hgets := mget_enc (k := s) (es := valsM st rs)
      rw [show aget (valsM st rs) s = V st rs s from rfl, hw] at hgets
      simp +contextual (maxSteps := 4000000) only [↓ur_skip, ↓ur_seq, ↓ur_block, ↓ur_region, ↓ur_cond, ur_range, ↓cont_seq, ↓ops_consN, nY_load, nY_binOp, nY_fieldAddr, nY_callf, nY_callb, ↓ops_nil, opsIf_some, condC_true, Option.map_some, Option.bind_some, Option.getD_some, Nat.reduceLT, Bool.false_eq_true, ↓upd_same, ↓upd_ne, Nat.reduceBEq, true_and, List.getElem?_cons_zero, List.getElem?_cons_succ, cfg_P, cfg_tab, cfg_muts, cfg_frz, List.length_map, ↓havoc_out, List.contains_cons, List.contains_nil, Bool.or_false, Int.ofNat_lt, decide_true, List.lookup_cons, List.lookup_nil, tabOf_cons, tab_v, Bool.and_self, Nat.reduceEqDiff, List.nil_append, List.append_nil, List.length_cons, List.length_nil, Nat.zero_add, List.drop_zero, Nat.reduceAdd, nth_zero, Nat.lt_succ_self, Nat.le_refl, cells_int, pur_int, pur_lits, cells_ref, pur_agg, ↓ev_tmp, ↓ev_func, ↓iop_load, ↓iop_binOp, ↓iop_fieldAddr, ↓iop_callv, ↓iop_callb, nrmAll_cons, nrmAll_nil, bi_len, lenM_none, nrm_agg, nrmL_cons, nrmL_nil, nrm_int, nrm1_int, nrm1_lits, pickP_f, pickP_t, loadP_vptr, loadP_ptr, fieldP_vptr, lenP_lits, lenP_ref, b_lss, valT_eq, pursL_cons, pursL_nil, ↓reduceIte, arr_eq, arrB_some, callP_eq, List.take_succ_cons, List.take_nil, ↓evs_cons, ↓evs_nil, beq_self_eq_true, see_eq, and_false, Bool.true_eq_false, s_next, nth_reps, pur_reps, Try.f27, ty22, ty24, ty25, ty64, h0, h1, h2, h3, h4, hlt]
      refine run_range (ys := (nextM st rs s).map fun x => [stepV x]) (f := 57) (first := []) (captured := [.vptr [I st, reps rs] 0, .vptr [I s] 0]) rfl rfl (hookMono_none rfl) ?_ (y_next hc hs1) rfl ?_ (by kernel_rfl) (by kernel_rfl)
        (fun i st' => (st'.obj 0 = some (.map 0 (.int .i64) (encE (valsM st rs))) ∧ 0 < st'.next) ∧ (st'.obj 1 = some (.arr 0 1 [.mref 0 0]) ∧ 1 < st'.next) ∧ (st'.obj 2 = some (.arr 0 1 [I s]) ∧ 2 < st'.next) ∧ (st'.obj 3 = some (.arr 0 1 [.ref 4 g 0 j]) ∧ 3 < st'.next) ∧ (st'.obj 4 = some (.arr g 1 (l.map (PV.int .i64))) ∧ 4 < st'.next) ∧ (∀ x ∈ (nextM st rs s).take i, isBest st rs s x = false))
        (fun e st' => (match e with | .exit i => i = 2 | _ => False) ∧ (st'.obj 0 = some (.map 0 (.int .i64) (encE (valsM st rs))) ∧ 0 < st'.next) ∧ (st'.obj 1 = some (.arr 0 1 [.mref 0 0]) ∧ 1 < st'.next) ∧ (st'.obj 2 = some (.arr 0 1 [I (s ||| 2 ^ x0.1 : Nat)]) ∧ 2 < st'.next) ∧ ∃ g, (st'.obj 3 = some (.arr 0 1 [.ref 4 g 0 (j + 1)]) ∧ 3 < st'.next) ∧ (st'.obj 4 = some (.arr g 1 ((l ++ [(x0.1 : Int)]).map (PV.int .i64))) ∧ 4 < st'.next)) ?_ ?_ ?_ ?_ ?_ ?_ ?_
      · simp +contextual (maxSteps := 4000000) only [↓upd_same, ↓ev_tmp, nth_reps, pur_reps, Try.f27]
      · intro y hy
        obtain ⟨x, _, rfl⟩ := List.mem_map.1 hy
        rfl
      · intro i
        exact (Stays.obj (fun _ => by simp)).and ((Stays.obj (fun _ => by simp)).and ((Stays.obj (fun _ => by simp)).and ((Stays.obj (fun _ => by simp)).and ((Stays.obj (fun _ => by simp)).and Stays.const))))
      · intro e
        exact Stays.const.and ((Stays.obj (fun _ => by simp)).and ((Stays.obj (fun _ => by simp)).and ((Stays.obj (fun _ => by simp)).and (Stays.ex fun g => (Stays.obj (fun _ => by simp)).and (Stays.obj (fun _ => by simp))))))
      · exact ⟨⟨h0, k0⟩, ⟨h1, k1⟩, ⟨h2, k2⟩, ⟨h3, k3⟩, ⟨h4, k4⟩, fun x hx => by simp at hx⟩
      · rintro i y ⟨ob2, M2⟩ id lr hy hid hlp ⟨⟨a0, b0⟩, ⟨a1, b1⟩, ⟨a2, b2⟩, ⟨a3, b3⟩, ⟨a4, b4⟩, hno⟩
        obtain ⟨x, hx, hxi, rfl⟩ := next_at hy
        dsimp only at hid hlp a0 a1 a2 a3 a4 b0 b1 b2 b3 b4
        have d0 : ¬ id = 0 := fun e => by rw [e, a0] at hlp; cases hlp
        have d1 : ¬ id = 1 := fun e => by rw [e, a1] at hlp; cases hlp
        have d2 : ¬ id = 2 := fun e => by rw [e, a2] at hlp; cases hlp
        have d3 : ¬ id = 3 := fun e => by rw [e, a3] at hlp; cases hlp
        have d4 : ¬ id = 4 := fun e => by rw [e, a4] at hlp; cases hlp
        have d5 : ¬ id = M2 := by omega
        have e0 : ¬ 0 = M2 := by omega
        have e1 : ¬ 1 = M2 := by omega
        have e2 : ¬ 2 = M2 := by omega
        have e3 : ¬ 3 = M2 := by omega
        have e4 : ¬ 4 = M2 := by omega
        have e5 : ¬ M2 = 4 := by omega
        have e6 : ¬ M2 = 3 := by omega
        have f0 : ¬ 0 = id := fun e => d0 e.symm
        have f1 : ¬ 1 = id := fun e => d1 e.symm
        have f2 : ¬ 2 = id := fun e => d2 e.symm
        have f3 : ¬ 3 = id := fun e => d3 e.symm
        have f4 : ¬ 4 = id := fun e => d4 e.symm
        have f5 : ¬ M2 = id := fun e => d5 e.symm
        obtain ⟨g1, g2, g3⟩ := next_b hc hx
        have hx64 : x.1 ≤ 64 := by omega
        have hpx : 2 ^ x.1 < 2 ^ rs.length := Nat.pow_lt_pow_right (by omega) g1
        have hsx := shl1 (k := x.1) (by omega)
        have hor := orI_nat (a := s) (b := 2 ^ x.1) (by omega) (by omega)
        have hno' : isBest st rs s x = false → ∀ z ∈ (nextM st rs s).take (i + 1), isBest st rs s z = false := fun hf z hz => by
          rw [List.take_add_one, List.mem_append] at hz
          rcases hz with hz | hz
          · exact hno z hz
          · rw [hxi] at hz
            simp only [Option.toList_some, List.mem_singleton] at hz
            subst hz; exact hf
        have hgetx := mget_enc (k := s ||| 2 ^ x.1) (es := valsM st rs)
        rw [show aget (valsM st rs) (s ||| 2 ^ x.1) = V st rs (s ||| 2 ^ x.1) from rfl] at hgetx
        cases hg : V st rs (s ||| 2 ^ x.1) with
        | none =>
          rw [hg] at hgetx
          have hf : isBest st rs s x = false := by simp [isBest, hg]
          simp +contextual (maxSteps := 4000000) only [↓ur_skip, ↓ur_seq, ↓ur_block, ↓ur_region, ↓ur_cond, ↓cont_nil, ↓cont_seq, ↓cont_blk, ↓ops_consN, ↓ops_guardN, ↓setps_cons, ↓setps_nil, rndX_cfg, nY_move, nY_assign, nY_pick, nY_alloc, nY_load, nY_store, nY_binOp, nY_fieldAddr, nY_lookup, nY_extract, ↓ops_nil, opsIf_some, opsIf_none, opsIf_if', map_if, condC_false, guardC_ft, Option.map_some, Option.map_none, Option.bind_some, Option.getD_some, Option.getD_none, Nat.reduceLT, Bool.false_eq_true, ↓upd_same, ↓upd_ne, Nat.reduceBEq, true_and, and_true, List.getElem?_toArray, List.getElem?_cons_zero, List.getElem?_cons_succ, forall_const, cfg_P, cfg_frz, cfg_num, numOf_eq, ↓havoc_out, List.contains_cons, List.contains_nil, Bool.or_false, Int.toNat_natCast, decide_true, List.nil_append, List.append_nil, updO_same, updO_ne, List.length_cons, List.length_nil, Nat.zero_add, Nat.add_zero, List.take_zero, Nat.reduceAdd, List.set_cons_zero, nth_zero, Nat.lt_succ_self, not_false_eq_true, Nat.le_refl, cells_int, cells_agg, cells_mref, ↓ev_tmp, ↓ev_int, ↓ev_bool, ↓guardP_eq, grd_some, ↓iop_move, ↓iop_assign, ↓pick3_bool, ↓iop_pick, ↓iop_alloc, ↓iop_load, ↓iop_store, ↓iop_binOp, ↓iop_fieldAddr, ↓iop_extract, extr_tuple, ↓iop_lookup, mapGet_mref, mapLk_tt, mapB_some, keyIs_int, pickP_f, loadP_ptr, setCells_agg, storeP_ptr, fieldP_ptr, b_or, b_shl, splice_eq, Store.new, Store.set, ↓reduceIte, arr_eq, arrB_some, beq_eq_false_iff_ne, ne_eq, List.drop_succ_cons, List.drop_nil, see_eq, bits_i64, or_i64, Nat.min_def, nth_reps, pur_reps, Try.f27, ty3, ty64, ty71, ty78, hlp, a0, a1, a2, a3, a4, d0, d1, d2, d3, d4, d5, e0, e1, e2, e3, e4, e5, e6, f0, f1, f2, f3, f4, f5, roundA, roundB, hx64, hsx, hor, hgetx, hgets, Option.isSome_none, Option.isSome_some]
          exact ⟨by omega, by omega, by omega, by omega, by omega, by omega, by omega, hno' hf⟩
        | some q =>
          rw [hg] at hgetx
          have hvb := V_bound hc hg
          have hwr : IntKind.i64.wrap (x.2 + q) = x.2 + q := wrap64 (by omega) (by omega)
          by_cases hq : x.2 + q = w
          · have hf : isBest st rs s x = true := by simp [isBest, hg, hw, hq]
            have hxx : x = x0 := by
              have := find_take (p := isBest st rs s) hno hxi hf
              unfold pick at hp0
              rw [hp0] at this
              exact (Option.some.inj this).symm
            subst hxx
            rw [hq] at hwr
            simp +contextual (maxSteps := 4000000) only [↓ur_seq, ↓ur_block, ↓ur_exit, ↓ur_region, ↓ur_cond, Nat.one_ne_zero, ↓cont_nil, ↓cont_seq, ↓leave_blk, ↓ops_consN, ↓ops_guardN, ↓leave_nil, ↓setps_cons, ↓setps_nil, rndX_cfg, nY_move, nY_assign, nY_pick, nY_alloc, nY_buildSlice, nY_load, nY_store, nY_binOp, nY_fieldAddr, nY_lookup, nY_extract, nY_callb, ↓ops_nil, opsIf_some, opsIf_none, opsIf_if, opsIf_if', map_if, condC_true, guardC_tt, Option.map_some, Option.map_none, Option.bind_some, Option.getD_some, Nat.reduceLT, Bool.false_eq_true, ↓upd_same, ↓upd_ne, Nat.reduceBEq, true_and, and_true, List.getElem?_toArray, List.getElem?_cons_zero, List.getElem?_cons_succ, forall_const, cfg_P, cfg_muts, cfg_frz, cfg_num, numOf_eq, List.length_map, ↓havoc_out, List.contains_cons, List.contains_nil, Bool.or_false, Int.toNat_natCast, decide_true, Option.some.injEq, List.cons.injEq, Nat.reduceEqDiff, List.nil_append, List.append_nil, updO_same, updO_ne, List.length_cons, List.length_nil, Nat.zero_add, Nat.add_zero, List.drop_zero, List.take_zero, Nat.not_succ_le_self, Nat.reduceAdd, List.replicate_succ, List.replicate_zero, List.set_cons_zero, Nat.reduceMul, Nat.reduceLeDiff, nth_zero, IObj.arr.injEq, Nat.lt_succ_self, not_false_eq_true, or_false, Nat.le_refl, cells_int, cells_ref, cells_agg, cells_mref, ↓ev_tmp, ↓ev_int, ↓guardP_eq, grd_some, ↓iop_move, ↓iop_assign, ↓pick3_bool, ↓iop_pick, ↓iop_alloc, ↓iop_buildSlice, ↓iop_load, ↓iop_store, ↓iop_binOp, ↓iop_fieldAddr, ↓iop_extract, extr_tuple, ↓iop_callb, ↓iop_lookup, mapGet_mref, mapLk_tt, mapLk_ff, mapB_some, keyIs_int, bi_append, pickP_f, loadP_ptr, setCells_agg, setCells_int, setCells_ref, storeP_ptr, fieldP_ptr, elemsP_lits, appendP_ref, b_add, b_or, b_eql, b_shl, bel_nil, bel_cons, splice_eq, Store.new, Store.set, ↓reduceIte, arr_eq, arrB_some, bslP_eq, beq_eq_false_iff_ne, ne_eq, List.drop_succ_cons, List.drop_nil, ↓evs_cons, ↓evs_nil, ↓evp_cons, ↓evp_nil, see_eq, bits_i64, or_i64, Nat.min_def, nth_reps, pur_reps, Try.f27, ty3, ty25, ty64, ty71, ty78, hlp, a0, a1, a2, a3, a4, d0, d1, d2, d3, d4, d5, e0, e1, e2, e3, e4, e5, e6, f0, f1, f2, f3, f4, f5, roundA, roundB, hx64, hsx, hor, hgetx, hgets, Option.isSome_none, Option.isSome_some, hwr, hq, hblen]
            refine ⟨by omega, by omega, by omega, by omega, by omega, by omega, by omega, g + 1, ⟨rfl, by omega⟩, ⟨rfl, ?_⟩, by omega⟩
            rw [List.take_of_length_le (by simp [hblen])]; simp
          · have hf : isBest st rs s x = false := by simp [isBest, hg, hw, hq]
            simp +contextual (maxSteps := 4000000) only [↓ur_skip, ↓ur_seq, ↓ur_block, ↓ur_region, ↓ur_cond, ↓cont_nil, ↓cont_seq, ↓cont_blk, ↓ops_consN, ↓ops_guardN, ↓setps_cons, ↓setps_nil, rndX_cfg, nY_move, nY_assign, nY_pick, nY_alloc, nY_load, nY_store, nY_binOp, nY_fieldAddr, nY_lookup, nY_extract, ↓ops_nil, opsIf_some, opsIf_none, opsIf_if', map_if, condC_false, guardC_tt, Option.map_some, Option.map_none, Option.bind_some, Option.getD_some, Nat.reduceLT, Bool.false_eq_true, ↓upd_same, ↓upd_ne, Nat.reduceBEq, true_and, and_true, List.getElem?_toArray, List.getElem?_cons_zero, List.getElem?_cons_succ, forall_const, cfg_P, cfg_frz, cfg_num, numOf_eq, ↓havoc_out, List.contains_cons, List.contains_nil, Bool.or_false, Int.toNat_natCast, decide_true, decide_false, List.nil_append, List.append_nil, updO_same, updO_ne, List.length_cons, List.length_nil, Nat.zero_add, Nat.add_zero, List.take_zero, Nat.reduceAdd, List.set_cons_zero, nth_zero, Nat.lt_succ_self, not_false_eq_true, Nat.le_refl, cells_int, cells_agg, cells_mref, ↓ev_tmp, ↓ev_int, ↓guardP_eq, grd_some, ↓iop_move, ↓iop_assign, ↓pick3_bool, ↓iop_pick, ↓iop_alloc, ↓iop_load, ↓iop_store, ↓iop_binOp, ↓iop_fieldAddr, ↓iop_extract, extr_tuple, ↓iop_lookup, mapGet_mref, mapLk_tt, mapLk_ff, mapB_some, keyIs_int, pickP_f, loadP_ptr, setCells_agg, storeP_ptr, fieldP_ptr, b_add, b_or, b_eql, b_shl, splice_eq, Store.new, Store.set, ↓reduceIte, arr_eq, arrB_some, beq_eq_false_iff_ne, ne_eq, List.drop_succ_cons, List.drop_nil, see_eq, bits_i64, or_i64, Nat.min_def, nth_reps, pur_reps, Try.f27, ty3, ty64, ty71, ty78, hlp, a0, a1, a2, a3, a4, d0, d1, d2, d3, d4, d5, e0, e1, e2, e3, e4, e5, e6, f0, f1, f2, f3, f4, f5, roundA, roundB, hx64, hsx, hor, hgetx, hgets, Option.isSome_none, Option.isSome_some, hwr, hq]
            exact ⟨by omega, by omega, by omega, by omega, by omega, by omega, by omega, hno' hf⟩
      · rintro ⟨ob2, M2⟩ ⟨_, _, _, _, _, hno⟩
        rw [List.length_map, List.take_of_length_le (Nat.le_refl _)] at hno
        have := hno x0 hx0
        simp [isBest, hr0, hw, hxr0] at this
      · rintro i ⟨ob2, M2⟩ ⟨hi, ⟨a0, b0⟩, ⟨a1, b1⟩, ⟨a2, b2⟩, g2, ⟨a3, b3⟩, ⟨a4, b4⟩⟩
        dsimp only at hi a0 a1 a2 a3 a4 b0 b1 b2 b3 b4
        subst hi
        simp +contextual (maxSteps := 4000000) only [↓cont_blk, ↓cont_lp, ↓leave_blk, Nat.reduceBEq, true_and, and_true, agree_upd, agree_havoc, List.contains_cons, List.contains_nil, Bool.or_false, Bool.or_true, Option.some.injEq, List.cons.injEq, IObj.arr.injEq, ↓reduceIte, beq_self_eq_true, nth_reps, pur_reps, Try.f27, a0, a1, a2, a3, a4, hbs]
        exact ⟨b0, b1, b2, g2, ⟨rfl, b3⟩, rfl, b4⟩
      · rintro ⟨ob2, M2⟩ ⟨h, _⟩
        exact h.elim
    · have e : j = rs.length := by omega
      subst e
      simp +contextual (maxSteps := 4000000) only [↓ur_seq, ↓ur_exit, ↓ur_ret, ↓ur_region, ↓ur_cond, ↓cont_seq, ↓leave_seq, ↓leave_blk, ↓leave_lp, ↓done_nil, ↓ops_consN, nY_assign, nY_load, nY_binOp, nY_fieldAddr, nY_callb, ↓ops_nil, opsIf_some, condC_false, Option.map_some, Option.bind_some, Option.getD_some, Nat.reduceLT, Bool.false_eq_true, ↓upd_same, ↓upd_ne, Nat.reduceBEq, true_and, and_true, List.getElem?_cons_zero, List.getElem?_cons_succ, endQ, cfg_P, cfg_frz, List.length_map, ↓havoc_out, List.contains_cons, List.contains_nil, Bool.or_false, Int.ofNat_lt, decide_false, Option.some.injEq, exists_eq_left', pur_ints, Nat.zero_add, List.drop_zero, nth_zero, Prod.mk.injEq, Nat.lt_irrefl, Nat.lt_succ_self, cells_ref, DRx_int, DRx_ref, DRx_tuple, DRxL_cons, DRxL_nil, ↓ev_tmp, ↓ev_int, ↓iop_assign, ↓iop_load, ↓iop_binOp, ↓iop_fieldAddr, ↓iop_callb, bi_len, lenM_none, pickP_f, loadP_vptr, loadP_ptr, fieldP_vptr, lenP_lits, lenP_ref, b_lss, ires_eq, iresL_2, iresAll_nil, iresAll_cons, iresOne_tmp, ↓reduceIte, arr_eq, arrB_some, ↓evs_cons, ↓evs_nil, see_eq, nth_reps, pur_reps, Try.f27, ty22, ty24, ty25, h0, h1, h2, h3, h4]
      rw [hba.len, List.take_of_length_le (by simp [hba.len]), hr]
      exact ⟨Nat.le_refl _, rfl⟩
theorem o_Best : O_Best := k_Best c_Best
end Sim
