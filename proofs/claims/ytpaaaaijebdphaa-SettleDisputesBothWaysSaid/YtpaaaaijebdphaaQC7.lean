/- What functions of this seat compute, by values: contracts (lemmas of the statement's proof, under the conditions that each names). -/
import Derived.Test.YtpaaaaijebdphaaQP7
import Derived.Test.YtpaaaaijebdphaaQZ
namespace Sim
open Go Go.Proofs
set_option maxRecDepth 10000
set_option maxHeartbeats 2000000
set_option linter.unusedVariables false
set_option linter.unusedSimpArgs false
attribute [local congr] opsIf_congr condC_congr guardC_congr grd_congr pick3_congr obind_congr omap_congr nilC_congr
theorem decI_map : ∀ l : List Int, decI (l.map (PV.int .i64)) = some l
  | [] => rfl
  | a :: l => by show (decI (l.map (PV.int .i64))).map (fun rs => a :: rs) = _; rw [decI_map l]; rfl
theorem decP_map : ∀ l : List Pst, decP (l.map pstV) = some l
  | [] => rfl
  | (a, b, c, d, e, f) :: l => by show (decP (l.map pstV)).map (fun rs => (a, b, c, d, e, f) :: rs) = _; rw [decP_map l]; rfl
/-! A list's postings added to the sums. -/
def sgn (b x : Int) : Int := if b = 1 then x else -x
def addK (tb : List Int) (l : List Pst) (b : Int) (k : Nat) : List Int := tbl 40 fun i => tb.getD i 0 + sgn b (gotS (l.take k) i)
def addO (ob : Nat → Option IObj) (M : Nat) (l : List Pst) : Nat → Nat → Option IObj
  | 0 => ob
  | k + 1 => updO (addO ob M l k) (M + k) (some (.arr 0 6 [pstV (l.getD k dP)]))
def addOK (tb : List Int) (l : List Pst) (b : Int) : Prop := tb.length = 40 ∧ (b = 1 ∨ b = -1) ∧ l.length ≤ 100 ∧ (∀ p ∈ l, rgtO p) ∧ ∀ i, i < 40 → -1125899906842624 ≤ tb.getD i 0 ∧ tb.getD i 0 ≤ 1125899906842624
noncomputable def addA (o : Option (Nat × List PV)) (l : List Pst) (b : Int) (st : Store) (id gen : Nat) : Option (PV × Store) :=
  match o with
  | some (40, [.agg cs]) => (decI cs).bind fun tb => @ite _ (addOK tb l b ∧ id < st.next) (Classical.propDecidable _) (some (.tuple [], ⟨updO (addO st.obj st.next l l.length) id (some (.arr gen 40 [.agg ((addK tb l b l.length).map (PV.int .i64))])), st.next + l.length⟩)) none
  | _ => none
noncomputable def addT (args : List PV) (st : Store) : Option (PV × Store) :=
  match args with
  | [.lits 6 ps, .int .i64 b, .ptr id gen 0 0] => (decP ps).bind fun l => addA (st.arr? id gen) l b st id gen
  | _ => none
theorem addA_some {l : List Pst} {b : Int} {st : Store} {id gen : Nat} {tb : List Int} (h : addOK tb l b) (hid : id < st.next) : addA (some (40, [.agg (tb.map (PV.int .i64))])) l b st id gen = some (.tuple [], ⟨updO (addO st.obj st.next l l.length) id (some (.arr gen 40 [.agg ((addK tb l b l.length).map (PV.int .i64))])), st.next + l.length⟩) := by
  simp only [addA, decI_map, Option.bind_some]
  rw [if_pos ⟨h, hid⟩]
theorem s_add (l : List Pst) (b : Int) (id gen : Nat) (st : Store) : addT [.lits 6 (l.map pstV), .int .i64 b, .ptr id gen 0 0] st = addA (st.arr? id gen) l b st id gen := by
  simp only [addT, decP_map, Option.bind_some]
noncomputable def e_add : Nat × Ent := (25, .x addT)
theorem gotS_succ {l : List Pst} {k : Nat} (h : k < l.length) (i : Int) : gotS (l.take (k + 1)) i = gotS (l.take k) i + gotQ (l.getD k dP) i := by
  unfold gotS
  rw [List.take_succ_eq_append_getElem h, List.map_append, List.sum_append]
  simp [h]
theorem gotS_le {l : List Pst} (h : ∀ p ∈ l, rgtO p) (i : Int) : -(1099511627776 * (l.length : Int)) ≤ gotS l i ∧ gotS l i ≤ 1099511627776 * (l.length : Int) := by
  induction l with
  | nil => simp [gotS]
  | cons p l ih =>
    have ih := ih fun q hq => h q (by simp [hq])
    have hp := h p (by simp)
    unfold rgtO at hp
    unfold gotS at ih ⊢
    rw [List.map_cons, List.sum_cons, List.length_cons]
    unfold gotQ at ih ⊢
    constructor <;> split <;> split <;> omega
theorem add_step {tb : List Int} {l : List Pst} {b : Int} {k u v : Nat} {p : Pst} (hk : k < l.length) (hp : l.getD k dP = p) (hu : (u : Int) = p.1) (hv : (v : Int) = p.2.1) (hne : ¬ u = v) (hun : u < 40) (hvn : v < 40) :
    ((addK tb l b k).set u ((addK tb l b k).getD u 0 + sgn b p.2.2.1)).set v ((addK tb l b k).getD v 0 - sgn b p.2.2.1) = addK tb l b (k + 1) := by
  unfold addK
  rw [tbl_at hun, tbl_at hvn, tbl_set, tbl_set]
  refine tbl_ext fun i hi => ?_
  simp only [gotS_succ hk, hp, gotQ]
  rw [← hu, ← hv]
  unfold sgn
  by_cases c1 : i = v
  · subst c1
    rw [if_pos rfl, if_neg (show ¬ (u : Int) = (i : Int) by omega), if_pos rfl]; split <;> omega
  · rw [if_neg c1]
    by_cases c2 : i = u
    · subst c2
      rw [if_pos rfl, if_pos rfl, if_neg (show ¬ (v : Int) = (i : Int) by omega)]; split <;> omega
    · rw [if_neg c2, if_neg (show ¬ (u : Int) = (i : Int) by omega), if_neg (show ¬ (v : Int) = (i : Int) by omega)]; split <;> omega
theorem splice_1 {l : List PV} {o : Nat} {v : PV} (h : o < l.length) : splice l o [v] = l.set o v := by
  rw [splice_eq, List.set_eq_take_append_cons_drop, if_pos h]; simp
theorem get_ints {l : List Int} {k : Nat} (h : k < l.length) : (l.map (PV.int .i64))[k]? = some (I (l.getD k 0)) := by
  rw [List.getElem?_map, List.getElem?_eq_getElem h]; simp [h]
theorem spl_ints {l : List Int} {o : Nat} {v : Int} (h : o < l.length) : (l.map (PV.int .i64)).take o ++ [I v] ++ (l.map (PV.int .i64)).drop (o + 1) = (l.set o v).map (PV.int .i64) := by
  rw [List.map_set, List.set_eq_take_append_cons_drop, if_pos (by rw [List.length_map]; exact h)]; simp
theorem addO_other {ob : Nat → Option IObj} {M : Nat} {l : List Pst} {i : Nat} : ∀ {k : Nat}, (i < M ∨ M + k ≤ i) → addO ob M l k i = ob i
  | 0, _ => rfl
  | k + 1, h => by
    simp only [addO, updO]
    rw [if_neg (by omega)]
    exact addO_other (by omega)
theorem c_add {tb : List Int} {l : List Pst} {b : Int} {id gen : Nat} {st : Store} (h : addOK tb l b) (hid : id < st.next) (ha : st.obj id = some (.arr gen 40 [.agg (tb.map (PV.int .i64))])) : IXC Try.prog 25 [psts l, I b, .ptr id gen 0 0] st fun r' st'' => r' = .tuple [] ∧ st'' = ⟨updO (addO st.obj st.next l l.length) id (some (.arr gen 40 [.agg ((addK tb l b l.length).map (PV.int .i64))])), st.next + l.length⟩ := by
  obtain ⟨ob, M⟩ := st
  dsimp only at ha hid ⊢
  obtain ⟨h1, h2, h3, h4, h5⟩ := h
  refine ixc_ofD mixed (l := []) (eok_nil) [] [] 0 Try.func25 rfl (by decide +kernel) (N := 34) rfl (by simp) rfl (by kernel_rfl) ?_
  have e0 : addK tb l b 0 = tb := by
    unfold addK
    have : tb = tbl 40 (fun i => tb.getD i 0) := by rw [← h1]; exact tbl_of.symm
    conv => rhs; rw [this]
    refine tbl_ext fun i _ => ?_
    simp [gotS, sgn]
  obtain ⟨R, hR⟩ : ∃ R, addK tb l b l.length = R := ⟨_, rfl⟩
  obtain ⟨OB, hOB⟩ : ∃ OB, addO ob M l l.length = OB := ⟨_, rfl⟩
  rw [hR, hOB]
  simp +contextual (maxSteps := 4000000) only [↓ur_seq, ↓ur_block, ↓ur_region, ↓cont_seq, ↓ops_consN, nY_move, nY_callb, ↓ops_nil, opsIf_some, Option.map_some, Option.getD_some, Nat.reduceLT, ↓upd_same, true_and, List.getD_cons_zero, cfg_P, List.length_map, ↓ev_tmp, ↓ev_int, ↓iop_move, ↓iop_callb, bi_len, lenM_none, lenP_lits, env0_eq, ↓reduceIte, ↓evs_cons, ↓evs_nil, nth_psts, pur_psts, nth_gaps, pur_gaps, nth_pays, pur_pays, Try.f25, ty22]
  refine loop_cnt [6, 9, 10, 11, 12, 13, 14, 15, 16, 17, 18, 19, 20, 21, 22, 23, 24, 25, 26, 27, 28, 29, 30, 31, 32, 33] l.length (fun k ρ st' => ρ 9 = I k ∧ st' = ⟨updO (addO ob M l k) id (some (.arr gen 40 [.agg ((addK tb l b k).map (PV.int .i64))])), M + k⟩) (.refl _) ?_ ?_
  · simp +contextual (maxSteps := 4000000) only [↓upd_same, true_and, Nat.add_zero, Int.cast_ofNat_Int, nth_psts, pur_psts, nth_gaps, pur_gaps, nth_pays, pur_pays, Try.f25, e0, addO]
    congr 1
    funext i
    simp only [updO]
    split
    · rename_i e; rw [e, ha]
    · rfl
  rintro k ρ st' hk ⟨h9, rfl⟩
  by_cases hlt : k < l.length
  · have hwk := wrapN' (k := k) (by omega)
    have hr : rgtO (l.getD k dP) := h4 _ (by rw [List.getD_eq_getElem?_getD, List.getElem?_eq_getElem hlt]; exact List.getElem_mem _)
    have hbl : (addK tb l b k).length = 40 := tbl_len
    have hbnd : ∀ i, i < 40 → -(1236850523537408) ≤ (addK tb l b k).getD i 0 ∧ (addK tb l b k).getD i 0 ≤ 1236850523537408 := fun i hi => by
      have a := gotS_le (l := l.take k) (fun p hp => h4 p (List.mem_of_mem_take hp)) (i : Int)
      rw [List.length_take, Nat.min_eq_left hk] at a
      have c := h5 i hi
      unfold addK
      rw [tbl_at hi]
      unfold sgn
      split <;> omega
    have hst := fun h => add_step (tb := tb) (l := l) (b := b) (k := k) (u := (l.getD k dP).1.toNat) (v := (l.getD k dP).2.1.toNat) hlt rfl (by unfold rgtO at hr; omega) (by unfold rgtO at hr; omega) h (by unfold rgtO at hr; omega) (by unfold rgtO at hr; omega)
    have m0 : ¬ id = M + k := by omega
    have m1 : ¬ M + k = id := by omega
    have hO : addO ob M l (k + 1) = updO (addO ob M l k) (M + k) (some (.arr 0 6 [pstV (l.getD k dP)])) := rfl
    generalize hx : l.getD k dP = x at *
    unfold rgtO at hr
    have e1 := Int.toNat_of_nonneg hr.1.1
    have e2 := Int.toNat_of_nonneg hr.2.1.1
    have hun : x.1.toNat < 40 := by omega
    have hvn : x.2.1.toNat < 40 := by omega
    have huv : ¬ x.1.toNat = x.2.1.toNat := by omega
    have hst := hst huv
    have b1 := hbnd _ hun
    have b2 := hbnd _ hvn
    have hsg : IntKind.i64.wrap (b * x.2.2.1) = sgn b x.2.2.1 := by
      rcases h2 with rfl | rfl
      · unfold sgn; rw [if_pos rfl, Int.one_mul, wrap64 (by omega) (by omega)]
      · unfold sgn; rw [if_neg (by decide), Int.neg_mul, Int.one_mul, wrap64 (by omega) (by omega)]
    have hsb : -1099511627776 ≤ sgn b x.2.2.1 ∧ sgn b x.2.2.1 ≤ 1099511627776 := by unfold sgn; split <;> omega
    generalize sgn b x.2.2.1 = s at *
    have hs1 : ((addK tb l b k).set x.1.toNat ((addK tb l b k).getD x.1.toNat 0 + s)).getD x.2.1.toNat 0 = (addK tb l b k).getD x.2.1.toNat 0 := by
      simp only [List.getD_eq_getElem?_getD, List.getElem?_set, if_neg huv]
    have w1 : IntKind.i64.wrap ((addK tb l b k).getD x.1.toNat 0 + s) = (addK tb l b k).getD x.1.toNat 0 + s := wrap64 (by omega) (by omega)
    have w2 : IntKind.i64.wrap ((addK tb l b k).getD x.2.1.toNat 0 - s) = (addK tb l b k).getD x.2.1.toNat 0 - s := wrap64 (by omega) (by omega)
    rw [← hst, hO]
    generalize x.1.toNat = u at *
    generalize x.2.1.toNat = v at *
    generalize addK tb l b k = T at *
    generalize addO ob M l k = O at *
    have huni : (u : Int) < 40 := by omega
    have hvni : (v : Int) < 40 := by omega
    have hg1 := get_ints (l := T) (k := u) (by omega)
    have hg2 := get_ints (l := T.set u (T.getD u 0 + s)) (k := v) (by rw [List.length_set]; omega)
    rw [hs1] at hg2
    have sp1 := spl_ints (l := T) (o := u) (v := T.getD u 0 + s) (by omega)
    have sp2 := spl_ints (l := T.set u (T.getD u 0 + s)) (o := v) (v := T.getD v 0 - s) (by rw [List.length_set]; omega)
    simp +contextual (maxSteps := 4000000) only [↓ur_skip, ↓ur_seq, ↓ur_block, ↓ur_region, ↓ur_cond, ↓cont_seq, ↓cont_blk, ↓cont_lp, ↓ops_consN, nY_move, nY_alloc, nY_load, nY_store, nY_binOp, nilO_tmp, nilO_int, nY_fieldAddr, nY_indexAddr, ↓ops_nil, opsIf_some, opsIf_none, opsIf_if, map_if, condC_true, Option.map_some, Option.map_none, Option.bind_some, Option.getD_some, Nat.reduceLT, Bool.false_eq_true, ↓upd_same, ↓upd_ne, Nat.reduceBEq, true_and, and_true, List.getD_cons_zero, List.getD_cons_succ, List.getElem?_cons_zero, List.getElem?_cons_succ, cfg_P, cfg_frz, cfg_num, numOf_eq, List.length_map, ↓havoc_in, ↓havoc_out, agree_upd, agree_havoc, List.contains_cons, List.contains_nil, Bool.or_false, Bool.or_true, Int.natCast_nonneg, Int.ofNat_lt, Int.toNat_natCast, decide_true, List.nil_append, List.append_nil, updO_same, updO_ne, List.length_cons, List.length_nil, Nat.zero_add, Nat.add_zero, List.drop_zero, List.take_zero, Nat.reduceAdd, List.set_cons_zero, Nat.reduceLeDiff, nth_zero, Nat.lt_succ_self, Bool.not_false, not_false_eq_true, Nat.le_refl, cells_int, cells_agg, ↓ev_tmp, ↓ev_int, ↓iop_move, ↓iop_alloc, ↓iop_load, ↓iop_store, ↓iop_binOp, ↓iop_fieldAddr, ↓iop_indexAddr, idxA_int, pickP_f, pickP_t, loadP_vptr, loadP_ptr, setCells_agg, storeP_ptr, fieldP_ptr, indexP_lits, indexP_ptr, b_add, b_sub, b_mul, b_lss, splice_eq, env0_eq, Store.new, Store.set, ↓reduceIte, arr_eq, arrB_some, beq_eq_false_iff_ne, ne_eq, List.take_succ_cons, List.drop_succ_cons, List.drop_nil, List.take_nil, beq_self_eq_true, see_eq, Int.cast_ofNat_Int, nth_psts, pur_psts, nth_gaps, pur_gaps, nth_pays, pur_pays, Try.f25, ty3, ty22, ty59, ty61, Nat.mul_one, hg1, hg2, sp1, sp2, huni, hvni, updO_updO, h9, m0, m1, hbl, hlt, hx, ← e1, ← e2, hun, hvn, hsg, w1, w2, hs1, List.length_set, hwk]
    refine ⟨by omega, by omega, ?_⟩
    congr 1
    funext i
    simp only [updO, e1, e2]
    by_cases c1 : i = id
    · simp only [if_pos c1]
    · simp only [if_neg c1]
  · have e : k = l.length := by omega
    subst e
    rw [hR, hOB]
    simp +contextual (maxSteps := 4000000) only [↓ur_seq, ↓ur_exit, ↓ur_region, ↓ur_cond, ↓cont_nil, ↓cont_seq, ↓leave_seq, ↓leave_blk, ↓leave_lp, ↓ops_consN, nY_binOp, nilO_tmp, ↓ops_nil, opsIf_some, condC_false, Option.map_some, Nat.reduceLT, ↓upd_same, ↓upd_ne, Nat.reduceBEq, true_and, and_true, endQ, cfg_P, ↓havoc_in, ↓havoc_out, List.contains_cons, List.contains_nil, Bool.or_false, Bool.or_true, Int.ofNat_lt, decide_false, Nat.lt_irrefl, Bool.not_false, ↓ev_tmp, ↓iop_binOp, b_lss, ires_eq, iresAll_nil, ↓reduceIte, beq_self_eq_true, nth_psts, pur_psts, nth_gaps, pur_gaps, nth_pays, pur_pays, Try.f25, h9]
    exact ⟨_, rfl, rfl⟩
theorem decI_some {l : List PV} {rs : List Int} (h : decI l = some rs) : l = rs.map (PV.int .i64) := decI_ok h
theorem o_add : EntOK Try.prog e_add.1 e_add.2 := by
  intro args st r st' h
  unfold addT at h
  split at h
  · rename_i ps b id gen
    simp only [Option.bind_eq_some_iff] at h
    obtain ⟨l, hl, h⟩ := h
    rw [decP_ok hl]
    unfold addA at h
    split at h
    · rename_i cs ha
      simp only [Option.bind_eq_some_iff] at h
      obtain ⟨tb, ht, h⟩ := h
      have ht := decI_ok ht
      subst ht
      split at h
      · rename_i hc
        simp only [Option.some.injEq, Prod.mk.injEq] at h
        obtain ⟨rfl, rfl⟩ := h
        exact c_add hc.1 hc.2 (arr?_parts ha)
      · cases h
    · cases h
  · cases h
end Sim
