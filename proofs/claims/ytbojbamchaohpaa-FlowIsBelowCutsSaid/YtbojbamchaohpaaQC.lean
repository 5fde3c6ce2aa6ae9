/- What functions of this seat compute, by values: contracts (lemmas of the statement's proof, under the conditions that each names). -/
import Derived.Test.YtbojbamchaohpaaQV
namespace Sim
open Go Go.Proofs
set_option maxRecDepth 10000
set_option maxHeartbeats 2000000
set_option linter.unusedVariables false
set_option linter.unusedSimpArgs false
attribute [local congr] opsIf_congr condC_congr guardC_congr grd_congr pick3_congr obind_congr omap_congr
structure QS where
 aid : Nat
 g : Nat
 n : Nat
 l : List It
 u : Nat
 v : Nat
def QS.sl (x : QS) : PV := .ref x.aid x.g 0 x.n
def QS.at (x : QS) (st : Store) : Prop := st.obj x.aid = some (.arr x.g 2 (x.l.map itV)) ∧ x.n ≤ x.l.length ∧ x.l.length ≤ 1073741824
theorem QS.same {x y : QS} {st : Store} (h : x.sl = y.sl) (hx : x.at st) (hy : y.at st) : x.aid = y.aid ∧ x.g = y.g ∧ x.n = y.n ∧ x.l = y.l := by
 unfold QS.sl at h
 simp only [PV.ref.injEq, true_and] at h
 have hy1 := hy.1
 rw [← h.1] at hy1
 have := hx.1.symm.trans hy1
 simp only [Option.some.injEq, IObj.arr.injEq, inj_its] at this
 exact ⟨h.1, h.2.1, h.2.2, this.2.2⟩
def A_qlen (x : QS) : List PV := [x.sl]
def R_qlen (x : QS) (st : Store) : PV × Store := (I (x.n : Nat), st)
noncomputable def e_qlen : Nat × Ent := (55, .x (specX A_qlen QS.at R_qlen))
theorem j_qlen (x y : QS) (st : Store) (h : A_qlen x = A_qlen y) (hx : x.at st) (hy : y.at st) : R_qlen x st = R_qlen y st := by
 simp only [A_qlen, List.cons.injEq, and_true] at h
 simp only [R_qlen, (QS.same h hx hy).2.2.1]
def H_qij (x : QS) (st : Store) : Prop := x.at st ∧ x.u < x.n ∧ x.v < x.n
def A_qij (x : QS) : List PV := [x.sl, I (x.u : Nat), I (x.v : Nat)]
theorem QS.same3 {x y : QS} {st : Store} (h : A_qij x = A_qij y) (hx : H_qij x st) (hy : H_qij y st) : x = y := by
 simp only [A_qij, List.cons.injEq, and_true, PV.int.injEq, true_and] at h
 obtain ⟨a1, a2, a3, a4⟩ := QS.same h.1 hx.1 hy.1
 cases x; cases y
 simp only at a1 a2 a3 a4 h
 simp only [QS.mk.injEq]
 exact ⟨a1, a2, a3, a4, by omega, by omega⟩
def R_qless (x : QS) (st : Store) : PV × Store := (.bool (decide (kI x.l x.u < kI x.l x.v)), st)
noncomputable def e_qless : Nat × Ent := (79, .x (specX A_qij H_qij R_qless))
def R_qswap (x : QS) (st : Store) : PV × Store := (.tuple [], st.set x.aid (.arr x.g 2 ((swp x.l x.u x.v).map itV)))
noncomputable def e_qswap : Nat × Ent := (82, .x (specX A_qij H_qij R_qswap))
theorem updO_updO {ob : Nat → Option IObj} {i : Nat} {a b : Option IObj} : updO (updO ob i a) i b = updO ob i b := by
 funext j; simp only [updO]; split <;> rfl
theorem left_refl {r : PV} {st : Store} : Left r st r st := Left.refl
theorem set_its {l : List It} {k : Nat} {x : It} : (l.map itV).set k (.agg [I x.1, I (x.2 : Nat)]) = (l.set k x).map itV := by rw [List.map_set]
theorem o_qlen : EntOK Try.prog e_qlen.1 e_qlen.2 := specX_ok fun x st hx => by
 obtain ⟨aid, g, n, l, u, v⟩ := x
 obtain ⟨ob, M⟩ := st
 unfold QS.at at hx
 dsimp only at hx
 obtain ⟨h1, h2, h3⟩ := hx
 simp only [A_qlen, R_qlen, QS.sl]
 refine ixc_ofD mixed (l := []) (eok_nil) [] [] 0 Try.func55 rfl (by decide +kernel) (N := 5) rfl (by simp) rfl (by kernel_rfl) ?_
 simp +contextual (maxSteps := 4000000) only [↓ur_seq, ↓ur_ret, ↓ur_region, ↓cont_seq, ↓done_nil, ↓ops_consN, nY_move, nY_assign, nY_callb, ↓ops_nil, opsIf_some, Option.map_some, Option.bind_some, Option.getD_some, Nat.reduceLT, ↓upd_same, ↓upd_ne, Nat.reduceBEq, and_true, List.getD_cons_zero, endQ, cfg_P, Option.some.injEq, exists_eq_left', Nat.lt_succ_self, ↓ev_tmp, ↓ev_int, ↓iop_move, ↓iop_assign, ↓iop_callb, bi_len, lenM_none, lenP_ref, env0_eq, ires_eq, iresL_1, iresAll_nil, iresAll_cons, iresOne_tmp, ↓reduceIte, arr_eq, arrB_some, ↓evs_cons, ↓evs_nil, nth_its, pur_its, nth_arcs, pur_arcs, nth_snds, pur_snds, nth_lnks, pur_lnks, Try.f55, ty106, h1, left_refl]
theorem o_qless : EntOK Try.prog e_qless.1 e_qless.2 := specX_ok fun x st hx => by
 obtain ⟨aid, g, n, l, u, v⟩ := x
 obtain ⟨ob, M⟩ := st
 unfold H_qij QS.at at hx
 dsimp only at hx
 obtain ⟨⟨h1, h2, h3⟩, h4, h5⟩ := hx
 simp only [A_qij, R_qless, QS.sl, kI]
 have h6 : u < l.length := by omega
 have h7 : v < l.length := by omega
 refine ixc_ofD mixed (l := []) (eok_nil) [] [] 0 Try.func79 rfl (by decide +kernel) (N := 18) rfl (by simp) rfl (by kernel_rfl) ?_
 simp +contextual (maxSteps := 4000000) only [↓ur_seq, ↓ur_ret, ↓ur_region, ↓cont_seq, ↓done_nil, ↓ops_consN, nY_move, nY_assign, nY_load, nY_binOp, nilO_tmp, nY_fieldAddr, nY_indexAddr, ↓ops_nil, opsIf_some, Option.map_some, Option.bind_some, Option.getD_some, Nat.reduceLT, Bool.false_eq_true, ↓upd_same, ↓upd_ne, Nat.reduceBEq, true_and, and_true, List.getD_cons_zero, List.getD_cons_succ, List.getElem?_cons_zero, endQ, cfg_P, cfg_frz, List.length_map, List.contains_nil, Int.natCast_nonneg, Int.ofNat_lt, Int.toNat_natCast, Option.some.injEq, exists_eq_left', Nat.zero_add, Nat.add_zero, Nat.reduceAdd, Nat.lt_succ_self, Bool.not_false, cells_agg, ↓ev_tmp, ↓ev_bool, ↓iop_move, ↓iop_assign, ↓iop_load, ↓iop_binOp, ↓iop_fieldAddr, ↓iop_indexAddr, idxA_int, pickP_f, loadP_ptr, fieldP_ptr, indexP_ref, b_lss, env0_eq, ires_eq, iresL_1, iresAll_nil, iresAll_cons, iresOne_tmp, ↓reduceIte, arr_eq, arrB_some, see_eq, nth_its, pur_its, nth_arcs, pur_arcs, nth_snds, pur_snds, nth_lnks, pur_lnks, Try.f79, ty3, ty104, ty106, h1, h2, h4, h5, h6, h7]
 exact Left.refl
theorem o_qswap : EntOK Try.prog e_qswap.1 e_qswap.2 := specX_ok fun x st hx => by
 obtain ⟨aid, g, n, l, u, v⟩ := x
 obtain ⟨ob, M⟩ := st
 unfold H_qij QS.at at hx
 dsimp only at hx
 obtain ⟨⟨h1, h2, h3⟩, h4, h5⟩ := hx
 have h6 : u < l.length := by omega
 have h7 : v < l.length := by omega
 simp only [A_qij, R_qswap, QS.sl]
 refine ixc_ofD mixed (l := []) (eok_nil) [] [] 0 Try.func82 rfl (by decide +kernel) (N := 20) rfl (by simp) rfl (by kernel_rfl) ?_
 have h8 : v < (l.set u (l.getD v dI)).length := by rw [List.length_set]; exact h7
 have e1 : setCells (nth ((l.set u (l.getD v dI)).map itV) v) 0 [I (l.getD u dI).1, I ((l.getD u dI).2 : Nat)] = .agg [I (l.getD u dI).1, I ((l.getD u dI).2 : Nat)] := by rw [nth_its h8]; rfl
 simp +contextual (maxSteps := 4000000) only [↓ur_region, ↓cont_nil, ↓ops_consN, nY_move, nY_load, nY_store, nY_indexAddr, ↓ops_nil, opsIf_some, opsIf_none, Option.map_some, Option.bind_some, Option.getD_some, Nat.reduceLT, Bool.false_eq_true, ↓upd_same, ↓upd_ne, Nat.reduceBEq, true_and, and_true, List.getD_cons_zero, List.getD_cons_succ, endQ, cfg_P, cfg_frz, cfg_num, numOf_eq, List.length_map, List.contains_nil, Int.natCast_nonneg, Int.ofNat_lt, Int.toNat_natCast, decide_true, Bool.true_and, List.nil_append, List.append_nil, updO_same, List.length_cons, List.length_nil, Nat.zero_add, List.drop_zero, List.take_zero, Nat.reduceAdd, Nat.lt_succ_self, or_false, Nat.le_refl, cells_agg, ↓ev_tmp, ↓iop_move, ↓iop_load, ↓iop_store, ↓iop_indexAddr, idxA_int, tmpNo_tmp, softS_ptr, heldS_ptr, pickP_t, loadP_ptr, setCells_agg, storeP_ptr, indexP_ref, splice_eq, env0_eq, ires_eq, iresAll_nil, Store.set, ↓reduceIte, arr_eq, arrB_some, beq_eq_false_iff_ne, ne_eq, List.take_succ_cons, List.drop_succ_cons, List.drop_nil, List.take_nil, see_eq, false_and, nth_its, pur_its, nth_arcs, pur_arcs, nth_snds, pur_snds, nth_lnks, pur_lnks, Try.f82, ty104, ty106, h1, h2, h4, h5, h6, h7, List.length_set, set_its, e1, updO_updO]
 exact ⟨_, rfl, Left.refl⟩
end Sim
namespace Sim
open Go Go.Proofs
set_option maxRecDepth 10000
set_option maxHeartbeats 2000000
set_option linter.unusedVariables false
set_option linter.unusedSimpArgs false
attribute [local congr] opsIf_congr condC_congr guardC_congr grd_congr pick3_congr obind_congr omap_congr
structure HS where
 qid : Nat
 qg : Nat
 aid : Nat
 g : Nat
 q : List It
 tl : List It
 x : It
 j : Nat
 k : Nat
def HS.p (h : HS) : PV := .ptr h.qid h.qg 0 0
def HS.at (h : HS) (st : Store) : Prop := st.obj h.qid = some (.arr h.qg 1 [.ref h.aid h.g 0 h.q.length]) ∧ st.obj h.aid = some (.arr h.g 2 ((h.q ++ h.tl).map itV)) ∧ (h.q ++ h.tl).length ≤ 1000000000 ∧ h.qid < st.next ∧ h.aid < st.next
def hpS (ob : Nat → Option IObj) (nx qid qg aid g : Nat) (q tl : List It) : Store := ⟨updO (updO ob aid (some (.arr g 2 ((q ++ tl).map itV)))) qid (some (.arr qg 1 [.ref aid g 0 q.length])), nx⟩
theorem HS.same {x y : HS} {st : Store} (h : x.p = y.p) (hx : x.at st) (hy : y.at st) : x.qid = y.qid ∧ x.qg = y.qg ∧ x.aid = y.aid ∧ x.g = y.g ∧ x.q = y.q ∧ x.tl = y.tl := by
 unfold HS.p at h
 simp only [PV.ptr.injEq, and_true] at h
 obtain ⟨h1, h2, _, _⟩ := hx
 obtain ⟨h3, h4, _, _⟩ := hy
 rw [← h.1, h1] at h3
 simp only [Option.some.injEq, IObj.arr.injEq, List.cons.injEq, PV.ref.injEq, and_true, true_and] at h3
 rw [← h3.2.1, h2] at h4
 simp only [Option.some.injEq, IObj.arr.injEq, inj_its, true_and] at h4
 obtain ⟨e1, e2⟩ := List.append_inj h4.2 h3.2.2.2
 exact ⟨h.1, h.2, h3.2.1, h3.2.2.1, e1, e2⟩
theorem HS.ne {h : HS} {st : Store} (hx : h.at st) : ¬ h.aid = h.qid := fun e => by
 have h1 := hx.1
 rw [← e, hx.2.1] at h1
 simp only [Option.some.injEq, IObj.arr.injEq] at h1
 omega
theorem HS.lt {h : HS} {st : Store} (hx : h.at st) : h.qid < st.next ∧ h.aid < st.next := hx.2.2.2
theorem isInt_its {l : List It} : (l.map itV).all PV.isInt = true := by simp [PV.isInt, PV.isInt1]
def A_hx (h : HS) : List PV := [h.p, .iface 104 (itV h.x)]
def psQ (h : HS) : Nat × List It := if h.tl = [] then (h.g + 1, []) else (h.g, h.tl.tail)
def R_qpush (h : HS) (st : Store) : PV × Store := (.tuple [], hpS st.obj st.next h.qid h.qg h.aid (psQ h).1 (h.q ++ [h.x]) (psQ h).2)
noncomputable def e_qpush : Nat × Ent := (81, .x (specX A_hx HS.at R_qpush))
theorem j_qpush (x y : HS) (st : Store) (h : A_hx x = A_hx y) (hx : x.at st) (hy : y.at st) : R_qpush x st = R_qpush y st := by
 simp only [A_hx, List.cons.injEq, and_true, PV.iface.injEq, true_and, PV.agg.injEq, PV.int.injEq] at h
 obtain ⟨a1, a2, a3, a4, a5, a6⟩ := HS.same h.1 hx hy
 have a7 : x.x = y.x := Prod.ext h.2.1 (by omega)
 simp only [R_qpush, psQ, a1, a2, a3, a4, a5, a6, a7]
theorem o_qpush : EntOK Try.prog e_qpush.1 e_qpush.2 := specX_ok fun h st hx => by
 have hne := HS.ne hx
 obtain ⟨qid, qg, aid, g, q, tl, x, j, k⟩ := h
 obtain ⟨ob, M⟩ := st
 unfold HS.at at hx
 dsimp only at hx hne
 obtain ⟨h1, h2, h3, h4⟩ := hx
 have hne2 : ¬ qid = aid := fun e => hne e.symm
 rw [List.length_append] at h3
 simp only [A_hx, R_qpush, HS.p]
 refine ixc_ofD mixed (l := []) (eok_nil) [] [700011, 700012] 0 Try.func81 rfl (by decide +kernel) (N := 13) rfl (by simp) rfl (by kernel_rfl) ?_
 have b1 : q.length + 1 ≤ 2147483648 := by omega
 cases tl with
 | nil =>
  simp only [List.append_nil] at h2
  have b2 : ¬ q.length + 1 ≤ q.length := by omega
  simp +contextual (maxSteps := 4000000) only [↓ur_region, ↓cont_nil, ↓ops_consN, nY_move, nY_buildSlice, nY_load, nY_store, nY_nilCheck, nY_typeAssert, nY_callb, ↓ops_nil, opsIf_some, opsIf_none, Option.map_some, Option.bind_some, Option.getD_some, Nat.reduceLT, Bool.false_eq_true, ↓upd_same, ↓upd_ne, Nat.reduceBEq, true_and, and_true, List.getD_cons_zero, List.getD_cons_succ, List.getElem?_cons_zero, endQ, cfg_P, cfg_muts, cfg_frz, cfg_num, numOf_eq, List.length_map, List.contains_cons, List.contains_nil, Bool.or_false, Bool.or_true, decide_true, Bool.and_true, Bool.and_self, Bool.true_and, updO_ne, List.length_cons, List.length_nil, Nat.zero_add, List.drop_zero, Nat.reduceAdd, List.replicate_succ, List.replicate_zero, List.set_cons_zero, Nat.reduceMul, Nat.reduceLeDiff, nth_zero, Nat.lt_succ_self, reduceCtorEq, not_false_eq_true, take_map_len, or_false, Nat.le_refl, cells_ref, cells_agg, ↓ev_tmp, ↓iop_move, ↓iop_buildSlice, ↓iop_load, ↓iop_store, ↓iop_nilCheck, nilCk_ptr, ↓iop_callb, iop_typeAssert, asT_same, soft_arr, tmpNo_tmp, softS_ptr, heldS_ptr, isInt1_int, isInt1_ref, isInt_ref, isInt_agg, softA_ref, List.all_cons, List.all_nil, bi_append, pickP_f, loadP_ptr, setCells_ref, storeP_ptr, elemsP_lits, appendP_ref, bel_nil, bel_cons, env0_eq, ires_eq, iresAll_nil, Store.set, ↓reduceIte, arr_eq, arrB_some, bslP_eq, beq_eq_false_iff_ne, ne_eq, ↓evs_cons, ↓evs_nil, ↓evp_cons, ↓evp_nil, beq_self_eq_true, List.all_cons, List.all_nil, see_eq, hard_eq, false_and, and_false, Bool.true_eq_false, nth_its, pur_its, nth_arcs, pur_arcs, nth_snds, pur_snds, nth_lnks, pur_lnks, Try.f81, ty104, ty106, h1, h2, hne, hne2, isInt_its, b1, b2]
  refine ⟨_, rfl, ?_⟩
  simp only [psQ, if_true, hpS, List.append_nil, List.length_append, List.length_cons, List.length_nil, Nat.zero_add, List.map_append, List.map_cons, List.map_nil]
  exact Left.refl
 | cons y tl =>
  have b2 : q.length + 1 ≤ q.length + (tl.length + 1) := by omega
  have b3 : q.length ≤ q.length + (tl.length + 1) := by omega
  have e0 : (q.map itV).length = q.length := List.length_map _
  simp +contextual (maxSteps := 4000000) only [↓ur_region, ↓cont_nil, ↓ops_consN, nY_move, nY_buildSlice, nY_load, nY_store, nY_nilCheck, nY_typeAssert, nY_callb, ↓ops_nil, opsIf_some, opsIf_none, Option.map_some, Option.bind_some, Option.getD_some, Nat.reduceLT, Bool.false_eq_true, ↓upd_same, ↓upd_ne, Nat.reduceBEq, true_and, and_true, List.getD_cons_zero, List.getD_cons_succ, List.getElem?_cons_zero, endQ, cfg_P, cfg_muts, cfg_frz, cfg_num, numOf_eq, List.length_map, List.contains_cons, List.contains_nil, Bool.or_false, Bool.or_true, decide_true, Bool.and_true, Bool.and_self, Bool.true_and, updO_ne, List.length_append, List.length_cons, List.length_nil, Nat.zero_add, Nat.reduceAdd, List.replicate_succ, List.replicate_zero, List.set_cons_zero, Nat.reduceMul, Nat.reduceLeDiff, nth_zero, Nat.lt_succ_self, reduceCtorEq, not_false_eq_true, or_false, Nat.le_refl, cells_ref, cells_agg, ↓ev_tmp, ↓iop_move, ↓iop_buildSlice, ↓iop_load, ↓iop_store, ↓iop_nilCheck, nilCk_ptr, ↓iop_callb, iop_typeAssert, asT_same, soft_arr, tmpNo_tmp, softS_ptr, heldS_ptr, isInt1_int, isInt1_ref, isInt_ref, isInt_agg, softA_ref, List.all_cons, List.all_nil, bi_append, pickP_f, loadP_ptr, setCells_ref, storeP_ptr, elemsP_lits, appendP_ref, bel_nil, bel_cons, env0_eq, ires_eq, iresAll_nil, Store.set, ↓reduceIte, arr_eq, arrB_some, bslP_eq, beq_eq_false_iff_ne, ne_eq, ↓evs_cons, ↓evs_nil, ↓evp_cons, ↓evp_nil, beq_self_eq_true, List.all_cons, List.all_nil, see_eq, hard_eq, false_and, and_false, Bool.true_eq_false, nth_its, pur_its, nth_arcs, pur_arcs, nth_snds, pur_snds, nth_lnks, pur_lnks, Try.f81, ty104, ty106, h1, h2, hne, hne2, isInt_its, b1, b2, b3]
  have e1 : List.take q.length ((q ++ y :: tl).map itV) ++ [itV x] ++ List.drop (q.length + 1) ((q ++ y :: tl).map itV) = (q ++ [x] ++ tl).map itV := by
   rw [List.map_append, List.take_left' e0, List.drop_append, e0, List.drop_of_length_le (by omega), show q.length + 1 - q.length = 1 by omega]
   simp
  refine ⟨_, rfl, ?_⟩
  rw [e1]
  simp only [psQ, hpS, reduceCtorEq, if_false, List.tail_cons, List.length_append, List.length_cons, List.length_nil, Nat.zero_add]
  exact Left.refl
def A_hp (h : HS) : List PV := [h.p]
def H_hpop (h : HS) (st : Store) : Prop := h.at st ∧ 0 < h.q.length
def R_qpop (h : HS) (st : Store) : PV × Store := (.iface 104 (itV (h.q.getD (h.q.length - 1) dI)), hpS (updO st.obj st.next none) (st.next + 1) h.qid h.qg h.aid h.g (h.q.take (h.q.length - 1)) (h.q.drop (h.q.length - 1) ++ h.tl))
noncomputable def e_qpop : Nat × Ent := (80, .x (specX A_hp H_hpop R_qpop))
theorem j_qpop (x y : HS) (st : Store) (h : A_hp x = A_hp y) (hx : H_hpop x st) (hy : H_hpop y st) : R_qpop x st = R_qpop y st := by
 simp only [A_hp, List.cons.injEq, and_true] at h
 obtain ⟨a1, a2, a3, a4, a5, a6⟩ := HS.same h hx.1 hy.1
 simp only [R_qpop, a1, a2, a3, a4, a5, a6]
theorem o_qpop : EntOK Try.prog e_qpop.1 e_qpop.2 := specX_ok fun h st hx => by
 obtain ⟨hx, hq⟩ := hx
 have hne := HS.ne hx
 have hlt := HS.lt hx
 obtain ⟨qid, qg, aid, g, q, tl, x, j, k⟩ := h
 obtain ⟨ob, M⟩ := st
 unfold HS.at at hx
 dsimp only at hx hne hq hlt
 obtain ⟨h1, h2, h3, h4⟩ := hx
 obtain ⟨l1, l2⟩ := hlt
 have hne2 : ¬ qid = aid := fun e => hne e.symm
 have m1 : ¬ qid = M := by omega
 have m2 : ¬ aid = M := by omega
 have m3 : ¬ M = qid := by omega
 have m4 : ¬ M = aid := by omega
 rw [List.length_append] at h3
 simp only [A_hp, R_qpop, HS.p]
 refine ixc_ofD mixed (l := []) (eok_nil) [] [] 0 Try.func80 rfl (by decide +kernel) (N := 23) rfl (by simp) rfl (by kernel_rfl) ?_
 obtain ⟨n, hn⟩ : ∃ n, q.length = n + 1 := ⟨q.length - 1, by omega⟩
 have w1 : IntKind.i64.wrap ((n : Int) + 1 - 1) = (n : Int) := by rw [wrap64 (by omega) (by omega)]; omega
 have w2 : IntKind.i64.wrap (((n + 1 : Nat) : Int) - 1) = (n : Int) := by rw [wrap64 (by omega) (by omega)]; omega
 have b1 : n < (q ++ tl).length := by rw [List.length_append]; omega
 have b2 : n < n + 1 := by omega
 have e1 : (q ++ tl).getD n dI = q.getD n dI := by
  rw [List.getD_eq_getElem?_getD, List.getElem?_append_left (by omega), List.getD_eq_getElem?_getD]
 rw [hn] at h1
 have hn1 := nth_its b1
 simp +contextual (maxSteps := 4000000) only [↓ur_seq, ↓ur_ret, ↓ur_region, ↓cont_seq, ↓done_nil, ↓ops_consN, nY_move, nY_assign, nY_alloc, nY_load, nY_store, nY_nilCheck, nY_binOp, nilO_int, nY_makeInterface, nY_slice, nY_indexAddr, nY_callb, ↓ops_nil, opsIf_some, opsIf_none, opsIf_if, map_if, Option.map_some, Option.map_none, Option.bind_some, Option.getD_some, Option.getD_none, Nat.reduceLT, Bool.false_eq_true, ↓upd_same, ↓upd_ne, Nat.reduceBEq, true_and, and_true, List.getD_cons_zero, List.getElem?_cons_zero, endQ, cfg_P, cfg_muts, cfg_frz, cfg_num, numOf_eq, List.length_map, List.contains_nil, Int.natCast_nonneg, Int.ofNat_lt, Int.toNat_natCast, decide_true, Option.some.injEq, exists_eq_left', Bool.and_true, Bool.and_self, Bool.true_and, List.nil_append, List.append_nil, updO_same, updO_ne, List.length_append, List.length_cons, List.length_nil, Nat.zero_add, Nat.add_zero, List.drop_zero, List.take_zero, Nat.reduceAdd, List.set_cons_zero, Nat.reduceLeDiff, nth_zero, Nat.lt_succ_self, Bool.not_false, not_false_eq_true, Int.reduceToNat, or_false, Nat.le_refl, cells_ref, cells_agg, ↓ev_tmp, ↓ev_int, ↓ev_nili, ↓iop_move, ↓iop_assign, ↓iop_alloc, ↓iop_load, ↓iop_store, ↓iop_nilCheck, nilCk_ptr, ↓iop_binOp, ↓iop_slice, intOfP_int, slcP_ft, ↓iop_indexAddr, idxA_int, ↓iop_callb, iop_makeInterface, tmpNo_tmp, softS_ptr, heldS_ptr, isInt1_int, isInt1_ref, isInt_ref, isInt_agg, List.all_cons, List.all_nil, bi_len, lenM_none, pickP_f, pickP_t, loadP_ptr, setCells_agg, setCells_ref, storeP_ptr, indexP_ref, lenP_ref, sliceP_ref, b_sub, splice_eq, env0_eq, ires_eq, iresL_1, iresAll_nil, iresAll_cons, iresOne_tmp, Store.new, Store.set, ↓reduceIte, arr_eq, arrB_some, beq_eq_false_iff_ne, ne_eq, List.take_succ_cons, List.drop_succ_cons, List.drop_nil, List.take_nil, ↓evs_cons, ↓evs_nil, Int.le_refl, List.all_cons, List.all_nil, see_eq, false_and, Int.cast_ofNat_Int, nth_its, pur_its, nth_arcs, pur_arcs, nth_snds, pur_snds, nth_lnks, pur_lnks, Try.f80, ty104, ty106, h1, h2, hn, hn1, hne, hne2, m1, m2, m3, m4, w1, w2, b1, b2, e1]
 refine ⟨by omega, by omega, Left.same rfl (fun i o hi => ?_) (Nat.le_refl _)⟩
 simp only [hpS, updO] at hi ⊢
 by_cases c1 : i = qid
 ·rw [if_pos c1] at hi ⊢
  rw [← hi]
  simp [hn]
 ·rw [if_neg c1] at hi ⊢
  by_cases c2 : i = aid
  ·subst c2
   rw [if_pos rfl] at hi
   rw [if_neg m2, if_neg m2, h2, ← hi, ← List.append_assoc, List.take_append_drop]
  ·rw [if_neg c2] at hi
   by_cases c3 : i = M
   ·rw [if_pos c3] at hi; cases hi
   ·rw [if_neg c3] at hi
    rw [if_neg c3, if_neg c3, hi]
def HS.pi (h : HS) : PV := .iface 102 h.p
end Sim
