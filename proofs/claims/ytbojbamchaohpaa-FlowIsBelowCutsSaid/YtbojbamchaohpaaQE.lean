/- What functions of this seat compute, by values: contracts (lemmas of the statement's proof, under the conditions that each names). -/
import Derived.Test.YtbojbamchaohpaaQC
namespace Sim
open Go Go.Proofs
set_option maxRecDepth 10000
set_option maxHeartbeats 2000000
set_option linter.unusedVariables false
set_option linter.unusedSimpArgs false
attribute [local congr] opsIf_congr condC_congr guardC_congr grd_congr pick3_congr obind_congr omap_congr
theorem j_qless (x y : QS) (st : Store) (h : A_qij x = A_qij y) (hx : H_qij x st) (hy : H_qij y st) : R_qless x st = R_qless y st := by rw [QS.same3 h hx hy]
theorem j_qswap (x y : QS) (st : Store) (h : A_qij x = A_qij y) (hx : H_qij x st) (hy : H_qij y st) : R_qswap x st = R_qswap y st := by rw [QS.same3 h hx hy]
theorem s_qlen {aid g n : Nat} (l : List It) {st : Store} (h : QS.at ⟨aid, g, n, l, 0, 0⟩ st) : specX A_qlen QS.at R_qlen [.ref aid g 0 n] st = some (I (n : Nat), st) := specX_app j_qlen (i := ⟨aid, g, n, l, 0, 0⟩) h
theorem s_qless {aid g n u v : Nat} (l : List It) {st : Store} (h : H_qij ⟨aid, g, n, l, u, v⟩ st) : specX A_qij H_qij R_qless [.ref aid g 0 n, I (u : Nat), I (v : Nat)] st = some (.bool (decide (kI l u < kI l v)), st) :=
 specX_app j_qless (i := ⟨aid, g, n, l, u, v⟩) h
theorem s_qswap {aid g n u v : Nat} (l : List It) {ob : Nat → Option IObj} {M : Nat} (h : H_qij ⟨aid, g, n, l, u, v⟩ ⟨ob, M⟩) : specX A_qij H_qij R_qswap [.ref aid g 0 n, I (u : Nat), I (v : Nat)] ⟨ob, M⟩ = some (.tuple [], ⟨updO ob aid (some (.arr g 2 ((swp l u v).map itV))), M⟩) :=
 specX_app j_qswap (i := ⟨aid, g, n, l, u, v⟩) h
theorem getD_app {l tl : List It} {k : Nat} (h : k < l.length) : (l ++ tl).getD k dI = l.getD k dI := by
 rw [List.getD_eq_getElem?_getD, List.getElem?_append_left h, List.getD_eq_getElem?_getD]
theorem kI_app2 {l tl : List It} {k : Nat} (h : k < l.length) : kI (l ++ tl) k = kI l k := by unfold kI; rw [getD_app h]
theorem swp_app {l tl : List It} {u v : Nat} (hu : u < l.length) (hv : v < l.length) : swp (l ++ tl) u v = swp l u v ++ tl := by
 unfold swp
 rw [getD_app hu, getD_app hv, List.set_append, if_pos hu, List.set_append, if_pos (by rw [List.length_set]; exact hv)]
abbrev hpO (ob : Nat → Option IObj) (qid qg aid g : Nat) (q tl : List It) : Nat → Option IObj := updO (updO ob aid (some (.arr g 2 ((q ++ tl).map itV)))) qid (some (.arr qg 1 [.ref aid g 0 q.length]))
theorem hpO_self {ob : Nat → Option IObj} {qid qg aid g : Nat} {q tl : List It} (h1 : ob qid = some (.arr qg 1 [.ref aid g 0 q.length])) (h2 : ob aid = some (.arr g 2 ((q ++ tl).map itV))) : hpO ob qid qg aid g q tl = ob := by
 funext i
 simp only [hpO, updO]
 by_cases c1 : i = qid
 ·rw [if_pos c1, c1, h1]
 ·rw [if_neg c1]
  by_cases c2 : i = aid
  ·rw [if_pos c2, c2, h2]
  ·rw [if_neg c2]
theorem hpO_set {ob : Nat → Option IObj} {qid qg aid g : Nat} {q q' tl : List It} (hne : ¬ aid = qid) (hl : q'.length = q.length) : updO (hpO ob qid qg aid g q tl) aid (some (.arr g 2 ((q' ++ tl).map itV))) = hpO ob qid qg aid g q' tl := by
 funext i
 simp only [hpO, updO]
 by_cases c1 : i = aid
 ·have c2 : ¬ i = qid := by rw [c1]; exact hne
  rw [if_pos c1, if_neg c2, if_pos c1]
 ·rw [if_neg c1, if_neg c1, if_neg c1, hl]
theorem at_hpO {ob : Nat → Option IObj} {M qid qg aid g n : Nat} {q tl : List It} {u v : Nat} (hne : ¬ aid = qid) (hn : n = q.length) (hb : q.length + tl.length ≤ 1000000000) : QS.at ⟨aid, g, n, q ++ tl, u, v⟩ ⟨hpO ob qid qg aid g q tl, M⟩ := by
 refine ⟨?_, ?_, ?_⟩
 ·simp only [hpO, updO, if_neg hne, if_true]
 ·dsimp only
  rw [List.length_append]; omega
 ·dsimp only
  rw [List.length_append]; omega
def H_hup (h : HS) (st : Store) : Prop := h.at st ∧ h.j < h.q.length
def A_hup (h : HS) : List PV := [h.pi, I (h.j : Nat)]
def R_hup (h : HS) (st : Store) : PV × Store := (.tuple [], hpS st.obj st.next h.qid h.qg h.aid h.g (upF (h.j + 1) h.q h.j) h.tl)
noncomputable def e_hup : Nat × Ent := (62, .x (specX A_hup H_hup R_hup))
theorem j_hup (x y : HS) (st : Store) (h : A_hup x = A_hup y) (hx : H_hup x st) (hy : H_hup y st) : R_hup x st = R_hup y st := by
 simp only [A_hup, HS.pi, List.cons.injEq, and_true, PV.iface.injEq, true_and, PV.int.injEq] at h
 obtain ⟨a1, a2, a3, a4, a5, a6⟩ := HS.same h.1 hx.1 hy.1
 have a7 : x.j = y.j := by omega
 simp only [R_hup, a1, a2, a3, a4, a5, a6, a7]
theorem half {j : Nat} (h : j ≤ 1000000000) : IntKind.i64.wrap (Int.tdiv ((j : Int) - 1) 2) = (((j - 1) / 2 : Nat) : Int) := by
 rcases Nat.eq_zero_or_pos j with rfl | hj
 ·decide
 ·rw [Int.tdiv_eq_ediv_of_nonneg (by omega), wrap64 (by omega) (by omega)]
  omega
theorem o_hup : EntOK Try.prog e_hup.1 e_hup.2 := specX_ok fun h st hx => by
 obtain ⟨hx, hj⟩ := hx
 have hne := HS.ne hx
 obtain ⟨qid, qg, aid, g, q, tl, x, j, k⟩ := h
 obtain ⟨ob, M⟩ := st
 unfold HS.at at hx
 dsimp only at hx hne hj
 obtain ⟨h1, h2, h3, h4⟩ := hx
 have hne2 : ¬ qid = aid := fun e => hne e.symm
 rw [List.length_append] at h3
 simp only [A_hup, R_hup, HS.p, HS.pi, hpS]
 obtain ⟨R, hR⟩ : ∃ R, upF (j + 1) q j = R := ⟨_, rfl⟩
 rw [hR]
 refine ixc_ofD mixed (l := [e_qless, e_qswap]) ((eok_cons o_qless (eok_cons o_qswap eok_nil))) [] [] 0 Try.func62 rfl (by decide +kernel) (N := 23) rfl (by simp) rfl (by kernel_rfl) ?_
 simp +contextual (maxSteps := 4000000) only [↓ur_block, e_qless, e_qswap, nth_its, pur_its, nth_arcs, pur_arcs, nth_snds, pur_snds, nth_lnks, pur_lnks, Try.f62]
 refine loop_meas [1, 4, 5, 6, 7, 8, 9, 10, 11, 12, 13, 14, 15, 16, 17, 18, 19, 20, 21, 22] (j + 1) (fun m ρ st' => ∃ l' j', ρ 1 = I (j' : Nat) ∧ j' < m ∧ j' < q.length ∧ l'.length = q.length ∧ upF m l' j' = R ∧ st' = ⟨hpO ob qid qg aid g l' tl, M⟩) (.refl _) ?_ ?_
 ·refine ⟨q, j, rfl, by omega, hj, rfl, hR, ?_⟩
  rw [hpO_self h1 h2]
 rintro m ρ st' ⟨l', j', r1, r2, r3, r4, r5, rfl⟩
 have w1 : IntKind.i64.wrap ((j' : Int) - 1) = (j' : Int) - 1 := wrap64 (by omega) (by omega)
 have w2 := half (j := j') (by omega)
 have hL := s_qless (u := j') (v := (j' - 1) / 2) (l' ++ tl) (st := ⟨hpO ob qid qg aid g l' tl, M⟩) (n := l'.length) (g := g) (aid := aid) ⟨at_hpO hne rfl (by omega), by dsimp only; omega, by dsimp only; omega⟩
 have hS := s_qswap (u := (j' - 1) / 2) (v := j') (l' ++ tl) (ob := hpO ob qid qg aid g l' tl) (M := M) (n := l'.length) (g := g) (aid := aid) ⟨at_hpO hne rfl (by omega), by dsimp only; omega, by dsimp only; omega⟩
 simp +contextual (maxSteps := 4000000) only [↓ur_skip, ↓ur_seq, ↓ur_block, ↓ur_exit, ↓ur_region, ↓ur_cond, ↓cont_nil, ↓cont_seq, ↓cont_blk, ↓cont_lp, ↓leave_seq, ↓leave_blk, ↓leave_lp, ↓ops_consN, ↓ops_guardN, nY_move, nY_assign, nY_pick, nY_binOp, nilO_tmp, nilO_int, nY_unOp, nY_calli, ↓ops_nil, opsIf_some, condC_true, guardC_tf, guardC_ff, Option.map_some, Option.bind_some, Option.getD_some, Nat.reduceLT, Bool.false_eq_true, ↓upd_same, ↓upd_ne, Nat.reduceBEq, true_and, and_true, List.getD_cons_zero, List.getElem?_toArray, List.getElem?_cons_zero, List.getElem?_cons_succ, endQ, not_dec, cfg_P, cfg_tab, cfg_muts, cfg_frz, ↓havoc_in, ↓havoc_out, agree_upd, agree_havoc, List.contains_cons, List.contains_nil, Bool.or_false, Bool.or_true, decide_true, decide_false, exists_eq_left', PV.int.injEq, tabOf_cons, tab_x, Bool.and_true, Bool.and_self, Nat.reduceEqDiff, List.cons_append, List.nil_append, List.append_nil, updO_same, Nat.reduceAdd, nth_zero, Nat.lt_succ_self, Bool.not_false, reduceCtorEq, not_true_eq_false, not_false_eq_true, Int.reduceEq, Classical.not_not, pur_int, cells_ref, pur_ref, ↓ev_tmp, ↓ev_int, ↓ev_bool, ↓guardP_eq, grd_some, ↓iop_move, ↓iop_assign, ↓pick3_bool, ↓iop_pick, ↓iop_binOp, ↓iop_unOp, ↓iop_calli, mthP_iface, nrmAll_cons, nrmAll_nil, nrm_int, pickP_f, loadP_ptr, b_sub, b_quo, b_eql, u_not, env0_eq, ires_eq, iresAll_nil, pursL_cons, pursL_nil, ↓reduceIte, arr_eq, arrB_some, callP_eq, tsOf_eq, Int.natCast_inj, guardC_fd, condC_d, ↓evs_cons, ↓evs_nil, beq_self_eq_true, nth_its, pur_its, nth_arcs, pur_arcs, nth_snds, pur_snds, nth_lnks, pur_lnks, Try.f62, ty3, r1, w1, w2, hL, hS, ty102, ty106, hne, hne2]
 obtain ⟨m1, rfl⟩ : ∃ m1, m = m1 + 1 := ⟨m - 1, by omega⟩
 have k1 : kI (l' ++ tl) j' = kI l' j' := kI_app2 (by omega)
 have k2 : kI (l' ++ tl) ((j' - 1) / 2) = kI l' ((j' - 1) / 2) := kI_app2 (by omega)
 rw [k1, k2]
 simp only [upF] at r5
 refine ⟨fun a => ⟨fun b => ?_, fun b => ?_⟩, fun a => ?_⟩
 ·rw [if_pos (.inr b)] at r5
  subst r5
  exact ⟨_, rfl, Left.refl⟩
 ·rw [if_neg (by simp [a, b])] at r5
  rw [swp_app (by omega) (by omega)]
  refine ⟨m1, by omega, _, by omega, by omega, ?_, r5, ?_⟩
  ·rw [swp_len, r4]
  ·rw [hpO_set hne (by rw [swp_len])]
 ·rw [if_pos (.inl a)] at r5
  subst r5
  exact ⟨_, rfl, Left.refl⟩
end Sim
namespace Sim
open Go Go.Proofs
set_option maxRecDepth 10000
set_option maxHeartbeats 2000000
set_option linter.unusedVariables false
set_option linter.unusedSimpArgs false
attribute [local congr] opsIf_congr condC_congr guardC_congr grd_congr pick3_congr obind_congr omap_congr
def downI : Nat → List It → Nat → Nat → Nat
 | 0, _, i, _ => i
 | f + 1, l, i, n => if n ≤ 2 * i + 1 ∨ ¬ kI l (chC l i n) < kI l i then i else downI f (swp l i (chC l i n)) (chC l i n) n
def H_hdown (h : HS) (st : Store) : Prop := h.at st ∧ h.j < h.q.length ∧ h.k ≤ h.q.length
def A_hdown (h : HS) : List PV := [h.pi, I (h.j : Nat), I (h.k : Nat)]
def R_hdown (h : HS) (st : Store) : PV × Store := (.bool (decide (h.j < downI h.q.length h.q h.j h.k)), hpS st.obj st.next h.qid h.qg h.aid h.g (downF h.q.length h.q h.j h.k) h.tl)
noncomputable def e_hdown : Nat × Ent := (60, .x (specX A_hdown H_hdown R_hdown))
theorem j_hdown (x y : HS) (st : Store) (h : A_hdown x = A_hdown y) (hx : H_hdown x st) (hy : H_hdown y st) : R_hdown x st = R_hdown y st := by
 simp only [A_hdown, HS.pi, List.cons.injEq, and_true, PV.iface.injEq, true_and, PV.int.injEq] at h
 obtain ⟨a1, a2, a3, a4, a5, a6⟩ := HS.same h.1 hx.1 hy.1
 have a7 : x.j = y.j := by omega
 have a8 : x.k = y.k := by omega
 simp only [R_hdown, a1, a2, a3, a4, a5, a6, a7, a8]
theorem o_hdown : EntOK Try.prog e_hdown.1 e_hdown.2 := specX_ok fun h st hx => by
 obtain ⟨hx, hj, hk⟩ := hx
 have hne := HS.ne hx
 obtain ⟨qid, qg, aid, g, q, tl, x, j, n⟩ := h
 obtain ⟨ob, M⟩ := st
 unfold HS.at at hx
 dsimp only at hx hne hj hk
 obtain ⟨h1, h2, h3, h4⟩ := hx
 have hne2 : ¬ qid = aid := fun e => hne e.symm
 rw [List.length_append] at h3
 simp only [A_hdown, R_hdown, HS.p, HS.pi, hpS]
 obtain ⟨R, hR⟩ : ∃ R, downF q.length q j n = R := ⟨_, rfl⟩
 obtain ⟨S, hS⟩ : ∃ S, downI q.length q j n = S := ⟨_, rfl⟩
 rw [hR, hS]
 refine ixc_ofD mixed (l := [e_qless, e_qswap]) ((eok_cons o_qless (eok_cons o_qswap eok_nil))) [] [] 0 Try.func60 rfl (by decide +kernel) (N := 48) rfl (by simp) rfl (by kernel_rfl) ?_
 simp +contextual (maxSteps := 4000000) only [↓ur_seq, ↓ur_block, ↓ur_region, ↓cont_seq, ↓ops_consN, nY_move, nY_assign, ↓ops_nil, opsIf_some, Nat.reduceLT, ↓upd_same, ↓upd_ne, Nat.reduceBEq, true_and, List.getD_cons_zero, List.getD_cons_succ, ↓ev_tmp, ↓ev_bool, ↓iop_move, ↓iop_assign, env0_eq, e_qless, e_qswap, nth_its, pur_its, nth_arcs, pur_arcs, nth_snds, pur_snds, nth_lnks, pur_lnks, Try.f60]
 refine loop_meas [7, 8, 9, 10, 12, 13, 14, 15, 16, 17, 18, 19, 20, 21, 22, 23, 24, 25, 26, 27, 28, 29, 30, 31, 32, 33, 34, 35, 36, 37, 38, 39, 40, 41, 42, 43, 44] q.length (fun m ρ st' => ∃ l' i', ρ 7 = I (i' : Nat) ∧ q.length ≤ i' + m ∧ i' < q.length ∧ l'.length = q.length ∧ downF m l' i' n = R ∧ downI m l' i' n = S ∧ st' = ⟨hpO ob qid qg aid g l' tl, M⟩) (.refl _) ?_ ?_
 ·simp +contextual (maxSteps := 4000000) only [↓upd_same, true_and, exists_eq_left', PV.int.injEq, Int.natCast_inj, nth_its, pur_its, nth_arcs, pur_arcs, nth_snds, pur_snds, nth_lnks, pur_lnks, Try.f60]
  refine ⟨q, by omega, hj, rfl, hR, hS, ?_⟩
  rw [hpO_self h1 h2]
 rintro m ρ st' ⟨l', i', r1, r2, r3, r4, r5, r6, rfl⟩
 obtain ⟨a, ha⟩ : ∃ a, a = 2 * i' + 1 := ⟨_, rfl⟩
 obtain ⟨b, hb⟩ : ∃ b, b = 2 * i' + 2 := ⟨_, rfl⟩
 have w1 : IntKind.i64.wrap (2 * (i' : Int)) = 2 * (i' : Int) := wrap64 (by omega) (by omega)
 have w2 : IntKind.i64.wrap (2 * (i' : Int) + 1) = (a : Int) := by rw [wrap64 (by omega) (by omega)]; omega
 have w3 : IntKind.i64.wrap ((a : Int) + 1) = (b : Int) := by rw [wrap64 (by omega) (by omega)]; omega
 have hneg : ¬ (a : Int) < 0 := by omega
 by_cases c0 : n ≤ a
 ·have g1 : R = l' ∧ S = i' := by
   cases m with
   | zero => exact ⟨r5.symm, r6.symm⟩
   | succ m =>
    simp only [downF, downI] at r5 r6
    rw [if_pos (.inl (by omega))] at r5 r6
    exact ⟨r5.symm, r6.symm⟩
  obtain ⟨rfl, rfl⟩ := g1
  have c0i : (n : Int) ≤ (a : Int) := by omega
  simp +contextual (maxSteps := 4000000) only [↓ur_seq, ↓ur_block, ↓ur_exit, ↓ur_ret, ↓ur_region, ↓ur_cond, ↓cont_seq, ↓leave_seq, ↓leave_blk, ↓leave_lp, ↓done_nil, ↓ops_consN, ↓ops_guardN, nY_move, nY_assign, nY_pick, nY_binOp, nilO_tmp, nilO_int, ↓ops_nil, opsIf_some, condC_true, guardC_tf, Option.map_some, Option.bind_some, Nat.reduceLT, ↓upd_same, ↓upd_ne, Nat.reduceBEq, true_and, List.getD_cons_zero, List.getD_cons_succ, List.getElem?_toArray, List.getElem?_cons_zero, List.getElem?_cons_succ, endQ, cfg_P, ↓havoc_in, ↓havoc_out, List.contains_cons, List.contains_nil, Bool.or_false, Int.ofNat_lt, decide_true, Option.some.injEq, exists_eq_left', Nat.lt_succ_self, Bool.not_false, reduceCtorEq, ↓ev_tmp, ↓ev_int, ↓ev_bool, ↓guardP_eq, grd_some, ↓iop_move, ↓iop_assign, ↓pick3_bool, ↓iop_pick, ↓iop_binOp, b_add, b_mul, b_gtr, b_geq, env0_eq, ires_eq, iresL_1, iresAll_nil, iresAll_cons, iresOne_tmp, ↓reduceIte, beq_self_eq_true, nth_its, pur_its, nth_arcs, pur_arcs, nth_snds, pur_snds, nth_lnks, pur_lnks, Try.f60, r1, w1, w2, c0i]
  exact Left.refl
 have c0i : ¬ (n : Int) ≤ (a : Int) := by omega
 obtain ⟨m1, rfl⟩ : ∃ m1, m = m1 + 1 := ⟨m - 1, by omega⟩
 simp only [downF, downI] at r5 r6
 have key : ∀ c, chC l' i' n = c → c < q.length → i' < c → (¬ kI l' c < kI l' i' → R = l' ∧ S = i') ∧ (kI l' c < kI l' i' → downF m1 (swp l' i' c) c n = R ∧ downI m1 (swp l' i' c) c n = S) := fun c e _ _ => by
  rw [e] at r5 r6
  constructor
  ·intro h
   rw [if_pos (.inr h)] at r5 r6
   exact ⟨r5.symm, r6.symm⟩
  ·intro h
   rw [if_neg (by intro hh; rcases hh with hh | hh; omega; exact hh h)] at r5 r6
   exact ⟨r5, r6⟩
 have hat : ∀ u v, QS.at ⟨aid, g, l'.length, l' ++ tl, u, v⟩ ⟨hpO ob qid qg aid g l' tl, M⟩ := fun u v => at_hpO hne rfl (by omega)
 have hL : ∀ u v, u < q.length → v < q.length → specX A_qij H_qij R_qless [.ref aid g 0 l'.length, I (u : Nat), I (v : Nat)] ⟨hpO ob qid qg aid g l' tl, M⟩ = some (.bool (decide (kI l' u < kI l' v)), ⟨hpO ob qid qg aid g l' tl, M⟩) := fun u v hu hv => by
  rw [s_qless (u := u) (v := v) (l' ++ tl) ⟨hat u v, by dsimp only; omega, by dsimp only; omega⟩, kI_app2 (by omega), kI_app2 (by omega)]
 have hW : ∀ c, c < q.length → specX A_qij H_qij R_qswap [.ref aid g 0 l'.length, I (i' : Nat), I (c : Nat)] ⟨hpO ob qid qg aid g l' tl, M⟩ = some (.tuple [], ⟨hpO ob qid qg aid g (swp l' i' c) tl, M⟩) := fun c hc => by
  rw [s_qswap (u := i') (v := c) (l' ++ tl) ⟨hat i' c, by dsimp only; omega, by dsimp only; omega⟩, swp_app (by omega) (by omega), hpO_set hne (by rw [swp_len])]
 by_cases c1 : b < n ∧ kI l' b < kI l' a
 ·obtain ⟨c1, c2⟩ := c1
  have hL1 := hL b a (by omega) (by omega)
  have hL2 := hL b i' (by omega) (by omega)
  have hW2 := hW b (by omega)
  obtain ⟨k1, k2⟩ := key b (by unfold chC; rw [← hb, ← ha, if_pos ⟨c1, c2⟩]) (by omega) (by omega)
  simp +contextual (maxSteps := 4000000) only [↓ur_skip, ↓ur_seq, ↓ur_block, ↓ur_exit, ↓ur_ret, ↓ur_region, ↓ur_cond, ↓cont_seq, ↓cont_blk, ↓cont_lp, ↓leave_seq, ↓leave_blk, ↓leave_lp, ↓done_nil, ↓ops_consN, ↓ops_guardN, nY_move, nY_assign, nY_pick, nY_binOp, nilO_tmp, nilO_int, nY_unOp, nY_calli, ↓ops_nil, opsIf_some, condC_true, condC_false, guardC_tt, guardC_ff, Option.map_some, Option.bind_some, Option.getD_some, Nat.reduceLT, Bool.false_eq_true, ↓upd_same, ↓upd_ne, Nat.reduceBEq, true_and, and_true, List.getD_cons_zero, List.getD_cons_succ, List.getElem?_toArray, List.getElem?_cons_zero, List.getElem?_cons_succ, endQ, not_dec, cfg_P, cfg_tab, cfg_muts, cfg_frz, ↓havoc_in, ↓havoc_out, agree_upd, agree_havoc, List.contains_cons, List.contains_nil, Bool.or_false, Bool.or_true, Int.ofNat_lt, decide_true, decide_false, Option.some.injEq, exists_eq_left', PV.int.injEq, tabOf_cons, tab_x, Bool.and_true, Bool.and_self, Nat.reduceEqDiff, List.cons_append, List.nil_append, List.append_nil, updO_same, Nat.reduceAdd, nth_zero, Nat.lt_succ_self, Bool.not_false, reduceCtorEq, not_true_eq_false, not_false_eq_true, Classical.not_not, pur_int, cells_ref, pur_ref, ↓ev_tmp, ↓ev_int, ↓guardP_eq, grd_some, ↓iop_move, ↓iop_assign, ↓pick3_bool, ↓iop_pick, ↓iop_binOp, ↓iop_unOp, ↓iop_calli, mthP_iface, nrmAll_cons, nrmAll_nil, nrm_int, pickP_f, loadP_ptr, b_add, b_mul, b_lss, b_gtr, b_geq, u_not, env0_eq, ires_eq, iresL_1, iresAll_nil, iresAll_cons, iresOne_tmp, pursL_cons, pursL_nil, ↓reduceIte, arr_eq, arrB_some, callP_eq, tsOf_eq, Int.natCast_inj, condC_d, ↓evs_cons, ↓evs_nil, beq_self_eq_true, nth_its, pur_its, nth_arcs, pur_arcs, nth_snds, pur_snds, nth_lnks, pur_lnks, Try.f60, ty3, r1, w1, w2, w3, hneg, c0i, c1, c2, hL1, hL2, hW2, ty102, ty106, hne, hne2]
  refine ⟨fun h => ?_, fun h => ?_⟩
  ·obtain ⟨rfl, rfl⟩ := k1 h
   exact Left.refl
  ·obtain ⟨e1, e2⟩ := k2 h
   exact ⟨m1, by omega, _, by omega, by omega, by rw [swp_len, r4], e1, e2, rfl⟩
 ·have hL2 := hL a i' (by omega) (by omega)
  have hW2 := hW a (by omega)
  obtain ⟨k1, k2⟩ := key a (by unfold chC; rw [← hb, ← ha, if_neg c1]) (by omega) (by omega)
  by_cases c3 : b < n
  ·have hL1 := hL b a (by omega) (by omega)
   have c2 : ¬ kI l' b < kI l' a := fun h => c1 ⟨c3, h⟩
   simp +contextual (maxSteps := 4000000) only [↓ur_skip, ↓ur_seq, ↓ur_block, ↓ur_exit, ↓ur_ret, ↓ur_region, ↓ur_cond, ↓cont_seq, ↓cont_blk, ↓cont_lp, ↓leave_seq, ↓leave_blk, ↓leave_lp, ↓done_nil, ↓ops_consN, ↓ops_guardN, nY_move, nY_assign, nY_pick, nY_binOp, nilO_tmp, nilO_int, nY_unOp, nY_calli, ↓ops_nil, opsIf_some, condC_false, guardC_tt, guardC_ff, Option.map_some, Option.bind_some, Option.getD_some, Nat.reduceLT, Bool.false_eq_true, ↓upd_same, ↓upd_ne, Nat.reduceBEq, true_and, and_true, List.getD_cons_zero, List.getD_cons_succ, List.getElem?_toArray, List.getElem?_cons_zero, List.getElem?_cons_succ, endQ, not_dec, cfg_P, cfg_tab, cfg_muts, cfg_frz, ↓havoc_in, ↓havoc_out, agree_upd, agree_havoc, List.contains_cons, List.contains_nil, Bool.or_false, Bool.or_true, Int.ofNat_lt, decide_true, decide_false, Option.some.injEq, exists_eq_left', PV.int.injEq, tabOf_cons, tab_x, Bool.and_true, Bool.and_self, Nat.reduceEqDiff, List.cons_append, List.nil_append, List.append_nil, updO_same, Nat.reduceAdd, nth_zero, Nat.lt_succ_self, Bool.not_false, reduceCtorEq, not_true_eq_false, not_false_eq_true, Classical.not_not, pur_int, cells_ref, pur_ref, ↓ev_tmp, ↓ev_int, ↓guardP_eq, grd_some, ↓iop_move, ↓iop_assign, ↓pick3_bool, ↓iop_pick, ↓iop_binOp, ↓iop_unOp, ↓iop_calli, mthP_iface, nrmAll_cons, nrmAll_nil, nrm_int, pickP_f, loadP_ptr, b_add, b_mul, b_lss, b_gtr, b_geq, u_not, env0_eq, ires_eq, iresL_1, iresAll_nil, iresAll_cons, iresOne_tmp, pursL_cons, pursL_nil, ↓reduceIte, arr_eq, arrB_some, callP_eq, tsOf_eq, Int.natCast_inj, condC_d, ↓evs_cons, ↓evs_nil, beq_self_eq_true, nth_its, pur_its, nth_arcs, pur_arcs, nth_snds, pur_snds, nth_lnks, pur_lnks, Try.f60, ty3, r1, w1, w2, w3, hneg, c0i, c3, c2, hL1, hL2, hW2, ty102, ty106, hne, hne2]
   refine ⟨fun h => ?_, fun h => ?_⟩
   ·obtain ⟨rfl, rfl⟩ := k1 h
    exact Left.refl
   ·obtain ⟨e1, e2⟩ := k2 h
    exact ⟨m1, by omega, _, by omega, by omega, by rw [swp_len, r4], e1, e2, rfl⟩
  ·simp +contextual (maxSteps := 4000000) only [↓ur_skip, ↓ur_seq, ↓ur_block, ↓ur_exit, ↓ur_ret, ↓ur_region, ↓ur_cond, ↓cont_seq, ↓cont_blk, ↓cont_lp, ↓leave_seq, ↓leave_blk, ↓leave_lp, ↓done_nil, ↓ops_consN, ↓ops_guardN, nY_move, nY_assign, nY_pick, nY_binOp, nilO_tmp, nilO_int, nY_unOp, nY_calli, ↓ops_nil, opsIf_some, condC_false, guardC_ft, guardC_ff, Option.map_some, Option.bind_some, Option.getD_some, Nat.reduceLT, Bool.false_eq_true, ↓upd_same, ↓upd_ne, Nat.reduceBEq, true_and, and_true, List.getD_cons_zero, List.getD_cons_succ, List.getElem?_toArray, List.getElem?_cons_zero, List.getElem?_cons_succ, endQ, not_dec, cfg_P, cfg_tab, cfg_muts, cfg_frz, ↓havoc_in, ↓havoc_out, agree_upd, agree_havoc, List.contains_cons, List.contains_nil, Bool.or_false, Bool.or_true, Int.ofNat_lt, decide_true, decide_false, Option.some.injEq, exists_eq_left', PV.int.injEq, tabOf_cons, tab_x, Bool.and_true, Bool.and_self, Nat.reduceEqDiff, List.cons_append, List.nil_append, List.append_nil, updO_same, Nat.reduceAdd, nth_zero, Nat.lt_succ_self, Bool.not_false, reduceCtorEq, not_true_eq_false, not_false_eq_true, Classical.not_not, pur_int, cells_ref, pur_ref, ↓ev_tmp, ↓ev_int, ↓ev_bool, ↓guardP_eq, grd_some, ↓iop_move, ↓iop_assign, ↓pick3_bool, ↓iop_pick, ↓iop_binOp, ↓iop_unOp, ↓iop_calli, mthP_iface, nrmAll_cons, nrmAll_nil, nrm_int, pickP_f, loadP_ptr, b_add, b_mul, b_lss, b_gtr, b_geq, u_not, env0_eq, ires_eq, iresL_1, iresAll_nil, iresAll_cons, iresOne_tmp, pursL_cons, pursL_nil, ↓reduceIte, arr_eq, arrB_some, callP_eq, tsOf_eq, Int.natCast_inj, condC_d, ↓evs_cons, ↓evs_nil, beq_self_eq_true, nth_its, pur_its, nth_arcs, pur_arcs, nth_snds, pur_snds, nth_lnks, pur_lnks, Try.f60, ty3, r1, w1, w2, w3, hneg, c0i, c3, hL2, hW2, ty102, ty106, hne, hne2]
   refine ⟨fun h => ?_, fun h => ?_⟩
   ·obtain ⟨rfl, rfl⟩ := k1 h
    exact Left.refl
   ·obtain ⟨e1, e2⟩ := k2 h
    exact ⟨m1, by omega, _, by omega, by omega, by rw [swp_len, r4], e1, e2, rfl⟩
end Sim
