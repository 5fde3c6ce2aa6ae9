/- What functions of this seat compute, by values: contracts (lemmas of the statement's proof, under the conditions that each names). -/
import Derived.Test.YtmgklnbhbomlnaaQZ
import Derived.Test.YtmgklnbhbomlnaaQP2
namespace Sim
open Go Go.Proofs
set_option maxRecDepth 10000
set_option maxHeartbeats 8000000
set_option linter.unusedVariables false
set_option linter.unusedSimpArgs false
attribute [local congr] opsIf_congr condC_congr guardC_congr grd_congr pick3_congr obind_congr omap_congr nilC_congr opsV_congr
theorem mine_lt {bs : List Int} {k : Nat} (c : k < bs.length) : mineN bs k = (bs.getD k 0).tmod 5 := by unfold mineN; rw [if_pos c]
theorem mine_ge {bs : List Int} {k : Nat} (c : ¬ k < bs.length) : mineN bs k = 0 := by unfold mineN; rw [if_neg c]
theorem now_yes {l : List Use} {bs : List Int} {p : Int} {k : Nat} (h : mineN bs k = p) : nowK l bs p (k + 1) = nowK l bs p k ++ [l.getD k dU] := by simp only [nowK]; rw [if_pos h]
theorem now_no {l : List Use} {bs : List Int} {p : Int} {k : Nat} (h : ¬ mineN bs k = p) : nowK l bs p (k + 1) = nowK l bs p k := by simp only [nowK]; rw [if_neg h]
theorem put_snoc {f : Pst → Em} {em : List Em} {l : List Pst} {k : Nat} (h : k < l.length) : putL em ((l.take (k + 1)).map f) = addE (putL em ((l.take k).map f)) (f (l.getD k dP)).1 (f (l.getD k dP)).2 := by rw [take_snoc (d := dP) h, putL_snoc]
theorem putR_snoc {f : Rst → Em} {em : List Em} {l : List Rst} {k : Nat} (h : k < l.length) : putL em ((l.take (k + 1)).map f) = addE (putL em ((l.take k).map f)) (f (l.getD k dR)).1 (f (l.getD k dR)).2 := by rw [take_snoc (d := dR) h, putL_snoc]
theorem entE {em : List Em} (hnd : (keysE em).Nodup) {j : Nat} {k v : PV} (h : (em.map encE3)[j]? = some (k, v)) : j < em.length ∧ k = keyV (em.getD j dE).1 ∧ v = I (sumO em (em.getD j dE).1) := by
  rw [List.getElem?_map, Option.map_eq_some_iff] at h
  obtain ⟨y, hy, hkv⟩ := h
  simp only [encE3, Prod.mk.injEq] at hkv
  obtain ⟨rfl, rfl⟩ := hkv
  obtain ⟨hj, rfl⟩ := List.getElem?_eq_some_iff.1 hy
  have e : em.getD j dE = em[j] := by simp [hj]
  rw [e]
  exact ⟨hj, rfl, by rw [sum_mem hnd _ (List.getElem_mem _)]⟩
theorem putL_keys {q : Key} : ∀ {kv em : List Em}, q ∈ keysE (putL em kv) → q ∈ keysE em ∨ ∃ x ∈ kv, x.1 = q
  | [], em, h => .inl h
  | x :: kv, em, h => by
    have e : putL em (x :: kv) = putL (addE em x.1 x.2) kv := rfl
    rw [e] at h
    rcases putL_keys h with g | ⟨y, hy, g⟩
    · rw [keys_add] at g
      split at g
      · exact .inl g
      · rcases List.mem_append.1 g with g | g
        · exact .inl g
        · simp only [List.mem_singleton] at g
          exact .inr ⟨x, by simp, g.symm⟩
    · exact .inr ⟨y, by simp [hy], g⟩
section
variable {t : List Tar} {hn : Int} {ls : List Lnk}
theorem ps_key {rs : List Rst} {l : List Use} {tick : Int} (ok : PerIn t hn ls rs l) {x : Pst} (hx : x ∈ perL rs t hn ls l tick) : inR t.length (pkey x) := by
  obtain ⟨_, _, q, hq, _, e⟩ := ps_at x hx
  have := congrArg Prod.fst (pkey_pst (tick := tick) (s := sumO (emA rs t hn ls l) q) (q := q))
  rw [← e] at this
  have h2 : pkey x = q := this
  rw [h2]; exact per_keys ok q hq
theorem got_keys {l : List Use} {bs : List Int} (hc : mchkE t l = 0) (hl : l.length ≤ 20) (hg : ∀ u ∈ l, chgE t hn ls u = 0) : ∀ p, ∀ q ∈ keysE (gotN t hn ls l bs p), inR t.length q
  | 0, q, h => by simp [gotN, keysE] at h
  | p + 1, q, h => by
    rcases putL_keys (em := gotN t hn ls l bs p) h with g | ⟨y, hy, g⟩
    · exact got_keys hc hl hg p q g
    · obtain ⟨x, hx, rfl⟩ := List.mem_map.1 hy
      rw [← g]
      exact ps_key (rsN_in hc hl hg p) hx
theorem fin_keys {l : List Use} {bs : List Int} (hc : mchkE t l = 0) (hl : l.length ≤ 20) (hg : ∀ u ∈ l, chgE t hn ls u = 0) : ∀ q ∈ keysE (putL (gotN t hn ls l bs 5) ((rsN t hn ls l bs 5).map rsP)), inR t.length q := fun q h => by
  rcases putL_keys h with g | ⟨y, hy, g⟩
  · exact got_keys hc hl hg 5 q g
  · obtain ⟨x, hx, rfl⟩ := List.mem_map.1 hy
    rw [← g]
    obtain ⟨k, hk, rfl⟩ := List.getElem_of_mem hx
    have := (rsN_ok (bs := bs) hc hl hg 5 k hk).1
    rw [List.getD_eq_getElem?_getD, List.getElem?_eq_getElem hk] at this
    exact par_inR this
end
theorem tar12 {t : List Tar} {l : List Use} (h : mchkE t l = 0) : t.length ≤ 12 := by
  unfold mchkE at h
  by_cases c : 12 < t.length
  · rw [if_pos c] at h; cases h
  · omega
def C_law2 : Prop := ∀ (t : List Tar) (hn : Int) (ls : List Lnk) (l : List Use) (bs : List Int) (h : ∀ b ∈ bs, 0 ≤ b ∧ b ≤ 255) , VC Try.prog 4 [tars t, .agg [I hn, lnks ls], uses l, .lits 1 (bs.map (PV.int .u8))] (B true)
theorem c_law2 : C_law2 := by
  intro t hn ls l bs hbs
  refine vc_ofU mixed (l := [e_sanity, e_few, e_mchk, e_charge, e_period]) ((eok_cons o_sanity (eok_cons o_few (eok_cons o_mchk (eok_cons o_charge (eok_cons o_period eok_nil)))))) [] [116]  Try.func4 rfl (by decide +kernel) (N := 226) rfl (by simp) rfl (by kernel_rfl) fun hs => ?_
  simp only [smallL, PV.small, List.length_map, and_true, true_and] at hs
  by_cases c1 : fewO ls l
  case neg => simp +contextual (maxSteps := 4000000) only [↓ur_seq, ↓ur_ret, ↓ur_region, ↓ur_cond, ↓cont_seq, ↓done_nil, ↓done_seq, ↓ops_consN, ↓ops_guardN, nY_move, nY_assign, nY_pick, nY_box, nY_load, nY_binOp, nilO_int, nY_unOp, nY_callf, nY_callb, ↓ops_nil, opsIf_some, condC_true, guardC_tf, Option.map_some, Option.bind_some, Option.getD_some, Nat.reduceLT, Bool.false_eq_true, ↓upd_same, ↓upd_ne, Nat.reduceBEq, and_true, List.getD_cons_zero, List.getD_cons_succ, List.getElem?_toArray, List.getElem?_cons_zero, List.getElem?_cons_succ, endQ, cfg_P, cfg_tab, cfg_muts, cfg_frz, List.contains_cons, List.contains_nil, Bool.or_false, decide_false, Option.some.injEq, exists_eq_left', List.lookup_cons, List.lookup_nil, tabOf_cons, tab_v, Bool.and_self, Nat.reduceEqDiff, List.nil_append, List.append_nil, List.length_cons, List.length_nil, Nat.zero_add, List.drop_zero, Nat.reduceAdd, Bool.not_false, st0, Nat.le_refl, pur_int, pur_lits, cells_agg, pur_agg, DRx_bool, ↓ev_tmp, ↓ev_bool, ↓ev_func, ↓guardP_eq, grd_some, ↓iop_move, ↓iop_assign, ↓pick3_bool, ↓iop_pick, ↓iop_box, ↓iop_load, ↓iop_unOp, ↓iop_callv, nrmAll_cons, nrmAll_nil, nrm_agg, nrmL_cons, nrmL_nil, nrm_lits, nrm1_int, nrm1_lits, pickP_t, loadP_vptr, u_not, env0_eq, ires_eq, iresL_1, iresAll_nil, iresAll_cons, iresOne_tmp, valT_eq, pursL_cons, pursL_nil, ↓reduceIte, callP_eq, tsOf_eq, boxP_eq, List.take_succ_cons, List.take_nil, ↓evs_cons, ↓evs_nil, beq_self_eq_true, see_eq, and_false, Bool.true_eq_false, e_sanity, s_sanity, e_few, s_few, e_mchk, e_charge, e_period, nth_psts, pur_psts, nth_tars, pur_tars, nth_snds, pur_snds, nth_uses, pur_uses, nth_rsts, pur_rsts, nth_lnks, pur_lnks, Try.f4, ty26, ty27, c1]
  by_cases c2 : 20 < l.length
  · have c2i : (20 : Int) < (l.length : Int) := by omega
    simp +contextual (maxSteps := 4000000) only [↓ur_seq, ↓ur_ret, ↓ur_region, ↓ur_cond, ↓cont_seq, ↓done_nil, ↓done_seq, ↓ops_consN, ↓ops_guardN, nY_move, nY_assign, nY_pick, nY_box, nY_load, nY_binOp, nilO_int, nY_unOp, nY_callf, nY_callb, ↓ops_nil, opsIf_some, condC_true, guardC_ff, Option.map_some, Option.bind_some, Option.getD_some, Nat.reduceLT, Bool.false_eq_true, ↓upd_same, ↓upd_ne, Nat.reduceBEq, and_true, List.getD_cons_zero, List.getD_cons_succ, List.getElem?_toArray, List.getElem?_cons_zero, List.getElem?_cons_succ, endQ, cfg_P, cfg_tab, cfg_muts, cfg_frz, List.length_map, List.contains_cons, List.contains_nil, Bool.or_false, decide_true, Option.some.injEq, exists_eq_left', List.lookup_cons, List.lookup_nil, tabOf_cons, tab_v, Bool.and_self, Nat.reduceEqDiff, List.nil_append, List.append_nil, List.length_cons, List.length_nil, Nat.zero_add, List.drop_zero, Nat.reduceAdd, Bool.not_true, Bool.not_false, st0, Nat.le_refl, pur_int, pur_lits, cells_agg, pur_agg, DRx_bool, ↓ev_tmp, ↓ev_int, ↓ev_bool, ↓ev_func, ↓guardP_eq, grd_some, ↓iop_move, ↓iop_assign, ↓pick3_bool, ↓iop_pick, ↓iop_box, ↓iop_load, ↓iop_binOp, ↓iop_unOp, ↓iop_callv, ↓iop_callb, nrmAll_cons, nrmAll_nil, bi_len, lenM_none, nrm_agg, nrmL_cons, nrmL_nil, nrm_lits, nrm1_int, nrm1_lits, pickP_t, loadP_vptr, lenP_lits, b_gtr, u_not, env0_eq, ires_eq, iresL_1, iresAll_nil, iresAll_cons, iresOne_tmp, valT_eq, pursL_cons, pursL_nil, ↓reduceIte, callP_eq, tsOf_eq, boxP_eq, List.take_succ_cons, List.take_nil, ↓evs_cons, ↓evs_nil, beq_self_eq_true, see_eq, and_false, Bool.true_eq_false, e_sanity, s_sanity, e_few, s_few, e_mchk, e_charge, e_period, nth_psts, pur_psts, nth_tars, pur_tars, nth_snds, pur_snds, nth_uses, pur_uses, nth_rsts, pur_rsts, nth_lnks, pur_lnks, Try.f4, ty26, ty27, c1, c2, c2i]
  have c2i : ¬ (20 : Int) < (l.length : Int) := by omega
  have huse : ∀ u ∈ l, useP hn ls u := fun u _ => by unfold useP; omega
  have hein := fun k hk h0 => emU_in (t := t) (hn := hn) (ls := ls) (l := l) (em := []) (b := 0) huse ⟨by simp [keysE], fun q => by simp [sumO]⟩ k hk h0
  simp +contextual (maxSteps := 4000000) only [↓ur_skip, ↓ur_seq, ↓ur_block, ↓ur_region, ↓ur_cond, ↓cont_seq, ↓ops_consN, ↓ops_guardN, nY_move, nY_assign, nY_pick, nY_box, nY_load, nY_binOp, nilO_int, nY_unOp, nY_makeMap, nY_callf, nY_callb, ↓ops_nil, opsIf_some, condC_false, guardC_ff, Option.map_some, Option.bind_some, Option.getD_some, Nat.reduceLT, Bool.false_eq_true, ↓upd_same, ↓upd_ne, Nat.reduceBEq, true_and, List.getD_cons_zero, List.getD_cons_succ, List.getElem?_toArray, List.getElem?_cons_zero, List.getElem?_cons_succ, cfg_P, cfg_tab, cfg_muts, cfg_frz, List.length_map, List.contains_cons, List.contains_nil, Bool.or_false, decide_true, decide_false, List.lookup_cons, List.lookup_nil, tabOf_cons, tab_v, Bool.and_self, Nat.reduceEqDiff, List.nil_append, List.append_nil, List.length_cons, List.length_nil, Nat.zero_add, List.drop_zero, Nat.reduceAdd, Bool.not_true, Bool.not_false, st0, Nat.le_refl, pur_int, pur_lits, cells_agg, pur_agg, ↓ev_tmp, ↓ev_int, ↓ev_bool, ↓ev_func, ↓guardP_eq, grd_some, ↓iop_move, ↓iop_assign, ↓pick3_bool, ↓iop_pick, ↓iop_box, ↓iop_load, ↓iop_binOp, ↓iop_unOp, ↓iop_callv, ↓iop_callb, nrmAll_cons, nrmAll_nil, bi_len, lenM_none, ↓iop_makeMap, nrm_agg, nrmL_cons, nrmL_nil, nrm_lits, nrm1_int, nrm1_lits, pickP_t, loadP_vptr, lenP_lits, b_gtr, u_not, env0_eq, valT_eq, pursL_cons, pursL_nil, Store.new, ↓reduceIte, callP_eq, tsOf_eq, boxP_eq, List.take_succ_cons, List.take_nil, ↓evs_cons, ↓evs_nil, beq_self_eq_true, see_eq, and_false, Bool.true_eq_false, e_sanity, e_few, s_few, e_mchk, e_charge, e_period, nth_psts, pur_psts, nth_tars, pur_tars, nth_snds, pur_snds, nth_uses, pur_uses, nth_rsts, pur_rsts, nth_lnks, pur_lnks, Try.f4, ty26, ty27, ty50, c1, c2, c2i]
  refine loop_cnt [8, 11, 12, 13, 47, 48, 49, 50, 51, 52, 53, 54, 55, 56, 57, 58, 59, 60, 61, 62, 63, 64, 65, 66, 67, 68, 69, 70, 71, 72, 73, 74] l.length (fun k ρ st' => ρ 47 = I k ∧ chK t hn ls l k = 0 ∧ st'.obj 0 = some (.map 0 (.ints 3) ((emU t hn ls l [] k).map encE3)) ∧ 0 < st'.next) (.refl _) ?_ ?_
  · simp +contextual (maxSteps := 4000000) only [↓upd_same, and_true, List.map_nil, updO_same, Nat.lt_succ_self, Int.cast_ofNat_Int, nth_psts, pur_psts, nth_tars, pur_tars, nth_snds, pur_snds, nth_uses, pur_uses, nth_rsts, pur_rsts, nth_lnks, pur_lnks, Try.f4, emU, chK]
  rintro k2 ρ2 ⟨ob2, M2⟩ hk2 ⟨h47, hc0, p0, hM2⟩
  dsimp only at p0 hM2
  have m0 : ¬ 0 = M2 := by omega
  have m1 : ¬ M2 = 0 := by omega
  by_cases hlt2 : k2 < l.length
  · have hwk := wrapM (k := k2) (by omega)
    have hup := huse _ (at_mem' (d := dU) hlt2)
    obtain ⟨⟨_, hb⟩, _⟩ := hein k2 hk2 hc0
    have hst : emU t hn ls l [] (k2 + 1) = addE (emU t hn ls l [] k2) (ukey (l.getD k2 dU)) (chgM t hn ls (l.getD k2 dU)) := rfl
    have hc1 : chgE t hn ls (l.getD k2 dU) = 0 → chK t hn ls l (k2 + 1) = 0 := fun h => by simp only [chK]; rw [if_neg (fun g => g hc0)]; exact h
    have hle := fun h => chg_le (t := t) hup h
    have hok := fun h => chg_par (t := t) (hn := hn) (ls := ls) (u := l.getD k2 dU) h
    have hput := mput_E (k := ukey (l.getD k2 dU)) (c := chgM t hn ls (l.getD k2 dU)) (em := emU t hn ls l [] k2)
    have hget := mget_E (k := ukey (l.getD k2 dU)) (em := emU t hn ls l [] k2)
    have hbu := hb (ukey (l.getD k2 dU))
    generalize hx : l.getD k2 dU = u at *
    by_cases he : chgE t hn ls u = 0
    case neg =>
      generalize hE : chgE t hn ls u = E at *
      simp +contextual (maxSteps := 4000000) only [↓ur_skip, ↓ur_seq, ↓ur_block, ↓ur_ret, ↓ur_region, ↓ur_cond, ↓cont_seq, ↓done_nil, ↓done_seq, ↓done_blk, ↓done_lp, ↓ops_consN, nY_move, nY_assign, nY_alloc, nY_load, nY_store, nY_binOp, nilO_tmp, nilO_int, nY_indexAddr, nY_extract, nY_callf, ↓ops_nil, opsIf_some, opsIf_none, condC_true, Option.map_some, Option.bind_some, Option.getD_some, Nat.reduceLT, Bool.false_eq_true, ↓upd_same, ↓upd_ne, Nat.reduceBEq, and_true, List.getD_cons_zero, List.getElem?_cons_zero, List.getElem?_cons_succ, endQ, cfg_P, cfg_tab, cfg_muts, cfg_frz, cfg_num, numOf_eq, List.length_map, ↓havoc_in, ↓havoc_out, List.contains_cons, List.contains_nil, Bool.or_false, Bool.or_true, Int.natCast_nonneg, Int.ofNat_lt, Int.toNat_natCast, decide_true, Option.some.injEq, exists_eq_left', List.lookup_cons, List.lookup_nil, tabOf_cons, tab_v, Bool.and_self, Nat.reduceEqDiff, List.nil_append, List.append_nil, updO_same, List.length_cons, List.length_nil, Nat.zero_add, List.drop_zero, List.take_zero, Nat.reduceAdd, List.set_cons_zero, nth_zero, Nat.lt_succ_self, Bool.not_false, not_false_eq_true, Nat.le_refl, pur_int, pur_lits, cells_agg, pur_agg, DRx_bool, ↓ev_tmp, ↓ev_int, ↓ev_func, ↓iop_move, ↓iop_assign, ↓iop_alloc, ↓iop_load, ↓iop_store, ↓iop_binOp, ↓iop_indexAddr, idxA_int, ↓iop_extract, extr_tuple, ↓iop_callv, nrmAll_cons, nrmAll_nil, nrm_agg, nrmL_cons, nrmL_nil, nrm_lits, nrm1_int, nrm1_lits, pickP_t, loadP_vptr, loadP_ptr, setCells_agg, storeP_ptr, indexP_lits, b_neq, b_lss, splice_eq, env0_eq, ires_eq, iresL_1, iresAll_nil, iresAll_cons, iresOne_tmp, valT_eq, pursL_cons, pursL_nil, Store.new, Store.set, ↓reduceIte, arr_eq, arrB_some, callP_eq, tsOf_eq, List.take_succ_cons, List.drop_succ_cons, List.drop_nil, List.take_nil, ↓evs_cons, ↓evs_nil, beq_self_eq_true, see_eq, and_false, Bool.true_eq_false, s_sanity, s_charge, nth_psts, pur_psts, nth_tars, pur_tars, nth_snds, pur_snds, nth_uses, pur_uses, nth_rsts, pur_rsts, nth_lnks, pur_lnks, Try.f4, ty23, ty26, ty27, ty34, h47, hlt2, hx, hup, hE, he, p0, m0, m1]
    have hc2 := hc1 he
    obtain ⟨g1, g2⟩ := hle he
    have hpar := hok he
    rw [← hst] at hput
    have w1 : IntKind.i64.wrap (sumO (emU t hn ls l [] k2) (ukey u) + chgM t hn ls u) = sumO (emU t hn ls l [] k2) (ukey u) + chgM t hn ls u := wrap64 (by omega) (by omega)
    generalize emU t hn ls l [] (k2 + 1) = em2 at *
    generalize emU t hn ls l [] k2 = em1 at *
    have hmp : mput (em1.map encE3) (.agg [I (ukey u).1, I (ukey u).2.1, I (ukey u).2.2]) (I (sumO em1 (ukey u) + chgM t hn ls u)) = em2.map encE3 := hput
    have r1 : (-9223372036854775808 ≤ u.2.2.1 ∧ u.2.2.1 ≤ 9223372036854775807) := by have := hpar.2.2; unfold inM at this; omega
    have r2 : (-9223372036854775808 ≤ u.2.1 ∧ u.2.1 ≤ 9223372036854775807) := by have := hpar.2.1; unfold inM at this; omega
    have r3 : (-9223372036854775808 ≤ u.1 ∧ u.1 ≤ 9223372036854775807) := by have := hpar.1; omega
    have hget' : (mget (em1.map encE3) (.agg [I u.2.2.1, I u.2.1, I u.1])).getD (I 0) = I (sumO em1 (ukey u)) := hget
    have hmp' : mput (em1.map encE3) (.agg [I u.2.2.1, I u.2.1, I u.1]) (I (sumO em1 (ukey u) + chgM t hn ls u)) = em2.map encE3 := hmp
    simp +contextual (maxSteps := 4000000) only [↓ur_skip, ↓ur_seq, ↓ur_block, ↓ur_region, ↓ur_cond, ↓cont_seq, ↓cont_blk, ↓cont_lp, ↓ops_consN, nY_move, nY_assign, nY_alloc, nY_build, nY_load, nY_store, nY_binOp, nilO_tmp, nilO_int, nY_fieldAddr, nY_indexAddr, nY_lookup, nY_mapEntry, nY_entryStore, nY_extract, nY_callf, ↓ops_nil, opsIf_some, opsIf_none, condC_true, condC_false, Option.map_some, Option.bind_some, Option.getD_some, Nat.reduceLT, Bool.false_eq_true, ↓upd_same, ↓upd_ne, Nat.reduceBEq, true_and, and_true, List.getD_cons_zero, List.getElem?_cons_zero, List.getElem?_cons_succ, cfg_P, cfg_tab, cfg_muts, cfg_frz, cfg_num, numOf_eq, List.length_map, ↓havoc_in, ↓havoc_out, agree_upd, agree_havoc, List.contains_cons, List.contains_nil, Bool.or_false, Bool.or_true, Int.natCast_nonneg, Int.ofNat_lt, Int.toNat_natCast, decide_true, decide_false, List.lookup_cons, List.lookup_nil, tabOf_cons, tab_v, Bool.and_self, Nat.reduceEqDiff, List.cons_append, List.nil_append, List.append_nil, updO_same, updO_ne, List.length_cons, List.length_nil, Nat.zero_add, Nat.add_zero, List.drop_zero, List.take_zero, Nat.reduceAdd, List.set_cons_zero, Nat.reduceLeDiff, nth_zero, Nat.lt_succ_self, Bool.not_false, not_true_eq_false, not_false_eq_true, Nat.le_refl, cells_int, pur_int, pur_lits, cells_agg, pur_agg, ↓ev_tmp, ↓ev_int, ↓ev_func, ↓iop_move, ↓iop_assign, ↓iop_alloc, ↓iop_build, ↓iop_load, ↓iop_store, ↓iop_binOp, ↓iop_fieldAddr, ↓iop_indexAddr, idxA_int, ↓iop_extract, extr_tuple, ↓iop_callv, nrmAll_cons, nrmAll_nil, ↓iop_mapEntry, ↓iop_entryStore, ↓iop_lookup, mapSlot_mref, mapStore_mref, mset_eq, mapGet_mref, mapLk_ff, mapB_some, nrm_agg, nrmL_cons, nrmL_nil, nrm_lits, nrm1_int, nrm1_lits, pickP_f, pickP_t, loadP_vptr, loadP_ptr, setCells_agg, storeP_ptr, fieldP_ptr, indexP_lits, b_add, b_neq, b_lss, fill_nil, fill_cons, fill1_some, buildP_eq, bldA_none, splice_eq, env0_eq, valT_eq, pursL_cons, pursL_nil, Store.new, Store.set, ↓reduceIte, arr_eq, arrB_some, callP_eq, tsOf_eq, beq_eq_false_iff_ne, ne_eq, List.take_succ_cons, List.drop_succ_cons, List.drop_nil, List.take_nil, ↓evs_cons, ↓evs_nil, ↓evp_cons, ↓evp_nil, beq_self_eq_true, see_eq, and_false, Bool.true_eq_false, s_charge, nth_psts, pur_psts, nth_tars, pur_tars, nth_snds, pur_snds, nth_uses, pur_uses, nth_rsts, pur_rsts, nth_lnks, pur_lnks, Try.f4, ty3, ty23, ty26, ty27, ty34, ty50, ty52, h47, hlt2, hx, hup, he, p0, m0, m1, keyIs_k3, r1, r2, r3, hget', hmp', w1, hwk, mset_eq]
    exact ⟨hc2, by omega⟩
  have e : k2 = l.length := by omega
  subst e
  by_cases hmc : mchkE t l = 0
  case neg =>
    generalize hE : mchkE t l = E at *
    simp +contextual (maxSteps := 4000000) only [↓ur_seq, ↓ur_exit, ↓ur_ret, ↓ur_region, ↓ur_cond, ↓cont_seq, ↓leave_seq, ↓leave_blk, ↓leave_lp, ↓done_nil, ↓done_seq, ↓ops_consN, nY_move, nY_assign, nY_binOp, nilO_tmp, nilO_int, nY_callf, ↓ops_nil, opsIf_some, condC_true, condC_false, Option.map_some, Option.bind_some, Option.getD_some, Nat.reduceLT, Bool.false_eq_true, ↓upd_same, ↓upd_ne, Nat.reduceBEq, and_true, List.getD_cons_zero, List.getD_cons_succ, endQ, cfg_P, cfg_tab, cfg_muts, cfg_frz, ↓havoc_in, ↓havoc_out, List.contains_cons, List.contains_nil, Bool.or_false, Bool.or_true, Int.ofNat_lt, decide_true, decide_false, Option.some.injEq, exists_eq_left', tabOf_cons, tab_v, Bool.and_self, Nat.reduceEqDiff, List.nil_append, List.append_nil, Nat.reduceAdd, Nat.lt_irrefl, Bool.not_false, not_false_eq_true, pur_lits, DRx_bool, ↓ev_tmp, ↓ev_int, ↓ev_func, ↓iop_move, ↓iop_assign, ↓iop_binOp, ↓iop_callv, nrmAll_cons, nrmAll_nil, nrm_lits, b_neq, b_lss, env0_eq, ires_eq, iresL_1, iresAll_nil, iresAll_cons, iresOne_tmp, valT_eq, pursL_cons, pursL_nil, ↓reduceIte, callP_eq, tsOf_eq, ↓evs_cons, ↓evs_nil, beq_self_eq_true, and_false, Bool.true_eq_false, s_sanity, s_mchk, nth_psts, pur_psts, nth_tars, pur_tars, nth_snds, pur_snds, nth_uses, pur_uses, nth_rsts, pur_rsts, nth_lnks, pur_lnks, Try.f4, ty23, ty27, h47, hE, hmc]
  have hg := chK_at hc0
  have hl20 : l.length ≤ 20 := by omega
  have hWnd : (keysE (emU t hn ls l [] l.length)).Nodup := (hein _ (Nat.le_refl _) hc0).1.1
  have hfin := got_all (bs := bs) hbs hmc hl20 hg
  have hEtwo := fun p hp => erN_two (bs := bs) hmc hl20 hg (p := p) hp
  have hGle := fun p hp q => got_le (t := t) (hn := hn) (ls := ls) (l := l) (bs := bs) p hp q
  generalize hW : emU t hn ls l [] l.length = W at *
  simp +contextual (maxSteps := 4000000) only [↓ur_skip, ↓ur_seq, ↓ur_block, ↓ur_exit, ↓ur_region, ↓ur_cond, ↓cont_seq, ↓leave_seq, ↓leave_blk, ↓leave_lp, ↓ops_consN, nY_move, nY_assign, nY_binOp, nilO_tmp, nilO_int, nY_makeMap, nY_callf, ↓ops_nil, opsIf_some, condC_false, Option.map_some, Option.bind_some, Option.getD_some, Nat.reduceLT, Bool.false_eq_true, ↓upd_same, ↓upd_ne, Nat.reduceBEq, true_and, List.getD_cons_zero, List.getD_cons_succ, cfg_P, cfg_tab, cfg_muts, cfg_frz, ↓havoc_in, ↓havoc_out, List.contains_cons, List.contains_nil, Bool.or_false, Bool.or_true, Int.ofNat_lt, decide_false, tabOf_cons, tab_v, Bool.and_self, Nat.reduceEqDiff, List.nil_append, List.append_nil, Nat.reduceAdd, Nat.lt_irrefl, Bool.not_false, not_true_eq_false, pur_lits, ↓ev_tmp, ↓ev_int, ↓ev_nils, ↓ev_func, ↓iop_move, ↓iop_assign, ↓iop_binOp, ↓iop_callv, nrmAll_cons, nrmAll_nil, ↓iop_makeMap, nrm_lits, b_neq, b_lss, env0_eq, valT_eq, pursL_cons, pursL_nil, Store.new, ↓reduceIte, callP_eq, tsOf_eq, ↓evs_cons, ↓evs_nil, beq_self_eq_true, and_false, Bool.true_eq_false, s_mchk, nth_psts, pur_psts, nth_tars, pur_tars, nth_snds, pur_snds, nth_uses, pur_uses, nth_rsts, pur_rsts, nth_lnks, pur_lnks, Try.f4, ty23, ty27, ty50, h47, hmc]
  have n0 : ¬ 0 = M2 := by omega
  refine loop_cnt [8, 15, 16, 17, 18, 19, 20, 21, 22, 23, 25, 26, 27, 81, 82, 83, 84, 85, 86, 87, 88, 89, 90, 91, 92, 93, 94, 95, 96, 97, 98, 99, 100, 101, 102, 103, 104, 105, 106, 107, 108, 109, 110, 111, 112, 113, 114, 115, 116, 117, 118, 119, 120, 121, 122, 123, 124, 125, 126, 127, 128, 129, 130, 131, 132, 133, 134, 135, 136, 137, 138, 139, 140, 141, 142, 143, 144, 145, 146, 147, 148, 149, 150, 151, 152, 153, 154, 155, 156, 157, 158, 159, 160, 161, 162, 163, 164, 165, 166, 167, 168, 169, 170, 171] 5 (fun p ρ st' => ρ 81 = I p ∧ (∀ j, j < p → erN t hn ls l bs j = 0) ∧ nrm [(0, 4)] (ρ 15) = rsts (rsN t hn ls l bs p) ∧ (0 < p → ρ 15 = rsts (rsN t hn ls l bs p)) ∧ st'.obj 0 = some (.map 0 (.ints 3) (W.map encE3)) ∧ st'.obj M2 = some (.map 0 (.ints 3) ((gotN t hn ls l bs p).map encE3)) ∧ M2 < st'.next) (.refl _) ?_ ?_
  · simp +contextual (maxSteps := 4000000) only [↓upd_same, ↓upd_ne, Nat.reduceBEq, true_and, and_true, List.map_nil, PV.lits.injEq, List.lookup_cons, updO_same, updO_ne, Nat.lt_irrefl, Nat.lt_succ_self, reduceCtorEq, not_false_eq_true, false_implies, nrm_nils, nrm1_some, beq_eq_false_iff_ne, ne_eq, beq_self_eq_true, Int.cast_ofNat_Int, nth_psts, pur_psts, nth_tars, pur_tars, nth_snds, pur_snds, nth_uses, pur_uses, nth_rsts, pur_rsts, nth_lnks, pur_lnks, Try.f4, p0, n0, gotN, rsN]
    exact fun j hj => absurd hj (by omega)
  rintro p ρ3 ⟨ob3, M3⟩ hp ⟨h81, her, h15n, h15, p3, q3, hM3⟩
  dsimp only at p3 q3 hM3
  have h12 := tar12 hmc
  by_cases hp5 : p < 5
  case neg =>
    have e : p = 5 := by omega
    subst e
    have h15 := h15 (by omega)
    clear h15n
    have hfin := hfin her
    have hro := rsN_ok (t := t) (hn := hn) (ls := ls) (bs := bs) hmc hl20 hg 5
    have hrl := rsN_len (t := t) (hn := hn) (ls := ls) (l := l) (bs := bs) 5
    have hFk := fin_keys (bs := bs) hmc hl20 hg
    have hWk := emU_inR (t := t) (hn := hn) (ls := ls) (l := l) (em := []) (fun q hq => by simp [keysE] at hq) l.length (Nat.le_refl _) hc0
    rw [hW] at hWk
    have hG5 := hGle 5 (Nat.le_refl _)
    have hFnd : (keysE (putL (gotN t hn ls l bs 5) ((rsN t hn ls l bs 5).map rsP))).Nodup := putL_nodup (got_nodup 5)
    generalize gotN t hn ls l bs 5 = G at *
    generalize rsN t hn ls l bs 5 = R at *
    have n1 : ¬ M2 = M3 := by omega
    have e0 : ¬ 0 = M2 := by omega
    have e1 : ¬ M2 = 0 := by omega
    simp +contextual (maxSteps := 4000000) only [↓ur_seq, ↓ur_block, ↓ur_exit, ↓ur_region, ↓ur_cond, ↓cont_seq, ↓leave_seq, ↓leave_blk, ↓leave_lp, ↓ops_consN, nY_move, nY_binOp, nilO_int, nY_callb, ↓ops_nil, opsIf_some, condC_false, Option.map_some, Option.getD_some, Nat.reduceLT, ↓upd_same, ↓upd_ne, Nat.reduceBEq, true_and, cfg_P, List.length_map, ↓havoc_in, List.contains_cons, List.contains_nil, Bool.or_false, Bool.or_true, decide_false, Bool.not_false, Int.reduceLT, ↓ev_tmp, ↓ev_int, ↓iop_move, ↓iop_binOp, ↓iop_callb, bi_len, lenM_none, lenP_lits, b_lss, ↓reduceIte, ↓evs_cons, ↓evs_nil, beq_self_eq_true, Int.cast_ofNat_Int, nth_psts, pur_psts, nth_tars, pur_tars, nth_snds, pur_snds, nth_uses, pur_uses, nth_rsts, pur_rsts, nth_lnks, pur_lnks, Try.f4, ty22, h81, h15]
    refine loop_cnt [8, 29, 174, 175, 176, 177, 178, 179, 180, 181, 182, 183, 184, 185, 186, 187, 188, 189, 190, 191, 192, 193, 194, 195, 196, 197, 198, 199, 200] R.length (fun j ρ st' => ρ 174 = I j ∧ st'.obj 0 = some (.map 0 (.ints 3) (W.map encE3)) ∧ st'.obj M2 = some (.map 0 (.ints 3) ((putL G ((R.take j).map rsP)).map encE3)) ∧ M2 < st'.next) (.refl _) ?_ ?_
    · simp +contextual (maxSteps := 4000000) only [↓upd_same, true_and, List.map_nil, List.take_zero, Int.cast_ofNat_Int, nth_psts, pur_psts, nth_tars, pur_tars, nth_snds, pur_snds, nth_uses, pur_uses, nth_rsts, pur_rsts, nth_lnks, pur_lnks, Try.f4]
      exact ⟨p3, q3, hM3⟩
    rintro j ρ4 ⟨ob4, M4⟩ hj ⟨h174, p4, q4, hM4⟩
    dsimp only at p4 q4 hM4
    have a0 : ¬ 0 = M4 := by omega
    have a1 : ¬ M4 = 0 := by omega
    have a2 : ¬ M2 = M4 := by omega
    have a3 : ¬ M4 = M2 := by omega
    by_cases hjl : j < R.length
    · have hwj := wrapM (k := j) (by omega)
      obtain ⟨x1, x2, _⟩ := hro j hjl
      have hstep := putR_snoc (f := rsP) (em := G) hjl
      have hsum : ∀ q, 0 ≤ sumO (putL G ((R.take j).map rsP)) q ∧ sumO (putL G ((R.take j).map rsP)) q ≤ 6000000000000000000 := fun q => by
        rw [putL_sum]
        have h1 := hG5 q
        have h2 := sumK_le (q := q) (b := 999) (by decide) (kv := (R.take j).map rsP) fun x hx => by
          obtain ⟨r, hr, rfl⟩ := List.mem_map.1 hx
          obtain ⟨k, hk, rfl⟩ := List.getElem_of_mem (List.mem_of_mem_take hr)
          have := (hro k hk).2.1
          rw [List.getD_eq_getElem?_getD, List.getElem?_eq_getElem hk] at this
          unfold rsP; dsimp only [Option.getD_some] at this ⊢; omega
        have h3 : ((R.take j).map rsP).length ≤ 1000 := by rw [List.length_map, List.length_take]; omega
        omega
      generalize hx : R.getD j dR = x at *
      have hput := mput_E (k := rkey x) (c := x.2.2.2) (em := putL G ((R.take j).map rsP))
      have hget := mget_E (k := rkey x) (em := putL G ((R.take j).map rsP))
      have hb := hsum (rkey x)
      have hstep' : putL G ((R.take (j + 1)).map rsP) = addE (putL G ((R.take j).map rsP)) (rkey x) x.2.2.2 := hstep
      rw [← hstep'] at hput
      generalize putL G ((R.take (j + 1)).map rsP) = em2 at *
      generalize putL G ((R.take j).map rsP) = em1 at *
      unfold parO inM at x1
      have w1 : IntKind.i64.wrap (sumO em1 (rkey x) + x.2.2.2) = sumO em1 (rkey x) + x.2.2.2 := wrap64 (by omega) (by omega)
      have r1 : (-9223372036854775808 ≤ x.1 ∧ x.1 ≤ 9223372036854775807) := by omega
      have r2 : (-9223372036854775808 ≤ x.2.1 ∧ x.2.1 ≤ 9223372036854775807) := by omega
      have r3 : (-9223372036854775808 ≤ x.2.2.1 ∧ x.2.2.1 ≤ 9223372036854775807) := by omega
      have hget' : (mget (em1.map encE3) (.agg [I x.1, I x.2.1, I x.2.2.1])).getD (I 0) = I (sumO em1 (rkey x)) := hget
      have hmp' : mput (em1.map encE3) (.agg [I x.1, I x.2.1, I x.2.2.1]) (I (sumO em1 (rkey x) + x.2.2.2)) = em2.map encE3 := hput
      have d1 : ¬ x.2.2.2 < 1 := by omega
      have d2 : ¬ 999 < x.2.2.2 := by omega
      simp +contextual (maxSteps := 4000000) only [↓ur_skip, ↓ur_seq, ↓ur_block, ↓ur_region, ↓ur_cond, ↓cont_seq, ↓cont_blk, ↓cont_lp, ↓ops_consN, ↓ops_guardN, nY_move, nY_pick, nY_alloc, nY_build, nY_load, nY_store, nY_binOp, nilO_tmp, nilO_int, nY_fieldAddr, nY_indexAddr, nY_lookup, nY_mapEntry, nY_entryStore, nY_extract, ↓ops_nil, opsIf_some, opsIf_none, condC_true, condC_false, guardC_ff, Option.map_some, Option.bind_some, Option.getD_some, Nat.reduceLT, Bool.false_eq_true, ↓upd_same, ↓upd_ne, Nat.reduceBEq, true_and, and_true, List.getElem?_toArray, List.getElem?_cons_zero, List.getElem?_cons_succ, cfg_P, cfg_frz, cfg_num, numOf_eq, List.length_map, ↓havoc_in, ↓havoc_out, agree_upd, agree_havoc, List.contains_cons, List.contains_nil, Bool.or_false, Bool.or_true, Int.natCast_nonneg, Int.ofNat_lt, Int.toNat_natCast, decide_true, decide_false, List.cons_append, List.nil_append, List.append_nil, updO_same, updO_ne, List.length_cons, List.length_nil, Nat.zero_add, Nat.add_zero, List.drop_zero, List.take_zero, Nat.reduceAdd, List.set_cons_zero, Nat.reduceLeDiff, nth_zero, Nat.lt_succ_self, Bool.not_false, not_false_eq_true, Nat.le_refl, cells_int, cells_agg, ↓ev_tmp, ↓ev_int, ↓guardP_eq, grd_some, ↓iop_move, ↓pick3_bool, ↓iop_pick, ↓iop_alloc, ↓iop_build, ↓iop_load, ↓iop_store, ↓iop_binOp, ↓iop_fieldAddr, ↓iop_indexAddr, idxA_int, ↓iop_extract, extr_tuple, ↓iop_mapEntry, ↓iop_entryStore, ↓iop_lookup, mapSlot_mref, mapStore_mref, mset_eq, mapGet_mref, mapLk_ff, mapB_some, pickP_f, pickP_t, loadP_vptr, loadP_ptr, setCells_agg, storeP_ptr, fieldP_ptr, indexP_lits, b_add, b_lss, b_gtr, fill_nil, fill_cons, fill1_some, buildP_eq, bldA_none, splice_eq, Store.new, Store.set, ↓reduceIte, arr_eq, arrB_some, beq_eq_false_iff_ne, ne_eq, List.take_succ_cons, List.drop_succ_cons, List.drop_nil, List.take_nil, ↓evp_cons, ↓evp_nil, beq_self_eq_true, see_eq, nth_psts, pur_psts, nth_tars, pur_tars, nth_snds, pur_snds, nth_uses, pur_uses, nth_rsts, pur_rsts, nth_lnks, pur_lnks, Try.f4, ty3, ty22, ty50, ty52, ty56, h174, hjl, hx, p4, q4, a0, a1, a2, a3, e0, e1, d1, d2, keyIs_k3, r1, r2, r3, hget', hmp', w1, hwj, mset_eq]
      omega
    have e : j = R.length := by omega
    subst e
    rw [List.take_length] at q4
    generalize putL G (R.map rsP) = F at *
    have kr : ∀ q : Key, inR t.length q → (-9223372036854775808 ≤ q.1 ∧ q.1 ≤ 9223372036854775807) ∧ (-9223372036854775808 ≤ q.2.1 ∧ q.2.1 ≤ 9223372036854775807) ∧ (-9223372036854775808 ≤ q.2.2 ∧ q.2.2 ≤ 9223372036854775807) := fun q h => by
      unfold inR at h; omega
    simp +contextual (maxSteps := 4000000) only [↓ur_seq, ↓ur_block, ↓ur_exit, ↓ur_region, ↓ur_cond, ↓cont_seq, ↓leave_seq, ↓leave_blk, ↓leave_lp, ↓ops_consN, nY_move, nY_binOp, nilO_tmp, nY_range, ↓ops_nil, opsIf_some, condC_false, Option.map_some, Option.bind_some, Nat.reduceLT, ↓upd_same, ↓upd_ne, Nat.reduceBEq, true_and, cfg_P, List.length_map, ↓havoc_in, ↓havoc_out, List.contains_cons, List.contains_nil, Bool.or_false, Bool.or_true, Int.ofNat_lt, decide_false, Nat.lt_irrefl, Bool.not_false, ↓ev_tmp, ↓iop_move, ↓iop_binOp, ↓iop_range, mapRange_mref, mapB_some, b_lss, Store.new, ↓reduceIte, beq_self_eq_true, nth_psts, pur_psts, nth_tars, pur_tars, nth_snds, pur_snds, nth_uses, pur_uses, nth_rsts, pur_rsts, nth_lnks, pur_lnks, Try.f4, ty50, h174, p4]
    refine loop_cnt [8, 30, 31, 203, 204, 205, 206, 207, 208, 209, 210, 211, 212] W.length (fun i ρ st' => ∃ seen w, seen.length = i ∧ SeenE W seen w ∧ st'.obj 0 = some (.map 0 (.ints 3) (W.map encE3)) ∧ st'.obj M2 = some (.map 0 (.ints 3) (F.map encE3)) ∧ st'.obj M4 = some (.it (some (0, 0)) W.length seen) ∧ M4 < st'.next) (.refl _) ?_ ?_
    · refine ⟨[], [], rfl, ⟨List.nodup_nil, by simp, rfl⟩, ?_⟩
      simp +contextual (maxSteps := 4000000) only [and_true, updO_same, updO_ne, Nat.lt_succ_self, not_false_eq_true, beq_eq_false_iff_ne, ne_eq, nth_psts, pur_psts, nth_tars, pur_tars, nth_snds, pur_snds, nth_uses, pur_uses, nth_rsts, pur_rsts, nth_lnks, pur_lnks, Try.f4, p4, q4, a0, a1, a2, a3]
    rintro i ρ5 ⟨ob5, M5⟩ hi ⟨seen, w, hseen, hsa, p5, q5, hI, hM5⟩
    dsimp only at p5 q5 hI hM5
    simp only [ur_block, ur_seq, ur_region, ops_consI]
    conv => arg 2; simp +contextual (maxSteps := 4000000) only [↓ur_skip, ↓ur_seq, ↓ur_block, ↓ur_exit, ↓ur_ret, ↓ur_region, ↓ur_cond, ur_range, Nat.one_ne_zero, ↓run_skip, ↓run_exit, ↓run_ret, ↓run_cond, ↓cont_nil, ↓cont_seq, ↓cont_blk, ↓cont_lp, ↓leave_seq, ↓leave_blk, ↓leave_lp, ↓done_nil, ↓done_seq, ↓done_blk, ↓done_lp, ↓run_seq, ↓run_region, ↓run_block, ↓ops_consL, ↓ops_consN, ↓ops_guardN, ↓leave_nil, ↓setps_cons, ↓setps_nil, rndX_cfg, ↓ops_consVc, ↓ops_guardVc, ↓opsV_func, ↓opsV_yield, nY_move, nY_assign, nY_pick, nY_alloc, nY_box, nY_build, nY_buildSlice, nY_insert, nY_load, nY_store, nY_nilCheck, nY_binOp, nilO_tmp, nilO_int, nilO_bool, nilO_str, nilO_ptr, nilO_iface, nilC_nils, nilC_cons, nilC_nil, nilC_nil', bn_eql, bn_neq, bnn_eql, bnn_neq, Nat.reduceBNe, nY_unOp, nY_convert, nY_makeInterface, nY_makeFunc, nY_makeMap, nY_makeSlice, nY_slice, nY_fieldAddr, nY_field, nY_indexAddr, nY_index, nY_lookup, nY_mapUpdate, nY_mapEntry, nY_entryStore, nY_range, nY_entry, nY_typeAssert, nY_extract, nY_panic, nY_callf, nY_callb, nY_callt, isNone_none, cfg_yl, ↓ops_nil, opsIf_some, opsIf_none, opsIf_if, opsIf_if', map_if, bind_if, condC_true, condC_false, guardC_u, guardC_tt, guardC_tf, guardC_ft, guardC_ff, Option.map_some, Option.map_none, Option.bind_some, Option.bind_none, Option.getD_some, Option.getD_none, Nat.reduceLT, Bool.false_eq_true, ↓upd_same, ↓upd_ne, Nat.reduceBEq, true_and, and_true, List.getD_cons_zero, List.getD_cons_succ, List.getElem?_toArray, List.getElem?_cons_zero, List.getElem?_cons_succ, endQ, decide_eq_true_eq, decide_eq_false_iff_not, true_implies, forall_const, not_dec, cfg_P, cfg_tab, cfg_muts, cfg_frz, cfg_num, numOf_nil, numOf_eq, List.map_cons, List.map_nil, List.length_map, ↓havoc_in, ↓havoc_out, agree_upd, agree_havoc, agree_self, List.contains_cons, List.contains_nil, Bool.or_false, Bool.or_true, Bool.false_or, Bool.true_or, Int.natCast_nonneg, Int.ofNat_lt, Int.toNat_natCast, nth_int, nth_str, decide_true, decide_false, Option.some.injEq, exists_eq_left', PV.int.injEq, PV.bool.injEq, PV.str.injEq, PV.lits.injEq, PV.tuple.injEq, PV.agg.injEq, List.cons.injEq, List.lookup_cons, List.lookup_nil, tabOf_cons, tab_v, tab_m, tab_a, tab_s, tab_x, sortT_ref, sortT_nils, pur_ints, pur_strs, Bool.and_true, Bool.and_self, Bool.true_and, Nat.reduceEqDiff, List.cons_append, List.nil_append, List.append_nil, GS_ref, updO_same, updO_ne, List.length_append, List.length_cons, List.length_nil, Nat.zero_add, Nat.add_zero, List.drop_zero, List.take_length, List.take_zero, Nat.not_succ_le_self, Nat.reduceAdd, List.replicate_succ, List.replicate_zero, List.length_replicate, List.set_cons_zero, List.set_cons_succ, Nat.reduceMul, Nat.reduceLeDiff, nth_zero, nth_succ, Prod.mk.injEq, IObj.arr.injEq, Nat.lt_irrefl, Nat.lt_succ_self, Bool.not_true, Bool.not_false, reduceCtorEq, not_true_eq_false, not_false_eq_true, false_implies, Int.reduceEq, Int.reduceLT, Int.reduceLE, Int.reduceToNat, take_map_len, or_false, or_true, st0, Nat.le_refl, Classical.not_not, cells_bool, scal1_bool, scal_bool, pur_bool, rdC_bool, rdP_bool, isCell_bool, cells_int, scal1_int, scal_int, pur_int, rdC_int, rdP_int, isCell_int, cells_str, scal1_str, scal_str, pur_str, rdC_str, rdP_str, isCell_str, cells_nilp, scal1_nilp, scal_nilp, pur_nilp, rdC_nilp, rdP_nilp, cells_ptr, cells_vptr, pur_vptr, rdC_vptr, rdP_vptr, cells_nils, scal1_nils, scal_nils, pur_nils, rdC_nils, rdP_nils, isCell_nils, cells_lits, scal1_lits, scal_lits, pur_lits, rdC_lits, rdP_lits, isCell_lits, cells_ref, pur_ref, scal1_ref, rdC_ref, rdP_ref, cells_func, pur_func, rdC_func, rdP_func, cells_nilf, scal1_nilf, scal_nilf, pur_nilf, rdC_nilf, rdP_nilf, isCell_nilf, cells_iface, cells_nili, scal1_nili, scal_nili, pur_nili, rdC_nili, rdP_nili, isCell_nili, cells_agg, scal_agg, pur_agg, rdP_agg, scal_tuple, pur_tuple, cells_nilm, cells_mref, cells_iter, isCell_mref, isCell_iter, setCells_nilm, setCells_mref, scal1_nilm, scal_nilm, pur_nilm, rdC_nilm, rdP_nilm, DRx_int, DRx_bool, DRx_str, DRx_nils_lits, DRx_nils_nils, DRx_lits, DRx_ref, DRx_agg, DRx_tuple, DRxL_cons, DRxL_nil, ↓ev_tmp, ↓ev_int, ↓ev_bool, ↓ev_str, ↓ev_nils, ↓ev_nilp, ↓ev_nilf, ↓ev_nili, ↓ev_agg, ↓ev_func, c0_int, c0_bool, c0_nils, c0_str, ↓guardP_eq, grd_some, ↓iop_move, ↓iop_assign, ↓pick3_bool, ↓pick3_true, ↓pick3_false, ↓iop_pick, ↓iop_alloc, ↓iop_box, ↓iop_build, ↓iop_buildSlice, ↓iop_load, ↓iop_store, ↓iop_nilCheck, nilCk_vptr, nilCk_ptr, ↓iop_binOp, ↓iop_unOp, ↓iop_convert, ↓iop_makeFunc, ↓iop_makeSlice, mkSl_int, mkSl_frz, mkSl_re, ↓iop_slice, intOfP_int, slcP_ff, slcP_tf, slcP_ft, slcP_tt, ↓iop_fieldAddr, ↓iop_field, fldV_agg, ↓iop_indexAddr, idxA_int, ↓iop_index, idxV_int, ↓iop_extract, extr_tuple, ↓iop_callv, ↓iop_callb, nrmAll_cons, nrmAll_nil, bi_len, lenM_none, lenM_mref, lenM_nilm, bi_copy, copyP_ref, isStr_ref, isStr_lits, isStr_nils, ↓iop_makeMap, ↓iop_makeMap', ↓iop_insert, ↓iop_mapUpdate, ↓iop_mapEntry, ↓iop_entryStore, ↓iop_lookup, ↓iop_range, ↓iop_entry, mapPut_mref, mapSlot_mref, mapStore_mref, mset_eq, keyIs_ints2, mapGet_mref, mapGet_nilm, mapRange_mref, mapRange_nilm, mapLk_tt, mapLk_ff, mapB_some, keyIs_int, keyIs_str, keyIs_bool, bi_append, bi_append_re, appGuard_lits, appGuard_nils, re_arr, bi_min, bi_max, nrm_agg, nrmL_cons, nrmL_nil, nrm_nils, nrm1_some, nrm1_none, nrm_no, nrm_int, nrm_str, nrm_bool, nrm_lits, nrm_ref, nrm_func, nrm_vptr, nrm_ptr, nrm1_int, nrm1_str, nrm1_bool, nrm1_lits, nrm1_ref, pickP_f, pickP_t, loadP_vptr, loadP_ptr, setCells_agg, setCells_int, setCells_bool, setCells_nils, setCells_ref, storeP_ptr, fieldP_vptr, fieldP_ptr, indexP_lits, indexP_ref, indexP_vptr, indexP_ptr, indexV_str, indexV_agg, lenP_nils, lenP_lits, lenP_ref, lenP_str, elemsP_nils, elemsP_lits, elemsP_ref, elemsP_str, sliceP_nils, sliceP_lits, sliceP_ref, sliceP_str, sliceP_vptr, fixP_ptr, appendP_nils, appendP_ref, b_add, b_sub, b_mul, b_quo, b_rem, b_and, b_or, b_xor, b_andNot, b_eql, b_neq, b_lss, b_leq, b_gtr, b_geq, b_shl, b_shr, bs_add, bs_eql, bs_neq, bs_lss, bs_leq, bs_gtr, bs_geq, u_neg, u_not, cv_int, cv_str, fill_nil, fill_cons, fill1_some, buildP_eq, bldA_none, bldA_some, bel_nil, bel_cons, splice_eq, env0_eq, ires_eq, iresL_1, iresL_2, iresAll_nil, iresAll_cons, iresOne_tmp, iresOne_cell, frzP_eq, frzQ_eq, frzL_eq, again_eq, seal_obj, seal_next, againO_arr, sealO_arr, sealE_agg, sealE_int, sealC_int, sealC_bool, sealC_lits, sealC_nils, sealC_ref, rdAll_cons, rdAll_nil, rdL_cons, rdL_nil, valT_eq, pursL_cons, pursL_nil, Store.new, Store.set, ↓reduceIte, Int.natCast_eq_zero, arr_eq, arrB_some, callP_eq, tsOf_eq, boxP_eq, bslP_eq, beq_eq_false_iff_ne, ne_eq, Nat.reduceBeqDiff, set_int, opsIf_ite, Int.natCast_inj, List.take_succ_cons, List.drop_succ_cons, List.drop_nil, List.take_nil, guardC_td, guardC_fd, condC_d, bb_eql', bb_neq', ↓evs_cons, ↓evs_nil, ↓evp_cons, ↓evp_nil, implies_true, Int.natCast_zero, only_obj, only_next, without_obj, without_next, idsOf_cons, idsOf_nil, idC_ref, idC_int, idC_bool, idC_str, idC_nils, idC_lits, idC_agg, idL_cons, idL_nil, idE_ref, idE_int, idE_bool, idE_str, idE_nils, idE_lits, Int.le_refl, Int.natCast_pos, beq_self_eq_true, beq_iff_eq, List.all_cons, List.all_nil, see_eq, past_eq, false_and, and_false, Bool.true_eq_false, Int.reduceAdd, bits_i64, bits_u64, bits_u32, bits_u8, or_i64, Nat.min_def, Int.reducePow, Int.cast_ofNat_Int, e_sanity, s_sanity, e_few, s_few, e_mchk, s_mchk, e_charge, s_charge, e_period, s_period, nth_psts, pur_psts, nth_tars, pur_tars, nth_snds, pur_snds, nth_uses, pur_uses, nth_rsts, pur_rsts, nth_lnks, pur_lnks, Try.f4, ty3, ty4, ty5, ty22, ty23, ty24, ty26, ty27, ty30, ty32, ty34, ty40, ty49, ty50, ty52, ty54, ty56, ty80, ty81, ty84, ty86]
    rw [mapNext_eq hI p5]
    refine ⟨by simp, fun hsl => ?_, fun j k v' hjk hns => ?_⟩
    case refine_2 =>
      obtain ⟨hjl, rfl, rfl⟩ := entE hWnd hjk
      have hnx := seenE_next hsa hjl hns
      have hilt : i < W.length := by
        have := nodup_le W.length (seen ++ [j]) hnx.1 hnx.2.1
        simp at this; omega
      have hkm : (W.getD j dE).1 ∈ keysE W := List.mem_map.2 ⟨_, at_mem' hjl, rfl⟩
      obtain ⟨r1, r2, r3⟩ := kr _ (hWk _ hkm)
      have hent := mapEntry_eq (st := ⟨updO ob5 M4 (some (.it (some (0, 0)) W.length (seen ++ [j]))), M5⟩) (id := M4) (m := 0) (g := 0) (n := W.length) (seen := seen) (i := j) (mk := .ints 3) (es := W.map encE3) (k := keyV (W.getD j dE).1) (v := I (sumO W (W.getD j dE).1)) (by simp [updO]) (by simp [updO, a0, p5]) (by simp) hjk
      generalize hyk : (W.getD j dE).1 = y at *
      have hget := mget_E (k := y) (em := F)
      rw [hfin y] at hget
      have b0 : ¬ 0 = M5 := by omega
      have b1 : ¬ M5 = 0 := by omega
      have b2 : ¬ M2 = M5 := by omega
      have b3 : ¬ M5 = M2 := by omega
      have b4 : ¬ M4 = M5 := by omega
      have b5 : ¬ M5 = M4 := by omega
      simp +contextual (maxSteps := 4000000) only [↓ur_skip, ↓ur_seq, ↓ur_block, ↓ur_region, ↓ur_cond, ↓cont_seq, ↓cont_blk, ↓cont_lp, ↓ops_consN, nY_move, nY_assign, nY_alloc, nY_load, nY_store, nY_binOp, nilO_tmp, nY_lookup, nY_entry, nY_extract, ↓ops_nil, opsIf_some, opsIf_none, condC_true, condC_false, Option.map_some, Option.bind_some, Option.getD_some, Nat.reduceLT, Bool.false_eq_true, ↓upd_same, ↓upd_ne, Nat.reduceBEq, true_and, and_true, List.getElem?_cons_zero, List.getElem?_cons_succ, cfg_P, cfg_frz, cfg_num, numOf_eq, ↓havoc_out, agree_upd, agree_havoc, List.contains_cons, List.contains_nil, Bool.or_false, Bool.or_true, decide_true, decide_false, Option.some.injEq, List.nil_append, List.append_nil, updO_same, updO_ne, List.length_cons, List.length_nil, Nat.zero_add, List.drop_zero, List.take_zero, Nat.reduceAdd, List.set_cons_zero, nth_zero, Nat.lt_succ_self, Bool.not_false, not_true_eq_false, not_false_eq_true, Nat.le_refl, cells_agg, ↓ev_tmp, ↓iop_move, ↓iop_assign, ↓iop_alloc, ↓iop_load, ↓iop_store, ↓iop_binOp, ↓iop_extract, extr_tuple, ↓iop_lookup, ↓iop_entry, mapGet_mref, mapLk_ff, mapB_some, pickP_t, loadP_ptr, setCells_agg, storeP_ptr, b_neq, splice_eq, Store.new, Store.set, ↓reduceIte, arr_eq, arrB_some, beq_eq_false_iff_ne, ne_eq, List.take_succ_cons, List.drop_succ_cons, List.drop_nil, List.take_nil, beq_self_eq_true, see_eq, nth_psts, pur_psts, nth_tars, pur_tars, nth_snds, pur_snds, nth_uses, pur_uses, nth_rsts, pur_rsts, nth_lnks, pur_lnks, Try.f4, ty50, ty52, p5, q5, hI, a0, a1, a2, a3, b0, b1, b2, b3, b4, b5, hent, keyIs_k3, r1, r2, r3, hget]
      exact ⟨hilt, seen ++ [j], w ++ [y], by simp [hseen], hnx, rfl, by omega⟩
    simp +contextual (maxSteps := 4000000) only [↓ur_seq, ↓ur_block, ↓ur_exit, ↓ur_region, ↓ur_cond, ↓cont_seq, ↓leave_seq, ↓leave_blk, ↓leave_lp, ↓ops_consN, nY_move, nY_range, nY_extract, ↓ops_nil, opsIf_some, condC_false, Option.map_some, Option.bind_some, Nat.reduceLT, ↓upd_same, ↓upd_ne, Nat.reduceBEq, true_and, List.getElem?_cons_zero, cfg_P, List.length_map, ↓havoc_out, List.contains_cons, List.contains_nil, Bool.or_false, ↓ev_tmp, ↓iop_move, ↓iop_extract, extr_tuple, ↓iop_range, mapRange_mref, mapB_some, Store.new, ↓reduceIte, nth_psts, pur_psts, nth_tars, pur_tars, nth_snds, pur_snds, nth_uses, pur_uses, nth_rsts, pur_rsts, nth_lnks, pur_lnks, Try.f4, ty50, p5, q5, hI]
    have z0 : ¬ 0 = M5 := by omega
    have z1 : ¬ M2 = M5 := by omega
    have z2 : ¬ M5 = 0 := by omega
    have z3 : ¬ M5 = M2 := by omega
    refine loop_cnt [8, 32, 33, 215, 216, 217, 218, 219, 220, 221, 222, 223, 224] F.length (fun i ρ st' => ∃ seen w, seen.length = i ∧ SeenE F seen w ∧ st'.obj 0 = some (.map 0 (.ints 3) (W.map encE3)) ∧ st'.obj M2 = some (.map 0 (.ints 3) (F.map encE3)) ∧ st'.obj M5 = some (.it (some (M2, 0)) F.length seen) ∧ M5 < st'.next) (.refl _) ?_ ?_
    · refine ⟨[], [], rfl, ⟨List.nodup_nil, by simp, rfl⟩, ?_⟩
      simp +contextual (maxSteps := 4000000) only [and_true, updO_same, updO_ne, Nat.lt_succ_self, not_false_eq_true, beq_eq_false_iff_ne, ne_eq, nth_psts, pur_psts, nth_tars, pur_tars, nth_snds, pur_snds, nth_uses, pur_uses, nth_rsts, pur_rsts, nth_lnks, pur_lnks, Try.f4, p5, q5, z0, z1, z2, z3]
    rintro i2 ρ6 ⟨ob6, M6⟩ hi2 ⟨seen2, w2, hseen2, hsa2, p6, q6, hI2, hM6⟩
    dsimp only at p6 q6 hI2 hM6
    simp only [ur_block, ur_seq, ur_region, ops_consI]
    conv => arg 2; simp +contextual (maxSteps := 4000000) only [↓ur_skip, ↓ur_seq, ↓ur_block, ↓ur_exit, ↓ur_ret, ↓ur_region, ↓ur_cond, ur_range, Nat.one_ne_zero, ↓run_skip, ↓run_exit, ↓run_ret, ↓run_cond, ↓cont_nil, ↓cont_seq, ↓cont_blk, ↓cont_lp, ↓leave_seq, ↓leave_blk, ↓leave_lp, ↓done_nil, ↓done_seq, ↓done_blk, ↓done_lp, ↓run_seq, ↓run_region, ↓run_block, ↓ops_consL, ↓ops_consN, ↓ops_guardN, ↓leave_nil, ↓setps_cons, ↓setps_nil, rndX_cfg, ↓ops_consVc, ↓ops_guardVc, ↓opsV_func, ↓opsV_yield, nY_move, nY_assign, nY_pick, nY_alloc, nY_box, nY_build, nY_buildSlice, nY_insert, nY_load, nY_store, nY_nilCheck, nY_binOp, nilO_tmp, nilO_int, nilO_bool, nilO_str, nilO_ptr, nilO_iface, nilC_nils, nilC_cons, nilC_nil, nilC_nil', bn_eql, bn_neq, bnn_eql, bnn_neq, Nat.reduceBNe, nY_unOp, nY_convert, nY_makeInterface, nY_makeFunc, nY_makeMap, nY_makeSlice, nY_slice, nY_fieldAddr, nY_field, nY_indexAddr, nY_index, nY_lookup, nY_mapUpdate, nY_mapEntry, nY_entryStore, nY_range, nY_entry, nY_typeAssert, nY_extract, nY_panic, nY_callf, nY_callb, nY_callt, isNone_none, cfg_yl, ↓ops_nil, opsIf_some, opsIf_none, opsIf_if, opsIf_if', map_if, bind_if, condC_true, condC_false, guardC_u, guardC_tt, guardC_tf, guardC_ft, guardC_ff, Option.map_some, Option.map_none, Option.bind_some, Option.bind_none, Option.getD_some, Option.getD_none, Nat.reduceLT, Bool.false_eq_true, ↓upd_same, ↓upd_ne, Nat.reduceBEq, true_and, and_true, List.getD_cons_zero, List.getD_cons_succ, List.getElem?_toArray, List.getElem?_cons_zero, List.getElem?_cons_succ, endQ, decide_eq_true_eq, decide_eq_false_iff_not, true_implies, forall_const, not_dec, cfg_P, cfg_tab, cfg_muts, cfg_frz, cfg_num, numOf_nil, numOf_eq, List.map_cons, List.map_nil, List.length_map, ↓havoc_in, ↓havoc_out, agree_upd, agree_havoc, agree_self, List.contains_cons, List.contains_nil, Bool.or_false, Bool.or_true, Bool.false_or, Bool.true_or, Int.natCast_nonneg, Int.ofNat_lt, Int.toNat_natCast, nth_int, nth_str, decide_true, decide_false, Option.some.injEq, exists_eq_left', PV.int.injEq, PV.bool.injEq, PV.str.injEq, PV.lits.injEq, PV.tuple.injEq, PV.agg.injEq, List.cons.injEq, List.lookup_cons, List.lookup_nil, tabOf_cons, tab_v, tab_m, tab_a, tab_s, tab_x, sortT_ref, sortT_nils, pur_ints, pur_strs, Bool.and_true, Bool.and_self, Bool.true_and, Nat.reduceEqDiff, List.cons_append, List.nil_append, List.append_nil, GS_ref, updO_same, updO_ne, List.length_append, List.length_cons, List.length_nil, Nat.zero_add, Nat.add_zero, List.drop_zero, List.take_length, List.take_zero, Nat.not_succ_le_self, Nat.reduceAdd, List.replicate_succ, List.replicate_zero, List.length_replicate, List.set_cons_zero, List.set_cons_succ, Nat.reduceMul, Nat.reduceLeDiff, nth_zero, nth_succ, Prod.mk.injEq, IObj.arr.injEq, Nat.lt_irrefl, Nat.lt_succ_self, Bool.not_true, Bool.not_false, reduceCtorEq, not_true_eq_false, not_false_eq_true, false_implies, Int.reduceEq, Int.reduceLT, Int.reduceLE, Int.reduceToNat, take_map_len, or_false, or_true, st0, Nat.le_refl, Classical.not_not, cells_bool, scal1_bool, scal_bool, pur_bool, rdC_bool, rdP_bool, isCell_bool, cells_int, scal1_int, scal_int, pur_int, rdC_int, rdP_int, isCell_int, cells_str, scal1_str, scal_str, pur_str, rdC_str, rdP_str, isCell_str, cells_nilp, scal1_nilp, scal_nilp, pur_nilp, rdC_nilp, rdP_nilp, cells_ptr, cells_vptr, pur_vptr, rdC_vptr, rdP_vptr, cells_nils, scal1_nils, scal_nils, pur_nils, rdC_nils, rdP_nils, isCell_nils, cells_lits, scal1_lits, scal_lits, pur_lits, rdC_lits, rdP_lits, isCell_lits, cells_ref, pur_ref, scal1_ref, rdC_ref, rdP_ref, cells_func, pur_func, rdC_func, rdP_func, cells_nilf, scal1_nilf, scal_nilf, pur_nilf, rdC_nilf, rdP_nilf, isCell_nilf, cells_iface, cells_nili, scal1_nili, scal_nili, pur_nili, rdC_nili, rdP_nili, isCell_nili, cells_agg, scal_agg, pur_agg, rdP_agg, scal_tuple, pur_tuple, cells_nilm, cells_mref, cells_iter, isCell_mref, isCell_iter, setCells_nilm, setCells_mref, scal1_nilm, scal_nilm, pur_nilm, rdC_nilm, rdP_nilm, DRx_int, DRx_bool, DRx_str, DRx_nils_lits, DRx_nils_nils, DRx_lits, DRx_ref, DRx_agg, DRx_tuple, DRxL_cons, DRxL_nil, ↓ev_tmp, ↓ev_int, ↓ev_bool, ↓ev_str, ↓ev_nils, ↓ev_nilp, ↓ev_nilf, ↓ev_nili, ↓ev_agg, ↓ev_func, c0_int, c0_bool, c0_nils, c0_str, ↓guardP_eq, grd_some, ↓iop_move, ↓iop_assign, ↓pick3_bool, ↓pick3_true, ↓pick3_false, ↓iop_pick, ↓iop_alloc, ↓iop_box, ↓iop_build, ↓iop_buildSlice, ↓iop_load, ↓iop_store, ↓iop_nilCheck, nilCk_vptr, nilCk_ptr, ↓iop_binOp, ↓iop_unOp, ↓iop_convert, ↓iop_makeFunc, ↓iop_makeSlice, mkSl_int, mkSl_frz, mkSl_re, ↓iop_slice, intOfP_int, slcP_ff, slcP_tf, slcP_ft, slcP_tt, ↓iop_fieldAddr, ↓iop_field, fldV_agg, ↓iop_indexAddr, idxA_int, ↓iop_index, idxV_int, ↓iop_extract, extr_tuple, ↓iop_callv, ↓iop_callb, nrmAll_cons, nrmAll_nil, bi_len, lenM_none, lenM_mref, lenM_nilm, bi_copy, copyP_ref, isStr_ref, isStr_lits, isStr_nils, ↓iop_makeMap, ↓iop_makeMap', ↓iop_insert, ↓iop_mapUpdate, ↓iop_mapEntry, ↓iop_entryStore, ↓iop_lookup, ↓iop_range, ↓iop_entry, mapPut_mref, mapSlot_mref, mapStore_mref, mset_eq, keyIs_ints2, mapGet_mref, mapGet_nilm, mapRange_mref, mapRange_nilm, mapLk_tt, mapLk_ff, mapB_some, keyIs_int, keyIs_str, keyIs_bool, bi_append, bi_append_re, appGuard_lits, appGuard_nils, re_arr, bi_min, bi_max, nrm_agg, nrmL_cons, nrmL_nil, nrm_nils, nrm1_some, nrm1_none, nrm_no, nrm_int, nrm_str, nrm_bool, nrm_lits, nrm_ref, nrm_func, nrm_vptr, nrm_ptr, nrm1_int, nrm1_str, nrm1_bool, nrm1_lits, nrm1_ref, pickP_f, pickP_t, loadP_vptr, loadP_ptr, setCells_agg, setCells_int, setCells_bool, setCells_nils, setCells_ref, storeP_ptr, fieldP_vptr, fieldP_ptr, indexP_lits, indexP_ref, indexP_vptr, indexP_ptr, indexV_str, indexV_agg, lenP_nils, lenP_lits, lenP_ref, lenP_str, elemsP_nils, elemsP_lits, elemsP_ref, elemsP_str, sliceP_nils, sliceP_lits, sliceP_ref, sliceP_str, sliceP_vptr, fixP_ptr, appendP_nils, appendP_ref, b_add, b_sub, b_mul, b_quo, b_rem, b_and, b_or, b_xor, b_andNot, b_eql, b_neq, b_lss, b_leq, b_gtr, b_geq, b_shl, b_shr, bs_add, bs_eql, bs_neq, bs_lss, bs_leq, bs_gtr, bs_geq, u_neg, u_not, cv_int, cv_str, fill_nil, fill_cons, fill1_some, buildP_eq, bldA_none, bldA_some, bel_nil, bel_cons, splice_eq, env0_eq, ires_eq, iresL_1, iresL_2, iresAll_nil, iresAll_cons, iresOne_tmp, iresOne_cell, frzP_eq, frzQ_eq, frzL_eq, again_eq, seal_obj, seal_next, againO_arr, sealO_arr, sealE_agg, sealE_int, sealC_int, sealC_bool, sealC_lits, sealC_nils, sealC_ref, rdAll_cons, rdAll_nil, rdL_cons, rdL_nil, valT_eq, pursL_cons, pursL_nil, Store.new, Store.set, ↓reduceIte, Int.natCast_eq_zero, arr_eq, arrB_some, callP_eq, tsOf_eq, boxP_eq, bslP_eq, beq_eq_false_iff_ne, ne_eq, Nat.reduceBeqDiff, set_int, opsIf_ite, Int.natCast_inj, List.take_succ_cons, List.drop_succ_cons, List.drop_nil, List.take_nil, guardC_td, guardC_fd, condC_d, bb_eql', bb_neq', ↓evs_cons, ↓evs_nil, ↓evp_cons, ↓evp_nil, implies_true, Int.natCast_zero, only_obj, only_next, without_obj, without_next, idsOf_cons, idsOf_nil, idC_ref, idC_int, idC_bool, idC_str, idC_nils, idC_lits, idC_agg, idL_cons, idL_nil, idE_ref, idE_int, idE_bool, idE_str, idE_nils, idE_lits, Int.le_refl, Int.natCast_pos, beq_self_eq_true, beq_iff_eq, List.all_cons, List.all_nil, see_eq, past_eq, false_and, and_false, Bool.true_eq_false, Int.reduceAdd, bits_i64, bits_u64, bits_u32, bits_u8, or_i64, Nat.min_def, Int.reducePow, Int.cast_ofNat_Int, e_sanity, s_sanity, e_few, s_few, e_mchk, s_mchk, e_charge, s_charge, e_period, s_period, nth_psts, pur_psts, nth_tars, pur_tars, nth_snds, pur_snds, nth_uses, pur_uses, nth_rsts, pur_rsts, nth_lnks, pur_lnks, Try.f4, ty3, ty4, ty5, ty22, ty23, ty24, ty26, ty27, ty30, ty32, ty34, ty40, ty49, ty50, ty52, ty54, ty56, ty80, ty81, ty84, ty86]
    rw [mapNext_eq hI2 q6]
    refine ⟨by simp, fun hsl2 => ?_, fun j k v' hjk hns => ?_⟩
    case refine_2 =>
      obtain ⟨hjl, rfl, rfl⟩ := entE hFnd hjk
      have hnx := seenE_next hsa2 hjl hns
      have hilt : i2 < F.length := by
        have := nodup_le F.length (seen2 ++ [j]) hnx.1 hnx.2.1
        simp at this; omega
      have hkm : (F.getD j dE).1 ∈ keysE F := List.mem_map.2 ⟨_, at_mem' hjl, rfl⟩
      obtain ⟨r1, r2, r3⟩ := kr _ (hFk _ hkm)
      have hent := mapEntry_eq (st := ⟨updO ob6 M5 (some (.it (some (M2, 0)) F.length (seen2 ++ [j]))), M6⟩) (id := M5) (m := M2) (g := 0) (n := F.length) (seen := seen2) (i := j) (mk := .ints 3) (es := F.map encE3) (k := keyV (F.getD j dE).1) (v := I (sumO F (F.getD j dE).1)) (by simp [updO]) (by simp [updO, z1, q6]) (by simp) hjk
      generalize hyk : (F.getD j dE).1 = y at *
      have hget := mget_E (k := y) (em := W)
      rw [← hfin y] at hget
      have b0 : ¬ 0 = M6 := by omega
      have b1 : ¬ M6 = 0 := by omega
      have b2 : ¬ M2 = M6 := by omega
      have b3 : ¬ M6 = M2 := by omega
      have b4 : ¬ M5 = M6 := by omega
      have b5 : ¬ M6 = M5 := by omega
      simp +contextual (maxSteps := 4000000) only [↓ur_skip, ↓ur_seq, ↓ur_block, ↓ur_region, ↓ur_cond, ↓cont_seq, ↓cont_blk, ↓cont_lp, ↓ops_consN, nY_move, nY_assign, nY_alloc, nY_load, nY_store, nY_binOp, nilO_tmp, nY_lookup, nY_entry, nY_extract, ↓ops_nil, opsIf_some, opsIf_none, condC_true, condC_false, Option.map_some, Option.bind_some, Option.getD_some, Nat.reduceLT, Bool.false_eq_true, ↓upd_same, ↓upd_ne, Nat.reduceBEq, true_and, and_true, List.getElem?_cons_zero, List.getElem?_cons_succ, cfg_P, cfg_frz, cfg_num, numOf_eq, ↓havoc_out, agree_upd, agree_havoc, List.contains_cons, List.contains_nil, Bool.or_false, Bool.or_true, decide_true, decide_false, Option.some.injEq, List.nil_append, List.append_nil, updO_same, updO_ne, List.length_cons, List.length_nil, Nat.zero_add, List.drop_zero, List.take_zero, Nat.reduceAdd, List.set_cons_zero, nth_zero, Nat.lt_succ_self, Bool.not_false, not_true_eq_false, not_false_eq_true, Nat.le_refl, cells_agg, ↓ev_tmp, ↓iop_move, ↓iop_assign, ↓iop_alloc, ↓iop_load, ↓iop_store, ↓iop_binOp, ↓iop_extract, extr_tuple, ↓iop_lookup, ↓iop_entry, mapGet_mref, mapLk_ff, mapB_some, pickP_t, loadP_ptr, setCells_agg, storeP_ptr, b_neq, splice_eq, Store.new, Store.set, ↓reduceIte, arr_eq, arrB_some, beq_eq_false_iff_ne, ne_eq, List.take_succ_cons, List.drop_succ_cons, List.drop_nil, List.take_nil, beq_self_eq_true, see_eq, nth_psts, pur_psts, nth_tars, pur_tars, nth_snds, pur_snds, nth_uses, pur_uses, nth_rsts, pur_rsts, nth_lnks, pur_lnks, Try.f4, ty50, ty52, p6, q6, hI2, z0, z1, z2, z3, b0, b1, b2, b3, b4, b5, hent, keyIs_k3, r1, r2, r3, hget]
      exact ⟨hilt, seen2 ++ [j], w2 ++ [y], by simp [hseen2], hnx, rfl, by omega⟩
    simp +contextual (maxSteps := 4000000) only [↓ur_seq, ↓ur_exit, ↓ur_ret, ↓ur_region, ↓ur_cond, ↓cont_seq, ↓leave_seq, ↓leave_blk, ↓leave_lp, ↓done_nil, ↓ops_consN, nY_assign, nY_extract, nY_callf, ↓ops_nil, opsIf_some, condC_false, Option.map_some, Option.bind_some, Option.getD_some, Nat.reduceLT, Bool.false_eq_true, ↓upd_same, Nat.reduceBEq, and_true, List.getElem?_cons_zero, endQ, cfg_P, cfg_tab, cfg_muts, cfg_frz, List.contains_cons, List.contains_nil, Bool.or_false, Option.some.injEq, exists_eq_left', tabOf_cons, tab_v, List.append_nil, Nat.reduceAdd, Nat.lt_succ_self, DRx_bool, ↓ev_tmp, ↓ev_func, ↓iop_assign, ↓iop_extract, extr_tuple, ↓iop_callv, nrmAll_nil, ires_eq, iresL_1, iresAll_nil, iresAll_cons, iresOne_tmp, valT_eq, pursL_nil, ↓reduceIte, callP_eq, tsOf_eq, ↓evs_nil, and_false, Bool.true_eq_false, s_sanity, nth_psts, pur_psts, nth_tars, pur_tars, nth_snds, pur_snds, nth_uses, pur_uses, nth_rsts, pur_rsts, nth_lnks, pur_lnks, Try.f4, p6, q6, hI2]
  -- a period
  have hpi : (p : Int) < 5 := by omega
  have hwp := wrapM (k := p) (by omega)
  have w10 : IntKind.i64.wrap (10 * (p : Int)) = 10 * (p : Int) := wrap64 (by omega) (by omega)
  have hrl := rsN_len (t := t) (hn := hn) (ls := ls) (l := l) (bs := bs) p
  have hnowl := now_sub (l := l) (bs := bs) (p := (p : Int)) l.length (Nat.le_refl _)
  have hper : specOf A_period R_period H_period [rsts (rsN t hn ls l bs p), tars t, .agg [I hn, lnks ls], uses (nowK l bs p l.length), I (10 * (p : Int))] = some (.tuple [psts (psN t hn ls l bs p), rsts (rsN t hn ls l bs (p + 1)), I (erN t hn ls l bs p)]) := by
    rw [s_period, if_pos ⟨by omega, fun u hu => by unfold useP; omega⟩]; rfl
  have hgN : gotN t hn ls l bs (p + 1) = putL (gotN t hn ls l bs p) ((psN t hn ls l bs p).map psP) := rfl
  have hpl := psN_len (t := t) (hn := hn) (ls := ls) (l := l) (bs := bs) (p := p)
  have hpx : ∀ x ∈ psN t hn ls l bs p, x.2.2.2.1 = 10 * (p : Int) ∧ (1 ≤ x.2.2.1 ∧ ¬ 1099511627776 < x.2.2.1) ∧ inR t.length (pkey x) := fun x hx => by
    obtain ⟨g1, g2, q, _, g3, _⟩ := ps_at x hx
    exact ⟨g1, ⟨g2, g3⟩, ps_key (rsN_in hmc hl20 hg p) hx⟩
  have hpart := fun j q => got_part (t := t) (hn := hn) (ls := ls) (l := l) (bs := bs) (j := j) hp5 q (hGle p (by omega) q)
  have htwo := hEtwo p (by omega)
  have her2 : erN t hn ls l bs p = 0 → ∀ j, j < p + 1 → erN t hn ls l bs j = 0 := fun h j hj => by
    by_cases e : j = p
    · subst e; exact h
    · exact her j (by omega)
  rw [hgN]
  generalize rsN t hn ls l bs (p + 1) = R2 at *
  generalize rsN t hn ls l bs p = R1 at *
  generalize psN t hn ls l bs p = P at *
  generalize gotN t hn ls l bs p = G at *
  generalize hE : erN t hn ls l bs p = E at *
  have n1 : ¬ M2 = M3 := by omega
  have n2 : ¬ M3 = M2 := by omega
  have n3 : ¬ 0 = M3 := by omega
  have n4 : ¬ M3 = 0 := by omega
  simp +contextual (maxSteps := 4000000) only [↓ur_skip, ↓ur_seq, ↓ur_block, ↓ur_region, ↓ur_cond, ↓cont_seq, ↓ops_consN, nY_move, nY_assign, nY_binOp, nilO_int, nY_callb, ↓ops_nil, opsIf_some, condC_true, Option.map_some, Option.getD_some, Nat.reduceLT, ↓upd_same, ↓upd_ne, Nat.reduceBEq, true_and, List.getD_cons_zero, List.getD_cons_succ, cfg_P, List.length_map, ↓havoc_in, ↓havoc_out, List.contains_cons, List.contains_nil, Bool.or_false, Bool.or_true, decide_true, Bool.not_false, ↓ev_tmp, ↓ev_int, ↓ev_nils, ↓iop_move, ↓iop_assign, ↓iop_binOp, ↓iop_callb, bi_len, lenM_none, lenP_lits, b_lss, env0_eq, ↓reduceIte, ↓evs_cons, ↓evs_nil, beq_self_eq_true, nth_psts, pur_psts, nth_tars, pur_tars, nth_snds, pur_snds, nth_uses, pur_uses, nth_rsts, pur_rsts, nth_lnks, pur_lnks, Try.f4, ty27, h81, hpi]
  refine loop_cnt [17, 18, 19, 20, 86, 87, 88, 89, 90, 91, 92, 93, 94, 95, 96, 97, 98, 99, 100, 101, 102, 103, 104, 105, 106, 107, 108] l.length (fun k ρ st' => ρ 86 = I k ∧ GS st' (ρ 17) M3 8 ((nowK l bs p k).map useV) ∧ st'.obj 0 = some (.map 0 (.ints 3) (W.map encE3)) ∧ st'.obj M2 = some (.map 0 (.ints 3) (G.map encE3)) ∧ M3 < st'.next) (.slot _ 17 8 ?_ ?_) ?_ ?_
  · simp +contextual (maxSteps := 4000000) only [↓upd_same, ↓upd_ne, Nat.reduceBEq, nth_psts, pur_psts, nth_tars, pur_tars, nth_snds, pur_snds, nth_uses, pur_uses, nth_rsts, pur_rsts, nth_lnks, pur_lnks, Try.f4]
  · decide
  · simp +contextual (maxSteps := 4000000) only [↓upd_same, ↓upd_ne, Nat.reduceBEq, and_true, List.map_nil, GS_ref, updO_same, updO_ne, List.length_nil, Nat.lt_succ_self, not_false_eq_true, Store.new, beq_eq_false_iff_ne, ne_eq, Int.cast_ofNat_Int, nth_psts, pur_psts, nth_tars, pur_tars, nth_snds, pur_snds, nth_uses, pur_uses, nth_rsts, pur_rsts, nth_lnks, pur_lnks, Try.f4, p3, q3, n1, n2, n3, n4, nowK]
  rintro k ρ4 ⟨ob4, M4⟩ hk ⟨h86, ⟨g, h17, v4⟩, p4, q4, hM4⟩
  dsimp only at v4 p4 q4 hM4
  rw [List.length_map] at h17
  have a0 : ¬ 0 = M4 := by omega
  have a1 : ¬ M4 = 0 := by omega
  have a2 : ¬ M2 = M4 := by omega
  have a3 : ¬ M4 = M2 := by omega
  have a4 : ¬ M3 = M4 := by omega
  have a5 : ¬ M4 = M3 := by omega
  by_cases hkl : k < l.length
  · have hwk := wrapM (k := k) (by omega)
    have hnl := (now_sub (l := l) (bs := bs) (p := (p : Int)) k hk).2
    have hk1 : (nowK l bs p k).length + 1 ≤ 2147483648 := by omega
    have htk : List.take (nowK l bs p k).length ((nowK l bs p k).map useV) = (nowK l bs p k).map useV := List.take_of_length_le (by rw [List.length_map]; exact Nat.le_refl _)
    have hyes : mineN bs k = (p : Int) → nowK l bs p (k + 1) = nowK l bs p k ++ [l.getD k dU] := fun h => now_yes h
    have hno : ¬ mineN bs k = (p : Int) → nowK l bs p (k + 1) = nowK l bs p k := fun h => now_no h
    generalize hx : l.getD k dU = u at *
    by_cases d1 : k < bs.length
    · have hmn := mine_lt d1
      have hbb := hbs _ (at_mem' (d := 0) d1)
      generalize hb : bs.getD k 0 = b at *
      have hbt0 := Int.tmod_nonneg 5 hbb.1
      have hbt1 := Int.tmod_lt_of_pos b (show (0 : Int) < 5 by decide)
      have wb : IntKind.i64.wrap b = b := wrap64 (by omega) (by omega)
      rw [hmn] at hyes hno
      by_cases d2 : b.tmod 5 = (p : Int)
      · rw [hyes d2]
        simp +contextual (maxSteps := 4000000) only [↓ur_skip, ↓ur_seq, ↓ur_block, ↓ur_region, ↓ur_cond, ↓cont_seq, ↓cont_blk, ↓cont_lp, ↓ops_consN, nY_move, nY_assign, nY_alloc, nY_buildSlice, nY_load, nY_store, nY_binOp, nilO_tmp, nilO_int, nY_convert, nY_indexAddr, nY_callb, ↓ops_nil, opsIf_some, opsIf_none, condC_true, Option.map_some, Option.bind_some, Option.getD_some, Nat.reduceLT, Bool.false_eq_true, ↓upd_same, ↓upd_ne, Nat.reduceBEq, true_and, and_true, List.getD_cons_zero, List.getD_cons_succ, List.getElem?_cons_zero, cfg_P, cfg_muts, cfg_frz, cfg_num, numOf_eq, List.length_map, ↓havoc_in, ↓havoc_out, agree_upd, agree_havoc, List.contains_cons, List.contains_nil, Bool.or_false, Bool.or_true, Int.natCast_nonneg, Int.ofNat_lt, Int.toNat_natCast, nth_int, decide_true, Option.some.injEq, List.nil_append, List.append_nil, GS_ref, updO_same, updO_ne, List.length_append, List.length_cons, List.length_nil, Nat.zero_add, List.drop_zero, List.take_zero, Nat.not_succ_le_self, Nat.reduceAdd, List.replicate_succ, List.replicate_zero, List.set_cons_zero, Nat.reduceMul, Nat.reduceLeDiff, nth_zero, IObj.arr.injEq, Nat.lt_succ_self, Bool.not_false, reduceCtorEq, not_false_eq_true, Int.reduceEq, or_false, Nat.le_refl, cells_int, cells_agg, ↓ev_tmp, ↓ev_int, ↓iop_move, ↓iop_assign, ↓iop_alloc, ↓iop_buildSlice, ↓iop_load, ↓iop_store, ↓iop_binOp, ↓iop_convert, ↓iop_indexAddr, idxA_int, ↓iop_callb, bi_len, lenM_none, bi_append, pickP_f, pickP_t, loadP_vptr, loadP_ptr, setCells_agg, storeP_ptr, indexP_lits, lenP_lits, elemsP_lits, appendP_ref, b_add, b_rem, b_eql, b_lss, cv_int, bel_nil, bel_cons, splice_eq, env0_eq, Store.new, Store.set, ↓reduceIte, arr_eq, arrB_some, bslP_eq, beq_eq_false_iff_ne, ne_eq, List.take_succ_cons, List.drop_succ_cons, List.drop_nil, List.take_nil, ↓evs_cons, ↓evs_nil, ↓evp_cons, ↓evp_nil, beq_self_eq_true, see_eq, nth_psts, pur_psts, nth_tars, pur_tars, nth_snds, pur_snds, nth_uses, pur_uses, nth_rsts, pur_rsts, nth_lnks, pur_lnks, Try.f4, ty3, ty5, ty27, ty34, ty49, h86, hkl, hx, h17, v4, p4, q4, n1, n2, n3, n4, a0, a1, a2, a3, a4, a5, d1, hb, wb, d2, hk1, htk, hwk]
        exact ⟨by rw [List.map_append]; rfl, by omega⟩
      · rw [hno d2]
        simp +contextual (maxSteps := 4000000) only [↓ur_skip, ↓ur_seq, ↓ur_block, ↓ur_region, ↓ur_cond, ↓cont_seq, ↓cont_blk, ↓cont_lp, ↓ops_consN, nY_move, nY_assign, nY_alloc, nY_load, nY_store, nY_binOp, nilO_tmp, nilO_int, nY_convert, nY_indexAddr, nY_callb, ↓ops_nil, opsIf_some, opsIf_none, condC_true, condC_false, Option.map_some, Option.bind_some, Option.getD_some, Nat.reduceLT, Bool.false_eq_true, ↓upd_same, ↓upd_ne, Nat.reduceBEq, true_and, and_true, List.getD_cons_zero, List.getD_cons_succ, List.getElem?_cons_zero, cfg_P, cfg_frz, cfg_num, numOf_eq, List.length_map, ↓havoc_in, ↓havoc_out, agree_upd, agree_havoc, List.contains_cons, List.contains_nil, Bool.or_false, Bool.or_true, Int.natCast_nonneg, Int.ofNat_lt, Int.toNat_natCast, nth_int, decide_true, decide_false, List.nil_append, List.append_nil, GS_ref, updO_same, updO_ne, List.length_cons, List.length_nil, Nat.zero_add, List.drop_zero, List.take_zero, Nat.reduceAdd, List.set_cons_zero, nth_zero, Nat.lt_succ_self, Bool.not_false, not_false_eq_true, Int.reduceEq, Nat.le_refl, cells_int, cells_agg, ↓ev_tmp, ↓ev_int, ↓iop_move, ↓iop_assign, ↓iop_alloc, ↓iop_load, ↓iop_store, ↓iop_binOp, ↓iop_convert, ↓iop_indexAddr, idxA_int, ↓iop_callb, bi_len, lenM_none, pickP_f, pickP_t, loadP_vptr, setCells_agg, storeP_ptr, indexP_lits, lenP_lits, b_add, b_rem, b_eql, b_lss, cv_int, splice_eq, env0_eq, Store.new, Store.set, ↓reduceIte, arr_eq, arrB_some, beq_eq_false_iff_ne, ne_eq, List.take_succ_cons, List.drop_succ_cons, List.drop_nil, List.take_nil, ↓evs_cons, ↓evs_nil, beq_self_eq_true, see_eq, nth_psts, pur_psts, nth_tars, pur_tars, nth_snds, pur_snds, nth_uses, pur_uses, nth_rsts, pur_rsts, nth_lnks, pur_lnks, Try.f4, ty3, ty5, ty27, ty34, ty49, h86, hkl, hx, h17, v4, p4, q4, n1, n2, n3, n4, a0, a1, a2, a3, a4, a5, d1, hb, wb, d2, hk1, htk, hwk]
        omega
    · have hmn := mine_ge d1
      rw [hmn] at hyes hno
      by_cases d2 : p = 0
      · subst d2
        have hz : ((0 : Nat) : Int) = 0 := rfl
        rw [hyes rfl]
        simp +contextual (maxSteps := 4000000) only [↓ur_skip, ↓ur_seq, ↓ur_block, ↓ur_region, ↓ur_cond, ↓cont_seq, ↓cont_blk, ↓cont_lp, ↓ops_consN, nY_move, nY_assign, nY_alloc, nY_buildSlice, nY_load, nY_store, nY_binOp, nilO_tmp, nilO_int, nY_indexAddr, nY_callb, ↓ops_nil, opsIf_some, opsIf_none, opsIf_if, condC_true, condC_false, Option.map_some, Option.bind_some, Option.getD_some, Nat.reduceLT, Bool.false_eq_true, ↓upd_same, ↓upd_ne, Nat.reduceBEq, true_and, and_true, List.getD_cons_zero, List.getD_cons_succ, forall_const, cfg_P, cfg_muts, cfg_frz, cfg_num, numOf_eq, List.length_map, ↓havoc_in, ↓havoc_out, agree_upd, agree_havoc, List.contains_cons, List.contains_nil, Bool.or_false, Bool.or_true, Int.natCast_nonneg, Int.ofNat_lt, Int.toNat_natCast, decide_true, decide_false, Option.some.injEq, List.nil_append, List.append_nil, GS_ref, updO_same, updO_ne, List.length_append, List.length_cons, List.length_nil, Nat.zero_add, List.drop_zero, List.take_zero, Nat.not_succ_le_self, Nat.reduceAdd, List.replicate_succ, List.replicate_zero, List.set_cons_zero, Nat.reduceMul, Nat.reduceLeDiff, nth_zero, IObj.arr.injEq, Nat.lt_succ_self, Bool.not_false, reduceCtorEq, not_false_eq_true, take_map_len, or_false, Nat.le_refl, cells_agg, ↓ev_tmp, ↓ev_int, ↓iop_move, ↓iop_assign, ↓iop_alloc, ↓iop_buildSlice, ↓iop_load, ↓iop_store, ↓iop_binOp, ↓iop_indexAddr, idxA_int, ↓iop_callb, bi_len, lenM_none, bi_append, pickP_t, loadP_vptr, loadP_ptr, setCells_agg, storeP_ptr, indexP_lits, lenP_lits, elemsP_lits, appendP_ref, b_add, b_eql, b_lss, bel_nil, bel_cons, splice_eq, env0_eq, Store.new, Store.set, ↓reduceIte, arr_eq, arrB_some, bslP_eq, beq_eq_false_iff_ne, ne_eq, List.take_succ_cons, List.drop_succ_cons, List.drop_nil, List.take_nil, ↓evs_cons, ↓evs_nil, ↓evp_cons, ↓evp_nil, beq_self_eq_true, see_eq, Int.cast_ofNat_Int, nth_psts, pur_psts, nth_tars, pur_tars, nth_snds, pur_snds, nth_uses, pur_uses, nth_rsts, pur_rsts, nth_lnks, pur_lnks, Try.f4, ty27, ty34, ty49, h86, hkl, hx, h17, v4, p4, q4, n1, n2, n3, n4, a0, a1, a2, a3, a4, a5, d1, hz, hk1, htk, hwk]
        exact ⟨by have := (now_sub (l := l) (bs := bs) (p := 0) k hk).2; omega, by rw [List.map_append]; rfl, by omega⟩
      · have d2i : ¬ (0 : Int) = (p : Int) := by omega
        rw [hno d2i]
        simp +contextual (maxSteps := 4000000) only [↓ur_skip, ↓ur_seq, ↓ur_block, ↓ur_region, ↓ur_cond, ↓cont_seq, ↓cont_blk, ↓cont_lp, ↓ops_consN, nY_move, nY_assign, nY_alloc, nY_load, nY_store, nY_binOp, nilO_tmp, nilO_int, nY_indexAddr, nY_callb, ↓ops_nil, opsIf_some, opsIf_none, condC_true, condC_false, Option.map_some, Option.bind_some, Option.getD_some, Nat.reduceLT, Bool.false_eq_true, ↓upd_same, ↓upd_ne, Nat.reduceBEq, true_and, and_true, List.getD_cons_zero, List.getD_cons_succ, cfg_P, cfg_frz, cfg_num, numOf_eq, List.length_map, ↓havoc_in, ↓havoc_out, agree_upd, agree_havoc, List.contains_cons, List.contains_nil, Bool.or_false, Bool.or_true, Int.natCast_nonneg, Int.ofNat_lt, Int.toNat_natCast, decide_true, decide_false, List.nil_append, List.append_nil, GS_ref, updO_same, updO_ne, List.length_cons, List.length_nil, Nat.zero_add, List.drop_zero, List.take_zero, Nat.reduceAdd, List.set_cons_zero, nth_zero, Nat.lt_succ_self, Bool.not_false, not_false_eq_true, Nat.le_refl, cells_agg, ↓ev_tmp, ↓ev_int, ↓iop_move, ↓iop_assign, ↓iop_alloc, ↓iop_load, ↓iop_store, ↓iop_binOp, ↓iop_indexAddr, idxA_int, ↓iop_callb, bi_len, lenM_none, pickP_t, loadP_vptr, setCells_agg, storeP_ptr, indexP_lits, lenP_lits, b_add, b_eql, b_lss, splice_eq, env0_eq, Store.new, Store.set, ↓reduceIte, arr_eq, arrB_some, beq_eq_false_iff_ne, ne_eq, List.take_succ_cons, List.drop_succ_cons, List.drop_nil, List.take_nil, ↓evs_cons, ↓evs_nil, beq_self_eq_true, see_eq, nth_psts, pur_psts, nth_tars, pur_tars, nth_snds, pur_snds, nth_uses, pur_uses, nth_rsts, pur_rsts, nth_lnks, pur_lnks, Try.f4, ty27, ty34, ty49, h86, hkl, hx, h17, v4, p4, q4, n1, n2, n3, n4, a0, a1, a2, a3, a4, a5, d1, d2, d2i, hk1, htk, hwk]
        omega
  have e : k = l.length := by omega
  subst e
  have htk : List.take (nowK l bs p l.length).length ((nowK l bs p l.length).map useV) = (nowK l bs p l.length).map useV := List.take_of_length_le (by rw [List.length_map]; exact Nat.le_refl _)
  generalize nowK l bs p l.length = NW at *
  by_cases hE0 : E = 0
  case neg =>
    have hE2 : E = 2 := by omega
    subst hE2
    simp +contextual (maxSteps := 4000000) only [↓ur_seq, ↓ur_exit, ↓ur_ret, ↓ur_region, ↓ur_cond, ↓cont_seq, ↓leave_seq, ↓leave_blk, ↓leave_lp, ↓done_nil, ↓done_seq, ↓done_blk, ↓done_lp, ↓ops_consN, ↓ops_guardN, nY_move, nY_assign, nY_pick, nY_load, nY_binOp, nilO_tmp, nilO_int, nY_extract, nY_callf, ↓ops_nil, opsIf_some, condC_true, condC_false, guardC_tt, Option.map_some, Option.bind_some, Option.getD_some, Nat.reduceLT, Bool.false_eq_true, ↓upd_same, ↓upd_ne, Nat.reduceBEq, and_true, List.getD_cons_zero, List.getElem?_toArray, List.getElem?_cons_zero, List.getElem?_cons_succ, endQ, cfg_P, cfg_tab, cfg_muts, cfg_frz, cfg_num, numOf_eq, List.length_map, ↓havoc_in, ↓havoc_out, List.contains_cons, List.contains_nil, Bool.or_false, Bool.or_true, Int.ofNat_lt, decide_true, decide_false, Option.some.injEq, exists_eq_left', List.lookup_cons, List.lookup_nil, tabOf_cons, tab_v, Bool.and_self, Nat.reduceEqDiff, List.nil_append, List.append_nil, List.length_cons, List.length_nil, Nat.zero_add, List.drop_zero, Nat.reduceAdd, Nat.lt_irrefl, Bool.not_false, not_false_eq_true, Int.reduceEq, Nat.le_refl, pur_int, rdC_int, rdP_int, isCell_int, pur_lits, rdC_lits, rdP_lits, isCell_lits, rdP_ref, pur_agg, rdP_agg, DRx_bool, ↓ev_tmp, ↓ev_int, ↓ev_func, ↓guardP_eq, grd_some, ↓iop_move, ↓iop_assign, ↓pick3_bool, ↓iop_pick, ↓iop_load, ↓iop_binOp, ↓iop_extract, extr_tuple, ↓iop_callv, nrmAll_cons, nrmAll_nil, nrm_agg, nrmL_cons, nrmL_nil, nrm_int, nrm_lits, nrm_ref, nrm1_int, nrm1_lits, pickP_t, loadP_vptr, b_mul, b_eql, b_neq, b_lss, env0_eq, ires_eq, iresL_1, iresAll_nil, iresAll_cons, iresOne_tmp, frzP_eq, rdAll_cons, rdAll_nil, rdL_cons, rdL_nil, valT_eq, pursL_cons, pursL_nil, ↓reduceIte, arr_eq, arrB_some, callP_eq, tsOf_eq, List.take_succ_cons, List.take_nil, ↓evs_cons, ↓evs_nil, only_obj, idsOf_cons, idsOf_nil, idC_ref, idC_int, idC_lits, idC_agg, idL_cons, idL_nil, idE_int, idE_lits, beq_self_eq_true, List.all_cons, List.all_nil, see_eq, and_false, Bool.true_eq_false, s_sanity, nth_psts, pur_psts, nth_tars, pur_tars, nth_snds, pur_snds, nth_uses, pur_uses, nth_rsts, pur_rsts, nth_lnks, pur_lnks, Try.f4, ty3, ty22, ty23, ty26, ty27, h86, h17, v4, p4, q4, h15n, w10, htk, hper]
  subst hE0
  simp +contextual (maxSteps := 4000000) only [↓ur_skip, ↓ur_seq, ↓ur_block, ↓ur_exit, ↓ur_region, ↓ur_cond, ↓cont_seq, ↓leave_seq, ↓leave_blk, ↓leave_lp, ↓ops_consN, nY_move, nY_assign, nY_load, nY_binOp, nilO_tmp, nilO_int, nY_extract, nY_callf, nY_callb, ↓ops_nil, opsIf_some, condC_false, Option.map_some, Option.bind_some, Option.getD_some, Nat.reduceLT, Bool.false_eq_true, ↓upd_same, ↓upd_ne, Nat.reduceBEq, true_and, and_true, List.getD_cons_zero, List.getElem?_cons_zero, List.getElem?_cons_succ, cfg_P, cfg_tab, cfg_frz, cfg_num, numOf_eq, List.length_map, ↓havoc_in, ↓havoc_out, List.contains_cons, List.contains_nil, Bool.or_false, Bool.or_true, Int.ofNat_lt, decide_false, List.lookup_cons, List.lookup_nil, tabOf_cons, tab_v, Bool.and_self, Nat.reduceEqDiff, List.nil_append, List.append_nil, List.length_cons, List.length_nil, Nat.zero_add, List.drop_zero, Nat.reduceAdd, Nat.lt_irrefl, Bool.not_false, not_true_eq_false, Nat.le_refl, pur_int, rdC_int, rdP_int, isCell_int, pur_lits, rdC_lits, rdP_lits, isCell_lits, rdP_ref, pur_agg, rdP_agg, ↓ev_tmp, ↓ev_int, ↓ev_func, ↓iop_move, ↓iop_assign, ↓iop_load, ↓iop_binOp, ↓iop_extract, extr_tuple, ↓iop_callv, ↓iop_callb, nrmAll_cons, nrmAll_nil, bi_len, lenM_none, nrm_agg, nrmL_cons, nrmL_nil, nrm_int, nrm_lits, nrm_ref, nrm1_int, nrm1_lits, pickP_t, loadP_vptr, lenP_lits, b_mul, b_neq, b_lss, env0_eq, frzP_eq, rdAll_cons, rdAll_nil, rdL_cons, rdL_nil, valT_eq, pursL_cons, pursL_nil, ↓reduceIte, arr_eq, arrB_some, callP_eq, tsOf_eq, List.take_succ_cons, List.take_nil, ↓evs_cons, ↓evs_nil, only_obj, idsOf_cons, idsOf_nil, idC_ref, idC_int, idC_lits, idC_agg, idL_cons, idL_nil, idE_int, idE_lits, beq_self_eq_true, List.all_cons, List.all_nil, see_eq, nth_psts, pur_psts, nth_tars, pur_tars, nth_snds, pur_snds, nth_uses, pur_uses, nth_rsts, pur_rsts, nth_lnks, pur_lnks, Try.f4, ty3, ty22, ty23, ty26, ty27, ty40, h86, h17, v4, p4, q4, h15n, w10, htk, hper, n1, n2, n3, n4, a0, a1, a2, a3, a4, a5]
  refine loop_cnt [8, 25, 26, 27, 130, 131, 132, 133, 134, 135, 136, 137, 138, 139, 140, 141, 142, 143, 144, 145, 146, 147, 148, 149, 150, 151, 152, 153, 154, 155, 156, 157, 158, 159, 160, 161, 162, 163, 164, 165, 166, 167, 168, 169, 170] P.length (fun j ρ st' => ρ 130 = I j ∧ st'.obj 0 = some (.map 0 (.ints 3) (W.map encE3)) ∧ st'.obj M2 = some (.map 0 (.ints 3) ((putL G ((P.take j).map psP)).map encE3)) ∧ M2 < st'.next) (.refl _) ?_ ?_
  · simp +contextual (maxSteps := 4000000) only [↓upd_same, true_and, List.map_nil, List.contains_cons, List.contains_nil, Bool.or_false, Option.some.injEq, List.take_zero, ↓reduceIte, without_obj, without_next, beq_iff_eq, Int.cast_ofNat_Int, nth_psts, pur_psts, nth_tars, pur_tars, nth_snds, pur_snds, nth_uses, pur_uses, nth_rsts, pur_rsts, nth_lnks, pur_lnks, Try.f4, p4, q4, n1, n2, n3, n4]
    exact ⟨rfl, by omega⟩
  rintro j ρ5 ⟨ob5, M5⟩ hj ⟨h130, p5, q5, hM5⟩
  dsimp only at p5 q5 hM5
  have b0 : ¬ 0 = M5 := by omega
  have b1 : ¬ M5 = 0 := by omega
  have b2 : ¬ M2 = M5 := by omega
  have b3 : ¬ M5 = M2 := by omega
  have e0 : ¬ 0 = M2 := by omega
  have e1 : ¬ M2 = 0 := by omega
  by_cases hjl : j < P.length
  · have hwj := wrapM (k := j) (by omega)
    obtain ⟨x1, ⟨x2, x3⟩, x4⟩ := hpx _ (at_mem' hjl)
    have hstep : putL G ((P.take (j + 1)).map psP) = addE (putL G ((P.take j).map psP)) (pkey (P.getD j dP)) (1000 * (P.getD j dP).2.2.1) := put_snoc (f := psP) (em := G) hjl
    have hb1 := hpart j (pkey (P.getD j dP))
    generalize hx : P.getD j dP = x at *
    have hput := mput_E (k := pkey x) (c := 1000 * x.2.2.1) (em := putL G ((P.take j).map psP))
    have hget := mget_E (k := pkey x) (em := putL G ((P.take j).map psP))
    rw [← hstep] at hput
    clear hstep
    generalize putL G ((P.take (j + 1)).map psP) = em2 at *
    generalize putL G ((P.take j).map psP) = em1 at *
    have hx0 : ¬ x.2.2.1 < 1 := by omega
    have w1 : IntKind.i64.wrap (1000 * x.2.2.1) = 1000 * x.2.2.1 := wrap64 (by omega) (by omega)
    have w2 : IntKind.i64.wrap (sumO em1 (pkey x) + 1000 * x.2.2.1) = sumO em1 (pkey x) + 1000 * x.2.2.1 := wrap64 (by omega) (by omega)
    unfold inR at x4
    by_cases c5 : x.2.2.2.2.1 = 5
    · have hpk : pkey x = (x.1 - 12, x.2.1, 5) := by unfold pkey; rw [if_pos c5, c5]
      rw [hpk] at x4 hput hget w2
      dsimp only at x4 hput hget
      generalize sumO em1 (x.1 - 12, x.2.1, 5) = s0 at *
      have wd1 : IntKind.i64.wrap (x.1 - 12) = x.1 - 12 := wrap64 (by omega) (by omega)
      have wd2 : IntKind.i64.wrap (x.2.1 - 12) = x.2.1 - 12 := wrap64 (by omega) (by omega)
      have r1 : (-9223372036854775808 ≤ x.1 - 12 ∧ x.1 - 12 ≤ 9223372036854775807) := by omega
      have r2 : (-9223372036854775808 ≤ x.2.1 ∧ x.2.1 ≤ 9223372036854775807) := by omega
      have r3 : ((-9223372036854775808 : Int) ≤ 5 ∧ (5 : Int) ≤ 9223372036854775807) := by omega
      simp +contextual (maxSteps := 4000000) only [↓ur_skip, ↓ur_seq, ↓ur_block, ↓ur_region, ↓ur_cond, ↓cont_seq, ↓cont_blk, ↓cont_lp, ↓ops_consN, ↓ops_guardN, nY_move, nY_assign, nY_pick, nY_alloc, nY_build, nY_load, nY_store, nY_binOp, nilO_tmp, nilO_int, nY_fieldAddr, nY_indexAddr, nY_lookup, nY_mapEntry, nY_entryStore, nY_extract, ↓ops_nil, opsIf_some, opsIf_none, condC_true, condC_false, guardC_ff, Option.map_some, Option.bind_some, Option.getD_some, Nat.reduceLT, Bool.false_eq_true, ↓upd_same, ↓upd_ne, Nat.reduceBEq, true_and, and_true, List.getElem?_toArray, List.getElem?_cons_zero, List.getElem?_cons_succ, cfg_P, cfg_frz, cfg_num, numOf_eq, List.length_map, ↓havoc_in, ↓havoc_out, agree_upd, agree_havoc, List.contains_cons, List.contains_nil, Bool.or_false, Bool.or_true, Int.natCast_nonneg, Int.ofNat_lt, Int.toNat_natCast, decide_true, decide_false, List.cons_append, List.nil_append, List.append_nil, updO_same, updO_ne, List.length_cons, List.length_nil, Nat.zero_add, Nat.add_zero, List.drop_zero, List.take_zero, Nat.reduceAdd, List.set_cons_zero, Nat.reduceLeDiff, nth_zero, Nat.lt_succ_self, Bool.not_false, not_true_eq_false, not_false_eq_true, Nat.le_refl, cells_int, cells_agg, ↓ev_tmp, ↓ev_int, ↓guardP_eq, grd_some, ↓iop_move, ↓iop_assign, ↓pick3_bool, ↓iop_pick, ↓iop_alloc, ↓iop_build, ↓iop_load, ↓iop_store, ↓iop_binOp, ↓iop_fieldAddr, ↓iop_indexAddr, idxA_int, ↓iop_extract, extr_tuple, ↓iop_mapEntry, ↓iop_entryStore, ↓iop_lookup, mapSlot_mref, mapStore_mref, mset_eq, mapGet_mref, mapLk_ff, mapB_some, pickP_f, pickP_t, loadP_vptr, loadP_ptr, setCells_agg, storeP_ptr, fieldP_ptr, indexP_lits, b_add, b_sub, b_mul, b_eql, b_neq, b_lss, fill_nil, fill_cons, fill1_some, buildP_eq, bldA_none, splice_eq, Store.new, Store.set, ↓reduceIte, arr_eq, arrB_some, beq_eq_false_iff_ne, ne_eq, List.take_succ_cons, List.drop_succ_cons, List.drop_nil, List.take_nil, ↓evp_cons, ↓evp_nil, beq_self_eq_true, see_eq, nth_psts, pur_psts, nth_tars, pur_tars, nth_snds, pur_snds, nth_uses, pur_uses, nth_rsts, pur_rsts, nth_lnks, pur_lnks, Try.f4, ty3, ty40, ty50, ty52, ty54, h130, hjl, hx, p5, q5, b0, b1, b2, b3, e0, e1, c5, x1, w10, hx0, wd1, wd2, w1, w2, keyIs_k3, r1, r2, r3, hget, hput, hwj, mset_eq]
      omega
    · have hpk : pkey x = (x.2.1 - 12, x.1, x.2.2.2.2.1) := by unfold pkey; rw [if_neg c5]
      rw [hpk] at x4 hput hget w2
      dsimp only at x4 hput hget
      generalize sumO em1 (x.2.1 - 12, x.1, x.2.2.2.2.1) = s0 at *
      have wd2 : IntKind.i64.wrap (x.2.1 - 12) = x.2.1 - 12 := wrap64 (by omega) (by omega)
      have r1 : (-9223372036854775808 ≤ x.2.1 - 12 ∧ x.2.1 - 12 ≤ 9223372036854775807) := by omega
      have r2 : (-9223372036854775808 ≤ x.1 ∧ x.1 ≤ 9223372036854775807) := by omega
      have r3 : (-9223372036854775808 ≤ x.2.2.2.2.1 ∧ x.2.2.2.2.1 ≤ 9223372036854775807) := by omega
      simp +contextual (maxSteps := 4000000) only [↓ur_skip, ↓ur_seq, ↓ur_block, ↓ur_region, ↓ur_cond, ↓cont_seq, ↓cont_blk, ↓cont_lp, ↓ops_consN, ↓ops_guardN, nY_move, nY_assign, nY_pick, nY_alloc, nY_build, nY_load, nY_store, nY_binOp, nilO_tmp, nilO_int, nY_fieldAddr, nY_indexAddr, nY_lookup, nY_mapEntry, nY_entryStore, nY_extract, ↓ops_nil, opsIf_some, opsIf_none, condC_true, condC_false, guardC_ff, Option.map_some, Option.bind_some, Option.getD_some, Nat.reduceLT, Bool.false_eq_true, ↓upd_same, ↓upd_ne, Nat.reduceBEq, true_and, and_true, List.getElem?_toArray, List.getElem?_cons_zero, List.getElem?_cons_succ, cfg_P, cfg_frz, cfg_num, numOf_eq, List.length_map, ↓havoc_in, ↓havoc_out, agree_upd, agree_havoc, List.contains_cons, List.contains_nil, Bool.or_false, Bool.or_true, Int.natCast_nonneg, Int.ofNat_lt, Int.toNat_natCast, decide_true, decide_false, List.cons_append, List.nil_append, List.append_nil, updO_same, updO_ne, List.length_cons, List.length_nil, Nat.zero_add, Nat.add_zero, List.drop_zero, List.take_zero, Nat.reduceAdd, List.set_cons_zero, Nat.reduceLeDiff, nth_zero, Nat.lt_succ_self, Bool.not_false, not_true_eq_false, not_false_eq_true, Nat.le_refl, cells_int, cells_agg, ↓ev_tmp, ↓ev_int, ↓guardP_eq, grd_some, ↓iop_move, ↓iop_assign, ↓pick3_bool, ↓iop_pick, ↓iop_alloc, ↓iop_build, ↓iop_load, ↓iop_store, ↓iop_binOp, ↓iop_fieldAddr, ↓iop_indexAddr, idxA_int, ↓iop_extract, extr_tuple, ↓iop_mapEntry, ↓iop_entryStore, ↓iop_lookup, mapSlot_mref, mapStore_mref, mset_eq, mapGet_mref, mapLk_ff, mapB_some, pickP_f, pickP_t, loadP_vptr, loadP_ptr, setCells_agg, storeP_ptr, fieldP_ptr, indexP_lits, b_add, b_sub, b_mul, b_eql, b_neq, b_lss, fill_nil, fill_cons, fill1_some, buildP_eq, bldA_none, splice_eq, Store.new, Store.set, ↓reduceIte, arr_eq, arrB_some, beq_eq_false_iff_ne, ne_eq, List.take_succ_cons, List.drop_succ_cons, List.drop_nil, List.take_nil, ↓evp_cons, ↓evp_nil, beq_self_eq_true, see_eq, nth_psts, pur_psts, nth_tars, pur_tars, nth_snds, pur_snds, nth_uses, pur_uses, nth_rsts, pur_rsts, nth_lnks, pur_lnks, Try.f4, ty3, ty40, ty50, ty52, ty54, h130, hjl, hx, p5, q5, b0, b1, b2, b3, e0, e1, c5, x1, w10, hx0, wd2, w1, w2, keyIs_k3, r1, r2, r3, hget, hput, hwj, mset_eq]
      omega
  · have e : j = P.length := by omega
    subst e
    rw [List.take_length] at q5
    simp +contextual (maxSteps := 4000000) only [↓ur_seq, ↓ur_exit, ↓ur_region, ↓ur_cond, ↓cont_seq, ↓cont_blk, ↓cont_lp, ↓leave_seq, ↓leave_blk, ↓leave_lp, ↓ops_consN, nY_move, nY_binOp, nilO_tmp, nilO_int, ↓ops_nil, opsIf_some, condC_false, Option.map_some, Nat.reduceLT, ↓upd_same, ↓upd_ne, Nat.reduceBEq, true_and, cfg_P, ↓havoc_in, ↓havoc_out, agree_upd, List.contains_cons, List.contains_nil, Bool.or_false, Bool.or_true, Int.ofNat_lt, decide_false, Nat.lt_irrefl, Bool.not_false, ↓ev_tmp, ↓ev_int, ↓iop_move, ↓iop_binOp, nrm_lits, b_add, b_lss, ↓reduceIte, implies_true, beq_self_eq_true, nth_psts, pur_psts, nth_tars, pur_tars, nth_snds, pur_snds, nth_uses, pur_uses, nth_rsts, pur_rsts, nth_lnks, pur_lnks, Try.f4, h130, h81, p5, q5, hwp]
    refine ⟨hp5, ?_, her2 rfl, by omega⟩
    rw [agree_havoc_sub (by decide +kernel)]; simp +contextual (maxSteps := 4000000) only [Nat.reduceBEq, agree_upd, List.contains_cons, List.contains_nil, Bool.or_false, Bool.or_true, beq_self_eq_true, nth_psts, pur_psts, nth_tars, pur_tars, nth_snds, pur_snds, nth_uses, pur_uses, nth_rsts, pur_rsts, nth_lnks, pur_lnks, Try.f4]
    rw [agree_havoc_sub (by decide +kernel)]; simp +contextual (maxSteps := 4000000) only [Nat.reduceBEq, agree_upd, agree_havoc, List.contains_cons, List.contains_nil, Bool.or_false, Bool.or_true, beq_self_eq_true, nth_psts, pur_psts, nth_tars, pur_tars, nth_snds, pur_snds, nth_uses, pur_uses, nth_rsts, pur_rsts, nth_lnks, pur_lnks, Try.f4]
end Sim
