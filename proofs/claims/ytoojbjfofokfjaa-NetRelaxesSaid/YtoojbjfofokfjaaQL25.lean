/- What functions of this seat compute, by values: contracts (lemmas of the statement's proof, under the conditions that each names). -/
import Derived.Test.YtoojbjfofokfjaaQU
namespace Sim
open Go Go.Proofs
set_option maxRecDepth 10000
set_option maxHeartbeats 2000000
set_option linter.unusedVariables false
set_option linter.unusedSimpArgs false
attribute [local congr] opsIf_congr condC_congr guardC_congr grd_congr pick3_congr obind_congr omap_congr
def reM (o : Option IObj) (st : Store) (k z : Nat) (l : List PV) (n : Nat) : Option (PV × Store) :=
  match o with
  | some (.arr g _ _) => some (.ref (k - 1) (g + 1) 0 n, st.set (k - 1) (.arr (g + 1) z l))
  | _ => none
def rePM (o : Option IObj) (st : Store) (k z : Nat) (e : PV) : Option (PV × Store) :=
  match o with
  | some (.arr g _ _) => some (.ptr (k - 1) (g + 1) 0 0, st.set (k - 1) (.arr (g + 1) z [e]))
  | _ => none
theorem re_arr' {st : Store} {k z n : Nat} {l : List PV} : st.re k z l n = reM (st.obj (k - 1)) st k z l n := nrfl rfl
theorem reP_arr' {st : Store} {k z : Nat} {e : PV} : st.reP k z e = rePM (st.obj (k - 1)) st k z e := nrfl rfl
theorem reM_arr {st : Store} {k z n g z0 : Nat} {l es : List PV} : reM (some (.arr g z0 es)) st k z l n = some (.ref (k - 1) (g + 1) 0 n, st.set (k - 1) (.arr (g + 1) z l)) := nrfl rfl
theorem rePM_arr {st : Store} {k z g z0 : Nat} {e : PV} {es : List PV} : rePM (some (.arr g z0 es)) st k z e = some (.ptr (k - 1) (g + 1) 0 0, st.set (k - 1) (.arr (g + 1) z [e])) := nrfl rfl
theorem ofFn_set {f : Fin 24 → Int} {h : Nat} {v : Int} : (List.ofFn f).set h v = List.ofFn (fun i => if i.1 = h then v else f i) := by
  apply List.ext_getElem
  · simp
  · intro i h1 h2
    rw [List.getElem_set]
    simp only [List.getElem_ofFn]
    by_cases e : h = i
    · subst e; simp
    · rw [if_neg e, if_neg (fun g => e g.symm)]
theorem capS_C {a : Lnk} {h : Nat} (g : h < 24) : List.take (2 + h) (lkC a) ++ [I 1073741824] ++ List.drop (2 + h + 1) (lkC a) = lkC (capS a h) := by
  have e : (lkC a).set (2 + h) (I 1073741824) = lkC (capS a h) := by
    simp only [lkC, capS]
    rw [show 2 + h = h + 1 + 1 by omega, List.set_cons_succ, List.set_cons_succ, List.set_append_left _ _ (by rw [ofFn_len]; exact g), ← ofFn_set, List.map_set]
  rw [← e, List.set_eq_take_append_cons_drop, if_pos (by rw [lkC_len]; omega)]
  simp
theorem lkC_drop {a : Lnk} : List.drop 50 (lkC a) = [] := List.drop_eq_nil_of_le (by rw [lkC_len]; omega)
theorem lkC_tl {a : Lnk} {h : Nat} (g : h < 24) : (List.take (2 + h) (lkC a)).length = 2 + h := by rw [List.length_take, lkC_len]; omega
theorem lkC_dl {a : Lnk} {h : Nat} : (List.drop (2 + h + 1) (lkC a)).length = 50 - (2 + h + 1) := by rw [List.length_drop, lkC_len]
theorem tmod_nat (p n : Nat) : Int.tmod (p : Int) (n : Int) = ((p % n : Nat) : Int) := by
  rw [Int.tmod_eq_emod_of_nonneg (by omega)]; rfl
noncomputable def A_later : (List Snd) × (Int) → List PV := fun (l, b) => [snds l, I b]
noncomputable def R_later : (List Snd) × (Int) → PV := fun (l, b) => snds (l.map (shS b))
def H_later : (List Snd) × (Int) → Prop := fun (l, b) => l.length ≤ 2000 ∧ ∀ k, k < l.length → -4611686018427387904 ≤ (l.getD k dS).2.1 + b ∧ (l.getD k dS).2.1 + b ≤ 4611686018427387904
noncomputable def e_later : Nat × Ent := (27, .v (specOf A_later R_later H_later))
theorem j_later : ∀ i j, A_later i = A_later j → i = j := by
  rintro ⟨l₁, b₁⟩ ⟨l₂, b₂⟩ h
  simp only [A_later, List.cons.injEq, and_true, PV.lits.injEq, PV.int.injEq, PV.bool.injEq, PV.str.injEq, PV.agg.injEq, PV.func.injEq, PV.vptr.injEq, true_and, List.map_nil, inj_ints, inj_strs, inj_lnks, inj_snds, inj_lss] at h
  simp [Prod.ext_iff, h] <;> omega
theorem s_later (l : List Snd) (b : Int) : specOf A_later R_later H_later [snds l, I b] = @ite (Option (PV)) (l.length ≤ 2000 ∧ ∀ k, k < l.length → -4611686018427387904 ≤ (l.getD k dS).2.1 + b ∧ (l.getD k dS).2.1 + b ≤ 4611686018427387904) (Classical.propDecidable _) (some (snds (l.map (shS b)))) none := specOf_if j_later (l, b)
def C_later : Prop := ∀ (l : List Snd) (b : Int) (h : l.length ≤ 2000 ∧ ∀ k, k < l.length → -4611686018427387904 ≤ (l.getD k dS).2.1 + b ∧ (l.getD k dS).2.1 + b ≤ 4611686018427387904) , VC Try.prog 27 [snds l, I b] (snds (l.map (shS b)))
def O_later : Prop := EntOK Try.prog e_later.1 e_later.2
theorem k_later (c : C_later) : O_later := specOf_ok fun ⟨l, b⟩ h => c l b h
theorem c_later : C_later := by
  rintro l b ⟨hlen, hb⟩
  refine vc_ofU mixed (l := []) (eok_nil) [] []  Try.func27 rfl (by decide +kernel) (N := 35) rfl (by simp) rfl (by kernel_rfl) fun hs => ?_
  simp only [smallL, PV.small, List.length_map, and_true, true_and] at hs
  generalize hr : l.map (shS b) = r
  have hrl : r.length = l.length := by rw [← hr, List.length_map]
  simp +contextual (maxSteps := 4000000) only [↓ur_seq, ↓ur_block, ↓ur_region, ↓cont_seq, ↓ops_consN, nY_assign, ↓ops_nil, opsIf_some, Nat.reduceLT, true_and, st0, ↓ev_int, ↓ev_nils, ↓iop_assign, nth_lnks, pur_lnks, nth_snds, pur_snds, nth_lss, pur_lss, lkC_len, lkC_0, lkC_1, lkC_cap, lkC_pri, lkC_take, pur_lkC, Nat.mul_one, Try.f27]
  refine loop_cnt [5, 6, 7, 8, 9, 10, 11, 12, 13, 14, 15, 16, 17, 18, 19, 20, 21, 22, 23, 24, 25, 26, 27, 28, 29, 30, 31, 32, 33] l.length (fun k ρ st' => ρ 6 = I k ∧ GS st' (ρ 5) 0 3 ((r.take k).map sndV)) (.slot _ 5 3 ?_ ?_) ?_ ?_
  · simp +contextual (maxSteps := 4000000) only [↓upd_same, ↓upd_ne, Nat.reduceBEq, nth_lnks, pur_lnks, nth_snds, pur_snds, nth_lss, pur_lss, lkC_len, lkC_0, lkC_1, lkC_cap, lkC_pri, lkC_take, pur_lkC, Nat.mul_one, Try.f27]
  · decide
  · simp +contextual (maxSteps := 4000000) only [↓upd_same, ↓upd_ne, Nat.reduceBEq, and_true, List.map_nil, GS_ref, updO_same, List.length_nil, Nat.zero_add, List.take_zero, Store.new, Int.cast_ofNat_Int, nth_lnks, pur_lnks, nth_snds, pur_snds, nth_lss, pur_lss, lkC_len, lkC_0, lkC_1, lkC_cap, lkC_pri, lkC_take, pur_lkC, Nat.mul_one, Try.f27]
  · rintro k ρ ⟨ob, M⟩ hk ⟨h6, ⟨g, h5, ho⟩⟩
    dsimp only at ho
    have hl : (r.take k).length = k := by simp [hrl]; omega
    rw [List.length_map, hl] at h5
    by_cases hlt : k < l.length
    · have hw1 := wrapN hlt hlen
      have hbk := hb k hlt
      have hts : r.take (k + 1) = r.take k ++ [shS b (l.getD k dS)] := by
        rw [List.take_succ_eq_append_getElem (by omega : k < r.length)]
        congr 1
        have := sh_at (b := b) hlt
        rw [hr] at this
        rw [← this]
        simp [show k < r.length by omega]
      rw [hts]
      generalize hx : l.getD k dS = x at *
      have hwb : IntKind.i64.wrap (x.2.1 + b) = x.2.1 + b := wrap64 (by omega) (by omega)
      have hk1 : k + 1 ≤ 2147483648 := by omega
      simp +contextual (maxSteps := 4000000) only [↓ur_skip, ↓ur_seq, ↓ur_block, ↓ur_region, ↓ur_cond, ↓cont_seq, ↓cont_blk, ↓cont_lp, ↓ops_consN, nY_move, nY_assign, nY_build, nY_buildSlice, nY_load, nY_binOp, nY_fieldAddr, nY_indexAddr, nY_callb, ↓ops_nil, opsIf_some, condC_true, Option.map_some, Option.bind_some, Option.getD_some, Nat.reduceLT, Bool.false_eq_true, ↓upd_same, ↓upd_ne, Nat.reduceBEq, true_and, and_true, List.getD_cons_zero, List.getD_cons_succ, List.getElem?_cons_zero, List.getElem?_cons_succ, cfg_P, cfg_muts, cfg_frz, cfg_num, numOf_eq, List.length_map, ↓havoc_in, ↓havoc_out, agree_upd, agree_havoc, List.contains_cons, List.contains_nil, Bool.or_false, Bool.or_true, Int.natCast_nonneg, Int.ofNat_lt, Int.toNat_natCast, decide_true, Option.some.injEq, List.cons_append, List.nil_append, List.append_nil, GS_ref, updO_same, List.length_append, List.length_cons, List.length_nil, Nat.zero_add, Nat.add_zero, List.drop_zero, List.take_zero, Nat.not_succ_le_self, Nat.reduceAdd, List.replicate_succ, List.replicate_zero, List.set_cons_zero, Nat.reduceMul, Nat.reduceLeDiff, IObj.arr.injEq, Nat.lt_succ_self, reduceCtorEq, not_false_eq_true, or_false, Nat.le_refl, cells_int, cells_agg, ↓ev_tmp, ↓ev_int, ↓iop_move, ↓iop_assign, ↓iop_build, ↓iop_buildSlice, ↓iop_load, ↓iop_binOp, ↓iop_fieldAddr, ↓iop_indexAddr, idxA_int, ↓iop_callb, bi_len, lenM_none, bi_append, pickP_f, loadP_vptr, fieldP_vptr, indexP_lits, lenP_lits, elemsP_lits, appendP_ref, b_add, b_lss, fill_nil, fill_cons, fill1_some, buildP_eq, bldA_none, bel_nil, bel_cons, splice_eq, env0_eq, Store.set, ↓reduceIte, arr_eq, arrB_some, bslP_eq, ne_eq, List.take_succ_cons, List.drop_succ_cons, List.drop_nil, ↓evs_cons, ↓evs_nil, ↓evp_cons, ↓evp_nil, beq_self_eq_true, see_eq, nth_lnks, pur_lnks, nth_snds, pur_snds, nth_lss, pur_lss, lkC_len, lkC_0, lkC_1, lkC_cap, lkC_pri, lkC_take, pur_lkC, Nat.mul_one, Try.f27, ty3, ty29, ty52, h6, h5, ho, hlt, hl, hx, hwb, hw1, hk1]
      rw [List.take_of_length_le (by rw [List.length_map, hl]; exact Nat.le_refl _)]
      simp [shS]
    · have e : k = l.length := by omega
      subst e
      rw [List.take_of_length_le (by omega)] at ho
      simp +contextual (maxSteps := 4000000) only [↓ur_seq, ↓ur_exit, ↓ur_ret, ↓ur_region, ↓ur_cond, ↓cont_seq, ↓leave_seq, ↓leave_blk, ↓leave_lp, ↓done_nil, ↓ops_consN, nY_move, nY_assign, nY_binOp, nY_callb, ↓ops_nil, opsIf_some, condC_false, Option.map_some, Option.bind_some, Option.getD_some, Nat.reduceLT, ↓upd_same, ↓upd_ne, Nat.reduceBEq, true_and, List.getD_cons_zero, endQ, cfg_P, List.length_map, ↓havoc_in, ↓havoc_out, List.contains_cons, List.contains_nil, Bool.or_false, Bool.or_true, Int.ofNat_lt, decide_false, Option.some.injEq, exists_eq_left', Nat.zero_add, List.drop_zero, Prod.mk.injEq, Nat.lt_irrefl, Nat.lt_succ_self, Nat.le_refl, DRx_ref, ↓ev_tmp, ↓iop_move, ↓iop_assign, ↓iop_binOp, ↓iop_callb, bi_len, lenM_none, lenP_lits, b_lss, env0_eq, ires_eq, iresL_1, iresAll_nil, iresAll_cons, iresOne_tmp, ↓reduceIte, arr_eq, arrB_some, ↓evs_cons, ↓evs_nil, beq_self_eq_true, nth_lnks, pur_lnks, nth_snds, pur_snds, nth_lss, pur_lss, lkC_len, lkC_0, lkC_1, lkC_cap, lkC_pri, lkC_take, pur_lkC, Nat.mul_one, Try.f27, ty29, h6, h5, ho, hrl]
      exact List.take_of_length_le (by rw [List.length_map, hrl]; exact Nat.le_refl _)
theorem o_later : O_later := k_later c_later
/-- The last tick of all. -/
def lastT (l : List Snd) (d : Dem) : Nat → Int
  | 0 => d.2.2.2.2
  | k + 1 => if lastT l d k < (l.getD k dS).2.1 + 1 then (l.getD k dS).2.1 + 1 else lastT l d k
theorem lastT_ge {l : List Snd} {d : Dem} : ∀ n, d.2.2.2.2 ≤ lastT l d n ∧ ∀ k, k < n → (l.getD k dS).2.1 + 1 ≤ lastT l d n
  | 0 => ⟨Int.le_refl _, fun k hk => absurd hk (by omega)⟩
  | n + 1 => by
    obtain ⟨h1, h2⟩ := lastT_ge (l := l) (d := d) n
    simp only [lastT]
    refine ⟨by split <;> omega, fun k hk => ?_⟩
    by_cases e : k = n
    · subst e; split <;> omega
    · have := h2 k (by omega)
      split <;> omega
theorem lastT_le {hn : Int} {ls : List Lnk} {l : List Snd} (ok : OKr hn ls l) {d : Dem} (hd : d.2.2.2.2 ≤ 1000000) : ∀ n, n ≤ l.length → lastT l d n ≤ 1000000
  | 0, _ => hd
  | n + 1, h => by
    have ih := lastT_le ok hd n (by omega)
    have := ok.tick n (by omega)
    simp only [lastT]
    split <;> omega
noncomputable def A_law25 : (Int) × (List Lnk) × (List Snd) × (Dem) × (Nat) × (Nat) × (Nat) × (Nat) → List PV := fun (hn, ls, l, d, p, q, r, s) => [.agg [I hn, lnks ls], snds l, demV d, .agg [.int .u16 p, .int .u16 q, .int .u16 r, .int .u16 s]]
noncomputable def R_law25 : (Int) × (List Lnk) × (List Snd) × (Dem) × (Nat) × (Nat) × (Nat) × (Nat) → PV := fun (hn, ls, l, d, p, q, r, s) => B true
def H_law25 : (Int) × (List Lnk) × (List Snd) × (Dem) × (Nat) × (Nat) × (Nat) × (Nat) → Prop := fun (hn, ls, l, d, p, q, r, s) => p < 65536 ∧ q < 65536 ∧ r < 65536 ∧ s < 65536
noncomputable def e_law25 : Nat × Ent := (6, .v (specOf A_law25 R_law25 H_law25))
theorem j_law25 : ∀ i j, A_law25 i = A_law25 j → i = j := by
  rintro ⟨hn₁, ls₁, l₁, d₁, p₁, q₁, r₁, s₁⟩ ⟨hn₂, ls₂, l₂, d₂, p₂, q₂, r₂, s₂⟩ h
  simp only [A_law25, List.cons.injEq, and_true, PV.lits.injEq, PV.int.injEq, PV.bool.injEq, PV.str.injEq, PV.agg.injEq, PV.func.injEq, PV.vptr.injEq, true_and, List.map_nil, inj_ints, inj_strs, inj_lnks, inj_snds, inj_lss] at h
  simp [Prod.ext_iff, h] <;> omega
theorem s_law25 (hn : Int) (ls : List Lnk) (l : List Snd) (d : Dem) (p : Nat) (q : Nat) (r : Nat) (s : Nat) : specOf A_law25 R_law25 H_law25 [.agg [I hn, lnks ls], snds l, demV d, .agg [.int .u16 p, .int .u16 q, .int .u16 r, .int .u16 s]] = @ite (Option (PV)) (p < 65536 ∧ q < 65536 ∧ r < 65536 ∧ s < 65536) (Classical.propDecidable _) (some (B true)) none := specOf_if j_law25 (hn, ls, l, d, p, q, r, s)
def C_law25 : Prop := ∀ (hn : Int) (ls : List Lnk) (l : List Snd) (d : Dem) (p : Nat) (q : Nat) (r : Nat) (s : Nat) (h : p < 65536 ∧ q < 65536 ∧ r < 65536 ∧ s < 65536) , VC Try.prog 6 [.agg [I hn, lnks ls], snds l, demV d, .agg [.int .u16 p, .int .u16 q, .int .u16 r, .int .u16 s]] (B true)
def O_law25 : Prop := EntOK Try.prog e_law25.1 e_law25.2
theorem k_law25 (c : C_law25) : O_law25 := specOf_ok fun ⟨hn, ls, l, d, p, q, r, s⟩ h => c hn ls l d p q r s h
theorem c_law25 : C_law25 := by
  rintro hn ls l d p q r s ⟨hp, hq, hr, hs16⟩
  refine vc_ofR mixed (l := [e_few, e_sanity, e_serves, e_arrives, e_cost, e_later]) ((eok_cons o_few (eok_cons o_sanity (eok_cons o_serves (eok_cons o_arrives (eok_cons o_cost (eok_cons o_later eok_nil))))))) [163] [161, 162, 164, 165, 205, 100163, 100166, 200023] 2 Try.func6 rfl (by decide +kernel) (N := 218) rfl (by simp) rfl (by kernel_rfl) fun hs => ?_
  simp only [smallL, PV.small, List.length_map, and_true, true_and] at hs
  have hfew : specOf A_few R_few H_few [.agg [I hn, lnks ls], .lits 1 [.lits 3 (l.map sndV)], I 60] = some (B (fewM ls [l] 60)) := s_few hn ls [l] 60
  cases hf : fewM ls [l] 60
  · simp +contextual (maxSteps := 4000000) only [↓ur_seq, ↓ur_ret, ↓ur_region, ↓ur_cond, ↓cont_seq, ↓done_nil, ↓done_seq, ↓ops_consN, ↓ops_guardN, nY_move, nY_assign, nY_pick, nY_box, nY_buildSlice, nY_load, nY_binOp, nY_unOp, nY_callf, ↓ops_nil, opsIf_some, condC_true, guardC_tf, Option.map_some, Option.bind_some, Option.getD_some, Nat.reduceLT, Bool.false_eq_true, ↓upd_same, ↓upd_ne, Nat.reduceBEq, and_true, List.getD_cons_zero, List.getD_cons_succ, List.getElem?_toArray, List.getElem?_cons_zero, List.getElem?_cons_succ, endQ, cfg_P, cfg_tab, cfg_muts, cfg_frz, List.contains_cons, List.contains_nil, Bool.or_false, Option.some.injEq, exists_eq_left', List.lookup_cons, List.lookup_nil, tabOf_cons, tab_v, Bool.and_self, Nat.reduceEqDiff, List.nil_append, List.append_nil, List.length_cons, List.length_nil, Nat.zero_add, List.drop_zero, Nat.reduceAdd, List.replicate_succ, List.replicate_zero, List.set_cons_zero, Nat.reduceLeDiff, Nat.lt_succ_self, Bool.not_false, Nat.le_refl, pur_int, cells_lits, pur_lits, cells_agg, pur_agg, DRx_bool, ↓ev_tmp, ↓ev_int, ↓ev_bool, ↓ev_func, ↓guardP_eq, grd_some, ↓iop_move, ↓iop_assign, ↓pick3_bool, ↓iop_pick, ↓iop_box, ↓iop_buildSlice, ↓iop_load, ↓iop_unOp, ↓iop_callv, nrmAll_cons, nrmAll_nil, nrm_agg, nrmL_cons, nrmL_nil, nrm_int, nrm_lits, nrm1_int, nrm1_lits, pickP_t, loadP_vptr, u_not, bel_nil, bel_cons, env0_eq, ires_eq, iresL_1, iresAll_nil, iresAll_cons, iresOne_tmp, valT_eq, pursL_cons, pursL_nil, ↓reduceIte, callP_eq, boxP_eq, bslP_eq, List.take_succ_cons, List.take_nil, ↓evs_cons, ↓evs_nil, ↓evp_cons, ↓evp_nil, beq_self_eq_true, see_eq, and_false, Bool.true_eq_false, e_few, e_sanity, s_sanity, e_serves, e_arrives, e_cost, e_later, nth_lnks, pur_lnks, nth_snds, pur_snds, nth_lss, pur_lss, lkC_len, lkC_0, lkC_1, lkC_cap, lkC_pri, lkC_take, pur_lkC, Nat.mul_one, Try.f6, ty3, ty24, ty25, ty29, hfew, hf]
  by_cases hs : servesM hn ls l d = 0
  case neg => simp +contextual (maxSteps := 4000000) only [↓ur_seq, ↓ur_ret, ↓ur_region, ↓ur_cond, ↓cont_seq, ↓done_nil, ↓done_seq, ↓ops_consN, ↓ops_guardN, nY_move, nY_assign, nY_pick, nY_box, nY_buildSlice, nY_load, nY_binOp, nY_unOp, nY_callf, ↓ops_nil, opsIf_some, condC_true, guardC_ff, Option.map_some, Option.bind_some, Option.getD_some, Nat.reduceLT, Bool.false_eq_true, ↓upd_same, ↓upd_ne, Nat.reduceBEq, and_true, List.getD_cons_zero, List.getD_cons_succ, List.getElem?_toArray, List.getElem?_cons_zero, List.getElem?_cons_succ, endQ, cfg_P, cfg_tab, cfg_muts, cfg_frz, List.contains_cons, List.contains_nil, Bool.or_false, decide_true, Option.some.injEq, exists_eq_left', List.lookup_cons, List.lookup_nil, tabOf_cons, tab_v, Bool.and_self, Nat.reduceEqDiff, List.nil_append, List.append_nil, List.length_cons, List.length_nil, Nat.zero_add, List.drop_zero, Nat.reduceAdd, List.replicate_succ, List.replicate_zero, List.set_cons_zero, Nat.reduceLeDiff, Nat.lt_succ_self, Bool.not_true, not_false_eq_true, Nat.le_refl, pur_int, cells_lits, pur_lits, cells_agg, pur_agg, DRx_bool, ↓ev_tmp, ↓ev_int, ↓ev_bool, ↓ev_func, ↓guardP_eq, grd_some, ↓iop_move, ↓iop_assign, ↓pick3_bool, ↓iop_pick, ↓iop_box, ↓iop_buildSlice, ↓iop_load, ↓iop_binOp, ↓iop_unOp, ↓iop_callv, nrmAll_cons, nrmAll_nil, nrm_agg, nrmL_cons, nrmL_nil, nrm_int, nrm_lits, nrm1_int, nrm1_lits, pickP_t, loadP_vptr, b_neq, u_not, bel_nil, bel_cons, env0_eq, ires_eq, iresL_1, iresAll_nil, iresAll_cons, iresOne_tmp, valT_eq, pursL_cons, pursL_nil, ↓reduceIte, callP_eq, boxP_eq, bslP_eq, List.take_succ_cons, List.take_nil, ↓evs_cons, ↓evs_nil, ↓evp_cons, ↓evp_nil, beq_self_eq_true, see_eq, and_false, Bool.true_eq_false, e_few, e_sanity, s_sanity, e_serves, s_serves, e_arrives, e_cost, e_later, nth_lnks, pur_lnks, nth_snds, pur_snds, nth_lss, pur_lss, lkC_len, lkC_0, lkC_1, lkC_cap, lkC_pri, lkC_take, pur_lkC, Nat.mul_one, Try.f6, ty3, ty24, ty25, ty29, ty48, hfew, hf, hs]
  have sv := serves_iff.1 hs
  have ok := sv.ok
  have hlen := ok.len
  have hdem := sv.dem
  unfold demR at hdem
  have harr := arr_eq' sv
  have hab := whenT_bnd sv
  have rr := right_zero.2 ok
  have n1 : ¬ whenT ls l d < d.2.2.2.1 := by omega
  have n2 : ¬ d.2.2.2.2 < whenT ls l d := by omega
  have wp : IntKind.i64.wrap (p : Int) = p := wrap64 (by omega) (by omega)
  have wp2 : IntKind.i64.wrap (24 * (p : Int)) = 24 * (p : Int) := wrap64 (by omega) (by omega)
  simp +contextual (maxSteps := 4000000) only [↓ur_skip, ↓ur_seq, ↓ur_block, ↓ur_region, ↓ur_cond, ↓cont_seq, ↓ops_consN, ↓ops_guardN, nY_move, nY_assign, nY_pick, nY_box, nY_buildSlice, nY_load, nY_binOp, nY_unOp, nY_convert, nY_fieldAddr, nY_indexAddr, nY_extract, nY_callf, ↓ops_nil, opsIf_some, condC_false, guardC_ff, Option.map_some, Option.bind_some, Option.getD_some, Nat.reduceLT, Bool.false_eq_true, ↓upd_same, ↓upd_ne, Nat.reduceBEq, true_and, and_true, List.getD_cons_zero, List.getD_cons_succ, List.getElem?_toArray, List.getElem?_cons_zero, List.getElem?_cons_succ, cfg_P, cfg_tab, cfg_muts, cfg_frz, List.contains_cons, List.contains_nil, Bool.or_false, decide_false, List.lookup_cons, List.lookup_nil, tabOf_cons, tab_v, Bool.and_self, Nat.reduceEqDiff, List.nil_append, List.append_nil, List.length_cons, List.length_nil, Nat.zero_add, Nat.add_zero, List.drop_zero, Nat.reduceAdd, List.replicate_succ, List.replicate_zero, List.set_cons_zero, Nat.reduceLeDiff, Nat.lt_succ_self, Bool.not_true, not_true_eq_false, Int.reduceLT, Int.reduceToNat, Nat.le_refl, pur_int, cells_lits, pur_lits, cells_agg, pur_agg, ↓ev_tmp, ↓ev_int, ↓ev_bool, ↓ev_func, ↓guardP_eq, grd_some, ↓iop_move, ↓iop_assign, ↓pick3_bool, ↓iop_pick, ↓iop_box, ↓iop_buildSlice, ↓iop_load, ↓iop_binOp, ↓iop_unOp, ↓iop_convert, ↓iop_fieldAddr, ↓iop_indexAddr, idxA_int, ↓iop_extract, extr_tuple, ↓iop_callv, nrmAll_cons, nrmAll_nil, nrm_agg, nrmL_cons, nrmL_nil, nrm_int, nrm_lits, nrm1_int, nrm1_lits, pickP_f, pickP_t, loadP_vptr, fieldP_vptr, indexP_vptr, b_mul, b_neq, b_lss, b_gtr, u_not, cv_int, bel_nil, bel_cons, env0_eq, valT_eq, pursL_cons, pursL_nil, ↓reduceIte, callP_eq, boxP_eq, bslP_eq, List.take_succ_cons, List.take_nil, ↓evs_cons, ↓evs_nil, ↓evp_cons, ↓evp_nil, Int.le_refl, beq_self_eq_true, see_eq, and_false, Bool.true_eq_false, Int.cast_ofNat_Int, e_few, e_sanity, e_serves, s_serves, e_arrives, s_arrives, e_cost, s_cost, e_later, nth_lnks, pur_lnks, nth_snds, pur_snds, nth_lss, pur_lss, lkC_len, lkC_0, lkC_1, lkC_cap, lkC_pri, lkC_take, pur_lkC, Nat.mul_one, Try.f6, ty3, ty24, ty25, ty29, ty48, ty54, ty59, hfew, hf, hs, harr, rr, n1, n2, wp, wp2]
  have hl0 : lastT l d 0 = d.2.2.2.2 := rfl
  have hlg := fun n => lastT_ge (l := l) (d := d) n
  have hll := fun n h => lastT_le ok (show d.2.2.2.2 ≤ 1000000 by omega) n h
  refine loop_cnt [15, 16, 79, 80, 81, 82, 83, 84, 85, 86, 87, 88, 89, 90, 91, 92, 93, 94, 95, 96, 97, 98] l.length (fun k ρ st' => ρ 16 = I k ∧ ρ 15 = I (lastT l d k) ∧ st'.obj 0 = some (.arr 0 1 []) ∧ st'.obj 1 = some (.arr 0 1 []) ∧ st'.next = 2) (.refl _) ?_ ?_
  · simp +contextual (maxSteps := 4000000) only [Nat.reduceLT, ↓upd_same, ↓upd_ne, Nat.reduceBEq, and_true, Nat.lt_succ_self, ↓reduceIte, Int.cast_ofNat_Int, nth_lnks, pur_lnks, nth_snds, pur_snds, nth_lss, pur_lss, lkC_len, lkC_0, lkC_1, lkC_cap, lkC_pri, lkC_take, pur_lkC, Nat.mul_one, Try.f6, hl0]
  rintro k ρ ⟨ob, M⟩ hk ⟨h16, h15, o0, o1, hM⟩
  dsimp only at o0 o1 hM
  subst hM
  by_cases hlt : k < l.length
  · have hw1 := wrapN hlt hlen
    have ht := ok.tick k hlt
    have hst : lastT l d (k + 1) = if lastT l d k < (l.getD k dS).2.1 + 1 then (l.getD k dS).2.1 + 1 else lastT l d k := rfl
    generalize hx : l.getD k dS = x at *
    have hw2 : IntKind.i64.wrap (x.2.1 + 1) = x.2.1 + 1 := wrap64 (by omega) (by omega)
    by_cases c : lastT l d k < x.2.1 + 1
    · rw [if_pos c] at hst
      rw [hst]
      simp +contextual (maxSteps := 4000000) only [↓ur_skip, ↓ur_seq, ↓ur_block, ↓ur_region, ↓ur_cond, ↓cont_seq, ↓cont_blk, ↓cont_lp, ↓ops_consN, nY_move, nY_assign, nY_load, nY_binOp, nY_fieldAddr, nY_indexAddr, nY_callb, ↓ops_nil, opsIf_some, condC_true, Option.map_some, Option.bind_some, Option.getD_some, Nat.reduceLT, Bool.false_eq_true, ↓upd_same, ↓upd_ne, Nat.reduceBEq, and_true, List.getD_cons_zero, List.getD_cons_succ, List.getElem?_cons_zero, List.getElem?_cons_succ, cfg_P, cfg_frz, List.length_map, ↓havoc_in, ↓havoc_out, agree_upd, agree_havoc, List.contains_cons, List.contains_nil, Bool.or_false, Bool.or_true, Int.natCast_nonneg, Int.ofNat_lt, Int.toNat_natCast, decide_true, Nat.zero_add, Nat.lt_succ_self, cells_agg, ↓ev_tmp, ↓ev_int, ↓iop_move, ↓iop_assign, ↓iop_load, ↓iop_binOp, ↓iop_fieldAddr, ↓iop_indexAddr, idxA_int, ↓iop_callb, bi_len, lenM_none, pickP_f, loadP_vptr, fieldP_vptr, indexP_lits, lenP_lits, b_add, b_lss, b_gtr, env0_eq, ↓reduceIte, ↓evs_cons, ↓evs_nil, beq_self_eq_true, see_eq, nth_lnks, pur_lnks, nth_snds, pur_snds, nth_lss, pur_lss, lkC_len, lkC_0, lkC_1, lkC_cap, lkC_pri, lkC_take, pur_lkC, Nat.mul_one, Try.f6, ty3, ty29, ty52, h16, h15, o0, o1, hlt, hx, hw1, hw2, c]
    · rw [if_neg c] at hst
      rw [hst]
      simp +contextual (maxSteps := 4000000) only [↓ur_skip, ↓ur_seq, ↓ur_block, ↓ur_region, ↓ur_cond, ↓cont_seq, ↓cont_blk, ↓cont_lp, ↓ops_consN, nY_move, nY_assign, nY_load, nY_binOp, nY_fieldAddr, nY_indexAddr, nY_callb, ↓ops_nil, opsIf_some, condC_true, condC_false, Option.map_some, Option.bind_some, Option.getD_some, Nat.reduceLT, Bool.false_eq_true, ↓upd_same, ↓upd_ne, Nat.reduceBEq, and_true, List.getD_cons_zero, List.getD_cons_succ, List.getElem?_cons_zero, List.getElem?_cons_succ, cfg_P, cfg_frz, List.length_map, ↓havoc_in, ↓havoc_out, agree_upd, agree_havoc, List.contains_cons, List.contains_nil, Bool.or_false, Bool.or_true, Int.natCast_nonneg, Int.ofNat_lt, Int.toNat_natCast, decide_true, decide_false, Nat.zero_add, Nat.lt_succ_self, cells_agg, ↓ev_tmp, ↓ev_int, ↓iop_move, ↓iop_assign, ↓iop_load, ↓iop_binOp, ↓iop_fieldAddr, ↓iop_indexAddr, idxA_int, ↓iop_callb, bi_len, lenM_none, pickP_f, loadP_vptr, fieldP_vptr, indexP_lits, lenP_lits, b_add, b_lss, b_gtr, env0_eq, ↓reduceIte, ↓evs_cons, ↓evs_nil, beq_self_eq_true, see_eq, nth_lnks, pur_lnks, nth_snds, pur_snds, nth_lss, pur_lss, lkC_len, lkC_0, lkC_1, lkC_cap, lkC_pri, lkC_take, pur_lkC, Nat.mul_one, Try.f6, ty3, ty29, ty52, h16, h15, o0, o1, hlt, hx, hw1, hw2, c]
  have e : k = l.length := by omega
  subst e
  have hL1 := hlg l.length
  have hL2 := hll l.length (Nat.le_refl _)
  generalize hL : lastT l d l.length = L at *
  have wL : IntKind.i64.wrap (L + 24 * (p : Int)) = L + 24 * (p : Int) := wrap64 (by omega) (by omega)
  have wT : IntKind.i64.wrap (whenT ls l d + 24 * (p : Int)) = whenT ls l d + 24 * (p : Int) := wrap64 (by omega) (by omega)
  have wR : IntKind.i64.wrap (d.2.2.2.1 + 24 * (p : Int)) = d.2.2.2.1 + 24 * (p : Int) := wrap64 (by omega) (by omega)
  have wD : IntKind.i64.wrap (d.2.2.2.2 + 24 * (p : Int)) = d.2.2.2.2 + 24 * (p : Int) := wrap64 (by omega) (by omega)
  have hre : (d.2.2.2.1.toNat : Int) = d.2.2.2.1 := by omega
  have hrm := tmod_nat q (d.2.2.2.1.toNat + 1)
  rw [show ((d.2.2.2.1.toNat + 1 : Nat) : Int) = d.2.2.2.1 + 1 by omega] at hrm
  have hrml : q % (d.2.2.2.1.toNat + 1) < d.2.2.2.1.toNat + 1 := Nat.mod_lt _ (by omega)
  generalize q % (d.2.2.2.1.toNat + 1) = rm at *
  have wr1 : IntKind.i64.wrap (d.2.2.2.1 + 1) = d.2.2.2.1 + 1 := wrap64 (by omega) (by omega)
  have wr2 : IntKind.i64.wrap (d.2.2.2.1 - (rm : Int)) = d.2.2.2.1 - (rm : Int) := wrap64 (by omega) (by omega)
  have ne1 : ¬ d.2.2.2.1 + 1 = 0 := by omega
  have wq : IntKind.i64.wrap (q : Int) = q := wrap64 (by omega) (by omega)
  have wrr : IntKind.i64.wrap (r : Int) = r := wrap64 (by omega) (by omega)
  have wss : IntKind.i64.wrap (s : Int) = s := wrap64 (by omega) (by omega)
  have e11 : 1 - 1 = 0 := rfl
  have e21 : 2 - 1 = 1 := rfl
  have hro : 0 ≤ d.2.2.2.1 - (rm : Int) ∧ d.2.2.2.1 - (rm : Int) ≤ d.2.2.2.1 := by omega
  obtain ⟨ls', hw, hls⟩ : ∃ ls', Wider ls ls' ∧ ls' = if ls.length = 0 then [] else ls.set (r % ls.length) (capS (ls.getD (r % ls.length) dL) (s % 24)) := by
    by_cases h0 : ls.length = 0
    · rw [if_pos h0]
      refine ⟨_, ?_, rfl⟩
      have : ls = [] := List.length_eq_zero_iff.1 h0
      rw [this]
      exact .refl _
    · rw [if_neg h0]
      exact ⟨_, wider_set (Nat.mod_lt _ (by omega)) (Nat.mod_lt _ (by omega)), rfl⟩
  have g1 : specOf A_arrives R_arrives H_arrives [.agg [I hn, .lits 50 (ls'.map lnkV)], .lits 3 (l.map sndV), .agg [I d.1, I d.2.1, I d.2.2.1, I (d.2.2.2.1 - (rm : Int)), I d.2.2.2.2]] = some (.tuple [I (whenT ls' l (eaD d (d.2.2.2.1 - (rm : Int)))), I 0]) := by
    have := s_arrives hn ls' l (eaD d (d.2.2.2.1 - (rm : Int)))
    rw [arr_eq' (hw.serving sv hro.1 hro.2)] at this
    exact this
  have g2 := hw.arrives sv hro.1 hro.2
  generalize whenT ls' l (eaD d (d.2.2.2.1 - (rm : Int))) = W at *
  have htm : List.take ls.length (ls'.map lnkV) = ls'.map lnkV := List.take_of_length_le (by rw [List.length_map, hw.len]; exact Nat.le_refl _)
  by_cases cL : L + 24 * (p : Int) ≤ 1000000
  · have htk : ∀ k, k < l.length → (l.getD k dS).2.1 + 24 * (p : Int) < 1000000 := fun k hk => by have := hL1.2 k hk; omega
    have hb2 : l.length ≤ 2000 ∧ ∀ k, k < l.length → -4611686018427387904 ≤ (l.getD k dS).2.1 + 24 * (p : Int) ∧ (l.getD k dS).2.1 + 24 * (p : Int) ≤ 4611686018427387904 := ⟨by omega, fun k hk => by have := htk k hk; have := ok.tick k hk; omega⟩
    have sv2 := serving_sh sv (m := p) htk (by omega)
    have ok2 := sv2.ok
    have e1 := arr_eq' sv2
    rw [whenT_sh] at e1
    have e2 := cost_sh ok ok2
    have e3 := right_zero.2 ok2
    have f1 : specOf A_later R_later H_later [.lits 3 (l.map sndV), I (24 * (p : Int))] = some (snds (l.map (shS (24 * (p : Int))))) := (s_later l (24 * (p : Int))).trans (if_pos hb2)
    have f2 : specOf A_arrives R_arrives H_arrives [.agg [I hn, lnks ls], .lits 3 ((l.map (shS (24 * (p : Int)))).map sndV), .agg [I d.1, I d.2.1, I d.2.2.1, I (d.2.2.2.1 + 24 * (p : Int)), I (d.2.2.2.2 + 24 * (p : Int))]] = some (.tuple [I (whenT ls l d + 24 * (p : Int)), I 0]) := by
      have := s_arrives hn ls (l.map (shS (24 * (p : Int)))) (shD (24 * (p : Int)) d)
      rw [e1] at this
      exact this
    have f3 : specOf A_cost R_cost H_cost [.agg [I hn, lnks ls], .lits 3 ((l.map (shS (24 * (p : Int)))).map sndV)] = some (.tuple [I (costM hn ls l), I 0]) := by
      have := s_cost hn ls (l.map (shS (24 * (p : Int))))
      rw [e2, e3] at this
      exact this
    generalize l.map (shS (24 * (p : Int))) = l2 at *
    by_cases hn0 : ls.length = 0
    · have hn1 : ¬ (0 : Int) < (ls.length : Int) := by omega
      rw [if_pos hn0] at hls
      subst hls
      rw [List.map_nil] at g1
      simp +contextual (maxSteps := 4000000) only [↓ur_skip, ↓ur_seq, ↓ur_exit, ↓ur_ret, ↓ur_region, ↓ur_cond, Nat.one_ne_zero, ↓cont_seq, ↓leave_seq, ↓leave_blk, ↓leave_lp, ↓done_nil, ↓ops_consN, ↓ops_guardN, nY_move, nY_assign, nY_pick, nY_alloc, nY_build, nY_buildSlice, nY_load, nY_store, nY_binOp, nY_convert, nY_fieldAddr, nY_indexAddr, nY_extract, nY_callf, nY_callb, ↓ops_nil, opsIf_some, opsIf_none, condC_true, condC_false, guardC_tt, guardC_ff, Option.map_some, Option.bind_some, Option.getD_some, Nat.reduceLT, Bool.false_eq_true, ↓upd_same, ↓upd_ne, Nat.reduceBEq, and_true, List.getD_cons_zero, List.getD_cons_succ, List.getElem?_toArray, List.getElem?_cons_zero, List.getElem?_cons_succ, endQ, cfg_P, cfg_tab, cfg_muts, cfg_frz, cfg_num, numOf_eq, List.length_map, ↓havoc_in, ↓havoc_out, List.contains_cons, List.contains_nil, Bool.or_false, Bool.or_true, Int.ofNat_lt, decide_true, decide_false, Option.some.injEq, exists_eq_left', List.lookup_cons, List.lookup_nil, tabOf_cons, tab_v, Bool.and_self, Nat.reduceEqDiff, List.cons_append, List.nil_append, List.append_nil, updO_same, updO_ne, List.length_cons, List.length_nil, Nat.zero_add, Nat.add_zero, List.drop_zero, List.take_zero, Nat.reduceAdd, List.replicate_zero, List.set_cons_zero, Nat.reduceMul, Nat.reduceLeDiff, nth_zero, Nat.lt_irrefl, Nat.lt_succ_self, reduceCtorEq, not_true_eq_false, not_false_eq_true, Int.reduceLT, Int.reduceLE, Int.reduceToNat, or_false, Nat.le_refl, cells_int, pur_int, rdC_int, isCell_int, pur_lits, rdP_lits, isCell_lits, cells_ref, rdC_ref, cells_agg, pur_agg, rdP_agg, DRx_bool, ↓ev_tmp, ↓ev_int, ↓ev_func, ↓guardP_eq, grd_some, ↓iop_move, ↓iop_assign, ↓pick3_bool, ↓iop_pick, ↓iop_alloc, ↓iop_build, ↓iop_buildSlice, ↓iop_load, ↓iop_store, ↓iop_binOp, ↓iop_convert, ↓iop_fieldAddr, ↓iop_indexAddr, idxA_int, ↓iop_extract, extr_tuple, ↓iop_callv, ↓iop_callb, nrmAll_cons, nrmAll_nil, bi_len, lenM_none, bi_append_re, appGuard_lits, nrm_agg, nrmL_cons, nrmL_nil, nrm_int, nrm_lits, nrm1_int, nrm1_lits, nrm1_ref, pickP_f, pickP_t, loadP_vptr, loadP_ptr, setCells_agg, storeP_ptr, fieldP_vptr, fieldP_ptr, indexP_vptr, lenP_lits, lenP_ref, elemsP_lits, appendP_ref, b_add, b_sub, b_rem, b_eql, b_neq, b_lss, b_leq, b_gtr, cv_int, fill_nil, fill_cons, fill1_some, buildP_eq, bldA_none, bel_nil, splice_eq, env0_eq, ires_eq, iresL_1, iresAll_nil, iresAll_cons, iresOne_tmp, frzP_eq, rdAll_cons, rdAll_nil, rdL_cons, rdL_nil, valT_eq, pursL_cons, pursL_nil, Store.new, Store.set, ↓reduceIte, arr_eq, arrB_some, callP_eq, bslP_eq, ne_eq, List.take_succ_cons, List.drop_succ_cons, List.drop_nil, List.take_nil, ↓evs_cons, ↓evs_nil, ↓evp_cons, ↓evp_nil, only_obj, idsOf_cons, idsOf_nil, idC_lits, idC_agg, idL_cons, idL_nil, idE_ref, idE_int, beq_self_eq_true, List.all_cons, List.all_nil, see_eq, and_false, Bool.true_eq_false, Int.cast_ofNat_Int, s_sanity, nth_lnks, pur_lnks, nth_snds, pur_snds, nth_lss, pur_lss, lkC_len, lkC_0, lkC_1, lkC_cap, lkC_pri, lkC_take, pur_lkC, Nat.mul_one, Try.f6, ty3, ty22, ty24, ty29, ty48, ty54, ty57, ty59, h16, h15, o0, o1, wL, cL, wT, wR, wD, f1, f2, f3, hrm, wr1, wr2, ne1, wq, wrr, wss, hn0, hn1, e11, e21, re_arr', reP_arr', reM_arr, rePM_arr, iop_alloc_re, g1, g2]
    · have hn1 : (0 : Int) < (ls.length : Int) := by omega
      have hn2 : ¬ ls.length ≤ 0 := by omega
      rw [if_neg hn0] at hls
      have hkk := tmod_nat r ls.length
      have hhh : Int.tmod (s : Int) 24 = ((s % 24 : Nat) : Int) := tmod_nat s 24
      have hkl : r % ls.length < ls.length := Nat.mod_lt _ (by omega)
      have hhl : s % 24 < 24 := Nat.mod_lt _ (by omega)
      have hll2 := ok.net.len
      generalize r % ls.length = kk at *
      generalize s % 24 = hh at *
      have hlm : (ls.map lnkV).set kk (.agg (lkC (capS (ls.getD kk dL) hh))) = ls'.map lnkV := by rw [hls, List.map_set]
      have hli : (hh : Int) < 24 := by omega
      have hcc := capS_C (a := ls.getD kk dL) hhl
      have ht1 := lkC_tl (a := ls.getD kk dL) hhl
      have ht2 := lkC_dl (a := ls.getD kk dL) (h := hh)
      have hh49 : 2 + hh ≤ 49 := by omega
      have hll3 := hw.len
      have hll4 : ls.length ≤ 2147483648 := by omega
      simp +contextual (maxSteps := 4000000) only [↓ur_skip, ↓ur_seq, ↓ur_exit, ↓ur_ret, ↓ur_region, ↓ur_cond, Nat.one_ne_zero, ↓cont_seq, ↓leave_seq, ↓leave_blk, ↓leave_lp, ↓done_nil, ↓ops_consN, ↓ops_guardN, nY_move, nY_assign, nY_pick, nY_alloc, nY_build, nY_buildSlice, nY_load, nY_store, nY_binOp, nY_convert, nY_fieldAddr, nY_indexAddr, nY_extract, nY_callf, nY_callb, ↓ops_nil, opsIf_some, opsIf_none, condC_true, condC_false, guardC_tt, guardC_ff, Option.map_some, Option.bind_some, Option.getD_some, Nat.reduceLT, Bool.false_eq_true, ↓upd_same, ↓upd_ne, Nat.reduceBEq, and_true, List.getD_cons_zero, List.getD_cons_succ, List.getElem?_toArray, List.getElem?_cons_zero, List.getElem?_cons_succ, endQ, cfg_P, cfg_tab, cfg_muts, cfg_frz, cfg_num, numOf_eq, List.length_map, ↓havoc_in, ↓havoc_out, List.contains_cons, List.contains_nil, Bool.or_false, Bool.or_true, Int.natCast_nonneg, Int.ofNat_lt, Int.toNat_natCast, decide_true, decide_false, Option.some.injEq, exists_eq_left', List.lookup_cons, List.lookup_nil, tabOf_cons, tab_v, Bool.and_self, Nat.reduceEqDiff, List.cons_append, List.nil_append, List.append_nil, updO_same, updO_ne, List.length_cons, List.length_nil, Nat.zero_add, Nat.add_zero, List.drop_zero, List.take_zero, Nat.reduceAdd, List.replicate_zero, List.set_cons_zero, Nat.reduceMul, Nat.reduceLeDiff, nth_zero, Nat.lt_irrefl, Nat.lt_succ_self, reduceCtorEq, not_true_eq_false, not_false_eq_true, Int.reduceEq, Int.reduceLT, Int.reduceLE, Int.reduceToNat, or_false, Nat.le_refl, cells_int, pur_int, rdC_int, isCell_int, pur_lits, rdP_lits, isCell_lits, cells_ref, rdC_ref, cells_agg, pur_agg, rdP_agg, DRx_bool, ↓ev_tmp, ↓ev_int, ↓ev_func, ↓guardP_eq, grd_some, ↓iop_move, ↓iop_assign, ↓pick3_bool, ↓iop_pick, ↓iop_alloc, ↓iop_build, ↓iop_buildSlice, ↓iop_load, ↓iop_store, ↓iop_binOp, ↓iop_convert, ↓iop_fieldAddr, ↓iop_indexAddr, idxA_int, ↓iop_extract, extr_tuple, ↓iop_callv, ↓iop_callb, nrmAll_cons, nrmAll_nil, bi_len, lenM_none, bi_append_re, appGuard_lits, nrm_agg, nrmL_cons, nrmL_nil, nrm_int, nrm_lits, nrm1_int, nrm1_lits, nrm1_ref, pickP_f, pickP_t, loadP_vptr, loadP_ptr, setCells_agg, storeP_ptr, fieldP_vptr, fieldP_ptr, indexP_ref, indexP_vptr, indexP_ptr, lenP_lits, lenP_ref, elemsP_lits, appendP_ref, b_add, b_sub, b_rem, b_eql, b_neq, b_lss, b_leq, b_gtr, cv_int, fill_nil, fill_cons, fill1_some, buildP_eq, bldA_none, bel_nil, splice_eq, env0_eq, ires_eq, iresL_1, iresAll_nil, iresAll_cons, iresOne_tmp, frzP_eq, rdAll_cons, rdAll_nil, rdL_cons, rdL_nil, valT_eq, pursL_cons, pursL_nil, Store.new, Store.set, ↓reduceIte, Int.natCast_eq_zero, arr_eq, arrB_some, callP_eq, bslP_eq, ne_eq, List.take_succ_cons, List.drop_succ_cons, List.drop_nil, List.take_nil, ↓evs_cons, ↓evs_nil, ↓evp_cons, ↓evp_nil, only_obj, idsOf_cons, idsOf_nil, idC_lits, idC_agg, idL_cons, idL_nil, idE_ref, idE_int, beq_self_eq_true, List.all_cons, List.all_nil, see_eq, and_false, Bool.true_eq_false, Int.cast_ofNat_Int, s_sanity, nth_lnks, pur_lnks, nth_snds, pur_snds, nth_lss, pur_lss, lkC_len, lkC_0, lkC_1, lkC_cap, lkC_pri, lkC_take, pur_lkC, Nat.mul_one, Try.f6, ty3, ty22, ty24, ty29, ty48, ty54, ty55, ty57, ty59, h16, h15, o0, o1, wL, cL, wT, wR, wD, f1, f2, f3, hrm, wr1, wr2, ne1, wq, wrr, wss, hn0, hn1, hn2, e11, e21, re_arr', reP_arr', reM_arr, rePM_arr, iop_alloc_re, g1, g2, hkk, hhh, hkl, hhl, hli, hlm, hcc, lkC_drop, ht1, ht2, hh49, hll3, hll4, htm]
  by_cases hn0 : ls.length = 0
  · have hn1 : ¬ (0 : Int) < (ls.length : Int) := by omega
    rw [if_pos hn0] at hls
    subst hls
    rw [List.map_nil] at g1
    simp +contextual (maxSteps := 4000000) only [↓ur_skip, ↓ur_seq, ↓ur_exit, ↓ur_ret, ↓ur_region, ↓ur_cond, Nat.one_ne_zero, ↓cont_seq, ↓leave_seq, ↓leave_blk, ↓leave_lp, ↓done_nil, ↓ops_consN, ↓ops_guardN, nY_move, nY_assign, nY_pick, nY_alloc, nY_build, nY_buildSlice, nY_load, nY_store, nY_binOp, nY_convert, nY_fieldAddr, nY_indexAddr, nY_extract, nY_callf, nY_callb, ↓ops_nil, opsIf_some, opsIf_none, condC_false, guardC_tt, Option.map_some, Option.bind_some, Option.getD_some, Nat.reduceLT, Bool.false_eq_true, ↓upd_same, ↓upd_ne, Nat.reduceBEq, and_true, List.getD_cons_zero, List.getD_cons_succ, List.getElem?_toArray, List.getElem?_cons_zero, List.getElem?_cons_succ, endQ, cfg_P, cfg_tab, cfg_muts, cfg_frz, cfg_num, numOf_eq, List.length_map, ↓havoc_in, ↓havoc_out, List.contains_cons, List.contains_nil, Bool.or_false, Bool.or_true, Int.ofNat_lt, decide_true, decide_false, Option.some.injEq, exists_eq_left', List.lookup_cons, List.lookup_nil, tabOf_cons, tab_v, Bool.and_self, Nat.reduceEqDiff, List.cons_append, List.nil_append, List.append_nil, updO_same, updO_ne, List.length_cons, List.length_nil, Nat.zero_add, Nat.add_zero, List.drop_zero, List.take_zero, Nat.reduceAdd, List.replicate_zero, List.set_cons_zero, Nat.reduceMul, Nat.reduceLeDiff, nth_zero, Nat.lt_irrefl, Nat.lt_succ_self, reduceCtorEq, not_false_eq_true, Int.reduceLT, Int.reduceLE, Int.reduceToNat, or_false, Nat.le_refl, cells_int, pur_int, rdC_int, isCell_int, pur_lits, rdP_lits, isCell_lits, cells_ref, rdC_ref, cells_agg, pur_agg, rdP_agg, DRx_bool, ↓ev_tmp, ↓ev_int, ↓ev_func, ↓guardP_eq, grd_some, ↓iop_move, ↓iop_assign, ↓pick3_bool, ↓iop_pick, ↓iop_alloc, ↓iop_build, ↓iop_buildSlice, ↓iop_load, ↓iop_store, ↓iop_binOp, ↓iop_convert, ↓iop_fieldAddr, ↓iop_indexAddr, idxA_int, ↓iop_extract, extr_tuple, ↓iop_callv, ↓iop_callb, nrmAll_cons, nrmAll_nil, bi_len, lenM_none, bi_append_re, appGuard_lits, nrm_agg, nrmL_cons, nrmL_nil, nrm_lits, nrm1_int, nrm1_ref, pickP_f, pickP_t, loadP_vptr, loadP_ptr, setCells_agg, storeP_ptr, fieldP_vptr, fieldP_ptr, indexP_vptr, lenP_lits, lenP_ref, elemsP_lits, appendP_ref, b_add, b_sub, b_rem, b_eql, b_lss, b_leq, b_gtr, cv_int, fill_nil, fill_cons, fill1_some, buildP_eq, bldA_none, bel_nil, splice_eq, env0_eq, ires_eq, iresL_1, iresAll_nil, iresAll_cons, iresOne_tmp, frzP_eq, rdAll_cons, rdAll_nil, rdL_cons, rdL_nil, valT_eq, pursL_cons, pursL_nil, Store.new, Store.set, ↓reduceIte, arr_eq, arrB_some, callP_eq, bslP_eq, ne_eq, List.take_succ_cons, List.drop_succ_cons, List.drop_nil, List.take_nil, ↓evs_cons, ↓evs_nil, ↓evp_cons, ↓evp_nil, only_obj, idsOf_cons, idsOf_nil, idC_lits, idC_agg, idL_cons, idL_nil, idE_ref, idE_int, beq_self_eq_true, List.all_cons, List.all_nil, see_eq, and_false, Bool.true_eq_false, Int.cast_ofNat_Int, s_sanity, nth_lnks, pur_lnks, nth_snds, pur_snds, nth_lss, pur_lss, lkC_len, lkC_0, lkC_1, lkC_cap, lkC_pri, lkC_take, pur_lkC, Nat.mul_one, Try.f6, ty3, ty22, ty24, ty29, ty48, ty54, ty57, ty59, h16, h15, o0, o1, wL, cL, hrm, wr1, wr2, ne1, wq, wrr, wss, hn0, hn1, e11, e21, re_arr', reP_arr', reM_arr, rePM_arr, iop_alloc_re, g1, g2]
  · have hn1 : (0 : Int) < (ls.length : Int) := by omega
    have hn2 : ¬ ls.length ≤ 0 := by omega
    rw [if_neg hn0] at hls
    have hkk := tmod_nat r ls.length
    have hhh : Int.tmod (s : Int) 24 = ((s % 24 : Nat) : Int) := tmod_nat s 24
    have hkl : r % ls.length < ls.length := Nat.mod_lt _ (by omega)
    have hhl : s % 24 < 24 := Nat.mod_lt _ (by omega)
    have hll2 := ok.net.len
    generalize r % ls.length = kk at *
    generalize s % 24 = hh at *
    have hlm : (ls.map lnkV).set kk (.agg (lkC (capS (ls.getD kk dL) hh))) = ls'.map lnkV := by rw [hls, List.map_set]
    have hli : (hh : Int) < 24 := by omega
    have hcc := capS_C (a := ls.getD kk dL) hhl
    have ht1 := lkC_tl (a := ls.getD kk dL) hhl
    have ht2 := lkC_dl (a := ls.getD kk dL) (h := hh)
    have hh49 : 2 + hh ≤ 49 := by omega
    have hll3 := hw.len
    have hll4 : ls.length ≤ 2147483648 := by omega
    simp +contextual (maxSteps := 4000000) only [↓ur_skip, ↓ur_seq, ↓ur_exit, ↓ur_ret, ↓ur_region, ↓ur_cond, Nat.one_ne_zero, ↓cont_seq, ↓leave_seq, ↓leave_blk, ↓leave_lp, ↓done_nil, ↓ops_consN, ↓ops_guardN, nY_move, nY_assign, nY_pick, nY_alloc, nY_build, nY_buildSlice, nY_load, nY_store, nY_binOp, nY_convert, nY_fieldAddr, nY_indexAddr, nY_extract, nY_callf, nY_callb, ↓ops_nil, opsIf_some, opsIf_none, condC_true, condC_false, guardC_tt, Option.map_some, Option.bind_some, Option.getD_some, Nat.reduceLT, Bool.false_eq_true, ↓upd_same, ↓upd_ne, Nat.reduceBEq, and_true, List.getD_cons_zero, List.getD_cons_succ, List.getElem?_toArray, List.getElem?_cons_zero, List.getElem?_cons_succ, endQ, cfg_P, cfg_tab, cfg_muts, cfg_frz, cfg_num, numOf_eq, List.length_map, ↓havoc_in, ↓havoc_out, List.contains_cons, List.contains_nil, Bool.or_false, Bool.or_true, Int.natCast_nonneg, Int.ofNat_lt, Int.toNat_natCast, decide_true, decide_false, Option.some.injEq, exists_eq_left', List.lookup_cons, List.lookup_nil, tabOf_cons, tab_v, Bool.and_self, Nat.reduceEqDiff, List.cons_append, List.nil_append, List.append_nil, updO_same, updO_ne, List.length_cons, List.length_nil, Nat.zero_add, Nat.add_zero, List.drop_zero, List.take_zero, Nat.reduceAdd, List.replicate_zero, List.set_cons_zero, Nat.reduceMul, Nat.reduceLeDiff, nth_zero, Nat.lt_irrefl, Nat.lt_succ_self, reduceCtorEq, not_false_eq_true, Int.reduceEq, Int.reduceLT, Int.reduceLE, Int.reduceToNat, or_false, Nat.le_refl, cells_int, pur_int, rdC_int, isCell_int, pur_lits, rdP_lits, isCell_lits, cells_ref, rdC_ref, cells_agg, pur_agg, rdP_agg, DRx_bool, ↓ev_tmp, ↓ev_int, ↓ev_func, ↓guardP_eq, grd_some, ↓iop_move, ↓iop_assign, ↓pick3_bool, ↓iop_pick, ↓iop_alloc, ↓iop_build, ↓iop_buildSlice, ↓iop_load, ↓iop_store, ↓iop_binOp, ↓iop_convert, ↓iop_fieldAddr, ↓iop_indexAddr, idxA_int, ↓iop_extract, extr_tuple, ↓iop_callv, ↓iop_callb, nrmAll_cons, nrmAll_nil, bi_len, lenM_none, bi_append_re, appGuard_lits, nrm_agg, nrmL_cons, nrmL_nil, nrm_lits, nrm1_int, nrm1_ref, pickP_f, pickP_t, loadP_vptr, loadP_ptr, setCells_agg, storeP_ptr, fieldP_vptr, fieldP_ptr, indexP_ref, indexP_vptr, indexP_ptr, lenP_lits, lenP_ref, elemsP_lits, appendP_ref, b_add, b_sub, b_rem, b_eql, b_lss, b_leq, b_gtr, cv_int, fill_nil, fill_cons, fill1_some, buildP_eq, bldA_none, bel_nil, splice_eq, env0_eq, ires_eq, iresL_1, iresAll_nil, iresAll_cons, iresOne_tmp, frzP_eq, rdAll_cons, rdAll_nil, rdL_cons, rdL_nil, valT_eq, pursL_cons, pursL_nil, Store.new, Store.set, ↓reduceIte, Int.natCast_eq_zero, arr_eq, arrB_some, callP_eq, bslP_eq, ne_eq, List.take_succ_cons, List.drop_succ_cons, List.drop_nil, List.take_nil, ↓evs_cons, ↓evs_nil, ↓evp_cons, ↓evp_nil, only_obj, idsOf_cons, idsOf_nil, idC_lits, idC_agg, idL_cons, idL_nil, idE_ref, idE_int, beq_self_eq_true, List.all_cons, List.all_nil, see_eq, and_false, Bool.true_eq_false, Int.cast_ofNat_Int, s_sanity, nth_lnks, pur_lnks, nth_snds, pur_snds, nth_lss, pur_lss, lkC_len, lkC_0, lkC_1, lkC_cap, lkC_pri, lkC_take, pur_lkC, Nat.mul_one, Try.f6, ty3, ty22, ty24, ty29, ty48, ty54, ty55, ty57, ty59, h16, h15, o0, o1, wL, cL, hrm, wr1, wr2, ne1, wq, wrr, wss, hn0, hn1, hn2, e11, e21, re_arr', reP_arr', reM_arr, rePM_arr, iop_alloc_re, g1, g2, hkk, hhh, hkl, hhl, hli, hlm, hcc, lkC_drop, ht1, ht2, hh49, hll3, hll4, htm]
theorem o_law25 : O_law25 := k_law25 c_law25
end Sim
