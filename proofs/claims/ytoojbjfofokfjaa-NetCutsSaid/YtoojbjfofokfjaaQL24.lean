/- What functions of this seat compute, by values: contracts (lemmas of the statement's proof, under the conditions that each names). -/
import Derived.Test.YtoojbjfofokfjaaQY
namespace Sim
open Go Go.Proofs
set_option maxRecDepth 10000
set_option maxHeartbeats 2000000
set_option linter.unusedVariables false
set_option linter.unusedSimpArgs false
attribute [local congr] opsIf_congr condC_congr guardC_congr grd_congr pick3_congr obind_congr omap_congr
/-- The bit of a house in a set. -/
def bitS (s : Nat) (h : Int) : Nat := s / 2 ^ h.toNat % 2
theorem bitS_lt (s : Nat) (h : Int) : bitS s h = 0 ∨ bitS s h = 1 := by unfold bitS; omega
def cutS (ls : List Lnk) (d : Dem) (s : Nat) (x : Snd) : Int :=
  if d.2.2.2.2 ≤ x.2.1 then 0 else if bitS s (linkM ls x).1 = 1 ∧ bitS s (linkM ls x).2.1 = 0 then x.2.2 else if bitS s (linkM ls x).1 = 0 ∧ bitS s (linkM ls x).2.1 = 1 then -x.2.2 else 0
theorem Sm_in {s : Nat} {x v : Int} {n : Nat} (h : 0 ≤ x ∧ x < (n : Int)) : Sm (fun a : Nat => if bitS s (a : Int) = 1 then (if x = (a : Int) then v else 0) else 0) n = if bitS s x = 1 then v else 0 := by
  rw [Sm_eq (g := fun a : Nat => if x = (a : Int) then (if bitS s x = 1 then v else 0) else 0), Sm_one, if_pos h]
  intro i hi
  by_cases e : x = (i : Int)
  · rw [← e]; simp
  · simp [e]
theorem cut_sum {hn : Int} {ls : List Lnk} {l : List Snd} {d : Dem} (h : Serving hn ls l d) {s : Nat} (hf : bitS s d.1 = 1) (ht : bitS s d.2.1 = 0) : Sm (fun i => cutS ls d s (l.getD i dS)) l.length = d.2.2.1 := by
  have hnn : ((hn.toNat : Nat) : Int) = hn := by have := h.from_; omega
  have hd := h.dem
  unfold demR at hd
  have htot := have_sum h d.2.2.2.2
  rw [if_pos hd.2.2.2.1] at htot
  -- what lies in the set before the end
  have hzero : Sm (fun a : Nat => if bitS s (a : Int) = 1 then haveM ls l d (a : Int) d.2.2.2.2 else 0) hn.toNat = 0 := by
    have h1 := Sm_nonneg (f := fun a : Nat => if bitS s (a : Int) = 1 then haveM ls l d (a : Int) d.2.2.2.2 else 0) (n := hn.toNat) fun i _ => by
      have := have_nonneg h (i : Int) d.2.2.2.2
      split <;> omega
    have h2 := Sm_at (f := fun a : Nat => if bitS s (a : Int) = 1 then 0 else haveM ls l d (a : Int) d.2.2.2.2) (n := hn.toNat) (k := d.2.1.toNat) (fun i _ => by
      have := have_nonneg h (i : Int) d.2.2.2.2
      split <;> omega) (by have := h.to_; omega)
    have e : ((d.2.1.toNat : Nat) : Int) = d.2.1 := by have := h.to_; omega
    rw [e, if_neg (by rw [ht]; decide)] at h2
    have h3 := Sm_add (f := fun a : Nat => if bitS s (a : Int) = 1 then haveM ls l d (a : Int) d.2.2.2.2 else 0) (g := fun a : Nat => if bitS s (a : Int) = 1 then 0 else haveM ls l d (a : Int) d.2.2.2.2) hn.toNat
    rw [Sm_eq (g := fun a : Nat => haveM ls l d (a : Int) d.2.2.2.2) (fun i _ => by split <;> omega), htot] at h3
    have := h.late
    omega
  have e0 : Sm (fun a : Nat => if bitS s (a : Int) = 1 then have0 d (a : Int) d.2.2.2.2 else 0) hn.toNat = d.2.2.1 := by
    rw [Sm_eq (g := fun a : Nat => if bitS s (a : Int) = 1 then (if d.1 = (a : Int) then d.2.2.1 else 0) else 0), Sm_in (by rw [hnn]; exact h.from_), if_pos hf]
    intro i hi
    unfold have0
    by_cases e : (i : Int) = d.1
    · rw [if_pos (show (i : Int) = d.1 ∧ d.2.2.2.1 ≤ d.2.2.2.2 from ⟨e, hd.2.2.2.1⟩), if_pos (show d.1 = (i : Int) from e.symm)]
    · rw [if_neg (show ¬ ((i : Int) = d.1 ∧ d.2.2.2.1 ≤ d.2.2.2.2) from fun g => e g.1), if_neg (show ¬ d.1 = (i : Int) from fun g => e g.symm)]
  have e1 : Sm (fun a : Nat => if bitS s (a : Int) = 1 then haveT ls l (a : Int) d.2.2.2.2 l.length else 0) hn.toNat = 0 - Sm (fun i => cutS ls d s (l.getD i dS)) l.length := by
    rw [Sm_eq (g := fun a : Nat => Sm (fun i => if bitS s (a : Int) = 1 then haveS ls (l.getD i dS) (a : Int) d.2.2.2.2 else 0) l.length) (fun a _ => by
      split
      · rw [haveT_Sm]
      · rw [Sm_zero]), ← Sm_swap (f := fun a i => if bitS s (a : Int) = 1 then haveS ls (l.getD i dS) (a : Int) d.2.2.2.2 else 0)]
    have hz := Sm_sub (f := fun _ => 0) (g := fun i => cutS ls d s (l.getD i dS)) l.length
    rw [Sm_zero] at hz
    rw [← hz]
    refine Sm_eq fun i hi => ?_
    obtain ⟨g1, g2, g3⟩ := ends h.ok hi
    unfold cutS
    by_cases c : d.2.2.2.2 ≤ (l.getD i dS).2.1
    · rw [if_pos c, Sm_eq (g := fun _ => 0) (fun a _ => by unfold haveS; rw [if_neg (show ¬ (l.getD i dS).2.1 < d.2.2.2.2 by omega)]; split <;> rfl), Sm_zero]; rfl
    · rw [if_neg c, Sm_eq (g := fun a : Nat => (if bitS s (a : Int) = 1 then (if (linkM ls (l.getD i dS)).2.1 = (a : Int) then (l.getD i dS).2.2 else 0) else 0) - (if bitS s (a : Int) = 1 then (if (linkM ls (l.getD i dS)).1 = (a : Int) then (l.getD i dS).2.2 else 0) else 0)) (fun a _ => by
        unfold haveS; rw [if_pos (show (l.getD i dS).2.1 < d.2.2.2.2 by omega)]
        by_cases b : bitS s (a : Int) = 1
        · rw [if_pos b, if_pos b, if_pos b]
        · rw [if_neg b, if_neg b, if_neg b]; rfl), Sm_sub, Sm_in (by rw [hnn]; exact g2), Sm_in (by rw [hnn]; exact g1)]
      generalize l.getD i dS = x at *
      rcases bitS_lt s (linkM ls x).1 with b1 | b1 <;> rcases bitS_lt s (linkM ls x).2.1 with b2 | b2 <;> simp [b1, b2]
  have e2 := Sm_add (f := fun a : Nat => if bitS s (a : Int) = 1 then have0 d (a : Int) d.2.2.2.2 else 0) (g := fun a : Nat => if bitS s (a : Int) = 1 then haveT ls l (a : Int) d.2.2.2.2 l.length else 0) hn.toNat
  rw [Sm_eq (g := fun a : Nat => if bitS s (a : Int) = 1 then haveM ls l d (a : Int) d.2.2.2.2 else 0) (fun a _ => by
    unfold haveM
    split <;> rfl), hzero, e0, e1] at e2
  omega
theorem shr_u16 {s : Nat} {h : Int} (h0 : 0 ≤ h) : ((s : Int)).fdiv (2 ^ h.toNat) = ((s / 2 ^ h.toNat : Nat) : Int) := by
  rw [Int.fdiv_eq_ediv_of_nonneg _ (by exact Int.pow_nonneg (by decide))]; rfl
theorem and_u16 {x : Nat} (h : x < 65536) : intBitsP .and .u16 (x : Int) 1 = some ((x % 2 : Nat) : Int) := by
  have e : (BitVec.ofInt 16 (x : Int) &&& BitVec.ofInt 16 1).toNat = x % 2 := by
    rw [BitVec.ofInt_natCast, show BitVec.ofInt 16 1 = BitVec.ofNat 16 (2 ^ 1 - 1) from rfl, BitVec.toNat_and, BitVec.toNat_ofNat, BitVec.toNat_ofNat, Nat.mod_eq_of_lt (a := x) (by omega), Nat.mod_eq_of_lt (by omega), Nat.and_two_pow_sub_one_eq_mod]
  show some (IntKind.u16.wrap ((BitVec.ofInt 16 (x : Int) &&& BitVec.ofInt 16 1).toNat : Int)) = _
  rw [e]
  congr 1
  simp [IntKind.wrap, IntKind.bits, IntKind.signed]; omega
theorem bit_u16 {s : Nat} (hs : s < 65536) (h : Int) : intBitsP .and .u16 ((s / 2 ^ h.toNat : Nat) : Int) 1 = some (bitS s h : Int) := and_u16 (Nat.lt_of_le_of_lt (Nat.div_le_self _ _) hs)
theorem cut_bnd {hn : Int} {ls : List Lnk} {l : List Snd} (ok : OKr hn ls l) (d : Dem) (s : Nat) : ∀ n, n ≤ l.length → -(1073741824 * (n : Int)) ≤ Sm (fun i => cutS ls d s (l.getD i dS)) n ∧ Sm (fun i => cutS ls d s (l.getD i dS)) n ≤ 1073741824 * (n : Int)
  | 0, _ => by simp [Sm]
  | n + 1, h => by
    have ih := cut_bnd ok d s n (by omega)
    have hb := ok.bytes n (by omega)
    have : -1073741824 ≤ cutS ls d s (l.getD n dS) ∧ cutS ls d s (l.getD n dS) ≤ 1073741824 := by
      unfold cutS
      split
      · omega
      · split
        · omega
        · split <;> omega
    simp only [Sm]; omega
noncomputable def A_law24 : (Int) × (List Lnk) × (List Snd) × (Dem) × (Nat) → List PV := fun (hn, ls, l, d, s) => [.agg [I hn, lnks ls], snds l, demV d, .int .u16 s]
noncomputable def R_law24 : (Int) × (List Lnk) × (List Snd) × (Dem) × (Nat) → PV := fun (hn, ls, l, d, s) => B true
def H_law24 : (Int) × (List Lnk) × (List Snd) × (Dem) × (Nat) → Prop := fun (hn, ls, l, d, s) => s < 65536
noncomputable def e_law24 : Nat × Ent := (5, .v (specOf A_law24 R_law24 H_law24))
theorem j_law24 : ∀ i j, A_law24 i = A_law24 j → i = j := by
  rintro ⟨hn₁, ls₁, l₁, d₁, s₁⟩ ⟨hn₂, ls₂, l₂, d₂, s₂⟩ h
  simp only [A_law24, List.cons.injEq, and_true, PV.lits.injEq, PV.int.injEq, PV.bool.injEq, PV.str.injEq, PV.agg.injEq, PV.func.injEq, PV.vptr.injEq, true_and, List.map_nil, inj_ints, inj_strs, inj_lnks, inj_snds, inj_lss] at h
  simp [Prod.ext_iff, h] <;> omega
theorem s_law24 (hn : Int) (ls : List Lnk) (l : List Snd) (d : Dem) (s : Nat) : specOf A_law24 R_law24 H_law24 [.agg [I hn, lnks ls], snds l, demV d, .int .u16 s] = @ite (Option (PV)) (s < 65536) (Classical.propDecidable _) (some (B true)) none := specOf_if j_law24 (hn, ls, l, d, s)
def C_law24 : Prop := ∀ (hn : Int) (ls : List Lnk) (l : List Snd) (d : Dem) (s : Nat) (h : s < 65536) , VC Try.prog 5 [.agg [I hn, lnks ls], snds l, demV d, .int .u16 s] (B true)
def O_law24 : Prop := EntOK Try.prog e_law24.1 e_law24.2
theorem k_law24 (c : C_law24) : O_law24 := specOf_ok fun ⟨hn, ls, l, d, s⟩ h => c hn ls l d s h
theorem c_law24 : C_law24 := by
  intro hn ls l d s hs16
  refine vc_ofU mixed (l := [e_few, e_sanity, e_serves]) ((eok_cons o_few (eok_cons o_sanity (eok_cons o_serves eok_nil)))) [] [49, 50, 53, 54, 55, 56, 57]  Try.func5 rfl (by decide +kernel) (N := 115) rfl (by simp) rfl (by kernel_rfl) fun hs => ?_
  simp only [smallL, PV.small, List.length_map, and_true, true_and] at hs
  have hfew : specOf A_few R_few H_few [.agg [I hn, lnks ls], .lits 1 [.lits 3 (l.map sndV)], I 60] = some (B (fewM ls [l] 60)) := s_few hn ls [l] 60
  cases hf : fewM ls [l] 60
  · simp +contextual (maxSteps := 4000000) only [↓ur_seq, ↓ur_ret, ↓ur_region, ↓ur_cond, ↓cont_seq, ↓done_nil, ↓done_seq, ↓ops_consN, ↓ops_guardN, nY_move, nY_assign, nY_pick, nY_box, nY_buildSlice, nY_load, nY_binOp, nY_unOp, nY_fieldAddr, nY_callf, ↓ops_nil, opsIf_some, condC_true, guardC_tf, Option.map_some, Option.bind_some, Option.getD_some, Nat.reduceLT, Bool.false_eq_true, ↓upd_same, ↓upd_ne, Nat.reduceBEq, and_true, List.getD_cons_zero, List.getD_cons_succ, List.getElem?_toArray, List.getElem?_cons_zero, List.getElem?_cons_succ, endQ, cfg_P, cfg_tab, cfg_muts, cfg_frz, List.contains_cons, List.contains_nil, Bool.or_false, Option.some.injEq, exists_eq_left', List.lookup_cons, List.lookup_nil, tabOf_cons, tab_v, Bool.and_self, Nat.reduceEqDiff, List.nil_append, List.append_nil, List.length_cons, List.length_nil, Nat.zero_add, List.drop_zero, Nat.reduceAdd, List.replicate_succ, List.replicate_zero, List.set_cons_zero, Nat.reduceLeDiff, Nat.lt_succ_self, Bool.not_false, st0, Nat.le_refl, pur_int, cells_lits, pur_lits, cells_agg, pur_agg, DRx_bool, ↓ev_tmp, ↓ev_int, ↓ev_bool, ↓ev_func, ↓guardP_eq, grd_some, ↓iop_move, ↓iop_assign, ↓pick3_bool, ↓iop_pick, ↓iop_box, ↓iop_buildSlice, ↓iop_load, ↓iop_unOp, ↓iop_callv, nrmAll_cons, nrmAll_nil, nrm_agg, nrmL_cons, nrmL_nil, nrm_int, nrm_lits, nrm1_int, nrm1_lits, pickP_t, loadP_vptr, u_not, bel_nil, bel_cons, env0_eq, ires_eq, iresL_1, iresAll_nil, iresAll_cons, iresOne_tmp, valT_eq, pursL_cons, pursL_nil, ↓reduceIte, callP_eq, boxP_eq, bslP_eq, List.take_succ_cons, List.take_nil, ↓evs_cons, ↓evs_nil, ↓evp_cons, ↓evp_nil, beq_self_eq_true, see_eq, and_false, Bool.true_eq_false, e_few, e_sanity, s_sanity, e_serves, nth_lnks, pur_lnks, nth_snds, pur_snds, nth_lss, pur_lss, lkC_len, lkC_0, lkC_1, lkC_cap, lkC_pri, lkC_take, pur_lkC, Nat.mul_one, Try.f5, ty3, ty24, ty25, ty29, hfew, hf]
  by_cases hs : servesM hn ls l d = 0
  case neg => simp +contextual (maxSteps := 4000000) only [↓ur_seq, ↓ur_ret, ↓ur_region, ↓ur_cond, ↓cont_seq, ↓done_nil, ↓done_seq, ↓ops_consN, ↓ops_guardN, nY_move, nY_assign, nY_pick, nY_box, nY_buildSlice, nY_load, nY_binOp, nY_unOp, nY_fieldAddr, nY_callf, ↓ops_nil, opsIf_some, condC_true, guardC_tf, guardC_ff, Option.map_some, Option.bind_some, Option.getD_some, Nat.reduceLT, Bool.false_eq_true, ↓upd_same, ↓upd_ne, Nat.reduceBEq, and_true, List.getD_cons_zero, List.getD_cons_succ, List.getElem?_toArray, List.getElem?_cons_zero, List.getElem?_cons_succ, endQ, cfg_P, cfg_tab, cfg_muts, cfg_frz, List.contains_cons, List.contains_nil, Bool.or_false, decide_true, Option.some.injEq, exists_eq_left', List.lookup_cons, List.lookup_nil, tabOf_cons, tab_v, Bool.and_self, Nat.reduceEqDiff, List.nil_append, List.append_nil, List.length_cons, List.length_nil, Nat.zero_add, List.drop_zero, Nat.reduceAdd, List.replicate_succ, List.replicate_zero, List.set_cons_zero, Nat.reduceLeDiff, Nat.lt_succ_self, Bool.not_true, not_false_eq_true, st0, Nat.le_refl, pur_int, cells_lits, pur_lits, cells_agg, pur_agg, DRx_bool, ↓ev_tmp, ↓ev_int, ↓ev_bool, ↓ev_func, ↓guardP_eq, grd_some, ↓iop_move, ↓iop_assign, ↓pick3_bool, ↓iop_pick, ↓iop_box, ↓iop_buildSlice, ↓iop_load, ↓iop_binOp, ↓iop_unOp, ↓iop_callv, nrmAll_cons, nrmAll_nil, nrm_agg, nrmL_cons, nrmL_nil, nrm_int, nrm_lits, nrm1_int, nrm1_lits, pickP_t, loadP_vptr, b_neq, u_not, bel_nil, bel_cons, env0_eq, ires_eq, iresL_1, iresAll_nil, iresAll_cons, iresOne_tmp, valT_eq, pursL_cons, pursL_nil, ↓reduceIte, callP_eq, boxP_eq, bslP_eq, List.take_succ_cons, List.take_nil, ↓evs_cons, ↓evs_nil, ↓evp_cons, ↓evp_nil, beq_self_eq_true, see_eq, and_false, Bool.true_eq_false, e_few, e_sanity, s_sanity, e_serves, s_serves, nth_lnks, pur_lnks, nth_snds, pur_snds, nth_lss, pur_lss, lkC_len, lkC_0, lkC_1, lkC_cap, lkC_pri, lkC_take, pur_lkC, Nat.mul_one, Try.f5, ty3, ty24, ty25, ty29, ty48, hfew, hf, hs]
  have sv := serves_iff.1 hs
  have ok := sv.ok
  have hlen := ok.len
  have hhn := ok.net.houses
  have shf := sv.from_
  have sht := sv.to_
  have hle : ∀ h : Int, 0 ≤ h → h < hn → h.toNat ≤ 16 := fun h h1 h2 => by omega
  have hsh : ∀ h : Int, 0 ≤ h → h < hn → (s : Int).fdiv (2 ^ h.toNat) = ((s / 2 ^ h.toNat : Nat) : Int) := fun h h1 h2 => shr_u16 h1
  have hb := fun h => bit_u16 hs16 h
  have sf := hsh d.1 shf.1 shf.2
  have st := hsh d.2.1 sht.1 sht.2
  have nf : ¬ d.1 < 0 := by omega
  have nt : ¬ d.2.1 < 0 := by omega
  have lf := hle d.1 shf.1 shf.2
  have lt := hle d.2.1 sht.1 sht.2
  have bits16 : IntKind.u16.bits = 16 := rfl
  by_cases c1 : bitS s d.1 = 0
  · simp +contextual (maxSteps := 4000000) only [↓ur_seq, ↓ur_ret, ↓ur_region, ↓ur_cond, ↓cont_seq, ↓done_nil, ↓done_seq, ↓ops_consN, ↓ops_guardN, nY_move, nY_assign, nY_pick, nY_box, nY_buildSlice, nY_load, nY_binOp, nY_unOp, nY_fieldAddr, nY_callf, ↓ops_nil, opsIf_some, condC_true, guardC_tf, guardC_ff, Option.map_some, Option.bind_some, Option.getD_some, Nat.reduceLT, Bool.false_eq_true, ↓upd_same, ↓upd_ne, Nat.reduceBEq, and_true, List.getD_cons_zero, List.getD_cons_succ, List.getElem?_toArray, List.getElem?_cons_zero, List.getElem?_cons_succ, endQ, cfg_P, cfg_tab, cfg_muts, cfg_frz, List.contains_cons, List.contains_nil, Bool.or_false, decide_true, decide_false, Option.some.injEq, exists_eq_left', List.lookup_cons, List.lookup_nil, tabOf_cons, tab_v, Bool.and_self, Nat.reduceEqDiff, List.nil_append, List.append_nil, List.length_cons, List.length_nil, Nat.zero_add, Nat.add_zero, List.drop_zero, Nat.reduceAdd, List.replicate_succ, List.replicate_zero, List.set_cons_zero, Nat.reduceLeDiff, Nat.lt_succ_self, Bool.not_true, not_true_eq_false, st0, Nat.le_refl, pur_int, cells_lits, pur_lits, cells_agg, pur_agg, DRx_bool, ↓ev_tmp, ↓ev_int, ↓ev_bool, ↓ev_func, ↓guardP_eq, grd_some, ↓iop_move, ↓iop_assign, ↓pick3_bool, ↓iop_pick, ↓iop_box, ↓iop_buildSlice, ↓iop_load, ↓iop_binOp, ↓iop_unOp, ↓iop_fieldAddr, ↓iop_callv, nrmAll_cons, nrmAll_nil, nrm_agg, nrmL_cons, nrmL_nil, nrm_int, nrm_lits, nrm1_int, nrm1_lits, pickP_f, pickP_t, loadP_vptr, fieldP_vptr, b_and, b_eql, b_neq, b_shr, u_not, bel_nil, bel_cons, env0_eq, ires_eq, iresL_1, iresAll_nil, iresAll_cons, iresOne_tmp, valT_eq, pursL_cons, pursL_nil, ↓reduceIte, callP_eq, boxP_eq, bslP_eq, List.take_succ_cons, List.take_nil, ↓evs_cons, ↓evs_nil, ↓evp_cons, ↓evp_nil, beq_self_eq_true, see_eq, and_false, Bool.true_eq_false, Nat.min_def, Int.cast_ofNat_Int, e_few, e_sanity, s_sanity, e_serves, s_serves, nth_lnks, pur_lnks, nth_snds, pur_snds, nth_lss, pur_lss, lkC_len, lkC_0, lkC_1, lkC_cap, lkC_pri, lkC_take, pur_lkC, Nat.mul_one, Try.f5, ty3, ty24, ty25, ty29, ty48, hfew, hf, hs, bits16, lf, lt, sf, st, hb, nf, nt, c1]
  by_cases c2 : bitS s d.2.1 = 1
  · have c2i : ((bitS s d.2.1 : Nat) : Int) = 1 := by omega
    simp +contextual (maxSteps := 4000000) only [↓ur_seq, ↓ur_ret, ↓ur_region, ↓ur_cond, ↓cont_seq, ↓done_nil, ↓done_seq, ↓ops_consN, ↓ops_guardN, nY_move, nY_assign, nY_pick, nY_box, nY_buildSlice, nY_load, nY_binOp, nY_unOp, nY_fieldAddr, nY_callf, ↓ops_nil, opsIf_some, condC_true, guardC_ff, Option.map_some, Option.bind_some, Option.getD_some, Nat.reduceLT, Bool.false_eq_true, ↓upd_same, ↓upd_ne, Nat.reduceBEq, and_true, List.getD_cons_zero, List.getD_cons_succ, List.getElem?_toArray, List.getElem?_cons_zero, List.getElem?_cons_succ, endQ, cfg_P, cfg_tab, cfg_muts, cfg_frz, List.contains_cons, List.contains_nil, Bool.or_false, decide_true, decide_false, Option.some.injEq, exists_eq_left', List.lookup_cons, List.lookup_nil, tabOf_cons, tab_v, Bool.and_self, Nat.reduceEqDiff, List.nil_append, List.append_nil, List.length_cons, List.length_nil, Nat.zero_add, Nat.add_zero, List.drop_zero, Nat.reduceAdd, List.replicate_succ, List.replicate_zero, List.set_cons_zero, Nat.reduceLeDiff, Nat.lt_succ_self, Bool.not_true, not_true_eq_false, st0, Nat.le_refl, pur_int, cells_lits, pur_lits, cells_agg, pur_agg, DRx_bool, ↓ev_tmp, ↓ev_int, ↓ev_bool, ↓ev_func, ↓guardP_eq, grd_some, ↓iop_move, ↓iop_assign, ↓pick3_bool, ↓iop_pick, ↓iop_box, ↓iop_buildSlice, ↓iop_load, ↓iop_binOp, ↓iop_unOp, ↓iop_fieldAddr, ↓iop_callv, nrmAll_cons, nrmAll_nil, nrm_agg, nrmL_cons, nrmL_nil, nrm_int, nrm_lits, nrm1_int, nrm1_lits, pickP_f, pickP_t, loadP_vptr, fieldP_vptr, b_and, b_eql, b_neq, b_shr, u_not, bel_nil, bel_cons, env0_eq, ires_eq, iresL_1, iresAll_nil, iresAll_cons, iresOne_tmp, valT_eq, pursL_cons, pursL_nil, ↓reduceIte, Int.natCast_eq_zero, callP_eq, boxP_eq, bslP_eq, List.take_succ_cons, List.take_nil, ↓evs_cons, ↓evs_nil, ↓evp_cons, ↓evp_nil, beq_self_eq_true, see_eq, and_false, Bool.true_eq_false, Nat.min_def, Int.cast_ofNat_Int, e_few, e_sanity, s_sanity, e_serves, s_serves, nth_lnks, pur_lnks, nth_snds, pur_snds, nth_lss, pur_lss, lkC_len, lkC_0, lkC_1, lkC_cap, lkC_pri, lkC_take, pur_lkC, Nat.mul_one, Try.f5, ty3, ty24, ty25, ty29, ty48, hfew, hf, hs, bits16, lf, lt, sf, st, hb, nf, nt, c1, c2, c2i]
  have hcut := cut_sum sv (s := s) (by rcases bitS_lt s d.1 with b | b <;> omega) (by rcases bitS_lt s d.2.1 with b | b <;> omega)
  have hbnd := cut_bnd ok d s
  have hrec : ∀ n, Sm (fun i => cutS ls d s (l.getD i dS)) (n + 1) = Sm (fun i => cutS ls d s (l.getD i dS)) n + cutS ls d s (l.getD n dS) := fun _ => rfl
  have hS0 : Sm (fun i => cutS ls d s (l.getD i dS)) 0 = 0 := rfl
  generalize (Sm fun i => cutS ls d s (l.getD i dS)) = S at *
  have c2i : ¬ ((bitS s d.2.1 : Nat) : Int) = 1 := by omega
  simp +contextual (maxSteps := 4000000) only [↓ur_skip, ↓ur_seq, ↓ur_block, ↓ur_region, ↓ur_cond, ↓cont_seq, ↓ops_consN, ↓ops_guardN, nY_move, nY_assign, nY_pick, nY_box, nY_buildSlice, nY_load, nY_binOp, nY_unOp, nY_fieldAddr, nY_callf, ↓ops_nil, opsIf_some, condC_false, guardC_ff, Option.map_some, Option.bind_some, Option.getD_some, Nat.reduceLT, Bool.false_eq_true, ↓upd_same, ↓upd_ne, Nat.reduceBEq, true_and, and_true, List.getD_cons_zero, List.getD_cons_succ, List.getElem?_toArray, List.getElem?_cons_zero, List.getElem?_cons_succ, cfg_P, cfg_tab, cfg_muts, cfg_frz, List.contains_cons, List.contains_nil, Bool.or_false, decide_false, List.lookup_cons, List.lookup_nil, tabOf_cons, tab_v, Bool.and_self, Nat.reduceEqDiff, List.nil_append, List.append_nil, List.length_cons, List.length_nil, Nat.zero_add, Nat.add_zero, List.drop_zero, Nat.reduceAdd, List.replicate_succ, List.replicate_zero, List.set_cons_zero, Nat.reduceLeDiff, Nat.lt_succ_self, Bool.not_true, not_true_eq_false, st0, Nat.le_refl, pur_int, cells_lits, pur_lits, cells_agg, pur_agg, ↓ev_tmp, ↓ev_int, ↓ev_bool, ↓ev_func, ↓guardP_eq, grd_some, ↓iop_move, ↓iop_assign, ↓pick3_bool, ↓iop_pick, ↓iop_box, ↓iop_buildSlice, ↓iop_load, ↓iop_binOp, ↓iop_unOp, ↓iop_fieldAddr, ↓iop_callv, nrmAll_cons, nrmAll_nil, nrm_agg, nrmL_cons, nrmL_nil, nrm_int, nrm_lits, nrm1_int, nrm1_lits, pickP_f, pickP_t, loadP_vptr, fieldP_vptr, b_and, b_eql, b_neq, b_shr, u_not, bel_nil, bel_cons, env0_eq, valT_eq, pursL_cons, pursL_nil, ↓reduceIte, Int.natCast_eq_zero, callP_eq, boxP_eq, bslP_eq, List.take_succ_cons, List.take_nil, ↓evs_cons, ↓evs_nil, ↓evp_cons, ↓evp_nil, beq_self_eq_true, see_eq, and_false, Bool.true_eq_false, Nat.min_def, e_few, e_sanity, e_serves, s_serves, nth_lnks, pur_lnks, nth_snds, pur_snds, nth_lss, pur_lss, lkC_len, lkC_0, lkC_1, lkC_cap, lkC_pri, lkC_take, pur_lkC, Nat.mul_one, Try.f5, ty3, ty24, ty25, ty29, ty48, hfew, hf, hs, bits16, lf, lt, sf, st, hb, nf, nt, c1, c2, c2i]
  refine loop_cnt [10, 11, 12, 43, 44, 45, 46, 47, 48, 49, 50, 51, 52, 53, 54, 55, 56, 57, 58, 59, 60, 61, 62, 63, 64, 65, 66, 67, 68, 69, 70, 71, 72, 73, 74, 75, 76, 77, 78, 79, 80, 81, 82, 83, 84, 85, 86, 87, 88, 89, 90, 91, 92, 93, 94, 95, 96, 97, 98, 99, 100, 101, 102, 103, 104, 105, 106, 107] l.length (fun k ρ st' => ρ 11 = I k ∧ ρ 10 = I (S k)) (.refl _) ?_ ?_
  · simp +contextual (maxSteps := 4000000) only [↓upd_same, ↓upd_ne, Nat.reduceBEq, and_true, Int.cast_ofNat_Int, nth_lnks, pur_lnks, nth_snds, pur_snds, nth_lss, pur_lss, lkC_len, lkC_0, lkC_1, lkC_cap, lkC_pri, lkC_take, pur_lkC, Nat.mul_one, Try.f5, hS0]
  · rintro k ρ ⟨ob, M⟩ hk ⟨h11, h10⟩
    by_cases hlt : k < l.length
    · have hw1 := wrapN hlt hlen
      have e1 := ok.link k hlt
      have hbk := ok.bytes k hlt
      obtain ⟨g1, g2, g3⟩ := ends ok hlt
      have hst := hrec k
      have b1 := hbnd k (by omega)
      unfold cutS linkM at hst
      unfold linkM at g1 g2 g3
      generalize hx : l.getD k dS = x at *
      have h5 := toNat_lt' e1.1 e1.2
      have h6 := Int.toNat_of_nonneg e1.1
      generalize x.1.toNat = kk at *
      by_cases c0 : d.2.2.2.2 ≤ x.2.1
      · rw [if_pos c0, Int.add_zero] at hst
        simp +contextual (maxSteps := 4000000) only [↓ur_skip, ↓ur_seq, ↓ur_block, ↓ur_exit, ↓ur_region, ↓ur_cond, ↓cont_seq, ↓cont_lp, ↓leave_seq, ↓leave_blk, ↓ops_consN, nY_move, nY_assign, nY_alloc, nY_load, nY_store, nY_binOp, nY_fieldAddr, nY_indexAddr, nY_callb, ↓ops_nil, opsIf_some, opsIf_none, condC_true, Option.map_some, Option.bind_some, Option.getD_some, Nat.reduceLT, Bool.false_eq_true, ↓upd_same, ↓upd_ne, Nat.reduceBEq, and_true, List.getD_cons_zero, List.getD_cons_succ, List.getElem?_cons_zero, List.getElem?_cons_succ, cfg_P, cfg_frz, cfg_num, numOf_eq, List.length_map, ↓havoc_in, ↓havoc_out, agree_upd, agree_havoc, List.contains_cons, List.contains_nil, Bool.or_false, Bool.or_true, Int.natCast_nonneg, Int.ofNat_lt, Int.toNat_natCast, decide_true, List.nil_append, List.append_nil, updO_same, List.length_cons, List.length_nil, Nat.zero_add, Nat.add_zero, List.drop_zero, List.take_zero, Nat.reduceAdd, List.set_cons_zero, nth_zero, Nat.lt_succ_self, Nat.le_refl, cells_agg, ↓ev_tmp, ↓ev_int, ↓iop_move, ↓iop_assign, ↓iop_alloc, ↓iop_load, ↓iop_store, ↓iop_binOp, ↓iop_fieldAddr, ↓iop_indexAddr, idxA_int, ↓iop_callb, bi_len, lenM_none, pickP_f, pickP_t, loadP_vptr, setCells_agg, storeP_ptr, fieldP_vptr, indexP_lits, lenP_lits, b_add, b_lss, b_geq, splice_eq, env0_eq, Store.new, Store.set, ↓reduceIte, arr_eq, arrB_some, List.drop_succ_cons, List.drop_nil, ↓evs_cons, ↓evs_nil, beq_self_eq_true, see_eq, nth_lnks, pur_lnks, nth_snds, pur_snds, nth_lss, pur_lss, lkC_len, lkC_0, lkC_1, lkC_cap, lkC_pri, lkC_take, pur_lkC, Nat.mul_one, Try.f5, ty3, ty22, ty24, ty29, ty48, ty52, ty57, h11, h10, hlt, hx, e1, h5, ← h6, hw1, c0, hst]
      rw [if_neg c0] at hst
      have u1 := hsh _ g1.1 g1.2
      have u2 := hsh _ g2.1 g2.2
      have v1 := hle _ g1.1 g1.2
      have v2 := hle _ g2.1 g2.2
      have w1 := hb (ls.getD kk dL).1
      have w2 := hb (ls.getD kk dL).2.1
      have z1 : ¬ (ls.getD kk dL).1 < 0 := by omega
      have z2 : ¬ (ls.getD kk dL).2.1 < 0 := by omega
      have y1 := bitS_lt s (ls.getD kk dL).1
      have y2 := bitS_lt s (ls.getD kk dL).2.1
      generalize bitS s (ls.getD kk dL).1 = p at *
      generalize bitS s (ls.getD kk dL).2.1 = q at *
      rcases y1 with rfl | rfl <;> rcases y2 with rfl | rfl
      · simp only [Nat.zero_ne_one, false_and, and_false, if_false, Int.add_zero] at hst
        simp +contextual (maxSteps := 4000000) only [↓ur_skip, ↓ur_seq, ↓ur_block, ↓ur_region, ↓ur_cond, ↓cont_seq, ↓cont_blk, ↓cont_lp, ↓ops_consN, ↓ops_guardN, nY_move, nY_assign, nY_pick, nY_alloc, nY_load, nY_store, nY_binOp, nY_fieldAddr, nY_indexAddr, nY_callb, ↓ops_nil, opsIf_some, opsIf_none, condC_true, condC_false, guardC_tt, guardC_ft, Option.map_some, Option.bind_some, Option.getD_some, Nat.reduceLT, Bool.false_eq_true, ↓upd_same, ↓upd_ne, Nat.reduceBEq, true_and, and_true, List.getD_cons_zero, List.getD_cons_succ, List.getElem?_toArray, List.getElem?_cons_zero, List.getElem?_cons_succ, cfg_P, cfg_frz, cfg_num, numOf_eq, List.length_map, ↓havoc_in, ↓havoc_out, agree_upd, agree_havoc, List.contains_cons, List.contains_nil, Bool.or_false, Bool.or_true, Int.natCast_nonneg, Int.ofNat_lt, Int.toNat_natCast, decide_true, decide_false, List.nil_append, List.append_nil, updO_same, List.length_cons, List.length_nil, Nat.zero_add, Nat.add_zero, List.drop_zero, List.take_zero, Nat.reduceAdd, List.set_cons_zero, nth_zero, Nat.lt_succ_self, Int.reduceEq, Nat.le_refl, cells_agg, ↓ev_tmp, ↓ev_int, ↓ev_bool, ↓guardP_eq, grd_some, ↓iop_move, ↓iop_assign, ↓pick3_bool, ↓iop_pick, ↓iop_alloc, ↓iop_load, ↓iop_store, ↓iop_binOp, ↓iop_fieldAddr, ↓iop_indexAddr, idxA_int, ↓iop_callb, bi_len, lenM_none, pickP_f, pickP_t, loadP_vptr, loadP_ptr, setCells_agg, storeP_ptr, fieldP_vptr, fieldP_ptr, indexP_lits, lenP_lits, b_add, b_and, b_eql, b_lss, b_geq, b_shr, splice_eq, env0_eq, Store.new, Store.set, ↓reduceIte, arr_eq, arrB_some, List.drop_succ_cons, List.drop_nil, ↓evs_cons, ↓evs_nil, beq_self_eq_true, see_eq, Nat.min_def, Int.cast_ofNat_Int, nth_lnks, pur_lnks, nth_snds, pur_snds, nth_lss, pur_lss, lkC_len, lkC_0, lkC_1, lkC_cap, lkC_pri, lkC_take, pur_lkC, Nat.mul_one, Try.f5, ty3, ty22, ty24, ty29, ty48, ty52, ty57, h11, h10, hlt, hx, e1, h5, ← h6, hw1, c0, hst, bits16, u1, u2, v1, v2, w1, w2, z1, z2]
      · simp only [Nat.zero_ne_one, Nat.one_ne_zero, false_and, and_false, and_self, if_false, if_true] at hst
        have hw2 : IntKind.i64.wrap (S k - x.2.2) = S (k + 1) := by rw [hst, wrap64 (by omega) (by omega)]; omega
        simp +contextual (maxSteps := 4000000) only [↓ur_skip, ↓ur_seq, ↓ur_block, ↓ur_region, ↓ur_cond, ↓cont_seq, ↓cont_blk, ↓cont_lp, ↓ops_consN, ↓ops_guardN, nY_move, nY_assign, nY_pick, nY_alloc, nY_load, nY_store, nY_binOp, nY_fieldAddr, nY_indexAddr, nY_callb, ↓ops_nil, opsIf_some, opsIf_none, condC_true, condC_false, guardC_tt, guardC_ft, Option.map_some, Option.bind_some, Option.getD_some, Nat.reduceLT, Bool.false_eq_true, ↓upd_same, ↓upd_ne, Nat.reduceBEq, true_and, and_true, List.getD_cons_zero, List.getD_cons_succ, List.getElem?_toArray, List.getElem?_cons_zero, List.getElem?_cons_succ, cfg_P, cfg_frz, cfg_num, numOf_eq, List.length_map, ↓havoc_in, ↓havoc_out, agree_upd, agree_havoc, List.contains_cons, List.contains_nil, Bool.or_false, Bool.or_true, Int.natCast_nonneg, Int.ofNat_lt, Int.toNat_natCast, decide_true, decide_false, List.nil_append, List.append_nil, updO_same, List.length_cons, List.length_nil, Nat.zero_add, Nat.add_zero, List.drop_zero, List.take_zero, Nat.reduceAdd, List.set_cons_zero, nth_zero, Nat.lt_succ_self, Int.reduceEq, Nat.le_refl, cells_agg, ↓ev_tmp, ↓ev_int, ↓ev_bool, ↓guardP_eq, grd_some, ↓iop_move, ↓iop_assign, ↓pick3_bool, ↓iop_pick, ↓iop_alloc, ↓iop_load, ↓iop_store, ↓iop_binOp, ↓iop_fieldAddr, ↓iop_indexAddr, idxA_int, ↓iop_callb, bi_len, lenM_none, pickP_f, pickP_t, loadP_vptr, loadP_ptr, setCells_agg, storeP_ptr, fieldP_vptr, fieldP_ptr, indexP_lits, lenP_lits, b_add, b_sub, b_and, b_eql, b_lss, b_geq, b_shr, splice_eq, env0_eq, Store.new, Store.set, ↓reduceIte, arr_eq, arrB_some, List.drop_succ_cons, List.drop_nil, ↓evs_cons, ↓evs_nil, beq_self_eq_true, see_eq, Nat.min_def, Int.cast_ofNat_Int, nth_lnks, pur_lnks, nth_snds, pur_snds, nth_lss, pur_lss, lkC_len, lkC_0, lkC_1, lkC_cap, lkC_pri, lkC_take, pur_lkC, Nat.mul_one, Try.f5, ty3, ty22, ty24, ty29, ty48, ty52, ty57, h11, h10, hlt, hx, e1, h5, ← h6, hw1, hw2, c0, bits16, u1, u2, v1, v2, w1, w2, z1, z2]
      · simp only [and_self, if_true] at hst
        have hw2 : IntKind.i64.wrap (S k + x.2.2) = S (k + 1) := by rw [hst, wrap64 (by omega) (by omega)]
        simp +contextual (maxSteps := 4000000) only [↓ur_skip, ↓ur_seq, ↓ur_block, ↓ur_region, ↓ur_cond, ↓cont_seq, ↓cont_blk, ↓cont_lp, ↓ops_consN, ↓ops_guardN, nY_move, nY_assign, nY_pick, nY_alloc, nY_load, nY_store, nY_binOp, nY_fieldAddr, nY_indexAddr, nY_callb, ↓ops_nil, opsIf_some, opsIf_none, condC_true, condC_false, guardC_tt, guardC_ft, Option.map_some, Option.bind_some, Option.getD_some, Nat.reduceLT, Bool.false_eq_true, ↓upd_same, ↓upd_ne, Nat.reduceBEq, true_and, and_true, List.getD_cons_zero, List.getD_cons_succ, List.getElem?_toArray, List.getElem?_cons_zero, List.getElem?_cons_succ, cfg_P, cfg_frz, cfg_num, numOf_eq, List.length_map, ↓havoc_in, ↓havoc_out, agree_upd, agree_havoc, List.contains_cons, List.contains_nil, Bool.or_false, Bool.or_true, Int.natCast_nonneg, Int.ofNat_lt, Int.toNat_natCast, decide_true, decide_false, List.nil_append, List.append_nil, updO_same, List.length_cons, List.length_nil, Nat.zero_add, Nat.add_zero, List.drop_zero, List.take_zero, Nat.reduceAdd, List.set_cons_zero, nth_zero, Nat.lt_succ_self, Int.reduceEq, Nat.le_refl, cells_agg, ↓ev_tmp, ↓ev_int, ↓ev_bool, ↓guardP_eq, grd_some, ↓iop_move, ↓iop_assign, ↓pick3_bool, ↓iop_pick, ↓iop_alloc, ↓iop_load, ↓iop_store, ↓iop_binOp, ↓iop_fieldAddr, ↓iop_indexAddr, idxA_int, ↓iop_callb, bi_len, lenM_none, pickP_f, pickP_t, loadP_vptr, loadP_ptr, setCells_agg, storeP_ptr, fieldP_vptr, fieldP_ptr, indexP_lits, lenP_lits, b_add, b_and, b_eql, b_lss, b_geq, b_shr, splice_eq, env0_eq, Store.new, Store.set, ↓reduceIte, arr_eq, arrB_some, List.drop_succ_cons, List.drop_nil, ↓evs_cons, ↓evs_nil, beq_self_eq_true, see_eq, Nat.min_def, Int.cast_ofNat_Int, nth_lnks, pur_lnks, nth_snds, pur_snds, nth_lss, pur_lss, lkC_len, lkC_0, lkC_1, lkC_cap, lkC_pri, lkC_take, pur_lkC, Nat.mul_one, Try.f5, ty3, ty22, ty24, ty29, ty48, ty52, ty57, h11, h10, hlt, hx, e1, h5, ← h6, hw1, hw2, c0, bits16, u1, u2, v1, v2, w1, w2, z1, z2]
      · simp only [Nat.one_ne_zero, false_and, and_false, if_false, Int.add_zero] at hst
        simp +contextual (maxSteps := 4000000) only [↓ur_skip, ↓ur_seq, ↓ur_block, ↓ur_region, ↓ur_cond, ↓cont_seq, ↓cont_blk, ↓cont_lp, ↓ops_consN, ↓ops_guardN, nY_move, nY_assign, nY_pick, nY_alloc, nY_load, nY_store, nY_binOp, nY_fieldAddr, nY_indexAddr, nY_callb, ↓ops_nil, opsIf_some, opsIf_none, condC_true, condC_false, guardC_tt, guardC_ft, Option.map_some, Option.bind_some, Option.getD_some, Nat.reduceLT, Bool.false_eq_true, ↓upd_same, ↓upd_ne, Nat.reduceBEq, true_and, and_true, List.getD_cons_zero, List.getD_cons_succ, List.getElem?_toArray, List.getElem?_cons_zero, List.getElem?_cons_succ, cfg_P, cfg_frz, cfg_num, numOf_eq, List.length_map, ↓havoc_in, ↓havoc_out, agree_upd, agree_havoc, List.contains_cons, List.contains_nil, Bool.or_false, Bool.or_true, Int.natCast_nonneg, Int.ofNat_lt, Int.toNat_natCast, decide_true, decide_false, List.nil_append, List.append_nil, updO_same, List.length_cons, List.length_nil, Nat.zero_add, Nat.add_zero, List.drop_zero, List.take_zero, Nat.reduceAdd, List.set_cons_zero, nth_zero, Nat.lt_succ_self, Int.reduceEq, Nat.le_refl, cells_agg, ↓ev_tmp, ↓ev_int, ↓ev_bool, ↓guardP_eq, grd_some, ↓iop_move, ↓iop_assign, ↓pick3_bool, ↓iop_pick, ↓iop_alloc, ↓iop_load, ↓iop_store, ↓iop_binOp, ↓iop_fieldAddr, ↓iop_indexAddr, idxA_int, ↓iop_callb, bi_len, lenM_none, pickP_f, pickP_t, loadP_vptr, loadP_ptr, setCells_agg, storeP_ptr, fieldP_vptr, fieldP_ptr, indexP_lits, lenP_lits, b_add, b_and, b_eql, b_lss, b_geq, b_shr, splice_eq, env0_eq, Store.new, Store.set, ↓reduceIte, arr_eq, arrB_some, List.drop_succ_cons, List.drop_nil, ↓evs_cons, ↓evs_nil, beq_self_eq_true, see_eq, Nat.min_def, Int.cast_ofNat_Int, nth_lnks, pur_lnks, nth_snds, pur_snds, nth_lss, pur_lss, lkC_len, lkC_0, lkC_1, lkC_cap, lkC_pri, lkC_take, pur_lkC, Nat.mul_one, Try.f5, ty3, ty22, ty24, ty29, ty48, ty52, ty57, h11, h10, hlt, hx, e1, h5, ← h6, hw1, c0, hst, bits16, u1, u2, v1, v2, w1, w2, z1, z2]
    · have e : k = l.length := by omega
      subst e
      rw [hcut] at h10
      simp +contextual (maxSteps := 4000000) only [↓ur_seq, ↓ur_exit, ↓ur_ret, ↓ur_region, ↓ur_cond, ↓cont_seq, ↓leave_seq, ↓leave_blk, ↓leave_lp, ↓done_nil, ↓ops_consN, ↓ops_guardN, nY_move, nY_assign, nY_pick, nY_load, nY_binOp, nY_fieldAddr, nY_callf, nY_callb, ↓ops_nil, opsIf_some, condC_false, guardC_tt, Option.map_some, Option.bind_some, Option.getD_some, Nat.reduceLT, Bool.false_eq_true, ↓upd_same, ↓upd_ne, Nat.reduceBEq, and_true, List.getD_cons_zero, List.getD_cons_succ, List.getElem?_toArray, List.getElem?_cons_zero, List.getElem?_cons_succ, endQ, cfg_P, cfg_tab, cfg_muts, cfg_frz, List.length_map, ↓havoc_in, ↓havoc_out, List.contains_cons, List.contains_nil, Bool.or_false, Bool.or_true, Int.ofNat_lt, decide_true, decide_false, Option.some.injEq, exists_eq_left', tabOf_cons, tab_v, Nat.reduceEqDiff, List.append_nil, Nat.zero_add, Nat.lt_irrefl, Nat.lt_succ_self, DRx_bool, ↓ev_tmp, ↓ev_func, ↓guardP_eq, grd_some, ↓iop_move, ↓iop_assign, ↓pick3_bool, ↓iop_pick, ↓iop_load, ↓iop_binOp, ↓iop_fieldAddr, ↓iop_callv, ↓iop_callb, nrmAll_nil, bi_len, lenM_none, pickP_f, loadP_vptr, fieldP_vptr, lenP_lits, b_eql, b_lss, env0_eq, ires_eq, iresL_1, iresAll_nil, iresAll_cons, iresOne_tmp, valT_eq, pursL_nil, ↓reduceIte, callP_eq, ↓evs_cons, ↓evs_nil, beq_self_eq_true, see_eq, and_false, Bool.true_eq_false, s_sanity, nth_lnks, pur_lnks, nth_snds, pur_snds, nth_lss, pur_lss, lkC_len, lkC_0, lkC_1, lkC_cap, lkC_pri, lkC_take, pur_lkC, Nat.mul_one, Try.f5, ty3, ty29, ty48, h11, h10]
theorem o_law24 : O_law24 := k_law24 c_law24
end Sim
