/- What functions of this seat compute, by values: contracts (lemmas of the statement's proof, under the conditions that each names). -/
import Derived.Test.YtbojbamchaohpaaQS
import Derived.Test.YtbojbamchaohpaaQPO
import Derived.Test.YtbojbamchaohpaaSimY
namespace Sim
open Go Go.Proofs
set_option maxRecDepth 10000
set_option maxHeartbeats 4000000
set_option linter.unusedVariables false
set_option linter.unusedSimpArgs false
attribute [local congr] opsIf_congr condC_congr guardC_congr grd_congr pick3_congr obind_congr omap_congr
theorem cheap_ok {hn : Int} {ls : List Lnk} {us : List Snd} {d : Dem} (h : chpE hn ls us d = 0) : fckM hn ls us d = 0 ∧ (planR hn ls us d d.2.2.1).2 = d.2.2.1 ∧ OutOK hn ls us d (chpL hn ls us d) (planG hn ls us d d.2.2.1) := by
 unfold chpE at h
 split at h
 ·contradiction
 ·rename_i c
  split at h
  ·cases h
  ·rename_i c2
   have c : fckM hn ls us d = 0 := Classical.not_not.1 c
   obtain ⟨hf, hd, hD, _⟩ := fck_ok c
   obtain ⟨_, _, hr⟩ := dem_ok hd
   have P := planR_ok (bytes := d.2.2.1) hf hd (by have := hr.1; omega)
   have e : (planR hn ls us d d.2.2.1).2 = d.2.2.1 := by have := P.n1; omega
   have p := P.plan
   rw [e] at p
   refine ⟨c, e, ?_⟩
   have hl : chpL hn ls us d = outP (planR hn ls us d d.2.2.1).1 hn.toNat (hn.toNat + ls.length) d.2.2.2.1 (pairsM hn ls d) := by
    have hE : chpE hn ls us d = 0 := by unfold chpE; rw [if_neg (fun g => g c), if_neg c2]
    unfold chpL
    rw [if_pos hE]
   rw [hl]
   exact out_ok hf hd hD p
theorem cheap_none {hn : Int} {ls : List Lnk} {us : List Snd} {d : Dem} (hc : fckM hn ls us d = 0) (h : chpE hn ls us d ≠ 0) : chpE hn ls us d = 21 ∧ ∀ g, ¬ (netD hn ls us d).Plan (durM d) d.1.toNat d.2.1.toNat d.2.2.1 g := by
 obtain ⟨hf, hd, hD, _⟩ := fck_ok hc
 obtain ⟨_, _, hr⟩ := dem_ok hd
 have hr0 := hr.1
 have hr1 := hr.2.1
 unfold chpE at h ⊢
 rw [if_neg (fun g => g hc)] at h ⊢
 split at h
 ·rename_i c
  rw [if_pos c]
  refine ⟨rfl, fun g hg => ?_⟩
  have P := planR_ok (bytes := d.2.2.1) hf hd (by omega)
  have := P.max c _ _ hr1 hg
  omega
 ·contradiction
noncomputable def cosM (hn : Int) (ls : List Lnk) (us : List Snd) (d : Dem) : Int := if chpE hn ls us d = 0 then costM hn ls (chpL hn ls us d) else -1
noncomputable def A_cost2 : (Int) × (List Lnk) × (List Snd) × (Dem) → List PV := fun (hn, ls, us, d) => [.agg [I hn, lnks ls], snds us, demV d]
noncomputable def R_cost2 : (Int) × (List Lnk) × (List Snd) × (Dem) → PV := fun (hn, ls, us, d) => I (cosM hn ls us d)
def H_cost2 : (Int) × (List Lnk) × (List Snd) × (Dem) → Prop := fun (hn, ls, us, d) => True
noncomputable def e_cost2 : Nat × Ent := (19, .v (specOf A_cost2 R_cost2 H_cost2))
theorem j_cost2 : ∀ i j, A_cost2 i = A_cost2 j → i = j := by
 rintro ⟨hn₁, ls₁, us₁, d₁⟩ ⟨hn₂, ls₂, us₂, d₂⟩ h
 simp only [A_cost2, List.cons.injEq, and_true, PV.lits.injEq, PV.int.injEq, PV.bool.injEq, PV.str.injEq, PV.agg.injEq, PV.func.injEq, Fn.func.injEq, PV.vptr.injEq, true_and, List.map_nil, inj_ints, inj_strs, inj_its, inj_arcs, inj_snds, inj_lnks] at h
 simp [Prod.ext_iff, h] <;> omega
theorem s_cost2 (hn : Int) (ls : List Lnk) (us : List Snd) (d : Dem) : specOf A_cost2 R_cost2 H_cost2 [.agg [I hn, lnks ls], snds us, demV d] = some (I (cosM hn ls us d)) := specOf_app j_cost2 (i := (hn, ls, us, d)) trivial
def C_cost2 : Prop := ∀ (hn : Int) (ls : List Lnk) (us : List Snd) (d : Dem) , VC Try.prog 19 [.agg [I hn, lnks ls], snds us, demV d] (I (cosM hn ls us d))
def O_cost2 : Prop := EntOK Try.prog e_cost2.1 e_cost2.2
theorem k_cost2 (c : C_cost2) : O_cost2 := specOf_ok fun ⟨hn, ls, us, d⟩ h => c hn ls us d
theorem c_cost2 : C_cost2 := by
 intro hn ls us d
 refine vc_ofU mixed (l := [e_cheap, e_cost, e_serves]) ((eok_cons o_cheap (eok_cons o_cost (eok_cons o_serves eok_nil)))) [] []  Try.func19 rfl (by decide +kernel) (N := 38) rfl (by simp) rfl (by kernel_rfl) fun hs => ?_
 simp only [smallL, PV.small, List.length_map, and_true, true_and] at hs
 unfold cosM
 by_cases h : chpE hn ls us d = 0
 ·obtain ⟨_, _, ho⟩ := cheap_ok h
  have hs := ho.serves
  have hr := right_zero.2 (serves_iff.1 hs).ok
  rw [if_pos h]
  generalize hl : chpL hn ls us d = l at *
  generalize hc : costM hn ls l = c at *
  simp +contextual (maxSteps := 4000000) only [↓ur_skip, ↓ur_seq, ↓ur_ret, ↓ur_region, ↓ur_cond, ↓cont_seq, ↓done_nil, ↓ops_consN, ↓ops_guardN, nY_move, nY_assign, nY_pick, nY_box, nY_load, nY_binOp, nilO_int, nY_extract, nY_callf, ↓ops_nil, opsIf_some, condC_false, guardC_ff, Option.map_some, Option.bind_some, Option.getD_some, Nat.reduceLT, Bool.false_eq_true, ↓upd_same, ↓upd_ne, Nat.reduceBEq, and_true, List.getD_cons_zero, List.getD_cons_succ, List.getElem?_toArray, List.getElem?_cons_zero, List.getElem?_cons_succ, endQ, cfg_P, cfg_tab, cfg_muts, cfg_frz, List.contains_nil, decide_false, Option.some.injEq, exists_eq_left', List.lookup_cons, List.lookup_nil, tabOf_cons, tab_v, Bool.and_self, Nat.reduceEqDiff, List.nil_append, List.append_nil, List.length_cons, List.length_nil, Nat.zero_add, List.drop_zero, Nat.reduceAdd, Nat.lt_succ_self, Bool.not_false, not_true_eq_false, st0, Nat.le_refl, pur_int, pur_lits, cells_agg, pur_agg, DRx_int, ↓ev_tmp, ↓ev_int, ↓ev_func, ↓guardP_eq, grd_some, ↓iop_move, ↓iop_assign, ↓pick3_bool, ↓iop_pick, ↓iop_box, ↓iop_load, ↓iop_binOp, ↓iop_extract, extr_tuple, ↓iop_callv, nrmAll_cons, nrmAll_nil, nrm_agg, nrmL_cons, nrmL_nil, nrm_lits, nrm1_int, nrm1_lits, pickP_t, loadP_vptr, b_neq, env0_eq, ires_eq, iresL_1, iresAll_nil, iresAll_cons, iresOne_tmp, valT_eq, pursL_cons, pursL_nil, ↓reduceIte, callP_eq, tsOf_eq, boxP_eq, List.take_succ_cons, List.take_nil, ↓evs_cons, ↓evs_nil, beq_self_eq_true, see_eq, and_false, Bool.true_eq_false, e_cheap, s_cheap, e_cost, s_cost, e_serves, s_serves, nth_its, pur_its, nth_arcs, pur_arcs, nth_snds, pur_snds, nth_lnks, pur_lnks, lkC_len, lkC_0, lkC_1, lkC_cap, lkC_pri, lkC_take, pur_lkC, Nat.mul_one, Try.f19, ty24, ty25, ty27, h, hs, hr, hc, hl]
 ·rw [if_neg h]
  generalize chpL hn ls us d = l at *
  simp +contextual (maxSteps := 4000000) only [↓ur_seq, ↓ur_ret, ↓ur_region, ↓ur_cond, ↓cont_seq, ↓done_nil, ↓done_seq, ↓ops_consN, ↓ops_guardN, nY_move, nY_assign, nY_pick, nY_box, nY_load, nY_binOp, nilO_int, nY_extract, nY_callf, ↓ops_nil, opsIf_some, condC_true, guardC_tf, Option.map_some, Option.bind_some, Option.getD_some, Nat.reduceLT, Bool.false_eq_true, ↓upd_same, ↓upd_ne, Nat.reduceBEq, and_true, List.getD_cons_zero, List.getD_cons_succ, List.getElem?_toArray, List.getElem?_cons_zero, List.getElem?_cons_succ, endQ, cfg_P, cfg_tab, cfg_muts, cfg_frz, List.contains_nil, decide_true, Option.some.injEq, exists_eq_left', List.lookup_cons, List.lookup_nil, tabOf_cons, tab_v, Bool.and_self, Nat.reduceEqDiff, List.nil_append, List.append_nil, List.length_cons, List.length_nil, Nat.zero_add, List.drop_zero, Nat.reduceAdd, Bool.not_false, not_false_eq_true, st0, Nat.le_refl, pur_int, pur_lits, cells_agg, pur_agg, DRx_int, ↓ev_tmp, ↓ev_int, ↓ev_bool, ↓ev_func, ↓guardP_eq, grd_some, ↓iop_move, ↓iop_assign, ↓pick3_bool, ↓iop_pick, ↓iop_box, ↓iop_load, ↓iop_binOp, ↓iop_extract, extr_tuple, ↓iop_callv, nrmAll_cons, nrmAll_nil, nrm_agg, nrmL_cons, nrmL_nil, nrm_lits, nrm1_int, nrm1_lits, pickP_t, loadP_vptr, b_neq, env0_eq, ires_eq, iresL_1, iresAll_nil, iresAll_cons, iresOne_tmp, valT_eq, pursL_cons, pursL_nil, ↓reduceIte, callP_eq, tsOf_eq, boxP_eq, List.take_succ_cons, List.take_nil, ↓evs_cons, ↓evs_nil, beq_self_eq_true, see_eq, and_false, Bool.true_eq_false, e_cheap, s_cheap, e_cost, s_cost, e_serves, nth_its, pur_its, nth_arcs, pur_arcs, nth_snds, pur_snds, nth_lnks, pur_lnks, lkC_len, lkC_0, lkC_1, lkC_cap, lkC_pri, lkC_take, pur_lkC, Nat.mul_one, Try.f19, ty24, ty25, ty27, h]
theorem o_cost2 : O_cost2 := k_cost2 c_cost2
end Sim
namespace Sim
open Go Go.Proofs
set_option linter.unusedVariables false
set_option linter.unusedSimpArgs false
section
variable {hn : Int} {ls : List Lnk} {us l : List Snd} {d : Dem}
theorem most_ok (hc : fckM hn ls us d = 0) : PlanOK hn ls us d 1099511627776 ∧ mostM hn ls us d = (planR hn ls us d 1099511627776).2 := by
 obtain ⟨hf, hd, _, _⟩ := fck_ok hc
 exact ⟨planR_ok hf hd (by decide), by unfold mostM; rw [if_pos hc]⟩
theorem okE_plan (hf : fitM hn ls us = 0) (hd : demM hn d = true) {due : Int} (h0 : d.2.2.2.1 ≤ due) (h1 : due ≤ 1000000) : okE hn ls us d due = true ↔ ∃ g, (netD hn ls us d).Plan (due - d.2.2.2.1).toNat d.1.toNat d.2.1.toNat d.2.2.1 g := by
 obtain ⟨_, _, hr⟩ := dem_ok hd
 have hr0 := hr.1
 have hr1 := hr.2.1
 have P := planR_ok (bytes := d.2.2.1) hf (dW_ok hd h0 h1) (by omega)
 unfold okE
 rw [decide_eq_true_eq]
 constructor
 ·intro h
  have e : (planR hn ls us (dW d due) d.2.2.1).2 = d.2.2.1 := by have := P.n1; omega
  have p := P.plan
  rw [e] at p
  exact ⟨_, p⟩
 ·rintro ⟨g, hg⟩ hlt
  have := P.max hlt _ _ hr1 hg
  omega
theorem fst_iff (hc : fckM hn ls us d = 0) {k : Nat} (hk : k ≤ durM d) : okE hn ls us d (d.2.2.2.1 + (k : Int)) = true ↔ fstE hn ls us d ≤ k := by
 obtain ⟨hf, hd, hD, hdu⟩ := fck_ok hc
 obtain ⟨_, _, hr⟩ := dem_ok hd
 have hr2 := hr.2.2.1
 have hr3 := hr.2.2.2.2
 obtain ⟨g1, g2, g3⟩ := fstM_ok (f := fun k : Nat => okE hn ls us d (d.2.2.2.1 + (k : Int))) (n := durM d + 1)
 unfold fstE
 constructor
 ·intro h
  apply Classical.byContradiction
  intro hn'
  have := g2 k (by omega)
  rw [h] at this; cases this
 ·intro h
  exact okE_mono hf hd (by omega) (by omega) (by omega) (g3 (by omega))
theorem cheap_earl (hc : fckM hn ls us d = 0) : chpE hn ls us d = 0 ↔ earE hn ls us d = 0 := by
 obtain ⟨hf, hd, hD, hdu⟩ := fck_ok hc
 obtain ⟨_, _, hr⟩ := dem_ok hd
 have e1 : chpE hn ls us d = 0 ↔ okE hn ls us d (d.2.2.2.1 + (durM d : Nat)) = true := by
  rw [← hdu]
  unfold chpE okE
  rw [if_neg (fun g => g hc), dW_self, decide_eq_true_eq]
  constructor
  ·intro h c; rw [if_pos c] at h; cases h
  ·intro h; rw [if_neg h]
 rw [e1, fst_iff hc (Nat.le_refl _)]
 unfold earE
 rw [if_neg (fun g => g hc)]
 constructor
 ·intro h; rw [if_pos (by omega)]
 ·intro h
  apply Classical.byContradiction
  intro hn'
  rw [if_neg (by omega)] at h; cases h
theorem earN_bnd (hc : fckM hn ls us d = 0) (h : earE hn ls us d = 0) : earN hn ls us d = d.2.2.2.1 + (fstE hn ls us d : Nat) ∧ fstE hn ls us d ≤ durM d := by
 refine ⟨by unfold earN; rw [if_pos h], ?_⟩
 unfold earE at h
 rw [if_neg (fun g => g hc)] at h
 apply Classical.byContradiction
 intro hn'
 rw [if_neg (by omega)] at h; cases h
end
end Sim
namespace Sim
open Go Go.Proofs
set_option maxRecDepth 100000
set_option linter.unusedVariables false
set_option linter.unusedSimpArgs false
def decI : List PV → Option (List Int)
 | [] => some []
 | .int .i64 a :: l => (decI l).map fun rs => a :: rs
 | _ => none
theorem decI_ok : ∀ {l : List PV} {rs : List Int}, decI l = some rs → l = rs.map (PV.int .i64)
 | [], rs, h => by simp only [decI, Option.some.injEq] at h; subst h; rfl
 | p :: l, rs, h => by
  unfold decI at h
  split at h
  ·rename_i e; cases e
  ·rename_i a l' e
   cases e
   simp only [Option.map_eq_some_iff] at h
   obtain ⟨rs', h1, rfl⟩ := h
   rw [decI_ok h1]; rfl
  ·cases h
def lkI (a : Lnk) : List Int := a.1 :: a.2.1 :: (List.ofFn a.2.2.1 ++ List.ofFn a.2.2.2)
def mkL (xs : List Int) : Lnk := (xs.getD 0 0, xs.getD 1 0, fun i => xs.getD (2 + i.1) 0, fun i => xs.getD (26 + i.1) 0)
theorem lkI_C (a : Lnk) : lkC a = (lkI a).map (PV.int .i64) := by simp [lkC, lkI]
def decL : List PV → Option (List Lnk)
 | [] => some []
 | .agg cs :: l => (decI cs).bind fun xs => if lkI (mkL xs) = xs then (decL l).map fun rs => mkL xs :: rs else none
 | _ => none
theorem decL_ok : ∀ {l : List PV} {rs : List Lnk}, decL l = some rs → l = rs.map lnkV
 | [], rs, h => by simp only [decL, Option.some.injEq] at h; subst h; rfl
 | p :: l, rs, h => by
  unfold decL at h
  split at h
  ·rename_i e; cases e
  ·rename_i cs l' e
   cases e
   simp only [Option.bind_eq_some_iff] at h
   obtain ⟨xs, h1, h⟩ := h
   split at h
   ·rename_i hx
    simp only [Option.map_eq_some_iff] at h
    obtain ⟨rs', h2, rfl⟩ := h
    rw [decL_ok h2, decI_ok h1, List.map_cons, lnkV, lkI_C, hx]
   ·cases h
  ·cases h
def decS : List PV → Option (List Snd)
 | [] => some []
 | .agg [.int .i64 a, .int .i64 b, .int .i64 c] :: l => (decS l).map fun rs => (a, b, c) :: rs
 | _ => none
theorem decS_ok : ∀ {l : List PV} {rs : List Snd}, decS l = some rs → l = rs.map sndV
 | [], rs, h => by simp only [decS, Option.some.injEq] at h; subst h; rfl
 | p :: l, rs, h => by
  unfold decS at h
  split at h
  ·rename_i e; cases e
  ·rename_i a b c l' e
   cases e
   simp only [Option.map_eq_some_iff] at h
   obtain ⟨rs', h1, rfl⟩ := h
   rw [decS_ok h1]; rfl
  ·cases h
def sendC (out : List (List Nat)) (N s t : Nat) (bytes : Int) : Nat → List Arc → List Int → Int → Option (List Arc × Int)
 | 0, _, _, _ => none
 | f + 1, A, lv, sent => if sent < bytes then (if (finD A out lv N s).done.getD t true = true then sendC out N s t bytes f (aug A (pushM A (bytes - sent) (pathM A out lv N s t)) (pathM A out lv N s t)) (lvM A out lv N s) (sent + pushM A (bytes - sent) (pathM A out lv N s t)) else some (A, sent)) else some (A, sent)
theorem sendC_R {out : List (List Nat)} {N s t : Nat} {bytes : Int} : ∀ {f : Nat} {A : List Arc} {lv : List Int} {sent : Int} {A' : List Arc} {r : Int}, sendC out N s t bytes f A lv sent = some (A', r) → SendR out N s t bytes A lv sent A' r
 | 0, _, _, _, _, _, h => by cases h
 | f + 1, A, lv, sent, A', r, h => by
  rw [sendC] at h
  by_cases c : sent < bytes
  ·rw [if_pos c] at h
   by_cases c2 : (finD A out lv N s).done.getD t true = true
   ·rw [if_pos c2] at h
    exact .step _ _ _ _ _ c c2 (sendC_R h)
   ·rw [if_neg c2] at h
    cases h
    exact .stop _ _ _ c (by simpa using c2)
  ·rw [if_neg c] at h
   cases h
   exact .full _ _ _ c
def planC (hn : Int) (ls : List Lnk) (us : List Snd) (d : Dem) (bytes : Int) : Option (List Arc × Int) :=
 if d.1 = d.2.1 then some (gA (netD hn ls us d).p (pairsM hn ls d), bytes)
 else sendC (gO (netD hn ls us d).p (nodesM hn d) (pairsM hn ls d)) (nodesM hn d) d.1.toNat (durM d * hn.toNat + d.2.1.toNat) bytes 50 (gA (netD hn ls us d).p (pairsM hn ls d)) (List.replicate (nodesM hn d) 0) 0
theorem planC_ok {hn : Int} {ls : List Lnk} {us : List Snd} {d : Dem} {bytes : Int} {x : List Arc × Int} (h : planC hn ls us d bytes = some x) : planR hn ls us d bytes = x := by
 unfold planC at h
 unfold planR
 by_cases c : d.1 = d.2.1
 ·rw [if_pos c] at h ⊢
  exact Option.some.inj h
 ·rw [if_neg c] at h ⊢
  obtain ⟨A', r⟩ := x
  exact sendM_of (sendC_R h)
def mostC (hn : Int) (ls : List Lnk) (us : List Snd) (d : Dem) : Option Int := if fckM hn ls us d = 0 then (planC hn ls us d 1099511627776).map (·.2) else some 0
theorem mostC_ok {hn : Int} {ls : List Lnk} {us : List Snd} {d : Dem} {r : Int} (h : mostC hn ls us d = some r) : mostM hn ls us d = r := by
 unfold mostC at h
 unfold mostM
 split at h
 ·rename_i c
  rw [if_pos c]
  simp only [Option.map_eq_some_iff] at h
  obtain ⟨x, h1, rfl⟩ := h
  rw [planC_ok h1]
 ·rename_i c
  rw [if_neg c]; exact Option.some.inj h
def chpC (hn : Int) (ls : List Lnk) (us : List Snd) (d : Dem) : Option (List Snd × Int) :=
 if fckM hn ls us d ≠ 0 then some ([], fckM hn ls us d) else (planC hn ls us d d.2.2.1).map fun q => if q.2 < d.2.2.1 then ([], 21) else (outP q.1 hn.toNat (hn.toNat + ls.length) d.2.2.2.1 (pairsM hn ls d), 0)
theorem chpC_ok {hn : Int} {ls : List Lnk} {us : List Snd} {d : Dem} {x : List Snd × Int} (h : chpC hn ls us d = some x) : chpL hn ls us d = x.1 ∧ chpE hn ls us d = x.2 := by
 unfold chpC at h
 unfold chpL chpE
 split at h
 ·rename_i c
  cases h
  rw [if_pos c, if_neg c]; exact ⟨rfl, rfl⟩
 ·rename_i c
  simp only [Option.map_eq_some_iff] at h
  obtain ⟨q, h1, rfl⟩ := h
  rw [if_neg c, planC_ok h1]
  by_cases c2 : q.2 < d.2.2.1
  ·rw [if_pos c2, if_pos c2]; exact ⟨rfl, rfl⟩
  ·rw [if_neg c2, if_neg c2]; exact ⟨rfl, rfl⟩
def fstC (f : Nat → Option Bool) : Nat → Option Nat
 | 0 => some 0
 | n + 1 => (fstC f n).bind fun i => if i < n then some i else (f n).map fun b => if b = true then n else n + 1
theorem fstC_ok {f : Nat → Option Bool} {g : Nat → Bool} (h : ∀ k b, f k = some b → g k = b) : ∀ {n i}, fstC f n = some i → fstM g n = i
 | 0, i, e => Option.some.inj e
 | n + 1, i, e => by
  simp only [fstC, Option.bind_eq_some_iff] at e
  obtain ⟨j, e1, e2⟩ := e
  have ih := fstC_ok h e1
  rw [fstM, ih]
  by_cases c : j < n
  ·rw [if_pos c] at e2 ⊢
   exact Option.some.inj e2
  ·rw [if_neg c] at e2 ⊢
   simp only [Option.map_eq_some_iff] at e2
   obtain ⟨b, e3, rfl⟩ := e2
   rw [h _ _ e3]
def earC (hn : Int) (ls : List Lnk) (us : List Snd) (d : Dem) : Option (Int × Int) :=
 if fckM hn ls us d ≠ 0 then some (0, fckM hn ls us d) else (fstC (fun k => (planC hn ls us (dW d (d.2.2.2.1 + (k : Int))) d.2.2.1).map fun q => decide (¬ q.2 < d.2.2.1)) (durM d + 1)).map fun i => if i < durM d + 1 then (d.2.2.2.1 + (i : Int), 0) else (0, 21)
theorem earC_ok {hn : Int} {ls : List Lnk} {us : List Snd} {d : Dem} {x : Int × Int} (h : earC hn ls us d = some x) : earN hn ls us d = x.1 ∧ earE hn ls us d = x.2 := by
 unfold earC at h
 unfold earN earE
 split at h
 ·rename_i c
  cases h
  rw [if_pos c, if_neg c]; exact ⟨rfl, rfl⟩
 ·rename_i c
  simp only [Option.map_eq_some_iff] at h
  obtain ⟨i, h1, rfl⟩ := h
  have : fstE hn ls us d = i := fstC_ok (fun k b e => by
   simp only [Option.map_eq_some_iff] at e
   obtain ⟨q, e1, rfl⟩ := e
   unfold okE
   rw [planC_ok e1]) h1
  rw [if_neg c, this]
  by_cases c2 : i < durM d + 1
  ·rw [if_pos c2, if_pos c2]; exact ⟨rfl, rfl⟩
  ·rw [if_neg c2, if_neg c2]; exact ⟨rfl, rfl⟩
def ext (f : FuncId) (args : List PV) : Option PV :=
 match args with
 | [.agg [.int .i64 hn, .lits 50 n], .lits 3 l] => (decL n).bind fun ls => (decS l).bind fun l => if f = 17 then some (.tuple [I (costM hn ls l), I (rightM hn ls l)]) else none
 | [.agg [.int .i64 hn, .lits 50 n], .lits 3 l, .agg [.int .i64 p, .int .i64 q, .int .i64 r, .int .i64 s, .int .i64 t]] => (decL n).bind fun ls => (decS l).bind fun l =>
  if f = 18 then some (I (servesM hn ls l (p, q, r, s, t)))
  else if f = 10 then some (I (fckM hn ls l (p, q, r, s, t)))
  else if f = 11 then (mostC hn ls l (p, q, r, s, t)).map fun x => .tuple [I x, I (fckM hn ls l (p, q, r, s, t))]
  else if f = 13 then (chpC hn ls l (p, q, r, s, t)).map fun x => .tuple [snds x.1, I x.2]
  else if f = 12 then (earC hn ls l (p, q, r, s, t)).map fun x => .tuple [I x.1, I x.2] else none
 | _ => none
theorem ext_ok : ∀ f args r, ext f args = some r → VC Try.prog f args r := by
 intro f args r h
 unfold ext at h
 split at h
 ·simp only [Option.bind_eq_some_iff] at h
  obtain ⟨ls, h1, l, h2, h⟩ := h
  rw [decL_ok h1, decS_ok h2]
  split at h
  ·rename_i e; subst e; cases h; exact c_cost _ ls l
  ·cases h
 ·simp only [Option.bind_eq_some_iff] at h
  obtain ⟨ls, h1, l, h2, h⟩ := h
  rw [decL_ok h1, decS_ok h2]
  split at h
  ·rename_i e; subst e; cases h; exact c_serves _ ls l (_, _, _, _, _)
  split at h
  ·rename_i e; subst e; cases h; exact c_fcheck _ ls l (_, _, _, _, _)
  split at h
  ·rename_i e; subst e
   simp only [Option.map_eq_some_iff] at h
   obtain ⟨x, h3, rfl⟩ := h
   rw [← mostC_ok h3]; exact c_most _ ls l (_, _, _, _, _)
  split at h
  ·rename_i e; subst e
   simp only [Option.map_eq_some_iff] at h
   obtain ⟨x, h3, rfl⟩ := h
   rw [← (chpC_ok h3).1, ← (chpC_ok h3).2]; exact c_cheap _ ls l (_, _, _, _, _)
  split at h
  ·rename_i e; subst e
   simp only [Option.map_eq_some_iff] at h
   obtain ⟨x, h3, rfl⟩ := h
   rw [← (earC_ok h3).1, ← (earC_ok h3).2]; exact c_earl _ ls l (_, _, _, _, _)
  ·cases h
 ·cases h
def cf (f : FuncId) : List Nat × List Nat := ([], [])
end Sim
namespace Sim
open Go Go.Proofs
set_option maxRecDepth 100000
set_option maxHeartbeats 4000000
set_option linter.unusedVariables false
set_option linter.unusedSimpArgs false
attribute [local congr] opsIf_congr condC_congr guardC_congr grd_congr pick3_congr obind_congr omap_congr
def reM (o : Option IObj) (st : Store) (k z : Nat) (l : List PV) (n : Nat) : Option (PV × Store) :=
 match o with
 | some (.arr g _ _) => some (.ref (k - 1) (g + 1) 0 n, st.set (k - 1) (.arr (g + 1) z l))
 | _ => none
def rePM (o : Option IObj) (st : Store) (k z : Nat) (e : PV) : Option (PV × Store) :=
 match o with
 | some (.arr g _ _) => some (.ptr (k - 1) (g + 1) 0 0, st.set (k - 1) (.arr (g + 1) z [e]))
 | _ => none
theorem re_arr' {st : Store} {k z n : Nat} {l : List PV} : st.re k z l n = reM (st.obj (k - 1)) st k z l n := nrfl rfl
theorem reP_arr' {st : Store} {k z : Nat} {e : PV} : st.reP k z e = rePM (st.obj (k - 1)) st k z e := nrfl rfl
theorem reM_arr {st : Store} {k z n g z0 : Nat} {l es : List PV} : reM (some (.arr g z0 es)) st k z l n = some (.ref (k - 1) (g + 1) 0 n, st.set (k - 1) (.arr (g + 1) z l)) := nrfl rfl
theorem rePM_arr {st : Store} {k z g z0 : Nat} {e : PV} {es : List PV} : rePM (some (.arr g z0 es)) st k z e = some (.ptr (k - 1) (g + 1) 0 0, st.set (k - 1) (.arr (g + 1) z [e])) := nrfl rfl
def exL : List Lnk := [(0, 1, fun _ => 100, fun _ => 2), (1, 2, fun _ => 100, fun _ => 2), (0, 2, fun _ => 10, fun _ => 1)]
abbrev exD (b due : Int) : Dem := (0, 2, b, 5, due)
abbrev exU : List Snd := [(0, 5, 100)]
theorem t_ex : evX Try.prog 83 400 cf ext 8 23 [] = some (netV (3, exL)) := by kernel_rfl
noncomputable def A_exa : Unit → List PV := fun _ => []
noncomputable def R_exa : Unit → PV := fun _ => .agg [I 3, lnks exL]
def H_exa : Unit → Prop := fun _ => True
noncomputable def e_exa : Nat × Ent := (23, .v (specOf A_exa R_exa H_exa))
theorem j_exa : ∀ i j, A_exa i = A_exa j → i = j := by
 rintro _ _ h
 rfl
theorem s_exa  : specOf A_exa R_exa H_exa [] = some (.agg [I 3, lnks exL]) := specOf_app j_exa (i := ()) trivial
def C_exa : Prop := VC Try.prog 23 [] (.agg [I 3, lnks exL])
def O_exa : Prop := EntOK Try.prog e_exa.1 e_exa.2
theorem k_exa (c : C_exa) : O_exa := specOf_ok fun _ h => c
theorem o_exa : O_exa := k_exa (evX_sound mixed ext_ok _ _ _ _ t_ex)
theorem v_most1 : mostM 3 exL [] (exD 120 8) = 230 := mostC_ok (by kernel_rfl)
theorem v_most2 : mostM 3 exL exU (exD 120 8) = 130 := mostC_ok (by kernel_rfl)
theorem v_ear1 : earN 3 exL [] (exD 120 8) = 7 ∧ earE 3 exL [] (exD 120 8) = 0 := earC_ok (x := (7, 0)) (by kernel_rfl)
theorem v_ear2 : earN 3 exL exU (exD 120 8) = 8 ∧ earE 3 exL exU (exD 120 8) = 0 := earC_ok (x := (8, 0)) (by kernel_rfl)
theorem v_fck1 : fckM 3 exL [] (exD 120 8) = 0 := by kernel_rfl
theorem v_fck2 : fckM 3 exL exU (exD 120 8) = 0 := by kernel_rfl
theorem v_fck3 : fckM 3 exL [] (exD 120 38) = 2 := by kernel_rfl
theorem v_late : (chpC 3 exL [] (exD 231 8)).map (·.2) = some 21 := by kernel_rfl
theorem v_lateE : chpE 3 exL [] (exD 231 8) = 21 := by
 have h := v_late
 simp only [Option.map_eq_some_iff] at h
 obtain ⟨x, h1, h2⟩ := h
 rw [(chpC_ok h1).2, h2]
def cosC (us : List Snd) (d : Dem) : Option Int := (chpC 3 exL us d).bind fun x => if x.2 = 0 then some (costM 3 exL x.1) else none
theorem cosC_ok {us : List Snd} {d : Dem} {r : Int} (h : cosC us d = some r) : cosM 3 exL us d = r := by
 simp only [cosC, Option.bind_eq_some_iff] at h
 obtain ⟨x, h1, h2⟩ := h
 obtain ⟨e1, e2⟩ := chpC_ok h1
 split at h2
 ·rename_i c
  unfold cosM
  rw [e2, if_pos c, e1]
  exact Option.some.inj h2
 ·cases h2
theorem v_cos1 : cosM 3 exL [] (exD 120 8) = 390 := cosC_ok (by kernel_rfl)
theorem v_cos2 : cosM 3 exL exU (exD 120 8) = 390 := cosC_ok (by kernel_rfl)
theorem v_cos3 : cosM 3 exL [] (exD 230 8) = 830 := cosC_ok (by kernel_rfl)
noncomputable def A_sanity : Unit → List PV := fun _ => []
noncomputable def R_sanity : Unit → PV := fun _ => B true
def H_sanity : Unit → Prop := fun _ => True
noncomputable def e_sanity : Nat × Ent := (8, .v (specOf A_sanity R_sanity H_sanity))
theorem j_sanity : ∀ i j, A_sanity i = A_sanity j → i = j := by
 rintro _ _ h
 rfl
theorem s_sanity  : specOf A_sanity R_sanity H_sanity [] = some (B true) := specOf_app j_sanity (i := ()) trivial
def C_sanity : Prop := VC Try.prog 8 [] (B true)
def O_sanity : Prop := EntOK Try.prog e_sanity.1 e_sanity.2
theorem k_sanity (c : C_sanity) : O_sanity := specOf_ok fun _ h => c
theorem c_sanity : C_sanity := by
 refine vc_ofR mixed (l := [e_exa, e_most, e_earl, e_cheap, e_cost2, e_fcheck]) ((eok_cons o_exa (eok_cons o_most (eok_cons o_earl (eok_cons o_cheap (eok_cons o_cost2 (eok_cons o_fcheck eok_nil))))))) [] [100012, 200013, 300014, 600048, 600049, 600050, 300048, 300049, 300050, 900012, 900013, 900014] 3 Try.func8 rfl (by decide +kernel) (N := 126) rfl (by simp) rfl (by kernel_rfl) fun hs => ?_
 simp only [smallL, PV.small, List.length_map, and_true, true_and] at hs
 have h1 := s_most (hn := 3) (ls := exL) (us := []) (d := exD 120 8)
 have h2 := s_earl (hn := 3) (ls := exL) (us := []) (d := exD 120 8)
 have h3 := s_most (hn := 3) (ls := exL) (us := exU) (d := exD 120 8)
 have h4 := s_earl (hn := 3) (ls := exL) (us := exU) (d := exD 120 8)
 have h5 := s_cheap (hn := 3) (ls := exL) (us := []) (d := exD 231 8)
 have h6 := s_cost2 (hn := 3) (ls := exL) (us := []) (d := exD 120 8)
 have h7 := s_cost2 (hn := 3) (ls := exL) (us := exU) (d := exD 120 8)
 have h8 := s_cost2 (hn := 3) (ls := exL) (us := []) (d := exD 230 8)
 have h9 := s_fcheck (hn := 3) (ls := exL) (us := []) (d := exD 120 38)
 have h0 := s_fcheck (hn := 3) (ls := exL) (us := []) (d := exD 120 8)
 rw [v_most1, v_fck1] at h1
 rw [v_ear1.1, v_ear1.2] at h2
 rw [v_most2, v_fck2] at h3
 rw [v_ear2.1, v_ear2.2] at h4
 rw [v_lateE] at h5
 rw [v_cos1] at h6
 rw [v_cos2] at h7
 rw [v_cos3] at h8
 rw [v_fck3] at h9
 rw [v_fck1] at h0
 generalize chpL 3 exL [] (exD 231 8) = cl at *
 dsimp only [lnks, snds, demV, exD, exU, sndV] at h1 h2 h3 h4 h5 h6 h7 h8 h9 h0
 simp only [List.map_cons, List.map_nil] at h1 h2 h3 h4 h6 h7 h8 h9 h0
 rw [List.map_nil] at h5
 have n1 : 1 - 1 = 0 := rfl
 have n2 : 2 - 1 = 1 := rfl
 have n3 : 3 - 1 = 2 := rfl
 simp +contextual (maxSteps := 4000000) only [↓ur_seq, ↓ur_ret, ↓ur_region, ↓cont_seq, ↓done_nil, ↓ops_consN, ↓ops_guardN, nY_move, nY_assign, nY_pick, nY_alloc, nY_build, nY_buildSlice, nY_load, nY_store, nY_binOp, nilO_int, nY_fieldAddr, nY_extract, nY_callf, ↓ops_nil, opsIf_some, opsIf_none, guardC_tt, Option.map_some, Option.bind_some, Option.getD_some, Nat.reduceLT, Bool.false_eq_true, ↓upd_same, ↓upd_ne, Nat.reduceBEq, and_true, List.getElem?_toArray, List.getElem?_cons_zero, List.getElem?_cons_succ, endQ, cfg_P, cfg_tab, cfg_muts, cfg_frz, cfg_num, numOf_eq, List.contains_cons, List.contains_nil, Bool.or_false, Bool.or_true, decide_true, decide_false, Option.some.injEq, exists_eq_left', List.lookup_cons, List.lookup_nil, tabOf_cons, tab_v, Bool.and_true, Bool.and_self, Bool.true_and, Nat.reduceEqDiff, List.cons_append, List.nil_append, List.append_nil, updO_same, updO_ne, List.length_cons, List.length_nil, Nat.zero_add, List.drop_zero, List.take_zero, Nat.reduceAdd, List.replicate_succ, List.replicate_zero, List.set_cons_zero, Nat.reduceMul, Nat.reduceLeDiff, nth_zero, Nat.lt_succ_self, Bool.not_false, or_false, Nat.le_refl, cells_int, pur_int, pur_lits, cells_agg, pur_agg, DRx_bool, ↓ev_tmp, ↓ev_int, ↓ev_bool, ↓ev_nils, ↓ev_func, ↓guardP_eq, grd_some, ↓iop_move, ↓iop_assign, ↓pick3_bool, ↓iop_pick, ↓iop_alloc, ↓iop_build, ↓iop_buildSlice, ↓iop_load, ↓iop_store, ↓iop_binOp, ↓iop_fieldAddr, ↓iop_extract, extr_tuple, ↓iop_callv, tmpNo_tmp, softS_ptr, heldS_ptr, isInt1_int, isInt_agg, List.all_cons, List.all_nil, nrmAll_cons, nrmAll_nil, nrm_agg, nrmL_cons, nrmL_nil, nrm_nils, nrm1_some, nrm_lits, nrm1_int, nrm1_lits, pickP_t, loadP_ptr, setCells_agg, storeP_ptr, fieldP_ptr, b_eql, fill_nil, fill_cons, fill1_some, buildP_eq, bldA_none, bel_nil, bel_cons, splice_eq, ires_eq, iresL_1, iresAll_nil, iresAll_cons, iresOne_tmp, valT_eq, pursL_cons, pursL_nil, Store.new, Store.set, ↓reduceIte, arr_eq, arrB_some, callP_eq, tsOf_eq, bslP_eq, List.take_succ_cons, List.drop_succ_cons, List.drop_nil, List.take_nil, ↓evs_cons, ↓evs_nil, ↓evp_cons, ↓evp_nil, beq_self_eq_true, List.all_cons, List.all_nil, see_eq, past_eq, false_and, and_false, Bool.true_eq_false, e_exa, s_exa, e_most, e_earl, e_cheap, e_cost2, e_fcheck, nth_its, pur_its, nth_arcs, pur_arcs, nth_snds, pur_snds, nth_lnks, pur_lnks, lkC_len, lkC_0, lkC_1, lkC_cap, lkC_pri, lkC_take, pur_lkC, Nat.mul_one, Try.f8, ty3, ty24, ty25, ty27, ty56, h1, h2, h3, h4, h5, h6, h7, h8, h9, h0, n1, n2, n3, re_arr', reP_arr', reM_arr, rePM_arr, iop_alloc_re]
theorem o_sanity : O_sanity := k_sanity c_sanity
end Sim
