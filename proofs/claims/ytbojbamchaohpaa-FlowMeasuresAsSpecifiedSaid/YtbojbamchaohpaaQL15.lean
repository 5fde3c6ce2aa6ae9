/- What functions of this seat compute, by values: contracts (lemmas of the statement's proof, under the conditions that each names). -/
import Derived.Test.YtbojbamchaohpaaQBD
import Derived.Test.YtbojbamchaohpaaQZ2
namespace Sim
open Go Go.Proofs
set_option maxRecDepth 10000
set_option maxHeartbeats 4000000
set_option linter.unusedVariables false
set_option linter.unusedSimpArgs false
attribute [local congr] opsIf_congr condC_congr guardC_congr grd_congr pick3_congr obind_congr omap_congr
noncomputable def A_rmost : (Int) × (List Lnk) × (List Snd) × (Dem) → List PV := fun (hn, ls, us, d) => [.agg [I hn, lnks ls], snds us, demV d]
noncomputable def R_rmost : (Int) × (List Lnk) × (List Snd) × (Dem) → PV := fun (hn, ls, us, d) => .agg [I (mostM hn ls us d), I (fckM hn ls us d)]
def H_rmost : (Int) × (List Lnk) × (List Snd) × (Dem) → Prop := fun (hn, ls, us, d) => True
noncomputable def e_rmost : Nat × Ent := (14, .v (specOf A_rmost R_rmost H_rmost))
theorem j_rmost : ∀ i j, A_rmost i = A_rmost j → i = j := by
 rintro ⟨hn₁, ls₁, us₁, d₁⟩ ⟨hn₂, ls₂, us₂, d₂⟩ h
 simp only [A_rmost, List.cons.injEq, and_true, PV.lits.injEq, PV.int.injEq, PV.bool.injEq, PV.str.injEq, PV.agg.injEq, PV.func.injEq, Fn.func.injEq, PV.vptr.injEq, true_and, List.map_nil, inj_ints, inj_strs, inj_its, inj_arcs, inj_snds, inj_lnks] at h
 simp [Prod.ext_iff, h] <;> omega
theorem s_rmost (hn : Int) (ls : List Lnk) (us : List Snd) (d : Dem) : specOf A_rmost R_rmost H_rmost [.agg [I hn, lnks ls], snds us, demV d] = some (.agg [I (mostM hn ls us d), I (fckM hn ls us d)]) := specOf_app j_rmost (i := (hn, ls, us, d)) trivial
def C_rmost : Prop := ∀ (hn : Int) (ls : List Lnk) (us : List Snd) (d : Dem) , VC Try.prog 14 [.agg [I hn, lnks ls], snds us, demV d] (.agg [I (mostM hn ls us d), I (fckM hn ls us d)])
def O_rmost : Prop := EntOK Try.prog e_rmost.1 e_rmost.2
theorem k_rmost (c : C_rmost) : O_rmost := specOf_ok fun ⟨hn, ls, us, d⟩ h => c hn ls us d
theorem c_rmost : C_rmost := by
 intro hn ls us d
 refine vc_ofU mixed (l := [e_rfcheck, e_flow]) ((eok_cons o_rfcheck (eok_cons o_flow eok_nil))) [] []  Try.func14 rfl (by decide +kernel) (N := 22) rfl (by simp) rfl (by kernel_rfl) fun hs => ?_
 simp only [smallL, PV.small, List.length_map, and_true, true_and] at hs
 unfold mostM
 by_cases h1 : fckM hn ls us d = 0
 case neg =>
  rw [if_neg h1]
  generalize hr : fckM hn ls us d = r at *
  simp +contextual (maxSteps := 4000000) only [↓bdD, bdP, Nat.reduceLT, Nat.reduceBEq, endQ, Nat.reduceAdd, st0, Store.new, Store.set, ↓reduceIte, e_rfcheck, s_rfcheck, e_flow, nth_its, pur_its, nth_arcs, pur_arcs, nth_snds, pur_snds, nth_lnks, pur_lnks, lkC_len, lkC_0, lkC_1, lkC_cap, lkC_pri, lkC_take, pur_lkC, Nat.mul_one, Try.f14, ty24, ty25, ty27, ty36, h1, hr]
 rw [if_pos h1, h1]
 obtain ⟨hf, hd, hD, hdu⟩ := fck_ok h1
 have sp := s_flow (hn := hn) (ls := ls) (us := us) (d := d) (b := 1099511627776)
 rw [if_pos ⟨hf, hd, by omega, by decide, by decide⟩, (flowR_ok (b := 1099511627776) hf hd (by decide)).val] at sp
 dsimp only [demV, lnks, snds] at sp
 generalize (flowR hn ls us d 1099511627776).1 = A at *
 generalize (planR hn ls us d 1099511627776).2 = q at *
 simp +contextual (maxSteps := 4000000) only [↓bdD, bdP, Nat.reduceLT, Nat.reduceBEq, endQ, Nat.reduceEqDiff, Nat.reduceAdd, Nat.reduceLeDiff, st0, Store.new, Store.set, ↓reduceIte, e_rfcheck, s_rfcheck, e_flow, nth_its, pur_its, nth_arcs, pur_arcs, nth_snds, pur_snds, nth_lnks, pur_lnks, lkC_len, lkC_0, lkC_1, lkC_cap, lkC_pri, lkC_take, pur_lkC, Nat.mul_one, Try.f14, ty3, ty24, ty25, ty27, ty36, ty73, h1, sp]
theorem o_rmost : O_rmost := k_rmost c_rmost
noncomputable def A_rearl : (Int) × (List Lnk) × (List Snd) × (Dem) → List PV := fun (hn, ls, us, d) => [.agg [I hn, lnks ls], snds us, demV d]
noncomputable def R_rearl : (Int) × (List Lnk) × (List Snd) × (Dem) → PV := fun (hn, ls, us, d) => .agg [I (earN hn ls us d), I (earE hn ls us d)]
def H_rearl : (Int) × (List Lnk) × (List Snd) × (Dem) → Prop := fun (hn, ls, us, d) => True
noncomputable def e_rearl : Nat × Ent := (15, .v (specOf A_rearl R_rearl H_rearl))
theorem j_rearl : ∀ i j, A_rearl i = A_rearl j → i = j := by
 rintro ⟨hn₁, ls₁, us₁, d₁⟩ ⟨hn₂, ls₂, us₂, d₂⟩ h
 simp only [A_rearl, List.cons.injEq, and_true, PV.lits.injEq, PV.int.injEq, PV.bool.injEq, PV.str.injEq, PV.agg.injEq, PV.func.injEq, Fn.func.injEq, PV.vptr.injEq, true_and, List.map_nil, inj_ints, inj_strs, inj_its, inj_arcs, inj_snds, inj_lnks] at h
 simp [Prod.ext_iff, h] <;> omega
theorem s_rearl (hn : Int) (ls : List Lnk) (us : List Snd) (d : Dem) : specOf A_rearl R_rearl H_rearl [.agg [I hn, lnks ls], snds us, demV d] = some (.agg [I (earN hn ls us d), I (earE hn ls us d)]) := specOf_app j_rearl (i := (hn, ls, us, d)) trivial
def C_rearl : Prop := ∀ (hn : Int) (ls : List Lnk) (us : List Snd) (d : Dem) , VC Try.prog 15 [.agg [I hn, lnks ls], snds us, demV d] (.agg [I (earN hn ls us d), I (earE hn ls us d)])
def O_rearl : Prop := EntOK Try.prog e_rearl.1 e_rearl.2
theorem k_rearl (c : C_rearl) : O_rearl := specOf_ok fun ⟨hn, ls, us, d⟩ h => c hn ls us d
theorem c_rearl : C_rearl := by
 intro hn ls us d
 refine vc_ofU mixed (l := [e_rfcheck, e_flow]) ((eok_cons o_rfcheck (eok_cons o_flow eok_nil))) [] []  Try.func15 rfl (by decide +kernel) (N := 42) rfl (by simp) rfl (by kernel_rfl) fun hs => ?_
 simp only [smallL, PV.small, List.length_map, and_true, true_and] at hs
 by_cases h1 : fckM hn ls us d = 0
 case neg =>
  have e1 : earE hn ls us d = fckM hn ls us d := by unfold earE; rw [if_pos h1]
  have e2 : earN hn ls us d = 0 := by unfold earN; rw [e1, if_neg h1]
  rw [e1, e2]
  generalize hr : fckM hn ls us d = r at *
  simp +contextual (maxSteps := 4000000) only [↓bdD, bdP, Nat.reduceLT, Nat.reduceBEq, endQ, Nat.reduceAdd, st0, Store.new, Store.set, ↓reduceIte, e_rfcheck, s_rfcheck, e_flow, nth_its, pur_its, nth_arcs, pur_arcs, nth_snds, pur_snds, nth_lnks, pur_lnks, lkC_len, lkC_0, lkC_1, lkC_cap, lkC_pri, lkC_take, pur_lkC, Nat.mul_one, Try.f15, ty24, ty25, ty27, ty36, h1, hr]
 obtain ⟨hf, hd, hD, hdu⟩ := fck_ok h1
 obtain ⟨_, _, hr⟩ := dem_ok hd
 have hr0 := hr.1
 have hr1 := hr.2.1
 have hr2 := hr.2.2.1
 have hr3 := hr.2.2.2.2
 have hfs : fstE hn ls us d = fstM (fun k => okE hn ls us d (d.2.2.2.1 + (k : Int))) (durM d + 1) := rfl
 have hE : earE hn ls us d = if fstE hn ls us d < durM d + 1 then 0 else 21 := by unfold earE; rw [if_neg (fun g => g h1)]
 have hok := fun k : Nat => fun (hk : k < durM d + 1) => flow_okE (hn := hn) (ls := ls) (us := us) (d := d) hf hd (due := d.2.2.2.1 + (k : Int)) (by omega) (by omega)
 have hsp : ∀ k : Nat, k < durM d + 1 → specOf A_flow R_flow H_flow [.agg [I hn, lnks ls], snds us, .agg [I d.1, I d.2.1, I d.2.2.1, I d.2.2.2.1, I (d.2.2.2.1 + (k : Int))], I d.2.2.1] = some (.agg [.lits 4 ((flowR hn ls us (dW d (d.2.2.2.1 + (k : Int))) d.2.2.1).1.map arcV), I (flowR hn ls us (dW d (d.2.2.2.1 + (k : Int))) d.2.2.1).2]) := fun k hk => by
  have sp := s_flow (hn := hn) (ls := ls) (us := us) (d := dW d (d.2.2.2.1 + (k : Int))) (b := d.2.2.1)
  rw [if_pos ⟨hf, dW_ok hd (by omega) (by omega), by rw [durW]; omega, by omega, by omega⟩] at sp
  exact sp
 simp +contextual (maxSteps := 4000000) only [↓bdD, bdP, Nat.reduceLT, Nat.reduceBEq, Nat.reduceAdd, st0, Store.new, ↓reduceIte, e_rfcheck, s_rfcheck, e_flow, nth_its, pur_its, nth_arcs, pur_arcs, nth_snds, pur_snds, nth_lnks, pur_lnks, lkC_len, lkC_0, lkC_1, lkC_cap, lkC_pri, lkC_take, pur_lkC, Nat.mul_one, Try.f15, ty3, ty24, ty25, ty27, ty36, h1]
 refine loop_cnt [8, 9, 20, 21, 22, 23, 24, 25, 26, 27, 28, 29, 30, 31, 32, 33, 34, 35, 36, 37, 38, 39, 40] (durM d + 1) (fun k ρ st' => ρ 8 = I (d.2.2.2.1 + (k : Int)) ∧ ∃ O nx, st' = ⟨O, nx⟩ ∧ 1 ≤ nx ∧ O 0 = some (.arr 0 2 [.agg [I 0, I 0]]) ∧ ∀ j, j < k → okE hn ls us d (d.2.2.2.1 + (j : Int)) = false) (.refl _) ?_ ?_
 ·simp +contextual (maxSteps := 4000000) only [↓bdD, bdP, nth_its, pur_its, nth_arcs, pur_arcs, nth_snds, pur_snds, nth_lnks, pur_lnks, lkC_len, lkC_0, lkC_1, lkC_cap, lkC_pri, lkC_take, pur_lkC, Nat.mul_one, Try.f15]
  exact ⟨by omega, _, _, rfl, by omega, by simp [updO], fun j hj => absurd hj (by omega)⟩
 rintro k ρ st' hk ⟨h8, O, nx, rfl, hnx, hO, hno⟩
 have x0 : ¬ 0 = nx := by omega
 have x1 : ¬ nx = 0 := by omega
 by_cases hlt : k < durM d + 1
 ·have hle : d.2.2.2.1 + (k : Int) ≤ d.2.2.2.2 := by omega
  have hw : IntKind.i64.wrap (d.2.2.2.1 + (k : Int) + 1) = d.2.2.2.1 + ((k + 1 : Nat) : Int) := by rw [wrap64 (by omega) (by omega)]; omega
  have hok := hok k hlt
  have sp := hsp k hlt
  dsimp only [lnks, snds] at sp
  generalize (flowR hn ls us (dW d (d.2.2.2.1 + (k : Int))) d.2.2.1).1 = A at *
  generalize (flowR hn ls us (dW d (d.2.2.2.1 + (k : Int))) d.2.2.1).2 = q at *
  by_cases hq : q = d.2.2.1
  ·have hyes := hok.2 hq
   have hf1 : fstE hn ls us d = k := by
    rw [hfs]
    exact fstM_eq (by omega) hno fun _ => hyes
   rw [hf1, if_pos hlt] at hE
   have hN : earN hn ls us d = d.2.2.2.1 + (k : Int) := by unfold earN; rw [hE, if_pos rfl, hf1]
   rw [hE, hN]
   simp +contextual (maxSteps := 4000000) only [↓bdD, bdP, Nat.reduceLT, Nat.reduceBEq, endQ, Nat.reduceEqDiff, Nat.reduceAdd, Nat.reduceLeDiff, Store.new, Store.set, ↓reduceIte, nth_its, pur_its, nth_arcs, pur_arcs, nth_snds, pur_snds, nth_lnks, pur_lnks, lkC_len, lkC_0, lkC_1, lkC_cap, lkC_pri, lkC_take, pur_lkC, Nat.mul_one, Try.f15, ty3, ty24, ty25, ty27, ty36, ty73, h8, hle, hw, sp, hq, hO, x0, x1, updO_updO]
  ·have hnot : okE hn ls us d (d.2.2.2.1 + (k : Int)) = false := by
    cases h : okE hn ls us d (d.2.2.2.1 + (k : Int)) with
    | false => rfl
    | true => exact absurd (hok.1 h) hq
   simp +contextual (maxSteps := 4000000) only [↓bdD, bdP, Nat.reduceLT, Nat.reduceBEq, Nat.reduceEqDiff, Nat.reduceAdd, Nat.reduceLeDiff, Store.new, Store.set, ↓reduceIte, nth_its, pur_its, nth_arcs, pur_arcs, nth_snds, pur_snds, nth_lnks, pur_lnks, lkC_len, lkC_0, lkC_1, lkC_cap, lkC_pri, lkC_take, pur_lkC, Nat.mul_one, Try.f15, ty3, ty24, ty25, ty27, ty73, h8, hle, hw, sp, hq, hO, x0, x1, updO_updO]
   refine ⟨by omega, _, _, rfl, by omega, by simp [updO, x0, hO], fun j hj => ?_⟩
   by_cases c : j = k
   ·rw [c]; exact hnot
   ·exact hno j (by omega)
 ·have e : k = durM d + 1 := by omega
  have hf1 : fstE hn ls us d = durM d + 1 := by
   rw [hfs]
   exact fstM_eq (Nat.le_refl _) (by rw [← e]; exact hno) fun h => absurd h (by omega)
  rw [hf1, if_neg (by omega)] at hE
  have hN : earN hn ls us d = 0 := by unfold earN; rw [hE, if_neg (by decide)]
  rw [hE, hN]
  have hle : ¬ d.2.2.2.1 + (k : Int) ≤ d.2.2.2.2 := by omega
  simp +contextual (maxSteps := 4000000) only [↓bdD, bdP, Nat.reduceLT, Nat.reduceBEq, endQ, Nat.reduceAdd, Store.set, ↓reduceIte, nth_its, pur_its, nth_arcs, pur_arcs, nth_snds, pur_snds, nth_lnks, pur_lnks, lkC_len, lkC_0, lkC_1, lkC_cap, lkC_pri, lkC_take, pur_lkC, Nat.mul_one, Try.f15, ty3, ty27, ty36, h8, hle, hO, x0, x1]
theorem o_rearl : O_rearl := k_rearl c_rearl
noncomputable def A_least : (Int) × (List Lnk) × (List Snd) × (Dem) → List PV := fun (hn, ls, us, d) => [.agg [I hn, lnks ls], snds us, demV d]
noncomputable def R_least : (Int) × (List Lnk) × (List Snd) × (Dem) → PV := fun (hn, ls, us, d) => .agg [I (lesN hn ls us d), I (chpE hn ls us d)]
def H_least : (Int) × (List Lnk) × (List Snd) × (Dem) → Prop := fun (hn, ls, us, d) => True
noncomputable def e_least : Nat × Ent := (16, .v (specOf A_least R_least H_least))
theorem j_least : ∀ i j, A_least i = A_least j → i = j := by
 rintro ⟨hn₁, ls₁, us₁, d₁⟩ ⟨hn₂, ls₂, us₂, d₂⟩ h
 simp only [A_least, List.cons.injEq, and_true, PV.lits.injEq, PV.int.injEq, PV.bool.injEq, PV.str.injEq, PV.agg.injEq, PV.func.injEq, Fn.func.injEq, PV.vptr.injEq, true_and, List.map_nil, inj_ints, inj_strs, inj_its, inj_arcs, inj_snds, inj_lnks] at h
 simp [Prod.ext_iff, h] <;> omega
theorem s_least (hn : Int) (ls : List Lnk) (us : List Snd) (d : Dem) : specOf A_least R_least H_least [.agg [I hn, lnks ls], snds us, demV d] = some (.agg [I (lesN hn ls us d), I (chpE hn ls us d)]) := specOf_app j_least (i := (hn, ls, us, d)) trivial
def C_least : Prop := ∀ (hn : Int) (ls : List Lnk) (us : List Snd) (d : Dem) , VC Try.prog 16 [.agg [I hn, lnks ls], snds us, demV d] (.agg [I (lesN hn ls us d), I (chpE hn ls us d)])
def O_least : Prop := EntOK Try.prog e_least.1 e_least.2
theorem k_least (c : C_least) : O_least := specOf_ok fun ⟨hn, ls, us, d⟩ h => c hn ls us d
theorem c_least : C_least := by
 intro hn ls us d
 refine vc_ofU mixed (l := [e_rfcheck, e_flow]) ((eok_cons o_rfcheck (eok_cons o_flow eok_nil))) [] []  Try.func16 rfl (by decide +kernel) (N := 56) rfl (by simp) rfl (by kernel_rfl) fun hs => ?_
 simp only [smallL, PV.small, List.length_map, and_true, true_and] at hs
 unfold lesN
 by_cases h1 : fckM hn ls us d = 0
 case neg =>
  have e1 : chpE hn ls us d = fckM hn ls us d := by unfold chpE; rw [if_pos h1]
  rw [e1, if_neg h1]
  generalize hr : fckM hn ls us d = r at *
  simp +contextual (maxSteps := 4000000) only [↓bdD, bdP, Nat.reduceLT, Nat.reduceBEq, endQ, Nat.reduceAdd, st0, Store.new, Store.set, ↓reduceIte, e_rfcheck, s_rfcheck, e_flow, nth_its, pur_its, nth_arcs, pur_arcs, nth_snds, pur_snds, nth_lnks, pur_lnks, lkC_len, lkC_0, lkC_1, lkC_cap, lkC_pri, lkC_take, pur_lkC, Nat.mul_one, Try.f16, ty24, ty25, ty27, ty36, h1, hr]
 obtain ⟨hf, hd, hD, hdu⟩ := fck_ok h1
 obtain ⟨okr, _⟩ := fit_ok hf
 have hh := okr.net.houses
 have hln := okr.net.len
 obtain ⟨_, _, hr⟩ := dem_ok hd
 have hr0 := hr.1
 have hr1 := hr.2.1
 have hE : chpE hn ls us d = if (planR hn ls us d d.2.2.1).2 < d.2.2.1 then 21 else 0 := by unfold chpE; rw [if_neg (fun g => g h1)]
 have F := flowR_ok (b := d.2.2.1) hf hd (by omega)
 rw [← F.val] at hE
 have sp := s_flow (hn := hn) (ls := ls) (us := us) (d := d) (b := d.2.2.1)
 rw [if_pos ⟨hf, hd, by omega, by omega, by omega⟩] at sp
 dsimp only [demV, lnks, snds] at sp
 have hlen := F.len
 have hbnd := F.bnd
 have hn : pairsM hn ls d ≤ 2304 := Nat.le_trans (Nat.mul_le_mul hD (show hn.toNat + ls.length ≤ 72 by omega)) (by decide)
 clear F
 generalize pairsM _ ls d = n at *
 generalize (flowR _ ls us d d.2.2.1).1 = A at *
 generalize (flowR _ ls us d d.2.2.1).2 = q at *
 by_cases hq : q < d.2.2.1
 ·rw [if_pos hq] at hE
  rw [hE, if_neg (by decide)]
  simp +contextual (maxSteps := 4000000) only [↓bdD, bdP, Nat.reduceLT, Nat.reduceBEq, endQ, Nat.reduceEqDiff, Nat.reduceAdd, reduceCtorEq, st0, Store.new, Store.set, ↓reduceIte, e_rfcheck, s_rfcheck, e_flow, nth_its, pur_its, nth_arcs, pur_arcs, nth_snds, pur_snds, nth_lnks, pur_lnks, lkC_len, lkC_0, lkC_1, lkC_cap, lkC_pri, lkC_take, pur_lkC, Nat.mul_one, Try.f16, ty3, ty24, ty25, ty27, ty36, ty73, h1, sp, hq]
 rw [if_neg hq] at hE
 rw [hE, if_pos rfl]
 have hlb := lesC_bnd fun i hi => (hbnd i hi).2.2
 simp +contextual (maxSteps := 4000000) only [↓bdD, bdP, Nat.reduceLT, Nat.reduceBEq, Nat.reduceEqDiff, Nat.reduceAdd, reduceCtorEq, st0, Store.new, Store.set, ↓reduceIte, e_rfcheck, s_rfcheck, e_flow, nth_its, pur_its, nth_arcs, pur_arcs, nth_snds, pur_snds, nth_lnks, pur_lnks, lkC_len, lkC_0, lkC_1, lkC_cap, lkC_pri, lkC_take, pur_lkC, Nat.mul_one, Try.f16, ty3, ty24, ty25, ty27, ty36, ty73, h1, sp, hq]
 refine loop_cnt [9, 10, 31, 32, 33, 34, 35, 36, 37, 38, 39, 40, 41, 42, 43, 44, 45, 46, 47, 48, 49, 50, 51, 52, 53] n (fun i ρ st' => ρ 10 = I ((2 * i : Nat) : Int) ∧ ρ 9 = I (lesC A i) ∧ ∃ O, st' = ⟨O, 2⟩ ∧ O 0 = some (.arr 0 2 [.agg [I 0, I 0]]) ∧ O 1 = some (.arr 0 2 [.agg [.lits 4 (A.map arcV), I q]])) (.refl _) ?_ ?_
 ·simp +contextual (maxSteps := 4000000) only [↓bdD, bdP, Nat.reduceBEq, Nat.reduceMul, nth_its, pur_its, nth_arcs, pur_arcs, nth_snds, pur_snds, nth_lnks, pur_lnks, lkC_len, lkC_0, lkC_1, lkC_cap, lkC_pri, lkC_take, pur_lkC, Nat.mul_one, Try.f16]
  exact ⟨rfl, _, rfl, by simp [updO], by simp [updO]⟩
 rintro i ρ st' hi ⟨h10, h9, O, rfl, hO0, hO1⟩
 have hAl : (A.map arcV).length = 2 * n := by rw [List.length_map]; exact hlen
 by_cases hlt : i < n
 ·obtain ⟨b1, b2, b3, b4⟩ := hbnd i hlt
  have l1 := hlb i (by omega)
  have l2 := hlb (i + 1) (by omega)
  have e : lesC A (i + 1) = lesC A i + aP A (2 * i) * aL A (2 * i + 1) := rfl
  have h2 : 2 * i < 2 * n := by omega
  have h3 : 2 * i + 1 < 2 * n := by omega
  have n1 := nth_arcs (l := A) (k := 2 * i) (by omega)
  have n2 := nth_arcs (l := A) (k := 2 * i + 1) (by omega)
  rw [show (A.getD (2 * i) dA).2.2.2 = aP A (2 * i) from rfl] at n1
  rw [show (A.getD (2 * i + 1) dA).2.2.1 = aL A (2 * i + 1) from rfl] at n2
  have w1 : IntKind.i64.wrap (((2 * i : Nat) : Int) + 1) = ((2 * i + 1 : Nat) : Int) := by rw [wrap64 (by omega) (by omega)]; omega
  have w2 : IntKind.i64.wrap (((2 * i : Nat) : Int) + 2) = ((2 * (i + 1) : Nat) : Int) := by rw [wrap64 (by omega) (by omega)]; omega
  generalize hm : aP A (2 * i) * aL A (2 * i + 1) = m at *
  have w3 : IntKind.i64.wrap m = m := wrap64 (by omega) (by omega)
  have w4 : IntKind.i64.wrap (lesC A i + m) = lesC A (i + 1) := by rw [wrap64 (by omega) (by omega), e]
  simp +contextual (maxSteps := 4000000) only [↓bdD, bdP, Nat.reduceLT, Nat.reduceBEq, Nat.reduceAdd, ↓reduceIte, nth_its, pur_its, nth_arcs, pur_arcs, nth_snds, pur_snds, nth_lnks, pur_lnks, lkC_len, lkC_0, lkC_1, lkC_cap, lkC_pri, lkC_take, pur_lkC, Nat.mul_one, Try.f16, ty3, ty71, ty73, ty76, h10, h9, hO0, hO1, hAl, h2, h3, n1, n2, w1, w2, hm, w3, w4]
  exact ⟨hlt, _, rfl, hO0, hO1⟩
 ·have e : i = n := by omega
  rw [e] at h10 h9
  simp +contextual (maxSteps := 4000000) only [↓bdD, bdP, Nat.reduceLT, Nat.reduceBEq, endQ, Nat.reduceAdd, Nat.reduceLeDiff, Store.set, ↓reduceIte, nth_its, pur_its, nth_arcs, pur_arcs, nth_snds, pur_snds, nth_lnks, pur_lnks, lkC_len, lkC_0, lkC_1, lkC_cap, lkC_pri, lkC_take, pur_lkC, Nat.mul_one, Try.f16, ty36, ty71, ty73, h10, h9, hO0, hO1, hAl]
theorem o_least : O_least := k_least c_least
end Sim
namespace Sim
open Go Go.Proofs
set_option maxRecDepth 10000
set_option maxHeartbeats 4000000
set_option linter.unusedVariables false
set_option linter.unusedSimpArgs false
attribute [local congr] opsIf_congr condC_congr guardC_congr grd_congr pick3_congr obind_congr omap_congr
def C_law15 : Prop := ∀ (hn : Int) (ls : List Lnk) (us : List Snd) (d : Dem) , VC Try.prog 3 [.agg [I hn, lnks ls], snds us, demV d] (B true)
theorem c_law15 : C_law15 := by
 intro hn ls us d
 refine vc_ofU mixed (l := [e_sanity, e_fcheck, e_rfcheck, e_cheap, e_most, e_earl, e_rmost, e_rearl, e_least, e_cost, e_serves]) ((eok_cons o_sanity (eok_cons o_fcheck (eok_cons o_rfcheck (eok_cons o_cheap (eok_cons o_most (eok_cons o_earl (eok_cons o_rmost (eok_cons o_rearl (eok_cons o_least (eok_cons o_cost (eok_cons o_serves eok_nil)))))))))))) [] []  Try.func3 rfl (by decide +kernel) (N := 153) rfl (by simp) rfl (by kernel_rfl) fun hs => ?_
 simp only [smallL, PV.small, List.length_map, and_true, true_and] at hs
 by_cases g1 : 8 < ls.length
 ·have g1i : (8 : Int) < (ls.length : Int) := by omega
  simp +contextual (maxSteps := 4000000) only [↓bdD, bdP, Nat.reduceLT, Nat.reduceBEq, endQ, Nat.reduceAdd, st0, ↓reduceIte, e_sanity, s_sanity, e_fcheck, e_rfcheck, e_cheap, e_most, e_earl, e_rmost, e_rearl, e_least, e_cost, e_serves, nth_its, pur_its, nth_arcs, pur_arcs, nth_snds, pur_snds, nth_lnks, pur_lnks, lkC_len, lkC_0, lkC_1, lkC_cap, lkC_pri, lkC_take, pur_lkC, Nat.mul_one, Try.f3, ty22, ty24, g1, g1i]
 have g1i : ¬ (8 : Int) < (ls.length : Int) := by omega
 by_cases g2 : 20 < us.length
 ·have g2i : (20 : Int) < (us.length : Int) := by omega
  simp +contextual (maxSteps := 4000000) only [↓bdD, bdP, Nat.reduceLT, Nat.reduceBEq, endQ, Nat.reduceAdd, st0, ↓reduceIte, e_sanity, s_sanity, e_fcheck, e_rfcheck, e_cheap, e_most, e_earl, e_rmost, e_rearl, e_least, e_cost, e_serves, nth_its, pur_its, nth_arcs, pur_arcs, nth_snds, pur_snds, nth_lnks, pur_lnks, lkC_len, lkC_0, lkC_1, lkC_cap, lkC_pri, lkC_take, pur_lkC, Nat.mul_one, Try.f3, ty22, ty24, ty25, g1, g1i, g2, g2i]
 have g2i : ¬ (20 : Int) < (us.length : Int) := by omega
 by_cases g3 : 4 < hn ∧ hn ≤ 12
 ·have g3a := g3.1
  have g3b := g3.2
  simp +contextual (maxSteps := 4000000) only [↓bdD, bdP, Nat.reduceLT, Nat.reduceBEq, endQ, Nat.reduceAdd, st0, ↓reduceIte, e_sanity, s_sanity, e_fcheck, e_rfcheck, e_cheap, e_most, e_earl, e_rmost, e_rearl, e_least, e_cost, e_serves, nth_its, pur_its, nth_arcs, pur_arcs, nth_snds, pur_snds, nth_lnks, pur_lnks, lkC_len, lkC_0, lkC_1, lkC_cap, lkC_pri, lkC_take, pur_lkC, Nat.mul_one, Try.f3, ty3, ty22, ty24, ty25, g1, g1i, g2, g2i, g3a, g3b]
 have hstart : ∀ (Q : Prop), (4 < hn → ¬ hn ≤ 12 → Q) → (¬ 4 < hn → Q) → Q := fun Q h1 h2 => by
  by_cases c : 4 < hn
  ·exact h1 c (fun g => g3 ⟨c, g⟩)
  ·exact h2 c
 generalize hlN : lesN hn ls us d = lN at *
 generalize hmo : mostM hn ls us d = mo at *
 generalize hen : earN hn ls us d = en at *
 generalize hee : earE hn ls us d = ee at *
 by_cases hc : fckM hn ls us d = 0
 ·obtain ⟨hf, hd, hD, hdu⟩ := fck_ok hc
  obtain ⟨_, _, hr⟩ := dem_ok hd
  have hr2 := hr.2.2.1
  have hr3 := hr.2.2.2.2
  have wD : IntKind.i64.wrap (d.2.2.2.2 - d.2.2.2.1) = d.2.2.2.2 - d.2.2.2.1 := wrap64 (by omega) (by omega)
  by_cases g4 : 6 < d.2.2.2.2 - d.2.2.2.1
  ·refine hstart _ (fun g5 g6 => ?_) (fun g5 => ?_)
   ·simp +contextual (maxSteps := 4000000) only [↓bdD, bdP, Nat.reduceLT, Nat.reduceBEq, endQ, Nat.reduceEqDiff, Nat.reduceAdd, st0, ↓reduceIte, e_sanity, s_sanity, e_fcheck, s_fcheck, e_rfcheck, s_rfcheck, e_cheap, e_most, e_earl, e_rmost, e_rearl, e_least, e_cost, e_serves, nth_its, pur_its, nth_arcs, pur_arcs, nth_snds, pur_snds, nth_lnks, pur_lnks, lkC_len, lkC_0, lkC_1, lkC_cap, lkC_pri, lkC_take, pur_lkC, Nat.mul_one, Try.f3, ty3, ty22, ty24, ty25, ty27, g1, g1i, g2, g2i, g5, g6, hc, wD, g4]
   ·simp +contextual (maxSteps := 4000000) only [↓bdD, bdP, Nat.reduceLT, Nat.reduceBEq, endQ, Nat.reduceEqDiff, Nat.reduceAdd, st0, ↓reduceIte, e_sanity, s_sanity, e_fcheck, s_fcheck, e_rfcheck, s_rfcheck, e_cheap, e_most, e_earl, e_rmost, e_rearl, e_least, e_cost, e_serves, nth_its, pur_its, nth_arcs, pur_arcs, nth_snds, pur_snds, nth_lnks, pur_lnks, lkC_len, lkC_0, lkC_1, lkC_cap, lkC_pri, lkC_take, pur_lkC, Nat.mul_one, Try.f3, ty3, ty22, ty24, ty25, ty27, g1, g1i, g2, g2i, g5, hc, wD, g4]
  by_cases h0 : chpE hn ls us d = 0
  ·obtain ⟨_, _, ho⟩ := cheap_ok h0
   have hs := ho.serves
   have hrt := right_zero.2 (serves_iff.1 hs).ok
   have hlc := les_cost h0
   rw [hlN] at hlc
   generalize hcl : chpL hn ls us d = cl at *
   generalize hc1 : costM hn ls cl = c1 at *
   subst hlc
   refine hstart _ (fun g5 g6 => ?_) (fun g5 => ?_)
   ·simp +contextual (maxSteps := 4000000) only [↓bdD, bdP, Nat.reduceLT, Nat.reduceBEq, endQ, Nat.reduceEqDiff, Nat.reduceAdd, reduceCtorEq, st0, Store.new, Store.set, ↓reduceIte, e_sanity, s_sanity, e_fcheck, s_fcheck, e_rfcheck, s_rfcheck, e_cheap, s_cheap, e_most, s_most, e_earl, s_earl, e_rmost, s_rmost, e_rearl, s_rearl, e_least, s_least, e_cost, s_cost, e_serves, s_serves, nth_its, pur_its, nth_arcs, pur_arcs, nth_snds, pur_snds, nth_lnks, pur_lnks, lkC_len, lkC_0, lkC_1, lkC_cap, lkC_pri, lkC_take, pur_lkC, Nat.mul_one, Try.f3, ty3, ty22, ty24, ty25, ty27, ty29, ty36, g1, g1i, g2, g2i, g5, g6, hc, wD, g4, hlN, hmo, hen, hee, h0, hs, hrt, hcl, hc1]
   ·simp +contextual (maxSteps := 4000000) only [↓bdD, bdP, Nat.reduceLT, Nat.reduceBEq, endQ, Nat.reduceEqDiff, Nat.reduceAdd, reduceCtorEq, st0, Store.new, Store.set, ↓reduceIte, e_sanity, s_sanity, e_fcheck, s_fcheck, e_rfcheck, s_rfcheck, e_cheap, s_cheap, e_most, s_most, e_earl, s_earl, e_rmost, s_rmost, e_rearl, s_rearl, e_least, s_least, e_cost, s_cost, e_serves, s_serves, nth_its, pur_its, nth_arcs, pur_arcs, nth_snds, pur_snds, nth_lnks, pur_lnks, lkC_len, lkC_0, lkC_1, lkC_cap, lkC_pri, lkC_take, pur_lkC, Nat.mul_one, Try.f3, ty3, ty22, ty24, ty25, ty27, ty29, ty36, g1, g1i, g2, g2i, g5, hc, wD, g4, hlN, hmo, hen, hee, h0, hs, hrt, hcl, hc1]
  ·have hcl : chpL hn ls us d = [] := by unfold chpL; rw [if_neg h0]
   generalize hce : chpE hn ls us d = ce at *
   refine hstart _ (fun g5 g6 => ?_) (fun g5 => ?_)
   ·simp +contextual (maxSteps := 4000000) only [↓bdD, bdP, Nat.reduceLT, Nat.reduceBEq, endQ, Nat.reduceEqDiff, Nat.reduceAdd, reduceCtorEq, st0, Store.new, Store.set, ↓reduceIte, e_sanity, s_sanity, e_fcheck, s_fcheck, e_rfcheck, s_rfcheck, e_cheap, s_cheap, e_most, s_most, e_earl, s_earl, e_rmost, s_rmost, e_rearl, s_rearl, e_least, s_least, e_cost, e_serves, nth_its, pur_its, nth_arcs, pur_arcs, nth_snds, pur_snds, nth_lnks, pur_lnks, lkC_len, lkC_0, lkC_1, lkC_cap, lkC_pri, lkC_take, pur_lkC, Nat.mul_one, Try.f3, ty3, ty22, ty24, ty25, ty27, ty29, ty36, g1, g1i, g2, g2i, g5, g6, hc, wD, g4, hlN, hmo, hen, hee, h0, hcl, hce]
   ·simp +contextual (maxSteps := 4000000) only [↓bdD, bdP, Nat.reduceLT, Nat.reduceBEq, endQ, Nat.reduceEqDiff, Nat.reduceAdd, reduceCtorEq, st0, Store.new, Store.set, ↓reduceIte, e_sanity, s_sanity, e_fcheck, s_fcheck, e_rfcheck, s_rfcheck, e_cheap, s_cheap, e_most, s_most, e_earl, s_earl, e_rmost, s_rmost, e_rearl, s_rearl, e_least, s_least, e_cost, e_serves, nth_its, pur_its, nth_arcs, pur_arcs, nth_snds, pur_snds, nth_lnks, pur_lnks, lkC_len, lkC_0, lkC_1, lkC_cap, lkC_pri, lkC_take, pur_lkC, Nat.mul_one, Try.f3, ty3, ty22, ty24, ty25, ty27, ty29, ty36, g1, g1i, g2, g2i, g5, hc, wD, g4, hlN, hmo, hen, hee, h0, hcl, hce]
 ·have h0 : ¬ chpE hn ls us d = 0 := fun g => hc (cheap_ok g).1
  have hcl : chpL hn ls us d = [] := by unfold chpL; rw [if_neg h0]
  generalize hce : chpE hn ls us d = ce at *
  generalize hfc : fckM hn ls us d = fc at *
  refine hstart _ (fun g5 g6 => ?_) (fun g5 => ?_)
  ·simp +contextual (maxSteps := 4000000) only [↓bdD, bdP, Nat.reduceLT, Nat.reduceBEq, endQ, Nat.reduceEqDiff, Nat.reduceAdd, reduceCtorEq, st0, Store.new, Store.set, ↓reduceIte, e_sanity, s_sanity, e_fcheck, s_fcheck, e_rfcheck, s_rfcheck, e_cheap, s_cheap, e_most, s_most, e_earl, s_earl, e_rmost, s_rmost, e_rearl, s_rearl, e_least, s_least, e_cost, e_serves, nth_its, pur_its, nth_arcs, pur_arcs, nth_snds, pur_snds, nth_lnks, pur_lnks, lkC_len, lkC_0, lkC_1, lkC_cap, lkC_pri, lkC_take, pur_lkC, Nat.mul_one, Try.f3, ty3, ty22, ty24, ty25, ty27, ty29, ty36, g1, g1i, g2, g2i, g5, g6, hc, hfc, hlN, hmo, hen, hee, h0, hcl, hce]
  ·simp +contextual (maxSteps := 4000000) only [↓bdD, bdP, Nat.reduceLT, Nat.reduceBEq, endQ, Nat.reduceEqDiff, Nat.reduceAdd, reduceCtorEq, st0, Store.new, Store.set, ↓reduceIte, e_sanity, s_sanity, e_fcheck, s_fcheck, e_rfcheck, s_rfcheck, e_cheap, s_cheap, e_most, s_most, e_earl, s_earl, e_rmost, s_rmost, e_rearl, s_rearl, e_least, s_least, e_cost, e_serves, nth_its, pur_its, nth_arcs, pur_arcs, nth_snds, pur_snds, nth_lnks, pur_lnks, lkC_len, lkC_0, lkC_1, lkC_cap, lkC_pri, lkC_take, pur_lkC, Nat.mul_one, Try.f3, ty3, ty22, ty24, ty25, ty27, ty29, ty36, g1, g1i, g2, g2i, g5, hc, hfc, hlN, hmo, hen, hee, h0, hcl, hce]
end Sim
