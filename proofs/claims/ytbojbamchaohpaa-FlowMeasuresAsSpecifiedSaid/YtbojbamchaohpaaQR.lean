/- What functions of this seat compute, by values: contracts (lemmas of the statement's proof, under the conditions that each names). -/
import Derived.Test.YtbojbamchaohpaaQBD
import Derived.Test.YtbojbamchaohpaaQP
namespace Sim
open Go Go.Proofs
set_option maxRecDepth 10000
set_option maxHeartbeats 4000000
set_option linter.unusedVariables false
set_option linter.unusedSimpArgs false
attribute [local congr] opsIf_congr condC_congr guardC_congr grd_congr pick3_congr obind_congr omap_congr
def fckM (hn : Int) (ls : List Lnk) (us : List Snd) (d : Dem) : Int := if fitM hn ls us ≠ 0 then fitM hn ls us else if demM hn d = false then 1 else if 32 < d.2.2.2.2 - d.2.2.2.1 then 2 else 0
theorem fck_zero {hn : Int} {ls : List Lnk} {us : List Snd} {d : Dem} : fckM hn ls us d = 0 ↔ fitM hn ls us = 0 ∧ demM hn d = true ∧ d.2.2.2.2 - d.2.2.2.1 ≤ 32 := by
 unfold fckM
 by_cases h1 : fitM hn ls us = 0
 ·rw [if_neg (fun g => g h1)]
  by_cases h2 : demM hn d = false
  ·rw [if_pos h2]; simp [h2]
  ·rw [if_neg h2]
   by_cases h3 : 32 < d.2.2.2.2 - d.2.2.2.1
   ·rw [if_pos h3]; simp; intro _ _; omega
   ·rw [if_neg h3]; simp [h1]; exact ⟨by simpa using h2, by omega⟩
 ·rw [if_pos h1]; simp [h1]
theorem right_nil {hn : Int} {ls : List Lnk} {us : List Snd} (h : fitM hn ls us = 0) : rightM hn ls [] = 0 := right_zero.2 ⟨(fit_ok h).1.net, by simp, by simp, by simp, by simp, by simp⟩
theorem stock_nil {hn : Int} {ls : List Lnk} {us : List Snd} {d : Dem} (h : fitM hn ls us = 0) : (stockM hn ls [] d 0 0).2 = if demM hn d = false then 1 else 0 := by
 have hh := (fit_ok h).1.net.houses
 unfold stockM
 rw [if_neg (fun g => g (right_nil h))]
 by_cases c : demM hn d = false
 ·rw [if_pos (.inl c), if_pos c]
 ·rw [if_neg (by simp [c, hOK]; omega), if_neg c]
noncomputable def A_fcheck : (Int) × (List Lnk) × (List Snd) × (Dem) → List PV := fun (hn, ls, us, d) => [.agg [I hn, lnks ls], snds us, demV d]
noncomputable def R_fcheck : (Int) × (List Lnk) × (List Snd) × (Dem) → PV := fun (hn, ls, us, d) => I (fckM hn ls us d)
def H_fcheck : (Int) × (List Lnk) × (List Snd) × (Dem) → Prop := fun (hn, ls, us, d) => True
noncomputable def e_fcheck : Nat × Ent := (10, .v (specOf A_fcheck R_fcheck H_fcheck))
theorem j_fcheck : ∀ i j, A_fcheck i = A_fcheck j → i = j := by
 rintro ⟨hn₁, ls₁, us₁, d₁⟩ ⟨hn₂, ls₂, us₂, d₂⟩ h
 simp only [A_fcheck, List.cons.injEq, and_true, PV.lits.injEq, PV.int.injEq, PV.bool.injEq, PV.str.injEq, PV.agg.injEq, PV.func.injEq, Fn.func.injEq, PV.vptr.injEq, true_and, List.map_nil, inj_ints, inj_strs, inj_its, inj_arcs, inj_snds, inj_lnks] at h
 simp [Prod.ext_iff, h] <;> omega
theorem s_fcheck (hn : Int) (ls : List Lnk) (us : List Snd) (d : Dem) : specOf A_fcheck R_fcheck H_fcheck [.agg [I hn, lnks ls], snds us, demV d] = some (I (fckM hn ls us d)) := specOf_app j_fcheck (i := (hn, ls, us, d)) trivial
def C_fcheck : Prop := ∀ (hn : Int) (ls : List Lnk) (us : List Snd) (d : Dem) , VC Try.prog 10 [.agg [I hn, lnks ls], snds us, demV d] (I (fckM hn ls us d))
def O_fcheck : Prop := EntOK Try.prog e_fcheck.1 e_fcheck.2
theorem k_fcheck (c : C_fcheck) : O_fcheck := specOf_ok fun ⟨hn, ls, us, d⟩ h => c hn ls us d
theorem c_fcheck : C_fcheck := by
 intro hn ls us d
 refine vc_ofU mixed (l := [e_fits, e_Stock]) ((eok_cons o_fits (eok_cons o_Stock eok_nil))) [] []  Try.func10 rfl (by decide +kernel) (N := 31) rfl (by simp) rfl (by kernel_rfl) fun hs => ?_
 simp only [smallL, PV.small, List.length_map, and_true, true_and] at hs
 unfold fckM
 by_cases h1 : fitM hn ls us = 0
 case neg =>
  rw [if_pos h1]
  generalize hr : fitM hn ls us = r at *
  simp +contextual (maxSteps := 4000000) only [↓bdD, bdP, Nat.reduceLT, Nat.reduceBEq, endQ, Nat.reduceAdd, st0, ↓reduceIte, e_fits, s_fits, e_Stock, nth_its, pur_its, nth_arcs, pur_arcs, nth_snds, pur_snds, nth_lnks, pur_lnks, lkC_len, lkC_0, lkC_1, lkC_cap, lkC_pri, lkC_take, pur_lkC, Nat.mul_one, Try.f10, ty24, ty25, h1, hr]
 rw [if_neg (fun g => g h1)]
 have hsp := s_Stock (hn := hn) (ls := ls) (l := []) (d := d) (at_ := 0) (tick := 0)
 rw [show snds [] = PV.lits 3 [] from rfl] at hsp
 have hst := stock_nil (d := d) h1
 generalize stockM hn ls [] d 0 0 = q at *
 by_cases h2 : demM hn d = false
 ·rw [if_pos h2] at hst ⊢
  rw [hst] at hsp
  simp +contextual (maxSteps := 4000000) only [↓bdD, bdP, Nat.reduceLT, Nat.reduceBEq, endQ, Nat.reduceEqDiff, Nat.reduceAdd, Int.reduceEq, st0, ↓reduceIte, e_fits, s_fits, e_Stock, nth_its, pur_its, nth_arcs, pur_arcs, nth_snds, pur_snds, nth_lnks, pur_lnks, lkC_len, lkC_0, lkC_1, lkC_cap, lkC_pri, lkC_take, pur_lkC, Nat.mul_one, Try.f10, ty3, ty24, ty25, ty27, h1, hsp]
 rw [if_neg h2] at hst ⊢
 rw [hst] at hsp
 obtain ⟨_, _, hr⟩ := dem_ok (hn := hn) (d := d) (by simpa using h2)
 have hr0 := hr.2.2.1
 have hr1 := hr.2.2.2.1
 have hr2 := hr.2.2.2.2
 have wD : IntKind.i64.wrap (d.2.2.2.2 - d.2.2.2.1) = d.2.2.2.2 - d.2.2.2.1 := wrap64 (by omega) (by omega)
 by_cases h3 : 32 < d.2.2.2.2 - d.2.2.2.1
 ·rw [if_pos h3]
  simp +contextual (maxSteps := 4000000) only [↓bdD, bdP, Nat.reduceLT, Nat.reduceBEq, endQ, Nat.reduceEqDiff, Nat.reduceAdd, st0, ↓reduceIte, e_fits, s_fits, e_Stock, nth_its, pur_its, nth_arcs, pur_arcs, nth_snds, pur_snds, nth_lnks, pur_lnks, lkC_len, lkC_0, lkC_1, lkC_cap, lkC_pri, lkC_take, pur_lkC, Nat.mul_one, Try.f10, ty3, ty24, ty25, ty27, h1, hsp, wD, h3]
 ·rw [if_neg h3]
  simp +contextual (maxSteps := 4000000) only [↓bdD, bdP, Nat.reduceLT, Nat.reduceBEq, endQ, Nat.reduceEqDiff, Nat.reduceAdd, st0, ↓reduceIte, e_fits, s_fits, e_Stock, nth_its, pur_its, nth_arcs, pur_arcs, nth_snds, pur_snds, nth_lnks, pur_lnks, lkC_len, lkC_0, lkC_1, lkC_cap, lkC_pri, lkC_take, pur_lkC, Nat.mul_one, Try.f10, ty3, ty24, ty25, ty27, h1, hsp, wD, h3]
theorem o_fcheck : O_fcheck := k_fcheck c_fcheck
noncomputable def A_rfcheck : (Int) × (List Lnk) × (List Snd) × (Dem) → List PV := fun (hn, ls, us, d) => [.agg [I hn, lnks ls], snds us, demV d]
noncomputable def R_rfcheck : (Int) × (List Lnk) × (List Snd) × (Dem) → PV := fun (hn, ls, us, d) => I (fckM hn ls us d)
def H_rfcheck : (Int) × (List Lnk) × (List Snd) × (Dem) → Prop := fun (hn, ls, us, d) => True
noncomputable def e_rfcheck : Nat × Ent := (9, .v (specOf A_rfcheck R_rfcheck H_rfcheck))
theorem j_rfcheck : ∀ i j, A_rfcheck i = A_rfcheck j → i = j := by
 rintro ⟨hn₁, ls₁, us₁, d₁⟩ ⟨hn₂, ls₂, us₂, d₂⟩ h
 simp only [A_rfcheck, List.cons.injEq, and_true, PV.lits.injEq, PV.int.injEq, PV.bool.injEq, PV.str.injEq, PV.agg.injEq, PV.func.injEq, Fn.func.injEq, PV.vptr.injEq, true_and, List.map_nil, inj_ints, inj_strs, inj_its, inj_arcs, inj_snds, inj_lnks] at h
 simp [Prod.ext_iff, h] <;> omega
theorem s_rfcheck (hn : Int) (ls : List Lnk) (us : List Snd) (d : Dem) : specOf A_rfcheck R_rfcheck H_rfcheck [.agg [I hn, lnks ls], snds us, demV d] = some (I (fckM hn ls us d)) := specOf_app j_rfcheck (i := (hn, ls, us, d)) trivial
def C_rfcheck : Prop := ∀ (hn : Int) (ls : List Lnk) (us : List Snd) (d : Dem) , VC Try.prog 9 [.agg [I hn, lnks ls], snds us, demV d] (I (fckM hn ls us d))
def O_rfcheck : Prop := EntOK Try.prog e_rfcheck.1 e_rfcheck.2
theorem k_rfcheck (c : C_rfcheck) : O_rfcheck := specOf_ok fun ⟨hn, ls, us, d⟩ h => c hn ls us d
theorem c_rfcheck : C_rfcheck := by
 intro hn ls us d
 refine vc_ofU mixed (l := [e_rright, e_rfits, e_rdemand]) ((eok_cons o_rright (eok_cons o_rfits (eok_cons o_rdemand eok_nil)))) [] []  Try.func9 rfl (by decide +kernel) (N := 33) rfl (by simp) rfl (by kernel_rfl) fun hs => ?_
 simp only [smallL, PV.small, List.length_map, and_true, true_and] at hs
 unfold fckM
 by_cases h0 : rightM hn ls us = 0
 case neg =>
  have : fitM hn ls us = rightM hn ls us := by unfold fitM; rw [if_pos h0]
  rw [this, if_pos h0]
  generalize hr : rightM hn ls us = r at *
  simp +contextual (maxSteps := 4000000) only [↓bdD, bdP, Nat.reduceLT, Nat.reduceBEq, endQ, Nat.reduceAdd, st0, ↓reduceIte, e_rright, s_rright, e_rfits, e_rdemand, nth_its, pur_its, nth_arcs, pur_arcs, nth_snds, pur_snds, nth_lnks, pur_lnks, lkC_len, lkC_0, lkC_1, lkC_cap, lkC_pri, lkC_take, pur_lkC, Nat.mul_one, Try.f9, ty24, ty25, h0, hr]
 by_cases h1 : fitM hn ls us = 0
 case neg =>
  rw [if_pos h1]
  generalize hr : fitM hn ls us = r at *
  simp +contextual (maxSteps := 4000000) only [↓bdD, bdP, Nat.reduceLT, Nat.reduceBEq, endQ, Nat.reduceEqDiff, Nat.reduceAdd, st0, ↓reduceIte, e_rright, s_rright, e_rfits, s_rfits, e_rdemand, nth_its, pur_its, nth_arcs, pur_arcs, nth_snds, pur_snds, nth_lnks, pur_lnks, lkC_len, lkC_0, lkC_1, lkC_cap, lkC_pri, lkC_take, pur_lkC, Nat.mul_one, Try.f9, ty24, ty25, h0, h1, hr]
 rw [if_neg (fun g => g h1)]
 by_cases h2 : demM hn d = false
 ·rw [if_pos h2]
  simp +contextual (maxSteps := 4000000) only [↓bdD, bdP, Nat.reduceLT, Nat.reduceBEq, endQ, Nat.reduceEqDiff, Nat.reduceAdd, st0, ↓reduceIte, e_rright, s_rright, e_rfits, s_rfits, e_rdemand, s_rdemand, nth_its, pur_its, nth_arcs, pur_arcs, nth_snds, pur_snds, nth_lnks, pur_lnks, lkC_len, lkC_0, lkC_1, lkC_cap, lkC_pri, lkC_take, pur_lkC, Nat.mul_one, Try.f9, ty24, ty25, ty27, h0, h1, h2]
 rw [if_neg h2]
 have h2' : demM hn d = true := by simpa using h2
 obtain ⟨_, _, hr⟩ := dem_ok h2'
 have hr0 := hr.2.2.1
 have hr1 := hr.2.2.2.1
 have hr2 := hr.2.2.2.2
 have wD : IntKind.i64.wrap (d.2.2.2.2 - d.2.2.2.1) = d.2.2.2.2 - d.2.2.2.1 := wrap64 (by omega) (by omega)
 by_cases h3 : 32 < d.2.2.2.2 - d.2.2.2.1
 ·rw [if_pos h3]
  simp +contextual (maxSteps := 4000000) only [↓bdD, bdP, Nat.reduceLT, Nat.reduceBEq, endQ, Nat.reduceEqDiff, Nat.reduceAdd, st0, ↓reduceIte, e_rright, s_rright, e_rfits, s_rfits, e_rdemand, s_rdemand, nth_its, pur_its, nth_arcs, pur_arcs, nth_snds, pur_snds, nth_lnks, pur_lnks, lkC_len, lkC_0, lkC_1, lkC_cap, lkC_pri, lkC_take, pur_lkC, Nat.mul_one, Try.f9, ty3, ty24, ty25, ty27, h0, h1, h2', wD, h3]
 ·rw [if_neg h3]
  simp +contextual (maxSteps := 4000000) only [↓bdD, bdP, Nat.reduceLT, Nat.reduceBEq, endQ, Nat.reduceEqDiff, Nat.reduceAdd, st0, ↓reduceIte, e_rright, s_rright, e_rfits, s_rfits, e_rdemand, s_rdemand, nth_its, pur_its, nth_arcs, pur_arcs, nth_snds, pur_snds, nth_lnks, pur_lnks, lkC_len, lkC_0, lkC_1, lkC_cap, lkC_pri, lkC_take, pur_lkC, Nat.mul_one, Try.f9, ty3, ty24, ty25, ty27, h0, h1, h2', wD, h3]
theorem o_rfcheck : O_rfcheck := k_rfcheck c_rfcheck
theorem fck_ok {hn : Int} {ls : List Lnk} {us : List Snd} {d : Dem} (h : fckM hn ls us d = 0) : fitM hn ls us = 0 ∧ demM hn d = true ∧ durM d ≤ 32 ∧ d.2.2.2.2 = d.2.2.2.1 + (durM d : Nat) := by
 obtain ⟨h1, h2, h3⟩ := fck_zero.1 h
 obtain ⟨_, _, hr⟩ := dem_ok h2
 have := hr.2.2.2.1
 exact ⟨h1, h2, by unfold durM; omega, by unfold durM; omega⟩
theorem hplan0 {hn : Int} {ls : List Lnk} {us : List Snd} {d : Dem} {b : Int} (h : fckM hn ls us d = 0) (hb : 0 ≤ b ∧ b ≤ 1099511627776) : H_plan ⟨hn, ls, us, d, b⟩ ⟨fun _ => none, 0⟩ := by
 obtain ⟨h1, h2, h3, _⟩ := fck_ok h
 exact ⟨fun i o hi => (by cases hi), fun i r hi => (by cases hi), h1, h2, (by dsimp only; omega), hb⟩
noncomputable def mostM (hn : Int) (ls : List Lnk) (us : List Snd) (d : Dem) : Int := if fckM hn ls us d = 0 then (planR hn ls us d 1099511627776).2 else 0
noncomputable def A_most : (Int) × (List Lnk) × (List Snd) × (Dem) → List PV := fun (hn, ls, us, d) => [.agg [I hn, lnks ls], snds us, demV d]
noncomputable def R_most : (Int) × (List Lnk) × (List Snd) × (Dem) → PV := fun (hn, ls, us, d) => .tuple [I (mostM hn ls us d), I (fckM hn ls us d)]
def H_most : (Int) × (List Lnk) × (List Snd) × (Dem) → Prop := fun (hn, ls, us, d) => True
noncomputable def e_most : Nat × Ent := (11, .v (specOf A_most R_most H_most))
theorem j_most : ∀ i j, A_most i = A_most j → i = j := by
 rintro ⟨hn₁, ls₁, us₁, d₁⟩ ⟨hn₂, ls₂, us₂, d₂⟩ h
 simp only [A_most, List.cons.injEq, and_true, PV.lits.injEq, PV.int.injEq, PV.bool.injEq, PV.str.injEq, PV.agg.injEq, PV.func.injEq, Fn.func.injEq, PV.vptr.injEq, true_and, List.map_nil, inj_ints, inj_strs, inj_its, inj_arcs, inj_snds, inj_lnks] at h
 simp [Prod.ext_iff, h] <;> omega
theorem s_most (hn : Int) (ls : List Lnk) (us : List Snd) (d : Dem) : specOf A_most R_most H_most [.agg [I hn, lnks ls], snds us, demV d] = some (.tuple [I (mostM hn ls us d), I (fckM hn ls us d)]) := specOf_app j_most (i := (hn, ls, us, d)) trivial
def C_most : Prop := ∀ (hn : Int) (ls : List Lnk) (us : List Snd) (d : Dem) , VC Try.prog 11 [.agg [I hn, lnks ls], snds us, demV d] (.tuple [I (mostM hn ls us d), I (fckM hn ls us d)])
def O_most : Prop := EntOK Try.prog e_most.1 e_most.2
theorem k_most (c : C_most) : O_most := specOf_ok fun ⟨hn, ls, us, d⟩ h => c hn ls us d
theorem c_most : C_most := by
 intro hn ls us d
 refine vc_ofU mixed (l := [e_fcheck, e_plan]) ((eok_cons o_fcheck (eok_cons o_plan eok_nil))) [] []  Try.func11 rfl (by decide +kernel) (N := 26) rfl (by simp) rfl (by kernel_rfl) fun hs => ?_
 simp only [smallL, PV.small, List.length_map, and_true, true_and] at hs
 unfold mostM
 by_cases h1 : fckM hn ls us d = 0
 case neg =>
  rw [if_neg h1]
  generalize hr : fckM hn ls us d = r at *
  simp +contextual (maxSteps := 4000000) only [↓bdD, bdP, Nat.reduceLT, Nat.reduceBEq, endQ, Nat.reduceAdd, st0, ↓reduceIte, e_fcheck, s_fcheck, e_plan, nth_its, pur_its, nth_arcs, pur_arcs, nth_snds, pur_snds, nth_lnks, pur_lnks, lkC_len, lkC_0, lkC_1, lkC_cap, lkC_pri, lkC_take, pur_lkC, Nat.mul_one, Try.f11, ty24, ty25, ty27, h1, hr]
 rw [if_pos h1, h1]
 have sp := s_plan ⟨hn, ls, us, d, 1099511627776⟩ (st := ⟨fun _ => none, 0⟩) (hplan0 h1 ⟨by decide, by decide⟩)
 simp only [R_plan] at sp
 unfold gP at sp
 dsimp only [netV, demV] at sp
 generalize planR hn ls us d 1099511627776 = q at *
 simp +contextual (maxSteps := 4000000) only [↓bdD, bdP, Nat.reduceLT, Nat.reduceBEq, endQ, Nat.reduceEqDiff, Nat.reduceAdd, st0, ↓reduceIte, e_fcheck, s_fcheck, e_plan, nth_its, pur_its, nth_arcs, pur_arcs, nth_snds, pur_snds, nth_lnks, pur_lnks, lkC_len, lkC_0, lkC_1, lkC_cap, lkC_pri, lkC_take, pur_lkC, Nat.mul_one, Try.f11, ty3, ty24, ty25, ty27, h1, sp]
theorem o_most : O_most := k_most c_most
end Sim
namespace Sim
open Go Go.Proofs
set_option maxRecDepth 10000
set_option maxHeartbeats 4000000
set_option linter.unusedVariables false
set_option linter.unusedSimpArgs false
attribute [local congr] opsIf_congr condC_congr guardC_congr grd_congr pick3_congr obind_congr omap_congr
def outP (A : List Arc) (h W : Nat) (r : Int) : Nat → List Snd
 | 0 => []
 | i + 1 => outP A h W r i ++ if h ≤ i % W ∧ 0 < flA A i then [(((i % W - h : Nat) : Int), r + ((i / W : Nat) : Int), flA A i)] else []
theorem outP_len {A : List Arc} {h W : Nat} {r : Int} : ∀ n, (outP A h W r n).length ≤ n
 | 0 => Nat.le_refl _
 | n + 1 => by
  have := outP_len (A := A) (h := h) (W := W) (r := r) n
  rw [outP, List.length_append]
  split <;> simp <;> omega
noncomputable def chpE (hn : Int) (ls : List Lnk) (us : List Snd) (d : Dem) : Int := if fckM hn ls us d ≠ 0 then fckM hn ls us d else if (planR hn ls us d d.2.2.1).2 < d.2.2.1 then 21 else 0
noncomputable def chpL (hn : Int) (ls : List Lnk) (us : List Snd) (d : Dem) : List Snd := if chpE hn ls us d = 0 then outP (planR hn ls us d d.2.2.1).1 hn.toNat (hn.toNat + ls.length) d.2.2.2.1 (pairsM hn ls d) else []
noncomputable def A_cheap : (Int) × (List Lnk) × (List Snd) × (Dem) → List PV := fun (hn, ls, us, d) => [.agg [I hn, lnks ls], snds us, demV d]
noncomputable def R_cheap : (Int) × (List Lnk) × (List Snd) × (Dem) → PV := fun (hn, ls, us, d) => .tuple [snds (chpL hn ls us d), I (chpE hn ls us d)]
def H_cheap : (Int) × (List Lnk) × (List Snd) × (Dem) → Prop := fun (hn, ls, us, d) => True
noncomputable def e_cheap : Nat × Ent := (13, .v (specOf A_cheap R_cheap H_cheap))
theorem j_cheap : ∀ i j, A_cheap i = A_cheap j → i = j := by
 rintro ⟨hn₁, ls₁, us₁, d₁⟩ ⟨hn₂, ls₂, us₂, d₂⟩ h
 simp only [A_cheap, List.cons.injEq, and_true, PV.lits.injEq, PV.int.injEq, PV.bool.injEq, PV.str.injEq, PV.agg.injEq, PV.func.injEq, Fn.func.injEq, PV.vptr.injEq, true_and, List.map_nil, inj_ints, inj_strs, inj_its, inj_arcs, inj_snds, inj_lnks] at h
 simp [Prod.ext_iff, h] <;> omega
theorem s_cheap (hn : Int) (ls : List Lnk) (us : List Snd) (d : Dem) : specOf A_cheap R_cheap H_cheap [.agg [I hn, lnks ls], snds us, demV d] = some (.tuple [snds (chpL hn ls us d), I (chpE hn ls us d)]) := specOf_app j_cheap (i := (hn, ls, us, d)) trivial
def C_cheap : Prop := ∀ (hn : Int) (ls : List Lnk) (us : List Snd) (d : Dem) , VC Try.prog 13 [.agg [I hn, lnks ls], snds us, demV d] (.tuple [snds (chpL hn ls us d), I (chpE hn ls us d)])
def O_cheap : Prop := EntOK Try.prog e_cheap.1 e_cheap.2
theorem k_cheap (c : C_cheap) : O_cheap := specOf_ok fun ⟨hn, ls, us, d⟩ h => c hn ls us d
theorem c_cheap : C_cheap := by
 intro hn ls us d
 refine vc_ofU mixed (l := [e_fcheck, e_plan]) ((eok_cons o_fcheck (eok_cons o_plan eok_nil))) [] []  Try.func13 rfl (by decide +kernel) (N := 91) rfl (by simp) rfl (by kernel_rfl) fun hs => ?_
 simp only [smallL, PV.small, List.length_map, and_true, true_and] at hs
 by_cases h1 : fckM hn ls us d = 0
 case neg =>
  have e1 : chpE hn ls us d = fckM hn ls us d := by unfold chpE; rw [if_pos h1]
  have e2 : chpL hn ls us d = [] := by unfold chpL; rw [e1, if_neg h1]
  rw [e1, e2]
  generalize hr : fckM hn ls us d = r at *
  simp +contextual (maxSteps := 4000000) only [↓bdD, bdP, Nat.reduceLT, Nat.reduceBEq, endQ, Nat.reduceAdd, st0, ↓reduceIte, e_fcheck, s_fcheck, e_plan, nth_its, pur_its, nth_arcs, pur_arcs, nth_snds, pur_snds, nth_lnks, pur_lnks, lkC_len, lkC_0, lkC_1, lkC_cap, lkC_pri, lkC_take, pur_lkC, Nat.mul_one, Try.f13, ty24, ty25, ty27, h1, hr]
 obtain ⟨hf, hd, hD, hdu⟩ := fck_ok h1
 obtain ⟨_, _, hr⟩ := dem_ok hd
 have hr0 := hr.1
 have hr1 := hr.2.1
 have hr2 := hr.2.2.1
 have hr3 := hr.2.2.2.2
 have hh := (fit_ok hf).1.net.houses
 have hln := (fit_ok hf).1.net.len
 have hP := planR_ok (bytes := d.2.2.1) hf hd (by omega)
 have sp := s_plan ⟨hn, ls, us, d, d.2.2.1⟩ (st := ⟨fun _ => none, 0⟩) (hplan0 h1 ⟨by omega, by omega⟩)
 simp only [R_plan] at sp
 unfold gP at sp
 dsimp only [netV, demV] at sp
 have hn1 := hP.n1
 have hlen := hP.len
 obtain ⟨h, hhe⟩ : ∃ h : Nat, hn = (h : Int) := ⟨hn.toNat, by omega⟩
 have hnb : pairsM hn ls d ≤ 2304 := Nat.le_trans (Nat.mul_le_mul hD (show hn.toNat + ls.length ≤ 72 by omega)) (by decide)
 by_cases h2 : (planR hn ls us d d.2.2.1).2 < d.2.2.1
 ·have e1 : chpE hn ls us d = 21 := by unfold chpE; rw [if_neg (fun g => g h1), if_pos h2]
  have e2 : chpL hn ls us d = [] := by unfold chpL; rw [e1, if_neg (by decide)]
  rw [e1, e2]
  generalize planR hn ls us d d.2.2.1 = q at *
  simp +contextual (maxSteps := 4000000) only [↓bdD, bdP, Nat.reduceLT, Nat.reduceBEq, endQ, Nat.reduceEqDiff, Nat.reduceAdd, st0, ↓reduceIte, e_fcheck, s_fcheck, e_plan, nth_its, pur_its, nth_arcs, pur_arcs, nth_snds, pur_snds, nth_lnks, pur_lnks, lkC_len, lkC_0, lkC_1, lkC_cap, lkC_pri, lkC_take, pur_lkC, Nat.mul_one, Try.f13, ty3, ty24, ty25, ty27, h1, sp, h2]
 have e1 : chpE hn ls us d = 0 := by unfold chpE; rw [if_neg (fun g => g h1), if_neg h2]
 have e2 : chpL hn ls us d = outP (planR hn ls us d d.2.2.1).1 hn.toNat (hn.toNat + ls.length) d.2.2.2.1 (pairsM hn ls d) := by unfold chpL; rw [if_pos e1]
 rw [e1, e2]
 clear e1 e2
 subst hhe
 rw [Int.toNat_natCast] at *
 generalize pairsM (h : Int) ls d = n at *
 generalize nodesM (h : Int) d = N at *
 have wW : IntKind.i64.wrap ((h : Int) + (ls.length : Int)) = ((h + ls.length : Nat) : Int) := by rw [← Int.natCast_add, wrap64 (by omega) (by omega)]
 obtain ⟨W, hW⟩ : ∃ W, h + ls.length = W := ⟨_, rfl⟩
 rw [hW] at wW ⊢
 generalize planR (h : Int) ls us d d.2.2.1 = q at *
 obtain ⟨A, sn⟩ := q
 dsimp only at sp hn1 hlen h2 ⊢
 clear hP
 have hW0 : 0 < W := by omega
 have hO2 : plO (fun _ => none) 0 n N A 2 = some (.arr 0 3 [gBx 0 n N]) := rfl
 have hO4 : plO (fun _ => none) 0 n N A 4 = some (.arr n 4 (A.map arcV)) := rfl
 unfold gBx at hO2
 generalize plO (fun _ => none) 0 n N A = O at *
 simp +contextual (maxSteps := 4000000) only [↓bdD, bdP, Nat.reduceLT, Nat.reduceBEq, Nat.reduceEqDiff, Nat.reduceAdd, st0, ↓reduceIte, e_fcheck, s_fcheck, e_plan, nth_its, pur_its, nth_arcs, pur_arcs, nth_snds, pur_snds, nth_lnks, pur_lnks, lkC_len, lkC_0, lkC_1, lkC_cap, lkC_pri, lkC_take, pur_lkC, Nat.mul_one, Try.f13, ty3, ty22, ty24, ty25, ty27, h1, sp, h2, wW]
 refine loop_cnt [11, 13, 14, 15, 16, 43, 44, 45, 46, 47, 48, 49, 50, 51, 52, 53, 54, 55, 56, 57, 58, 59, 60, 61, 62, 63, 64, 65, 66, 67, 68, 69, 70, 71, 72, 73, 74, 75, 76, 77, 78, 79, 80, 81, 82, 83, 84, 85, 86, 87, 88, 89] n (fun j ρ st' => ρ 13 = I ((2 * j : Nat) : Int) ∧ GS st' (ρ 11) 5 3 ((outP A h W d.2.2.2.1 j).map sndV) ∧ st'.obj 2 = some (.arr 0 3 [.agg [.ref (0 + 4) n 0 (2 * n), .ref 0 1 0 N, .ref (0 + 1) 1 0 N]]) ∧ st'.obj 4 = some (.arr n 4 (A.map arcV))) (.slot _ 11 3 ?_ ?_) ?_ ?_
 ·simp +contextual (maxSteps := 4000000) only [↓bdD, bdP, Nat.reduceBEq, nth_its, pur_its, nth_arcs, pur_arcs, nth_snds, pur_snds, nth_lnks, pur_lnks, lkC_len, lkC_0, lkC_1, lkC_cap, lkC_pri, lkC_take, pur_lkC, Nat.mul_one, Try.f13]
 ·decide
 ·simp +contextual (maxSteps := 4000000) only [↓bdD, bdP, Nat.reduceBEq, Nat.reduceAdd, Nat.reduceMul, Store.new, nth_its, pur_its, nth_arcs, pur_arcs, nth_snds, pur_snds, nth_lnks, pur_lnks, lkC_len, lkC_0, lkC_1, lkC_cap, lkC_pri, lkC_take, pur_lkC, Nat.mul_one, Try.f13, hO2, hO4]
  simp [outP]
 rintro j ρ ⟨ob, M⟩ hj ⟨h13, ⟨g, h11, ho⟩, ho2, ho4⟩
 dsimp only at ho ho2 ho4
 rw [List.length_map] at h11
 rw [Nat.zero_add] at ho2
 by_cases hlt : j < n
 ·have hol := outP_len (A := A) (h := h) (W := W) (r := d.2.2.2.1) j
  have hstep : outP A h W d.2.2.2.1 (j + 1) = outP A h W d.2.2.2.1 j ++ if h ≤ j % W ∧ 0 < flA A j then [(((j % W - h : Nat) : Int), d.2.2.2.1 + ((j / W : Nat) : Int), flA A j)] else [] := rfl
  have hlen2 : 2 * j + 1 < A.length := by omega
  have hnA := nth_arcs hlen2
  have hfl : (A.getD (2 * j + 1) dA).2.2.1 = flA A j := rfl
  rw [hfl] at hnA
  have c1 : ((2 * j : Nat) : Int) < ((2 * n : Nat) : Int) := by omega
  have w1 : IntKind.i64.wrap (((2 * j : Nat) : Int) + 1) = ((2 * j + 1 : Nat) : Int) := wrapN' (by omega)
  have w2 : IntKind.i64.wrap (((2 * j : Nat) : Int) + 2) = ((2 * (j + 1) : Nat) : Int) := by rw [wrap64 (by omega) (by omega)]; omega
  have t1 : Int.tdiv ((2 * j : Nat) : Int) 2 = (j : Int) := by rw [Int.tdiv_eq_ediv_of_nonneg (by omega)]; omega
  have t2 : Int.tdiv (j : Int) (W : Int) = ((j / W : Nat) : Int) := by rw [Int.tdiv_eq_ediv_of_nonneg (by omega)]; rfl
  have t3 : Int.tmod (j : Int) (W : Int) = ((j % W : Nat) : Int) := by rw [Int.tmod_eq_emod_of_nonneg (by omega)]; rfl
  have hdv : j / W ≤ j := Nat.div_le_self _ _
  have hml : j % W < W := Nat.mod_lt _ hW0
  generalize j / W = qd at *
  generalize j % W = md at *
  have w3 : IntKind.i64.wrap (j : Int) = (j : Int) := wrap64 (by omega) (by omega)
  have w4 : IntKind.i64.wrap ((qd : Nat) : Int) = ((qd : Nat) : Int) := wrap64 (by omega) (by omega)
  have w5 : IntKind.i64.wrap (d.2.2.2.1 + ((qd : Nat) : Int)) = d.2.2.2.1 + ((qd : Nat) : Int) := wrap64 (by omega) (by omega)
  have hWn : ¬ (W : Int) = 0 := by omega
  have hWn' : ¬ W = 0 := by omega
  have hl2 : ((2 * j + 1 : Nat) : Int) < ((2 * n : Nat) : Int) := by omega
  have hAl : (A.map arcV).length = 2 * n := by rw [List.length_map, hlen]
  have hol1 : (outP A h W d.2.2.2.1 j).length + 1 ≤ 2147483648 := by omega
  have htk : ∀ z, List.take ((outP A h W d.2.2.2.1 j).length + 1) (List.map sndV (outP A h W d.2.2.2.1 j) ++ [z]) = List.map sndV (outP A h W d.2.2.2.1 j) ++ [z] := fun z => List.take_of_length_le (by simp)
  by_cases hc : h ≤ md
  ·have w6 : IntKind.i64.wrap (((md : Nat) : Int) - (h : Int)) = ((md - h : Nat) : Int) := by rw [wrap64 (by omega) (by omega)]; omega
   have hci : (h : Int) ≤ ((md : Nat) : Int) := by omega
   by_cases hp : 0 < flA A j
   ·rw [if_pos ⟨hc, hp⟩] at hstep
    generalize outP A h W d.2.2.2.1 (j + 1) = o2 at *
    generalize outP A h W d.2.2.2.1 j = o1 at *
    generalize flA A j = fl at *
    simp +contextual (maxSteps := 4000000) only [↓bdD, bdP, Nat.reduceLT, Nat.reduceBEq, Nat.reduceAdd, Nat.reduceMul, Nat.reduceLeDiff, reduceCtorEq, Int.reduceEq, Store.set, ↓reduceIte, nth_its, pur_its, nth_arcs, pur_arcs, nth_snds, pur_snds, nth_lnks, pur_lnks, lkC_len, lkC_0, lkC_1, lkC_cap, lkC_pri, lkC_take, pur_lkC, Nat.mul_one, Try.f13, ty3, ty24, ty25, ty27, ty56, ty65, ty68, ty70, h13, h11, ho, ho2, ho4, c1, w1, w2, t1, t2, t3, w3, w4, w5, w6, hWn, hWn', hl2, hlen2, hAl, hnA, hc, hci, hp, hol1, htk, hstep]
    exact ⟨hlt, by rw [List.map_append]; rfl⟩
   ·rw [if_neg (fun g => hp g.2), List.append_nil] at hstep
    generalize outP A h W d.2.2.2.1 (j + 1) = o2 at *
    generalize outP A h W d.2.2.2.1 j = o1 at *
    generalize flA A j = fl at *
    simp +contextual (maxSteps := 4000000) only [↓bdD, bdP, Nat.reduceLT, Nat.reduceBEq, Nat.reduceAdd, Int.reduceEq, ↓reduceIte, nth_its, pur_its, nth_arcs, pur_arcs, nth_snds, pur_snds, nth_lnks, pur_lnks, lkC_len, lkC_0, lkC_1, lkC_cap, lkC_pri, lkC_take, pur_lkC, Nat.mul_one, Try.f13, ty3, ty24, ty65, ty68, ty70, h13, h11, ho, ho2, ho4, c1, w1, w2, t1, t2, t3, w3, w4, w5, w6, hWn, hWn', hl2, hlen2, hAl, hnA, hc, hci, hp, hol1, htk, hstep]
    exact hlt
  ·have hci : ¬ (h : Int) ≤ ((md : Nat) : Int) := by omega
   rw [if_neg (fun g => hc g.1), List.append_nil] at hstep
   generalize outP A h W d.2.2.2.1 (j + 1) = o2 at *
   generalize outP A h W d.2.2.2.1 j = o1 at *
   generalize flA A j = fl at *
   simp +contextual (maxSteps := 4000000) only [↓bdD, bdP, Nat.reduceLT, Nat.reduceBEq, Nat.reduceAdd, Int.reduceEq, ↓reduceIte, nth_its, pur_its, nth_arcs, pur_arcs, nth_snds, pur_snds, nth_lnks, pur_lnks, lkC_len, lkC_0, lkC_1, lkC_cap, lkC_pri, lkC_take, pur_lkC, Nat.mul_one, Try.f13, ty3, ty24, ty65, ty68, ty70, h13, h11, ho, ho2, ho4, c1, w1, w2, t1, t2, t3, w3, w4, w5, hWn, hWn', hl2, hlen2, hAl, hnA, hc, hci, hol1, htk, hstep]
   exact hlt
 ·have e : j = n := by omega
  subst e
  have c1 : ¬ ((2 * j : Nat) : Int) < ((2 * j : Nat) : Int) := by omega
  generalize outP A h W d.2.2.2.1 j = o1 at *
  simp +contextual (maxSteps := 4000000) only [↓bdD, bdP, Nat.reduceLT, Nat.reduceBEq, endQ, Nat.reduceAdd, ↓reduceIte, nth_its, pur_its, nth_arcs, pur_arcs, nth_snds, pur_snds, nth_lnks, pur_lnks, lkC_len, lkC_0, lkC_1, lkC_cap, lkC_pri, lkC_take, pur_lkC, Nat.mul_one, Try.f13, ty65, ty68, h13, h11, ho, ho2, ho4, c1]
theorem o_cheap : O_cheap := k_cheap c_cheap
end Sim
