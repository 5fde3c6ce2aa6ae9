/- What functions of this seat compute, by values: contracts (lemmas of the statement's proof, under the conditions that each names). -/
import Derived.Test.YtbojbamchaohpaaQBD
namespace Sim
open Go Go.Proofs
set_option maxRecDepth 10000
set_option maxHeartbeats 2000000
set_option linter.unusedVariables false
set_option linter.unusedSimpArgs false
attribute [local congr] opsIf_congr condC_congr guardC_congr grd_congr pick3_congr obind_congr omap_congr
def hOK (hn : Int) (h : Int) : Bool := decide (0 ≤ h ∧ h < hn)
def badH (a : Lnk) : Nat → Bool
 | 0 => false
 | h + 1 => badH a h || decide (capA a h < 0 ∨ 1073741824 < capA a h ∨ priA a h < 0 ∨ 1000000 < priA a h)
def badL (hn : Int) (a : Lnk) : Int := if hOK hn a.1 = false ∨ hOK hn a.2.1 = false ∨ a.1 = a.2.1 then 1 else if badH a 24 = true then 3 else 0
def ckT (hn : Int) (ls : List Lnk) : Nat → Int
 | 0 => 0
 | k + 1 => if ckT hn ls k ≠ 0 then ckT hn ls k else badL hn (ls.getD k dL)
def checkM (hn : Int) (ls : List Lnk) : Int := if hn < 1 ∨ 12 < hn ∨ 60 < ls.length then 2 else ckT hn ls ls.length
theorem ckT_stays {hn : Int} {ls : List Lnk} {k : Nat} (h : ckT hn ls k ≠ 0) : ∀ m, ckT hn ls (k + m) = ckT hn ls k
 | 0 => rfl
 | m + 1 => by
  have ih := ckT_stays h m
  show (if ckT hn ls (k + m) ≠ 0 then ckT hn ls (k + m) else _) = _
  rw [ih, if_pos h]
theorem ckT_end {hn : Int} {ls : List Lnk} {k m : Nat} (h : ckT hn ls k ≠ 0) (hk : k ≤ m) : ckT hn ls m = ckT hn ls k := by
 have := ckT_stays h (m - k)
 rwa [show k + (m - k) = m by omega] at this
theorem badH_stays {a : Lnk} {k : Nat} (h : badH a k = true) : ∀ m, badH a (k + m) = true
 | 0 => h
 | m + 1 => by show (badH a (k + m) || _) = true; rw [badH_stays h m]; rfl
theorem badH_end {a : Lnk} {k m : Nat} (h : badH a k = true) (hk : k ≤ m) : badH a m = true := by
 have := badH_stays h (m - k)
 rwa [show k + (m - k) = m by omega] at this
noncomputable def A_house : (Int) × (List Lnk) × (Int) → List PV := fun (hn, ls, h) => [I h, .vptr [I hn, lnks ls] 0]
noncomputable def R_house : (Int) × (List Lnk) × (Int) → PV := fun (hn, ls, h) => B (hOK hn h)
def H_house : (Int) × (List Lnk) × (Int) → Prop := fun (hn, ls, h) => True
noncomputable def e_house : Nat × Ent := (53, .v (specOf A_house R_house H_house))
theorem j_house : ∀ i j, A_house i = A_house j → i = j := by
 rintro ⟨hn₁, ls₁, h₁⟩ ⟨hn₂, ls₂, h₂⟩ h
 simp only [A_house, List.cons.injEq, and_true, PV.lits.injEq, PV.int.injEq, PV.bool.injEq, PV.str.injEq, PV.agg.injEq, PV.func.injEq, Fn.func.injEq, PV.vptr.injEq, true_and, List.map_nil, inj_ints, inj_strs, inj_its, inj_arcs, inj_snds, inj_lnks] at h
 simp [Prod.ext_iff, h] <;> omega
theorem s_house (hn : Int) (ls : List Lnk) (h : Int) : specOf A_house R_house H_house [I h, .vptr [I hn, lnks ls] 0] = some (B (hOK hn h)) := specOf_app j_house (i := (hn, ls, h)) trivial
def C_house : Prop := ∀ (hn : Int) (ls : List Lnk) (h : Int) , VC Try.prog 53 [I h, .vptr [I hn, lnks ls] 0] (B (hOK hn h))
def O_house : Prop := EntOK Try.prog e_house.1 e_house.2
theorem k_house (c : C_house) : O_house := specOf_ok fun ⟨hn, ls, h⟩ h => c hn ls h
theorem c_house : C_house := by
 intro hn ls h
 refine vc_ofU mixed (l := []) (eok_nil) [] []  Try.func53 rfl (by decide +kernel) (N := 12) rfl (by simp) rfl (by kernel_rfl) fun hs => ?_
 simp only [smallL, PV.small, List.length_map, and_true, true_and] at hs
 generalize hr : hOK hn h = r
 by_cases h1 : 0 ≤ h
 ·by_cases h2 : h < hn
  ·simp only [hOK, h1, h2, and_self, decide_true] at hr
   subst hr
   simp +contextual (maxSteps := 4000000) only [↓bdD, bdP, Nat.reduceLT, Nat.reduceBEq, endQ, Nat.reduceAdd, st0, ↓reduceIte, nth_its, pur_its, nth_arcs, pur_arcs, nth_snds, pur_snds, nth_lnks, pur_lnks, lkC_len, lkC_0, lkC_1, lkC_cap, lkC_pri, lkC_take, pur_lkC, Nat.mul_one, Try.f53, ty3, ty24, h1, h2]
  ·simp only [hOK, h1, h2, and_false, decide_false] at hr
   subst hr
   simp +contextual (maxSteps := 4000000) only [↓bdD, bdP, Nat.reduceLT, Nat.reduceBEq, endQ, Nat.reduceAdd, st0, ↓reduceIte, nth_its, pur_its, nth_arcs, pur_arcs, nth_snds, pur_snds, nth_lnks, pur_lnks, lkC_len, lkC_0, lkC_1, lkC_cap, lkC_pri, lkC_take, pur_lkC, Nat.mul_one, Try.f53, ty3, ty24, h1, h2]
 ·simp only [hOK, h1, false_and, decide_false] at hr
  subst hr
  simp +contextual (maxSteps := 4000000) only [↓bdD, bdP, Nat.reduceLT, Nat.reduceBEq, endQ, st0, ↓reduceIte, nth_its, pur_its, nth_arcs, pur_arcs, nth_snds, pur_snds, nth_lnks, pur_lnks, lkC_len, lkC_0, lkC_1, lkC_cap, lkC_pri, lkC_take, pur_lkC, Nat.mul_one, Try.f53, h1]
theorem o_house : O_house := k_house c_house
noncomputable def A_rhouse : (Int) × (List Lnk) × (Int) → List PV := fun (hn, ls, h) => [.agg [I hn, lnks ls], I h]
noncomputable def R_rhouse : (Int) × (List Lnk) × (Int) → PV := fun (hn, ls, h) => B (hOK hn h)
def H_rhouse : (Int) × (List Lnk) × (Int) → Prop := fun (hn, ls, h) => True
noncomputable def e_rhouse : Nat × Ent := (41, .v (specOf A_rhouse R_rhouse H_rhouse))
theorem j_rhouse : ∀ i j, A_rhouse i = A_rhouse j → i = j := by
 rintro ⟨hn₁, ls₁, h₁⟩ ⟨hn₂, ls₂, h₂⟩ h
 simp only [A_rhouse, List.cons.injEq, and_true, PV.lits.injEq, PV.int.injEq, PV.bool.injEq, PV.str.injEq, PV.agg.injEq, PV.func.injEq, Fn.func.injEq, PV.vptr.injEq, true_and, List.map_nil, inj_ints, inj_strs, inj_its, inj_arcs, inj_snds, inj_lnks] at h
 simp [Prod.ext_iff, h] <;> omega
theorem s_rhouse (hn : Int) (ls : List Lnk) (h : Int) : specOf A_rhouse R_rhouse H_rhouse [.agg [I hn, lnks ls], I h] = some (B (hOK hn h)) := specOf_app j_rhouse (i := (hn, ls, h)) trivial
def C_rhouse : Prop := ∀ (hn : Int) (ls : List Lnk) (h : Int) , VC Try.prog 41 [.agg [I hn, lnks ls], I h] (B (hOK hn h))
def O_rhouse : Prop := EntOK Try.prog e_rhouse.1 e_rhouse.2
theorem k_rhouse (c : C_rhouse) : O_rhouse := specOf_ok fun ⟨hn, ls, h⟩ h => c hn ls h
theorem c_rhouse : C_rhouse := by
 intro hn ls h
 refine vc_ofU mixed (l := []) (eok_nil) [] []  Try.func41 rfl (by decide +kernel) (N := 13) rfl (by simp) rfl (by kernel_rfl) fun hs => ?_
 simp only [smallL, PV.small, List.length_map, and_true, true_and] at hs
 generalize hr : hOK hn h = r
 by_cases h1 : 0 ≤ h
 ·by_cases h2 : h < hn
  ·simp only [hOK, h1, h2, and_self, decide_true] at hr
   subst hr
   simp +contextual (maxSteps := 4000000) only [↓bdD, bdP, Nat.reduceLT, Nat.reduceBEq, endQ, Nat.reduceAdd, st0, ↓reduceIte, nth_its, pur_its, nth_arcs, pur_arcs, nth_snds, pur_snds, nth_lnks, pur_lnks, lkC_len, lkC_0, lkC_1, lkC_cap, lkC_pri, lkC_take, pur_lkC, Nat.mul_one, Try.f41, ty3, ty24, h1, h2]
  ·simp only [hOK, h1, h2, and_false, decide_false] at hr
   subst hr
   simp +contextual (maxSteps := 4000000) only [↓bdD, bdP, Nat.reduceLT, Nat.reduceBEq, endQ, Nat.reduceAdd, st0, ↓reduceIte, nth_its, pur_its, nth_arcs, pur_arcs, nth_snds, pur_snds, nth_lnks, pur_lnks, lkC_len, lkC_0, lkC_1, lkC_cap, lkC_pri, lkC_take, pur_lkC, Nat.mul_one, Try.f41, ty3, ty24, h1, h2]
 ·simp only [hOK, h1, false_and, decide_false] at hr
  subst hr
  simp +contextual (maxSteps := 4000000) only [↓bdD, bdP, Nat.reduceLT, Nat.reduceBEq, endQ, Nat.reduceAdd, st0, ↓reduceIte, nth_its, pur_its, nth_arcs, pur_arcs, nth_snds, pur_snds, nth_lnks, pur_lnks, lkC_len, lkC_0, lkC_1, lkC_cap, lkC_pri, lkC_take, pur_lkC, Nat.mul_one, Try.f41, h1]
theorem o_rhouse : O_rhouse := k_rhouse c_rhouse
noncomputable def A_check : (Int) × (List Lnk) → List PV := fun (hn, ls) => [.agg [I hn, lnks ls]]
noncomputable def R_check : (Int) × (List Lnk) → PV := fun (hn, ls) => I (checkM hn ls)
def H_check : (Int) × (List Lnk) → Prop := fun (hn, ls) => True
noncomputable def e_check : Nat × Ent := (47, .v (specOf A_check R_check H_check))
theorem j_check : ∀ i j, A_check i = A_check j → i = j := by
 rintro ⟨hn₁, ls₁⟩ ⟨hn₂, ls₂⟩ h
 simp only [A_check, List.cons.injEq, and_true, PV.lits.injEq, PV.int.injEq, PV.bool.injEq, PV.str.injEq, PV.agg.injEq, PV.func.injEq, Fn.func.injEq, PV.vptr.injEq, true_and, List.map_nil, inj_ints, inj_strs, inj_its, inj_arcs, inj_snds, inj_lnks] at h
 simp [Prod.ext_iff, h] <;> omega
theorem s_check (hn : Int) (ls : List Lnk) : specOf A_check R_check H_check [.agg [I hn, lnks ls]] = some (I (checkM hn ls)) := specOf_app j_check (i := (hn, ls)) trivial
def C_check : Prop := ∀ (hn : Int) (ls : List Lnk) , VC Try.prog 47 [.agg [I hn, lnks ls]] (I (checkM hn ls))
def O_check : Prop := EntOK Try.prog e_check.1 e_check.2
theorem k_check (c : C_check) : O_check := specOf_ok fun ⟨hn, ls⟩ h => c hn ls
theorem c_check : C_check := by
 intro hn ls
 refine vc_ofU mixed (l := [e_house]) ((eok_cons o_house eok_nil)) [] []  Try.func47 rfl (by decide +kernel) (N := 79) rfl (by simp) rfl (by kernel_rfl) fun hs => ?_
 simp only [smallL, PV.small, List.length_map, and_true, true_and] at hs
 generalize hr : checkM hn ls = r
 unfold checkM at hr
 by_cases h1 : hn < 1
 ·rw [if_pos (.inl h1)] at hr
  subst hr
  simp +contextual (maxSteps := 4000000) only [↓bdD, bdP, Nat.reduceLT, Nat.reduceBEq, endQ, Nat.reduceAdd, st0, ↓reduceIte, e_house, nth_its, pur_its, nth_arcs, pur_arcs, nth_snds, pur_snds, nth_lnks, pur_lnks, lkC_len, lkC_0, lkC_1, lkC_cap, lkC_pri, lkC_take, pur_lkC, Nat.mul_one, Try.f47, ty3, ty24, h1]
 by_cases h2 : 12 < hn
 ·rw [if_pos (.inr (.inl h2))] at hr
  subst hr
  simp +contextual (maxSteps := 4000000) only [↓bdD, bdP, Nat.reduceLT, Nat.reduceBEq, endQ, Nat.reduceAdd, st0, ↓reduceIte, e_house, nth_its, pur_its, nth_arcs, pur_arcs, nth_snds, pur_snds, nth_lnks, pur_lnks, lkC_len, lkC_0, lkC_1, lkC_cap, lkC_pri, lkC_take, pur_lkC, Nat.mul_one, Try.f47, ty3, ty24, h1, h2]
 by_cases h3 : 60 < ls.length
 ·rw [if_pos (.inr (.inr h3))] at hr
  subst hr
  have h3i : (60 : Int) < (ls.length : Int) := by omega
  simp +contextual (maxSteps := 4000000) only [↓bdD, bdP, Nat.reduceLT, Nat.reduceBEq, endQ, Nat.reduceAdd, st0, ↓reduceIte, e_house, nth_its, pur_its, nth_arcs, pur_arcs, nth_snds, pur_snds, nth_lnks, pur_lnks, lkC_len, lkC_0, lkC_1, lkC_cap, lkC_pri, lkC_take, pur_lkC, Nat.mul_one, Try.f47, ty3, ty22, ty24, h1, h2, h3, h3i]
 rw [if_neg (fun h => h.elim h1 (fun h => h.elim h2 h3))] at hr
 have h3' : ¬ (60 < (ls.length : Int)) := by omega
 have hw : ∀ i : Nat, i < 100 → IntKind.i64.wrap ((i : Int) + 1) = ((i + 1 : Nat) : Int) := fun i g => by rw [wrap64 (by omega) (by omega)]; omega
 simp +contextual (maxSteps := 4000000) only [↓bdD, bdP, Nat.reduceLT, Nat.reduceBEq, Nat.reduceAdd, st0, ↓reduceIte, e_house, nth_its, pur_its, nth_arcs, pur_arcs, nth_snds, pur_snds, nth_lnks, pur_lnks, lkC_len, lkC_0, lkC_1, lkC_cap, lkC_pri, lkC_take, pur_lkC, Nat.mul_one, Try.f47, ty3, ty22, ty24, h1, h2, h3']
 refine loop_cnt [2, 5, 6, 25, 26, 27, 28, 29, 30, 31, 32, 33, 34, 35, 36, 37, 38, 39, 40, 41, 42, 43, 44, 45, 46, 47, 48, 49, 50, 51, 52, 53, 54, 55, 56, 57, 58, 59, 60, 61, 62, 63, 64, 65, 66, 67, 68, 69, 70, 71, 72, 73, 74, 75, 76, 77, 78] ls.length (fun k ρ st' => ρ 25 = I k ∧ ckT hn ls k = 0) (.refl _) ?_ ?_
 ·simp +contextual (maxSteps := 4000000) only [↓bdD, bdP, nth_its, pur_its, nth_arcs, pur_arcs, nth_snds, pur_snds, nth_lnks, pur_lnks, lkC_len, lkC_0, lkC_1, lkC_cap, lkC_pri, lkC_take, pur_lkC, Nat.mul_one, Try.f47, ckT]
 ·rintro k ρ ⟨ob, M⟩ hk ⟨h25, hc⟩
  by_cases hlt : k < ls.length
  ·have hstep : ckT hn ls (k + 1) = badL hn (ls.getD k dL) := by simp only [ckT, hc, ne_eq, not_true_eq_false, if_false]
   have hk64 : k < 100 := by omega
   have hw1 := hw k hk64
   by_cases hb : hOK hn (ls.getD k dL).1 = false ∨ hOK hn (ls.getD k dL).2.1 = false ∨ (ls.getD k dL).1 = (ls.getD k dL).2.1
   ·have hb1 : badL hn (ls.getD k dL) = 1 := by unfold badL; rw [if_pos hb]
    rw [hb1] at hstep
    have hend := ckT_end (m := ls.length) (by rw [hstep]; decide) (show k + 1 ≤ ls.length by omega)
    rw [hend, hstep] at hr
    subst hr
    cases g1 : hOK hn (ls.getD k dL).1
    ·simp +contextual (maxSteps := 4000000) only [↓bdD, bdP, Nat.reduceLT, Nat.reduceBEq, endQ, Nat.reduceAdd, Nat.reduceLeDiff, Store.new, Store.set, ↓reduceIte, s_house, nth_its, pur_its, nth_arcs, pur_arcs, nth_snds, pur_snds, nth_lnks, pur_lnks, lkC_len, lkC_0, lkC_1, lkC_cap, lkC_pri, lkC_take, pur_lkC, Nat.mul_one, Try.f47, ty3, ty22, ty49, h25, hlt, g1]
    cases g2 : hOK hn (ls.getD k dL).2.1
    ·simp +contextual (maxSteps := 4000000) only [↓bdD, bdP, Nat.reduceLT, Nat.reduceBEq, endQ, Nat.reduceAdd, Nat.reduceLeDiff, Store.new, Store.set, ↓reduceIte, s_house, nth_its, pur_its, nth_arcs, pur_arcs, nth_snds, pur_snds, nth_lnks, pur_lnks, lkC_len, lkC_0, lkC_1, lkC_cap, lkC_pri, lkC_take, pur_lkC, Nat.mul_one, Try.f47, ty3, ty22, ty49, h25, hlt, g1, g2]
    have g3 : (ls.getD k dL).1 = (ls.getD k dL).2.1 := by
     rcases hb with hb | hb | hb
     ·rw [g1] at hb; cases hb
     ·rw [g2] at hb; cases hb
     ·exact hb
    simp +contextual (maxSteps := 4000000) only [↓bdD, bdP, Nat.reduceLT, Nat.reduceBEq, endQ, Nat.reduceAdd, Nat.reduceLeDiff, Store.new, Store.set, ↓reduceIte, s_house, nth_its, pur_its, nth_arcs, pur_arcs, nth_snds, pur_snds, nth_lnks, pur_lnks, lkC_len, lkC_0, lkC_1, lkC_cap, lkC_pri, lkC_take, pur_lkC, Nat.mul_one, Try.f47, ty3, ty22, ty49, h25, hlt, g1, g2, g3]
   ·have g1 : hOK hn (ls.getD k dL).1 = true := by cases g : hOK hn (ls.getD k dL).1; exact absurd (.inl g) hb; rfl
    have g2 : hOK hn (ls.getD k dL).2.1 = true := by cases g : hOK hn (ls.getD k dL).2.1; exact absurd (.inr (.inl g)) hb; rfl
    have g3 : ¬ (ls.getD k dL).1 = (ls.getD k dL).2.1 := fun g => hb (.inr (.inr g))
    have hb3 : badL hn (ls.getD k dL) = if badH (ls.getD k dL) 24 = true then 3 else 0 := by unfold badL; rw [if_neg hb]
    rw [hb3] at hstep
    generalize hx : ls.getD k dL = x at *
    simp +contextual (maxSteps := 4000000) only [↓bdD, bdP, Nat.reduceLT, Nat.reduceBEq, Nat.reduceAdd, Nat.reduceLeDiff, Store.new, Store.set, ↓reduceIte, s_house, nth_its, pur_its, nth_arcs, pur_arcs, nth_snds, pur_snds, nth_lnks, pur_lnks, lkC_len, lkC_0, lkC_1, lkC_cap, lkC_pri, lkC_take, pur_lkC, Nat.mul_one, Try.f47, ty3, ty22, ty49, h25, hlt, g1, g2, g3, hx]
    refine loop_cnt [2, 6, 48, 49, 50, 51, 52, 53, 54, 55, 56, 57, 58, 59, 60, 61, 62, 63, 64, 65, 66, 67, 68, 69, 70, 71, 72, 73, 74, 75, 76, 77] 24 (fun h ρ st' => ρ 48 = I h ∧ badH x h = false ∧ st'.obj M = some (.arr 0 50 [.agg (lkC x)])) (.refl _) ?_ ?_
    ·simp +contextual (maxSteps := 4000000) only [↓bdD, bdP, nth_its, pur_its, nth_arcs, pur_arcs, nth_snds, pur_snds, nth_lnks, pur_lnks, lkC_len, lkC_0, lkC_1, lkC_cap, lkC_pri, lkC_take, pur_lkC, Nat.mul_one, Try.f47, badH]
    ·rintro h ρ2 ⟨ob2, M2⟩ hh ⟨h48, hbh, hM⟩
     dsimp only at hM
     by_cases hh24 : h < 24
     ·have hw2 := hw h (by omega)
      have hi24 : (h : Int) < 24 := by omega
      have hbs : badH x (h + 1) = decide (capA x h < 0 ∨ 1073741824 < capA x h ∨ priA x h < 0 ∨ 1000000 < priA x h) := by simp only [badH, hbh, Bool.false_or]
      by_cases hbad : capA x h < 0 ∨ 1073741824 < capA x h ∨ priA x h < 0 ∨ 1000000 < priA x h
      ·have he : badH x 24 = true := badH_end (k := h + 1) (by rw [hbs]; exact decide_eq_true hbad) (by omega)
       rw [if_pos he] at hstep
       have hend := ckT_end (m := ls.length) (by rw [hstep]; decide) (show k + 1 ≤ ls.length by omega)
       rw [hend, hstep] at hr
       subst hr
       by_cases c1 : capA x h < 0
       ·simp +contextual (maxSteps := 4000000) only [↓bdD, bdP, Nat.reduceLT, Nat.reduceBEq, endQ, Nat.reduceAdd, ↓reduceIte, nth_its, pur_its, nth_arcs, pur_arcs, nth_snds, pur_snds, nth_lnks, pur_lnks, lkC_len, lkC_0, lkC_1, lkC_cap, lkC_pri, lkC_take, pur_lkC, Nat.mul_one, Try.f47, ty3, ty47, ty49, h48, hM, hh24, hi24, c1]
       by_cases c2 : 1073741824 < capA x h
       ·simp +contextual (maxSteps := 4000000) only [↓bdD, bdP, Nat.reduceLT, Nat.reduceBEq, endQ, Nat.reduceAdd, ↓reduceIte, nth_its, pur_its, nth_arcs, pur_arcs, nth_snds, pur_snds, nth_lnks, pur_lnks, lkC_len, lkC_0, lkC_1, lkC_cap, lkC_pri, lkC_take, pur_lkC, Nat.mul_one, Try.f47, ty3, ty47, ty49, h48, hM, hh24, hi24, c1, c2]
       by_cases c3 : priA x h < 0
       ·simp +contextual (maxSteps := 4000000) only [↓bdD, bdP, Nat.reduceLT, Nat.reduceBEq, endQ, Nat.reduceAdd, ↓reduceIte, nth_its, pur_its, nth_arcs, pur_arcs, nth_snds, pur_snds, nth_lnks, pur_lnks, lkC_len, lkC_0, lkC_1, lkC_cap, lkC_pri, lkC_take, pur_lkC, Nat.mul_one, Try.f47, ty3, ty47, ty49, h48, hM, hh24, hi24, c1, c2, c3]
       have c4 : 1000000 < priA x h := by omega
       simp +contextual (maxSteps := 4000000) only [↓bdD, bdP, Nat.reduceLT, Nat.reduceBEq, endQ, Nat.reduceAdd, ↓reduceIte, nth_its, pur_its, nth_arcs, pur_arcs, nth_snds, pur_snds, nth_lnks, pur_lnks, lkC_len, lkC_0, lkC_1, lkC_cap, lkC_pri, lkC_take, pur_lkC, Nat.mul_one, Try.f47, ty3, ty47, ty49, h48, hM, hh24, hi24, c1, c2, c3, c4]
      ·rw [decide_eq_false hbad] at hbs
       have c1 : ¬ capA x h < 0 := by omega
       have c2 : ¬ 1073741824 < capA x h := by omega
       have c3 : ¬ priA x h < 0 := by omega
       have c4 : ¬ 1000000 < priA x h := by omega
       simp +contextual (maxSteps := 4000000) only [↓bdD, bdP, Nat.reduceLT, Nat.reduceBEq, Nat.reduceAdd, ↓reduceIte, nth_its, pur_its, nth_arcs, pur_arcs, nth_snds, pur_snds, nth_lnks, pur_lnks, lkC_len, lkC_0, lkC_1, lkC_cap, lkC_pri, lkC_take, pur_lkC, Nat.mul_one, Try.f47, ty3, ty47, ty49, h48, hM, hh24, hi24, c1, c2, c3, c4, hw2, hbs]
     ·have e : h = 24 := by omega
      subst e
      rw [hbh, if_neg (by simp)] at hstep
      simp +contextual (maxSteps := 4000000) only [↓bdD, bdP, Nat.reduceLT, Nat.reduceBEq, Int.reduceLT, ↓reduceIte, nth_its, pur_its, nth_arcs, pur_arcs, nth_snds, pur_snds, nth_lnks, pur_lnks, lkC_len, lkC_0, lkC_1, lkC_cap, lkC_pri, lkC_take, pur_lkC, Nat.mul_one, Try.f47, h25, h48, hM, hstep, hw1]
      rw [agree_havoc_sub (by decide +kernel)]; simp +contextual (maxSteps := 4000000) only [↓bdD, bdP, Nat.reduceBEq, nth_its, pur_its, nth_arcs, pur_arcs, nth_snds, pur_snds, nth_lnks, pur_lnks, lkC_len, lkC_0, lkC_1, lkC_cap, lkC_pri, lkC_take, pur_lkC, Nat.mul_one, Try.f47]
  ·have e : k = ls.length := by omega
   subst e
   rw [hc] at hr
   subst hr
   simp +contextual (maxSteps := 4000000) only [↓bdD, bdP, Nat.reduceLT, Nat.reduceBEq, endQ, ↓reduceIte, nth_its, pur_its, nth_arcs, pur_arcs, nth_snds, pur_snds, nth_lnks, pur_lnks, lkC_len, lkC_0, lkC_1, lkC_cap, lkC_pri, lkC_take, pur_lkC, Nat.mul_one, Try.f47, h25]
theorem o_check : O_check := k_check c_check
noncomputable def A_rcheck : (Int) × (List Lnk) → List PV := fun (hn, ls) => [.agg [I hn, lnks ls]]
noncomputable def R_rcheck : (Int) × (List Lnk) → PV := fun (hn, ls) => I (checkM hn ls)
def H_rcheck : (Int) × (List Lnk) → Prop := fun (hn, ls) => True
noncomputable def e_rcheck : Nat × Ent := (39, .v (specOf A_rcheck R_rcheck H_rcheck))
theorem j_rcheck : ∀ i j, A_rcheck i = A_rcheck j → i = j := by
 rintro ⟨hn₁, ls₁⟩ ⟨hn₂, ls₂⟩ h
 simp only [A_rcheck, List.cons.injEq, and_true, PV.lits.injEq, PV.int.injEq, PV.bool.injEq, PV.str.injEq, PV.agg.injEq, PV.func.injEq, Fn.func.injEq, PV.vptr.injEq, true_and, List.map_nil, inj_ints, inj_strs, inj_its, inj_arcs, inj_snds, inj_lnks] at h
 simp [Prod.ext_iff, h] <;> omega
theorem s_rcheck (hn : Int) (ls : List Lnk) : specOf A_rcheck R_rcheck H_rcheck [.agg [I hn, lnks ls]] = some (I (checkM hn ls)) := specOf_app j_rcheck (i := (hn, ls)) trivial
def C_rcheck : Prop := ∀ (hn : Int) (ls : List Lnk) , VC Try.prog 39 [.agg [I hn, lnks ls]] (I (checkM hn ls))
def O_rcheck : Prop := EntOK Try.prog e_rcheck.1 e_rcheck.2
theorem k_rcheck (c : C_rcheck) : O_rcheck := specOf_ok fun ⟨hn, ls⟩ h => c hn ls
theorem c_rcheck : C_rcheck := by
 intro hn ls
 refine vc_ofU mixed (l := [e_rhouse]) ((eok_cons o_rhouse eok_nil)) [] []  Try.func39 rfl (by decide +kernel) (N := 85) rfl (by simp) rfl (by kernel_rfl) fun hs => ?_
 simp only [smallL, PV.small, List.length_map, and_true, true_and] at hs
 generalize hr : checkM hn ls = r
 unfold checkM at hr
 by_cases h1 : hn < 1
 ·rw [if_pos (.inl h1)] at hr
  subst hr
  simp +contextual (maxSteps := 4000000) only [↓bdD, bdP, Nat.reduceLT, Nat.reduceBEq, endQ, Nat.reduceAdd, st0, ↓reduceIte, e_rhouse, nth_its, pur_its, nth_arcs, pur_arcs, nth_snds, pur_snds, nth_lnks, pur_lnks, lkC_len, lkC_0, lkC_1, lkC_cap, lkC_pri, lkC_take, pur_lkC, Nat.mul_one, Try.f39, ty3, ty24, h1]
 by_cases h2 : 12 < hn
 ·rw [if_pos (.inr (.inl h2))] at hr
  subst hr
  simp +contextual (maxSteps := 4000000) only [↓bdD, bdP, Nat.reduceLT, Nat.reduceBEq, endQ, Nat.reduceAdd, st0, ↓reduceIte, e_rhouse, nth_its, pur_its, nth_arcs, pur_arcs, nth_snds, pur_snds, nth_lnks, pur_lnks, lkC_len, lkC_0, lkC_1, lkC_cap, lkC_pri, lkC_take, pur_lkC, Nat.mul_one, Try.f39, ty3, ty24, h1, h2]
 by_cases h3 : 60 < ls.length
 ·rw [if_pos (.inr (.inr h3))] at hr
  subst hr
  have h3i : (60 : Int) < (ls.length : Int) := by omega
  simp +contextual (maxSteps := 4000000) only [↓bdD, bdP, Nat.reduceLT, Nat.reduceBEq, endQ, Nat.reduceAdd, st0, ↓reduceIte, e_rhouse, nth_its, pur_its, nth_arcs, pur_arcs, nth_snds, pur_snds, nth_lnks, pur_lnks, lkC_len, lkC_0, lkC_1, lkC_cap, lkC_pri, lkC_take, pur_lkC, Nat.mul_one, Try.f39, ty3, ty22, ty24, h1, h2, h3, h3i]
 rw [if_neg (fun h => h.elim h1 (fun h => h.elim h2 h3))] at hr
 have h3' : ¬ (60 < (ls.length : Int)) := by omega
 have hw : ∀ i : Nat, i < 100 → IntKind.i64.wrap ((i : Int) + 1) = ((i + 1 : Nat) : Int) := fun i g => by rw [wrap64 (by omega) (by omega)]; omega
 simp +contextual (maxSteps := 4000000) only [↓bdD, bdP, Nat.reduceLT, Nat.reduceBEq, Nat.reduceAdd, st0, ↓reduceIte, e_rhouse, nth_its, pur_its, nth_arcs, pur_arcs, nth_snds, pur_snds, nth_lnks, pur_lnks, lkC_len, lkC_0, lkC_1, lkC_cap, lkC_pri, lkC_take, pur_lkC, Nat.mul_one, Try.f39, ty3, ty22, ty24, h1, h2, h3']
 refine loop_cnt [2, 3, 4, 5, 6, 7, 22, 23, 24, 25, 26, 27, 28, 29, 30, 31, 32, 33, 34, 35, 36, 37, 38, 39, 40, 41, 42, 43, 44, 45, 46, 47, 48, 49, 50, 51, 52, 53, 54, 55, 56, 57, 58, 59, 60, 61, 62, 63, 64, 65, 66, 67, 68, 69, 70, 71, 72, 73, 74, 75, 76, 77, 78, 79, 80, 81, 82, 83, 84] ls.length (fun k ρ st' => ρ 3 = I k ∧ ckT hn ls k = 0) (.refl _) ?_ ?_
 ·simp +contextual (maxSteps := 4000000) only [↓bdD, bdP, nth_its, pur_its, nth_arcs, pur_arcs, nth_snds, pur_snds, nth_lnks, pur_lnks, lkC_len, lkC_0, lkC_1, lkC_cap, lkC_pri, lkC_take, pur_lkC, Nat.mul_one, Try.f39, ckT]
 ·rintro k ρ ⟨ob, M⟩ hk ⟨h3s, hc⟩
  by_cases hlt : k < ls.length
  ·have hstep : ckT hn ls (k + 1) = badL hn (ls.getD k dL) := by simp only [ckT, hc, ne_eq, not_true_eq_false, if_false]
   have hk64 : k < 100 := by omega
   have hw1 := hw k hk64
   by_cases hb : hOK hn (ls.getD k dL).1 = false ∨ hOK hn (ls.getD k dL).2.1 = false ∨ (ls.getD k dL).1 = (ls.getD k dL).2.1
   ·have hb1 : badL hn (ls.getD k dL) = 1 := by unfold badL; rw [if_pos hb]
    rw [hb1] at hstep
    have hend := ckT_end (m := ls.length) (by rw [hstep]; decide) (show k + 1 ≤ ls.length by omega)
    rw [hend, hstep] at hr
    subst hr
    cases g1 : hOK hn (ls.getD k dL).1
    ·simp +contextual (maxSteps := 4000000) only [↓bdD, bdP, Nat.reduceLT, Nat.reduceBEq, endQ, Nat.reduceAdd, Nat.reduceLeDiff, Store.new, Store.set, ↓reduceIte, s_rhouse, nth_its, pur_its, nth_arcs, pur_arcs, nth_snds, pur_snds, nth_lnks, pur_lnks, lkC_len, lkC_0, lkC_1, lkC_cap, lkC_pri, lkC_take, pur_lkC, Nat.mul_one, Try.f39, ty3, ty22, ty24, ty49, h3s, hlt, g1]
    cases g2 : hOK hn (ls.getD k dL).2.1
    ·simp +contextual (maxSteps := 4000000) only [↓bdD, bdP, Nat.reduceLT, Nat.reduceBEq, endQ, Nat.reduceAdd, Nat.reduceLeDiff, Store.new, Store.set, ↓reduceIte, s_rhouse, nth_its, pur_its, nth_arcs, pur_arcs, nth_snds, pur_snds, nth_lnks, pur_lnks, lkC_len, lkC_0, lkC_1, lkC_cap, lkC_pri, lkC_take, pur_lkC, Nat.mul_one, Try.f39, ty3, ty22, ty24, ty49, h3s, hlt, g1, g2]
    have g3 : (ls.getD k dL).1 = (ls.getD k dL).2.1 := by
     rcases hb with hb | hb | hb
     ·rw [g1] at hb; cases hb
     ·rw [g2] at hb; cases hb
     ·exact hb
    simp +contextual (maxSteps := 4000000) only [↓bdD, bdP, Nat.reduceLT, Nat.reduceBEq, endQ, Nat.reduceAdd, Nat.reduceLeDiff, Store.new, Store.set, ↓reduceIte, s_rhouse, nth_its, pur_its, nth_arcs, pur_arcs, nth_snds, pur_snds, nth_lnks, pur_lnks, lkC_len, lkC_0, lkC_1, lkC_cap, lkC_pri, lkC_take, pur_lkC, Nat.mul_one, Try.f39, ty3, ty22, ty24, ty49, h3s, hlt, g1, g2, g3]
   ·have g1 : hOK hn (ls.getD k dL).1 = true := by cases g : hOK hn (ls.getD k dL).1; exact absurd (.inl g) hb; rfl
    have g2 : hOK hn (ls.getD k dL).2.1 = true := by cases g : hOK hn (ls.getD k dL).2.1; exact absurd (.inr (.inl g)) hb; rfl
    have g3 : ¬ (ls.getD k dL).1 = (ls.getD k dL).2.1 := fun g => hb (.inr (.inr g))
    have hb3 : badL hn (ls.getD k dL) = if badH (ls.getD k dL) 24 = true then 3 else 0 := by unfold badL; rw [if_neg hb]
    rw [hb3] at hstep
    generalize hx : ls.getD k dL = x at *
    simp +contextual (maxSteps := 4000000) only [↓bdD, bdP, Nat.reduceLT, Nat.reduceBEq, Nat.reduceAdd, Nat.reduceLeDiff, Store.new, Store.set, ↓reduceIte, s_rhouse, nth_its, pur_its, nth_arcs, pur_arcs, nth_snds, pur_snds, nth_lnks, pur_lnks, lkC_len, lkC_0, lkC_1, lkC_cap, lkC_pri, lkC_take, pur_lkC, Nat.mul_one, Try.f39, ty3, ty22, ty24, ty49, h3s, hlt, g1, g2, g3, hx]
    refine loop_cnt [2, 7, 55, 56, 57, 58, 59, 60, 61, 62, 63, 64, 65, 66, 67, 68, 69, 70, 71, 72, 73, 74, 75, 76, 77, 78, 79, 80, 81, 82, 83, 84] 24 (fun h ρ st' => ρ 7 = I h ∧ badH x h = false ∧ st'.obj M = some (.arr 0 50 [.agg (lkC x)])) (.refl _) ?_ ?_
    ·simp +contextual (maxSteps := 4000000) only [↓bdD, bdP, nth_its, pur_its, nth_arcs, pur_arcs, nth_snds, pur_snds, nth_lnks, pur_lnks, lkC_len, lkC_0, lkC_1, lkC_cap, lkC_pri, lkC_take, pur_lkC, Nat.mul_one, Try.f39, badH]
    ·rintro h ρ2 ⟨ob2, M2⟩ hh ⟨h7, hbh, hM⟩
     dsimp only at hM
     by_cases hh24 : h < 24
     ·have hw2 := hw h (by omega)
      have hi24 : (h : Int) < 24 := by omega
      have hbs : badH x (h + 1) = decide (capA x h < 0 ∨ 1073741824 < capA x h ∨ priA x h < 0 ∨ 1000000 < priA x h) := by simp only [badH, hbh, Bool.false_or]
      by_cases hbad : capA x h < 0 ∨ 1073741824 < capA x h ∨ priA x h < 0 ∨ 1000000 < priA x h
      ·have he : badH x 24 = true := badH_end (k := h + 1) (by rw [hbs]; exact decide_eq_true hbad) (by omega)
       rw [if_pos he] at hstep
       have hend := ckT_end (m := ls.length) (by rw [hstep]; decide) (show k + 1 ≤ ls.length by omega)
       rw [hend, hstep] at hr
       subst hr
       by_cases c1 : capA x h < 0
       ·simp +contextual (maxSteps := 4000000) only [↓bdD, bdP, Nat.reduceLT, Nat.reduceBEq, endQ, Nat.reduceAdd, ↓reduceIte, nth_its, pur_its, nth_arcs, pur_arcs, nth_snds, pur_snds, nth_lnks, pur_lnks, lkC_len, lkC_0, lkC_1, lkC_cap, lkC_pri, lkC_take, pur_lkC, Nat.mul_one, Try.f39, ty3, ty47, ty49, h7, hM, hh24, hi24, c1]
       by_cases c2 : 1073741824 < capA x h
       ·simp +contextual (maxSteps := 4000000) only [↓bdD, bdP, Nat.reduceLT, Nat.reduceBEq, endQ, Nat.reduceAdd, ↓reduceIte, nth_its, pur_its, nth_arcs, pur_arcs, nth_snds, pur_snds, nth_lnks, pur_lnks, lkC_len, lkC_0, lkC_1, lkC_cap, lkC_pri, lkC_take, pur_lkC, Nat.mul_one, Try.f39, ty3, ty47, ty49, h7, hM, hh24, hi24, c1, c2]
       by_cases c3 : priA x h < 0
       ·simp +contextual (maxSteps := 4000000) only [↓bdD, bdP, Nat.reduceLT, Nat.reduceBEq, endQ, Nat.reduceAdd, ↓reduceIte, nth_its, pur_its, nth_arcs, pur_arcs, nth_snds, pur_snds, nth_lnks, pur_lnks, lkC_len, lkC_0, lkC_1, lkC_cap, lkC_pri, lkC_take, pur_lkC, Nat.mul_one, Try.f39, ty3, ty47, ty49, h7, hM, hh24, hi24, c1, c2, c3]
       have c4 : 1000000 < priA x h := by omega
       simp +contextual (maxSteps := 4000000) only [↓bdD, bdP, Nat.reduceLT, Nat.reduceBEq, endQ, Nat.reduceAdd, ↓reduceIte, nth_its, pur_its, nth_arcs, pur_arcs, nth_snds, pur_snds, nth_lnks, pur_lnks, lkC_len, lkC_0, lkC_1, lkC_cap, lkC_pri, lkC_take, pur_lkC, Nat.mul_one, Try.f39, ty3, ty47, ty49, h7, hM, hh24, hi24, c1, c2, c3, c4]
      ·rw [decide_eq_false hbad] at hbs
       have c1 : ¬ capA x h < 0 := by omega
       have c2 : ¬ 1073741824 < capA x h := by omega
       have c3 : ¬ priA x h < 0 := by omega
       have c4 : ¬ 1000000 < priA x h := by omega
       simp +contextual (maxSteps := 4000000) only [↓bdD, bdP, Nat.reduceLT, Nat.reduceBEq, Nat.reduceAdd, ↓reduceIte, nth_its, pur_its, nth_arcs, pur_arcs, nth_snds, pur_snds, nth_lnks, pur_lnks, lkC_len, lkC_0, lkC_1, lkC_cap, lkC_pri, lkC_take, pur_lkC, Nat.mul_one, Try.f39, ty3, ty47, ty49, h7, hM, hh24, hi24, c1, c2, c3, c4, hw2, hbs]
     ·have e : h = 24 := by omega
      subst e
      rw [hbh, if_neg (by simp)] at hstep
      simp +contextual (maxSteps := 4000000) only [↓bdD, bdP, Nat.reduceLT, Nat.reduceBEq, Int.reduceLT, ↓reduceIte, nth_its, pur_its, nth_arcs, pur_arcs, nth_snds, pur_snds, nth_lnks, pur_lnks, lkC_len, lkC_0, lkC_1, lkC_cap, lkC_pri, lkC_take, pur_lkC, Nat.mul_one, Try.f39, h3s, h7, hM, hstep, hw1]
      rw [agree_havoc_sub (by decide +kernel)]; simp +contextual (maxSteps := 4000000) only [↓bdD, bdP, Nat.reduceBEq, nth_its, pur_its, nth_arcs, pur_arcs, nth_snds, pur_snds, nth_lnks, pur_lnks, lkC_len, lkC_0, lkC_1, lkC_cap, lkC_pri, lkC_take, pur_lkC, Nat.mul_one, Try.f39]
  ·have e : k = ls.length := by omega
   subst e
   rw [hc] at hr
   subst hr
   simp +contextual (maxSteps := 4000000) only [↓bdD, bdP, Nat.reduceLT, Nat.reduceBEq, endQ, Nat.reduceAdd, ↓reduceIte, nth_its, pur_its, nth_arcs, pur_arcs, nth_snds, pur_snds, nth_lnks, pur_lnks, lkC_len, lkC_0, lkC_1, lkC_cap, lkC_pri, lkC_take, pur_lkC, Nat.mul_one, Try.f39, ty22, ty24, h3s]
theorem o_rcheck : O_rcheck := k_rcheck c_rcheck
structure OKn (hn : Int) (ls : List Lnk) : Prop where
 houses : 1 ≤ hn ∧ hn ≤ 12
 len : ls.length ≤ 60
 ends : ∀ k, k < ls.length → 0 ≤ (ls.getD k dL).1 ∧ (ls.getD k dL).1 < hn ∧ 0 ≤ (ls.getD k dL).2.1 ∧ (ls.getD k dL).2.1 < hn ∧ (ls.getD k dL).1 ≠ (ls.getD k dL).2.1
 hours : ∀ k h, k < ls.length → h < 24 → 0 ≤ capA (ls.getD k dL) h ∧ capA (ls.getD k dL) h ≤ 1073741824 ∧ 0 ≤ priA (ls.getD k dL) h ∧ priA (ls.getD k dL) h ≤ 1000000
theorem badH_false {a : Lnk} : ∀ {k}, badH a k = false ↔ ∀ h, h < k → 0 ≤ capA a h ∧ capA a h ≤ 1073741824 ∧ 0 ≤ priA a h ∧ priA a h ≤ 1000000
 | 0 => ⟨fun _ h g => absurd g (by omega), fun _ => rfl⟩
 | k + 1 => by
  have ih := @badH_false a k
  simp only [badH, Bool.or_eq_false_iff, ih, decide_eq_false_iff_not]
  constructor
  ·rintro ⟨h1, h2⟩ h hk
   by_cases e : h = k
   ·subst e; omega
   ·exact h1 h (by omega)
  ·intro h
   have := h k (by omega)
   exact ⟨fun i hi => h i (by omega), by omega⟩
theorem ckT_zero {hn : Int} {ls : List Lnk} : ∀ {k}, ckT hn ls k = 0 ↔ ∀ i, i < k → badL hn (ls.getD i dL) = 0
 | 0 => ⟨fun _ h g => absurd g (by omega), fun _ => rfl⟩
 | k + 1 => by
  have ih := @ckT_zero hn ls k
  simp only [ckT]
  by_cases h : ckT hn ls k = 0
  ·rw [if_neg (fun hn => hn h)]
   constructor
   ·intro hb i hi
    by_cases e : i = k
    ·subst e; exact hb
    ·exact ih.1 h i (by omega)
   ·intro g; exact g k (by omega)
  ·rw [if_pos h]
   exact ⟨fun g => absurd g h, fun g => absurd (ih.2 fun i hi => g i (by omega)) h⟩
theorem check_zero {hn : Int} {ls : List Lnk} : checkM hn ls = 0 ↔ OKn hn ls := by
 unfold checkM
 split
 ·rename_i h
  refine ⟨fun h => (by cases h), fun g => ?_⟩
  have := g.houses
  have := g.len
  omega
 ·rename_i h
  rw [ckT_zero]
  constructor
  ·intro g
   have key : ∀ k, k < ls.length → ¬ (hOK hn (ls.getD k dL).1 = false ∨ hOK hn (ls.getD k dL).2.1 = false ∨ (ls.getD k dL).1 = (ls.getD k dL).2.1) ∧ badH (ls.getD k dL) 24 = false := by
    intro k hk
    have := g k hk
    unfold badL at this
    split at this
    ·cases this
    ·rename_i h1
     refine ⟨h1, ?_⟩
     cases hb : badH (ls.getD k dL) 24
     ·rfl
     ·rw [hb] at this; cases this
   refine ⟨by omega, by omega, fun k hk => ?_, fun k h hk hh => ?_⟩
   ·obtain ⟨h1, _⟩ := key k hk
    simp only [hOK, decide_eq_false_iff_not] at h1
    exact ⟨by omega, by omega, by omega, by omega, by omega⟩
   ·exact badH_false.1 (key k hk).2 h hh
  ·intro g k hk
   have h1 := g.ends k hk
   have h2 : badH (ls.getD k dL) 24 = false := badH_false.2 fun h hh => g.hours k h hk hh
   unfold badL
   rw [if_neg (by simp only [hOK, decide_eq_false_iff_not]; omega), h2]; rfl
end Sim
