/- What functions of this seat compute, by values: contracts (lemmas of the statement's proof, under the conditions that each names). -/
import Derived.Test.YtbojbamchaohpaaQBD
import Derived.Test.YtbojbamchaohpaaQN1
namespace Sim
open Go Go.Proofs
set_option maxRecDepth 10000
set_option maxHeartbeats 2000000
set_option linter.unusedVariables false
set_option linter.unusedSimpArgs false
attribute [local congr] opsIf_congr condC_congr guardC_congr grd_congr pick3_congr obind_congr omap_congr
def sndE (ls : List Lnk) (l : List Snd) (k : Nat) : Int :=
 if (l.getD k dS).1 < 0 ∨ (ls.length : Int) ≤ (l.getD k dS).1 then 1
 else if (l.getD k dS).2.1 < 0 ∨ 1000000 ≤ (l.getD k dS).2.1 ∨ (l.getD k dS).2.2 < 1 ∨ 1073741824 < (l.getD k dS).2.2 then 3
 else if 0 < k ∧ ((l.getD k dS).2.1 < (l.getD (k - 1) dS).2.1 ∨ ((l.getD k dS).2.1 = (l.getD (k - 1) dS).2.1 ∧ (l.getD k dS).1 ≤ (l.getD (k - 1) dS).1)) then 1 else 0
def rgT (ls : List Lnk) (l : List Snd) : Nat → Int
 | 0 => 0
 | k + 1 => if rgT ls l k ≠ 0 then rgT ls l k else sndE ls l k
def rightM (hn : Int) (ls : List Lnk) (l : List Snd) : Int := if checkM hn ls ≠ 0 then checkM hn ls else if 2000 < l.length then 2 else rgT ls l l.length
theorem rgT_stays {ls : List Lnk} {l : List Snd} {k : Nat} (h : rgT ls l k ≠ 0) : ∀ m, rgT ls l (k + m) = rgT ls l k
 | 0 => rfl
 | m + 1 => by
  have ih := rgT_stays h m
  show (if rgT ls l (k + m) ≠ 0 then rgT ls l (k + m) else _) = _
  rw [ih, if_pos h]
theorem rgT_end {ls : List Lnk} {l : List Snd} {k m : Nat} (h : rgT ls l k ≠ 0) (hk : k ≤ m) : rgT ls l m = rgT ls l k := by
 have := rgT_stays h (m - k)
 rwa [show k + (m - k) = m by omega] at this
noncomputable def A_right : (Int) × (List Lnk) × (List Snd) → List PV := fun (hn, ls, l) => [.agg [I hn, lnks ls], snds l]
noncomputable def R_right : (Int) × (List Lnk) × (List Snd) → PV := fun (hn, ls, l) => I (rightM hn ls l)
def H_right : (Int) × (List Lnk) × (List Snd) → Prop := fun (hn, ls, l) => True
noncomputable def e_right : Nat × Ent := (33, .v (specOf A_right R_right H_right))
theorem j_right : ∀ i j, A_right i = A_right j → i = j := by
 rintro ⟨hn₁, ls₁, l₁⟩ ⟨hn₂, ls₂, l₂⟩ h
 simp only [A_right, List.cons.injEq, and_true, PV.lits.injEq, PV.int.injEq, PV.bool.injEq, PV.str.injEq, PV.agg.injEq, PV.func.injEq, Fn.func.injEq, PV.vptr.injEq, true_and, List.map_nil, inj_ints, inj_strs, inj_its, inj_arcs, inj_snds, inj_lnks] at h
 simp [Prod.ext_iff, h] <;> omega
theorem s_right (hn : Int) (ls : List Lnk) (l : List Snd) : specOf A_right R_right H_right [.agg [I hn, lnks ls], snds l] = some (I (rightM hn ls l)) := specOf_app j_right (i := (hn, ls, l)) trivial
def C_right : Prop := ∀ (hn : Int) (ls : List Lnk) (l : List Snd) , VC Try.prog 33 [.agg [I hn, lnks ls], snds l] (I (rightM hn ls l))
def O_right : Prop := EntOK Try.prog e_right.1 e_right.2
theorem k_right (c : C_right) : O_right := specOf_ok fun ⟨hn, ls, l⟩ h => c hn ls l
theorem c_right : C_right := by
 intro hn ls l
 refine vc_ofU mixed (l := [e_check]) ((eok_cons o_check eok_nil)) [] []  Try.func33 rfl (by decide +kernel) (N := 91) rfl (by simp) rfl (by kernel_rfl) fun hs => ?_
 simp only [smallL, PV.small, List.length_map, and_true, true_and] at hs
 by_cases h : checkM hn ls = 0
 case neg =>
  rw [show rightM hn ls l = checkM hn ls by simp [rightM, h]]
  generalize hr : checkM hn ls = r at *
  simp +contextual (maxSteps := 4000000) only [↓bdD, bdP, Nat.reduceLT, Nat.reduceBEq, endQ, Nat.reduceAdd, st0, ↓reduceIte, e_check, s_check, nth_its, pur_its, nth_arcs, pur_arcs, nth_snds, pur_snds, nth_lnks, pur_lnks, lkC_len, lkC_0, lkC_1, lkC_cap, lkC_pri, lkC_take, pur_lkC, Nat.mul_one, Try.f33, ty24, h, hr]
 have hc := check_zero.1 h
 have h60 := hc.len
 by_cases hl : 2000 < l.length
 ·have hli : (2000 : Int) < (l.length : Int) := by omega
  rw [show rightM hn ls l = 2 by simp [rightM, h, hl]]
  simp +contextual (maxSteps := 4000000) only [↓bdD, bdP, Nat.reduceLT, Nat.reduceBEq, endQ, Nat.reduceAdd, st0, ↓reduceIte, e_check, s_check, nth_its, pur_its, nth_arcs, pur_arcs, nth_snds, pur_snds, nth_lnks, pur_lnks, lkC_len, lkC_0, lkC_1, lkC_cap, lkC_pri, lkC_take, pur_lkC, Nat.mul_one, Try.f33, ty24, ty25, h, hli]
 have hli : ¬ (2000 : Int) < (l.length : Int) := by omega
 rw [show rightM hn ls l = rgT ls l l.length by simp [rightM, h, hl]]
 generalize hr : rgT ls l l.length = r
 simp +contextual (maxSteps := 4000000) only [↓bdD, bdP, Nat.reduceLT, Nat.reduceBEq, Nat.reduceAdd, st0, ↓reduceIte, e_check, s_check, nth_its, pur_its, nth_arcs, pur_arcs, nth_snds, pur_snds, nth_lnks, pur_lnks, lkC_len, lkC_0, lkC_1, lkC_cap, lkC_pri, lkC_take, pur_lkC, Nat.mul_one, Try.f33, ty24, ty25, h, hli]
 refine loop_cnt [4, 6, 7, 18, 19, 20, 21, 22, 23, 24, 25, 26, 27, 28, 29, 30, 31, 32, 33, 34, 35, 36, 37, 38, 39, 40, 41, 42, 43, 44, 45, 46, 47, 48, 49, 50, 51, 52, 53, 54, 55, 56, 57, 58, 59, 60, 61, 62, 63, 64, 65, 66, 67, 68, 69, 70, 71, 72, 73, 74, 75, 76, 77, 78, 79, 80, 81, 82, 83, 84, 85, 86, 87, 88, 89, 90] l.length (fun k ρ st' => ρ 18 = I k ∧ rgT ls l k = 0) (.refl _) ?_ ?_
 ·simp +contextual (maxSteps := 4000000) only [↓bdD, bdP, nth_its, pur_its, nth_arcs, pur_arcs, nth_snds, pur_snds, nth_lnks, pur_lnks, lkC_len, lkC_0, lkC_1, lkC_cap, lkC_pri, lkC_take, pur_lkC, Nat.mul_one, Try.f33, rgT]
 ·rintro k ρ ⟨ob, M⟩ hk ⟨h18, hz⟩
  by_cases hlt : k < l.length
  ·have hstep : rgT ls l (k + 1) = sndE ls l k := by simp only [rgT, hz, ne_eq, not_true_eq_false, if_false]
   have hw1 : IntKind.i64.wrap ((k : Int) + 1) = ((k + 1 : Nat) : Int) := by rw [wrap64 (by omega) (by omega)]; omega
   unfold sndE at hstep
   generalize hx : l.getD k dS = x at *
   by_cases e1 : x.1 < 0 ∨ (ls.length : Int) ≤ x.1
   ·rw [if_pos e1] at hstep
    have hend := rgT_end (m := l.length) (by rw [hstep]; decide) (show k + 1 ≤ l.length by omega)
    rw [hend, hstep] at hr
    subst hr
    have e : x.1 < 0 ∨ (¬ x.1 < 0 ∧ (ls.length : Int) ≤ x.1) := by omega
    rcases e with e | e
    ·simp +contextual (maxSteps := 4000000) only [↓bdD, bdP, Nat.reduceLT, Nat.reduceBEq, endQ, Nat.reduceAdd, Store.new, Store.set, ↓reduceIte, nth_its, pur_its, nth_arcs, pur_arcs, nth_snds, pur_snds, nth_lnks, pur_lnks, lkC_len, lkC_0, lkC_1, lkC_cap, lkC_pri, lkC_take, pur_lkC, Nat.mul_one, Try.f33, ty3, ty25, ty56, h18, hlt, hx, e]
    ·simp +contextual (maxSteps := 4000000) only [↓bdD, bdP, Nat.reduceLT, Nat.reduceBEq, endQ, Nat.reduceAdd, Store.new, Store.set, ↓reduceIte, nth_its, pur_its, nth_arcs, pur_arcs, nth_snds, pur_snds, nth_lnks, pur_lnks, lkC_len, lkC_0, lkC_1, lkC_cap, lkC_pri, lkC_take, pur_lkC, Nat.mul_one, Try.f33, ty3, ty22, ty24, ty25, ty56, h18, hlt, hx, e]
   ·rw [if_neg e1] at hstep
    by_cases e2 : x.2.1 < 0 ∨ 1000000 ≤ x.2.1 ∨ x.2.2 < 1 ∨ 1073741824 < x.2.2
    ·rw [if_pos e2] at hstep
     have hend := rgT_end (m := l.length) (by rw [hstep]; decide) (show k + 1 ≤ l.length by omega)
     rw [hend, hstep] at hr
     subst hr
     have e : (¬ x.1 < 0 ∧ ¬ (ls.length : Int) ≤ x.1 ∧ x.2.1 < 0) ∨ (¬ x.1 < 0 ∧ ¬ (ls.length : Int) ≤ x.1 ∧ ¬ x.2.1 < 0 ∧ 1000000 ≤ x.2.1) ∨ (¬ x.1 < 0 ∧ ¬ (ls.length : Int) ≤ x.1 ∧ ¬ x.2.1 < 0 ∧ ¬ 1000000 ≤ x.2.1 ∧ x.2.2 < 1) ∨ (¬ x.1 < 0 ∧ ¬ (ls.length : Int) ≤ x.1 ∧ ¬ x.2.1 < 0 ∧ ¬ 1000000 ≤ x.2.1 ∧ ¬ x.2.2 < 1 ∧ 1073741824 < x.2.2) := by omega
     rcases e with e | e | e | e
     ·simp +contextual (maxSteps := 4000000) only [↓bdD, bdP, Nat.reduceLT, Nat.reduceBEq, endQ, Nat.reduceAdd, Store.new, Store.set, ↓reduceIte, nth_its, pur_its, nth_arcs, pur_arcs, nth_snds, pur_snds, nth_lnks, pur_lnks, lkC_len, lkC_0, lkC_1, lkC_cap, lkC_pri, lkC_take, pur_lkC, Nat.mul_one, Try.f33, ty3, ty22, ty24, ty25, ty56, h18, hlt, hx, e]
     ·simp +contextual (maxSteps := 4000000) only [↓bdD, bdP, Nat.reduceLT, Nat.reduceBEq, endQ, Nat.reduceAdd, Store.new, Store.set, ↓reduceIte, nth_its, pur_its, nth_arcs, pur_arcs, nth_snds, pur_snds, nth_lnks, pur_lnks, lkC_len, lkC_0, lkC_1, lkC_cap, lkC_pri, lkC_take, pur_lkC, Nat.mul_one, Try.f33, ty3, ty22, ty24, ty25, ty56, h18, hlt, hx, e]
     ·simp +contextual (maxSteps := 4000000) only [↓bdD, bdP, Nat.reduceLT, Nat.reduceBEq, endQ, Nat.reduceAdd, Store.new, Store.set, ↓reduceIte, nth_its, pur_its, nth_arcs, pur_arcs, nth_snds, pur_snds, nth_lnks, pur_lnks, lkC_len, lkC_0, lkC_1, lkC_cap, lkC_pri, lkC_take, pur_lkC, Nat.mul_one, Try.f33, ty3, ty22, ty24, ty25, ty56, h18, hlt, hx, e]
     ·simp +contextual (maxSteps := 4000000) only [↓bdD, bdP, Nat.reduceLT, Nat.reduceBEq, endQ, Nat.reduceAdd, Store.new, Store.set, ↓reduceIte, nth_its, pur_its, nth_arcs, pur_arcs, nth_snds, pur_snds, nth_lnks, pur_lnks, lkC_len, lkC_0, lkC_1, lkC_cap, lkC_pri, lkC_take, pur_lkC, Nat.mul_one, Try.f33, ty3, ty22, ty24, ty25, ty56, h18, hlt, hx, e]
    ·rw [if_neg e2] at hstep
     have e : ¬ x.1 < 0 ∧ ¬ (ls.length : Int) ≤ x.1 ∧ ¬ x.2.1 < 0 ∧ ¬ 1000000 ≤ x.2.1 ∧ ¬ x.2.2 < 1 ∧ ¬ 1073741824 < x.2.2 := by omega
     by_cases h0 : 0 < k
     case neg =>
      rw [if_neg (fun g => h0 g.1)] at hstep
      have h0i : ¬ (0 : Int) < (k : Int) := by omega
      simp +contextual (maxSteps := 4000000) only [↓bdD, bdP, Nat.reduceLT, Nat.reduceBEq, Nat.reduceAdd, Store.new, Store.set, ↓reduceIte, nth_its, pur_its, nth_arcs, pur_arcs, nth_snds, pur_snds, nth_lnks, pur_lnks, lkC_len, lkC_0, lkC_1, lkC_cap, lkC_pri, lkC_take, pur_lkC, Nat.mul_one, Try.f33, ty3, ty22, ty24, ty25, ty56, h18, hlt, hx, e, h0i, hw1, hstep]
     have h0i : (0 : Int) < (k : Int) := by omega
     have hwm : IntKind.i64.wrap ((k : Int) - 1) = ((k - 1 : Nat) : Int) := by rw [wrap64 (by omega) (by omega)]; omega
     have hltm : k - 1 < l.length := by omega
     generalize hy : l.getD (k - 1) dS = y at *
     by_cases e3 : x.2.1 < y.2.1 ∨ (x.2.1 = y.2.1 ∧ x.1 ≤ y.1)
     ·rw [if_pos ⟨h0, e3⟩] at hstep
      have hend := rgT_end (m := l.length) (by rw [hstep]; decide) (show k + 1 ≤ l.length by omega)
      rw [hend, hstep] at hr
      subst hr
      have e' : x.2.1 < y.2.1 ∨ (¬ x.2.1 < y.2.1 ∧ x.2.1 = y.2.1 ∧ x.1 ≤ y.1 ∧ ¬ y.2.1 < 0 ∧ ¬ 1000000 ≤ y.2.1 ∧ ¬ y.2.1 < y.2.1) := by omega
      rcases e' with e' | e'
      ·simp +contextual (maxSteps := 4000000) only [↓bdD, bdP, Nat.reduceLT, Nat.reduceBEq, endQ, Nat.reduceAdd, Store.new, Store.set, ↓reduceIte, nth_its, pur_its, nth_arcs, pur_arcs, nth_snds, pur_snds, nth_lnks, pur_lnks, lkC_len, lkC_0, lkC_1, lkC_cap, lkC_pri, lkC_take, pur_lkC, Nat.mul_one, Try.f33, ty3, ty22, ty24, ty25, ty56, h18, hlt, hx, e, h0i, hwm, hltm, hy, e']
      ·simp +contextual (maxSteps := 4000000) only [↓bdD, bdP, Nat.reduceLT, Nat.reduceBEq, endQ, Nat.reduceAdd, Store.new, Store.set, ↓reduceIte, nth_its, pur_its, nth_arcs, pur_arcs, nth_snds, pur_snds, nth_lnks, pur_lnks, lkC_len, lkC_0, lkC_1, lkC_cap, lkC_pri, lkC_take, pur_lkC, Nat.mul_one, Try.f33, ty3, ty22, ty24, ty25, ty56, h18, hlt, hx, e, h0i, hwm, hltm, hy, e']
     ·rw [if_neg (fun g => e3 g.2)] at hstep
      have e' : (¬ x.2.1 < y.2.1 ∧ ¬ x.2.1 = y.2.1 ∧ ¬ y.2.1 = x.2.1) ∨ (¬ x.2.1 < y.2.1 ∧ x.2.1 = y.2.1 ∧ ¬ x.1 ≤ y.1 ∧ ¬ y.2.1 < 0 ∧ ¬ 1000000 ≤ y.2.1 ∧ ¬ y.2.1 < y.2.1) := by omega
      rcases e' with e' | e'
      ·simp +contextual (maxSteps := 4000000) only [↓bdD, bdP, Nat.reduceLT, Nat.reduceBEq, Nat.reduceAdd, Store.new, Store.set, ↓reduceIte, nth_its, pur_its, nth_arcs, pur_arcs, nth_snds, pur_snds, nth_lnks, pur_lnks, lkC_len, lkC_0, lkC_1, lkC_cap, lkC_pri, lkC_take, pur_lkC, Nat.mul_one, Try.f33, ty3, ty22, ty24, ty25, ty56, h18, hlt, hx, e, h0i, hwm, hltm, hy, e', hw1, hstep]
      ·simp +contextual (maxSteps := 4000000) only [↓bdD, bdP, Nat.reduceLT, Nat.reduceBEq, Nat.reduceAdd, Store.new, Store.set, ↓reduceIte, nth_its, pur_its, nth_arcs, pur_arcs, nth_snds, pur_snds, nth_lnks, pur_lnks, lkC_len, lkC_0, lkC_1, lkC_cap, lkC_pri, lkC_take, pur_lkC, Nat.mul_one, Try.f33, ty3, ty22, ty24, ty25, ty56, h18, hlt, hx, e, h0i, hwm, hltm, hy, e', hw1, hstep]
  ·have e : k = l.length := by omega
   subst e
   rw [hz] at hr
   subst hr
   simp +contextual (maxSteps := 4000000) only [↓bdD, bdP, Nat.reduceLT, Nat.reduceBEq, endQ, ↓reduceIte, nth_its, pur_its, nth_arcs, pur_arcs, nth_snds, pur_snds, nth_lnks, pur_lnks, lkC_len, lkC_0, lkC_1, lkC_cap, lkC_pri, lkC_take, pur_lkC, Nat.mul_one, Try.f33, h18]
theorem o_right : O_right := k_right c_right
noncomputable def A_rright : (Int) × (List Lnk) × (List Snd) → List PV := fun (hn, ls, l) => [.agg [I hn, lnks ls], snds l]
noncomputable def R_rright : (Int) × (List Lnk) × (List Snd) → PV := fun (hn, ls, l) => I (rightM hn ls l)
def H_rright : (Int) × (List Lnk) × (List Snd) → Prop := fun (hn, ls, l) => True
noncomputable def e_rright : Nat × Ent := (24, .v (specOf A_rright R_rright H_rright))
theorem j_rright : ∀ i j, A_rright i = A_rright j → i = j := by
 rintro ⟨hn₁, ls₁, l₁⟩ ⟨hn₂, ls₂, l₂⟩ h
 simp only [A_rright, List.cons.injEq, and_true, PV.lits.injEq, PV.int.injEq, PV.bool.injEq, PV.str.injEq, PV.agg.injEq, PV.func.injEq, Fn.func.injEq, PV.vptr.injEq, true_and, List.map_nil, inj_ints, inj_strs, inj_its, inj_arcs, inj_snds, inj_lnks] at h
 simp [Prod.ext_iff, h] <;> omega
theorem s_rright (hn : Int) (ls : List Lnk) (l : List Snd) : specOf A_rright R_rright H_rright [.agg [I hn, lnks ls], snds l] = some (I (rightM hn ls l)) := specOf_app j_rright (i := (hn, ls, l)) trivial
def C_rright : Prop := ∀ (hn : Int) (ls : List Lnk) (l : List Snd) , VC Try.prog 24 [.agg [I hn, lnks ls], snds l] (I (rightM hn ls l))
def O_rright : Prop := EntOK Try.prog e_rright.1 e_rright.2
theorem k_rright (c : C_rright) : O_rright := specOf_ok fun ⟨hn, ls, l⟩ h => c hn ls l
theorem c_rright : C_rright := by
 intro hn ls l
 refine vc_ofU mixed (l := [e_rcheck]) ((eok_cons o_rcheck eok_nil)) [] []  Try.func24 rfl (by decide +kernel) (N := 90) rfl (by simp) rfl (by kernel_rfl) fun hs => ?_
 simp only [smallL, PV.small, List.length_map, and_true, true_and] at hs
 by_cases h : checkM hn ls = 0
 case neg =>
  rw [show rightM hn ls l = checkM hn ls by simp [rightM, h]]
  generalize hr : checkM hn ls = r at *
  simp +contextual (maxSteps := 4000000) only [↓bdD, bdP, Nat.reduceLT, Nat.reduceBEq, endQ, Nat.reduceAdd, st0, ↓reduceIte, e_rcheck, s_rcheck, nth_its, pur_its, nth_arcs, pur_arcs, nth_snds, pur_snds, nth_lnks, pur_lnks, lkC_len, lkC_0, lkC_1, lkC_cap, lkC_pri, lkC_take, pur_lkC, Nat.mul_one, Try.f24, ty24, h, hr]
 have hc := check_zero.1 h
 have h60 := hc.len
 by_cases hl : 2000 < l.length
 ·have hli : (2000 : Int) < (l.length : Int) := by omega
  rw [show rightM hn ls l = 2 by simp [rightM, h, hl]]
  simp +contextual (maxSteps := 4000000) only [↓bdD, bdP, Nat.reduceLT, Nat.reduceBEq, endQ, Nat.reduceAdd, st0, ↓reduceIte, e_rcheck, s_rcheck, nth_its, pur_its, nth_arcs, pur_arcs, nth_snds, pur_snds, nth_lnks, pur_lnks, lkC_len, lkC_0, lkC_1, lkC_cap, lkC_pri, lkC_take, pur_lkC, Nat.mul_one, Try.f24, ty24, ty25, h, hli]
 have hli : ¬ (2000 : Int) < (l.length : Int) := by omega
 rw [show rightM hn ls l = rgT ls l l.length by simp [rightM, h, hl]]
 generalize hr : rgT ls l l.length = r
 simp +contextual (maxSteps := 4000000) only [↓bdD, bdP, Nat.reduceLT, Nat.reduceBEq, Nat.reduceAdd, st0, ↓reduceIte, e_rcheck, s_rcheck, nth_its, pur_its, nth_arcs, pur_arcs, nth_snds, pur_snds, nth_lnks, pur_lnks, lkC_len, lkC_0, lkC_1, lkC_cap, lkC_pri, lkC_take, pur_lkC, Nat.mul_one, Try.f24, ty24, ty25, h, hli]
 refine loop_cnt [4, 6, 7, 16, 17, 18, 19, 20, 21, 22, 23, 24, 25, 26, 27, 28, 29, 30, 31, 32, 33, 34, 35, 36, 37, 38, 39, 40, 41, 42, 43, 44, 45, 46, 47, 48, 49, 50, 51, 52, 53, 54, 55, 56, 57, 58, 59, 60, 61, 62, 63, 64, 65, 66, 67, 68, 69, 70, 71, 72, 73, 74, 75, 76, 77, 78, 79, 80, 81, 82, 83, 84, 85, 86, 87, 88, 89] l.length (fun k ρ st' => ρ 6 = I k ∧ rgT ls l k = 0) (.refl _) ?_ ?_
 ·simp +contextual (maxSteps := 4000000) only [↓bdD, bdP, nth_its, pur_its, nth_arcs, pur_arcs, nth_snds, pur_snds, nth_lnks, pur_lnks, lkC_len, lkC_0, lkC_1, lkC_cap, lkC_pri, lkC_take, pur_lkC, Nat.mul_one, Try.f24, rgT]
 ·rintro k ρ ⟨ob, M⟩ hk ⟨h6, hz⟩
  by_cases hlt : k < l.length
  ·have hstep : rgT ls l (k + 1) = sndE ls l k := by simp only [rgT, hz, ne_eq, not_true_eq_false, if_false]
   have hw1 : IntKind.i64.wrap ((k : Int) + 1) = ((k + 1 : Nat) : Int) := by rw [wrap64 (by omega) (by omega)]; omega
   unfold sndE at hstep
   generalize hx : l.getD k dS = x at *
   by_cases e1 : x.1 < 0 ∨ (ls.length : Int) ≤ x.1
   ·rw [if_pos e1] at hstep
    have hend := rgT_end (m := l.length) (by rw [hstep]; decide) (show k + 1 ≤ l.length by omega)
    rw [hend, hstep] at hr
    subst hr
    have e : x.1 < 0 ∨ (¬ x.1 < 0 ∧ (ls.length : Int) ≤ x.1) := by omega
    rcases e with e | e
    ·simp +contextual (maxSteps := 4000000) only [↓bdD, bdP, Nat.reduceLT, Nat.reduceBEq, endQ, Nat.reduceAdd, Store.new, Store.set, ↓reduceIte, nth_its, pur_its, nth_arcs, pur_arcs, nth_snds, pur_snds, nth_lnks, pur_lnks, lkC_len, lkC_0, lkC_1, lkC_cap, lkC_pri, lkC_take, pur_lkC, Nat.mul_one, Try.f24, ty3, ty25, ty56, h6, hlt, hx, e]
    ·simp +contextual (maxSteps := 4000000) only [↓bdD, bdP, Nat.reduceLT, Nat.reduceBEq, endQ, Nat.reduceAdd, Store.new, Store.set, ↓reduceIte, nth_its, pur_its, nth_arcs, pur_arcs, nth_snds, pur_snds, nth_lnks, pur_lnks, lkC_len, lkC_0, lkC_1, lkC_cap, lkC_pri, lkC_take, pur_lkC, Nat.mul_one, Try.f24, ty3, ty22, ty24, ty25, ty56, h6, hlt, hx, e]
   ·rw [if_neg e1] at hstep
    by_cases e2 : x.2.1 < 0 ∨ 1000000 ≤ x.2.1 ∨ x.2.2 < 1 ∨ 1073741824 < x.2.2
    ·rw [if_pos e2] at hstep
     have hend := rgT_end (m := l.length) (by rw [hstep]; decide) (show k + 1 ≤ l.length by omega)
     rw [hend, hstep] at hr
     subst hr
     have e : (¬ x.1 < 0 ∧ ¬ (ls.length : Int) ≤ x.1 ∧ x.2.1 < 0) ∨ (¬ x.1 < 0 ∧ ¬ (ls.length : Int) ≤ x.1 ∧ ¬ x.2.1 < 0 ∧ 1000000 ≤ x.2.1) ∨ (¬ x.1 < 0 ∧ ¬ (ls.length : Int) ≤ x.1 ∧ ¬ x.2.1 < 0 ∧ ¬ 1000000 ≤ x.2.1 ∧ x.2.2 < 1) ∨ (¬ x.1 < 0 ∧ ¬ (ls.length : Int) ≤ x.1 ∧ ¬ x.2.1 < 0 ∧ ¬ 1000000 ≤ x.2.1 ∧ ¬ x.2.2 < 1 ∧ 1073741824 < x.2.2) := by omega
     rcases e with e | e | e | e
     ·simp +contextual (maxSteps := 4000000) only [↓bdD, bdP, Nat.reduceLT, Nat.reduceBEq, endQ, Nat.reduceAdd, Store.new, Store.set, ↓reduceIte, nth_its, pur_its, nth_arcs, pur_arcs, nth_snds, pur_snds, nth_lnks, pur_lnks, lkC_len, lkC_0, lkC_1, lkC_cap, lkC_pri, lkC_take, pur_lkC, Nat.mul_one, Try.f24, ty3, ty22, ty24, ty25, ty56, h6, hlt, hx, e]
     ·simp +contextual (maxSteps := 4000000) only [↓bdD, bdP, Nat.reduceLT, Nat.reduceBEq, endQ, Nat.reduceAdd, Store.new, Store.set, ↓reduceIte, nth_its, pur_its, nth_arcs, pur_arcs, nth_snds, pur_snds, nth_lnks, pur_lnks, lkC_len, lkC_0, lkC_1, lkC_cap, lkC_pri, lkC_take, pur_lkC, Nat.mul_one, Try.f24, ty3, ty22, ty24, ty25, ty56, h6, hlt, hx, e]
     ·simp +contextual (maxSteps := 4000000) only [↓bdD, bdP, Nat.reduceLT, Nat.reduceBEq, endQ, Nat.reduceAdd, Store.new, Store.set, ↓reduceIte, nth_its, pur_its, nth_arcs, pur_arcs, nth_snds, pur_snds, nth_lnks, pur_lnks, lkC_len, lkC_0, lkC_1, lkC_cap, lkC_pri, lkC_take, pur_lkC, Nat.mul_one, Try.f24, ty3, ty22, ty24, ty25, ty56, h6, hlt, hx, e]
     ·simp +contextual (maxSteps := 4000000) only [↓bdD, bdP, Nat.reduceLT, Nat.reduceBEq, endQ, Nat.reduceAdd, Store.new, Store.set, ↓reduceIte, nth_its, pur_its, nth_arcs, pur_arcs, nth_snds, pur_snds, nth_lnks, pur_lnks, lkC_len, lkC_0, lkC_1, lkC_cap, lkC_pri, lkC_take, pur_lkC, Nat.mul_one, Try.f24, ty3, ty22, ty24, ty25, ty56, h6, hlt, hx, e]
    ·rw [if_neg e2] at hstep
     have e : ¬ x.1 < 0 ∧ ¬ (ls.length : Int) ≤ x.1 ∧ ¬ x.2.1 < 0 ∧ ¬ 1000000 ≤ x.2.1 ∧ ¬ x.2.2 < 1 ∧ ¬ 1073741824 < x.2.2 := by omega
     by_cases h0 : 0 < k
     case neg =>
      rw [if_neg (fun g => h0 g.1)] at hstep
      have h0i : ¬ (0 : Int) < (k : Int) := by omega
      simp +contextual (maxSteps := 4000000) only [↓bdD, bdP, Nat.reduceLT, Nat.reduceBEq, Nat.reduceAdd, Store.new, Store.set, ↓reduceIte, nth_its, pur_its, nth_arcs, pur_arcs, nth_snds, pur_snds, nth_lnks, pur_lnks, lkC_len, lkC_0, lkC_1, lkC_cap, lkC_pri, lkC_take, pur_lkC, Nat.mul_one, Try.f24, ty3, ty22, ty24, ty25, ty56, h6, hlt, hx, e, h0i, hw1, hstep]
     have h0i : (0 : Int) < (k : Int) := by omega
     have hwm : IntKind.i64.wrap ((k : Int) - 1) = ((k - 1 : Nat) : Int) := by rw [wrap64 (by omega) (by omega)]; omega
     have hltm : k - 1 < l.length := by omega
     generalize hy : l.getD (k - 1) dS = y at *
     by_cases e3 : x.2.1 < y.2.1 ∨ (x.2.1 = y.2.1 ∧ x.1 ≤ y.1)
     ·rw [if_pos ⟨h0, e3⟩] at hstep
      have hend := rgT_end (m := l.length) (by rw [hstep]; decide) (show k + 1 ≤ l.length by omega)
      rw [hend, hstep] at hr
      subst hr
      have e' : x.2.1 < y.2.1 ∨ (¬ x.2.1 < y.2.1 ∧ x.2.1 = y.2.1 ∧ x.1 ≤ y.1 ∧ ¬ y.2.1 < 0 ∧ ¬ 1000000 ≤ y.2.1 ∧ ¬ y.2.1 < y.2.1) := by omega
      rcases e' with e' | e'
      ·simp +contextual (maxSteps := 4000000) only [↓bdD, bdP, Nat.reduceLT, Nat.reduceBEq, endQ, Nat.reduceAdd, Store.new, Store.set, ↓reduceIte, nth_its, pur_its, nth_arcs, pur_arcs, nth_snds, pur_snds, nth_lnks, pur_lnks, lkC_len, lkC_0, lkC_1, lkC_cap, lkC_pri, lkC_take, pur_lkC, Nat.mul_one, Try.f24, ty3, ty22, ty24, ty25, ty56, h6, hlt, hx, e, h0i, hwm, hltm, hy, e']
      ·simp +contextual (maxSteps := 4000000) only [↓bdD, bdP, Nat.reduceLT, Nat.reduceBEq, endQ, Nat.reduceAdd, Store.new, Store.set, ↓reduceIte, nth_its, pur_its, nth_arcs, pur_arcs, nth_snds, pur_snds, nth_lnks, pur_lnks, lkC_len, lkC_0, lkC_1, lkC_cap, lkC_pri, lkC_take, pur_lkC, Nat.mul_one, Try.f24, ty3, ty22, ty24, ty25, ty56, h6, hlt, hx, e, h0i, hwm, hltm, hy, e']
     ·rw [if_neg (fun g => e3 g.2)] at hstep
      have e' : (¬ x.2.1 < y.2.1 ∧ ¬ x.2.1 = y.2.1 ∧ ¬ y.2.1 = x.2.1) ∨ (¬ x.2.1 < y.2.1 ∧ x.2.1 = y.2.1 ∧ ¬ x.1 ≤ y.1 ∧ ¬ y.2.1 < 0 ∧ ¬ 1000000 ≤ y.2.1 ∧ ¬ y.2.1 < y.2.1) := by omega
      rcases e' with e' | e'
      ·simp +contextual (maxSteps := 4000000) only [↓bdD, bdP, Nat.reduceLT, Nat.reduceBEq, Nat.reduceAdd, Store.new, Store.set, ↓reduceIte, nth_its, pur_its, nth_arcs, pur_arcs, nth_snds, pur_snds, nth_lnks, pur_lnks, lkC_len, lkC_0, lkC_1, lkC_cap, lkC_pri, lkC_take, pur_lkC, Nat.mul_one, Try.f24, ty3, ty22, ty24, ty25, ty56, h6, hlt, hx, e, h0i, hwm, hltm, hy, e', hw1, hstep]
      ·simp +contextual (maxSteps := 4000000) only [↓bdD, bdP, Nat.reduceLT, Nat.reduceBEq, Nat.reduceAdd, Store.new, Store.set, ↓reduceIte, nth_its, pur_its, nth_arcs, pur_arcs, nth_snds, pur_snds, nth_lnks, pur_lnks, lkC_len, lkC_0, lkC_1, lkC_cap, lkC_pri, lkC_take, pur_lkC, Nat.mul_one, Try.f24, ty3, ty22, ty24, ty25, ty56, h6, hlt, hx, e, h0i, hwm, hltm, hy, e', hw1, hstep]
  ·have e : k = l.length := by omega
   subst e
   rw [hz] at hr
   subst hr
   simp +contextual (maxSteps := 4000000) only [↓bdD, bdP, Nat.reduceLT, Nat.reduceBEq, endQ, ↓reduceIte, nth_its, pur_its, nth_arcs, pur_arcs, nth_snds, pur_snds, nth_lnks, pur_lnks, lkC_len, lkC_0, lkC_1, lkC_cap, lkC_pri, lkC_take, pur_lkC, Nat.mul_one, Try.f24, ty25, h6]
theorem o_rright : O_rright := k_rright c_rright
end Sim
