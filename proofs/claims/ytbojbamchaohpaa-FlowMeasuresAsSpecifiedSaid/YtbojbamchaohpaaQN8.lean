/- What functions of this seat compute, by values: contracts (lemmas of the statement's proof, under the conditions that each names). -/
import Derived.Test.YtbojbamchaohpaaQBD
import Derived.Test.YtbojbamchaohpaaQN7
namespace Sim
open Go Go.Proofs
set_option maxRecDepth 10000
set_option maxHeartbeats 2000000
set_option linter.unusedVariables false
set_option linter.unusedSimpArgs false
attribute [local congr] opsIf_congr condC_congr guardC_congr grd_congr pick3_congr obind_congr omap_congr opsV_congr
def stockM (hn : Int) (ls : List Lnk) (l : List Snd) (d : Dem) (at_ tick : Int) : Int × Int :=
 if rightM hn ls l ≠ 0 then (0, rightM hn ls l) else if demM hn d = false ∨ hOK hn at_ = false ∨ tick < 0 ∨ 1000000 < tick then (0, 1) else (haveM ls l d at_ tick, 0)
theorem demM_B {hn : Int} {d : Dem} (h : demM hn d = true) : demB d := by
 simp only [demM, Bool.and_eq_true, decide_eq_true_eq] at h
 obtain ⟨_, h⟩ := h
 unfold demR at h
 exact ⟨by omega, h.2.1⟩
noncomputable def A_Stock : (Int) × (List Lnk) × (List Snd) × (Dem) × (Int) × (Int) → List PV := fun (hn, ls, l, d, at_, tick) => [.agg [I hn, lnks ls], snds l, demV d, I at_, I tick]
noncomputable def R_Stock : (Int) × (List Lnk) × (List Snd) × (Dem) × (Int) × (Int) → PV := fun (hn, ls, l, d, at_, tick) => .tuple [I (stockM hn ls l d at_ tick).1, I (stockM hn ls l d at_ tick).2]
def H_Stock : (Int) × (List Lnk) × (List Snd) × (Dem) × (Int) × (Int) → Prop := fun (hn, ls, l, d, at_, tick) => True
noncomputable def e_Stock : Nat × Ent := (28, .v (specOf A_Stock R_Stock H_Stock))
theorem j_Stock : ∀ i j, A_Stock i = A_Stock j → i = j := by
 rintro ⟨hn₁, ls₁, l₁, d₁, at_₁, tick₁⟩ ⟨hn₂, ls₂, l₂, d₂, at_₂, tick₂⟩ h
 simp only [A_Stock, List.cons.injEq, and_true, PV.lits.injEq, PV.int.injEq, PV.bool.injEq, PV.str.injEq, PV.agg.injEq, PV.func.injEq, Fn.func.injEq, PV.vptr.injEq, true_and, List.map_nil, inj_ints, inj_strs, inj_its, inj_arcs, inj_snds, inj_lnks] at h
 simp [Prod.ext_iff, h] <;> omega
theorem s_Stock (hn : Int) (ls : List Lnk) (l : List Snd) (d : Dem) (at_ : Int) (tick : Int) : specOf A_Stock R_Stock H_Stock [.agg [I hn, lnks ls], snds l, demV d, I at_, I tick] = some (.tuple [I (stockM hn ls l d at_ tick).1, I (stockM hn ls l d at_ tick).2]) := specOf_app j_Stock (i := (hn, ls, l, d, at_, tick)) trivial
def C_Stock : Prop := ∀ (hn : Int) (ls : List Lnk) (l : List Snd) (d : Dem) (at_ : Int) (tick : Int) , VC Try.prog 28 [.agg [I hn, lnks ls], snds l, demV d, I at_, I tick] (.tuple [I (stockM hn ls l d at_ tick).1, I (stockM hn ls l d at_ tick).2])
def O_Stock : Prop := EntOK Try.prog e_Stock.1 e_Stock.2
theorem k_Stock (c : C_Stock) : O_Stock := specOf_ok fun ⟨hn, ls, l, d, at_, tick⟩ h => c hn ls l d at_ tick
theorem c_Stock : C_Stock := by
 intro hn ls l d at_ tick
 refine vc_ofU mixed (l := [e_right, e_demanded, e_stock]) ((eok_cons o_right (eok_cons o_demanded (eok_cons o_stock eok_nil)))) [] []  Try.func28 rfl (by decide +kernel) (N := 47) rfl (by simp) rfl (by kernel_rfl) fun hs => ?_
 simp only [smallL, PV.small, List.length_map, and_true, true_and] at hs
 by_cases h : rightM hn ls l = 0
 case neg =>
  rw [show stockM hn ls l d at_ tick = (0, rightM hn ls l) by simp [stockM, h]]
  generalize hr : rightM hn ls l = r at *
  simp +contextual (maxSteps := 4000000) only [↓bdD, bdP, Nat.reduceLT, Nat.reduceBEq, endQ, Nat.reduceAdd, st0, ↓reduceIte, e_right, s_right, e_demanded, e_stock, nth_its, pur_its, nth_arcs, pur_arcs, nth_snds, pur_snds, nth_lnks, pur_lnks, lkC_len, lkC_0, lkC_1, lkC_cap, lkC_pri, lkC_take, pur_lkC, Nat.mul_one, Try.f28, ty24, ty25, h, hr]
 have ok := right_zero.1 h
 have hM : stockM hn ls l d at_ tick = if demM hn d = false ∨ hOK hn at_ = false ∨ tick < 0 ∨ 1000000 < tick then (0, 1) else (haveM ls l d at_ tick, 0) := by simp [stockM, h]
 rw [hM]
 clear hM
 cases hd : demM hn d
 ·simp +contextual (maxSteps := 4000000) only [↓bdD, bdP, Nat.reduceLT, Nat.reduceBEq, endQ, Nat.reduceEqDiff, Nat.reduceAdd, st0, ↓reduceIte, e_right, s_right, e_demanded, s_demanded, e_stock, nth_its, pur_its, nth_arcs, pur_arcs, nth_snds, pur_snds, nth_lnks, pur_lnks, lkC_len, lkC_0, lkC_1, lkC_cap, lkC_pri, lkC_take, pur_lkC, Nat.mul_one, Try.f28, ty24, ty25, ty27, true_or, false_or, h, hd]
 have hdb := demM_B hd
 by_cases h1 : at_ < 0
 ·have : hOK hn at_ = false := decide_eq_false (by omega)
  simp +contextual (maxSteps := 4000000) only [↓bdD, bdP, Nat.reduceLT, Nat.reduceBEq, endQ, Nat.reduceEqDiff, Nat.reduceAdd, st0, ↓reduceIte, e_right, s_right, e_demanded, s_demanded, e_stock, nth_its, pur_its, nth_arcs, pur_arcs, nth_snds, pur_snds, nth_lnks, pur_lnks, lkC_len, lkC_0, lkC_1, lkC_cap, lkC_pri, lkC_take, pur_lkC, Nat.mul_one, Try.f28, ty24, ty25, ty27, true_or, false_or, h, hd, h1, this]
 by_cases h2 : hn ≤ at_
 ·have : hOK hn at_ = false := decide_eq_false (by omega)
  simp +contextual (maxSteps := 4000000) only [↓bdD, bdP, Nat.reduceLT, Nat.reduceBEq, endQ, Nat.reduceEqDiff, Nat.reduceAdd, st0, ↓reduceIte, e_right, s_right, e_demanded, s_demanded, e_stock, nth_its, pur_its, nth_arcs, pur_arcs, nth_snds, pur_snds, nth_lnks, pur_lnks, lkC_len, lkC_0, lkC_1, lkC_cap, lkC_pri, lkC_take, pur_lkC, Nat.mul_one, Try.f28, ty3, ty24, ty25, ty27, true_or, false_or, h, hd, h1, h2, this]
 have hk : hOK hn at_ = true := decide_eq_true (by omega)
 by_cases h3 : tick < 0
 ·simp +contextual (maxSteps := 4000000) only [↓bdD, bdP, Nat.reduceLT, Nat.reduceBEq, endQ, Nat.reduceEqDiff, Nat.reduceAdd, st0, ↓reduceIte, e_right, s_right, e_demanded, s_demanded, e_stock, nth_its, pur_its, nth_arcs, pur_arcs, nth_snds, pur_snds, nth_lnks, pur_lnks, lkC_len, lkC_0, lkC_1, lkC_cap, lkC_pri, lkC_take, pur_lkC, Nat.mul_one, Try.f28, ty3, ty24, ty25, ty27, true_or, false_or, h, hd, h1, h2, h3, hk]
 by_cases h4 : 1000000 < tick
 ·simp +contextual (maxSteps := 4000000) only [↓bdD, bdP, Nat.reduceLT, Nat.reduceBEq, endQ, Nat.reduceEqDiff, Nat.reduceAdd, st0, ↓reduceIte, e_right, s_right, e_demanded, s_demanded, e_stock, nth_its, pur_its, nth_arcs, pur_arcs, nth_snds, pur_snds, nth_lnks, pur_lnks, lkC_len, lkC_0, lkC_1, lkC_cap, lkC_pri, lkC_take, pur_lkC, Nat.mul_one, Try.f28, ty3, ty24, ty25, ty27, true_or, false_or, h, hd, h1, h2, h3, h4, hk]
 simp +contextual (maxSteps := 4000000) only [↓bdD, bdP, Nat.reduceLT, Nat.reduceBEq, endQ, Nat.reduceEqDiff, Nat.reduceAdd, st0, ↓reduceIte, e_right, s_right, e_demanded, s_demanded, e_stock, s_stock, nth_its, pur_its, nth_arcs, pur_arcs, nth_snds, pur_snds, nth_lnks, pur_lnks, lkC_len, lkC_0, lkC_1, lkC_cap, lkC_pri, lkC_take, pur_lkC, Nat.mul_one, Try.f28, ty3, ty24, ty25, ty27, true_or, false_or, h, hd, h1, h2, h3, h4, hk, ok, hdb]
theorem o_Stock : O_Stock := k_Stock c_Stock
def frM (ls : List Lnk) (l : List Snd) (k : Nat) : Int := (linkM ls (l.getD k dS)).1
def sumT (ls : List Lnk) (l : List Snd) (t f : Int) : Nat → Int
 | 0 => 0
 | n + 1 => sumT ls l t f n + if (l.getD n dS).2.1 = t ∧ frM ls l n = f then (l.getD n dS).2.2 else 0
def svP (ls : List Lnk) (l : List Snd) (d : Dem) : Nat → Bool
 | 0 => false
 | k + 1 => svP ls l d k || decide (haveM ls l d (frM ls l k) (l.getD k dS).2.1 < sumT ls l (l.getD k dS).2.1 (frM ls l k) (k + 1))
def svR (ls : List Lnk) (l : List Snd) (d : Dem) : Nat → Bool
 | 0 => false
 | k + 1 => svR ls l d k || decide (haveM ls l d (frM ls l k) (l.getD k dS).2.1 < sumT ls l (l.getD k dS).2.1 (frM ls l k) l.length)
theorem svP_iff {ls : List Lnk} {l : List Snd} {d : Dem} : ∀ {n}, svP ls l d n = true ↔ ∃ k, k < n ∧ haveM ls l d (frM ls l k) (l.getD k dS).2.1 < sumT ls l (l.getD k dS).2.1 (frM ls l k) (k + 1)
 | 0 => ⟨fun h => (by cases h), fun ⟨k, h, _⟩ => absurd h (by omega)⟩
 | n + 1 => by
  simp only [svP, Bool.or_eq_true, decide_eq_true_eq, svP_iff (n := n)]
  constructor
  ·rintro (⟨k, h, g⟩ | h)
   ·exact ⟨k, by omega, g⟩
   ·exact ⟨n, by omega, h⟩
  ·rintro ⟨k, h, g⟩
   by_cases e : k = n
   ·subst e; exact .inr g
   ·exact .inl ⟨k, by omega, g⟩
theorem svR_iff {ls : List Lnk} {l : List Snd} {d : Dem} : ∀ {n}, svR ls l d n = true ↔ ∃ k, k < n ∧ haveM ls l d (frM ls l k) (l.getD k dS).2.1 < sumT ls l (l.getD k dS).2.1 (frM ls l k) l.length
 | 0 => ⟨fun h => (by cases h), fun ⟨k, h, _⟩ => absurd h (by omega)⟩
 | n + 1 => by
  simp only [svR, Bool.or_eq_true, decide_eq_true_eq, svR_iff (n := n)]
  constructor
  ·rintro (⟨k, h, g⟩ | h)
   ·exact ⟨k, by omega, g⟩
   ·exact ⟨n, by omega, h⟩
  ·rintro ⟨k, h, g⟩
   by_cases e : k = n
   ·subst e; exact .inr g
   ·exact .inl ⟨k, by omega, g⟩
theorem sumT_mono {hn : Int} {ls : List Lnk} {l : List Snd} (ok : OKr hn ls l) (t f : Int) {m : Nat} : ∀ {n}, m ≤ n → n ≤ l.length → sumT ls l t f m ≤ sumT ls l t f n
 | 0, h, _ => by rw [show m = 0 by omega]; exact Int.le_refl _
 | n + 1, h, hl => by
  by_cases e : m = n + 1
  ·rw [e]; exact Int.le_refl _
  ·have ih := sumT_mono ok t f (m := m) (n := n) (by omega) (by omega)
   have := ok.bytes n (by omega)
   simp only [sumT]
   split <;> omega
theorem sumT_le {hn : Int} {ls : List Lnk} {l : List Snd} (ok : OKr hn ls l) (t f : Int) : ∀ n, n ≤ l.length → 0 ≤ sumT ls l t f n ∧ sumT ls l t f n ≤ 1073741824 * (n : Int)
 | 0, _ => by simp [sumT]
 | n + 1, h => by
  have ih := sumT_le ok t f n (by omega)
  have := ok.bytes n (by omega)
  simp only [sumT]
  split <;> omega
theorem sumT_last {ls : List Lnk} {l : List Snd} {k : Nat} : ∀ n, k < n → ∃ j, j < n ∧ (l.getD j dS).2.1 = (l.getD k dS).2.1 ∧ frM ls l j = frM ls l k ∧ sumT ls l (l.getD k dS).2.1 (frM ls l k) (j + 1) = sumT ls l (l.getD k dS).2.1 (frM ls l k) n
 | 0, h => absurd h (by omega)
 | n + 1, h => by
  by_cases hm : (l.getD n dS).2.1 = (l.getD k dS).2.1 ∧ frM ls l n = frM ls l k
  ·exact ⟨n, by omega, hm.1, hm.2, rfl⟩
  ·have hk : k ≠ n := fun e => hm (by rw [e]; exact ⟨rfl, rfl⟩)
   obtain ⟨j, h1, h2, h3, h4⟩ := sumT_last (ls := ls) (l := l) (k := k) n (by omega)
   refine ⟨j, by omega, h2, h3, ?_⟩
   rw [h4]
   simp only [sumT]
   rw [if_neg hm, Int.add_zero]
theorem svP_eq {hn : Int} {ls : List Lnk} {l : List Snd} {d : Dem} (ok : OKr hn ls l) : svP ls l d l.length = svR ls l d l.length := by
 rw [Bool.eq_iff_iff, svP_iff, svR_iff]
 constructor
 ·rintro ⟨k, h, g⟩
  have := sumT_mono ok (l.getD k dS).2.1 (frM ls l k) (m := k + 1) (n := l.length) (by omega) (by omega)
  exact ⟨k, h, by omega⟩
 ·rintro ⟨k, h, g⟩
  obtain ⟨j, h1, h2, h3, h4⟩ := sumT_last (ls := ls) (l := l) (k := k) l.length h
  exact ⟨j, h1, by rw [h2, h3, h4]; exact g⟩
def servesM (hn : Int) (ls : List Lnk) (l : List Snd) (d : Dem) : Int :=
 if rightM hn ls l ≠ 0 then rightM hn ls l else if demM hn d = false then 1 else if fitM hn ls l ≠ 0 then fitM hn ls l
 else if svR ls l d l.length = true then 4 else if haveM ls l d d.2.1 d.2.2.2.2 < d.2.2.1 then 21 else 0
theorem wrapN {k : Nat} {n : Nat} (h : k < n) (hn : n ≤ 2000) : IntKind.i64.wrap ((k : Int) + 1) = ((k + 1 : Nat) : Int) := by rw [wrap64 (by omega) (by omega)]; omega
noncomputable def A_serves : (Int) × (List Lnk) × (List Snd) × (Dem) → List PV := fun (hn, ls, l, d) => [.agg [I hn, lnks ls], snds l, demV d]
noncomputable def R_serves : (Int) × (List Lnk) × (List Snd) × (Dem) → PV := fun (hn, ls, l, d) => I (servesM hn ls l d)
def H_serves : (Int) × (List Lnk) × (List Snd) × (Dem) → Prop := fun (hn, ls, l, d) => True
noncomputable def e_serves : Nat × Ent := (18, .v (specOf A_serves R_serves H_serves))
theorem j_serves : ∀ i j, A_serves i = A_serves j → i = j := by
 rintro ⟨hn₁, ls₁, l₁, d₁⟩ ⟨hn₂, ls₂, l₂, d₂⟩ h
 simp only [A_serves, List.cons.injEq, and_true, PV.lits.injEq, PV.int.injEq, PV.bool.injEq, PV.str.injEq, PV.agg.injEq, PV.func.injEq, Fn.func.injEq, PV.vptr.injEq, true_and, List.map_nil, inj_ints, inj_strs, inj_its, inj_arcs, inj_snds, inj_lnks] at h
 simp [Prod.ext_iff, h] <;> omega
theorem s_serves (hn : Int) (ls : List Lnk) (l : List Snd) (d : Dem) : specOf A_serves R_serves H_serves [.agg [I hn, lnks ls], snds l, demV d] = some (I (servesM hn ls l d)) := specOf_app j_serves (i := (hn, ls, l, d)) trivial
def C_serves : Prop := ∀ (hn : Int) (ls : List Lnk) (l : List Snd) (d : Dem) , VC Try.prog 18 [.agg [I hn, lnks ls], snds l, demV d] (I (servesM hn ls l d))
def O_serves : Prop := EntOK Try.prog e_serves.1 e_serves.2
theorem k_serves (c : C_serves) : O_serves := specOf_ok fun ⟨hn, ls, l, d⟩ h => c hn ls l d
theorem c_serves : C_serves := by
 intro hn ls l d
 refine vc_ofU mixed (l := [e_right, e_demanded, e_fits, e_stock]) ((eok_cons o_right (eok_cons o_demanded (eok_cons o_fits (eok_cons o_stock eok_nil))))) [92] []  Try.func18 rfl (by decide +kernel) (N := 96) rfl (by simp) rfl (by kernel_rfl) fun hs => ?_
 simp only [smallL, PV.small, List.length_map, and_true, true_and] at hs
 by_cases h : rightM hn ls l = 0
 case neg =>
  rw [show servesM hn ls l d = rightM hn ls l by simp [servesM, h]]
  generalize hr : rightM hn ls l = r at *
  simp +contextual (maxSteps := 4000000) only [↓bdD, bdP, Nat.reduceLT, Nat.reduceBEq, endQ, Nat.reduceAdd, st0, ↓reduceIte, e_right, s_right, e_demanded, e_fits, e_stock, nth_its, pur_its, nth_arcs, pur_arcs, nth_snds, pur_snds, nth_lnks, pur_lnks, lkC_len, lkC_0, lkC_1, lkC_cap, lkC_pri, lkC_take, pur_lkC, Nat.mul_one, Try.f18, ty24, ty25, h, hr]
 have ok := right_zero.1 h
 have hlen := ok.len
 cases hd : demM hn d
 ·rw [show servesM hn ls l d = 1 by simp [servesM, h, hd]]
  simp +contextual (maxSteps := 4000000) only [↓bdD, bdP, Nat.reduceLT, Nat.reduceBEq, endQ, Nat.reduceEqDiff, Nat.reduceAdd, st0, ↓reduceIte, e_right, s_right, e_demanded, s_demanded, e_fits, e_stock, nth_its, pur_its, nth_arcs, pur_arcs, nth_snds, pur_snds, nth_lnks, pur_lnks, lkC_len, lkC_0, lkC_1, lkC_cap, lkC_pri, lkC_take, pur_lkC, Nat.mul_one, Try.f18, ty24, ty25, ty27, h, hd]
 have hdb := demM_B hd
 by_cases hf : fitM hn ls l = 0
 case neg =>
  rw [show servesM hn ls l d = fitM hn ls l by simp [servesM, h, hd, hf]]
  generalize hr : fitM hn ls l = r at *
  simp +contextual (maxSteps := 4000000) only [↓bdD, bdP, Nat.reduceLT, Nat.reduceBEq, endQ, Nat.reduceEqDiff, Nat.reduceAdd, st0, ↓reduceIte, e_right, s_right, e_demanded, s_demanded, e_fits, s_fits, e_stock, nth_its, pur_its, nth_arcs, pur_arcs, nth_snds, pur_snds, nth_lnks, pur_lnks, lkC_len, lkC_0, lkC_1, lkC_cap, lkC_pri, lkC_take, pur_lkC, Nat.mul_one, Try.f18, ty24, ty25, ty27, h, hd, hf, hr]
 have hM : servesM hn ls l d = if svP ls l d l.length = true then 4 else if haveM ls l d d.2.1 d.2.2.2.2 < d.2.2.1 then 21 else 0 := by simp [servesM, h, hd, hf, svP_eq ok]
 rw [hM]
 clear hM
 generalize hr : (if svP ls l d l.length = true then (4 : Int) else if haveM ls l d d.2.1 d.2.2.2.2 < d.2.2.1 then 21 else 0) = r
 simp +contextual (maxSteps := 4000000) only [↓bdD, bdP, Nat.reduceLT, Nat.reduceBEq, Nat.reduceEqDiff, Nat.reduceAdd, st0, ↓reduceIte, e_right, s_right, e_demanded, s_demanded, e_fits, s_fits, e_stock, nth_its, pur_its, nth_arcs, pur_arcs, nth_snds, pur_snds, nth_lnks, pur_lnks, lkC_len, lkC_0, lkC_1, lkC_cap, lkC_pri, lkC_take, pur_lkC, Nat.mul_one, Try.f18, ty24, ty25, ty27, h, hd, hf]
 refine loop_cnt [6, 9, 10, 11, 12, 14, 33, 34, 35, 36, 37, 38, 39, 40, 41, 42, 43, 44, 45, 46, 47, 48, 49, 50, 51, 52, 53, 54, 55, 56, 57, 58, 59, 60, 61, 62, 63, 64, 65, 66, 67, 68, 69, 70, 71, 72, 73, 74, 75, 76, 77, 78, 79, 80, 81, 82, 83, 84] l.length (fun k ρ st' => ρ 33 = I k ∧ svP ls l d k = false) (.refl _) ?_ ?_
 ·simp +contextual (maxSteps := 4000000) only [↓bdD, bdP, nth_its, pur_its, nth_arcs, pur_arcs, nth_snds, pur_snds, nth_lnks, pur_lnks, lkC_len, lkC_0, lkC_1, lkC_cap, lkC_pri, lkC_take, pur_lkC, Nat.mul_one, Try.f18, svP]
 ·rintro k ρ ⟨ob, M⟩ hk ⟨h33, hz⟩
  by_cases hlt : k < l.length
  ·have hw1 := wrapN hlt hlen
   have e1 := ok.link k hlt
   have hs : svP ls l d (k + 1) = decide (haveM ls l d (frM ls l k) (l.getD k dS).2.1 < sumT ls l (l.getD k dS).2.1 (frM ls l k) (k + 1)) := by simp only [svP, hz, Bool.false_or]
   have hle := sumT_le ok (l.getD k dS).2.1 (frM ls l k)
   have htk : List.take (k + 1 - 0) (l.map sndV) = (l.take (k + 1)).map sndV := List.map_take.symm
   have htl : (l.take (k + 1)).length = k + 1 := by simp; omega
   have htg : ∀ i, i < k + 1 → (l.take (k + 1)).getD i dS = l.getD i dS := fun i hi => by simp [List.getElem?_take, hi]
   have hk1 : ((k + 1 : Nat) : Int) ≤ (l.length : Int) := by omega
   have hfr : frM ls l k = (ls.getD (l.getD k dS).1.toNat dL).1 := rfl
   generalize hf : frM ls l k = f at *
   generalize hx : l.getD k dS = x at *
   have h5 := toNat_lt' e1.1 e1.2
   have h6 := Int.toNat_of_nonneg e1.1
   generalize x.1.toNat = kk at *
   have nM : ¬ M = M + 1 := by omega
   simp +contextual (maxSteps := 4000000) only [↓bdD, bdP, Nat.reduceLT, Nat.reduceBEq, Nat.reduceAdd, Int.reduceToNat, Store.new, Store.set, ↓reduceIte, nth_its, pur_its, nth_arcs, pur_arcs, nth_snds, pur_snds, nth_lnks, pur_lnks, lkC_len, lkC_0, lkC_1, lkC_cap, lkC_pri, lkC_take, pur_lkC, Nat.mul_one, Try.f18, ty3, ty22, ty24, ty25, ty49, ty56, h33, hlt, hx, e1, h5, ← h6, hw1, htk, htl, hk1, ← hfr]
   refine loop_cnt [12, 14, 50, 51, 52, 53, 54, 55, 56, 57, 58, 59, 60, 61, 62, 63, 64, 65, 66, 67, 68, 69, 70, 71, 72, 73, 74] (k + 1) (fun i ρ st' => ρ 50 = I i ∧ ρ 12 = I (sumT ls l x.2.1 f i) ∧ st'.obj M = some (.arr 0 3 [.agg [I kk, I x.2.1, I x.2.2]]) ∧ M < st'.next) (.refl _) ?_ ?_
   ·simp +contextual (maxSteps := 4000000) only [↓bdD, bdP, Nat.reduceBEq, nth_its, pur_its, nth_arcs, pur_arcs, nth_snds, pur_snds, nth_lnks, pur_lnks, lkC_len, lkC_0, lkC_1, lkC_cap, lkC_pri, lkC_take, pur_lkC, Nat.mul_one, Try.f18, sumT]
   ·rintro i ρ2 ⟨ob2, M2⟩ hi ⟨h50, h12, hob, hMM⟩
    dsimp only at hob hMM
    have q1 : ¬ M = M2 := by omega
    by_cases hilt : i < k + 1
    ·have hw2 : IntKind.i64.wrap ((i : Int) + 1) = ((i + 1 : Nat) : Int) := wrapN hilt (by omega)
     have hil : i < l.length := by omega
     have e2 := ok.link i hil
     have b2 := ok.bytes i hil
     have hst : sumT ls l x.2.1 f (i + 1) = sumT ls l x.2.1 f i + if (l.getD i dS).2.1 = x.2.1 ∧ frM ls l i = f then (l.getD i dS).2.2 else 0 := rfl
     have hl2 := hle i (by omega)
     have hg := htg i hilt
     have hfi : frM ls l i = (ls.getD (l.getD i dS).1.toNat dL).1 := rfl
     rw [hfi] at hst
     generalize hy : l.getD i dS = y at *
     have h52 := toNat_lt' e2.1 e2.2
     have h62 := Int.toNat_of_nonneg e2.1
     generalize y.1.toNat = jj at *
     by_cases c1 : y.2.1 = x.2.1
     ·by_cases c2 : (ls.getD jj dL).1 = f
      ·rw [if_pos ⟨c1, c2⟩] at hst
       have hw3 : IntKind.i64.wrap (sumT ls l x.2.1 f i + y.2.2) = sumT ls l x.2.1 f (i + 1) := by rw [hst, wrap64 (by omega) (by omega)]
       simp +contextual (maxSteps := 4000000) only [↓bdD, bdP, Nat.reduceLT, Nat.reduceBEq, Nat.reduceAdd, Store.new, Store.set, ↓reduceIte, nth_its, pur_its, nth_arcs, pur_arcs, nth_snds, pur_snds, nth_lnks, pur_lnks, lkC_len, lkC_0, lkC_1, lkC_cap, lkC_pri, lkC_take, pur_lkC, Nat.mul_one, Try.f18, ty3, ty22, ty24, ty25, ty49, ty56, h50, h12, hob, htk, q1, hilt, htl, hg, e2, h52, ← h62, c1, c2, hw2, hw3]
       omega
      ·rw [if_neg (fun h => c2 h.2), Int.add_zero] at hst
       rw [hst]
       simp +contextual (maxSteps := 4000000) only [↓bdD, bdP, Nat.reduceLT, Nat.reduceBEq, Nat.reduceAdd, Store.new, Store.set, ↓reduceIte, nth_its, pur_its, nth_arcs, pur_arcs, nth_snds, pur_snds, nth_lnks, pur_lnks, lkC_len, lkC_0, lkC_1, lkC_cap, lkC_pri, lkC_take, pur_lkC, Nat.mul_one, Try.f18, ty3, ty22, ty24, ty25, ty49, ty56, h50, h12, hob, htk, q1, hilt, htl, hg, e2, h52, ← h62, c1, c2, hw2]
       omega
     ·rw [if_neg (fun h => c1 h.1), Int.add_zero] at hst
      rw [hst]
      simp +contextual (maxSteps := 4000000) only [↓bdD, bdP, Nat.reduceLT, Nat.reduceBEq, Nat.reduceAdd, Store.new, Store.set, ↓reduceIte, nth_its, pur_its, nth_arcs, pur_arcs, nth_snds, pur_snds, nth_lnks, pur_lnks, lkC_len, lkC_0, lkC_1, lkC_cap, lkC_pri, lkC_take, pur_lkC, Nat.mul_one, Try.f18, ty3, ty25, ty56, h50, h12, hob, htk, q1, hilt, htl, hg, c1, hw2]
      omega
    ·have e : i = k + 1 := by omega
     subst e
     by_cases hb : haveM ls l d f x.2.1 < sumT ls l x.2.1 f (k + 1)
     ·rw [decide_eq_true hb] at hs
      have hend : svP ls l d l.length = true := by
       rw [svP_iff] at hs ⊢
       obtain ⟨j, j1, j2⟩ := hs
       exact ⟨j, by omega, j2⟩
      rw [if_pos hend] at hr
      subst hr
      simp +contextual (maxSteps := 4000000) only [↓bdD, bdP, Nat.reduceLT, Nat.reduceBEq, endQ, Nat.reduceEqDiff, Nat.reduceAdd, ↓reduceIte, s_stock, nth_its, pur_its, nth_arcs, pur_arcs, nth_snds, pur_snds, nth_lnks, pur_lnks, lkC_len, lkC_0, lkC_1, lkC_cap, lkC_pri, lkC_take, pur_lkC, Nat.mul_one, Try.f18, ty3, ty24, ty25, ty27, ty56, h50, h12, hob, htk, htl, ok, hdb, hb]
     ·rw [decide_eq_false hb] at hs
      simp +contextual (maxSteps := 4000000) only [↓bdD, bdP, Nat.reduceLT, Nat.reduceBEq, Nat.reduceEqDiff, Nat.reduceAdd, ↓reduceIte, s_stock, nth_its, pur_its, nth_arcs, pur_arcs, nth_snds, pur_snds, nth_lnks, pur_lnks, lkC_len, lkC_0, lkC_1, lkC_cap, lkC_pri, lkC_take, pur_lkC, Nat.mul_one, Try.f18, ty3, ty24, ty25, ty27, ty56, h50, h12, hob, htk, htl, ok, hdb, hb, hs, hw1, h33]
      rw [agree_havoc_sub (by decide +kernel)]; simp +contextual (maxSteps := 4000000) only [↓bdD, bdP, Nat.reduceBEq, nth_its, pur_its, nth_arcs, pur_arcs, nth_snds, pur_snds, nth_lnks, pur_lnks, lkC_len, lkC_0, lkC_1, lkC_cap, lkC_pri, lkC_take, pur_lkC, Nat.mul_one, Try.f18]
  ·have e : k = l.length := by omega
   subst e
   rw [hz, if_neg (by simp)] at hr
   by_cases hb : haveM ls l d d.2.1 d.2.2.2.2 < d.2.2.1
   ·rw [if_pos hb] at hr
    subst hr
    simp +contextual (maxSteps := 4000000) only [↓bdD, bdP, Nat.reduceLT, Nat.reduceBEq, endQ, Nat.reduceEqDiff, Nat.reduceAdd, ↓reduceIte, s_stock, nth_its, pur_its, nth_arcs, pur_arcs, nth_snds, pur_snds, nth_lnks, pur_lnks, lkC_len, lkC_0, lkC_1, lkC_cap, lkC_pri, lkC_take, pur_lkC, Nat.mul_one, Try.f18, ty3, ty24, ty25, ty27, h33, ok, hdb, hb]
   ·rw [if_neg hb] at hr
    subst hr
    simp +contextual (maxSteps := 4000000) only [↓bdD, bdP, Nat.reduceLT, Nat.reduceBEq, endQ, Nat.reduceEqDiff, Nat.reduceAdd, ↓reduceIte, s_stock, nth_its, pur_its, nth_arcs, pur_arcs, nth_snds, pur_snds, nth_lnks, pur_lnks, lkC_len, lkC_0, lkC_1, lkC_cap, lkC_pri, lkC_take, pur_lkC, Nat.mul_one, Try.f18, ty3, ty24, ty25, ty27, h33, ok, hdb, hb]
theorem o_serves : O_serves := k_serves c_serves
end Sim
