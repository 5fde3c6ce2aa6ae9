/- What functions of this seat compute, by values: contracts (lemmas of the statement's proof, under the conditions that each names). -/
import Derived.Test.YtbojbamchaohpaaQBD
import Derived.Test.YtbojbamchaohpaaQN2
namespace Sim
open Go Go.Proofs
set_option maxRecDepth 10000
set_option maxHeartbeats 2000000
set_option linter.unusedVariables false
set_option linter.unusedSimpArgs false
attribute [local congr] opsIf_congr condC_congr guardC_congr grd_congr pick3_congr obind_congr omap_congr
structure OKr (hn : Int) (ls : List Lnk) (l : List Snd) : Prop where
 net : OKn hn ls
 len : l.length ≤ 2000
 link : ∀ k, k < l.length → 0 ≤ (l.getD k dS).1 ∧ (l.getD k dS).1 < (ls.length : Int)
 tick : ∀ k, k < l.length → 0 ≤ (l.getD k dS).2.1 ∧ (l.getD k dS).2.1 < 1000000
 bytes : ∀ k, k < l.length → 1 ≤ (l.getD k dS).2.2 ∧ (l.getD k dS).2.2 ≤ 1073741824
 asc : ∀ k, 0 < k → k < l.length → (l.getD (k - 1) dS).2.1 < (l.getD k dS).2.1 ∨ ((l.getD (k - 1) dS).2.1 = (l.getD k dS).2.1 ∧ (l.getD (k - 1) dS).1 < (l.getD k dS).1)
theorem rgT_zero {ls : List Lnk} {l : List Snd} : ∀ {k}, rgT ls l k = 0 ↔ ∀ i, i < k → sndE ls l i = 0
 | 0 => ⟨fun _ h g => absurd g (by omega), fun _ => rfl⟩
 | k + 1 => by
  have ih := @rgT_zero ls l k
  simp only [rgT]
  by_cases h : rgT ls l k = 0
  ·rw [if_neg (fun hn => hn h)]
   constructor
   ·intro hb i hi
    by_cases e : i = k
    ·subst e; exact hb
    ·exact ih.1 h i (by omega)
   ·intro g; exact g k (by omega)
  ·rw [if_pos h]
   exact ⟨fun g => absurd g h, fun g => absurd (ih.2 fun i hi => g i (by omega)) h⟩
theorem sndE_zero {ls : List Lnk} {l : List Snd} {k : Nat} : sndE ls l k = 0 ↔ (0 ≤ (l.getD k dS).1 ∧ (l.getD k dS).1 < (ls.length : Int)) ∧ (0 ≤ (l.getD k dS).2.1 ∧ (l.getD k dS).2.1 < 1000000) ∧ (1 ≤ (l.getD k dS).2.2 ∧ (l.getD k dS).2.2 ≤ 1073741824) ∧ (0 < k → (l.getD (k - 1) dS).2.1 < (l.getD k dS).2.1 ∨ ((l.getD (k - 1) dS).2.1 = (l.getD k dS).2.1 ∧ (l.getD (k - 1) dS).1 < (l.getD k dS).1)) := by
 unfold sndE
 generalize l.getD k dS = x
 generalize l.getD (k - 1) dS = y
 split
 ·constructor
  ·intro h; cases h
  ·omega
 ·split
  ·constructor
   ·intro h; cases h
   ·omega
  ·split
   ·constructor
    ·intro h; cases h
    ·omega
   ·constructor
    ·intro; omega
    ·intro; rfl
theorem right_zero {hn : Int} {ls : List Lnk} {l : List Snd} : rightM hn ls l = 0 ↔ OKr hn ls l := by
 unfold rightM
 split
 ·rename_i h
  exact ⟨fun g => absurd g h, fun g => absurd (check_zero.2 g.net) h⟩
 ·rename_i h
  have h := check_zero.1 (Classical.not_not.1 h)
  split
  ·exact ⟨fun g => (by cases g), fun g => (by have := g.len; omega)⟩
  ·rw [rgT_zero]
   constructor
   ·intro g
    exact ⟨h, by omega, fun k hk => (sndE_zero.1 (g k hk)).1, fun k hk => (sndE_zero.1 (g k hk)).2.1, fun k hk => (sndE_zero.1 (g k hk)).2.2.1, fun k h0 hk => (sndE_zero.1 (g k hk)).2.2.2 h0⟩
   ·intro g k hk
    exact sndE_zero.2 ⟨g.link k hk, g.tick k hk, g.bytes k hk, fun h0 => g.asc k h0 hk⟩
def capM (ls : List Lnk) (link tick : Int) : Int := capA (ls.getD link.toNat dL) (tick.toNat % 24)
def priM (ls : List Lnk) (link tick : Int) : Int := priA (ls.getD link.toNat dL) (tick.toNat % 24)
theorem tmod24 {t : Int} (h : 0 ≤ t) : Int.tmod t 24 = ((t.toNat % 24 : Nat) : Int) := by
 rw [Int.tmod_eq_emod_of_nonneg h]; omega
theorem toNat_lt' {a : Int} {n : Nat} (h0 : 0 ≤ a) (h : a < (n : Int)) : a.toNat < n := by omega
noncomputable def A_cap : (Int) × (List Lnk) × (Int) × (Int) → List PV := fun (hn, ls, link, tick) => [.agg [I hn, lnks ls], I link, I tick]
noncomputable def R_cap : (Int) × (List Lnk) × (Int) × (Int) → PV := fun (hn, ls, link, tick) => I (capM ls link tick)
def H_cap : (Int) × (List Lnk) × (Int) × (Int) → Prop := fun (hn, ls, link, tick) => 0 ≤ link ∧ link < (ls.length : Int) ∧ 0 ≤ tick
noncomputable def e_cap : Nat × Ent := (36, .v (specOf A_cap R_cap H_cap))
theorem j_cap : ∀ i j, A_cap i = A_cap j → i = j := by
 rintro ⟨hn₁, ls₁, link₁, tick₁⟩ ⟨hn₂, ls₂, link₂, tick₂⟩ h
 simp only [A_cap, List.cons.injEq, and_true, PV.lits.injEq, PV.int.injEq, PV.bool.injEq, PV.str.injEq, PV.agg.injEq, PV.func.injEq, Fn.func.injEq, PV.vptr.injEq, true_and, List.map_nil, inj_ints, inj_strs, inj_its, inj_arcs, inj_snds, inj_lnks] at h
 simp [Prod.ext_iff, h] <;> omega
theorem s_cap (hn : Int) (ls : List Lnk) (link : Int) (tick : Int) : specOf A_cap R_cap H_cap [.agg [I hn, lnks ls], I link, I tick] = @ite (Option (PV)) (0 ≤ link ∧ link < (ls.length : Int) ∧ 0 ≤ tick) (Classical.propDecidable _) (some (I (capM ls link tick))) none := specOf_if j_cap (hn, ls, link, tick)
def C_cap : Prop := ∀ (hn : Int) (ls : List Lnk) (link : Int) (tick : Int) (h : 0 ≤ link ∧ link < (ls.length : Int) ∧ 0 ≤ tick) , VC Try.prog 36 [.agg [I hn, lnks ls], I link, I tick] (I (capM ls link tick))
def O_cap : Prop := EntOK Try.prog e_cap.1 e_cap.2
theorem k_cap (c : C_cap) : O_cap := specOf_ok fun ⟨hn, ls, link, tick⟩ h => c hn ls link tick h
theorem c_cap : C_cap := by
 rintro hn ls link tick ⟨h0, h1, h2⟩
 refine vc_ofU mixed (l := []) (eok_nil) [] []  Try.func36 rfl (by decide +kernel) (N := 16) rfl (by simp) rfl (by kernel_rfl) fun hs => ?_
 simp only [smallL, PV.small, List.length_map, and_true, true_and] at hs
 unfold capM
 have h3 := tmod24 h2
 have h4 : tick.toNat % 24 < 24 := Nat.mod_lt _ (by omega)
 have h4i : ((tick.toNat % 24 : Nat) : Int) < 24 := by omega
 generalize tick.toNat % 24 = h at *
 have h5 := toNat_lt' h0 h1
 have h6 := Int.toNat_of_nonneg h0
 generalize link.toNat = k at *
 generalize hr : capA (ls.getD k dL) h = r
 subst h6
 simp +contextual (maxSteps := 4000000) only [↓bdD, bdP, Nat.reduceLT, Nat.reduceBEq, endQ, Nat.reduceAdd, Int.reduceEq, st0, ↓reduceIte, nth_its, pur_its, nth_arcs, pur_arcs, nth_snds, pur_snds, nth_lnks, pur_lnks, lkC_len, lkC_0, lkC_1, lkC_cap, lkC_pri, lkC_take, pur_lkC, Nat.mul_one, Try.f36, ty3, ty22, ty24, ty47, ty49, h0, h1, h2, h3, h4, h4i, h5, hr]
theorem o_cap : O_cap := k_cap c_cap
noncomputable def A_rcap : (Int) × (List Lnk) × (Int) × (Int) → List PV := fun (hn, ls, link, tick) => [.agg [I hn, lnks ls], I link, I tick]
noncomputable def R_rcap : (Int) × (List Lnk) × (Int) × (Int) → PV := fun (hn, ls, link, tick) => I (capM ls link tick)
def H_rcap : (Int) × (List Lnk) × (Int) × (Int) → Prop := fun (hn, ls, link, tick) => 0 ≤ link ∧ link < (ls.length : Int) ∧ 0 ≤ tick
noncomputable def e_rcap : Nat × Ent := (40, .v (specOf A_rcap R_rcap H_rcap))
theorem j_rcap : ∀ i j, A_rcap i = A_rcap j → i = j := by
 rintro ⟨hn₁, ls₁, link₁, tick₁⟩ ⟨hn₂, ls₂, link₂, tick₂⟩ h
 simp only [A_rcap, List.cons.injEq, and_true, PV.lits.injEq, PV.int.injEq, PV.bool.injEq, PV.str.injEq, PV.agg.injEq, PV.func.injEq, Fn.func.injEq, PV.vptr.injEq, true_and, List.map_nil, inj_ints, inj_strs, inj_its, inj_arcs, inj_snds, inj_lnks] at h
 simp [Prod.ext_iff, h] <;> omega
theorem s_rcap (hn : Int) (ls : List Lnk) (link : Int) (tick : Int) : specOf A_rcap R_rcap H_rcap [.agg [I hn, lnks ls], I link, I tick] = @ite (Option (PV)) (0 ≤ link ∧ link < (ls.length : Int) ∧ 0 ≤ tick) (Classical.propDecidable _) (some (I (capM ls link tick))) none := specOf_if j_rcap (hn, ls, link, tick)
def C_rcap : Prop := ∀ (hn : Int) (ls : List Lnk) (link : Int) (tick : Int) (h : 0 ≤ link ∧ link < (ls.length : Int) ∧ 0 ≤ tick) , VC Try.prog 40 [.agg [I hn, lnks ls], I link, I tick] (I (capM ls link tick))
def O_rcap : Prop := EntOK Try.prog e_rcap.1 e_rcap.2
theorem k_rcap (c : C_rcap) : O_rcap := specOf_ok fun ⟨hn, ls, link, tick⟩ h => c hn ls link tick h
theorem c_rcap : C_rcap := by
 rintro hn ls link tick ⟨h0, h1, h2⟩
 refine vc_ofU mixed (l := []) (eok_nil) [] []  Try.func40 rfl (by decide +kernel) (N := 16) rfl (by simp) rfl (by kernel_rfl) fun hs => ?_
 simp only [smallL, PV.small, List.length_map, and_true, true_and] at hs
 unfold capM
 have h3 := tmod24 h2
 have h4 : tick.toNat % 24 < 24 := Nat.mod_lt _ (by omega)
 have h4i : ((tick.toNat % 24 : Nat) : Int) < 24 := by omega
 generalize tick.toNat % 24 = h at *
 have h5 := toNat_lt' h0 h1
 have h6 := Int.toNat_of_nonneg h0
 generalize link.toNat = k at *
 generalize hr : capA (ls.getD k dL) h = r
 subst h6
 simp +contextual (maxSteps := 4000000) only [↓bdD, bdP, Nat.reduceLT, Nat.reduceBEq, endQ, Nat.reduceAdd, Int.reduceEq, st0, ↓reduceIte, nth_its, pur_its, nth_arcs, pur_arcs, nth_snds, pur_snds, nth_lnks, pur_lnks, lkC_len, lkC_0, lkC_1, lkC_cap, lkC_pri, lkC_take, pur_lkC, Nat.mul_one, Try.f40, ty3, ty22, ty24, ty47, ty49, h0, h1, h2, h3, h4, h4i, h5, hr]
theorem o_rcap : O_rcap := k_rcap c_rcap
def ftT (ls : List Lnk) (l : List Snd) : Nat → Bool
 | 0 => false
 | k + 1 => ftT ls l k || decide (capM ls (l.getD k dS).1 (l.getD k dS).2.1 < (l.getD k dS).2.2)
def fitM (hn : Int) (ls : List Lnk) (l : List Snd) : Int := if rightM hn ls l ≠ 0 then rightM hn ls l else if ftT ls l l.length = true then 13 else 0
theorem ftT_end {ls : List Lnk} {l : List Snd} {k m : Nat} (h : ftT ls l k = true) (hk : k ≤ m) : ftT ls l m = true := by
 induction m with
 | zero => rwa [show k = 0 by omega] at h
 | succ m ih =>
  by_cases e : k = m + 1
  ·rwa [← e]
  ·simp only [ftT, ih (by omega), Bool.true_or]
noncomputable def A_fits : (Int) × (List Lnk) × (List Snd) → List PV := fun (hn, ls, l) => [.agg [I hn, lnks ls], snds l]
noncomputable def R_fits : (Int) × (List Lnk) × (List Snd) → PV := fun (hn, ls, l) => I (fitM hn ls l)
def H_fits : (Int) × (List Lnk) × (List Snd) → Prop := fun (hn, ls, l) => True
noncomputable def e_fits : Nat × Ent := (27, .v (specOf A_fits R_fits H_fits))
theorem j_fits : ∀ i j, A_fits i = A_fits j → i = j := by
 rintro ⟨hn₁, ls₁, l₁⟩ ⟨hn₂, ls₂, l₂⟩ h
 simp only [A_fits, List.cons.injEq, and_true, PV.lits.injEq, PV.int.injEq, PV.bool.injEq, PV.str.injEq, PV.agg.injEq, PV.func.injEq, Fn.func.injEq, PV.vptr.injEq, true_and, List.map_nil, inj_ints, inj_strs, inj_its, inj_arcs, inj_snds, inj_lnks] at h
 simp [Prod.ext_iff, h] <;> omega
theorem s_fits (hn : Int) (ls : List Lnk) (l : List Snd) : specOf A_fits R_fits H_fits [.agg [I hn, lnks ls], snds l] = some (I (fitM hn ls l)) := specOf_app j_fits (i := (hn, ls, l)) trivial
def C_fits : Prop := ∀ (hn : Int) (ls : List Lnk) (l : List Snd) , VC Try.prog 27 [.agg [I hn, lnks ls], snds l] (I (fitM hn ls l))
def O_fits : Prop := EntOK Try.prog e_fits.1 e_fits.2
theorem k_fits (c : C_fits) : O_fits := specOf_ok fun ⟨hn, ls, l⟩ h => c hn ls l
theorem c_fits : C_fits := by
 intro hn ls l
 refine vc_ofU mixed (l := [e_right, e_cap]) ((eok_cons o_right (eok_cons o_cap eok_nil))) [27] []  Try.func27 rfl (by decide +kernel) (N := 30) rfl (by simp) rfl (by kernel_rfl) fun hs => ?_
 simp only [smallL, PV.small, List.length_map, and_true, true_and] at hs
 by_cases h : rightM hn ls l = 0
 case neg =>
  rw [show fitM hn ls l = rightM hn ls l by simp [fitM, h]]
  generalize hr : rightM hn ls l = r at *
  simp +contextual (maxSteps := 4000000) only [↓bdD, bdP, Nat.reduceLT, Nat.reduceBEq, endQ, Nat.reduceAdd, st0, ↓reduceIte, e_right, s_right, e_cap, nth_its, pur_its, nth_arcs, pur_arcs, nth_snds, pur_snds, nth_lnks, pur_lnks, lkC_len, lkC_0, lkC_1, lkC_cap, lkC_pri, lkC_take, pur_lkC, Nat.mul_one, Try.f27, ty24, ty25, h, hr]
 have ok := right_zero.1 h
 have hlen := ok.len
 rw [show fitM hn ls l = if ftT ls l l.length = true then 13 else 0 by simp [fitM, h]]
 generalize hr : (if ftT ls l l.length = true then (13 : Int) else 0) = r
 simp +contextual (maxSteps := 4000000) only [↓bdD, bdP, Nat.reduceLT, Nat.reduceBEq, Nat.reduceAdd, st0, ↓reduceIte, e_right, s_right, e_cap, nth_its, pur_its, nth_arcs, pur_arcs, nth_snds, pur_snds, nth_lnks, pur_lnks, lkC_len, lkC_0, lkC_1, lkC_cap, lkC_pri, lkC_take, pur_lkC, Nat.mul_one, Try.f27, ty24, ty25, h]
 refine loop_cnt [4, 7, 16, 17, 18, 19, 20, 21, 22, 23, 24, 25, 26, 27, 28, 29] l.length (fun k ρ st' => ρ 16 = I k ∧ ftT ls l k = false) (.refl _) ?_ ?_
 ·simp +contextual (maxSteps := 4000000) only [↓bdD, bdP, nth_its, pur_its, nth_arcs, pur_arcs, nth_snds, pur_snds, nth_lnks, pur_lnks, lkC_len, lkC_0, lkC_1, lkC_cap, lkC_pri, lkC_take, pur_lkC, Nat.mul_one, Try.f27, ftT]
 ·rintro k ρ ⟨ob, M⟩ hk ⟨h16, hz⟩
  by_cases hlt : k < l.length
  ·have hw1 : IntKind.i64.wrap ((k : Int) + 1) = ((k + 1 : Nat) : Int) := by rw [wrap64 (by omega) (by omega)]; omega
   have e1 := ok.link k hlt
   have e2 := (ok.tick k hlt).1
   have hs : ftT ls l (k + 1) = decide (capM ls (l.getD k dS).1 (l.getD k dS).2.1 < (l.getD k dS).2.2) := by simp only [ftT, hz, Bool.false_or]
   generalize hx : l.getD k dS = x at *
   by_cases hb : capM ls x.1 x.2.1 < x.2.2
   ·rw [decide_eq_true hb] at hs
    rw [if_pos (ftT_end hs (by omega))] at hr
    subst hr
    simp +contextual (maxSteps := 4000000) only [↓bdD, bdP, Nat.reduceLT, Nat.reduceBEq, endQ, Nat.reduceEqDiff, Nat.reduceAdd, Store.new, Store.set, ↓reduceIte, s_cap, nth_its, pur_its, nth_arcs, pur_arcs, nth_snds, pur_snds, nth_lnks, pur_lnks, lkC_len, lkC_0, lkC_1, lkC_cap, lkC_pri, lkC_take, pur_lkC, Nat.mul_one, Try.f27, ty3, ty24, ty25, ty56, h16, hlt, hx, e1, e2, hb]
   ·rw [decide_eq_false hb] at hs
    simp +contextual (maxSteps := 4000000) only [↓bdD, bdP, Nat.reduceLT, Nat.reduceBEq, Nat.reduceEqDiff, Nat.reduceAdd, Store.new, Store.set, ↓reduceIte, s_cap, nth_its, pur_its, nth_arcs, pur_arcs, nth_snds, pur_snds, nth_lnks, pur_lnks, lkC_len, lkC_0, lkC_1, lkC_cap, lkC_pri, lkC_take, pur_lkC, Nat.mul_one, Try.f27, ty3, ty24, ty25, ty56, h16, hlt, hx, e1, e2, hb, hs, hw1]
  ·have e : k = l.length := by omega
   subst e
   rw [hz, if_neg (by simp)] at hr
   subst hr
   simp +contextual (maxSteps := 4000000) only [↓bdD, bdP, Nat.reduceLT, Nat.reduceBEq, endQ, ↓reduceIte, nth_its, pur_its, nth_arcs, pur_arcs, nth_snds, pur_snds, nth_lnks, pur_lnks, lkC_len, lkC_0, lkC_1, lkC_cap, lkC_pri, lkC_take, pur_lkC, Nat.mul_one, Try.f27, h16]
theorem o_fits : O_fits := k_fits c_fits
noncomputable def A_rfits : (Int) × (List Lnk) × (List Snd) → List PV := fun (hn, ls, l) => [.agg [I hn, lnks ls], snds l]
noncomputable def R_rfits : (Int) × (List Lnk) × (List Snd) → PV := fun (hn, ls, l) => I (fitM hn ls l)
def H_rfits : (Int) × (List Lnk) × (List Snd) → Prop := fun (hn, ls, l) => True
noncomputable def e_rfits : Nat × Ent := (25, .v (specOf A_rfits R_rfits H_rfits))
theorem j_rfits : ∀ i j, A_rfits i = A_rfits j → i = j := by
 rintro ⟨hn₁, ls₁, l₁⟩ ⟨hn₂, ls₂, l₂⟩ h
 simp only [A_rfits, List.cons.injEq, and_true, PV.lits.injEq, PV.int.injEq, PV.bool.injEq, PV.str.injEq, PV.agg.injEq, PV.func.injEq, Fn.func.injEq, PV.vptr.injEq, true_and, List.map_nil, inj_ints, inj_strs, inj_its, inj_arcs, inj_snds, inj_lnks] at h
 simp [Prod.ext_iff, h] <;> omega
theorem s_rfits (hn : Int) (ls : List Lnk) (l : List Snd) : specOf A_rfits R_rfits H_rfits [.agg [I hn, lnks ls], snds l] = some (I (fitM hn ls l)) := specOf_app j_rfits (i := (hn, ls, l)) trivial
def C_rfits : Prop := ∀ (hn : Int) (ls : List Lnk) (l : List Snd) , VC Try.prog 25 [.agg [I hn, lnks ls], snds l] (I (fitM hn ls l))
def O_rfits : Prop := EntOK Try.prog e_rfits.1 e_rfits.2
theorem k_rfits (c : C_rfits) : O_rfits := specOf_ok fun ⟨hn, ls, l⟩ h => c hn ls l
theorem c_rfits : C_rfits := by
 intro hn ls l
 refine vc_ofU mixed (l := [e_rright, e_rcap]) ((eok_cons o_rright (eok_cons o_rcap eok_nil))) [35] []  Try.func25 rfl (by decide +kernel) (N := 37) rfl (by simp) rfl (by kernel_rfl) fun hs => ?_
 simp only [smallL, PV.small, List.length_map, and_true, true_and] at hs
 by_cases h : rightM hn ls l = 0
 case neg =>
  rw [show fitM hn ls l = rightM hn ls l by simp [fitM, h]]
  generalize hr : rightM hn ls l = r at *
  simp +contextual (maxSteps := 4000000) only [↓bdD, bdP, Nat.reduceLT, Nat.reduceBEq, endQ, Nat.reduceAdd, st0, ↓reduceIte, e_rright, s_rright, e_rcap, nth_its, pur_its, nth_arcs, pur_arcs, nth_snds, pur_snds, nth_lnks, pur_lnks, lkC_len, lkC_0, lkC_1, lkC_cap, lkC_pri, lkC_take, pur_lkC, Nat.mul_one, Try.f25, ty24, ty25, h, hr]
 have ok := right_zero.1 h
 have hlen := ok.len
 rw [show fitM hn ls l = if ftT ls l l.length = true then 13 else 0 by simp [fitM, h]]
 generalize hr : (if ftT ls l l.length = true then (13 : Int) else 0) = r
 simp +contextual (maxSteps := 4000000) only [↓bdD, bdP, Nat.reduceLT, Nat.reduceBEq, Nat.reduceAdd, st0, ↓reduceIte, e_rright, s_rright, e_rcap, nth_its, pur_its, nth_arcs, pur_arcs, nth_snds, pur_snds, nth_lnks, pur_lnks, lkC_len, lkC_0, lkC_1, lkC_cap, lkC_pri, lkC_take, pur_lkC, Nat.mul_one, Try.f25, ty24, ty25, h]
 refine loop_cnt [4, 6, 13, 14, 15, 16, 17, 18, 19, 20, 21, 22, 23, 24, 25, 26, 27, 28, 29, 30, 31, 32, 33, 34, 35, 36] l.length (fun k ρ st' => ρ 6 = I k ∧ ftT ls l k = false) (.refl _) ?_ ?_
 ·simp +contextual (maxSteps := 4000000) only [↓bdD, bdP, nth_its, pur_its, nth_arcs, pur_arcs, nth_snds, pur_snds, nth_lnks, pur_lnks, lkC_len, lkC_0, lkC_1, lkC_cap, lkC_pri, lkC_take, pur_lkC, Nat.mul_one, Try.f25, ftT]
 ·rintro k ρ ⟨ob, M⟩ hk ⟨h6, hz⟩
  by_cases hlt : k < l.length
  ·have hw1 : IntKind.i64.wrap ((k : Int) + 1) = ((k + 1 : Nat) : Int) := by rw [wrap64 (by omega) (by omega)]; omega
   have e1 := ok.link k hlt
   have e2 := (ok.tick k hlt).1
   have hs : ftT ls l (k + 1) = decide (capM ls (l.getD k dS).1 (l.getD k dS).2.1 < (l.getD k dS).2.2) := by simp only [ftT, hz, Bool.false_or]
   generalize hx : l.getD k dS = x at *
   by_cases hb : capM ls x.1 x.2.1 < x.2.2
   ·rw [decide_eq_true hb] at hs
    rw [if_pos (ftT_end hs (by omega))] at hr
    subst hr
    simp +contextual (maxSteps := 4000000) only [↓bdD, bdP, Nat.reduceLT, Nat.reduceBEq, endQ, Nat.reduceEqDiff, Nat.reduceAdd, ↓reduceIte, s_rcap, nth_its, pur_its, nth_arcs, pur_arcs, nth_snds, pur_snds, nth_lnks, pur_lnks, lkC_len, lkC_0, lkC_1, lkC_cap, lkC_pri, lkC_take, pur_lkC, Nat.mul_one, Try.f25, ty3, ty24, ty25, ty56, h6, hlt, hx, e1, e2, hb]
   ·rw [decide_eq_false hb] at hs
    simp +contextual (maxSteps := 4000000) only [↓bdD, bdP, Nat.reduceLT, Nat.reduceBEq, Nat.reduceEqDiff, Nat.reduceAdd, ↓reduceIte, s_rcap, nth_its, pur_its, nth_arcs, pur_arcs, nth_snds, pur_snds, nth_lnks, pur_lnks, lkC_len, lkC_0, lkC_1, lkC_cap, lkC_pri, lkC_take, pur_lkC, Nat.mul_one, Try.f25, ty3, ty24, ty25, ty56, h6, hlt, hx, e1, e2, hb, hs, hw1]
  ·have e : k = l.length := by omega
   subst e
   rw [hz, if_neg (by simp)] at hr
   subst hr
   simp +contextual (maxSteps := 4000000) only [↓bdD, bdP, Nat.reduceLT, Nat.reduceBEq, endQ, ↓reduceIte, nth_its, pur_its, nth_arcs, pur_arcs, nth_snds, pur_snds, nth_lnks, pur_lnks, lkC_len, lkC_0, lkC_1, lkC_cap, lkC_pri, lkC_take, pur_lkC, Nat.mul_one, Try.f25, ty25, h6]
theorem o_rfits : O_rfits := k_rfits c_rfits
end Sim
