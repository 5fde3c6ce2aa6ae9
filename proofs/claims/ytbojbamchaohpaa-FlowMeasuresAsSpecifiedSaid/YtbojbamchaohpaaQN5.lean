/- What functions of this seat compute, by values: contracts (lemmas of the statement's proof, under the conditions that each names). -/
import Derived.Test.YtbojbamchaohpaaQBD
import Derived.Test.YtbojbamchaohpaaQN3
namespace Sim
open Go Go.Proofs
set_option maxRecDepth 10000
set_option maxHeartbeats 2000000
set_option linter.unusedVariables false
set_option linter.unusedSimpArgs false
attribute [local congr] opsIf_congr condC_congr guardC_congr grd_congr pick3_congr obind_congr omap_congr
theorem priM_le {hn : Int} {ls : List Lnk} (h : OKn hn ls) {link tick : Int} (h0 : 0 ≤ link) (h1 : link < (ls.length : Int)) : 0 ≤ priM ls link tick ∧ priM ls link tick ≤ 1000000 := by
 have := h.hours link.toNat (tick.toNat % 24) (toNat_lt' h0 h1) (Nat.mod_lt _ (by omega))
 exact ⟨this.2.2.1, this.2.2.2⟩
theorem capM_le {hn : Int} {ls : List Lnk} (h : OKn hn ls) {link tick : Int} (h0 : 0 ≤ link) (h1 : link < (ls.length : Int)) : 0 ≤ capM ls link tick ∧ capM ls link tick ≤ 1073741824 := by
 have := h.hours link.toNat (tick.toNat % 24) (toNat_lt' h0 h1) (Nat.mod_lt _ (by omega))
 exact ⟨this.1, this.2.1⟩
def costT (ls : List Lnk) (l : List Snd) : Nat → Int
 | 0 => 0
 | k + 1 => costT ls l k + (l.getD k dS).2.2 * priM ls (l.getD k dS).1 (l.getD k dS).2.1
def costM (hn : Int) (ls : List Lnk) (l : List Snd) : Int := if rightM hn ls l ≠ 0 then 0 else costT ls l l.length
theorem mul_le_of {a b A B : Int} (h0 : 0 ≤ a) (h1 : a ≤ A) (h2 : 0 ≤ b) (h3 : b ≤ B) : 0 ≤ a * b ∧ a * b ≤ A * B :=
 ⟨Int.mul_nonneg h0 h2, Int.mul_le_mul h1 h3 h2 (by omega)⟩
theorem costT_le {hn : Int} {ls : List Lnk} {l : List Snd} (ok : OKr hn ls l) : ∀ k : Nat, k ≤ l.length → 0 ≤ costT ls l k ∧ costT ls l k ≤ 1073741824000000 * (k : Int)
 | 0, _ => ⟨Int.le_refl _, by simp [costT]⟩
 | k + 1, h => by
  have ih := costT_le ok k (by omega)
  have h1 := ok.link k (by omega)
  have h2 := ok.bytes k (by omega)
  have h3 := priM_le ok.net h1.1 h1.2 (tick := (l.getD k dS).2.1)
  have h4 := mul_le_of (by omega) h2.2 h3.1 h3.2
  simp only [costT]
  omega
theorem costT_w {hn : Int} {ls : List Lnk} {l : List Snd} (ok : OKr hn ls l) {k : Nat} (h : k < l.length) : IntKind.i64.wrap ((l.getD k dS).2.2 * priM ls (l.getD k dS).1 (l.getD k dS).2.1) = (l.getD k dS).2.2 * priM ls (l.getD k dS).1 (l.getD k dS).2.1 ∧
  IntKind.i64.wrap (costT ls l k + (l.getD k dS).2.2 * priM ls (l.getD k dS).1 (l.getD k dS).2.1) = costT ls l (k + 1) := by
 have h0 := ok.len
 have h1 := ok.link k h
 have h2 := ok.bytes k h
 have h3 := priM_le ok.net h1.1 h1.2 (tick := (l.getD k dS).2.1)
 have h4 := mul_le_of (by omega) h2.2 h3.1 h3.2
 have h5 := costT_le ok k (by omega)
 exact ⟨wrap64 (by omega) (by omega), wrap64 (by omega) (by omega)⟩
noncomputable def A_cost : (Int) × (List Lnk) × (List Snd) → List PV := fun (hn, ls, l) => [.agg [I hn, lnks ls], snds l]
noncomputable def R_cost : (Int) × (List Lnk) × (List Snd) → PV := fun (hn, ls, l) => .tuple [I (costM hn ls l), I (rightM hn ls l)]
def H_cost : (Int) × (List Lnk) × (List Snd) → Prop := fun (hn, ls, l) => True
noncomputable def e_cost : Nat × Ent := (17, .v (specOf A_cost R_cost H_cost))
theorem j_cost : ∀ i j, A_cost i = A_cost j → i = j := by
 rintro ⟨hn₁, ls₁, l₁⟩ ⟨hn₂, ls₂, l₂⟩ h
 simp only [A_cost, List.cons.injEq, and_true, PV.lits.injEq, PV.int.injEq, PV.bool.injEq, PV.str.injEq, PV.agg.injEq, PV.func.injEq, Fn.func.injEq, PV.vptr.injEq, true_and, List.map_nil, inj_ints, inj_strs, inj_its, inj_arcs, inj_snds, inj_lnks] at h
 simp [Prod.ext_iff, h] <;> omega
theorem s_cost (hn : Int) (ls : List Lnk) (l : List Snd) : specOf A_cost R_cost H_cost [.agg [I hn, lnks ls], snds l] = some (.tuple [I (costM hn ls l), I (rightM hn ls l)]) := specOf_app j_cost (i := (hn, ls, l)) trivial
def C_cost : Prop := ∀ (hn : Int) (ls : List Lnk) (l : List Snd) , VC Try.prog 17 [.agg [I hn, lnks ls], snds l] (.tuple [I (costM hn ls l), I (rightM hn ls l)])
def O_cost : Prop := EntOK Try.prog e_cost.1 e_cost.2
theorem k_cost (c : C_cost) : O_cost := specOf_ok fun ⟨hn, ls, l⟩ h => c hn ls l
theorem c_cost : C_cost := by
 intro hn ls l
 refine vc_ofU mixed (l := [e_right]) ((eok_cons o_right eok_nil)) [] []  Try.func17 rfl (by decide +kernel) (N := 40) rfl (by simp) rfl (by kernel_rfl) fun hs => ?_
 simp only [smallL, PV.small, List.length_map, and_true, true_and] at hs
 by_cases h : rightM hn ls l = 0
 case neg =>
  rw [show costM hn ls l = 0 by simp [costM, h]]
  generalize hr : rightM hn ls l = r at *
  simp +contextual (maxSteps := 4000000) only [↓bdD, bdP, Nat.reduceLT, Nat.reduceBEq, endQ, Nat.reduceAdd, st0, ↓reduceIte, e_right, s_right, nth_its, pur_its, nth_arcs, pur_arcs, nth_snds, pur_snds, nth_lnks, pur_lnks, lkC_len, lkC_0, lkC_1, lkC_cap, lkC_pri, lkC_take, pur_lkC, Nat.mul_one, Try.f17, ty24, ty25, h, hr]
 have ok := right_zero.1 h
 have hlen := ok.len
 rw [show costM hn ls l = costT ls l l.length by simp [costM, h], h]
 generalize hr : costT ls l l.length = r
 simp +contextual (maxSteps := 4000000) only [↓bdD, bdP, Nat.reduceLT, Nat.reduceBEq, Nat.reduceAdd, st0, ↓reduceIte, e_right, s_right, nth_its, pur_its, nth_arcs, pur_arcs, nth_snds, pur_snds, nth_lnks, pur_lnks, lkC_len, lkC_0, lkC_1, lkC_cap, lkC_pri, lkC_take, pur_lkC, Nat.mul_one, Try.f17, ty24, ty25, h]
 refine loop_cnt [7, 9, 18, 19, 20, 21, 22, 23, 24, 25, 26, 27, 28, 29, 30, 31, 32, 33, 34, 35, 36, 37, 38] l.length (fun k ρ st' => ρ 18 = I k ∧ ρ 7 = I (costT ls l k)) (.refl _) ?_ ?_
 ·simp +contextual (maxSteps := 4000000) only [↓bdD, bdP, Nat.reduceBEq, nth_its, pur_its, nth_arcs, pur_arcs, nth_snds, pur_snds, nth_lnks, pur_lnks, lkC_len, lkC_0, lkC_1, lkC_cap, lkC_pri, lkC_take, pur_lkC, Nat.mul_one, Try.f17, costT]
 ·rintro k ρ ⟨ob, M⟩ hk ⟨h18, h7⟩
  by_cases hlt : k < l.length
  ·have hw1 : IntKind.i64.wrap ((k : Int) + 1) = ((k + 1 : Nat) : Int) := by rw [wrap64 (by omega) (by omega)]; omega
   have e1 := ok.link k hlt
   have e2 := (ok.tick k hlt).1
   have hw := costT_w ok hlt
   generalize hx : l.getD k dS = x at *
   have h3 := tmod24 e2
   have h4 : x.2.1.toNat % 24 < 24 := Nat.mod_lt _ (by omega)
   have h4i : ((x.2.1.toNat % 24 : Nat) : Int) < 24 := by omega
   unfold priM at hw
   generalize x.2.1.toNat % 24 = hh at *
   have h5 := toNat_lt' e1.1 e1.2
   have h6 := Int.toNat_of_nonneg e1.1
   generalize x.1.toNat = kk at *
   simp +contextual (maxSteps := 4000000) only [↓bdD, bdP, Nat.reduceLT, Nat.reduceBEq, Nat.reduceAdd, Int.reduceEq, Store.new, Store.set, ↓reduceIte, nth_its, pur_its, nth_arcs, pur_arcs, nth_snds, pur_snds, nth_lnks, pur_lnks, lkC_len, lkC_0, lkC_1, lkC_cap, lkC_pri, lkC_take, pur_lkC, Nat.mul_one, Try.f17, ty3, ty22, ty24, ty25, ty47, ty49, ty56, h18, h7, hlt, hx, e1, e2, h3, h4, h4i, h5, ← h6, hw, hw1]
  ·have e : k = l.length := by omega
   subst e
   rw [hr] at h7
   simp +contextual (maxSteps := 4000000) only [↓bdD, bdP, Nat.reduceLT, Nat.reduceBEq, endQ, ↓reduceIte, nth_its, pur_its, nth_arcs, pur_arcs, nth_snds, pur_snds, nth_lnks, pur_lnks, lkC_len, lkC_0, lkC_1, lkC_cap, lkC_pri, lkC_take, pur_lkC, Nat.mul_one, Try.f17, h18, h7]
theorem o_cost : O_cost := k_cost c_cost
def sentT (l : List Snd) (link tick : Int) : Nat → Int
 | 0 => 0
 | k + 1 => sentT l link tick k + if (l.getD k dS).1 = link ∧ (l.getD k dS).2.1 = tick then (l.getD k dS).2.2 else 0
def leftM (hn : Int) (ls : List Lnk) (l : List Snd) (link tick : Int) : Int × Int :=
 if rightM hn ls l ≠ 0 then (0, rightM hn ls l) else if link < 0 ∨ (ls.length : Int) ≤ link ∨ tick < 0 ∨ 1000000 ≤ tick then (0, 1) else (capM ls link tick - sentT l link tick l.length, 0)
def smB (l : List Snd) : Prop := l.length ≤ 2000 ∧ ∀ k, k < l.length → 1 ≤ (l.getD k dS).2.2 ∧ (l.getD k dS).2.2 ≤ 1073741824
theorem sentT_le {l : List Snd} (h : smB l) (link tick : Int) : ∀ k : Nat, k ≤ l.length → 0 ≤ sentT l link tick k ∧ sentT l link tick k ≤ 1073741824 * (k : Int)
 | 0, _ => ⟨Int.le_refl _, by simp [sentT]⟩
 | k + 1, hk => by
  have ih := sentT_le h link tick k (by omega)
  have h2 := h.2 k (by omega)
  simp only [sentT]
  split <;> omega
noncomputable def A_sent : (List Snd) × (Int) × (Int) → List PV := fun (l, link, tick) => [snds l, I link, I tick]
noncomputable def R_sent : (List Snd) × (Int) × (Int) → PV := fun (l, link, tick) => I (sentT l link tick l.length)
def H_sent : (List Snd) × (Int) × (Int) → Prop := fun (l, link, tick) => smB l
noncomputable def e_sent : Nat × Ent := (59, .v (specOf A_sent R_sent H_sent))
theorem j_sent : ∀ i j, A_sent i = A_sent j → i = j := by
 rintro ⟨l₁, link₁, tick₁⟩ ⟨l₂, link₂, tick₂⟩ h
 simp only [A_sent, List.cons.injEq, and_true, PV.lits.injEq, PV.int.injEq, PV.bool.injEq, PV.str.injEq, PV.agg.injEq, PV.func.injEq, Fn.func.injEq, PV.vptr.injEq, true_and, List.map_nil, inj_ints, inj_strs, inj_its, inj_arcs, inj_snds, inj_lnks] at h
 simp [Prod.ext_iff, h] <;> omega
theorem s_sent (l : List Snd) (link : Int) (tick : Int) : specOf A_sent R_sent H_sent [snds l, I link, I tick] = @ite (Option (PV)) (smB l) (Classical.propDecidable _) (some (I (sentT l link tick l.length))) none := specOf_if j_sent (l, link, tick)
def C_sent : Prop := ∀ (l : List Snd) (link : Int) (tick : Int) (h : smB l) , VC Try.prog 59 [snds l, I link, I tick] (I (sentT l link tick l.length))
def O_sent : Prop := EntOK Try.prog e_sent.1 e_sent.2
theorem k_sent (c : C_sent) : O_sent := specOf_ok fun ⟨l, link, tick⟩ h => c l link tick h
theorem c_sent : C_sent := by
 intro l link tick hb
 refine vc_ofU mixed (l := []) (eok_nil) [] []  Try.func59 rfl (by decide +kernel) (N := 39) rfl (by simp) rfl (by kernel_rfl) fun hs => ?_
 simp only [smallL, PV.small, List.length_map, and_true, true_and] at hs
 have hlen := hb.1
 generalize hr : sentT l link tick l.length = r
 simp +contextual (maxSteps := 4000000) only [↓bdD, bdP, Nat.reduceLT, st0, nth_its, pur_its, nth_arcs, pur_arcs, nth_snds, pur_snds, nth_lnks, pur_lnks, lkC_len, lkC_0, lkC_1, lkC_cap, lkC_pri, lkC_take, pur_lkC, Nat.mul_one, Try.f59]
 refine loop_cnt [7, 8, 9, 10, 11, 12, 13, 14, 15, 16, 17, 18, 19, 20, 21, 22, 23, 24, 25, 26, 27, 28, 29, 30, 31, 32, 33, 34, 35, 36, 37] l.length (fun k ρ st' => ρ 8 = I k ∧ ρ 7 = I (sentT l link tick k)) (.refl _) ?_ ?_
 ·simp +contextual (maxSteps := 4000000) only [↓bdD, bdP, Nat.reduceBEq, nth_its, pur_its, nth_arcs, pur_arcs, nth_snds, pur_snds, nth_lnks, pur_lnks, lkC_len, lkC_0, lkC_1, lkC_cap, lkC_pri, lkC_take, pur_lkC, Nat.mul_one, Try.f59, sentT]
 ·rintro k ρ ⟨ob, M⟩ hk ⟨h8, h7⟩
  by_cases hlt : k < l.length
  ·have hw1 : IntKind.i64.wrap ((k : Int) + 1) = ((k + 1 : Nat) : Int) := by rw [wrap64 (by omega) (by omega)]; omega
   have hs := sentT_le hb link tick k hk
   have hbk := hb.2 k hlt
   have hstep : sentT l link tick (k + 1) = sentT l link tick k + if (l.getD k dS).1 = link ∧ (l.getD k dS).2.1 = tick then (l.getD k dS).2.2 else 0 := rfl
   generalize hx : l.getD k dS = x at *
   by_cases e1 : x.1 = link
   ·by_cases e2 : x.2.1 = tick
    ·rw [if_pos ⟨e1, e2⟩] at hstep
     have hw2 : IntKind.i64.wrap (sentT l link tick k + x.2.2) = sentT l link tick (k + 1) := by rw [hstep, wrap64 (by omega) (by omega)]
     simp +contextual (maxSteps := 4000000) only [↓bdD, bdP, Nat.reduceLT, Nat.reduceBEq, Nat.reduceAdd, ↓reduceIte, nth_its, pur_its, nth_arcs, pur_arcs, nth_snds, pur_snds, nth_lnks, pur_lnks, lkC_len, lkC_0, lkC_1, lkC_cap, lkC_pri, lkC_take, pur_lkC, Nat.mul_one, Try.f59, ty3, ty25, ty56, h8, h7, hlt, hx, e1, e2, hw1, hw2]
    ·rw [if_neg (fun h => e2 h.2), Int.add_zero] at hstep
     simp +contextual (maxSteps := 4000000) only [↓bdD, bdP, Nat.reduceLT, Nat.reduceBEq, Nat.reduceAdd, ↓reduceIte, nth_its, pur_its, nth_arcs, pur_arcs, nth_snds, pur_snds, nth_lnks, pur_lnks, lkC_len, lkC_0, lkC_1, lkC_cap, lkC_pri, lkC_take, pur_lkC, Nat.mul_one, Try.f59, ty3, ty25, ty56, h8, h7, hlt, hx, e1, e2, hw1, hstep]
   ·rw [if_neg (fun h => e1 h.1), Int.add_zero] at hstep
    simp +contextual (maxSteps := 4000000) only [↓bdD, bdP, Nat.reduceLT, Nat.reduceBEq, Nat.reduceAdd, ↓reduceIte, nth_its, pur_its, nth_arcs, pur_arcs, nth_snds, pur_snds, nth_lnks, pur_lnks, lkC_len, lkC_0, lkC_1, lkC_cap, lkC_pri, lkC_take, pur_lkC, Nat.mul_one, Try.f59, ty3, ty25, ty56, h8, h7, hlt, hx, e1, hw1, hstep]
  ·have e : k = l.length := by omega
   subst e
   rw [hr] at h7
   simp +contextual (maxSteps := 4000000) only [↓bdD, bdP, Nat.reduceLT, Nat.reduceBEq, endQ, ↓reduceIte, nth_its, pur_its, nth_arcs, pur_arcs, nth_snds, pur_snds, nth_lnks, pur_lnks, lkC_len, lkC_0, lkC_1, lkC_cap, lkC_pri, lkC_take, pur_lkC, Nat.mul_one, Try.f59, ty25, h8, h7]
theorem o_sent : O_sent := k_sent c_sent
theorem OKr.smB {hn : Int} {ls : List Lnk} {l : List Snd} (h : OKr hn ls l) : smB l := ⟨h.len, h.bytes⟩
noncomputable def A_rleft : (Int) × (List Lnk) × (List Snd) × (Int) × (Int) → List PV := fun (hn, ls, l, link, tick) => [.agg [I hn, lnks ls], snds l, I link, I tick]
noncomputable def R_rleft : (Int) × (List Lnk) × (List Snd) × (Int) × (Int) → PV := fun (hn, ls, l, link, tick) => .agg [I (leftM hn ls l link tick).1, I (leftM hn ls l link tick).2]
def H_rleft : (Int) × (List Lnk) × (List Snd) × (Int) × (Int) → Prop := fun (hn, ls, l, link, tick) => True
noncomputable def e_rleft : Nat × Ent := (52, .v (specOf A_rleft R_rleft H_rleft))
theorem j_rleft : ∀ i j, A_rleft i = A_rleft j → i = j := by
 rintro ⟨hn₁, ls₁, l₁, link₁, tick₁⟩ ⟨hn₂, ls₂, l₂, link₂, tick₂⟩ h
 simp only [A_rleft, List.cons.injEq, and_true, PV.lits.injEq, PV.int.injEq, PV.bool.injEq, PV.str.injEq, PV.agg.injEq, PV.func.injEq, Fn.func.injEq, PV.vptr.injEq, true_and, List.map_nil, inj_ints, inj_strs, inj_its, inj_arcs, inj_snds, inj_lnks] at h
 simp [Prod.ext_iff, h] <;> omega
theorem s_rleft (hn : Int) (ls : List Lnk) (l : List Snd) (link : Int) (tick : Int) : specOf A_rleft R_rleft H_rleft [.agg [I hn, lnks ls], snds l, I link, I tick] = some (.agg [I (leftM hn ls l link tick).1, I (leftM hn ls l link tick).2]) := specOf_app j_rleft (i := (hn, ls, l, link, tick)) trivial
def C_rleft : Prop := ∀ (hn : Int) (ls : List Lnk) (l : List Snd) (link : Int) (tick : Int) , VC Try.prog 52 [.agg [I hn, lnks ls], snds l, I link, I tick] (.agg [I (leftM hn ls l link tick).1, I (leftM hn ls l link tick).2])
def O_rleft : Prop := EntOK Try.prog e_rleft.1 e_rleft.2
theorem k_rleft (c : C_rleft) : O_rleft := specOf_ok fun ⟨hn, ls, l, link, tick⟩ h => c hn ls l link tick
theorem c_rleft : C_rleft := by
 intro hn ls l link tick
 refine vc_ofU mixed (l := [e_rright, e_rcap, e_sent]) ((eok_cons o_rright (eok_cons o_rcap (eok_cons o_sent eok_nil)))) [8, 38, 42] []  Try.func52 rfl (by decide +kernel) (N := 45) rfl (by simp) rfl (by kernel_rfl) fun hs => ?_
 simp only [smallL, PV.small, List.length_map, and_true, true_and] at hs
 by_cases h : rightM hn ls l = 0
 case neg =>
  rw [show leftM hn ls l link tick = (0, rightM hn ls l) by simp [leftM, h]]
  generalize hr : rightM hn ls l = r at *
  simp +contextual (maxSteps := 4000000) only [↓bdD, bdP, Nat.reduceLT, Nat.reduceBEq, endQ, Nat.reduceAdd, st0, Store.new, Store.set, ↓reduceIte, e_rright, s_rright, e_rcap, e_sent, nth_its, pur_its, nth_arcs, pur_arcs, nth_snds, pur_snds, nth_lnks, pur_lnks, lkC_len, lkC_0, lkC_1, lkC_cap, lkC_pri, lkC_take, pur_lkC, Nat.mul_one, Try.f52, ty24, ty25, ty98, h, hr]
 have ok := right_zero.1 h
 have hlen := ok.len
 by_cases hb : link < 0 ∨ (ls.length : Int) ≤ link ∨ tick < 0 ∨ 1000000 ≤ tick
 ·rw [show leftM hn ls l link tick = (0, 1) by simp only [leftM, h, ne_eq, not_true_eq_false, if_false]; rw [if_pos hb]]
  have e : link < 0 ∨ (¬ link < 0 ∧ (ls.length : Int) ≤ link) ∨ (¬ link < 0 ∧ ¬ (ls.length : Int) ≤ link ∧ tick < 0) ∨ (¬ link < 0 ∧ ¬ (ls.length : Int) ≤ link ∧ ¬ tick < 0 ∧ 1000000 ≤ tick) := by omega
  rcases e with e | e | e | e
  ·simp +contextual (maxSteps := 4000000) only [↓bdD, bdP, Nat.reduceLT, Nat.reduceBEq, endQ, Nat.reduceAdd, st0, Store.new, Store.set, ↓reduceIte, e_rright, s_rright, e_rcap, e_sent, nth_its, pur_its, nth_arcs, pur_arcs, nth_snds, pur_snds, nth_lnks, pur_lnks, lkC_len, lkC_0, lkC_1, lkC_cap, lkC_pri, lkC_take, pur_lkC, Nat.mul_one, Try.f52, ty24, ty25, ty98, h, e]
  ·simp +contextual (maxSteps := 4000000) only [↓bdD, bdP, Nat.reduceLT, Nat.reduceBEq, endQ, Nat.reduceAdd, st0, Store.new, Store.set, ↓reduceIte, e_rright, s_rright, e_rcap, e_sent, nth_its, pur_its, nth_arcs, pur_arcs, nth_snds, pur_snds, nth_lnks, pur_lnks, lkC_len, lkC_0, lkC_1, lkC_cap, lkC_pri, lkC_take, pur_lkC, Nat.mul_one, Try.f52, ty22, ty24, ty25, ty98, h, e]
  ·simp +contextual (maxSteps := 4000000) only [↓bdD, bdP, Nat.reduceLT, Nat.reduceBEq, endQ, Nat.reduceAdd, st0, Store.new, Store.set, ↓reduceIte, e_rright, s_rright, e_rcap, e_sent, nth_its, pur_its, nth_arcs, pur_arcs, nth_snds, pur_snds, nth_lnks, pur_lnks, lkC_len, lkC_0, lkC_1, lkC_cap, lkC_pri, lkC_take, pur_lkC, Nat.mul_one, Try.f52, ty22, ty24, ty25, ty98, h, e]
  ·simp +contextual (maxSteps := 4000000) only [↓bdD, bdP, Nat.reduceLT, Nat.reduceBEq, endQ, Nat.reduceAdd, st0, Store.new, Store.set, ↓reduceIte, e_rright, s_rright, e_rcap, e_sent, nth_its, pur_its, nth_arcs, pur_arcs, nth_snds, pur_snds, nth_lnks, pur_lnks, lkC_len, lkC_0, lkC_1, lkC_cap, lkC_pri, lkC_take, pur_lkC, Nat.mul_one, Try.f52, ty22, ty24, ty25, ty98, h, e]
 rw [show leftM hn ls l link tick = (capM ls link tick - sentT l link tick l.length, 0) by simp only [leftM, h, ne_eq, not_true_eq_false, if_false]; rw [if_neg hb]]
 have e : ¬ link < 0 ∧ ¬ (ls.length : Int) ≤ link ∧ ¬ tick < 0 ∧ ¬ 1000000 ≤ tick ∧ 0 ≤ link ∧ link < (ls.length : Int) ∧ 0 ≤ tick := by omega
 have hcap := capM_le ok.net e.2.2.2.2.1 e.2.2.2.2.2.1 (tick := tick)
 have hb := ok.smB
 have hs := sentT_le hb link tick _ (Nat.le_refl _)
 have hw : IntKind.i64.wrap (capM ls link tick - sentT l link tick l.length) = capM ls link tick - sentT l link tick l.length := wrap64 (by omega) (by omega)
 simp +contextual (maxSteps := 4000000) only [↓bdD, bdP, Nat.reduceLT, Nat.reduceBEq, endQ, Nat.reduceEqDiff, Nat.reduceAdd, Nat.reduceLeDiff, st0, Store.new, Store.set, ↓reduceIte, e_rright, s_rright, e_rcap, s_rcap, e_sent, s_sent, nth_its, pur_its, nth_arcs, pur_arcs, nth_snds, pur_snds, nth_lnks, pur_lnks, lkC_len, lkC_0, lkC_1, lkC_cap, lkC_pri, lkC_take, pur_lkC, Nat.mul_one, Try.f52, ty3, ty22, ty24, ty25, ty98, h, e, hb, hw]
theorem o_rleft : O_rleft := k_rleft c_rleft
end Sim
namespace Sim
open Go Go.Proofs
set_option maxRecDepth 10000
set_option maxHeartbeats 2000000
set_option linter.unusedVariables false
set_option linter.unusedSimpArgs false
attribute [local congr] opsIf_congr condC_congr guardC_congr grd_congr pick3_congr obind_congr omap_congr
abbrev Dem := Int × Int × Int × Int × Int
abbrev demV (d : Dem) : PV := .agg [I d.1, I d.2.1, I d.2.2.1, I d.2.2.2.1, I d.2.2.2.2]
def demR (d : Dem) : Prop := 1 ≤ d.2.2.1 ∧ d.2.2.1 ≤ 1099511627776 ∧ 0 ≤ d.2.2.2.1 ∧ d.2.2.2.1 ≤ d.2.2.2.2 ∧ d.2.2.2.2 ≤ 1000000
instance {d : Dem} : Decidable (demR d) := inferInstanceAs (Decidable (_ ∧ _))
def demM (hn : Int) (d : Dem) : Bool := hOK hn d.1 && hOK hn d.2.1 && decide (demR d)
noncomputable def A_dhouse : (Int) × (List Lnk) × (Int) → List PV := fun (hn, ls, h) => [I h, .vptr [I hn, lnks ls] 0]
noncomputable def R_dhouse : (Int) × (List Lnk) × (Int) → PV := fun (hn, ls, h) => B (hOK hn h)
def H_dhouse : (Int) × (List Lnk) × (Int) → Prop := fun (hn, ls, h) => True
noncomputable def e_dhouse : Nat × Ent := (48, .v (specOf A_dhouse R_dhouse H_dhouse))
theorem j_dhouse : ∀ i j, A_dhouse i = A_dhouse j → i = j := by
 rintro ⟨hn₁, ls₁, h₁⟩ ⟨hn₂, ls₂, h₂⟩ h
 simp only [A_dhouse, List.cons.injEq, and_true, PV.lits.injEq, PV.int.injEq, PV.bool.injEq, PV.str.injEq, PV.agg.injEq, PV.func.injEq, Fn.func.injEq, PV.vptr.injEq, true_and, List.map_nil, inj_ints, inj_strs, inj_its, inj_arcs, inj_snds, inj_lnks] at h
 simp [Prod.ext_iff, h] <;> omega
theorem s_dhouse (hn : Int) (ls : List Lnk) (h : Int) : specOf A_dhouse R_dhouse H_dhouse [I h, .vptr [I hn, lnks ls] 0] = some (B (hOK hn h)) := specOf_app j_dhouse (i := (hn, ls, h)) trivial
def C_dhouse : Prop := ∀ (hn : Int) (ls : List Lnk) (h : Int) , VC Try.prog 48 [I h, .vptr [I hn, lnks ls] 0] (B (hOK hn h))
def O_dhouse : Prop := EntOK Try.prog e_dhouse.1 e_dhouse.2
theorem k_dhouse (c : C_dhouse) : O_dhouse := specOf_ok fun ⟨hn, ls, h⟩ h => c hn ls h
theorem c_dhouse : C_dhouse := by
 intro hn ls h
 refine vc_ofU mixed (l := []) (eok_nil) [] []  Try.func48 rfl (by decide +kernel) (N := 12) rfl (by simp) rfl (by kernel_rfl) fun hs => ?_
 simp only [smallL, PV.small, List.length_map, and_true, true_and] at hs
 generalize hr : hOK hn h = r
 by_cases h1 : 0 ≤ h
 ·by_cases h2 : h < hn
  ·simp only [hOK, h1, h2, and_self, decide_true] at hr
   subst hr
   simp +contextual (maxSteps := 4000000) only [↓bdD, bdP, Nat.reduceLT, Nat.reduceBEq, endQ, Nat.reduceAdd, st0, ↓reduceIte, nth_its, pur_its, nth_arcs, pur_arcs, nth_snds, pur_snds, nth_lnks, pur_lnks, lkC_len, lkC_0, lkC_1, lkC_cap, lkC_pri, lkC_take, pur_lkC, Nat.mul_one, Try.f48, ty3, ty24, h1, h2]
  ·simp only [hOK, h1, h2, and_false, decide_false] at hr
   subst hr
   simp +contextual (maxSteps := 4000000) only [↓bdD, bdP, Nat.reduceLT, Nat.reduceBEq, endQ, Nat.reduceAdd, st0, ↓reduceIte, nth_its, pur_its, nth_arcs, pur_arcs, nth_snds, pur_snds, nth_lnks, pur_lnks, lkC_len, lkC_0, lkC_1, lkC_cap, lkC_pri, lkC_take, pur_lkC, Nat.mul_one, Try.f48, ty3, ty24, h1, h2]
 ·simp only [hOK, h1, false_and, decide_false] at hr
  subst hr
  simp +contextual (maxSteps := 4000000) only [↓bdD, bdP, Nat.reduceLT, Nat.reduceBEq, endQ, st0, ↓reduceIte, nth_its, pur_its, nth_arcs, pur_arcs, nth_snds, pur_snds, nth_lnks, pur_lnks, lkC_len, lkC_0, lkC_1, lkC_cap, lkC_pri, lkC_take, pur_lkC, Nat.mul_one, Try.f48, h1]
theorem o_dhouse : O_dhouse := k_dhouse c_dhouse
noncomputable def A_demanded : (Int) × (List Lnk) × (Dem) → List PV := fun (hn, ls, d) => [.agg [I hn, lnks ls], demV d]
noncomputable def R_demanded : (Int) × (List Lnk) × (Dem) → PV := fun (hn, ls, d) => B (demM hn d)
def H_demanded : (Int) × (List Lnk) × (Dem) → Prop := fun (hn, ls, d) => True
noncomputable def e_demanded : Nat × Ent := (34, .v (specOf A_demanded R_demanded H_demanded))
theorem j_demanded : ∀ i j, A_demanded i = A_demanded j → i = j := by
 rintro ⟨hn₁, ls₁, d₁⟩ ⟨hn₂, ls₂, d₂⟩ h
 simp only [A_demanded, List.cons.injEq, and_true, PV.lits.injEq, PV.int.injEq, PV.bool.injEq, PV.str.injEq, PV.agg.injEq, PV.func.injEq, Fn.func.injEq, PV.vptr.injEq, true_and, List.map_nil, inj_ints, inj_strs, inj_its, inj_arcs, inj_snds, inj_lnks] at h
 simp [Prod.ext_iff, h] <;> omega
theorem s_demanded (hn : Int) (ls : List Lnk) (d : Dem) : specOf A_demanded R_demanded H_demanded [.agg [I hn, lnks ls], demV d] = some (B (demM hn d)) := specOf_app j_demanded (i := (hn, ls, d)) trivial
def C_demanded : Prop := ∀ (hn : Int) (ls : List Lnk) (d : Dem) , VC Try.prog 34 [.agg [I hn, lnks ls], demV d] (B (demM hn d))
def O_demanded : Prop := EntOK Try.prog e_demanded.1 e_demanded.2
theorem k_demanded (c : C_demanded) : O_demanded := specOf_ok fun ⟨hn, ls, d⟩ h => c hn ls d
theorem c_demanded : C_demanded := by
 rintro hn ls ⟨f, t, b, r, u⟩
 refine vc_ofU mixed (l := [e_dhouse]) ((eok_cons o_dhouse eok_nil)) [] []  Try.func34 rfl (by decide +kernel) (N := 44) rfl (by simp) rfl (by kernel_rfl) fun hs => ?_
 simp only [smallL, PV.small, List.length_map, and_true, true_and] at hs
 unfold demM
 cases g1 : hOK hn f
 ·simp +contextual (maxSteps := 4000000) only [↓bdD, bdP, Nat.reduceLT, Nat.reduceBEq, endQ, Nat.reduceAdd, st0, ↓reduceIte, e_dhouse, s_dhouse, nth_its, pur_its, nth_arcs, pur_arcs, nth_snds, pur_snds, nth_lnks, pur_lnks, lkC_len, lkC_0, lkC_1, lkC_cap, lkC_pri, lkC_take, pur_lkC, Nat.mul_one, Try.f34, ty3, ty27, g1, Bool.false_and]
 cases g2 : hOK hn t
 ·simp +contextual (maxSteps := 4000000) only [↓bdD, bdP, Nat.reduceLT, Nat.reduceBEq, endQ, Nat.reduceAdd, st0, ↓reduceIte, e_dhouse, s_dhouse, nth_its, pur_its, nth_arcs, pur_arcs, nth_snds, pur_snds, nth_lnks, pur_lnks, lkC_len, lkC_0, lkC_1, lkC_cap, lkC_pri, lkC_take, pur_lkC, Nat.mul_one, Try.f34, ty3, ty27, g1, g2, Bool.and_false, Bool.false_and]
 have key : ∀ q : Bool, (hOK hn f && hOK hn t && q) = q := fun q => by rw [g1, g2]; simp
 by_cases h1 : 1 ≤ b
 case neg => simp +contextual (maxSteps := 4000000) only [↓bdD, bdP, Nat.reduceLT, Nat.reduceBEq, endQ, Nat.reduceAdd, st0, ↓reduceIte, e_dhouse, s_dhouse, nth_its, pur_its, nth_arcs, pur_arcs, nth_snds, pur_snds, nth_lnks, pur_lnks, lkC_len, lkC_0, lkC_1, lkC_cap, lkC_pri, lkC_take, pur_lkC, Nat.mul_one, Try.f34, ty3, ty27, g1, g2, show demR (f, t, b, r, u) = False by simp [demR, h1], h1]
 by_cases h2 : b ≤ 1099511627776
 case neg => simp +contextual (maxSteps := 4000000) only [↓bdD, bdP, Nat.reduceLT, Nat.reduceBEq, endQ, Nat.reduceAdd, st0, ↓reduceIte, e_dhouse, s_dhouse, nth_its, pur_its, nth_arcs, pur_arcs, nth_snds, pur_snds, nth_lnks, pur_lnks, lkC_len, lkC_0, lkC_1, lkC_cap, lkC_pri, lkC_take, pur_lkC, Nat.mul_one, Try.f34, ty3, ty27, g1, g2, show demR (f, t, b, r, u) = False by simp [demR, h2], h1, h2]
 by_cases h3 : 0 ≤ r
 case neg => simp +contextual (maxSteps := 4000000) only [↓bdD, bdP, Nat.reduceLT, Nat.reduceBEq, endQ, Nat.reduceAdd, st0, ↓reduceIte, e_dhouse, s_dhouse, nth_its, pur_its, nth_arcs, pur_arcs, nth_snds, pur_snds, nth_lnks, pur_lnks, lkC_len, lkC_0, lkC_1, lkC_cap, lkC_pri, lkC_take, pur_lkC, Nat.mul_one, Try.f34, ty3, ty27, g1, g2, show demR (f, t, b, r, u) = False by simp [demR, h3], h1, h2, h3]
 by_cases h4 : r ≤ u
 case neg => simp +contextual (maxSteps := 4000000) only [↓bdD, bdP, Nat.reduceLT, Nat.reduceBEq, endQ, Nat.reduceAdd, st0, ↓reduceIte, e_dhouse, s_dhouse, nth_its, pur_its, nth_arcs, pur_arcs, nth_snds, pur_snds, nth_lnks, pur_lnks, lkC_len, lkC_0, lkC_1, lkC_cap, lkC_pri, lkC_take, pur_lkC, Nat.mul_one, Try.f34, ty3, ty27, g1, g2, show demR (f, t, b, r, u) = False by simp [demR, h4], h1, h2, h3, h4]
 by_cases h5 : u ≤ 1000000
 case neg => simp +contextual (maxSteps := 4000000) only [↓bdD, bdP, Nat.reduceLT, Nat.reduceBEq, endQ, Nat.reduceAdd, st0, ↓reduceIte, e_dhouse, s_dhouse, nth_its, pur_its, nth_arcs, pur_arcs, nth_snds, pur_snds, nth_lnks, pur_lnks, lkC_len, lkC_0, lkC_1, lkC_cap, lkC_pri, lkC_take, pur_lkC, Nat.mul_one, Try.f34, ty3, ty27, g1, g2, show demR (f, t, b, r, u) = False by simp [demR, h5], h1, h2, h3, h4, h5]
 simp +contextual (maxSteps := 4000000) only [↓bdD, bdP, Nat.reduceLT, Nat.reduceBEq, endQ, Nat.reduceAdd, st0, ↓reduceIte, e_dhouse, s_dhouse, nth_its, pur_its, nth_arcs, pur_arcs, nth_snds, pur_snds, nth_lnks, pur_lnks, lkC_len, lkC_0, lkC_1, lkC_cap, lkC_pri, lkC_take, pur_lkC, Nat.mul_one, Try.f34, ty3, ty27, g1, g2, show demR (f, t, b, r, u) = True by simp [demR, h1, h2, h3, h4, h5], h1, h2, h3, h4, h5]
theorem o_demanded : O_demanded := k_demanded c_demanded
noncomputable def A_rdemand : (Int) × (List Lnk) × (Dem) → List PV := fun (hn, ls, d) => [.agg [I hn, lnks ls], demV d]
noncomputable def R_rdemand : (Int) × (List Lnk) × (Dem) → PV := fun (hn, ls, d) => B (demM hn d)
def H_rdemand : (Int) × (List Lnk) × (Dem) → Prop := fun (hn, ls, d) => True
noncomputable def e_rdemand : Nat × Ent := (26, .v (specOf A_rdemand R_rdemand H_rdemand))
theorem j_rdemand : ∀ i j, A_rdemand i = A_rdemand j → i = j := by
 rintro ⟨hn₁, ls₁, d₁⟩ ⟨hn₂, ls₂, d₂⟩ h
 simp only [A_rdemand, List.cons.injEq, and_true, PV.lits.injEq, PV.int.injEq, PV.bool.injEq, PV.str.injEq, PV.agg.injEq, PV.func.injEq, Fn.func.injEq, PV.vptr.injEq, true_and, List.map_nil, inj_ints, inj_strs, inj_its, inj_arcs, inj_snds, inj_lnks] at h
 simp [Prod.ext_iff, h] <;> omega
theorem s_rdemand (hn : Int) (ls : List Lnk) (d : Dem) : specOf A_rdemand R_rdemand H_rdemand [.agg [I hn, lnks ls], demV d] = some (B (demM hn d)) := specOf_app j_rdemand (i := (hn, ls, d)) trivial
def C_rdemand : Prop := ∀ (hn : Int) (ls : List Lnk) (d : Dem) , VC Try.prog 26 [.agg [I hn, lnks ls], demV d] (B (demM hn d))
def O_rdemand : Prop := EntOK Try.prog e_rdemand.1 e_rdemand.2
theorem k_rdemand (c : C_rdemand) : O_rdemand := specOf_ok fun ⟨hn, ls, d⟩ h => c hn ls d
theorem c_rdemand : C_rdemand := by
 rintro hn ls ⟨f, t, b, r, u⟩
 refine vc_ofU mixed (l := [e_rhouse]) ((eok_cons o_rhouse eok_nil)) [] []  Try.func26 rfl (by decide +kernel) (N := 46) rfl (by simp) rfl (by kernel_rfl) fun hs => ?_
 simp only [smallL, PV.small, List.length_map, and_true, true_and] at hs
 unfold demM
 cases g1 : hOK hn f
 ·simp +contextual (maxSteps := 4000000) only [↓bdD, bdP, Nat.reduceLT, Nat.reduceBEq, endQ, Nat.reduceAdd, st0, ↓reduceIte, e_rhouse, s_rhouse, nth_its, pur_its, nth_arcs, pur_arcs, nth_snds, pur_snds, nth_lnks, pur_lnks, lkC_len, lkC_0, lkC_1, lkC_cap, lkC_pri, lkC_take, pur_lkC, Nat.mul_one, Try.f26, ty3, ty24, ty27, g1, Bool.false_and]
 cases g2 : hOK hn t
 ·simp +contextual (maxSteps := 4000000) only [↓bdD, bdP, Nat.reduceLT, Nat.reduceBEq, endQ, Nat.reduceAdd, st0, ↓reduceIte, e_rhouse, s_rhouse, nth_its, pur_its, nth_arcs, pur_arcs, nth_snds, pur_snds, nth_lnks, pur_lnks, lkC_len, lkC_0, lkC_1, lkC_cap, lkC_pri, lkC_take, pur_lkC, Nat.mul_one, Try.f26, ty3, ty24, ty27, g1, g2, Bool.and_false, Bool.false_and]
 by_cases h1 : 1 ≤ b
 case neg => simp +contextual (maxSteps := 4000000) only [↓bdD, bdP, Nat.reduceLT, Nat.reduceBEq, endQ, Nat.reduceAdd, st0, ↓reduceIte, e_rhouse, s_rhouse, nth_its, pur_its, nth_arcs, pur_arcs, nth_snds, pur_snds, nth_lnks, pur_lnks, lkC_len, lkC_0, lkC_1, lkC_cap, lkC_pri, lkC_take, pur_lkC, Nat.mul_one, Try.f26, ty3, ty24, ty27, g1, g2, show demR (f, t, b, r, u) = False by simp [demR, h1], h1]
 by_cases h2 : b ≤ 1099511627776
 case neg => simp +contextual (maxSteps := 4000000) only [↓bdD, bdP, Nat.reduceLT, Nat.reduceBEq, endQ, Nat.reduceAdd, st0, ↓reduceIte, e_rhouse, s_rhouse, nth_its, pur_its, nth_arcs, pur_arcs, nth_snds, pur_snds, nth_lnks, pur_lnks, lkC_len, lkC_0, lkC_1, lkC_cap, lkC_pri, lkC_take, pur_lkC, Nat.mul_one, Try.f26, ty3, ty24, ty27, g1, g2, show demR (f, t, b, r, u) = False by simp [demR, h2], h1, h2]
 by_cases h3 : 0 ≤ r
 case neg => simp +contextual (maxSteps := 4000000) only [↓bdD, bdP, Nat.reduceLT, Nat.reduceBEq, endQ, Nat.reduceAdd, st0, ↓reduceIte, e_rhouse, s_rhouse, nth_its, pur_its, nth_arcs, pur_arcs, nth_snds, pur_snds, nth_lnks, pur_lnks, lkC_len, lkC_0, lkC_1, lkC_cap, lkC_pri, lkC_take, pur_lkC, Nat.mul_one, Try.f26, ty3, ty24, ty27, g1, g2, show demR (f, t, b, r, u) = False by simp [demR, h3], h1, h2, h3]
 by_cases h4 : r ≤ u
 case neg => simp +contextual (maxSteps := 4000000) only [↓bdD, bdP, Nat.reduceLT, Nat.reduceBEq, endQ, Nat.reduceAdd, st0, ↓reduceIte, e_rhouse, s_rhouse, nth_its, pur_its, nth_arcs, pur_arcs, nth_snds, pur_snds, nth_lnks, pur_lnks, lkC_len, lkC_0, lkC_1, lkC_cap, lkC_pri, lkC_take, pur_lkC, Nat.mul_one, Try.f26, ty3, ty24, ty27, g1, g2, show demR (f, t, b, r, u) = False by simp [demR, h4], h1, h2, h3, h4]
 by_cases h5 : u ≤ 1000000
 case neg => simp +contextual (maxSteps := 4000000) only [↓bdD, bdP, Nat.reduceLT, Nat.reduceBEq, endQ, Nat.reduceAdd, st0, ↓reduceIte, e_rhouse, s_rhouse, nth_its, pur_its, nth_arcs, pur_arcs, nth_snds, pur_snds, nth_lnks, pur_lnks, lkC_len, lkC_0, lkC_1, lkC_cap, lkC_pri, lkC_take, pur_lkC, Nat.mul_one, Try.f26, ty3, ty24, ty27, g1, g2, show demR (f, t, b, r, u) = False by simp [demR, h5], h1, h2, h3, h4, h5]
 simp +contextual (maxSteps := 4000000) only [↓bdD, bdP, Nat.reduceLT, Nat.reduceBEq, endQ, Nat.reduceAdd, st0, ↓reduceIte, e_rhouse, s_rhouse, nth_its, pur_its, nth_arcs, pur_arcs, nth_snds, pur_snds, nth_lnks, pur_lnks, lkC_len, lkC_0, lkC_1, lkC_cap, lkC_pri, lkC_take, pur_lkC, Nat.mul_one, Try.f26, ty3, ty24, ty27, g1, g2, show demR (f, t, b, r, u) = True by simp [demR, h1, h2, h3, h4, h5], h1, h2, h3, h4, h5]
theorem o_rdemand : O_rdemand := k_rdemand c_rdemand
end Sim
