/- What functions of this seat compute, by values: contracts (lemmas of the statement's proof, under the conditions that each names). -/
import Derived.Test.YtbojbamchaohpaaQLM
import Derived.Test.YtbojbamchaohpaaQBD
import Derived.Test.YtbojbamchaohpaaQM
namespace Sim
open Go Go.Proofs
set_option linter.unusedVariables false
set_option linter.unusedSimpArgs false
def durM (d : Dem) : Nat := (d.2.2.2.2 - d.2.2.2.1).toNat
abbrev netD (hn : Int) (ls : List Lnk) (us : List Snd) (d : Dem) : TN := netT hn ls us d.2.2.2.1
def nodesM (hn : Int) (d : Dem) : Nat := (durM d + 1) * hn.toNat
def pairsM (hn : Int) (ls : List Lnk) (d : Dem) : Nat := durM d * (hn.toNat + ls.length)
noncomputable def planR (hn : Int) (ls : List Lnk) (us : List Snd) (d : Dem) (bytes : Int) : List Arc × Int :=
 if d.1 = d.2.1 then (gA (netD hn ls us d).p (pairsM hn ls d), bytes)
 else sendM (gA (netD hn ls us d).p (pairsM hn ls d)) (gO (netD hn ls us d).p (nodesM hn d) (pairsM hn ls d)) (List.replicate (nodesM hn d) 0) (nodesM hn d) d.1.toNat (durM d * hn.toNat + d.2.1.toNat) bytes
noncomputable def planG (hn : Int) (ls : List Lnk) (us : List Snd) (d : Dem) (bytes : Int) : Nat → Nat → Int := (netD hn ls us d).gf (flA (planR hn ls us d bytes).1)
theorem dem_ok {hn : Int} {d : Dem} (h : demM hn d = true) : (0 ≤ d.1 ∧ d.1 < hn) ∧ (0 ≤ d.2.1 ∧ d.2.1 < hn) ∧ demR d := by
 simp only [demM, Bool.and_eq_true, decide_eq_true_eq, hOK] at h
 exact ⟨h.1.1, h.1.2, h.2⟩
structure PlanOK (hn : Int) (ls : List Lnk) (us : List Snd) (d : Dem) (bytes : Int) : Prop where
 len : (planR hn ls us d bytes).1.length = 2 * pairsM hn ls d
 plan : (netD hn ls us d).Plan (durM d) d.1.toNat d.2.1.toNat (planR hn ls us d bytes).2 (planG hn ls us d bytes)
 n0 : 0 ≤ (planR hn ls us d bytes).2
 n1 : (planR hn ls us d bytes).2 ≤ bytes
 max : (planR hn ls us d bytes).2 < bytes → ∀ b g, b ≤ 1099511627776 → (netD hn ls us d).Plan (durM d) d.1.toNat d.2.1.toNat b g → b ≤ (planR hn ls us d bytes).2
 opt : ∀ (c : Int) (f : Nat → Int), 0 ≤ c → (∀ i, i < ((netD hn ls us d).G (durM d) d.1.toNat d.2.1.toNat).m → 0 ≤ f i ∧ f i ≤ c * ((netD hn ls us d).G (durM d) d.1.toNat d.2.1.toNat).cap i) → ((netD hn ls us d).G (durM d) d.1.toNat d.2.1.toNat).Val f (c * (planR hn ls us d bytes).2) →
  c * (netD hn ls us d).cst (durM d) (planG hn ls us d bytes) ≤ ((netD hn ls us d).G (durM d) d.1.toNat d.2.1.toNat).cost f
 flow : d.1 ≠ d.2.1 → ((netD hn ls us d).G (durM d) d.1.toNat d.2.1.toNat).Flow (flA (planR hn ls us d bytes).1) (planR hn ls us d bytes).2
theorem planR_ok {hn : Int} {ls : List Lnk} {us : List Snd} {d : Dem} {bytes : Int} (hf : fitM hn ls us = 0) (hd : demM hn d = true) (hb : 0 ≤ bytes) : PlanOK hn ls us d bytes := by
 obtain ⟨⟨a0, a1⟩, ⟨c0, c1⟩, hr⟩ := dem_ok hd
 have ok := netT_ok (r := d.2.2.2.1) (D := durM d) hf
 have ha : d.1.toNat < (netD hn ls us d).h := by show d.1.toNat < hn.toNat; omega
 have hc : d.2.1.toNat < (netD hn ls us d).h := by show d.2.1.toNat < hn.toNat; omega
 have hpo := TN.p_ok ok
 by_cases e : d.1 = d.2.1
 ·have hP : planR hn ls us d bytes = (gA (netD hn ls us d).p (pairsM hn ls d), bytes) := by unfold planR; rw [if_pos e]
  have hz : ∀ k t, k < (netD hn ls us d).L → t < durM d → planG hn ls us d bytes k t = 0 := fun k t hk ht => by
   unfold planG
   rw [hP]
   exact gA_L1 (TN.pair_lt ht (by show _ < (netD hn ls us d).h + (netD hn ls us d).L; omega))
  have hpl : (netD hn ls us d).Plan (durM d) d.1.toNat d.2.1.toNat bytes (fun _ _ => 0) := by
   have eo : ∀ x t, (netD hn ls us d).outF (fun _ _ => 0) x t = 0 := fun x t => sumN_zero fun k _ => by split <;> rfl
   have ei : ∀ x t, (netD hn ls us d).inF (fun _ _ => 0) x t = 0 := fun x t => sumN_zero fun k _ => by split <;> rfl
   have es : ∀ t x, (netD hn ls us d).stk d.1.toNat bytes (fun _ _ => 0) t x = if d.1.toNat = x then bytes else 0 := fun t x => by
    induction t with
    | zero => rfl
    | succ t ih => rw [TN.stk, ih, eo, ei]; omega
   refine ⟨fun _ _ _ _ => Int.le_refl _, fun k t hk ht => ok.lf k t hk ht, fun t x ht hx => ?_, fun x hx => ?_⟩
   ·rw [eo, es]; split <;> omega
   ·rw [es, e]
  refine ⟨by rw [hP]; exact gA_len, ?_, by rw [hP]; exact hb, by rw [hP]; exact Int.le_refl _, fun h => by rw [hP] at h; exact absurd h (Int.lt_irrefl _), fun c f hc0 hfl _ => ?_, fun g => absurd e g⟩
  ·rw [hP]; exact hpl.congr fun k t hk ht => (hz k t hk ht).symm
  ·rw [TN.cst_congr hz]
   have : (netD hn ls us d).cst (durM d) (fun _ _ => 0) = 0 := sumN_zero fun t _ => sumN_zero fun k _ => Int.mul_zero _
   rw [this, Int.mul_zero]
   exact sumN_nonneg fun i hi => Int.mul_nonneg (hpo i hi).2.2.2.2.1 (hfl i hi).1
 ·have hP : planR hn ls us d bytes = sendM (gA (netD hn ls us d).p (pairsM hn ls d)) (gO (netD hn ls us d).p (nodesM hn d) (pairsM hn ls d)) (List.replicate (nodesM hn d) 0) (nodesM hn d) d.1.toNat (durM d * hn.toNat + d.2.1.toNat) bytes := by unfold planR; rw [if_neg e]
  have hs : d.1.toNat < nodesM hn d := by
   have := TN.node_lt (T := netD hn ls us d) (D := durM d) (t := 0) (by omega) ha
   rw [Nat.zero_mul, Nat.zero_add] at this
   exact this
  have ht : durM d * hn.toNat + d.2.1.toNat < nodesM hn d := TN.node_lt (T := netD hn ls us d) (Nat.le_refl _) hc
  have hst : d.1.toNat ≠ durM d * hn.toNat + d.2.1.toNat := fun g => by
   have := (TN.src_eq (T := netD hn ls us d) (t := durM d) ha hc).1 g
   omega
  obtain ⟨g1, ⟨φ, g2⟩, g3, g4, g5, g6⟩ := g_send (p := (netD hn ls us d).p) (n := pairsM hn ls d) (N := nodesM hn d) hpo hs ht hst hb
  rw [← hP] at g1 g2 g3 g4 g5 g6
  have hpl := TN.flow_plan (T := netD hn ls us d) (D := durM d) ok ha hc g1
  refine ⟨g6, hpl.1, g3, g4, fun hlt b g hb2 hg => g5 hlt _ _ (TN.plan_flow ok ha hc hb2 hg).1, fun c f hc0 hfl hv => ?_, fun _ => g1⟩
  have := FN.opt (G := (netD hn ls us d).G (durM d) d.1.toNat d.2.1.toNat) (fnP_wf hpo hs ht) g1 g2 (fun i hi => (hfl i hi).1) (fun i hi => (hfl i hi).2) hv rfl hc0
  rw [hpl.2] at this
  exact this
end Sim
namespace Sim
open Go Go.Proofs
set_option maxRecDepth 10000
set_option maxHeartbeats 4000000
set_option linter.unusedVariables false
set_option linter.unusedSimpArgs false
attribute [local congr] opsIf_congr condC_congr guardC_congr grd_congr pick3_congr obind_congr omap_congr
theorem j_send (a b : GE) (st : Store) (h : A_send a = A_send b) (hx : H_send a st) (hy : H_send b st) : R_send a st = R_send b st := by
 obtain ⟨B, A, out, lv, m, s, t, x⟩ := a
 obtain ⟨B', A', out', lv', m', s', t', x'⟩ := b
 simp only [A_send, gP, List.cons.injEq, and_true, PV.ptr.injEq, PV.int.injEq, true_and] at h
 have e1 : B = B' := by omega
 have e2 : s = s' := by omega
 have e3 : t = t' := by omega
 obtain ⟨_, _, _, e4⟩ := h
 subst e1; subst e2; subst e3; subst e4
 obtain ⟨a1, a2, a3⟩ := GrAt.same hx.1 hy.1
 dsimp only at a1 a2 a3
 subst a1; subst a2; subst a3
 rfl
theorem s_send (x : GE) {st : Store} (h : H_send x st) : specX A_send H_send R_send [gP x.B, I (x.s : Nat), I (x.t : Nat), I x.b] st = some (R_send x st) := specX_app j_send (i := x) h
structure GW where
 hn : Int
 ls : List Lnk
 us : List Snd
 d : Dem
 b : Int
def A_plan (x : GW) : List PV := [netV (x.hn, x.ls), snds x.us, demV x.d, I x.b]
def H_plan (x : GW) (st : Store) : Prop := WF st ∧ (∀ i r, st.obj i ≠ some (.lp r)) ∧ fitM x.hn x.ls x.us = 0 ∧ demM x.hn x.d = true ∧ durM x.d ≤ 100 ∧ 0 ≤ x.b ∧ x.b ≤ 1099511627776
def gBx (M n N : Nat) : PV := .agg [.ref (M + 4) n 0 (2 * n), .ref M 1 0 N, .ref (M + 1) 1 0 N]
def plO (ob : Nat → Option IObj) (M n N : Nat) (A : List Arc) : Nat → Option IObj := fun i => if i = M + 2 then some (.arr 0 3 [gBx M n N]) else if i = M + 4 then some (.arr n 4 (A.map arcV)) else ob i
noncomputable def R_plan (x : GW) (st : Store) : PV × Store := (.tuple [gP st.next, I (planR x.hn x.ls x.us x.d x.b).2], ⟨plO st.obj st.next (pairsM x.hn x.ls x.d) (nodesM x.hn x.d) (planR x.hn x.ls x.us x.d x.b).1, st.next + 5⟩)
noncomputable def e_plan : Nat × Ent := (29, .x (specX A_plan H_plan R_plan))
theorem pl_left {ob O : Nat → Option IObj} {M n N n2 : Nat} {A : List Arc} {r r' : Int} (h1 : WF ⟨ob, M⟩) (g2 : O (M + 2) = some (.arr 0 3 [gBx M n N])) (g4 : O (M + 4) = some (.arr n 4 (A.map arcV))) (fr : ∀ i o, ob i = some o → O i = some o) (hr : r' = r) :
  Left0 ⟨ob, M⟩ (.tuple [gP M, I r]) ⟨plO ob M n N A, M + 5⟩ (.tuple [gP M, I r']) ⟨O, n2⟩ := by
 refine ⟨[], .inl (by rw [hr]), fun i o hi => ?_, by dsimp only; omega, .tuple _ fun c hc => ?_⟩
 ·dsimp only at hi ⊢
  unfold plO at hi
  by_cases c2 : i = M + 2
  ·rw [if_pos c2] at hi
   cases hi
   refine ⟨by omega, rfl, by rw [c2]; exact g2, .inr fun e he c hc => ?_⟩
   rw [List.mem_singleton] at he
   subst he
   simp only [gBx, PV.cells, List.mem_cons, List.not_mem_nil, or_false] at hc
   rcases hc with hc | hc | hc <;> (rw [hc]; exact .ref _ _ _ _ (by omega))
  rw [if_neg c2] at hi
  by_cases c4 : i = M + 4
  ·rw [if_pos c4] at hi
   cases hi
   exact ⟨by omega, rfl, by rw [c4]; exact g4, .inr in_arcs⟩
  rw [if_neg c4] at hi
  have := h1 i o hi
  dsimp only at this
  exact ⟨by omega, rfl, fr i o hi, .inl hi⟩
 ·simp only [List.mem_cons, List.not_mem_nil, or_false] at hc
  rcases hc with hc | hc
  ·rw [hc]; exact .ptr _ _ _ _ (by dsimp only; omega)
  ·rw [hc]; exact .int _ _
theorem mk_wf {ob : Nat → Option IObj} {M N : Nat} {A : List Arc} {out : List (List Nat)} (h1 : WF ⟨ob, M⟩) : WF ⟨mkO ob M A out N, M + 5 + N⟩ := fun i o hi => by
 dsimp only at hi ⊢
 unfold mkO at hi
 by_cases c0 : i = M
 ·omega
 rw [if_neg c0] at hi
 by_cases c1 : i = M + 1
 ·omega
 rw [if_neg c1] at hi
 by_cases c2 : i = M + 2
 ·omega
 rw [if_neg c2] at hi
 by_cases c4 : i = M + 4
 ·omega
 rw [if_neg c4] at hi
 by_cases c5 : M + 5 ≤ i ∧ i < M + 5 + N
 ·exact c5.2
 rw [if_neg c5] at hi
 have := h1 i o hi
 dsimp only at this
 omega
theorem mk_lp {ob : Nat → Option IObj} {M N : Nat} {A : List Arc} {out : List (List Nat)} (h : ∀ i r, ob i ≠ some (.lp r)) : ∀ i r, mkO ob M A out N i ≠ some (.lp r) := fun i r hi => by
 unfold mkO at hi
 repeat' (split at hi)
 all_goals first | (cases hi; done) | exact h i r hi
theorem mk_fr {ob : Nat → Option IObj} {M N : Nat} {A : List Arc} {out : List (List Nat)} (h1 : WF ⟨ob, M⟩) {i : Nat} {o : IObj} (hi : ob i = some o) : mkO ob M A out N i = some o := by
 have := h1 i o hi
 dsimp only at this
 unfold mkO
 rw [if_neg (by omega), if_neg (by omega), if_neg (by omega), if_neg (by omega), if_neg (by omega)]; exact hi
theorem o_plan : EntOK Try.prog e_plan.1 e_plan.2 := specX_ok0 fun x st hx => by
 obtain ⟨hn, ls, us, d, b⟩ := x
 obtain ⟨ob, M⟩ := st
 unfold H_plan at hx
 dsimp only at hx
 obtain ⟨h1, h2, hf, hd, hD, hb0, hb1⟩ := hx
 have hlp : ∀ i r, ob i ≠ some (.lp r) := h2
 simp only [A_plan, R_plan]
 have hP := planR_ok (bytes := b) hf hd hb0
 obtain ⟨⟨a0, a1⟩, ⟨c0, c1⟩, hr⟩ := dem_ok hd
 obtain ⟨okr, _⟩ := fit_ok hf
 have hh := okr.net.houses
 have hln := okr.net.len
 have hdu : d.2.2.2.2 = d.2.2.2.1 + (durM d : Nat) := by unfold durM; have := hr.2.2.2.1; omega
 have hnn : ((hn.toNat : Nat) : Int) = hn := by omega
 have sm := s_make ⟨hn.toNat, durM d, ls, us, d⟩ (st := ⟨ob, M⟩) ⟨h1, by dsimp only; rw [hnn]; exact okr, hr.2.2.1, hdu, hD, hr.2.2.2.2, by dsimp only; rw [hnn]; exact hf⟩
 simp only [R_make, GM.T, GM.N, GM.n, hnn] at sm
 have ok := netT_ok (r := d.2.2.2.1) (D := durM d) hf
 have hpo := TN.p_ok ok
 have hNb : nodesM hn d ≤ 1212 := Nat.le_trans (Nat.mul_le_mul (show durM d + 1 ≤ 101 by omega) (show hn.toNat ≤ 12 by omega)) (by decide)
 have hnb : pairsM hn ls d ≤ 7200 := Nat.le_trans (Nat.mul_le_mul hD (show hn.toNat + ls.length ≤ 72 by omega)) (by decide)
 have hg := mk_gr (ob := ob) (M := M) (A := gA (netD hn ls us d).p (pairsM hn ls d)) (out := gO (netD hn ls us d).p (nodesM hn d) (pairsM hn ls d)) (N := nodesM hn d) gO_len
 have g2 := hg.o2
 have hAl := gA_len (p := (netD hn ls us d).p) (n := pairsM hn ls d)
 have hOl := gO_len (p := (netD hn ls us d).p) (N := nodesM hn d) (n := pairsM hn ls d)
 have hbx : gBox M (gA (netD hn ls us d).p (pairsM hn ls d)) (gO (netD hn ls us d).p (nodesM hn d) (pairsM hn ls d)) (List.replicate (nodesM hn d) 0) = gBx M (pairsM hn ls d) (nodesM hn d) := by
  unfold gBox gBx
  rw [hAl, hOl, List.length_replicate, show 2 * pairsM hn ls d / 2 = pairsM hn ls d by omega]
 rw [hbx] at g2
 have hpre : planR hn ls us d b = if d.1 = d.2.1 then (gA (netD hn ls us d).p (pairsM hn ls d), b) else sendM (gA (netD hn ls us d).p (pairsM hn ls d)) (gO (netD hn ls us d).p (nodesM hn d) (pairsM hn ls d)) (List.replicate (nodesM hn d) 0) (nodesM hn d) d.1.toNat (durM d * hn.toNat + d.2.1.toNat) b := rfl
 have hNe : (durM d + 1) * hn.toNat = nodesM hn d := rfl
 have hne : durM d * (hn.toNat + ls.length) = pairsM hn ls d := rfl
 rw [hNe, hne] at sm
 unfold gP at sm
 by_cases e : d.1 = d.2.1
 ·rw [if_pos e] at hpre
  rw [hpre]
  dsimp only [demV] at sm
  rw [e] at sm
  refine ixc_ofD mixed (l := [e_make, e_send]) ((eok_cons o_make (eok_cons o_send eok_nil))) [] [] 0 Try.func29 rfl (by decide +kernel) (N := 39) rfl (by simp) rfl (by kernel_rfl) ?_
  simp +contextual (maxSteps := 4000000) only [↓bdD, bdP, Nat.reduceLT, Nat.reduceBEq, endQ, Nat.reduceAdd, ↓reduceIte, e_make, e_send, nth_its, pur_its, nth_arcs, pur_arcs, nth_snds, pur_snds, nth_lnks, pur_lnks, Try.f29, ty3, ty24, ty25, ty27, sm, e]
  refine pl_left h1 g2 ?_ (fun i o hi => mk_fr h1 hi) rfl
  have := hg.o4
  rw [hAl, show 2 * pairsM hn ls d / 2 = pairsM hn ls d by omega] at this
  exact this
 ·rw [if_neg e] at hpre
  have hs : d.1.toNat < nodesM hn d := by
   have := TN.node_lt (T := netD hn ls us d) (D := durM d) (t := 0) (by omega) (show d.1.toNat < hn.toNat by omega)
   rw [Nat.zero_mul, Nat.zero_add] at this
   exact this
  have ht : durM d * hn.toNat + d.2.1.toNat < nodesM hn d := TN.node_lt (T := netD hn ls us d) (Nat.le_refl _) (show d.2.1.toNat < hn.toNat by omega)
  have hst : d.1.toNat ≠ durM d * hn.toNat + d.2.1.toNat := fun g => by
   have := (TN.src_eq (T := netD hn ls us d) (t := durM d) (show d.1.toNat < hn.toNat by omega) (show d.2.1.toNat < hn.toNat by omega)).1 g
   omega
  have hsi := gA_si hpo hs ht hst
  have hme : meas (gO (netD hn ls us d).p (nodesM hn d) (pairsM hn ls d)) (ini (nodesM hn d) d.1.toNat) ≤ nodesM hn d * pairsM hn ls d + 1 := g_meas (N := nodesM hn d) (n := pairsM hn ls d) hpo
  have hmul : nodesM hn d * pairsM hn ls d ≤ 8726400 := Nat.le_trans (Nat.mul_le_mul hNb hnb) (by decide)
  have sd := s_send ⟨M, gA (netD hn ls us d).p (pairsM hn ls d), gO (netD hn ls us d).p (nodesM hn d) (pairsM hn ls d), List.replicate (nodesM hn d) 0, pairsM hn ls d, d.1.toNat, durM d * hn.toNat + d.2.1.toNat, b⟩ (st := ⟨mkO ob M (gA (netD hn ls us d).p (pairsM hn ls d)) (gO (netD hn ls us d).p (nodesM hn d) (pairsM hn ls d)) (nodesM hn d), M + 5 + nodesM hn d⟩) (by
   refine ⟨hg, ?_, ?_, mk_wf h1, mk_lp hlp, ?_, ?_, ?_, hb0, hb1, fun i => ?_⟩ <;> simp only [List.length_replicate]
   ·exact hsi
   ·exact Nat.le_refl _
   ·omega
   ·omega
   ·exact Nat.le_trans hme (by omega)
   ·show aL _ (2 * i) + aL _ (2 * i + 1) ≤ _
    by_cases c : i < pairsM hn ls d
    ·rw [gA_L c, gA_L1 c]
     obtain ⟨t, ht', ⟨x, hx, rfl⟩ | ⟨k, hk, rfl⟩⟩ := TN.house_of (T := netD hn ls us d) (D := durM d) ok.h1 c
     ·rw [TN.p_house hx]; show (1099511627776 : Int) + 0 ≤ 1099511627776; decide
     ·rw [TN.p_link hk]
      have hk' : k < ls.length := hk
      have q1 := fit_sent hf (k := (k : Int)) (t := d.2.2.2.1 + (t : Int)) ⟨by omega, by omega⟩
      have q2 := capM_le okr.net (link := (k : Int)) (tick := d.2.2.2.1 + (t : Int)) (by omega) (by omega)
      show capM ls (k : Int) (d.2.2.2.1 + (t : Int)) - sentT us (k : Int) (d.2.2.2.1 + (t : Int)) us.length + 0 ≤ _
      omega
    ·unfold aL
     rw [List.getD_eq_getElem?_getD, List.getElem?_eq_none (by omega), List.getD_eq_getElem?_getD, List.getElem?_eq_none (by omega)]; decide)
  simp only [R_send, List.length_replicate] at sd
  unfold gP at sd
  rw [← hpre] at sd
  have hlen := hP.len
  generalize planR hn ls us d b = res at *
  obtain ⟨u, hu⟩ : ∃ u : Nat, d.1 = (u : Int) := ⟨d.1.toNat, by omega⟩
  obtain ⟨v, hv⟩ : ∃ v : Nat, d.2.1 = (v : Int) := ⟨d.2.1.toNat, by omega⟩
  have wD : IntKind.i64.wrap (d.2.2.2.2 - d.2.2.2.1) = (durM d : Int) := by rw [wrap64 (by omega) (by omega)]; omega
  have hDh : durM d * hn.toNat ≤ 1200 := Nat.le_trans (Nat.mul_le_mul hD (show hn.toNat ≤ 12 by omega)) (by decide)
  have wm : IntKind.i64.wrap ((durM d : Int) * hn) = ((durM d * hn.toNat : Nat) : Int) := by
   rw [show ((durM d : Int) * hn) = ((durM d * hn.toNat : Nat) : Int) by rw [Int.natCast_mul, hnn], wrap64 (by omega) (by omega)]
  have wa : IntKind.i64.wrap (((durM d * hn.toNat : Nat) : Int) + (v : Int)) = ((durM d * hn.toNat + v : Nat) : Int) := by rw [← Int.natCast_add, wrap64 (by omega) (by omega)]
  rw [hu, hv, Int.toNat_natCast, Int.toNat_natCast] at sd
  dsimp only [demV] at sm
  rw [hu, hv] at sm
  have e' : ¬ (u : Int) = (v : Int) := by rw [← hu, ← hv]; exact e
  refine ixc_ofD mixed (l := [e_make, e_send]) ((eok_cons o_make (eok_cons o_send eok_nil))) [] [] 0 Try.func29 rfl (by decide +kernel) (N := 39) rfl (by simp) rfl (by kernel_rfl) ?_
  simp +contextual (maxSteps := 4000000) only [↓bdD, bdP, Nat.reduceLT, Nat.reduceBEq, endQ, Nat.reduceEqDiff, Nat.reduceAdd, ↓reduceIte, e_make, e_send, nth_its, pur_its, nth_arcs, pur_arcs, nth_snds, pur_snds, nth_lnks, pur_lnks, Try.f29, ty3, ty24, ty25, ty27, ty59, sm, sd, hu, hv, e', wD, wm, wa]
  refine pl_left h1 ?_ ?_ (fun i o hi => ?_) rfl
  ·simp only [updO]
   rw [if_neg (by omega), if_neg (by omega)]; exact g2
  ·simp only [updO]
   rw [if_neg (by omega), if_pos trivial, hAl, show 2 * pairsM hn ls d / 2 = pairsM hn ls d by omega]
  ·have := h1 i o hi
   dsimp only at this
   simp only [updO]
   rw [if_neg (by omega), if_neg (by omega)]; exact mk_fr h1 hi
theorem j_plan (a b : GW) (st : Store) (h : A_plan a = A_plan b) (hx : H_plan a st) (hy : H_plan b st) : R_plan a st = R_plan b st := by
 obtain ⟨h1, ls1, us1, ⟨df1, dt1, db1, dr1, dd1⟩, b1⟩ := a
 obtain ⟨h2, ls2, us2, ⟨df2, dt2, db2, dr2, dd2⟩, b2⟩ := b
 simp only [A_plan, List.cons.injEq, and_true, PV.agg.injEq, PV.int.injEq, PV.lits.injEq, inj_lnks, inj_snds, true_and] at h
 obtain ⟨⟨e1, e2⟩, e3, ⟨e4, e5, e6, e7, e8⟩, e9⟩ := h
 subst e1; subst e2; subst e3; subst e4; subst e5; subst e6; subst e7; subst e8; subst e9
 rfl
theorem s_plan (x : GW) {st : Store} (h : H_plan x st) : specX A_plan H_plan R_plan [netV (x.hn, x.ls), snds x.us, demV x.d, I x.b] st = some (R_plan x st) := specX_app j_plan (i := x) h
end Sim
