/- What functions of this seat compute, by values: contracts (lemmas of the statement's proof, under the conditions that each names). -/
import Derived.Test.YtbojbamchaohpaaQSF
import Derived.Test.YtbojbamchaohpaaQPP
import Derived.Test.YtbojbamchaohpaaQS
import Derived.Test.YtbojbamchaohpaaSimY
import Derived.Test.YtbojbamchaohpaaQBD
namespace Sim
open Go Go.Proofs
set_option linter.unusedVariables false
set_option linter.unusedSimpArgs false
def lesC (A : List Arc) (n : Nat) : Int := sumN (fun i => aP A (2 * i) * aL A (2 * i + 1)) n
structure FlowOK (hn : Int) (ls : List Lnk) (us : List Snd) (d : Dem) (b : Int) : Prop where
 len : (flowR hn ls us d b).1.length = 2 * pairsM hn ls d
 val : (flowR hn ls us d b).2 = (planR hn ls us d b).2
 cost : lesC (flowR hn ls us d b).1 (pairsM hn ls d) = (netD hn ls us d).cst (durM d) (planG hn ls us d b)
 bnd : ∀ i, i < pairsM hn ls d → (0 ≤ aP (flowR hn ls us d b).1 (2 * i) ∧ aP (flowR hn ls us d b).1 (2 * i) ≤ 1000000) ∧ (0 ≤ aL (flowR hn ls us d b).1 (2 * i + 1) ∧ aL (flowR hn ls us d b).1 (2 * i + 1) ≤ 1099511627776) ∧ 0 ≤ aP (flowR hn ls us d b).1 (2 * i) * aL (flowR hn ls us d b).1 (2 * i + 1) ∧ aP (flowR hn ls us d b).1 (2 * i) * aL (flowR hn ls us d b).1 (2 * i + 1) ≤ 1073741824000000
theorem mul_le3 {a b c e : Int} (ha : 0 ≤ a) (hac : a ≤ c) (hb : 0 ≤ b) (hbe : b ≤ e) : 0 ≤ a * b ∧ a * b ≤ c * e := ⟨Int.mul_nonneg ha hb, Int.mul_le_mul hac hbe hb (by omega)⟩
theorem flowR_ok {hn : Int} {ls : List Lnk} {us : List Snd} {d : Dem} {b : Int} (hf : fitM hn ls us = 0) (hd : demM hn d = true) (hb : 0 ≤ b) : FlowOK hn ls us d b := by
 obtain ⟨⟨a0, a1⟩, ⟨c0, c1⟩, hr⟩ := dem_ok hd
 obtain ⟨okr, _⟩ := fit_ok hf
 have hr2 := hr.2.2.1
 have hr3 := hr.2.2.2.2
 have ok := netT_ok (r := d.2.2.2.1) (D := durM d) hf
 have hpo : PrOK (netD hn ls us d).p (nodesM hn d) (pairsM hn ls d) := TN.p_ok ok
 have hpb : ∀ i, i < pairsM hn ls d → (0 ≤ ((netD hn ls us d).p i).2.2.2 ∧ ((netD hn ls us d).p i).2.2.2 ≤ 1000000) ∧ (0 ≤ ((netD hn ls us d).p i).2.2.1 ∧ ((netD hn ls us d).p i).2.2.1 ≤ 1099511627776) ∧ (((netD hn ls us d).p i).2.2.2 = 0 ∨ ((netD hn ls us d).p i).2.2.1 ≤ 1073741824) := fun i hi => by
  obtain ⟨t, ht', ⟨x, hx, rfl⟩ | ⟨k, hk, rfl⟩⟩ := TN.house_of (T := netD hn ls us d) (D := durM d) ok.h1 hi
  ·rw [TN.p_house hx]
   exact ⟨⟨by show (0 : Int) ≤ 0; omega, by show (0 : Int) ≤ _; omega⟩, ⟨by show (0 : Int) ≤ 1099511627776; omega, by show (1099511627776 : Int) ≤ _; omega⟩, .inl rfl⟩
  ·rw [TN.p_link hk]
   have hk' : k < ls.length := hk
   have q1 := fit_sent hf (k := (k : Int)) (t := d.2.2.2.1 + (t : Int)) ⟨by omega, by omega⟩
   have q2 := capM_le okr.net (link := (k : Int)) (tick := d.2.2.2.1 + (t : Int)) (by omega) (by omega)
   have q3 := priM_le okr.net (link := (k : Int)) (tick := d.2.2.2.1 + (t : Int)) (by omega) (by omega)
   refine ⟨q3, ?_, .inr ?_⟩
   ·show 0 ≤ capM ls (k : Int) (d.2.2.2.1 + (t : Int)) - sentT us (k : Int) (d.2.2.2.1 + (t : Int)) us.length ∧ capM ls (k : Int) (d.2.2.2.1 + (t : Int)) - sentT us (k : Int) (d.2.2.2.1 + (t : Int)) us.length ≤ _
    omega
   ·show capM ls (k : Int) (d.2.2.2.1 + (t : Int)) - sentT us (k : Int) (d.2.2.2.1 + (t : Int)) us.length ≤ _
    omega
 have fin : ∀ (P L c : Int), 0 ≤ P → P ≤ 1000000 → 0 ≤ L → L ≤ c → c ≤ 1099511627776 → (P = 0 ∨ c ≤ 1073741824) → (0 ≤ P ∧ P ≤ 1000000) ∧ (0 ≤ L ∧ L ≤ 1099511627776) ∧ 0 ≤ P * L ∧ P * L ≤ 1073741824000000 := fun P L c h1 h2 h3 h4 h5 h6 => by
  refine ⟨⟨h1, h2⟩, ⟨h3, by omega⟩, Int.mul_nonneg h1 h3, ?_⟩
  rcases h6 with h6 | h6
  ·rw [h6, Int.zero_mul]; decide
  ·exact (mul_le3 (c := 1000000) (e := 1073741824) h1 h2 h3 (by omega)).2
 by_cases e : d.1 = d.2.1
 ·have hF : flowR hn ls us d b = (gA (netD hn ls us d).p (pairsM hn ls d), b) := by unfold flowR; rw [if_pos e]
  have hP : planR hn ls us d b = (gA (netD hn ls us d).p (pairsM hn ls d), b) := by unfold planR; rw [if_pos e]
  have hz : ∀ k t, k < (netD hn ls us d).L → t < durM d → planG hn ls us d b k t = 0 := fun k t hk ht => by
   unfold planG
   rw [hP]
   exact gA_L1 (TN.pair_lt ht (by show _ < (netD hn ls us d).h + (netD hn ls us d).L; omega))
  refine ⟨by rw [hF]; exact gA_len, by rw [hF, hP], ?_, fun i hi => ?_⟩
  ·rw [TN.cst_congr hz, hF]
   have : (netD hn ls us d).cst (durM d) (fun _ _ => 0) = 0 := sumN_zero fun t _ => sumN_zero fun k _ => Int.mul_zero _
   rw [this]
   exact sumN_zero fun i hi => by
    show aP (gA (netD hn ls us d).p (pairsM hn ls d)) (2 * i) * aL (gA (netD hn ls us d).p (pairsM hn ls d)) (2 * i + 1) = 0
    rw [gA_L1 hi, Int.mul_zero]
  ·rw [hF]
   dsimp only
   rw [gA_L1 hi, gA_P hi]
   obtain ⟨q1, q2, q3⟩ := hpb i hi
   exact fin _ _ _ q1.1 q1.2 (Int.le_refl _) q2.1 q2.2 q3
 ·have hs : d.1.toNat < nodesM hn d := by
   have := TN.node_lt (T := netD hn ls us d) (D := durM d) (t := 0) (by omega) (show d.1.toNat < hn.toNat by omega)
   rw [Nat.zero_mul, Nat.zero_add] at this
   exact this
  have ht : durM d * hn.toNat + d.2.1.toNat < nodesM hn d := TN.node_lt (T := netD hn ls us d) (Nat.le_refl _) (show d.2.1.toNat < hn.toNat by omega)
  have hst : d.1.toNat ≠ durM d * hn.toNat + d.2.1.toNat := fun g => by
   have := (TN.src_eq (T := netD hn ls us d) (t := durM d) (show d.1.toNat < hn.toNat by omega) (show d.2.1.toNat < hn.toNat by omega)).1 g
   omega
  have S := gA_si hpo hs ht hst
  have hF : flowR hn ls us d b = specM (gA (netD hn ls us d).p (pairsM hn ls d)) (nodesM hn d) d.1.toNat (durM d * hn.toNat + d.2.1.toNat) b := by unfold flowR; rw [if_neg e]
  have hP : planR hn ls us d b = sendM (gA (netD hn ls us d).p (pairsM hn ls d)) (gO (netD hn ls us d).p (nodesM hn d) (pairsM hn ls d)) (List.replicate (nodesM hn d) 0) (nodesM hn d) d.1.toNat (durM d * hn.toNat + d.2.1.toNat) b := by unfold planR; rw [if_neg e]
  obtain ⟨u1, u2⟩ := both (bytes := b) S hb
  obtain ⟨b0, b1, b2, _, _, b5, b6⟩ := spec_best (specM_R (bytes := b) S.sb) S.sb hb
  have hfl := (planR_ok (bytes := b) hf hd hb).flow e
  have hcs := (TN.flow_plan (T := netD hn ls us d) (D := durM d) ok (show d.1.toNat < hn.toNat by omega) (show d.2.1.toNat < hn.toNat by omega) hfl).2
  rw [← hF] at u1 u2 b2 b5 b6
  rw [← hP] at u1 u2
  have hpr : ∀ i, aP (flowR hn ls us d b).1 (2 * i) = aP (gA (netD hn ls us d).p (pairsM hn ls d)) (2 * i) := fun i => congrFun (congrArg FN.pr b6) i
  refine ⟨b5.len, u1.symm, ?_, fun i hi => ?_⟩
  ·have e1 : lesC (flowR hn ls us d b).1 (pairsM hn ls d) = (fnA (gA (netD hn ls us d).p (pairsM hn ls d)) (nodesM hn d) d.1.toNat (durM d * hn.toNat + d.2.1.toNat)).cost (flA (flowR hn ls us d b).1) := by
    have hm : (fnA (gA (netD hn ls us d).p (pairsM hn ls d)) (nodesM hn d) d.1.toNat (durM d * hn.toNat + d.2.1.toNat)).m = pairsM hn ls d := by
     show (gA (netD hn ls us d).p (pairsM hn ls d)).length / 2 = _
     rw [gA_len]; omega
    unfold FN.cost lesC
    rw [hm]
    exact sumN_congr fun i hi => by
     rw [hpr i]; rfl
   rw [e1, ← u2, fnA_cost]
   exact hcs
  ·have hm : i < (fnA (gA (netD hn ls us d).p (pairsM hn ls d)) (nodesM hn d) d.1.toNat (durM d * hn.toNat + d.2.1.toNat)).m := by
    show i < (gA (netD hn ls us d).p (pairsM hn ls d)).length / 2
    rw [gA_len]; omega
   have n0 : 0 ≤ aL (flowR hn ls us d b).1 (2 * i + 1) := b2.nn i hm
   have n1 : aL (flowR hn ls us d b).1 (2 * i + 1) ≤ aL (gA (netD hn ls us d).p (pairsM hn ls d)) (2 * i) + aL (gA (netD hn ls us d).p (pairsM hn ls d)) (2 * i + 1) := b2.le i hm
   rw [gA_L hi, gA_L1 hi, Int.add_zero] at n1
   rw [hpr i, gA_P hi]
   obtain ⟨q1, q2, q3⟩ := hpb i hi
   exact fin _ _ _ q1.1 q1.2 n0 n1 q2.2 q3
theorem lesC_bnd {A : List Arc} {n : Nat} (h : ∀ i, i < n → 0 ≤ aP A (2 * i) * aL A (2 * i + 1) ∧ aP A (2 * i) * aL A (2 * i + 1) ≤ 1073741824000000) : ∀ k, k ≤ n → 0 ≤ lesC A k ∧ lesC A k ≤ 1073741824000000 * (k : Int)
 | 0, _ => ⟨Int.le_refl _, Int.le_refl _⟩
 | k + 1, hk => by
  have ih := lesC_bnd h k (by omega)
  have hk := h k (by omega)
  have e : lesC A (k + 1) = lesC A k + aP A (2 * k) * aL A (2 * k + 1) := rfl
  rw [e]
  omega
noncomputable def lesN (hn : Int) (ls : List Lnk) (us : List Snd) (d : Dem) : Int := if chpE hn ls us d = 0 then lesC (flowR hn ls us d d.2.2.1).1 (pairsM hn ls d) else 0
theorem les_cost {hn : Int} {ls : List Lnk} {us : List Snd} {d : Dem} (h : chpE hn ls us d = 0) : lesN hn ls us d = costM hn ls (chpL hn ls us d) := by
 obtain ⟨hc, _, o⟩ := cheap_ok h
 obtain ⟨hf, hd, _⟩ := fck_ok hc
 obtain ⟨_, _, hr⟩ := dem_ok hd
 have := hr.1
 unfold lesN
 rw [if_pos h, (flowR_ok (b := d.2.2.1) hf hd (by omega)).cost, o.cost]
theorem flow_okE {hn : Int} {ls : List Lnk} {us : List Snd} {d : Dem} (hf : fitM hn ls us = 0) (hd : demM hn d = true) {due : Int} (h0 : d.2.2.2.1 ≤ due) (h1 : due ≤ 1000000) : okE hn ls us d due = true ↔ (flowR hn ls us (dW d due) d.2.2.1).2 = d.2.2.1 := by
 obtain ⟨_, _, hr⟩ := dem_ok hd
 have hb := hr.1
 have hw := dW_ok hd h0 h1
 have v := (flowR_ok (b := d.2.2.1) hf hw (by omega)).val
 have n1 := (planR_ok (bytes := d.2.2.1) hf hw (by omega)).n1
 unfold okE
 rw [v, decide_eq_true_eq]
 omega
end Sim
namespace Sim
open Go Go.Proofs
set_option maxRecDepth 100000
set_option linter.unusedVariables false
set_option linter.unusedSimpArgs false
def decI : List PV → Option (List Int)
 | [] => some []
 | .int .i64 a :: l => (decI l).map fun rs => a :: rs
 | _ => none
theorem decI_ok : ∀ {l : List PV} {rs : List Int}, decI l = some rs → l = rs.map (PV.int .i64)
 | [], rs, h => by simp only [decI, Option.some.injEq] at h; subst h; rfl
 | p :: l, rs, h => by
  unfold decI at h
  split at h
  ·rename_i e; cases e
  ·rename_i a l' e
   cases e
   simp only [Option.map_eq_some_iff] at h
   obtain ⟨rs', h1, rfl⟩ := h
   rw [decI_ok h1]; rfl
  ·cases h
def lkI (a : Lnk) : List Int := a.1 :: a.2.1 :: (List.ofFn a.2.2.1 ++ List.ofFn a.2.2.2)
def mkL (xs : List Int) : Lnk := (xs.getD 0 0, xs.getD 1 0, fun i => xs.getD (2 + i.1) 0, fun i => xs.getD (26 + i.1) 0)
theorem lkI_C (a : Lnk) : lkC a = (lkI a).map (PV.int .i64) := by simp [lkC, lkI]
def decL : List PV → Option (List Lnk)
 | [] => some []
 | .agg cs :: l => (decI cs).bind fun xs => if lkI (mkL xs) = xs then (decL l).map fun rs => mkL xs :: rs else none
 | _ => none
theorem decL_ok : ∀ {l : List PV} {rs : List Lnk}, decL l = some rs → l = rs.map lnkV
 | [], rs, h => by simp only [decL, Option.some.injEq] at h; subst h; rfl
 | p :: l, rs, h => by
  unfold decL at h
  split at h
  ·rename_i e; cases e
  ·rename_i cs l' e
   cases e
   simp only [Option.bind_eq_some_iff] at h
   obtain ⟨xs, h1, h⟩ := h
   split at h
   ·rename_i hx
    simp only [Option.map_eq_some_iff] at h
    obtain ⟨rs', h2, rfl⟩ := h
    rw [decL_ok h2, decI_ok h1, List.map_cons, lnkV, lkI_C, hx]
   ·cases h
  ·cases h
def decS : List PV → Option (List Snd)
 | [] => some []
 | .agg [.int .i64 a, .int .i64 b, .int .i64 c] :: l => (decS l).map fun rs => (a, b, c) :: rs
 | _ => none
theorem decS_ok : ∀ {l : List PV} {rs : List Snd}, decS l = some rs → l = rs.map sndV
 | [], rs, h => by simp only [decS, Option.some.injEq] at h; subst h; rfl
 | p :: l, rs, h => by
  unfold decS at h
  split at h
  ·rename_i e; cases e
  ·rename_i a b c l' e
   cases e
   simp only [Option.map_eq_some_iff] at h
   obtain ⟨rs', h1, rfl⟩ := h
   rw [decS_ok h1]; rfl
  ·cases h
def sendC (out : List (List Nat)) (N s t : Nat) (bytes : Int) : Nat → List Arc → List Int → Int → Option (List Arc × Int)
 | 0, _, _, _ => none
 | f + 1, A, lv, sent => if sent < bytes then (if (finD A out lv N s).done.getD t true = true then sendC out N s t bytes f (aug A (pushM A (bytes - sent) (pathM A out lv N s t)) (pathM A out lv N s t)) (lvM A out lv N s) (sent + pushM A (bytes - sent) (pathM A out lv N s t)) else some (A, sent)) else some (A, sent)
theorem sendC_R {out : List (List Nat)} {N s t : Nat} {bytes : Int} : ∀ {f : Nat} {A : List Arc} {lv : List Int} {sent : Int} {A' : List Arc} {r : Int}, sendC out N s t bytes f A lv sent = some (A', r) → SendR out N s t bytes A lv sent A' r
 | 0, _, _, _, _, _, h => by cases h
 | f + 1, A, lv, sent, A', r, h => by
  rw [sendC] at h
  by_cases c : sent < bytes
  ·rw [if_pos c] at h
   by_cases c2 : (finD A out lv N s).done.getD t true = true
   ·rw [if_pos c2] at h
    exact .step _ _ _ _ _ c c2 (sendC_R h)
   ·rw [if_neg c2] at h
    cases h
    exact .stop _ _ _ c (by simpa using c2)
  ·rw [if_neg c] at h
   cases h
   exact .full _ _ _ c
def planC (hn : Int) (ls : List Lnk) (us : List Snd) (d : Dem) (bytes : Int) : Option (List Arc × Int) :=
 if d.1 = d.2.1 then some (gA (netD hn ls us d).p (pairsM hn ls d), bytes)
 else sendC (gO (netD hn ls us d).p (nodesM hn d) (pairsM hn ls d)) (nodesM hn d) d.1.toNat (durM d * hn.toNat + d.2.1.toNat) bytes 50 (gA (netD hn ls us d).p (pairsM hn ls d)) (List.replicate (nodesM hn d) 0) 0
theorem planC_ok {hn : Int} {ls : List Lnk} {us : List Snd} {d : Dem} {bytes : Int} {x : List Arc × Int} (h : planC hn ls us d bytes = some x) : planR hn ls us d bytes = x := by
 unfold planC at h
 unfold planR
 by_cases c : d.1 = d.2.1
 ·rw [if_pos c] at h ⊢
  exact Option.some.inj h
 ·rw [if_neg c] at h ⊢
  obtain ⟨A', r⟩ := x
  exact sendM_of (sendC_R h)
def mostC (hn : Int) (ls : List Lnk) (us : List Snd) (d : Dem) : Option Int := if fckM hn ls us d = 0 then (planC hn ls us d 1099511627776).map (·.2) else some 0
theorem mostC_ok {hn : Int} {ls : List Lnk} {us : List Snd} {d : Dem} {r : Int} (h : mostC hn ls us d = some r) : mostM hn ls us d = r := by
 unfold mostC at h
 unfold mostM
 split at h
 ·rename_i c
  rw [if_pos c]
  simp only [Option.map_eq_some_iff] at h
  obtain ⟨x, h1, rfl⟩ := h
  rw [planC_ok h1]
 ·rename_i c
  rw [if_neg c]; exact Option.some.inj h
def chpC (hn : Int) (ls : List Lnk) (us : List Snd) (d : Dem) : Option (List Snd × Int) :=
 if fckM hn ls us d ≠ 0 then some ([], fckM hn ls us d) else (planC hn ls us d d.2.2.1).map fun q => if q.2 < d.2.2.1 then ([], 21) else (outP q.1 hn.toNat (hn.toNat + ls.length) d.2.2.2.1 (pairsM hn ls d), 0)
theorem chpC_ok {hn : Int} {ls : List Lnk} {us : List Snd} {d : Dem} {x : List Snd × Int} (h : chpC hn ls us d = some x) : chpL hn ls us d = x.1 ∧ chpE hn ls us d = x.2 := by
 unfold chpC at h
 unfold chpL chpE
 split at h
 ·rename_i c
  cases h
  rw [if_pos c, if_neg c]; exact ⟨rfl, rfl⟩
 ·rename_i c
  simp only [Option.map_eq_some_iff] at h
  obtain ⟨q, h1, rfl⟩ := h
  rw [if_neg c, planC_ok h1]
  by_cases c2 : q.2 < d.2.2.1
  ·rw [if_pos c2, if_pos c2]; exact ⟨rfl, rfl⟩
  ·rw [if_neg c2, if_neg c2]; exact ⟨rfl, rfl⟩
def fstC (f : Nat → Option Bool) : Nat → Option Nat
 | 0 => some 0
 | n + 1 => (fstC f n).bind fun i => if i < n then some i else (f n).map fun b => if b = true then n else n + 1
theorem fstC_ok {f : Nat → Option Bool} {g : Nat → Bool} (h : ∀ k b, f k = some b → g k = b) : ∀ {n i}, fstC f n = some i → fstM g n = i
 | 0, i, e => Option.some.inj e
 | n + 1, i, e => by
  simp only [fstC, Option.bind_eq_some_iff] at e
  obtain ⟨j, e1, e2⟩ := e
  have ih := fstC_ok h e1
  rw [fstM, ih]
  by_cases c : j < n
  ·rw [if_pos c] at e2 ⊢
   exact Option.some.inj e2
  ·rw [if_neg c] at e2 ⊢
   simp only [Option.map_eq_some_iff] at e2
   obtain ⟨b, e3, rfl⟩ := e2
   rw [h _ _ e3]
def earC (hn : Int) (ls : List Lnk) (us : List Snd) (d : Dem) : Option (Int × Int) :=
 if fckM hn ls us d ≠ 0 then some (0, fckM hn ls us d) else (fstC (fun k => (planC hn ls us (dW d (d.2.2.2.1 + (k : Int))) d.2.2.1).map fun q => decide (¬ q.2 < d.2.2.1)) (durM d + 1)).map fun i => if i < durM d + 1 then (d.2.2.2.1 + (i : Int), 0) else (0, 21)
theorem earC_ok {hn : Int} {ls : List Lnk} {us : List Snd} {d : Dem} {x : Int × Int} (h : earC hn ls us d = some x) : earN hn ls us d = x.1 ∧ earE hn ls us d = x.2 := by
 unfold earC at h
 unfold earN earE
 split at h
 ·rename_i c
  cases h
  rw [if_pos c, if_neg c]; exact ⟨rfl, rfl⟩
 ·rename_i c
  simp only [Option.map_eq_some_iff] at h
  obtain ⟨i, h1, rfl⟩ := h
  have : fstE hn ls us d = i := fstC_ok (fun k b e => by
   simp only [Option.map_eq_some_iff] at e
   obtain ⟨q, e1, rfl⟩ := e
   unfold okE
   rw [planC_ok e1]) h1
  rw [if_neg c, this]
  by_cases c2 : i < durM d + 1
  ·rw [if_pos c2, if_pos c2]; exact ⟨rfl, rfl⟩
  ·rw [if_neg c2, if_neg c2]; exact ⟨rfl, rfl⟩
def ext (f : FuncId) (args : List PV) : Option PV :=
 match args with
 | [.agg [.int .i64 hn, .lits 50 n], .lits 3 l] => (decL n).bind fun ls => (decS l).bind fun l => if f = 17 then some (.tuple [I (costM hn ls l), I (rightM hn ls l)]) else none
 | [.agg [.int .i64 hn, .lits 50 n], .lits 3 l, .agg [.int .i64 p, .int .i64 q, .int .i64 r, .int .i64 s, .int .i64 t]] => (decL n).bind fun ls => (decS l).bind fun l =>
  if f = 18 then some (I (servesM hn ls l (p, q, r, s, t)))
  else if f = 10 then some (I (fckM hn ls l (p, q, r, s, t)))
  else if f = 11 then (mostC hn ls l (p, q, r, s, t)).map fun x => .tuple [I x, I (fckM hn ls l (p, q, r, s, t))]
  else if f = 13 then (chpC hn ls l (p, q, r, s, t)).map fun x => .tuple [snds x.1, I x.2]
  else if f = 12 then (earC hn ls l (p, q, r, s, t)).map fun x => .tuple [I x.1, I x.2] else none
 | _ => none
theorem ext_ok : ∀ f args r, ext f args = some r → VC Try.prog f args r := by
 intro f args r h
 unfold ext at h
 split at h
 ·simp only [Option.bind_eq_some_iff] at h
  obtain ⟨ls, h1, l, h2, h⟩ := h
  rw [decL_ok h1, decS_ok h2]
  split at h
  ·rename_i e; subst e; cases h; exact c_cost _ ls l
  ·cases h
 ·simp only [Option.bind_eq_some_iff] at h
  obtain ⟨ls, h1, l, h2, h⟩ := h
  rw [decL_ok h1, decS_ok h2]
  split at h
  ·rename_i e; subst e; cases h; exact c_serves _ ls l (_, _, _, _, _)
  split at h
  ·rename_i e; subst e; cases h; exact c_fcheck _ ls l (_, _, _, _, _)
  split at h
  ·rename_i e; subst e
   simp only [Option.map_eq_some_iff] at h
   obtain ⟨x, h3, rfl⟩ := h
   rw [← mostC_ok h3]; exact c_most _ ls l (_, _, _, _, _)
  split at h
  ·rename_i e; subst e
   simp only [Option.map_eq_some_iff] at h
   obtain ⟨x, h3, rfl⟩ := h
   rw [← (chpC_ok h3).1, ← (chpC_ok h3).2]; exact c_cheap _ ls l (_, _, _, _, _)
  split at h
  ·rename_i e; subst e
   simp only [Option.map_eq_some_iff] at h
   obtain ⟨x, h3, rfl⟩ := h
   rw [← (earC_ok h3).1, ← (earC_ok h3).2]; exact c_earl _ ls l (_, _, _, _, _)
  ·cases h
 ·cases h
def cf (f : FuncId) : List Nat × List Nat := ([], [])
end Sim
namespace Sim
open Go Go.Proofs
set_option maxRecDepth 100000
set_option maxHeartbeats 4000000
set_option linter.unusedVariables false
set_option linter.unusedSimpArgs false
attribute [local congr] opsIf_congr condC_congr guardC_congr grd_congr pick3_congr obind_congr omap_congr
def reM (o : Option IObj) (st : Store) (k z : Nat) (l : List PV) (n : Nat) : Option (PV × Store) :=
 match o with
 | some (.arr g _ _) => some (.ref (k - 1) (g + 1) 0 n, st.set (k - 1) (.arr (g + 1) z l))
 | _ => none
def rePM (o : Option IObj) (st : Store) (k z : Nat) (e : PV) : Option (PV × Store) :=
 match o with
 | some (.arr g _ _) => some (.ptr (k - 1) (g + 1) 0 0, st.set (k - 1) (.arr (g + 1) z [e]))
 | _ => none
theorem re_arr' {st : Store} {k z n : Nat} {l : List PV} : st.re k z l n = reM (st.obj (k - 1)) st k z l n := nrfl rfl
theorem reP_arr' {st : Store} {k z : Nat} {e : PV} : st.reP k z e = rePM (st.obj (k - 1)) st k z e := nrfl rfl
theorem reM_arr {st : Store} {k z n g z0 : Nat} {l es : List PV} : reM (some (.arr g z0 es)) st k z l n = some (.ref (k - 1) (g + 1) 0 n, st.set (k - 1) (.arr (g + 1) z l)) := nrfl rfl
theorem rePM_arr {st : Store} {k z g z0 : Nat} {e : PV} {es : List PV} : rePM (some (.arr g z0 es)) st k z e = some (.ptr (k - 1) (g + 1) 0 0, st.set (k - 1) (.arr (g + 1) z [e])) := nrfl rfl
def exL : List Lnk := [(0, 1, fun _ => 100, fun _ => 2), (1, 2, fun _ => 100, fun _ => 2), (0, 2, fun _ => 10, fun _ => 1)]
abbrev exD (b due : Int) : Dem := (0, 2, b, 5, due)
abbrev exU : List Snd := [(0, 5, 100)]
theorem t_ex : evX Try.prog 83 400 cf ext 8 23 [] = some (netV (3, exL)) := by kernel_rfl
noncomputable def A_exa : Unit → List PV := fun _ => []
noncomputable def R_exa : Unit → PV := fun _ => .agg [I 3, lnks exL]
def H_exa : Unit → Prop := fun _ => True
noncomputable def e_exa : Nat × Ent := (23, .v (specOf A_exa R_exa H_exa))
theorem j_exa : ∀ i j, A_exa i = A_exa j → i = j := by
 rintro _ _ h
 rfl
theorem s_exa  : specOf A_exa R_exa H_exa [] = some (.agg [I 3, lnks exL]) := specOf_app j_exa (i := ()) trivial
def C_exa : Prop := VC Try.prog 23 [] (.agg [I 3, lnks exL])
def O_exa : Prop := EntOK Try.prog e_exa.1 e_exa.2
theorem k_exa (c : C_exa) : O_exa := specOf_ok fun _ h => c
theorem o_exa : O_exa := k_exa (evX_sound mixed ext_ok _ _ _ _ t_ex)
theorem v_most1 : mostM 3 exL [] (exD 120 8) = 230 := mostC_ok (by kernel_rfl)
theorem v_most2 : mostM 3 exL exU (exD 120 8) = 130 := mostC_ok (by kernel_rfl)
theorem v_ear1 : earN 3 exL [] (exD 120 8) = 7 ∧ earE 3 exL [] (exD 120 8) = 0 := earC_ok (x := (7, 0)) (by kernel_rfl)
theorem v_ear2 : earN 3 exL exU (exD 120 8) = 8 ∧ earE 3 exL exU (exD 120 8) = 0 := earC_ok (x := (8, 0)) (by kernel_rfl)
theorem v_fck1 : fckM 3 exL [] (exD 120 8) = 0 := by kernel_rfl
theorem v_fck2 : fckM 3 exL exU (exD 120 8) = 0 := by kernel_rfl
theorem v_fck3 : fckM 3 exL [] (exD 120 38) = 2 := by kernel_rfl
theorem v_late : (chpC 3 exL [] (exD 231 8)).map (·.2) = some 21 := by kernel_rfl
theorem v_lateE : chpE 3 exL [] (exD 231 8) = 21 := by
 have h := v_late
 simp only [Option.map_eq_some_iff] at h
 obtain ⟨x, h1, h2⟩ := h
 rw [(chpC_ok h1).2, h2]
def cosC (us : List Snd) (d : Dem) : Option Int := (chpC 3 exL us d).bind fun x => if x.2 = 0 then some (costM 3 exL x.1) else none
theorem cosC_ok {us : List Snd} {d : Dem} {r : Int} (h : cosC us d = some r) : cosM 3 exL us d = r := by
 simp only [cosC, Option.bind_eq_some_iff] at h
 obtain ⟨x, h1, h2⟩ := h
 obtain ⟨e1, e2⟩ := chpC_ok h1
 split at h2
 ·rename_i c
  unfold cosM
  rw [e2, if_pos c, e1]
  exact Option.some.inj h2
 ·cases h2
theorem v_cos1 : cosM 3 exL [] (exD 120 8) = 390 := cosC_ok (by kernel_rfl)
theorem v_cos2 : cosM 3 exL exU (exD 120 8) = 390 := cosC_ok (by kernel_rfl)
theorem v_cos3 : cosM 3 exL [] (exD 230 8) = 830 := cosC_ok (by kernel_rfl)
noncomputable def A_sanity : Unit → List PV := fun _ => []
noncomputable def R_sanity : Unit → PV := fun _ => B true
def H_sanity : Unit → Prop := fun _ => True
noncomputable def e_sanity : Nat × Ent := (8, .v (specOf A_sanity R_sanity H_sanity))
theorem j_sanity : ∀ i j, A_sanity i = A_sanity j → i = j := by
 rintro _ _ h
 rfl
theorem s_sanity  : specOf A_sanity R_sanity H_sanity [] = some (B true) := specOf_app j_sanity (i := ()) trivial
def C_sanity : Prop := VC Try.prog 8 [] (B true)
def O_sanity : Prop := EntOK Try.prog e_sanity.1 e_sanity.2
theorem k_sanity (c : C_sanity) : O_sanity := specOf_ok fun _ h => c
theorem c_sanity : C_sanity := by
 refine vc_ofR mixed (l := [e_exa, e_most, e_earl, e_cheap, e_cost2, e_fcheck]) ((eok_cons o_exa (eok_cons o_most (eok_cons o_earl (eok_cons o_cheap (eok_cons o_cost2 (eok_cons o_fcheck eok_nil))))))) [] [100012, 200013, 300014, 600048, 600049, 600050, 300048, 300049, 300050, 900012, 900013, 900014] 3 Try.func8 rfl (by decide +kernel) (N := 126) rfl (by simp) rfl (by kernel_rfl) fun hs => ?_
 simp only [smallL, PV.small, List.length_map, and_true, true_and] at hs
 have h1 := s_most (hn := 3) (ls := exL) (us := []) (d := exD 120 8)
 have h2 := s_earl (hn := 3) (ls := exL) (us := []) (d := exD 120 8)
 have h3 := s_most (hn := 3) (ls := exL) (us := exU) (d := exD 120 8)
 have h4 := s_earl (hn := 3) (ls := exL) (us := exU) (d := exD 120 8)
 have h5 := s_cheap (hn := 3) (ls := exL) (us := []) (d := exD 231 8)
 have h6 := s_cost2 (hn := 3) (ls := exL) (us := []) (d := exD 120 8)
 have h7 := s_cost2 (hn := 3) (ls := exL) (us := exU) (d := exD 120 8)
 have h8 := s_cost2 (hn := 3) (ls := exL) (us := []) (d := exD 230 8)
 have h9 := s_fcheck (hn := 3) (ls := exL) (us := []) (d := exD 120 38)
 have h0 := s_fcheck (hn := 3) (ls := exL) (us := []) (d := exD 120 8)
 rw [v_most1, v_fck1] at h1
 rw [v_ear1.1, v_ear1.2] at h2
 rw [v_most2, v_fck2] at h3
 rw [v_ear2.1, v_ear2.2] at h4
 rw [v_lateE] at h5
 rw [v_cos1] at h6
 rw [v_cos2] at h7
 rw [v_cos3] at h8
 rw [v_fck3] at h9
 rw [v_fck1] at h0
 generalize chpL 3 exL [] (exD 231 8) = cl at *
 dsimp only [lnks, snds, demV, exD, exU, sndV] at h1 h2 h3 h4 h5 h6 h7 h8 h9 h0
 simp only [List.map_cons, List.map_nil] at h1 h2 h3 h4 h6 h7 h8 h9 h0
 rw [List.map_nil] at h5
 have n1 : 1 - 1 = 0 := rfl
 have n2 : 2 - 1 = 1 := rfl
 have n3 : 3 - 1 = 2 := rfl
 simp +contextual (maxSteps := 4000000) only [↓bdD, bdP, Nat.reduceLT, Nat.reduceBEq, endQ, Nat.reduceEqDiff, Nat.reduceAdd, Nat.reduceMul, Nat.reduceLeDiff, Store.new, Store.set, ↓reduceIte, e_exa, s_exa, e_most, e_earl, e_cheap, e_cost2, e_fcheck, nth_its, pur_its, nth_arcs, pur_arcs, nth_snds, pur_snds, nth_lnks, pur_lnks, lkC_len, lkC_0, lkC_1, lkC_cap, lkC_pri, lkC_take, pur_lkC, Nat.mul_one, Try.f8, ty3, ty24, ty25, ty27, ty56, h1, h2, h3, h4, h5, h6, h7, h8, h9, h0, n1, n2, n3, re_arr', reP_arr', reM_arr, rePM_arr, iop_alloc_re]
theorem o_sanity : O_sanity := k_sanity c_sanity
end Sim
