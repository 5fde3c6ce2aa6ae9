/- What functions of this seat compute, by values: contracts (lemmas of the statement's proof, under the conditions that each names). -/
import Derived.Test.YtbojbamchaohpaaQP
import Derived.Test.YtbojbamchaohpaaQR
import Derived.Test.YtbojbamchaohpaaQBD
import Derived.Test.YtbojbamchaohpaaQS
namespace Sim
open Go Go.Proofs
set_option linter.unusedVariables false
set_option linter.unusedSimpArgs false
theorem sumT_N {ls : List Lnk} {l : List Snd} {t f : Int} : ∀ n, sumT ls l t f n = sumN (fun i => if (l.getD i dS).2.1 = t ∧ (linkM ls (l.getD i dS)).1 = f then (l.getD i dS).2.2 else 0) n
 | 0 => rfl
 | n + 1 => by rw [sumT, sumN, sumT_N n]; rfl
theorem haveT_N {ls : List Lnk} {l : List Snd} {a t : Int} : ∀ n, haveT ls l a t n = sumN (fun i => haveS ls (l.getD i dS) a t) n
 | 0 => rfl
 | n + 1 => by rw [haveT, sumN, haveT_N n]
theorem sentT_N {l : List Snd} {a t : Int} : ∀ n, sentT l a t n = sumN (fun i => if (l.getD i dS).1 = a ∧ (l.getD i dS).2.1 = t then (l.getD i dS).2.2 else 0) n
 | 0 => rfl
 | n + 1 => by rw [sentT, sumN, sentT_N n]
theorem costT_N {ls : List Lnk} {l : List Snd} : ∀ n, costT ls l n = sumN (fun i => (l.getD i dS).2.2 * priM ls (l.getD i dS).1 (l.getD i dS).2.1) n
 | 0 => rfl
 | n + 1 => by rw [costT, sumN, costT_N n]
theorem sum_sent {l : List Snd} {τ : Int} {L : Nat} (P : Nat → Prop) [DecidablePred P] : ∀ {n}, (∀ i, i < n → 0 ≤ (l.getD i dS).1 ∧ (l.getD i dS).1 < (L : Int)) →
  sumN (fun k => if P k then sentT l (k : Int) τ n else 0) L = sumN (fun i => if (l.getD i dS).2.1 = τ ∧ P (l.getD i dS).1.toNat then (l.getD i dS).2.2 else 0) n
 | 0, _ => by
  rw [sumN]
  exact sumN_zero fun k _ => by split <;> rfl
 | n + 1, h => by
  have ih := sum_sent (τ := τ) P (n := n) fun i hi => h i (by omega)
  have hn := h n (by omega)
  rw [sumN, ← ih]
  have e : (fun k : Nat => if P k then sentT l (k : Int) τ (n + 1) else 0) = fun k => (if P k then sentT l (k : Int) τ n else 0) + (if (l.getD n dS).1.toNat = k then (if (l.getD n dS).2.1 = τ ∧ P (l.getD n dS).1.toNat then (l.getD n dS).2.2 else 0) else 0) := by
   funext k
   rw [sentT]
   by_cases c : (l.getD n dS).1.toNat = k
   ·rw [if_pos c]
    have c2 : (l.getD n dS).1 = (k : Int) := by omega
    rw [c]
    by_cases p : P k
    ·rw [if_pos p, if_pos p]
     by_cases q : (l.getD n dS).2.1 = τ
     ·rw [if_pos ⟨c2, q⟩, if_pos ⟨q, p⟩]
     ·rw [if_neg (fun g => q g.2), if_neg (fun g => q g.1)]
    ·rw [if_neg p, if_neg p, if_neg (fun g => p g.2)]; rfl
   ·have c2 : ¬ ((l.getD n dS).1 = (k : Int) ∧ (l.getD n dS).2.1 = τ) := fun g => c (by rw [g.1]; exact Int.toNat_natCast k)
    rw [if_neg c, if_neg c2, Int.add_zero, Int.add_zero]
  rw [e, sumN_add, sumN_one, if_pos (by omega)]
def gS (l : List Snd) (r : Int) (k t : Nat) : Int := sentT l (k : Int) (r + (t : Int)) l.length
theorem link_fr {ls : List Lnk} {l : List Snd} {i x : Nat} (h : 0 ≤ (linkM ls (l.getD i dS)).1) : ((ls.getD (l.getD i dS).1.toNat dL).1.toNat = x) = ((linkM ls (l.getD i dS)).1 = (x : Int)) := by
 unfold linkM at h ⊢
 exact propext ⟨fun g => by omega, fun g => by omega⟩
theorem link_to {ls : List Lnk} {l : List Snd} {i x : Nat} (h : 0 ≤ (linkM ls (l.getD i dS)).2.1) : ((ls.getD (l.getD i dS).1.toNat dL).2.1.toNat = x) = ((linkM ls (l.getD i dS)).2.1 = (x : Int)) := by
 unfold linkM at h ⊢
 exact propext ⟨fun g => by omega, fun g => by omega⟩
section
variable {hn : Int} {ls : List Lnk} {l us : List Snd} {d : Dem} {r : Int}
theorem out_S (ok : OKr hn ls l) (x t : Nat) : (netT hn ls us r).outF (gS l r) x t = sumT ls l (r + (t : Int)) (x : Int) l.length := by
 have := sum_sent (l := l) (τ := r + (t : Int)) (L := ls.length) (fun k => (ls.getD k dL).1.toNat = x) (n := l.length) ok.link
 rw [sumT_N]
 refine Eq.trans (Eq.trans ?_ this) (sumN_congr fun i hi => ?_)
 ·rfl
 ·simp only [link_fr (ends ok hi).1.1]
theorem in_S (ok : OKr hn ls l) (x t : Nat) : (netT hn ls us r).inF (gS l r) x t = sumN (fun i => if (l.getD i dS).2.1 = r + (t : Int) ∧ (linkM ls (l.getD i dS)).2.1 = (x : Int) then (l.getD i dS).2.2 else 0) l.length := by
 have := sum_sent (l := l) (τ := r + (t : Int)) (L := ls.length) (fun k => (ls.getD k dL).2.1.toNat = x) (n := l.length) ok.link
 refine Eq.trans (Eq.trans ?_ this) (sumN_congr fun i hi => ?_)
 ·rfl
 ·simp only [link_to (ends ok hi).2.1.1]
theorem stk_have (ok : OKr hn ls l) (hd : 0 ≤ d.1) (h0 : ∀ i, i < l.length → d.2.2.2.1 ≤ (l.getD i dS).2.1) (x : Nat) : ∀ t : Nat, (netT hn ls us d.2.2.2.1).stk d.1.toNat d.2.2.1 (gS l d.2.2.2.1) t x = haveM ls l d (x : Int) (d.2.2.2.1 + (t : Int))
 | 0 => by
  unfold haveM have0
  rw [haveT_N, sumN_zero (fun i hi => by unfold haveS; rw [if_neg (by have := h0 i hi; omega)]), TN.stk]
  by_cases c : d.1.toNat = x
  ·rw [if_pos c, if_pos ⟨by omega, by omega⟩]; omega
  ·rw [if_neg c, if_neg (fun g => c (by omega))]; rfl
 | t + 1 => by
  rw [TN.stk, stk_have ok hd h0 x t, out_S ok, in_S ok, sumT_N]
  unfold haveM
  have e0 : have0 d (x : Int) (d.2.2.2.1 + ((t + 1 : Nat) : Int)) = have0 d (x : Int) (d.2.2.2.1 + (t : Int)) := by
   unfold have0
   by_cases c : (x : Int) = d.1
   ·rw [if_pos ⟨c, by omega⟩, if_pos ⟨c, by omega⟩]
   ·rw [if_neg (fun g => c g.1), if_neg (fun g => c g.1)]
  rw [e0, haveT_N, haveT_N]
  have e1 : sumN (fun i => haveS ls (l.getD i dS) (x : Int) (d.2.2.2.1 + ((t + 1 : Nat) : Int))) l.length = sumN (fun i => (haveS ls (l.getD i dS) (x : Int) (d.2.2.2.1 + (t : Int)) - (if (l.getD i dS).2.1 = d.2.2.2.1 + (t : Int) ∧ (linkM ls (l.getD i dS)).1 = (x : Int) then (l.getD i dS).2.2 else 0)) + (if (l.getD i dS).2.1 = d.2.2.2.1 + (t : Int) ∧ (linkM ls (l.getD i dS)).2.1 = (x : Int) then (l.getD i dS).2.2 else 0)) l.length := by
   refine sumN_congr fun i _ => ?_
   unfold haveS
   by_cases c : (l.getD i dS).2.1 = d.2.2.2.1 + (t : Int)
   ·have q1 : d.2.2.2.1 + (t : Int) < d.2.2.2.1 + ((t + 1 : Nat) : Int) := by omega
    simp only [c, true_and, q1, if_true, Int.lt_irrefl, if_false]
    omega
   ·simp only [c, false_and, if_false]
    by_cases c2 : (l.getD i dS).2.1 < d.2.2.2.1 + (t : Int)
    ·have q1 : (l.getD i dS).2.1 < d.2.2.2.1 + ((t + 1 : Nat) : Int) := by omega
     simp only [q1, c2, if_true]; omega
    ·have q1 : ¬ (l.getD i dS).2.1 < d.2.2.2.1 + ((t + 1 : Nat) : Int) := by omega
     simp only [q1, c2, if_false]; omega
  rw [e1, sumN_add, sumN_sub]
  omega
theorem sent_nn (ok : OKr hn ls l) (k t : Int) : 0 ≤ sentT l k t l.length := by
 rw [sentT_N]
 exact sumN_nonneg fun i hi => by
  split
  ·have := ok.bytes i hi; omega
  ·exact Int.le_refl _
end
end Sim
namespace Sim
open Go Go.Proofs
set_option linter.unusedVariables false
set_option linter.unusedSimpArgs false
theorem app_lt {l : List Snd} {x : Snd} {i : Nat} (h : i < l.length) : (l ++ [x]).getD i dS = l.getD i dS := by
 rw [List.getD_eq_getElem?_getD, List.getElem?_append_left h, List.getD_eq_getElem?_getD]
theorem app_at {l : List Snd} {x : Snd} : (l ++ [x]).getD l.length dS = x := by
 rw [List.getD_eq_getElem?_getD, List.getElem?_append_right (Nat.le_refl _), Nat.sub_self]; rfl
theorem sumN_app {φ : Snd → Int} {l : List Snd} {x : Snd} : sumN (fun i => φ ((l ++ [x]).getD i dS)) (l ++ [x]).length = sumN (fun i => φ (l.getD i dS)) l.length + φ x := by
 rw [List.length_append, List.length_singleton, sumN, app_at]
 congr 1
 exact sumN_congr fun i hi => by rw [app_lt hi]
section
variable {A : List Arc} {h W : Nat} {r : Int}
def outC (A : List Arc) (h W i : Nat) : Prop := h ≤ i % W ∧ 0 < flA A i
instance {A : List Arc} {h W i : Nat} : Decidable (outC A h W i) := inferInstanceAs (Decidable (_ ∧ _))
def outX (A : List Arc) (h W : Nat) (r : Int) (i : Nat) : Snd := (((i % W - h : Nat) : Int), r + ((i / W : Nat) : Int), flA A i)
theorem outP_succ {n : Nat} : outP A h W r (n + 1) = outP A h W r n ++ if outC A h W n then [outX A h W r n] else [] := rfl
theorem sum_outP (φ : Snd → Int) : ∀ n, sumN (fun i => φ ((outP A h W r n).getD i dS)) (outP A h W r n).length = sumN (fun i => if outC A h W i then φ (outX A h W r i) else 0) n
 | 0 => rfl
 | n + 1 => by
  rw [outP_succ, sumN]
  by_cases c : outC A h W n
  ·rw [if_pos c, if_pos c, sumN_app, sum_outP φ n]
  ·rw [if_neg c, if_neg c, List.append_nil, sum_outP φ n, Int.add_zero]
theorem outP_at : ∀ {n i : Nat}, i < (outP A h W r n).length → ∃ j, j < n ∧ outC A h W j ∧ (outP A h W r n).getD i dS = outX A h W r j
 | 0, i, hi => absurd hi (by simp [outP])
 | n + 1, i, hi => by
  rw [outP_succ] at hi ⊢
  by_cases c : outC A h W n
  ·rw [if_pos c] at hi ⊢
   rw [List.length_append, List.length_singleton] at hi
   by_cases e : i = (outP A h W r n).length
   ·subst e
    exact ⟨n, by omega, c, app_at⟩
   ·obtain ⟨j, h1, h2, h3⟩ := outP_at (n := n) (i := i) (by omega)
    exact ⟨j, by omega, h2, by rw [app_lt (by omega)]; exact h3⟩
  ·rw [if_neg c, List.append_nil] at hi ⊢
   obtain ⟨j, h1, h2, h3⟩ := outP_at hi
   exact ⟨j, by omega, h2, h3⟩
theorem outP_asc : ∀ {n k : Nat}, 0 < k → k < (outP A h W r n).length → ((outP A h W r n).getD (k - 1) dS).2.1 < ((outP A h W r n).getD k dS).2.1 ∨ (((outP A h W r n).getD (k - 1) dS).2.1 = ((outP A h W r n).getD k dS).2.1 ∧ ((outP A h W r n).getD (k - 1) dS).1 < ((outP A h W r n).getD k dS).1)
 | 0, k, _, hk => absurd hk (by simp [outP])
 | n + 1, k, h0, hk => by
  rw [outP_succ] at hk ⊢
  by_cases c : outC A h W n
  ·rw [if_pos c] at hk ⊢
   rw [List.length_append, List.length_singleton] at hk
   by_cases e : k = (outP A h W r n).length
   ·rw [app_lt (show k - 1 < _ by omega), e, app_at]
    obtain ⟨j, h1, h2, h3⟩ := outP_at (A := A) (h := h) (W := W) (r := r) (n := n) (i := k - 1) (by omega)
    rw [← e, h3]
    have c1 := c.1
    have c2 := h2.1
    have d1 := Nat.div_add_mod j W
    have d2 := Nat.div_add_mod n W
    have d3 : j / W ≤ n / W := Nat.div_le_div_right (by omega)
    unfold outX
    dsimp only
    by_cases e2 : j / W = n / W
    ·rw [e2] at d1
     right
     rw [e2]
     exact ⟨rfl, by omega⟩
    ·left; omega
   ·rw [app_lt (show k - 1 < _ by omega), app_lt (show k < _ by omega)]
    exact outP_asc h0 (by omega)
  ·rw [if_neg c, List.append_nil] at hk ⊢
   exact outP_asc h0 hk
end
section
variable {T : TN} {D : Nat} {A : List Arc} {r : Int}
theorem outC_link {t k : Nat} (hk : k < T.L) : outC A T.h T.W (t * T.W + (T.h + k)) = (0 < T.gf (flA A) k t) := by
 have hW : T.h + k < T.W := by show _ < T.h + T.L; omega
 unfold outC
 rw [(TN.row hW).2]
 exact propext ⟨fun g => g.2, fun g => ⟨by omega, g⟩⟩
theorem outC_house {t x : Nat} (hx : x < T.h) : ¬ outC A T.h T.W (t * T.W + x) := by
 have hW : x < T.W := by show _ < T.h + T.L; omega
 unfold outC
 rw [(TN.row hW).2]
 exact fun g => by omega
theorem outX_link {t k : Nat} (hk : k < T.L) : outX A T.h T.W r (t * T.W + (T.h + k)) = ((k : Int), r + (t : Int), T.gf (flA A) k t) := by
 have hW : T.h + k < T.W := by show _ < T.h + T.L; omega
 unfold outX
 rw [(TN.row hW).2, (TN.row hW).1, show T.h + k - T.h = k by omega]; rfl
theorem sum_out2 (φ : Snd → Int) : sumN (fun i => φ ((outP A T.h T.W r (D * T.W)).getD i dS)) (outP A T.h T.W r (D * T.W)).length = sumN (fun t => sumN (fun k => if 0 < T.gf (flA A) k t then φ ((k : Int), r + (t : Int), T.gf (flA A) k t) else 0) T.L) D := by
 rw [sum_outP, sumN_rows]
 refine sumN_congr fun t _ => ?_
 have e0 : T.W = T.h + T.L := rfl
 conv => lhs; rw [e0, sumN_append, ← e0]
 rw [sumN_zero (fun x hx => if_neg (outC_house hx)), Int.zero_add]
 refine sumN_congr fun k hk => ?_
 rw [outX_link hk]
 simp only [outC_link hk]
theorem out_at (h1 : 0 < T.h) {i : Nat} (hi : i < (outP A T.h T.W r (D * T.W)).length) : ∃ t k, t < D ∧ k < T.L ∧ 0 < T.gf (flA A) k t ∧ (outP A T.h T.W r (D * T.W)).getD i dS = ((k : Int), r + (t : Int), T.gf (flA A) k t) := by
 obtain ⟨j, a1, a2, a3⟩ := outP_at hi
 obtain ⟨t, ht, ⟨x, hx, rfl⟩ | ⟨k, hk, rfl⟩⟩ := TN.house_of (T := T) (D := D) h1 a1
 ·exact absurd a2 (outC_house hx)
 ·rw [outC_link hk] at a2
  rw [outX_link hk] at a3
  exact ⟨t, k, ht, hk, a2, a3⟩
end
theorem fit_iff {hn : Int} {ls : List Lnk} {l : List Snd} (ok : OKr hn ls l) (h : ∀ i, i < l.length → (l.getD i dS).2.2 ≤ capM ls (l.getD i dS).1 (l.getD i dS).2.1) : fitM hn ls l = 0 := by
 unfold fitM
 rw [if_neg (fun g => g (right_zero.2 ok))]
 have key : ∀ k, k ≤ l.length → ftT ls l k = false := by
  intro k
  induction k with
  | zero => intro _; rfl
  | succ k ih =>
   intro hk
   rw [ftT, ih (by omega), Bool.false_or, decide_eq_false_iff_not]
   have := h k (by omega)
   omega
 rw [if_neg (by rw [key _ (Nat.le_refl _)]; simp)]
structure OutOK (hn : Int) (ls : List Lnk) (us : List Snd) (d : Dem) (l : List Snd) (g : Nat → Nat → Int) : Prop where
 serves : servesM hn ls l d = 0
 besides : ∀ i, i < l.length → (l.getD i dS).2.2 ≤ capM ls (l.getD i dS).1 (l.getD i dS).2.1 - sentT us (l.getD i dS).1 (l.getD i dS).2.1 us.length
 cost : costM hn ls l = (netD hn ls us d).cst (durM d) g
 sent : ∀ k t, k < ls.length → t < durM d → gS l d.2.2.2.1 k t = g k t
 ticks : ∀ i, i < l.length → d.2.2.2.1 ≤ (l.getD i dS).2.1 ∧ (l.getD i dS).2.1 < d.2.2.2.2
theorem out_ok {hn : Int} {ls : List Lnk} {us : List Snd} {d : Dem} {A : List Arc} (hu : fitM hn ls us = 0) (hd : demM hn d = true) (hD : durM d ≤ 32)
  (P : (netD hn ls us d).Plan (durM d) d.1.toNat d.2.1.toNat d.2.2.1 ((netD hn ls us d).gf (flA A))) :
  OutOK hn ls us d (outP A hn.toNat (hn.toNat + ls.length) d.2.2.2.1 (pairsM hn ls d)) ((netD hn ls us d).gf (flA A)) := by
 obtain ⟨oku, _⟩ := fit_ok hu
 have hh := oku.net.houses
 obtain ⟨⟨a0, a1⟩, ⟨c0, c1⟩, hr⟩ := dem_ok hd
 have hr2 := hr.2.2.1
 have hr3 := hr.2.2.2.2
 have hr4 := hr.2.2.2.1
 have hdu : d.2.2.2.2 = d.2.2.2.1 + (durM d : Nat) := by unfold durM; omega
 have okT := netT_ok (r := d.2.2.2.1) (D := durM d) hu
 have hl : outP A hn.toNat (hn.toNat + ls.length) d.2.2.2.1 (pairsM hn ls d) = outP A (netD hn ls us d).h (netD hn ls us d).W d.2.2.2.1 (durM d * (netD hn ls us d).W) := rfl
 have hat := fun i (hi : i < (outP A (netD hn ls us d).h (netD hn ls us d).W d.2.2.2.1 (durM d * (netD hn ls us d).W)).length) => out_at (T := netD hn ls us d) okT.h1 hi
 have hsum := fun φ => sum_out2 (T := netD hn ls us d) (D := durM d) (A := A) (r := d.2.2.2.1) φ
 have hasc := fun k h0 hk => outP_asc (A := A) (h := (netD hn ls us d).h) (W := (netD hn ls us d).W) (r := d.2.2.2.1) (n := durM d * (netD hn ls us d).W) (k := k) h0 hk
 rw [hl]
 clear hl
 generalize outP A (netD hn ls us d).h (netD hn ls us d).W d.2.2.2.1 (durM d * (netD hn ls us d).W) = l at *
 generalize hg : (netD hn ls us d).gf (flA A) = g at *
 have hL : (netD hn ls us d).L = ls.length := rfl
 rw [hL] at hsum
 have hlf : ∀ k t, k < ls.length → t < durM d → g k t ≤ capM ls (k : Int) (d.2.2.2.1 + (t : Int)) - sentT us (k : Int) (d.2.2.2.1 + (t : Int)) us.length := fun k t hk ht => P.le k t hk ht
 have hlen : l.length ≤ 2000 := by
  have h1 := hsum fun _ => 1
  have h2 : sumN (fun _ => (1 : Int)) l.length = l.length := by
   generalize l.length = n
   induction n with
   | zero => rfl
   | succ n ih => rw [sumN, ih]; omega
  rw [h2] at h1
  have h3 : ∀ n : Nat, ∀ f : Nat → Int, ∀ b : Int, (∀ i, i < n → f i ≤ b) → sumN f n ≤ (n : Int) * b := by
   intro n f b hf
   induction n with
   | zero => rw [sumN]; simp
   | succ n ih =>
    have := ih fun i hi => hf i (by omega)
    have := hf n (by omega)
    rw [sumN, Int.natCast_add, Int.add_mul]; omega
  have h4 := h3 (durM d) (fun t => sumN (fun k => if 0 < g k t then 1 else 0) ls.length) 60 (fun t _ => by
   have := h3 ls.length (fun k => if 0 < g k t then 1 else 0) 1 (fun k _ => by split <;> decide)
   have hlen := oku.net.len
   omega)
  omega
 have ok : OKr hn ls l := by
  refine ⟨oku.net, hlen, fun i hi => ?_, fun i hi => ?_, fun i hi => ?_, fun k h0 hk => hasc k h0 hk⟩
  ·obtain ⟨t, k, ht, hk, hp, e⟩ := hat i hi
   rw [e]
   have hk' : k < ls.length := hk
   dsimp only; omega
  ·obtain ⟨t, k, ht, hk, hp, e⟩ := hat i hi
   rw [e]
   dsimp only; omega
  ·obtain ⟨t, k, ht, hk, hp, e⟩ := hat i hi
   rw [e]
   have hk' : k < ls.length := hk
   have h1 := hlf k t hk ht
   have h2 := capM_le oku.net (link := (k : Int)) (tick := d.2.2.2.1 + (t : Int)) (by omega) (by omega)
   have h3 := sent_nn oku (k : Int) (d.2.2.2.1 + (t : Int))
   dsimp only; omega
 have hse : ∀ k t, k < ls.length → t < durM d → gS l d.2.2.2.1 k t = g k t := fun k t hk ht => by
  unfold gS
  rw [sentT_N, hsum fun s => if s.1 = (k : Int) ∧ s.2.1 = d.2.2.2.1 + (t : Int) then s.2.2 else 0]
  rw [sumN_congr (g := fun t' => if t' = t then g k t' else 0) (fun t' ht' => by
   rw [sumN_congr (g := fun k' => if k' = k then (if t' = t then g k' t' else 0) else 0) (fun k' hk' => by
    have nn := P.nn k' t' hk' ht'
    dsimp only
    by_cases e1 : k' = k
    ·by_cases e2 : t' = t
     ·subst e1; subst e2
      by_cases c : 0 < g k' t'
      ·simp [c]
      ·simp [c]; omega
     ·have : ¬ (d.2.2.2.1 + (t' : Int) = d.2.2.2.1 + (t : Int)) := by omega
      simp [e2, this]
    ·have : ¬ ((k' : Int) = (k : Int)) := by omega
     simp [e1, this]), sumN_pick, if_pos hk]), sumN_pick, if_pos ht]
 have h0 : ∀ i, i < l.length → d.2.2.2.1 ≤ (l.getD i dS).2.1 ∧ (l.getD i dS).2.1 < d.2.2.2.2 := fun i hi => by
  obtain ⟨t, k, ht, hk, hp, e⟩ := hat i hi
  rw [e]
  dsimp only; omega
 have hS := stk_have (us := us) (d := d) ok a0 (fun i hi => (h0 i hi).1)
 have hS2 : ∀ x t : Nat, t ≤ durM d → haveM ls l d (x : Int) (d.2.2.2.1 + (t : Int)) = (netD hn ls us d).stk d.1.toNat d.2.2.1 g t x := fun x t ht => by
  rw [← hS x t]
  exact TN.stk_congr fun k t' hk ht' => hse k t' hk (by omega)
 refine ⟨serves_iff.2 ⟨ok, ⟨a0, a1⟩, ⟨c0, c1⟩, hr, fit_iff ok fun i hi => ?_, fun i hi => ?_, ?_⟩, fun i hi => ?_, ?_, hse, h0⟩
 ·obtain ⟨t, k, ht, hk, hp, e⟩ := hat i hi
  rw [e]
  have h1 := hlf k t hk ht
  have h3 := sent_nn oku (k : Int) (d.2.2.2.1 + (t : Int))
  dsimp only; omega
 ·obtain ⟨t, k, ht, hk, hp, e⟩ := hat i hi
  obtain ⟨⟨f0, f1⟩, _⟩ := ends ok hi
  have hfr : frM ls l i = (((linkM ls (l.getD i dS)).1.toNat : Nat) : Int) := by unfold frM; omega
  have hx : (linkM ls (l.getD i dS)).1.toNat < (netD hn ls us d).h := by show _ < hn.toNat; omega
  rw [hfr]
  generalize (linkM ls (l.getD i dS)).1.toNat = x at *
  rw [e]
  dsimp only
  rw [hS2 x t (by omega), ← out_S (us := us) (r := d.2.2.2.1) ok x t, TN.outF_congr (T := netD hn ls us d) (g' := g) fun k hk => hse k t hk ht]
  exact P.st t x ht hx
 ·have := P.en d.2.1.toNat (show d.2.1.toNat < hn.toNat by omega)
  rw [if_pos rfl, ← hS2 _ _ (Nat.le_refl _), ← hdu, Int.toNat_of_nonneg c0] at this
  omega
 ·obtain ⟨t, k, ht, hk, hp, e⟩ := hat i hi
  rw [e]
  exact hlf k t hk ht
 ·unfold costM
  rw [if_neg (fun g => g (right_zero.2 ok)), costT_N, hsum fun s => s.2.2 * priM ls s.1 s.2.1]
  refine sumN_congr fun t ht => sumN_congr fun k hk => ?_
  have nn := P.nn k t hk ht
  dsimp only
  by_cases c : 0 < g k t
  ·rw [if_pos c, Int.mul_comm]; rfl
  ·have : g k t = 0 := by omega
   rw [if_neg c, this, Int.mul_zero]
end Sim
namespace Sim
open Go Go.Proofs
set_option maxRecDepth 10000
set_option maxHeartbeats 4000000
set_option linter.unusedVariables false
set_option linter.unusedSimpArgs false
attribute [local congr] opsIf_congr condC_congr guardC_congr grd_congr pick3_congr obind_congr omap_congr
theorem cheap_ok {hn : Int} {ls : List Lnk} {us : List Snd} {d : Dem} (h : chpE hn ls us d = 0) : fckM hn ls us d = 0 ∧ (planR hn ls us d d.2.2.1).2 = d.2.2.1 ∧ OutOK hn ls us d (chpL hn ls us d) (planG hn ls us d d.2.2.1) := by
 unfold chpE at h
 split at h
 ·contradiction
 ·rename_i c
  split at h
  ·cases h
  ·rename_i c2
   have c : fckM hn ls us d = 0 := Classical.not_not.1 c
   obtain ⟨hf, hd, hD, _⟩ := fck_ok c
   obtain ⟨_, _, hr⟩ := dem_ok hd
   have P := planR_ok (bytes := d.2.2.1) hf hd (by have := hr.1; omega)
   have e : (planR hn ls us d d.2.2.1).2 = d.2.2.1 := by have := P.n1; omega
   have p := P.plan
   rw [e] at p
   refine ⟨c, e, ?_⟩
   have hl : chpL hn ls us d = outP (planR hn ls us d d.2.2.1).1 hn.toNat (hn.toNat + ls.length) d.2.2.2.1 (pairsM hn ls d) := by
    have hE : chpE hn ls us d = 0 := by unfold chpE; rw [if_neg (fun g => g c), if_neg c2]
    unfold chpL
    rw [if_pos hE]
   rw [hl]
   exact out_ok hf hd hD p
noncomputable def cosM (hn : Int) (ls : List Lnk) (us : List Snd) (d : Dem) : Int := if chpE hn ls us d = 0 then costM hn ls (chpL hn ls us d) else -1
noncomputable def A_cost2 : (Int) × (List Lnk) × (List Snd) × (Dem) → List PV := fun (hn, ls, us, d) => [.agg [I hn, lnks ls], snds us, demV d]
noncomputable def R_cost2 : (Int) × (List Lnk) × (List Snd) × (Dem) → PV := fun (hn, ls, us, d) => I (cosM hn ls us d)
def H_cost2 : (Int) × (List Lnk) × (List Snd) × (Dem) → Prop := fun (hn, ls, us, d) => True
noncomputable def e_cost2 : Nat × Ent := (19, .v (specOf A_cost2 R_cost2 H_cost2))
theorem j_cost2 : ∀ i j, A_cost2 i = A_cost2 j → i = j := by
 rintro ⟨hn₁, ls₁, us₁, d₁⟩ ⟨hn₂, ls₂, us₂, d₂⟩ h
 simp only [A_cost2, List.cons.injEq, and_true, PV.lits.injEq, PV.int.injEq, PV.bool.injEq, PV.str.injEq, PV.agg.injEq, PV.func.injEq, Fn.func.injEq, PV.vptr.injEq, true_and, List.map_nil, inj_ints, inj_strs, inj_its, inj_arcs, inj_snds, inj_lnks] at h
 simp [Prod.ext_iff, h] <;> omega
theorem s_cost2 (hn : Int) (ls : List Lnk) (us : List Snd) (d : Dem) : specOf A_cost2 R_cost2 H_cost2 [.agg [I hn, lnks ls], snds us, demV d] = some (I (cosM hn ls us d)) := specOf_app j_cost2 (i := (hn, ls, us, d)) trivial
def C_cost2 : Prop := ∀ (hn : Int) (ls : List Lnk) (us : List Snd) (d : Dem) , VC Try.prog 19 [.agg [I hn, lnks ls], snds us, demV d] (I (cosM hn ls us d))
def O_cost2 : Prop := EntOK Try.prog e_cost2.1 e_cost2.2
theorem k_cost2 (c : C_cost2) : O_cost2 := specOf_ok fun ⟨hn, ls, us, d⟩ h => c hn ls us d
theorem c_cost2 : C_cost2 := by
 intro hn ls us d
 refine vc_ofU mixed (l := [e_cheap, e_cost, e_serves]) ((eok_cons o_cheap (eok_cons o_cost (eok_cons o_serves eok_nil)))) [] []  Try.func19 rfl (by decide +kernel) (N := 38) rfl (by simp) rfl (by kernel_rfl) fun hs => ?_
 simp only [smallL, PV.small, List.length_map, and_true, true_and] at hs
 unfold cosM
 by_cases h : chpE hn ls us d = 0
 ·obtain ⟨_, _, ho⟩ := cheap_ok h
  have hs := ho.serves
  have hr := right_zero.2 (serves_iff.1 hs).ok
  rw [if_pos h]
  generalize hl : chpL hn ls us d = l at *
  generalize hc : costM hn ls l = c at *
  simp +contextual (maxSteps := 4000000) only [↓bdD, bdP, Nat.reduceLT, Nat.reduceBEq, endQ, Nat.reduceEqDiff, Nat.reduceAdd, st0, ↓reduceIte, e_cheap, s_cheap, e_cost, s_cost, e_serves, s_serves, nth_its, pur_its, nth_arcs, pur_arcs, nth_snds, pur_snds, nth_lnks, pur_lnks, lkC_len, lkC_0, lkC_1, lkC_cap, lkC_pri, lkC_take, pur_lkC, Nat.mul_one, Try.f19, ty24, ty25, ty27, h, hs, hr, hc, hl]
 ·rw [if_neg h]
  generalize chpL hn ls us d = l at *
  simp +contextual (maxSteps := 4000000) only [↓bdD, bdP, Nat.reduceLT, Nat.reduceBEq, endQ, Nat.reduceEqDiff, Nat.reduceAdd, st0, ↓reduceIte, e_cheap, s_cheap, e_cost, s_cost, e_serves, nth_its, pur_its, nth_arcs, pur_arcs, nth_snds, pur_snds, nth_lnks, pur_lnks, lkC_len, lkC_0, lkC_1, lkC_cap, lkC_pri, lkC_take, pur_lkC, Nat.mul_one, Try.f19, ty24, ty25, ty27, h]
theorem o_cost2 : O_cost2 := k_cost2 c_cost2
end Sim
namespace Sim
open Go Go.Proofs
set_option linter.unusedVariables false
set_option linter.unusedSimpArgs false
section
variable {hn : Int} {ls : List Lnk} {us l : List Snd} {d : Dem}
end
end Sim
