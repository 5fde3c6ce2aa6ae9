/- What functions of this seat compute, by values: contracts (lemmas of the statement's proof, under the conditions that each names). -/
import Derived.Test.YtbojbamchaohpaaQBD
import Derived.Test.YtbojbamchaohpaaQN8
namespace Sim
open Go Go.Proofs
set_option maxRecDepth 10000
set_option maxHeartbeats 2000000
set_option linter.unusedVariables false
set_option linter.unusedSimpArgs false
attribute [local congr] opsIf_congr condC_congr guardC_congr grd_congr pick3_congr obind_congr omap_congr opsV_congr
def atM (ls : List Lnk) (l : List Snd) (d : Dem) (t : Int) : Prop := d.2.2.2.1 ≤ t ∧ t ≤ d.2.2.2.2 ∧ d.2.2.1 ≤ haveM ls l d d.2.1 t
instance {ls : List Lnk} {l : List Snd} {d : Dem} {t : Int} : Decidable (atM ls l d t) := inferInstanceAs (Decidable (_ ∧ _))
theorem serves_zero {hn : Int} {ls : List Lnk} {l : List Snd} {d : Dem} (h : servesM hn ls l d = 0) : OKr hn ls l ∧ demM hn d = true ∧ fitM hn ls l = 0 ∧ svR ls l d l.length = false ∧ d.2.2.1 ≤ haveM ls l d d.2.1 d.2.2.2.2 := by
 unfold servesM at h
 split at h
 ·contradiction
 ·rename_i h1
  split at h
  ·cases h
  ·rename_i h2
   split at h
   ·contradiction
   ·rename_i h3
    split at h
    ·cases h
    ·rename_i h4
     split at h
     ·cases h
     ·rename_i h5
      exact ⟨right_zero.1 (Classical.not_not.1 h1), by simpa using h2, Classical.not_not.1 h3, by simpa using h4, by omega⟩
end Sim
namespace Sim
open Go Go.Proofs
set_option linter.unusedVariables false
set_option linter.unusedSimpArgs false
structure Serving (hn : Int) (ls : List Lnk) (l : List Snd) (d : Dem) : Prop where
 ok : OKr hn ls l
 from_ : 0 ≤ d.1 ∧ d.1 < hn
 to_ : 0 ≤ d.2.1 ∧ d.2.1 < hn
 dem : demR d
 fits : fitM hn ls l = 0
 fed : ∀ k, k < l.length → sumT ls l (l.getD k dS).2.1 (frM ls l k) l.length ≤ haveM ls l d (frM ls l k) (l.getD k dS).2.1
 late : d.2.2.1 ≤ haveM ls l d d.2.1 d.2.2.2.2
theorem serves_iff {hn : Int} {ls : List Lnk} {l : List Snd} {d : Dem} : servesM hn ls l d = 0 ↔ Serving hn ls l d := by
 constructor
 ·intro h
  obtain ⟨h1, h2, h3, h4, h5⟩ := serves_zero h
  simp only [demM, Bool.and_eq_true, decide_eq_true_eq, hOK] at h2
  refine ⟨h1, h2.1.1, h2.1.2, h2.2, h3, fun k hk => ?_, h5⟩
  apply Classical.byContradiction
  intro hc
  have : svR ls l d l.length = true := svR_iff.2 ⟨k, hk, by omega⟩
  rw [h4] at this; cases this
 ·intro h
  have hd : demM hn d = true := by
   simp only [demM, Bool.and_eq_true, decide_eq_true_eq, hOK]
   exact ⟨⟨h.from_, h.to_⟩, h.dem⟩
  have hs : svR ls l d l.length = false := by
   cases hs : svR ls l d l.length with
   | false => rfl
   | true =>
    obtain ⟨k, hk, g⟩ := svR_iff.1 hs
    have := h.fed k hk
    omega
  unfold servesM
  rw [if_neg (fun g => g (right_zero.2 h.ok)), if_neg (by rw [hd]; simp), if_neg (fun g => g h.fits), if_neg (by rw [hs]; simp), if_neg (by have := h.late; omega)]
theorem ends {hn : Int} {ls : List Lnk} {l : List Snd} (ok : OKr hn ls l) {k : Nat} (hk : k < l.length) : (0 ≤ (linkM ls (l.getD k dS)).1 ∧ (linkM ls (l.getD k dS)).1 < hn) ∧ (0 ≤ (linkM ls (l.getD k dS)).2.1 ∧ (linkM ls (l.getD k dS)).2.1 < hn) ∧ (linkM ls (l.getD k dS)).1 ≠ (linkM ls (l.getD k dS)).2.1 := by
 have e1 := ok.link k hk
 have := ok.net.ends (l.getD k dS).1.toNat (by omega)
 exact ⟨⟨this.1, this.2.1⟩, ⟨this.2.2.1, this.2.2.2.1⟩, this.2.2.2.2⟩
end Sim
namespace Sim
set_option linter.unusedVariables false
set_option linter.unusedSimpArgs false
def addA (A : List Arc) (u v : Nat) (x y : Int) : List Arc := A ++ [(u, v, x, y), (v, u, 0, -y)]
def outA (out : List (List Nat)) (u v n : Nat) : List (List Nat) := (out.set u (out.getD u [] ++ [n])).set v (out.getD v [] ++ [n + 1])
def gA (p : Nat → Arc) : Nat → List Arc
 | 0 => []
 | n + 1 => addA (gA p n) (p n).1 (p n).2.1 (p n).2.2.1 (p n).2.2.2
def gO (p : Nat → Arc) (N : Nat) : Nat → List (List Nat)
 | 0 => List.replicate N []
 | n + 1 => outA (gO p N n) (p n).1 (p n).2.1 (gA p n).length
section
variable {p : Nat → Arc} {N n : Nat}
theorem gA_len : ∀ {n}, (gA p n).length = 2 * n
 | 0 => rfl
 | n + 1 => by rw [gA, addA, List.length_append, gA_len]; simp; omega
theorem gA_succ_lt {k : Nat} (h : k < 2 * n) : (gA p (n + 1)).getD k dA = (gA p n).getD k dA := by
 rw [gA, addA, List.getD_eq_getElem?_getD, List.getElem?_append_left (by rw [gA_len]; exact h), List.getD_eq_getElem?_getD]
theorem gA_even : ∀ {n i : Nat}, i < n → (gA p n).getD (2 * i) dA = p i
 | 0, i, h => absurd h (by omega)
 | n + 1, i, h => by
  by_cases e : i = n
  ·subst e
   rw [gA, addA, List.getD_eq_getElem?_getD, List.getElem?_append_right (by rw [gA_len]; omega), gA_len, Nat.sub_self]; rfl
  ·rw [gA_succ_lt (by omega), gA_even (by omega)]
theorem gA_odd : ∀ {n i : Nat}, i < n → (gA p n).getD (2 * i + 1) dA = ((p i).2.1, (p i).1, 0, -(p i).2.2.2)
 | 0, i, h => absurd h (by omega)
 | n + 1, i, h => by
  by_cases e : i = n
  ·subst e
   rw [gA, addA, List.getD_eq_getElem?_getD, List.getElem?_append_right (by rw [gA_len]; omega), gA_len, show 2 * i + 1 - 2 * i = 1 by omega]; rfl
  ·rw [gA_succ_lt (by omega), gA_odd (by omega)]
def PrOK (p : Nat → Arc) (N n : Nat) : Prop := ∀ i, i < n → (p i).1 < N ∧ (p i).2.1 < N ∧ (p i).1 ≠ (p i).2.1 ∧ 0 ≤ (p i).2.2.1 ∧ 0 ≤ (p i).2.2.2 ∧ (p i).2.2.2 ≤ 1000000
theorem gO_len : ∀ {n}, (gO p N n).length = N
 | 0 => by rw [gO, List.length_replicate]
 | n + 1 => by rw [gO, outA, List.length_set, List.length_set, gO_len]
theorem outA_at {out : List (List Nat)} {u v m w : Nat} (hu : u < out.length) (hv : v < out.length) (huv : u ≠ v) : (outA out u v m).getD w [] = if w = v then out.getD v [] ++ [m + 1] else if w = u then out.getD u [] ++ [m] else out.getD w [] := by
 unfold outA
 by_cases c1 : w = v
 ·subst c1
  rw [if_pos rfl, List.getD_eq_getElem?_getD, List.getElem?_set_self (by rw [List.length_set]; exact hv)]; rfl
 ·rw [if_neg c1]
  by_cases c2 : w = u
  ·subst c2
   rw [if_pos rfl, List.getD_eq_getElem?_getD, List.getElem?_set_ne (fun e => c1 e.symm), List.getElem?_set_self hu]; rfl
  ·rw [if_neg c2, List.getD_eq_getElem?_getD, List.getElem?_set_ne (fun e => c1 e.symm), List.getElem?_set_ne (fun e => c2 e.symm), List.getD_eq_getElem?_getD]
theorem gO_mem : ∀ {n}, PrOK p N n → ∀ {u : Nat}, u < N → ∀ {k}, k ∈ (gO p N n).getD u [] ↔ k < 2 * n ∧ aF (gA p n) k = u
 | 0, _, u, hu, k => by simp [gO, hu]
 | n + 1, h, u, hu, k => by
  have ih := gO_mem (n := n) (fun i hi => h i (by omega)) hu (k := k)
  obtain ⟨h1, h2, h3, _⟩ := h n (by omega)
  rw [gO, outA_at (by rw [gO_len]; exact h1) (by rw [gO_len]; exact h2) h3]
  have e0 : k < 2 * n → aF (gA p (n + 1)) k = aF (gA p n) k := fun hk => by unfold aF; rw [gA_succ_lt hk]
  have e1 : aF (gA p (n + 1)) (2 * n) = (p n).1 := by unfold aF; rw [gA_even (by omega)]
  have e2 : aF (gA p (n + 1)) (2 * n + 1) = (p n).2.1 := by unfold aF; rw [gA_odd (by omega)]
  have key : k < 2 * (n + 1) ∧ aF (gA p (n + 1)) k = u ↔ (k < 2 * n ∧ aF (gA p n) k = u) ∨ (k = 2 * n ∧ (p n).1 = u) ∨ (k = 2 * n + 1 ∧ (p n).2.1 = u) := by
   constructor
   ·rintro ⟨a1, a2⟩
    by_cases c : k < 2 * n
    ·rw [e0 c] at a2; exact .inl ⟨c, a2⟩
    ·by_cases c2 : k = 2 * n
     ·subst c2; rw [e1] at a2; exact .inr (.inl ⟨rfl, a2⟩)
     ·have : k = 2 * n + 1 := by omega
      subst this; rw [e2] at a2; exact .inr (.inr ⟨rfl, a2⟩)
   ·rintro (⟨a1, a2⟩ | ⟨a1, a2⟩ | ⟨a1, a2⟩)
    ·exact ⟨by omega, by rw [e0 a1]; exact a2⟩
    ·subst a1; exact ⟨by omega, by rw [e1]; exact a2⟩
    ·subst a1; exact ⟨by omega, by rw [e2]; exact a2⟩
  rw [key, gA_len]
  by_cases c1 : u = (p n).2.1
  ·rw [if_pos c1, List.mem_append, List.mem_singleton, ← c1, ih]
   constructor
   ·rintro (a | a)
    ·exact .inl a
    ·exact .inr (.inr ⟨a, rfl⟩)
   ·rintro (a | a | a)
    ·exact .inl a
    ·exact absurd (a.2.trans c1) h3
    ·exact .inr a.1
  ·rw [if_neg c1]
   by_cases c2 : u = (p n).1
   ·rw [if_pos c2, List.mem_append, List.mem_singleton, ← c2, ih]
    constructor
    ·rintro (a | a)
     ·exact .inl a
     ·exact .inr (.inl ⟨a, rfl⟩)
    ·rintro (a | a | a)
     ·exact .inl a
     ·exact .inr a.1
     ·exact absurd a.2.symm c1
   ·rw [if_neg c2, ih]
    constructor
    ·exact .inl
    ·rintro (a | a | a)
     ·exact a
     ·exact absurd a.2.symm c2
     ·exact absurd a.2.symm c1
theorem gO_cnt : ∀ {n}, PrOK p N n → ∀ u, ((gO p N n).getD u []).length ≤ n
 | 0, _, u => by
  rw [gO, List.getD_eq_getElem?_getD, List.getElem?_replicate]
  split <;> simp
 | n + 1, h, u => by
  have ih := gO_cnt (n := n) fun i hi => h i (by omega)
  obtain ⟨h1, h2, h3, _⟩ := h n (by omega)
  rw [gO, outA_at (by rw [gO_len]; exact h1) (by rw [gO_len]; exact h2) h3]
  have i1 := ih (p n).1
  have i2 := ih (p n).2.1
  have i3 := ih u
  split
  ·rw [List.length_append, List.length_singleton]; omega
  ·split
   ·rw [List.length_append, List.length_singleton]; omega
   ·omega
theorem todo_le {out : List (List Nat)} {done : List Bool} {b : Nat} (h : ∀ u, (out.getD u []).length ≤ b) : ∀ n, todo out done n ≤ n * b
 | 0 => by simp [todo]
 | n + 1 => by
  have ih := todo_le (done := done) h n
  have := h n
  rw [todo, Nat.succ_mul]
  split <;> omega
theorem g_meas (h : PrOK p N n) {s : Nat} : meas (gO p N n) (ini N s) ≤ N * n + 1 := by
 have := todo_le (done := (ini N s).done) (gO_cnt h) N
 unfold meas
 rw [gO_len]
 have e : (ini N s).q.length = 1 := rfl
 omega
theorem gA_F {i : Nat} (h : i < n) : aF (gA p n) (2 * i) = (p i).1 := by unfold aF; rw [gA_even h]
theorem gA_T {i : Nat} (h : i < n) : aT (gA p n) (2 * i) = (p i).2.1 := by unfold aT; rw [gA_even h]
theorem gA_L {i : Nat} (h : i < n) : aL (gA p n) (2 * i) = (p i).2.2.1 := by unfold aL; rw [gA_even h]
theorem gA_P {i : Nat} (h : i < n) : aP (gA p n) (2 * i) = (p i).2.2.2 := by unfold aP; rw [gA_even h]
theorem gA_F1 {i : Nat} (h : i < n) : aF (gA p n) (2 * i + 1) = (p i).2.1 := by unfold aF; rw [gA_odd h]
theorem gA_T1 {i : Nat} (h : i < n) : aT (gA p n) (2 * i + 1) = (p i).1 := by unfold aT; rw [gA_odd h]
theorem gA_L1 {i : Nat} (h : i < n) : aL (gA p n) (2 * i + 1) = 0 := by unfold aL; rw [gA_odd h]
theorem gA_P1 {i : Nat} (h : i < n) : aP (gA p n) (2 * i + 1) = -(p i).2.2.2 := by unfold aP; rw [gA_odd h]
theorem arc_cases {k : Nat} (h : k < 2 * n) : ∃ i, i < n ∧ (k = 2 * i ∨ k = 2 * i + 1) := ⟨k / 2, by omega, by omega⟩
theorem gA_wp (h : PrOK p N n) : WPr (gA p n) n := by
 refine ⟨gA_len, fun i hi => ?_, fun i hi => ?_, fun i hi => ?_, fun j hj => ?_⟩
 ·rw [gA_F1 hi, gA_T hi]
 ·rw [gA_T1 hi, gA_F hi]
 ·rw [gA_P1 hi, gA_P hi]
 ·obtain ⟨i, hi, rfl | rfl⟩ := arc_cases hj
  ·rw [gA_L hi]; exact (h i hi).2.2.2.1
  ·rw [gA_L1 hi]; exact Int.le_refl _
theorem gA_si (h : PrOK p N n) {s t : Nat} (hs : s < N) (ht : t < N) (hst : s ≠ t) : SI (gA p n) (gO p N n) (List.replicate N 0) N n s t 0 := by
 have ar : ∀ k, k < (gA p n).length → aF (gA p n) k < N ∧ aT (gA p n) k < N := fun k hk => by
  rw [gA_len] at hk
  obtain ⟨i, hi, rfl | rfl⟩ := arc_cases hk
  ·rw [gA_F hi, gA_T hi]; exact ⟨(h i hi).1, (h i hi).2.1⟩
  ·rw [gA_F1 hi, gA_T1 hi]; exact ⟨(h i hi).2.1, (h i hi).1⟩
 have l0 : ∀ v, (List.replicate N (0 : Int)).getD v 0 = 0 := fun v => by
  rw [List.getD_eq_getElem?_getD, List.getElem?_replicate]
  split <;> rfl
 refine ⟨gA_wp h, ar, fun u hu k hk => ?_, fun k hk => ?_, gO_len, by simp, hs, ht, hst, fun k hk => ?_, l0 s, fun v _ => by rw [l0]; omega, fun v hv => ?_, fun _ => 0, fun k hk hl => ?_, fun v _ => (l0 v).symm⟩
 ·rw [gA_len]; exact (gO_mem h hu).1 hk
 ·have := (ar k hk).1
  rw [gA_len] at hk
  exact (gO_mem h this).2 ⟨hk, rfl⟩
 ·rw [gA_len] at hk
  obtain ⟨i, hi, rfl | rfl⟩ := arc_cases hk
  ·rw [gA_P hi]; have := h i hi; omega
  ·rw [gA_P1 hi]; have := h i hi; omega
 ·unfold FN.net
  rw [sumN_zero]
  ·split <;> split <;> rfl
  ·intro i hi
   have hi' : i < n := by
    unfold fnA at hi; dsimp only at hi; rw [gA_len] at hi; omega
   have : flA (gA p n) i = 0 := gA_L1 hi'
   rw [this]
   split <;> split <;> rfl
 ·rw [gA_len] at hk
  obtain ⟨i, hi, rfl | rfl⟩ := arc_cases hk
  ·rw [gA_P hi]; have := h i hi; dsimp only; omega
  ·rw [gA_L1 hi] at hl; omega
end
def fnP (p : Nat → Arc) (N n s t : Nat) : FN := ⟨N, n, s, t, fun i => (p i).1, fun i => (p i).2.1, fun i => (p i).2.2.1, fun i => (p i).2.2.2⟩
theorem fnP_wf {p : Nat → Arc} {N n s t : Nat} (h : PrOK p N n) (hs : s < N) (ht : t < N) : (fnP p N n s t).WF := ⟨hs, ht, fun i hi => ⟨(h i hi).1, (h i hi).2.1⟩⟩
theorem fnA_net {p : Nat → Arc} {N n s t : Nat} {f : Nat → Int} {v : Nat} : (fnA (gA p n) N s t).net f v = (fnP p N n s t).net f v := by
 unfold FN.net
 have e : (fnA (gA p n) N s t).m = n := by unfold fnA; dsimp only; rw [gA_len]; omega
 rw [e]
 refine sumN_congr fun i hi => ?_
 show (if aF (gA p n) (2 * i) = v then f i else 0) - (if aT (gA p n) (2 * i) = v then f i else 0) = _
 rw [gA_F hi, gA_T hi]; rfl
theorem fnA_cost {p : Nat → Arc} {N n s t : Nat} {f : Nat → Int} : (fnA (gA p n) N s t).cost f = (fnP p N n s t).cost f := by
 unfold FN.cost
 have e : (fnA (gA p n) N s t).m = n := by unfold fnA; dsimp only; rw [gA_len]; omega
 rw [e]
 refine sumN_congr fun i hi => ?_
 show aP (gA p n) (2 * i) * f i = _
 rw [gA_P hi]; rfl
theorem fnA_flow {p : Nat → Arc} {N n s t : Nat} {f : Nat → Int} {b : Int} : (fnA (gA p n) N s t).Flow f b ↔ (fnP p N n s t).Flow f b := by
 have e : (fnA (gA p n) N s t).m = n := by unfold fnA; dsimp only; rw [gA_len]; omega
 have hc : ∀ i, i < n → (fnA (gA p n) N s t).cap i = (fnP p N n s t).cap i := fun i hi => by
  show aL (gA p n) (2 * i) + aL (gA p n) (2 * i + 1) = _
  rw [gA_L hi, gA_L1 hi, Int.add_zero]; rfl
 constructor
 ·rintro ⟨h1, h2, h3⟩
  rw [e] at h1 h2
  exact ⟨h1, fun i hi => by rw [← hc i hi]; exact h2 i hi, fun v hv => by rw [← fnA_net]; exact h3 v hv⟩
 ·rintro ⟨h1, h2, h3⟩
  exact ⟨by rw [e]; exact h1, fun i hi => by rw [e] at hi; rw [hc i hi]; exact h2 i hi, fun v hv => by rw [fnA_net]; exact h3 v hv⟩
theorem fnA_pot {p : Nat → Arc} {N n s t : Nat} {f φ : Nat → Int} : (fnA (gA p n) N s t).Pot f φ ↔ (fnP p N n s t).Pot f φ := by
 have e : (fnA (gA p n) N s t).m = n := by unfold fnA; dsimp only; rw [gA_len]; omega
 have key : ∀ i, i < n → (fnA (gA p n) N s t).cap i = (fnP p N n s t).cap i ∧ (fnA (gA p n) N s t).pr i = (fnP p N n s t).pr i ∧ (fnA (gA p n) N s t).fr i = (fnP p N n s t).fr i ∧ (fnA (gA p n) N s t).to i = (fnP p N n s t).to i := fun i hi => by
  refine ⟨?_, gA_P hi, gA_F hi, gA_T hi⟩
  show aL (gA p n) (2 * i) + aL (gA p n) (2 * i + 1) = _
  rw [gA_L hi, gA_L1 hi, Int.add_zero]; rfl
 unfold FN.Pot
 rw [e]
 show _ ↔ ∀ i, i < n → _
 constructor
 ·intro h i hi
  obtain ⟨k1, k2, k3, k4⟩ := key i hi
  have := h i hi
  rwa [k1, k2, k3, k4] at this
 ·intro h i hi
  obtain ⟨k1, k2, k3, k4⟩ := key i hi
  rw [k1, k2, k3, k4]
  exact h i hi
theorem g_send {p : Nat → Arc} {N n s t : Nat} (h : PrOK p N n) (hs : s < N) (ht : t < N) (hst : s ≠ t) {bytes : Int} (hb : 0 ≤ bytes) :
  (fnP p N n s t).Flow (flA (sendM (gA p n) (gO p N n) (List.replicate N 0) N s t bytes).1) (sendM (gA p n) (gO p N n) (List.replicate N 0) N s t bytes).2 ∧
  (∃ φ, (fnP p N n s t).Pot (flA (sendM (gA p n) (gO p N n) (List.replicate N 0) N s t bytes).1) φ) ∧
  0 ≤ (sendM (gA p n) (gO p N n) (List.replicate N 0) N s t bytes).2 ∧ (sendM (gA p n) (gO p N n) (List.replicate N 0) N s t bytes).2 ≤ bytes ∧
  ((sendM (gA p n) (gO p N n) (List.replicate N 0) N s t bytes).2 < bytes → ∀ f b, (fnP p N n s t).Flow f b → b ≤ (sendM (gA p n) (gO p N n) (List.replicate N 0) N s t bytes).2) ∧
  (sendM (gA p n) (gO p N n) (List.replicate N 0) N s t bytes).1.length = 2 * n := by
 have S := gA_si h hs ht hst
 have R := sendM_R (bytes := bytes) S
 obtain ⟨lv', S', h1, h2, h3, h4⟩ := send_ok R S hb
 obtain ⟨f1, f2, φ, f3⟩ := si_flow S'
 rw [h4] at f2 f3
 exact ⟨fnA_flow.1 f2, ⟨φ, fnA_pot.1 f3⟩, h2, h1, fun hlt f b hf => si_max S' (h3 hlt) (f := f) (by rw [h4]; exact fnA_flow.2 hf), S'.wp.len⟩
end Sim
