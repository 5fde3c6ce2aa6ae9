/- What functions of this seat compute, by values: contracts (lemmas of the statement's proof, under the conditions that each names). -/
import Derived.Test.YtbojbamchaohpaaQN9
import Derived.Test.YtbojbamchaohpaaQV
namespace Sim
open Go Go.Proofs
set_option linter.unusedVariables false
set_option linter.unusedSimpArgs false
def Sm (f : Nat → Int) : Nat → Int
 | 0 => 0
 | n + 1 => Sm f n + f n
theorem Sm_le {f g : Nat → Int} : ∀ {n}, (∀ i, i < n → f i ≤ g i) → Sm f n ≤ Sm g n
 | 0, _ => Int.le_refl _
 | n + 1, h => by
  have ih := Sm_le (n := n) fun i hi => h i (by omega)
  have := h n (by omega)
  simp only [Sm]; omega
theorem Sm_eq {f g : Nat → Int} : ∀ {n}, (∀ i, i < n → f i = g i) → Sm f n = Sm g n
 | 0, _ => rfl
 | n + 1, h => by
  have ih := Sm_eq (n := n) fun i hi => h i (by omega)
  simp only [Sm, ih, h n (by omega)]
theorem Sm_add {f g : Nat → Int} : ∀ n, Sm (fun i => f i + g i) n = Sm f n + Sm g n
 | 0 => rfl
 | n + 1 => by simp only [Sm, Sm_add n]; omega
theorem Sm_sub {f g : Nat → Int} : ∀ n, Sm (fun i => f i - g i) n = Sm f n - Sm g n
 | 0 => rfl
 | n + 1 => by simp only [Sm, Sm_sub n]; omega
theorem Sm_zero : ∀ n, Sm (fun _ => 0) n = 0
 | 0 => rfl
 | n + 1 => by simp only [Sm, Sm_zero n]; rfl
theorem Sm_swap {f : Nat → Nat → Int} {m : Nat} : ∀ n, Sm (fun i => Sm (fun h => f h i) m) n = Sm (fun h => Sm (fun i => f h i) n) m
 | 0 => by simp only [Sm]; exact (Sm_zero m).symm
 | n + 1 => by simp only [Sm, Sm_swap n, Sm_add]
theorem Sm_one {x v : Int} : ∀ n : Nat, Sm (fun h => if x = (h : Int) then v else 0) n = if 0 ≤ x ∧ x < (n : Int) then v else 0
 | 0 => by rw [if_neg (by omega)]; rfl
 | n + 1 => by
  simp only [Sm, Sm_one n]
  by_cases h1 : x = (n : Int)
  ·rw [if_neg (by omega), if_pos h1, if_pos (by omega)]; omega
  ·by_cases h2 : 0 ≤ x ∧ x < (n : Int)
   ·rw [if_pos h2, if_neg h1, if_pos (by omega)]; omega
   ·rw [if_neg h2, if_neg h1, if_neg (by omega)]; rfl
theorem Sm_nonneg {f : Nat → Int} {n : Nat} (h : ∀ i, i < n → 0 ≤ f i) : 0 ≤ Sm f n := by
 have := Sm_le (f := fun _ => 0) (g := f) (n := n) h
 rwa [Sm_zero] at this
theorem Sm_at {f : Nat → Int} {n k : Nat} (h : ∀ i, i < n → 0 ≤ f i) (hk : k < n) : f k ≤ Sm f n := by
 induction n with
 | zero => omega
 | succ n ih =>
  have h0 := Sm_nonneg (f := f) (n := n) fun i hi => h i (by omega)
  have hn := h n (by omega)
  simp only [Sm]
  by_cases e : k = n
  ·subst e; omega
  ·have := ih (fun i hi => h i (by omega)) (by omega)
   omega
theorem haveT_Sm {ls : List Lnk} {l : List Snd} {at_ tick : Int} : ∀ n, haveT ls l at_ tick n = Sm (fun i => haveS ls (l.getD i dS) at_ tick) n
 | 0 => rfl
 | n + 1 => by simp only [haveT, Sm, haveT_Sm n]
theorem sumT_Sm {ls : List Lnk} {l : List Snd} {t f : Int} : ∀ n, sumT ls l t f n = Sm (fun i => if (l.getD i dS).2.1 = t ∧ frM ls l i = f then (l.getD i dS).2.2 else 0) n
 | 0 => rfl
 | n + 1 => by simp only [sumT, Sm, sumT_Sm n]
structure Serving (hn : Int) (ls : List Lnk) (l : List Snd) (d : Dem) : Prop where
 ok : OKr hn ls l
 from_ : 0 ≤ d.1 ∧ d.1 < hn
 to_ : 0 ≤ d.2.1 ∧ d.2.1 < hn
 dem : demR d
 fits : fitM hn ls l = 0
 fed : ∀ k, k < l.length → sumT ls l (l.getD k dS).2.1 (frM ls l k) l.length ≤ haveM ls l d (frM ls l k) (l.getD k dS).2.1
 late : d.2.2.1 ≤ haveM ls l d d.2.1 d.2.2.2.2
theorem serves_iff {hn : Int} {ls : List Lnk} {l : List Snd} {d : Dem} : servesM hn ls l d = 0 ↔ Serving hn ls l d := by
 constructor
 ·intro h
  obtain ⟨h1, h2, h3, h4, h5⟩ := serves_zero h
  simp only [demM, Bool.and_eq_true, decide_eq_true_eq, hOK] at h2
  refine ⟨h1, h2.1.1, h2.1.2, h2.2, h3, fun k hk => ?_, h5⟩
  apply Classical.byContradiction
  intro hc
  have : svR ls l d l.length = true := svR_iff.2 ⟨k, hk, by omega⟩
  rw [h4] at this; cases this
 ·intro h
  have hd : demM hn d = true := by
   simp only [demM, Bool.and_eq_true, decide_eq_true_eq, hOK]
   exact ⟨⟨h.from_, h.to_⟩, h.dem⟩
  have hs : svR ls l d l.length = false := by
   cases hs : svR ls l d l.length with
   | false => rfl
   | true =>
    obtain ⟨k, hk, g⟩ := svR_iff.1 hs
    have := h.fed k hk
    omega
  unfold servesM
  rw [if_neg (fun g => g (right_zero.2 h.ok)), if_neg (by rw [hd]; simp), if_neg (fun g => g h.fits), if_neg (by rw [hs]; simp), if_neg (by have := h.late; omega)]
theorem ends {hn : Int} {ls : List Lnk} {l : List Snd} (ok : OKr hn ls l) {k : Nat} (hk : k < l.length) : (0 ≤ (linkM ls (l.getD k dS)).1 ∧ (linkM ls (l.getD k dS)).1 < hn) ∧ (0 ≤ (linkM ls (l.getD k dS)).2.1 ∧ (linkM ls (l.getD k dS)).2.1 < hn) ∧ (linkM ls (l.getD k dS)).1 ≠ (linkM ls (l.getD k dS)).2.1 := by
 have e1 := ok.link k hk
 have := ok.net.ends (l.getD k dS).1.toNat (by omega)
 exact ⟨⟨this.1, this.2.1⟩, ⟨this.2.2.1, this.2.2.2.1⟩, this.2.2.2.2⟩
theorem first_tick {hn : Int} {ls : List Lnk} {l : List Snd} {d : Dem} (h : Serving hn ls l d) : ∀ k, k < l.length → d.2.2.2.1 ≤ (l.getD k dS).2.1 := by
 intro k hk
 have h0 : d.2.2.2.1 ≤ (l.getD 0 dS).2.1 := by
  apply Classical.byContradiction
  intro hc
  have hl : 0 < l.length := by omega
  have f := h.fed 0 hl
  have hb := h.ok.bytes 0 hl
  have h1 : haveM ls l d (frM ls l 0) (l.getD 0 dS).2.1 = 0 := by
   unfold haveM have0
   rw [if_neg (fun g => hc g.2), haveT_Sm, Sm_eq (g := fun _ => 0), Sm_zero]
   ·rfl
   ·intro i hi
    have := asc_le h.ok (i := 0) (k := i) (by omega) hi
    simp only [haveS]
    rw [if_neg (by omega)]
  have h2 := Sm_at (f := fun i => if (l.getD i dS).2.1 = (l.getD 0 dS).2.1 ∧ frM ls l i = frM ls l 0 then (l.getD i dS).2.2 else 0) (n := l.length) (k := 0) (fun i hi => by
   have := h.ok.bytes i hi
   split <;> omega) hl
  rw [if_pos ⟨rfl, rfl⟩, ← sumT_Sm] at h2
  omega
 have := asc_le h.ok (i := 0) (k := k) (by omega) hk
 omega
theorem have0_mono {d : Dem} (hd : 0 ≤ d.2.2.1) {a t t' : Int} (h : t ≤ t') : have0 d a t ≤ have0 d a t' := by
 unfold have0
 by_cases h1 : a = d.1 ∧ d.2.2.2.1 ≤ t
 ·rw [if_pos h1, if_pos ⟨h1.1, by omega⟩]; exact Int.le_refl _
 ·rw [if_neg h1]; split <;> omega
theorem last_send {ls : List Lnk} {l : List Snd} (a t : Int) : ∀ n, (∀ i, i < n → ¬ (frM ls l i = a ∧ (l.getD i dS).2.1 < t)) ∨ ∃ i, i < n ∧ (frM ls l i = a ∧ (l.getD i dS).2.1 < t) ∧ ∀ j, i < j → j < n → ¬ (frM ls l j = a ∧ (l.getD j dS).2.1 < t)
 | 0 => .inl fun i hi => absurd hi (by omega)
 | n + 1 => by
  by_cases h : frM ls l n = a ∧ (l.getD n dS).2.1 < t
  ·exact .inr ⟨n, by omega, h, fun j h1 h2 => absurd h1 (by omega)⟩
  ·rcases last_send (ls := ls) (l := l) a t n with g | ⟨i, h1, h2, h3⟩
   ·exact .inl fun i hi => by
     by_cases e : i = n
     ·subst e; exact h
     ·exact g i (by omega)
   ·exact .inr ⟨i, by omega, h2, fun j g1 g2 => by
     by_cases e : j = n
     ·subst e; exact h
     ·exact h3 j g1 (by omega)⟩
theorem have_nonneg {hn : Int} {ls : List Lnk} {l : List Snd} {d : Dem} (h : Serving hn ls l d) (a t : Int) : 0 ≤ haveM ls l d a t := by
 have hd : 0 ≤ d.2.2.1 := by have := h.dem; unfold demR at this; omega
 rcases last_send (ls := ls) (l := l) a t l.length with g | ⟨k, h1, h2, h3⟩
 ·unfold haveM
  have h4 : 0 ≤ have0 d a t := by unfold have0; split <;> omega
  rw [haveT_Sm]
  have := Sm_nonneg (f := fun i => haveS ls (l.getD i dS) a t) (n := l.length) fun i hi => by
   have hg := g i hi
   have hb := h.ok.bytes i hi
   unfold frM at hg
   simp only [haveS]
   by_cases c : (l.getD i dS).2.1 < t
   ·rw [if_pos c, if_neg (fun e => hg ⟨e, c⟩)]; split <;> omega
   ·rw [if_neg c]; exact Int.le_refl _
  omega
 ·have f := h.fed k h1
  have hm := have0_mono hd (a := a) (show (l.getD k dS).2.1 ≤ t by omega)
  rw [h2.1] at f
  unfold haveM at f ⊢
  rw [haveT_Sm, sumT_Sm] at f
  rw [haveT_Sm]
  have key := Sm_le (f := fun i => haveS ls (l.getD i dS) a (l.getD k dS).2.1 - (if (l.getD i dS).2.1 = (l.getD k dS).2.1 ∧ frM ls l i = a then (l.getD i dS).2.2 else 0)) (g := fun i => haveS ls (l.getD i dS) a t) (n := l.length) fun i hi => by
   have hb := h.ok.bytes i hi
   unfold haveS
   by_cases c1 : (l.getD i dS).2.1 < (l.getD k dS).2.1
   ·rw [if_pos c1, if_pos (show (l.getD i dS).2.1 < t by omega), if_neg (show ¬ ((l.getD i dS).2.1 = (l.getD k dS).2.1 ∧ frM ls l i = a) from fun e => by omega)]; omega
   ·rw [if_neg c1]
    by_cases c2 : (l.getD i dS).2.1 = (l.getD k dS).2.1
    ·rw [if_pos (show (l.getD i dS).2.1 < t by omega)]
     unfold frM
     by_cases c3 : (linkM ls (l.getD i dS)).1 = a
     ·rw [if_pos ⟨c2, c3⟩, if_pos c3]; split <;> omega
     ·rw [if_neg (fun e => c3 e.2), if_neg c3]; split <;> omega
    ·rw [if_neg (fun e => c2 e.1)]
     by_cases c4 : (l.getD i dS).2.1 < t
     ·have hik : k < i := by
       apply Classical.byContradiction
       intro hc
       have := asc_le h.ok (i := i) (k := k) (by omega) h1
       omega
      have := h3 i hik hi
      unfold frM at this
      rw [if_pos c4, if_neg (show ¬ (linkM ls (l.getD i dS)).1 = a from fun e => this ⟨e, c4⟩)]; split <;> omega
     ·rw [if_neg c4]; exact Int.le_refl _
  rw [Sm_sub] at key
  omega
theorem have_sum {hn : Int} {ls : List Lnk} {l : List Snd} {d : Dem} (h : Serving hn ls l d) (t : Int) : Sm (fun a => haveM ls l d (a : Int) t) hn.toNat = if d.2.2.2.1 ≤ t then d.2.2.1 else 0 := by
 have hnn : ((hn.toNat : Nat) : Int) = hn := by have := h.from_; omega
 have e1 : Sm (fun a : Nat => have0 d (a : Int) t) hn.toNat = if d.2.2.2.1 ≤ t then d.2.2.1 else 0 := by
  by_cases c : d.2.2.2.1 ≤ t
  ·rw [if_pos c, Sm_eq (g := fun a : Nat => if d.1 = (a : Int) then d.2.2.1 else 0), Sm_one, if_pos (by rw [hnn]; exact h.from_)]
   intro i hi
   unfold have0
   by_cases e : (i : Int) = d.1
   ·rw [if_pos ⟨e, c⟩, if_pos e.symm]
   ·rw [if_neg (fun g => e g.1), if_neg (fun g => e g.symm)]
  ·rw [if_neg c, Sm_eq (g := fun _ => 0), Sm_zero]
   intro i hi
   unfold have0
   rw [if_neg (fun g => c g.2)]
 have e2 : Sm (fun a : Nat => haveT ls l (a : Int) t l.length) hn.toNat = 0 := by
  rw [Sm_eq (g := fun a : Nat => Sm (fun i => haveS ls (l.getD i dS) (a : Int) t) l.length) (fun i _ => haveT_Sm _), ← Sm_swap, Sm_eq (g := fun _ => 0), Sm_zero]
  intro i hi
  obtain ⟨g1, g2, _⟩ := ends h.ok hi
  by_cases c : (l.getD i dS).2.1 < t
  ·rw [Sm_eq (g := fun a : Nat => (if (linkM ls (l.getD i dS)).2.1 = (a : Int) then (l.getD i dS).2.2 else 0) - (if (linkM ls (l.getD i dS)).1 = (a : Int) then (l.getD i dS).2.2 else 0)) (fun a _ => by unfold haveS; rw [if_pos c]), Sm_sub, Sm_one, Sm_one, if_pos (by rw [hnn]; exact g2), if_pos (by rw [hnn]; exact g1)]
   omega
  ·rw [Sm_eq (g := fun _ => 0) (fun a _ => by unfold haveS; rw [if_neg c]), Sm_zero]
 unfold haveM
 rw [Sm_add, e1, e2]
 omega
end Sim
namespace Sim
set_option linter.unusedVariables false
set_option linter.unusedSimpArgs false
def addA (A : List Arc) (u v : Nat) (x y : Int) : List Arc := A ++ [(u, v, x, y), (v, u, 0, -y)]
def outA (out : List (List Nat)) (u v n : Nat) : List (List Nat) := (out.set u (out.getD u [] ++ [n])).set v (out.getD v [] ++ [n + 1])
def gA (p : Nat → Arc) : Nat → List Arc
 | 0 => []
 | n + 1 => addA (gA p n) (p n).1 (p n).2.1 (p n).2.2.1 (p n).2.2.2
def gO (p : Nat → Arc) (N : Nat) : Nat → List (List Nat)
 | 0 => List.replicate N []
 | n + 1 => outA (gO p N n) (p n).1 (p n).2.1 (gA p n).length
section
variable {p : Nat → Arc} {N n : Nat}
theorem gA_len : ∀ {n}, (gA p n).length = 2 * n
 | 0 => rfl
 | n + 1 => by rw [gA, addA, List.length_append, gA_len]; simp; omega
theorem gA_succ_lt {k : Nat} (h : k < 2 * n) : (gA p (n + 1)).getD k dA = (gA p n).getD k dA := by
 rw [gA, addA, List.getD_eq_getElem?_getD, List.getElem?_append_left (by rw [gA_len]; exact h), List.getD_eq_getElem?_getD]
theorem gA_even : ∀ {n i : Nat}, i < n → (gA p n).getD (2 * i) dA = p i
 | 0, i, h => absurd h (by omega)
 | n + 1, i, h => by
  by_cases e : i = n
  ·subst e
   rw [gA, addA, List.getD_eq_getElem?_getD, List.getElem?_append_right (by rw [gA_len]; omega), gA_len, Nat.sub_self]; rfl
  ·rw [gA_succ_lt (by omega), gA_even (by omega)]
theorem gA_odd : ∀ {n i : Nat}, i < n → (gA p n).getD (2 * i + 1) dA = ((p i).2.1, (p i).1, 0, -(p i).2.2.2)
 | 0, i, h => absurd h (by omega)
 | n + 1, i, h => by
  by_cases e : i = n
  ·subst e
   rw [gA, addA, List.getD_eq_getElem?_getD, List.getElem?_append_right (by rw [gA_len]; omega), gA_len, show 2 * i + 1 - 2 * i = 1 by omega]; rfl
  ·rw [gA_succ_lt (by omega), gA_odd (by omega)]
def PrOK (p : Nat → Arc) (N n : Nat) : Prop := ∀ i, i < n → (p i).1 < N ∧ (p i).2.1 < N ∧ (p i).1 ≠ (p i).2.1 ∧ 0 ≤ (p i).2.2.1 ∧ 0 ≤ (p i).2.2.2 ∧ (p i).2.2.2 ≤ 1000000
theorem gO_len : ∀ {n}, (gO p N n).length = N
 | 0 => by rw [gO, List.length_replicate]
 | n + 1 => by rw [gO, outA, List.length_set, List.length_set, gO_len]
theorem outA_at {out : List (List Nat)} {u v m w : Nat} (hu : u < out.length) (hv : v < out.length) (huv : u ≠ v) : (outA out u v m).getD w [] = if w = v then out.getD v [] ++ [m + 1] else if w = u then out.getD u [] ++ [m] else out.getD w [] := by
 unfold outA
 by_cases c1 : w = v
 ·subst c1
  rw [if_pos rfl, List.getD_eq_getElem?_getD, List.getElem?_set_self (by rw [List.length_set]; exact hv)]; rfl
 ·rw [if_neg c1]
  by_cases c2 : w = u
  ·subst c2
   rw [if_pos rfl, List.getD_eq_getElem?_getD, List.getElem?_set_ne (fun e => c1 e.symm), List.getElem?_set_self hu]; rfl
  ·rw [if_neg c2, List.getD_eq_getElem?_getD, List.getElem?_set_ne (fun e => c1 e.symm), List.getElem?_set_ne (fun e => c2 e.symm), List.getD_eq_getElem?_getD]
theorem gO_mem : ∀ {n}, PrOK p N n → ∀ {u : Nat}, u < N → ∀ {k}, k ∈ (gO p N n).getD u [] ↔ k < 2 * n ∧ aF (gA p n) k = u
 | 0, _, u, hu, k => by simp [gO, hu]
 | n + 1, h, u, hu, k => by
  have ih := gO_mem (n := n) (fun i hi => h i (by omega)) hu (k := k)
  obtain ⟨h1, h2, h3, _⟩ := h n (by omega)
  rw [gO, outA_at (by rw [gO_len]; exact h1) (by rw [gO_len]; exact h2) h3]
  have e0 : k < 2 * n → aF (gA p (n + 1)) k = aF (gA p n) k := fun hk => by unfold aF; rw [gA_succ_lt hk]
  have e1 : aF (gA p (n + 1)) (2 * n) = (p n).1 := by unfold aF; rw [gA_even (by omega)]
  have e2 : aF (gA p (n + 1)) (2 * n + 1) = (p n).2.1 := by unfold aF; rw [gA_odd (by omega)]
  have key : k < 2 * (n + 1) ∧ aF (gA p (n + 1)) k = u ↔ (k < 2 * n ∧ aF (gA p n) k = u) ∨ (k = 2 * n ∧ (p n).1 = u) ∨ (k = 2 * n + 1 ∧ (p n).2.1 = u) := by
   constructor
   ·rintro ⟨a1, a2⟩
    by_cases c : k < 2 * n
    ·rw [e0 c] at a2; exact .inl ⟨c, a2⟩
    ·by_cases c2 : k = 2 * n
     ·subst c2; rw [e1] at a2; exact .inr (.inl ⟨rfl, a2⟩)
     ·have : k = 2 * n + 1 := by omega
      subst this; rw [e2] at a2; exact .inr (.inr ⟨rfl, a2⟩)
   ·rintro (⟨a1, a2⟩ | ⟨a1, a2⟩ | ⟨a1, a2⟩)
    ·exact ⟨by omega, by rw [e0 a1]; exact a2⟩
    ·subst a1; exact ⟨by omega, by rw [e1]; exact a2⟩
    ·subst a1; exact ⟨by omega, by rw [e2]; exact a2⟩
  rw [key, gA_len]
  by_cases c1 : u = (p n).2.1
  ·rw [if_pos c1, List.mem_append, List.mem_singleton, ← c1, ih]
   constructor
   ·rintro (a | a)
    ·exact .inl a
    ·exact .inr (.inr ⟨a, rfl⟩)
   ·rintro (a | a | a)
    ·exact .inl a
    ·exact absurd (a.2.trans c1) h3
    ·exact .inr a.1
  ·rw [if_neg c1]
   by_cases c2 : u = (p n).1
   ·rw [if_pos c2, List.mem_append, List.mem_singleton, ← c2, ih]
    constructor
    ·rintro (a | a)
     ·exact .inl a
     ·exact .inr (.inl ⟨a, rfl⟩)
    ·rintro (a | a | a)
     ·exact .inl a
     ·exact .inr a.1
     ·exact absurd a.2.symm c1
   ·rw [if_neg c2, ih]
    constructor
    ·exact .inl
    ·rintro (a | a | a)
     ·exact a
     ·exact absurd a.2.symm c2
     ·exact absurd a.2.symm c1
theorem gO_cnt : ∀ {n}, PrOK p N n → ∀ u, ((gO p N n).getD u []).length ≤ n
 | 0, _, u => by
  rw [gO, List.getD_eq_getElem?_getD, List.getElem?_replicate]
  split <;> simp
 | n + 1, h, u => by
  have ih := gO_cnt (n := n) fun i hi => h i (by omega)
  obtain ⟨h1, h2, h3, _⟩ := h n (by omega)
  rw [gO, outA_at (by rw [gO_len]; exact h1) (by rw [gO_len]; exact h2) h3]
  have i1 := ih (p n).1
  have i2 := ih (p n).2.1
  have i3 := ih u
  split
  ·rw [List.length_append, List.length_singleton]; omega
  ·split
   ·rw [List.length_append, List.length_singleton]; omega
   ·omega
theorem todo_le {out : List (List Nat)} {done : List Bool} {b : Nat} (h : ∀ u, (out.getD u []).length ≤ b) : ∀ n, todo out done n ≤ n * b
 | 0 => by simp [todo]
 | n + 1 => by
  have ih := todo_le (done := done) h n
  have := h n
  rw [todo, Nat.succ_mul]
  split <;> omega
theorem g_meas (h : PrOK p N n) {s : Nat} : meas (gO p N n) (ini N s) ≤ N * n + 1 := by
 have := todo_le (done := (ini N s).done) (gO_cnt h) N
 unfold meas
 rw [gO_len]
 have e : (ini N s).q.length = 1 := rfl
 omega
theorem gA_F {i : Nat} (h : i < n) : aF (gA p n) (2 * i) = (p i).1 := by unfold aF; rw [gA_even h]
theorem gA_T {i : Nat} (h : i < n) : aT (gA p n) (2 * i) = (p i).2.1 := by unfold aT; rw [gA_even h]
theorem gA_L {i : Nat} (h : i < n) : aL (gA p n) (2 * i) = (p i).2.2.1 := by unfold aL; rw [gA_even h]
theorem gA_P {i : Nat} (h : i < n) : aP (gA p n) (2 * i) = (p i).2.2.2 := by unfold aP; rw [gA_even h]
theorem gA_F1 {i : Nat} (h : i < n) : aF (gA p n) (2 * i + 1) = (p i).2.1 := by unfold aF; rw [gA_odd h]
theorem gA_T1 {i : Nat} (h : i < n) : aT (gA p n) (2 * i + 1) = (p i).1 := by unfold aT; rw [gA_odd h]
theorem gA_L1 {i : Nat} (h : i < n) : aL (gA p n) (2 * i + 1) = 0 := by unfold aL; rw [gA_odd h]
theorem gA_P1 {i : Nat} (h : i < n) : aP (gA p n) (2 * i + 1) = -(p i).2.2.2 := by unfold aP; rw [gA_odd h]
theorem arc_cases {k : Nat} (h : k < 2 * n) : ∃ i, i < n ∧ (k = 2 * i ∨ k = 2 * i + 1) := ⟨k / 2, by omega, by omega⟩
theorem gA_wp (h : PrOK p N n) : WPr (gA p n) n := by
 refine ⟨gA_len, fun i hi => ?_, fun i hi => ?_, fun i hi => ?_, fun j hj => ?_⟩
 ·rw [gA_F1 hi, gA_T hi]
 ·rw [gA_T1 hi, gA_F hi]
 ·rw [gA_P1 hi, gA_P hi]
 ·obtain ⟨i, hi, rfl | rfl⟩ := arc_cases hj
  ·rw [gA_L hi]; exact (h i hi).2.2.2.1
  ·rw [gA_L1 hi]; exact Int.le_refl _
theorem gA_si (h : PrOK p N n) {s t : Nat} (hs : s < N) (ht : t < N) (hst : s ≠ t) : SI (gA p n) (gO p N n) (List.replicate N 0) N n s t 0 := by
 have ar : ∀ k, k < (gA p n).length → aF (gA p n) k < N ∧ aT (gA p n) k < N := fun k hk => by
  rw [gA_len] at hk
  obtain ⟨i, hi, rfl | rfl⟩ := arc_cases hk
  ·rw [gA_F hi, gA_T hi]; exact ⟨(h i hi).1, (h i hi).2.1⟩
  ·rw [gA_F1 hi, gA_T1 hi]; exact ⟨(h i hi).2.1, (h i hi).1⟩
 have l0 : ∀ v, (List.replicate N (0 : Int)).getD v 0 = 0 := fun v => by
  rw [List.getD_eq_getElem?_getD, List.getElem?_replicate]
  split <;> rfl
 refine ⟨gA_wp h, ar, fun u hu k hk => ?_, fun k hk => ?_, gO_len, by simp, hs, ht, hst, fun k hk => ?_, l0 s, fun v _ => by rw [l0]; omega, fun v hv => ?_, fun _ => 0, fun k hk hl => ?_, fun v _ => (l0 v).symm⟩
 ·rw [gA_len]; exact (gO_mem h hu).1 hk
 ·have := (ar k hk).1
  rw [gA_len] at hk
  exact (gO_mem h this).2 ⟨hk, rfl⟩
 ·rw [gA_len] at hk
  obtain ⟨i, hi, rfl | rfl⟩ := arc_cases hk
  ·rw [gA_P hi]; have := h i hi; omega
  ·rw [gA_P1 hi]; have := h i hi; omega
 ·unfold FN.net
  rw [sumN_zero]
  ·split <;> split <;> rfl
  ·intro i hi
   have hi' : i < n := by
    unfold fnA at hi; dsimp only at hi; rw [gA_len] at hi; omega
   have : flA (gA p n) i = 0 := gA_L1 hi'
   rw [this]
   split <;> split <;> rfl
 ·rw [gA_len] at hk
  obtain ⟨i, hi, rfl | rfl⟩ := arc_cases hk
  ·rw [gA_P hi]; have := h i hi; dsimp only; omega
  ·rw [gA_L1 hi] at hl; omega
end
def fnP (p : Nat → Arc) (N n s t : Nat) : FN := ⟨N, n, s, t, fun i => (p i).1, fun i => (p i).2.1, fun i => (p i).2.2.1, fun i => (p i).2.2.2⟩
theorem fnP_wf {p : Nat → Arc} {N n s t : Nat} (h : PrOK p N n) (hs : s < N) (ht : t < N) : (fnP p N n s t).WF := ⟨hs, ht, fun i hi => ⟨(h i hi).1, (h i hi).2.1⟩⟩
theorem fnA_net {p : Nat → Arc} {N n s t : Nat} {f : Nat → Int} {v : Nat} : (fnA (gA p n) N s t).net f v = (fnP p N n s t).net f v := by
 unfold FN.net
 have e : (fnA (gA p n) N s t).m = n := by unfold fnA; dsimp only; rw [gA_len]; omega
 rw [e]
 refine sumN_congr fun i hi => ?_
 show (if aF (gA p n) (2 * i) = v then f i else 0) - (if aT (gA p n) (2 * i) = v then f i else 0) = _
 rw [gA_F hi, gA_T hi]; rfl
theorem fnA_flow {p : Nat → Arc} {N n s t : Nat} {f : Nat → Int} {b : Int} : (fnA (gA p n) N s t).Flow f b ↔ (fnP p N n s t).Flow f b := by
 have e : (fnA (gA p n) N s t).m = n := by unfold fnA; dsimp only; rw [gA_len]; omega
 have hc : ∀ i, i < n → (fnA (gA p n) N s t).cap i = (fnP p N n s t).cap i := fun i hi => by
  show aL (gA p n) (2 * i) + aL (gA p n) (2 * i + 1) = _
  rw [gA_L hi, gA_L1 hi, Int.add_zero]; rfl
 constructor
 ·rintro ⟨h1, h2, h3⟩
  rw [e] at h1 h2
  exact ⟨h1, fun i hi => by rw [← hc i hi]; exact h2 i hi, fun v hv => by rw [← fnA_net]; exact h3 v hv⟩
 ·rintro ⟨h1, h2, h3⟩
  exact ⟨by rw [e]; exact h1, fun i hi => by rw [e] at hi; rw [hc i hi]; exact h2 i hi, fun v hv => by rw [fnA_net]; exact h3 v hv⟩
theorem fnA_pot {p : Nat → Arc} {N n s t : Nat} {f φ : Nat → Int} : (fnA (gA p n) N s t).Pot f φ ↔ (fnP p N n s t).Pot f φ := by
 have e : (fnA (gA p n) N s t).m = n := by unfold fnA; dsimp only; rw [gA_len]; omega
 have key : ∀ i, i < n → (fnA (gA p n) N s t).cap i = (fnP p N n s t).cap i ∧ (fnA (gA p n) N s t).pr i = (fnP p N n s t).pr i ∧ (fnA (gA p n) N s t).fr i = (fnP p N n s t).fr i ∧ (fnA (gA p n) N s t).to i = (fnP p N n s t).to i := fun i hi => by
  refine ⟨?_, gA_P hi, gA_F hi, gA_T hi⟩
  show aL (gA p n) (2 * i) + aL (gA p n) (2 * i + 1) = _
  rw [gA_L hi, gA_L1 hi, Int.add_zero]; rfl
 unfold FN.Pot
 rw [e]
 show _ ↔ ∀ i, i < n → _
 constructor
 ·intro h i hi
  obtain ⟨k1, k2, k3, k4⟩ := key i hi
  have := h i hi
  rwa [k1, k2, k3, k4] at this
 ·intro h i hi
  obtain ⟨k1, k2, k3, k4⟩ := key i hi
  rw [k1, k2, k3, k4]
  exact h i hi
theorem g_send {p : Nat → Arc} {N n s t : Nat} (h : PrOK p N n) (hs : s < N) (ht : t < N) (hst : s ≠ t) {bytes : Int} (hb : 0 ≤ bytes) :
  (fnP p N n s t).Flow (flA (sendM (gA p n) (gO p N n) (List.replicate N 0) N s t bytes).1) (sendM (gA p n) (gO p N n) (List.replicate N 0) N s t bytes).2 ∧
  (∃ φ, (fnP p N n s t).Pot (flA (sendM (gA p n) (gO p N n) (List.replicate N 0) N s t bytes).1) φ) ∧
  0 ≤ (sendM (gA p n) (gO p N n) (List.replicate N 0) N s t bytes).2 ∧ (sendM (gA p n) (gO p N n) (List.replicate N 0) N s t bytes).2 ≤ bytes ∧
  ((sendM (gA p n) (gO p N n) (List.replicate N 0) N s t bytes).2 < bytes → ∀ f b, (fnP p N n s t).Flow f b → b ≤ (sendM (gA p n) (gO p N n) (List.replicate N 0) N s t bytes).2) ∧
  (sendM (gA p n) (gO p N n) (List.replicate N 0) N s t bytes).1.length = 2 * n := by
 have S := gA_si h hs ht hst
 have R := sendM_R (bytes := bytes) S
 obtain ⟨lv', S', h1, h2, h3, h4⟩ := send_ok R S hb
 obtain ⟨f1, f2, φ, f3⟩ := si_flow S'
 rw [h4] at f2 f3
 exact ⟨fnA_flow.1 f2, ⟨φ, fnA_pot.1 f3⟩, h2, h1, fun hlt f b hf => si_max S' (h3 hlt) (f := f) (by rw [h4]; exact fnA_flow.2 hf), S'.wp.len⟩
end Sim
