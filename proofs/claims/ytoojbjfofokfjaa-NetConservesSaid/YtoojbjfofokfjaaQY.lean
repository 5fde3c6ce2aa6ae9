/- What functions of this seat compute, by values: contracts (lemmas of the statement's proof, under the conditions that each names). -/
import Derived.Test.YtoojbjfofokfjaaQX
namespace Sim
open Go Go.Proofs
set_option linter.unusedVariables false
set_option linter.unusedSimpArgs false
/-! Sums. -/
def Sm (f : Nat → Int) : Nat → Int
  | 0 => 0
  | n + 1 => Sm f n + f n
theorem Sm_le {f g : Nat → Int} : ∀ {n}, (∀ i, i < n → f i ≤ g i) → Sm f n ≤ Sm g n
  | 0, _ => Int.le_refl _
  | n + 1, h => by
    have ih := Sm_le (n := n) fun i hi => h i (by omega)
    have := h n (by omega)
    simp only [Sm]; omega
theorem Sm_eq {f g : Nat → Int} : ∀ {n}, (∀ i, i < n → f i = g i) → Sm f n = Sm g n
  | 0, _ => rfl
  | n + 1, h => by
    have ih := Sm_eq (n := n) fun i hi => h i (by omega)
    simp only [Sm, ih, h n (by omega)]
theorem Sm_add {f g : Nat → Int} : ∀ n, Sm (fun i => f i + g i) n = Sm f n + Sm g n
  | 0 => rfl
  | n + 1 => by simp only [Sm, Sm_add n]; omega
theorem Sm_sub {f g : Nat → Int} : ∀ n, Sm (fun i => f i - g i) n = Sm f n - Sm g n
  | 0 => rfl
  | n + 1 => by simp only [Sm, Sm_sub n]; omega
theorem Sm_zero : ∀ n, Sm (fun _ => 0) n = 0
  | 0 => rfl
  | n + 1 => by simp only [Sm, Sm_zero n]; rfl
theorem Sm_swap {f : Nat → Nat → Int} {m : Nat} : ∀ n, Sm (fun i => Sm (fun h => f h i) m) n = Sm (fun h => Sm (fun i => f h i) n) m
  | 0 => by simp only [Sm]; exact (Sm_zero m).symm
  | n + 1 => by simp only [Sm, Sm_swap n, Sm_add]
theorem Sm_one {x v : Int} : ∀ n : Nat, Sm (fun h => if x = (h : Int) then v else 0) n = if 0 ≤ x ∧ x < (n : Int) then v else 0
  | 0 => by rw [if_neg (by omega)]; rfl
  | n + 1 => by
    simp only [Sm, Sm_one n]
    by_cases h1 : x = (n : Int)
    · rw [if_neg (by omega), if_pos h1, if_pos (by omega)]; omega
    · by_cases h2 : 0 ≤ x ∧ x < (n : Int)
      · rw [if_pos h2, if_neg h1, if_pos (by omega)]; omega
      · rw [if_neg h2, if_neg h1, if_neg (by omega)]; rfl
theorem Sm_nonneg {f : Nat → Int} {n : Nat} (h : ∀ i, i < n → 0 ≤ f i) : 0 ≤ Sm f n := by
  have := Sm_le (f := fun _ => 0) (g := f) (n := n) h
  rwa [Sm_zero] at this
theorem Sm_at {f : Nat → Int} {n k : Nat} (h : ∀ i, i < n → 0 ≤ f i) (hk : k < n) : f k ≤ Sm f n := by
  induction n with
  | zero => omega
  | succ n ih =>
    have h0 := Sm_nonneg (f := f) (n := n) fun i hi => h i (by omega)
    have hn := h n (by omega)
    simp only [Sm]
    by_cases e : k = n
    · subst e; omega
    · have := ih (fun i hi => h i (by omega)) (by omega)
      omega
theorem haveT_Sm {ls : List Lnk} {l : List Snd} {at_ tick : Int} : ∀ n, haveT ls l at_ tick n = Sm (fun i => haveS ls (l.getD i dS) at_ tick) n
  | 0 => rfl
  | n + 1 => by simp only [haveT, Sm, haveT_Sm n]
theorem sumT_Sm {ls : List Lnk} {l : List Snd} {t f : Int} : ∀ n, sumT ls l t f n = Sm (fun i => if (l.getD i dS).2.1 = t ∧ frM ls l i = f then (l.getD i dS).2.2 else 0) n
  | 0 => rfl
  | n + 1 => by simp only [sumT, Sm, sumT_Sm n]
/-- What a schedule that serves does. -/
structure Serving (hn : Int) (ls : List Lnk) (l : List Snd) (d : Dem) : Prop where
  ok : OKr hn ls l
  from_ : 0 ≤ d.1 ∧ d.1 < hn
  to_ : 0 ≤ d.2.1 ∧ d.2.1 < hn
  dem : demR d
  fits : fitM hn ls l = 0
  fed : ∀ k, k < l.length → sumT ls l (l.getD k dS).2.1 (frM ls l k) l.length ≤ haveM ls l d (frM ls l k) (l.getD k dS).2.1
  late : d.2.2.1 ≤ haveM ls l d d.2.1 d.2.2.2.2
theorem serves_iff {hn : Int} {ls : List Lnk} {l : List Snd} {d : Dem} : servesM hn ls l d = 0 ↔ Serving hn ls l d := by
  constructor
  · intro h
    obtain ⟨h1, h2, h3, h4, h5⟩ := serves_zero h
    simp only [demM, Bool.and_eq_true, decide_eq_true_eq, hOK] at h2
    refine ⟨h1, h2.1.1, h2.1.2, h2.2, h3, fun k hk => ?_, h5⟩
    apply Classical.byContradiction
    intro hc
    have : svR ls l d l.length = true := svR_iff.2 ⟨k, hk, by omega⟩
    rw [h4] at this; cases this
  · intro h
    have hd : demM hn d = true := by
      simp only [demM, Bool.and_eq_true, decide_eq_true_eq, hOK]
      exact ⟨⟨h.from_, h.to_⟩, h.dem⟩
    have hs : svR ls l d l.length = false := by
      cases hs : svR ls l d l.length with
      | false => rfl
      | true =>
        obtain ⟨k, hk, g⟩ := svR_iff.1 hs
        have := h.fed k hk
        omega
    unfold servesM
    rw [if_neg (fun g => g (right_zero.2 h.ok)), if_neg (by rw [hd]; simp), if_neg (fun g => g h.fits), if_neg (by rw [hs]; simp), if_neg (by have := h.late; omega)]
/-- The ends of a send's link. -/
theorem ends {hn : Int} {ls : List Lnk} {l : List Snd} (ok : OKr hn ls l) {k : Nat} (hk : k < l.length) : (0 ≤ (linkM ls (l.getD k dS)).1 ∧ (linkM ls (l.getD k dS)).1 < hn) ∧ (0 ≤ (linkM ls (l.getD k dS)).2.1 ∧ (linkM ls (l.getD k dS)).2.1 < hn) ∧ (linkM ls (l.getD k dS)).1 ≠ (linkM ls (l.getD k dS)).2.1 := by
  have e1 := ok.link k hk
  have := ok.net.ends (l.getD k dS).1.toNat (by omega)
  exact ⟨⟨this.1, this.2.1⟩, ⟨this.2.2.1, this.2.2.2.1⟩, this.2.2.2.2⟩
/-- The first send of a house in a tick. -/
theorem first_tick {hn : Int} {ls : List Lnk} {l : List Snd} {d : Dem} (h : Serving hn ls l d) : ∀ k, k < l.length → d.2.2.2.1 ≤ (l.getD k dS).2.1 := by
  intro k hk
  have h0 : d.2.2.2.1 ≤ (l.getD 0 dS).2.1 := by
    apply Classical.byContradiction
    intro hc
    have hl : 0 < l.length := by omega
    have f := h.fed 0 hl
    have hb := h.ok.bytes 0 hl
    have h1 : haveM ls l d (frM ls l 0) (l.getD 0 dS).2.1 = 0 := by
      unfold haveM have0
      rw [if_neg (fun g => hc g.2), haveT_Sm, Sm_eq (g := fun _ => 0), Sm_zero]
      · rfl
      · intro i hi
        have := asc_le h.ok (i := 0) (k := i) (by omega) hi
        simp only [haveS]
        rw [if_neg (by omega)]
    have h2 := Sm_at (f := fun i => if (l.getD i dS).2.1 = (l.getD 0 dS).2.1 ∧ frM ls l i = frM ls l 0 then (l.getD i dS).2.2 else 0) (n := l.length) (k := 0) (fun i hi => by
      have := h.ok.bytes i hi
      split <;> omega) hl
    rw [if_pos ⟨rfl, rfl⟩, ← sumT_Sm] at h2
    omega
  have := asc_le h.ok (i := 0) (k := k) (by omega) hk
  omega
theorem have0_mono {d : Dem} (hd : 0 ≤ d.2.2.1) {a t t' : Int} (h : t ≤ t') : have0 d a t ≤ have0 d a t' := by
  unfold have0
  by_cases h1 : a = d.1 ∧ d.2.2.2.1 ≤ t
  · rw [if_pos h1, if_pos ⟨h1.1, by omega⟩]; exact Int.le_refl _
  · rw [if_neg h1]; split <;> omega
/-- The last send out of a house before a tick, if there is one. -/
theorem last_send {ls : List Lnk} {l : List Snd} (a t : Int) : ∀ n, (∀ i, i < n → ¬ (frM ls l i = a ∧ (l.getD i dS).2.1 < t)) ∨ ∃ i, i < n ∧ (frM ls l i = a ∧ (l.getD i dS).2.1 < t) ∧ ∀ j, i < j → j < n → ¬ (frM ls l j = a ∧ (l.getD j dS).2.1 < t)
  | 0 => .inl fun i hi => absurd hi (by omega)
  | n + 1 => by
    by_cases h : frM ls l n = a ∧ (l.getD n dS).2.1 < t
    · exact .inr ⟨n, by omega, h, fun j h1 h2 => absurd h1 (by omega)⟩
    · rcases last_send (ls := ls) (l := l) a t n with g | ⟨i, h1, h2, h3⟩
      · exact .inl fun i hi => by
          by_cases e : i = n
          · subst e; exact h
          · exact g i (by omega)
      · exact .inr ⟨i, by omega, h2, fun j g1 g2 => by
          by_cases e : j = n
          · subst e; exact h
          · exact h3 j g1 (by omega)⟩
/-- No stock is negative. -/
theorem have_nonneg {hn : Int} {ls : List Lnk} {l : List Snd} {d : Dem} (h : Serving hn ls l d) (a t : Int) : 0 ≤ haveM ls l d a t := by
  have hd : 0 ≤ d.2.2.1 := by have := h.dem; unfold demR at this; omega
  rcases last_send (ls := ls) (l := l) a t l.length with g | ⟨k, h1, h2, h3⟩
  · unfold haveM
    have h4 : 0 ≤ have0 d a t := by unfold have0; split <;> omega
    rw [haveT_Sm]
    have := Sm_nonneg (f := fun i => haveS ls (l.getD i dS) a t) (n := l.length) fun i hi => by
      have hg := g i hi
      have hb := h.ok.bytes i hi
      unfold frM at hg
      simp only [haveS]
      by_cases c : (l.getD i dS).2.1 < t
      · rw [if_pos c, if_neg (fun e => hg ⟨e, c⟩)]; split <;> omega
      · rw [if_neg c]; exact Int.le_refl _
    omega
  · have f := h.fed k h1
    have hm := have0_mono hd (a := a) (show (l.getD k dS).2.1 ≤ t by omega)
    rw [h2.1] at f
    unfold haveM at f ⊢
    rw [haveT_Sm, sumT_Sm] at f
    rw [haveT_Sm]
    have key := Sm_le (f := fun i => haveS ls (l.getD i dS) a (l.getD k dS).2.1 - (if (l.getD i dS).2.1 = (l.getD k dS).2.1 ∧ frM ls l i = a then (l.getD i dS).2.2 else 0)) (g := fun i => haveS ls (l.getD i dS) a t) (n := l.length) fun i hi => by
      have hb := h.ok.bytes i hi
      unfold haveS
      by_cases c1 : (l.getD i dS).2.1 < (l.getD k dS).2.1
      · rw [if_pos c1, if_pos (show (l.getD i dS).2.1 < t by omega), if_neg (show ¬ ((l.getD i dS).2.1 = (l.getD k dS).2.1 ∧ frM ls l i = a) from fun e => by omega)]; omega
      · rw [if_neg c1]
        by_cases c2 : (l.getD i dS).2.1 = (l.getD k dS).2.1
        · rw [if_pos (show (l.getD i dS).2.1 < t by omega)]
          unfold frM
          by_cases c3 : (linkM ls (l.getD i dS)).1 = a
          · rw [if_pos ⟨c2, c3⟩, if_pos c3]; split <;> omega
          · rw [if_neg (fun e => c3 e.2), if_neg c3]; split <;> omega
        · rw [if_neg (fun e => c2 e.1)]
          by_cases c4 : (l.getD i dS).2.1 < t
          · have hik : k < i := by
              apply Classical.byContradiction
              intro hc
              have := asc_le h.ok (i := i) (k := k) (by omega) h1
              omega
            have := h3 i hik hi
            unfold frM at this
            rw [if_pos c4, if_neg (show ¬ (linkM ls (l.getD i dS)).1 = a from fun e => this ⟨e, c4⟩)]; split <;> omega
          · rw [if_neg c4]; exact Int.le_refl _
    rw [Sm_sub] at key
    omega
/-- All stocks together. -/
theorem have_sum {hn : Int} {ls : List Lnk} {l : List Snd} {d : Dem} (h : Serving hn ls l d) (t : Int) : Sm (fun a => haveM ls l d (a : Int) t) hn.toNat = if d.2.2.2.1 ≤ t then d.2.2.1 else 0 := by
  have hnn : ((hn.toNat : Nat) : Int) = hn := by have := h.from_; omega
  have e1 : Sm (fun a : Nat => have0 d (a : Int) t) hn.toNat = if d.2.2.2.1 ≤ t then d.2.2.1 else 0 := by
    by_cases c : d.2.2.2.1 ≤ t
    · rw [if_pos c, Sm_eq (g := fun a : Nat => if d.1 = (a : Int) then d.2.2.1 else 0), Sm_one, if_pos (by rw [hnn]; exact h.from_)]
      intro i hi
      unfold have0
      by_cases e : (i : Int) = d.1
      · rw [if_pos ⟨e, c⟩, if_pos e.symm]
      · rw [if_neg (fun g => e g.1), if_neg (fun g => e g.symm)]
    · rw [if_neg c, Sm_eq (g := fun _ => 0), Sm_zero]
      intro i hi
      unfold have0
      rw [if_neg (fun g => c g.2)]
  have e2 : Sm (fun a : Nat => haveT ls l (a : Int) t l.length) hn.toNat = 0 := by
    rw [Sm_eq (g := fun a : Nat => Sm (fun i => haveS ls (l.getD i dS) (a : Int) t) l.length) (fun i _ => haveT_Sm _), ← Sm_swap, Sm_eq (g := fun _ => 0), Sm_zero]
    intro i hi
    obtain ⟨g1, g2, _⟩ := ends h.ok hi
    by_cases c : (l.getD i dS).2.1 < t
    · rw [Sm_eq (g := fun a : Nat => (if (linkM ls (l.getD i dS)).2.1 = (a : Int) then (l.getD i dS).2.2 else 0) - (if (linkM ls (l.getD i dS)).1 = (a : Int) then (l.getD i dS).2.2 else 0)) (fun a _ => by unfold haveS; rw [if_pos c]), Sm_sub, Sm_one, Sm_one, if_pos (by rw [hnn]; exact g2), if_pos (by rw [hnn]; exact g1)]
      omega
    · rw [Sm_eq (g := fun _ => 0) (fun a _ => by unfold haveS; rw [if_neg c]), Sm_zero]
  unfold haveM
  rw [Sm_add, e1, e2]
  omega
end Sim
