/- What functions of this seat compute, by values: contracts (lemmas of the statement's proof, under the conditions that each names). -/
import Derived.Test.YtpdaiflnibekaaaQY3
import Derived.Test.YtpdaiflnibekaaaQS
namespace Sim
open Go Go.Proofs
set_option maxRecDepth 10000
set_option maxHeartbeats 2000000
set_option linter.unusedVariables false
set_option linter.unusedSimpArgs false

/-! Giving up. -/
theorem badT_vals {rs : List Rep} : ∀ n, badT rs n = 0 ∨ badT rs n = 1 ∨ badT rs n = 3
  | 0 => .inl rfl
  | n + 1 => by
    simp only [badT]
    split
    · exact badT_vals n
    · unfold badM
      repeat' split
      all_goals simp
theorem check_ne8 {st : Int} {rs : List Rep} : checkM st rs ≠ 8 := by
  unfold checkM
  have := badT_vals (rs := rs) rs.length
  repeat' split
  all_goals omega
theorem crowd8 {st : Int} {rs : List Rep} : (crowdM st rs).2 = 8 ↔ checkM st rs = 0 ∧ V st rs 0 ≠ none := by
  unfold crowdM
  by_cases h : checkM st rs = 0
  · rw [if_neg (fun hn => hn h)]
    have hc := crowd_V (check_zero.1 h)
    cases hn : crowdT st rs rs.length with
    | some s =>
      simp only [h, true_and]
      constructor
      · intro h; cases h
      · intro h; exact absurd (hc.2 ⟨s, hn⟩) h
    | none =>
      simp only [h, true_and, true_iff]
      intro hv
      obtain ⟨s, hs⟩ := hc.1 hv
      rw [hn] at hs; cases hs
  · rw [if_pos h]
    have := check_ne8 (st := st) (rs := rs)
    simp [h, this]
theorem goes_iff {st : Int} {rs : List Rep} {s : Nat} : goesOn st rs s = true ↔ (withM st rs s).2 = 0 ∧ checkM (withM st rs s).1.1 (withM st rs s).1.2 = 0 ∧ V (withM st rs s).1.1 (withM st rs s).1.2 0 ≠ none := by
  simp only [goesOn, Bool.and_eq_true, decide_eq_true_eq, crowd8]
theorem goes_best {st : Int} {rs : List Rep} {s : Nat} : goesOn st rs s = true ↔ (withM st rs s).2 = 0 ∧ (bestM (withM st rs s).1.1 (withM st rs s).1.2).2 = 0 := by
  rw [goes_iff]
  by_cases h : checkM (withM st rs s).1.1 (withM st rs s).1.2 = 0
  · rw [(best_err h).1]; simp [h]
  · have : (bestM (withM st rs s).1.1 (withM st rs s).1.2).2 ≠ 0 := by unfold bestM; rw [if_pos h]; exact h
    simp [h, this]
theorem sqT_zero {a : Nat} : ∀ n, sqT a 0 n = a % 2 ^ n ∧ atT 0 n = n
  | 0 => by simp [sqT, atT, Nat.mod_one]
  | n + 1 => by
    obtain ⟨h1, h2⟩ := sqT_zero (a := a) n
    simp only [sqT, atT, Nat.zero_testBit, h1, h2, true_and, Bool.false_eq_true, if_false, and_true]
    have hl := Nat.mod_lt a (Nat.two_pow_pos n)
    have key : a % 2 ^ (n + 1) = if a.testBit n = true then a % 2 ^ n + 2 ^ n else a % 2 ^ n := by
      apply Nat.eq_of_testBit_eq
      intro i
      rw [Nat.testBit_mod_two_pow]
      split
      · rename_i hb
        rw [← or_add (bit_top hl), Nat.testBit_or, Nat.testBit_two_pow, Nat.testBit_mod_two_pow]
        by_cases e : n = i
        · subst e; simp [hb]
        · by_cases h : i < n
          · simp [e, h, show i < n + 1 by omega]
          · simp [e, h, show ¬ i < n + 1 by omega]
      · rename_i hb
        rw [Nat.testBit_mod_two_pow]
        by_cases e : n = i
        · subst e; simpa using hb
        · by_cases h : i < n
          · simp [h, show i < n + 1 by omega]
          · simp [h, show ¬ i < n + 1 by omega]
    rw [key]
    split
    · rw [or_add (bit_top hl)]
    · rfl
theorem withT_zero {st : Int} {rs : List Rep} (hc : OKc st rs) : ∀ k, k ≤ rs.length → withT rs 0 k = rs.take k
  | 0, _ => by simp [withT]
  | k + 1, hk => by
    simp only [withT, Nat.zero_testBit, Bool.false_eq_true, if_false]
    rw [withT_zero hc k (by omega), take_succ_getD dR (by omega)]
    congr 2
    obtain ⟨h1, h2, h3, _⟩ := hc.rep k (by omega)
    unfold withR
    rw [(sqT_zero rs.length).1, Nat.mod_eq_of_lt h3]
    unfold tk du ch
    rw [← h2]; rfl
theorem bad_zero {rs : List Rep} : ∀ k, badW rs 0 k = false
  | 0 => rfl
  | k + 1 => by simp [badW, bad_zero k]
theorem with_zero {st : Int} {rs : List Rep} (hc : OKc st rs) : withM st rs 0 = ((st, rs), 0) := by
  have hp := one_le_pow rs.length
  unfold withM
  rw [if_neg (fun hn => hn (check_zero.2 hc)), if_neg (fun hn => hn ⟨by omega, by omega⟩)]
  rw [show (0 : Int).toNat = 0 from rfl, bad_zero, if_neg (by simp), withT_zero hc _ (Nat.le_refl _), List.take_of_length_le (Nat.le_refl _)]
theorem goes_zero {st : Int} {rs : List Rep} (hc : OKc st rs) : goesOn st rs 0 = true ↔ V st rs 0 ≠ none := by
  rw [goes_iff]
  have := with_zero hc
  rw [show ((0 : Nat) : Int) = 0 from rfl, this]
  simp [check_zero.2 hc]
theorem withT_all {rs : List Rep} {n : Nat} : ∀ k, k ≤ n → withT rs (2 ^ n - 1) k = []
  | 0, _ => rfl
  | k + 1, h => by
    have ih := withT_all (rs := rs) (n := n) k (by omega)
    have hk : k < n := by omega
    simp only [withT, Nat.testBit_two_pow_sub_one, ih, hk, decide_true, if_true]
theorem bad_all {rs : List Rep} {n : Nat} : ∀ k, k ≤ n → badW rs (2 ^ n - 1) k = false
  | 0, _ => rfl
  | k + 1, h => by
    have ih := bad_all (rs := rs) (n := n) k (by omega)
    have hk : k < n := by omega
    simp only [badW, Nat.testBit_two_pow_sub_one, ih, hk, decide_true, Bool.not_true, Bool.false_and, Bool.or_false]
theorem goes_all {st : Int} {rs : List Rep} (hc : OKc st rs) : goesOn st rs (2 ^ rs.length - 1) = true := by
  have hp := one_le_pow rs.length
  have hw : withM st rs ((2 ^ rs.length - 1 : Nat) : Int) = ((st, []), 0) := by
    unfold withM
    rw [if_neg (fun hn => hn (check_zero.2 hc)), if_neg (fun hn => hn ⟨by omega, by omega⟩), Int.toNat_natCast, bad_all _ (Nat.le_refl _), if_neg (by simp), withT_all _ (Nat.le_refl _)]
  rw [goes_iff, hw]
  refine ⟨rfl, ?_, ?_⟩
  · have := hc.start
    refine check_zero.2 ⟨by simp, this, fun k hk => by simp at hk, rfl⟩
  · have : V st [] (allS []) = some 0 := V_all
    have e : allS [] = 0 := rfl
    rw [e] at this
    dsimp only
    rw [this]; simp
/-- What has been found so far. -/
structure GiveAt (st : Int) (rs : List Rep) (s : Nat) (b : Nat × Int) : Prop where
  none_or : (b = (0, 1125899906842624) ∧ ∀ t, t < s → goesOn st rs t = false) ∨ (b.1 < s ∧ goesOn st rs b.1 = true ∧ b.2 = chanceM rs b.1)
  least : ∀ t, t < s → goesOn st rs t = true → b.2 < chanceM rs t ∨ (b.2 = chanceM rs t ∧ b.1 ≤ t)
theorem give_at {st : Int} {rs : List Rep} (hc : OKc st rs) : ∀ s, GiveAt st rs s (giveT st rs s)
  | 0 => ⟨.inl ⟨rfl, fun t ht => by omega⟩, fun t ht => by omega⟩
  | s + 1 => by
    have ih := give_at hc s
    have hb := chance_bound hc.ch s rs.length (Nat.le_refl _)
    simp only [giveT]
    split
    · rename_i h
      refine ⟨.inr ⟨by simp, h.2, rfl⟩, fun t ht hg => ?_⟩
      by_cases e : t = s
      · subst e; exact .inr ⟨rfl, Nat.le_refl _⟩
      · rcases ih.least t (by omega) hg with h1 | ⟨h1, h2⟩
        · exact .inl (by dsimp only; omega)
        · exact .inl (by dsimp only; omega)
    · rename_i h
      cases hg : goesOn st rs s with
      | false =>
        refine ⟨?_, fun t ht hgt => ?_⟩
        · rcases ih.none_or with ⟨h1, h2⟩ | ⟨h1, h2⟩
          · refine .inl ⟨h1, fun t ht => ?_⟩
            by_cases e : t = s
            · subst e; exact hg
            · exact h2 t (by omega)
          · exact .inr ⟨by omega, h2⟩
        · by_cases e : t = s
          · subst e; rw [hg] at hgt; cases hgt
          · exact ih.least t (by omega) hgt
      | true =>
        have hle : (giveT st rs s).2 ≤ chanceM rs s := by
          apply Classical.byContradiction
          intro hn
          exact h ⟨by omega, hg⟩
        rcases ih.none_or with ⟨h1, h2⟩ | ⟨h1, h2, h3⟩
        · rw [h1] at hle
          unfold chanceM at hle
          dsimp only at hle
          omega
        · refine ⟨.inr ⟨by omega, h2, h3⟩, fun t ht hgt => ?_⟩
          by_cases e : t = s
          · subst e
            rcases Int.lt_or_le (giveT st rs t).2 (chanceM rs t) with g | g
            · exact .inl g
            · exact .inr ⟨by omega, by omega⟩
          · exact ih.least t (by omega) hgt
/-- **What GiveUp returns.** -/
theorem give_ok {st : Int} {rs : List Rep} (hc : OKc st rs) : (giveT st rs (2 ^ rs.length)).1 < 2 ^ rs.length ∧ goesOn st rs (giveT st rs (2 ^ rs.length)).1 = true ∧
    ∀ t, t < 2 ^ rs.length → goesOn st rs t = true → chanceM rs (giveT st rs (2 ^ rs.length)).1 < chanceM rs t ∨ (chanceM rs (giveT st rs (2 ^ rs.length)).1 = chanceM rs t ∧ (giveT st rs (2 ^ rs.length)).1 ≤ t) := by
  have h := give_at hc (2 ^ rs.length)
  have hp := one_le_pow rs.length
  rcases h.none_or with ⟨_, h2⟩ | ⟨h1, h2, h3⟩
  · have := h2 (2 ^ rs.length - 1) (by omega)
    rw [goes_all hc] at this; cases this
  · refine ⟨h1, h2, fun t ht hg => ?_⟩
    have := h.least t ht hg
    rw [h3] at this; exact this
theorem chance_zero {rs : List Rep} : chanceM rs 0 = 0 := sumT_zero _
end Sim
