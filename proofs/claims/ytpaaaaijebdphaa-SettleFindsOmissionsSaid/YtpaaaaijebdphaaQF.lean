/- What functions of this seat compute, by values: contracts (lemmas of the statement's proof, under the conditions that each names). -/
import Derived.Test.YtpaaaaijebdphaaQE
namespace Sim
open Go Go.Proofs
set_option linter.unusedVariables false
set_option linter.unusedSimpArgs false
def andI (a b : Int) : Int := IntKind.i64.wrap (BitVec.ofInt 64 a &&& BitVec.ofInt 64 b).toNat
def andNI (a b : Int) : Int := IntKind.i64.wrap (BitVec.ofInt 64 a &&& ~~~ BitVec.ofInt 64 b).toNat
theorem and_i64 {a b : Int} : intBitsP .and .i64 a b = some (andI a b) := nrfl rfl
theorem andNot_i64 {a b : Int} : intBitsP .andNot .i64 a b = some (andNI a b) := nrfl rfl
theorem ofInt_nat {a : Nat} (h : a < 9223372036854775808) : (BitVec.ofInt 64 (a : Int)).toNat = a := by
  rw [BitVec.toNat_ofInt]
  have : ((a : Int) % ((2 ^ 64 : Nat) : Int)) = a := Int.emod_eq_of_lt (by omega) (by simp only [Nat.reducePow]; omega)
  rw [this]; simp
theorem andI_nat {a b : Nat} (ha : a < 9223372036854775808) (hb : b < 9223372036854775808) : andI a b = ((a &&& b : Nat) : Int) := by
  unfold andI
  rw [BitVec.toNat_and, ofInt_nat ha, ofInt_nat hb]
  have := @Nat.and_le_left a b
  exact wrap64 (by omega) (by omega)
def dif (a b : Nat) : Nat := a &&& (18446744073709551615 - b)
theorem andNI_nat {a b : Nat} (ha : a < 9223372036854775808) (hb : b < 9223372036854775808) : andNI a b = ((dif a b : Nat) : Int) := by
  unfold andNI
  rw [BitVec.toNat_and, BitVec.toNat_not, ofInt_nat ha, ofInt_nat hb]
  have := @Nat.and_le_left a (2 ^ 64 - 1 - b)
  exact wrap64 (by omega) (by omega)
theorem lt_two {a i : Nat} (ha : a < 9223372036854775808) (hi : a.testBit i = true) : i < 63 := by
  rcases Nat.lt_or_ge i 63 with h | h
  · exact h
  · have : a < 2 ^ i := Nat.lt_of_lt_of_le ha (by have := Nat.pow_le_pow_right (n := 2) (by omega) h; omega)
    rw [Nat.testBit_lt_two_pow this] at hi; cases hi
theorem testBit_dif {a b i : Nat} (ha : a < 9223372036854775808) (hb : b < 9223372036854775808) : (dif a b).testBit i = (a.testBit i && !b.testBit i) := by
  unfold dif
  rw [Nat.testBit_and]
  cases hi : a.testBit i with
  | false => rfl
  | true =>
    have h2 := lt_two ha hi
    have e : 18446744073709551615 - b = 2 ^ 64 - (b + 1) := by omega
    rw [e, Nat.testBit_two_pow_sub_succ (by omega)]
    simp; omega
/-- a is part of b. -/
def sub (a b : Nat) : Bool := a &&& b == a
theorem fdiv_pow {a j : Nat} : (a : Int).fdiv (2 ^ j) = ((a / 2 ^ j : Nat) : Int) := by
  rw [Int.fdiv_eq_ediv_of_nonneg _ (Int.le_of_lt (Int.pow_pos (by decide)))]
  rw [Int.natCast_ediv, Int.natCast_pow]; rfl
theorem bit_one {a j : Nat} : a / 2 ^ j &&& 1 = 1 ↔ a.testBit j = true := by
  rw [Nat.testBit, Nat.shiftRight_eq_div_pow, Nat.and_comm]
  generalize a / 2 ^ j = x
  have : 1 &&& x = x % 2 := by rw [Nat.and_comm, Nat.and_one_is_mod]
  rw [this]
  have := Nat.mod_two_eq_zero_or_one x
  rcases this with h | h <;> simp [h]
theorem has_nat {s k : Nat} (hs : s < 9223372036854775808) (hk : k ≤ 64) : decide (andI ((s : Int).fdiv (2 ^ min k 64)) 1 = 1) = s.testBit k := by
  rw [Nat.min_eq_left hk, fdiv_pow, show (1 : Int) = ((1 : Nat) : Int) from rfl, andI_nat (Nat.lt_of_le_of_lt (Nat.div_le_self _ _) hs) (by omega)]
  have : (((s / 2 ^ k &&& 1 : Nat) : Int) = ((1 : Nat) : Int)) ↔ s.testBit k = true := by rw [← bit_one]; omega
  cases h : s.testBit k <;> simp [h] at this ⊢ <;> exact this
theorem pow_le {k : Nat} (m : Nat) (h : k ≤ m) : 2 ^ k ≤ 2 ^ m := Nat.pow_le_pow_right (by omega) h
theorem shl_nat {k : Nat} (h : k ≤ 62) : IntKind.i64.wrap (1 * 2 ^ (min ((k : Int)).toNat 64)) = ((2 ^ k : Nat) : Int) := by
  have h1 := pow_le 62 h
  have e : min ((k : Int)).toNat 64 = k := by omega
  rw [e, Int.one_mul]
  have e2 : (2 : Int) ^ k = ((2 ^ k : Nat) : Int) := by rw [Int.natCast_pow]; rfl
  rw [e2]
  generalize 2 ^ k = q at *
  exact wrap64 (by omega) (by omega)


theorem not_nat {s k : Nat} (hs : s < 9223372036854775808) (hk : k ≤ 62) : (andI ((s : Int).fdiv (2 ^ k)) 1 = 0) = ¬ s.testBit k = true := by
  have h := has_nat hs (show k ≤ 64 by omega)
  rw [Nat.min_eq_left (by omega)] at h
  have h1 : andI ((s : Int).fdiv (2 ^ k)) 1 = ((s / 2 ^ k &&& 1 : Nat) : Int) := by
    rw [fdiv_pow, show (1 : Int) = ((1 : Nat) : Int) from rfl, andI_nat (Nat.lt_of_le_of_lt (Nat.div_le_self _ _) hs) (by omega)]
  have h2 : s / 2 ^ k &&& 1 = 0 ∨ s / 2 ^ k &&& 1 = 1 := by
    rw [Nat.and_one_is_mod]; omega
  rw [h1] at h ⊢
  apply propext
  cases hb : s.testBit k
  · rw [hb] at h
    simp only [decide_eq_false_iff_not] at h
    constructor
    · intro _; simp
    · intro _; omega
  · rw [hb] at h
    simp only [decide_eq_true_eq] at h
    constructor
    · intro g; omega
    · intro g; exact absurd rfl g
theorem dif_le (s q : Nat) : dif s q ≤ s := Nat.and_le_left
theorem dif_bit {s k i : Nat} (hs : s < 4611686018427387904) (hk : k ≤ 60) : (dif s (2 ^ k)).testBit i = (s.testBit i && !decide (k = i)) := by
  have hp := pow_le 60 hk
  rw [testBit_dif (by omega) (by generalize 2 ^ k = q at *; omega), Nat.testBit_two_pow]
theorem dif_lt {s k : Nat} (hs : s < 4611686018427387904) (hk : k ≤ 60) (h : s.testBit k = true) : dif s (2 ^ k) < s := by
  have h1 := dif_le s (2 ^ k)
  rcases Nat.lt_or_ge (dif s (2 ^ k)) s with g | g
  · exact g
  · have e : dif s (2 ^ k) = s := by omega
    have := dif_bit (i := k) hs hk
    rw [e, h] at this
    simp at this
def cnt (d : Nat) : Nat → Nat
  | 0 => 0
  | i + 1 => cnt d i + if d.testBit i = true then 1 else 0
theorem cnt_congr {d e : Nat} : ∀ {n}, (∀ i, i < n → d.testBit i = e.testBit i) → cnt d n = cnt e n
  | 0, _ => rfl
  | n + 1, h => by simp only [cnt]; rw [cnt_congr (fun i hi => h i (by omega)), h n (by omega)]
theorem cnt_or {d k : Nat} (hd : d.testBit k = false) : ∀ {n}, k < n → cnt (d ||| 2 ^ k) n = cnt d n + 1
  | 0, h => by omega
  | n + 1, h => by
    simp only [cnt]
    by_cases e : k = n
    · subst e
      rw [cnt_congr (e := d) (n := k) fun i hi => by rw [Nat.testBit_or, Nat.testBit_two_pow]; simp [show ¬ k = i by omega]]
      rw [Nat.testBit_or, Nat.testBit_two_pow, hd]; simp
    · rw [cnt_or hd (n := n) (by omega), Nat.testBit_or, Nat.testBit_two_pow]
      simp [e]; omega
theorem cnt_zero : ∀ n, cnt 0 n = 0
  | 0 => rfl
  | n + 1 => by simp [cnt, cnt_zero n]
theorem cnt_all (n : Nat) : ∀ m, m ≤ n → cnt (2 ^ n - 1) m = m
  | 0, _ => rfl
  | m + 1, h => by simp only [cnt]; rw [cnt_all n m (by omega), Nat.testBit_two_pow_sub_one]; simp; omega


theorem cnt_dif {s k n : Nat} (hs : s < 4611686018427387904) (hk : k ≤ 60) (h : s.testBit k = true) (hkn : k < n) : cnt (dif s (2 ^ k)) n + 1 = cnt s n := by
  have h0 : (dif s (2 ^ k)).testBit k = false := by rw [dif_bit hs hk]; simp
  rw [← cnt_or h0 hkn]
  refine cnt_congr fun i _ => ?_
  rw [Nat.testBit_or, dif_bit hs hk, Nat.testBit_two_pow]
  by_cases e : k = i
  · subst e; simp [h]
  · simp [e]
theorem bit_of_pos {s n : Nat} (h0 : 0 < s) (hs : s < 2 ^ n) : ∃ k, k < n ∧ s.testBit k = true := by
  apply Classical.byContradiction
  intro hc
  have : s = 0 := by
    apply Nat.eq_of_testBit_eq
    intro i
    rw [Nat.zero_testBit]
    rcases Nat.lt_or_ge i n with hi | hi
    · cases hb : s.testBit i
      · rfl
      · exact absurd ⟨i, hi, hb⟩ hc
    · exact Nat.testBit_lt_two_pow (Nat.lt_of_lt_of_le hs (pow_le _ hi))
  omega
theorem cnt_pos {s n : Nat} (h0 : 0 < s) (hs : s < 2 ^ n) (h : s < 4611686018427387904) (hn : n ≤ 60) : 0 < cnt s n := by
  obtain ⟨k, hk, hb⟩ := bit_of_pos h0 hs
  have := cnt_dif h (by omega) hb hk
  omega
def smB (v : Nat → Int) (s : Nat) : Nat → Int
  | 0 => 0
  | k + 1 => smB v s k + if s.testBit k = true then v k else 0
theorem smB_dif {v : Nat → Int} {s j : Nat} (hs : s < 4611686018427387904) (hj : j ≤ 60) (hb : s.testBit j = true) : ∀ n, smB v (dif s (2 ^ j)) n + (if j < n then v j else 0) = smB v s n
  | 0 => by simp [smB]
  | n + 1 => by
    have ih := smB_dif (v := v) hs hj hb n
    simp only [smB, dif_bit hs hj]
    by_cases e : j = n
    · subst e
      rw [if_neg (show ¬ j < j by omega)] at ih
      rw [if_pos (show j < j + 1 by omega), hb]
      simp only [decide_true, Bool.not_true, Bool.and_false, Bool.false_eq_true, if_false, if_true]
      omega
    · simp only [e, decide_false, Bool.not_false, Bool.and_true]
      by_cases c : j < n
      · rw [if_pos c] at ih; rw [if_pos (show j < n + 1 by omega)]; omega
      · rw [if_neg c] at ih; rw [if_neg (show ¬ j < n + 1 by omega)]; omega
theorem smB_le {v : Nat → Int} {s : Nat} (hv : ∀ k, -1125899906842624 ≤ v k ∧ v k ≤ 1125899906842624) : ∀ n : Nat, -(1125899906842624 * (n : Int)) ≤ smB v s n ∧ smB v s n ≤ 1125899906842624 * (n : Int)
  | 0 => by simp [smB]
  | n + 1 => by
    have ih := smB_le (s := s) hv n
    have := hv n
    simp only [smB]
    split <;> omega
def scan (F : Nat → Int × Nat) (s : Nat) : Nat → Int × Nat
  | 0 => (-1, 0)
  | k + 1 => if s.testBit k = true ∧ (scan F s k).1 < (F (dif s (2 ^ k))).1 then ((F (dif s (2 ^ k))).1, k) else scan F s k
def tabW (v : Nat → Int) (n : Nat) : Nat → Nat → Int × Nat
  | 0 => fun _ => (0, 0)
  | s + 1 => fun i => if i = s + 1 then ((scan (tabW v n s) (s + 1) n).1 + (if smB v (s + 1) n = 0 then 1 else 0), (scan (tabW v n s) (s + 1) n).2) else tabW v n s i
theorem tabW_above {v : Nat → Int} {n : Nat} : ∀ {s i : Nat}, s < i → tabW v n s i = (0, 0)
  | 0, i, _ => rfl
  | s + 1, i, h => by
    simp only [tabW]
    rw [if_neg (by omega)]
    exact tabW_above (by omega)
theorem tabW_below {v : Nat → Int} {n : Nat} : ∀ {s i : Nat}, i ≤ s → tabW v n s i = tabW v n i i
  | 0, i, h => by have : i = 0 := by omega
                  subst this; rfl
  | s + 1, i, h => by
    by_cases e : i = s + 1
    · subst e; rfl
    · have : tabW v n (s + 1) i = tabW v n s i := by simp only [tabW]; rw [if_neg e]
      rw [this]
      exact tabW_below (by omega)
theorem scan_le {F : Nat → Int × Nat} {s : Nat} {m : Int} (h : ∀ i, (F i).1 ≤ m) (hm : -1 ≤ m) : ∀ k, -1 ≤ (scan F s k).1 ∧ (scan F s k).1 ≤ m
  | 0 => ⟨by simp [scan], by simpa [scan] using hm⟩
  | k + 1 => by
    have ih := scan_le (s := s) h hm k
    simp only [scan]
    split
    · rename_i c
      have := h (dif s (2 ^ k))
      exact ⟨by omega, this⟩
    · exact ih
theorem tabW_le {v : Nat → Int} {n : Nat} : ∀ (s i : Nat), -1 ≤ (tabW v n s i).1 ∧ (tabW v n s i).1 ≤ (s : Int)
  | 0, i => by simp [tabW]
  | s + 1, i => by
    have ih := tabW_le (v := v) (n := n) s
    have h := scan_le (s := s + 1) (m := s) (fun i => (ih i).2) (by omega) n
    simp only [tabW]
    split
    · dsimp only
      split <;> omega
    · have := ih i; omega
/-- The last account of a best order lies in the set, and the value is that of the rest. -/
theorem scan_bit {F : Nat → Int × Nat} {s : Nat} : ∀ {k}, -1 < (scan F s k).1 → (scan F s k).2 < k ∧ s.testBit (scan F s k).2 = true ∧ (scan F s k).1 = (F (dif s (2 ^ (scan F s k).2))).1
  | 0, h => by simp [scan] at h
  | k + 1, h => by
    simp only [scan] at h ⊢
    split
    · rename_i c
      exact ⟨by dsimp only; omega, c.1, rfl⟩
    · rename_i c
      rw [if_neg c] at h
      obtain ⟨h1, h2, h3⟩ := scan_bit h
      exact ⟨by omega, h2, h3⟩
theorem scan_max {F : Nat → Int × Nat} {s : Nat} : ∀ {k j}, j < k → s.testBit j = true → (F (dif s (2 ^ j))).1 ≤ (scan F s k).1
  | 0, j, h, _ => absurd h (by omega)
  | k + 1, j, h, hb => by
    simp only [scan]
    by_cases e : j = k
    · subst e
      split
      · exact Int.le_refl _
      · rename_i c
        have : ¬ (scan F s j).1 < (F (dif s (2 ^ j))).1 := fun g => c ⟨hb, g⟩
        omega
    · have ih := scan_max (F := F) (k := k) (show j < k by omega) hb
      split
      · rename_i c; dsimp only; omega
      · exact ih
/-- The value of a set. -/
def bst (v : Nat → Int) (n s : Nat) : Int := (tabW v n s s).1
def lst (v : Nat → Int) (n s : Nat) : Nat := (tabW v n s s).2
structure BstAt (v : Nat → Int) (n s : Nat) : Prop where
  nonneg : 0 ≤ bst v n s
  lt : 0 < s → lst v n s < n
  bit : 0 < s → s.testBit (lst v n s) = true
  val : 0 < s → bst v n s = bst v n (dif s (2 ^ lst v n s)) + if smB v s n = 0 then 1 else 0
  max : ∀ j, j < n → s.testBit j = true → bst v n (dif s (2 ^ j)) + (if smB v s n = 0 then 1 else 0) ≤ bst v n s
theorem bst_at {v : Nat → Int} {n : Nat} (hn : n ≤ 60) : ∀ m s, s ≤ m → s < 2 ^ n → BstAt v n s := by
  have hp := pow_le 60 hn
  intro m
  induction m with
  | zero =>
    intro s hs _
    have : s = 0 := by omega
    subst this
    exact ⟨by simp [bst, tabW], fun h => absurd h (by omega), fun h => absurd h (by omega), fun h => absurd h (by omega), fun j _ h => by simp at h⟩
  | succ m ih =>
    intro s hs hlt
    by_cases hsm : s ≤ m
    · exact ih s hsm hlt
    have e : s = m + 1 := by omega
    subst e
    have hs62 : m + 1 < 4611686018427387904 := by generalize 2 ^ n = q at *; omega
    have hF : ∀ j, (m + 1).testBit j = true → j < n → (tabW v n m (dif (m + 1) (2 ^ j))).1 = bst v n (dif (m + 1) (2 ^ j)) := fun j hj hjn => by
      have := dif_lt hs62 (by omega) hj
      rw [tabW_below (by omega)]; rfl
    have hb0 : ∀ j, (m + 1).testBit j = true → j < n → 0 ≤ bst v n (dif (m + 1) (2 ^ j)) := fun j hj hjn => by
      have := dif_lt hs62 (by omega) hj
      exact (ih _ (by omega) (by omega)).nonneg
    obtain ⟨k, hk, hkb⟩ := bit_of_pos (by omega : 0 < m + 1) hlt
    have hmax := scan_max (F := tabW v n m) hk hkb
    rw [hF k hkb hk] at hmax
    have := hb0 k hkb hk
    obtain ⟨g1, g2, g3⟩ := scan_bit (F := tabW v n m) (s := m + 1) (k := n) (by omega)
    rw [hF _ g2 g1] at g3
    have e1 : bst v n (m + 1) = (scan (tabW v n m) (m + 1) n).1 + if smB v (m + 1) n = 0 then 1 else 0 := by simp [bst, tabW]
    have e2 : lst v n (m + 1) = (scan (tabW v n m) (m + 1) n).2 := by simp [lst, tabW]
    refine ⟨?_, fun _ => by rw [e2]; exact g1, fun _ => by rw [e2]; exact g2, fun _ => by rw [e1, e2, g3], fun j hj hjb => ?_⟩
    · rw [e1]; split <;> omega
    · have := scan_max (F := tabW v n m) hj hjb
      rw [hF j hjb hj] at this
      rw [e1]; omega
def setA (v : Nat → Int) (n : Nat) : Nat → Nat
  | 0 => 2 ^ n - 1
  | j + 1 => dif (setA v n j) (2 ^ lst v n (setA v n j))
def outA (v : Nat → Int) (n : Nat) (l : List Int) : Nat → List Int
  | 0 => []
  | j + 1 => outA v n l j ++ [l.getD (lst v n (setA v n j)) 0]
theorem outA_len {v : Nat → Int} {n : Nat} {l : List Int} : ∀ j, (outA v n l j).length = j
  | 0 => rfl
  | j + 1 => by rw [outA, List.length_append, outA_len j]; rfl
theorem setA_cnt {v : Nat → Int} {n : Nat} (hn : n ≤ 60) : ∀ j, j ≤ n → cnt (setA v n j) n = n - j ∧ setA v n j < 2 ^ n
  | 0, _ => ⟨by simp [setA, cnt_all n n (Nat.le_refl _)], by have : 0 < 2 ^ n := Nat.two_pow_pos n
                                                             simp only [setA]; omega⟩
  | j + 1, h => by
    obtain ⟨h1, h2⟩ := setA_cnt (v := v) hn j (by omega)
    have hp := pow_le 60 hn
    have h3 : setA v n j < 4611686018427387904 := by generalize 2 ^ n = q at *; omega
    have h0 : 0 < setA v n j := by
      rcases Nat.eq_zero_or_pos (setA v n j) with g | g
      · rw [g, cnt_zero] at h1; omega
      · exact g
    have hb := bst_at (v := v) hn _ _ (Nat.le_refl _) h2
    have := cnt_dif h3 (by have := hb.lt h0; omega) (hb.bit h0) (hb.lt h0)
    have := dif_le (setA v n j) (2 ^ lst v n (setA v n j))
    simp only [setA]
    omega
theorem setA_pos {v : Nat → Int} {n : Nat} (hn : n ≤ 60) {j : Nat} (h : j < n) : 0 < setA v n j := by
  obtain ⟨h1, _⟩ := setA_cnt (v := v) hn j (by omega)
  rcases Nat.eq_zero_or_pos (setA v n j) with g | g
  · rw [g, cnt_zero] at h1; omega
  · exact g
theorem setA_end {v : Nat → Int} {n : Nat} (hn : n ≤ 60) : setA v n n = 0 := by
  obtain ⟨h1, h2⟩ := setA_cnt (v := v) hn n (Nat.le_refl _)
  have hp := pow_le 60 hn
  rcases Nat.eq_zero_or_pos (setA v n n) with g | g
  · exact g
  · have := cnt_pos g h2 (by generalize 2 ^ n = q at *; omega) hn
    omega
end Sim
