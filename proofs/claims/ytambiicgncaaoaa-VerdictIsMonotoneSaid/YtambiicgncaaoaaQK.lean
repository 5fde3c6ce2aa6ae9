/- What functions of this seat compute, by values: contracts (lemmas of the statement's proof, under the conditions that each names). -/
import Derived.Test.YtambiicgncaaoaaQJ
namespace Sim
open Go Go.Proofs
set_option maxRecDepth 10000
set_option maxHeartbeats 2000000
set_option linter.unusedVariables false
set_option linter.unusedSimpArgs false
/-! Numbers as digits to the base of a million. -/
def valU (f : Nat → Int) : Nat → Int
  | 0 => 0
  | k + 1 => valU f k + f k * 1000000 ^ k
def dig (l : List Int) (i : Nat) : Int := l.getD i 0
def val (l : List Int) : Int := valU (dig l) l.length
def isDig (x : Int) : Prop := 0 ≤ x ∧ x < 1000000
theorem valU_congr {f g : Nat → Int} {n : Nat} (h : ∀ i, i < n → f i = g i) : valU f n = valU g n := by
  induction n with
  | zero => rfl
  | succ n ih => simp only [valU]; rw [ih (fun i hi => h i (by omega)), h n (by omega)]
theorem val_concat {l : List Int} {x : Int} : val (l ++ [x]) = val l + x * 1000000 ^ l.length := by
  simp only [val, List.length_append, List.length_singleton, valU]
  congr 1
  · exact valU_congr fun i hi => by simp [dig, List.getD, List.getElem?_append_left hi, hi]
  · simp [dig, List.getD]
theorem dig_is {l : List Int} (h : ∀ x ∈ l, isDig x) (i : Nat) : isDig (dig l i) := by
  unfold dig
  by_cases hi : i < l.length
  · exact h _ (getD_mem 0 hi)
  · rw [List.getD_eq_getElem?_getD, List.getElem?_eq_none (by omega)]; exact ⟨by simp, by simp⟩
theorem valU_ext {l : List Int} {n : Nat} (h : l.length ≤ n) : valU (dig l) n = val l := by
  induction n with
  | zero => have : l.length = 0 := by omega
            simp [val, this]
  | succ n ih =>
    by_cases e : l.length = n + 1
    · simp [val, e]
    · simp only [valU]
      rw [ih (by omega), show dig l n = 0 by rw [dig, List.getD_eq_getElem?_getD, List.getElem?_eq_none (by omega)]; rfl]
      omega
theorem pow_pos' (k : Nat) : (0 : Int) < 1000000 ^ k := Int.pow_pos (by decide)
theorem valU_bound {f : Nat → Int} (h : ∀ i, isDig (f i)) (k : Nat) : 0 ≤ valU f k ∧ valU f k < 1000000 ^ k := by
  induction k with
  | zero => simp [valU]
  | succ k ih =>
    have := h k
    have hp := pow_pos' k
    have h1 : 0 ≤ f k * 1000000 ^ k := Int.mul_nonneg this.1 (by omega)
    have h2 : f k * 1000000 ^ k ≤ 999999 * 1000000 ^ k := Int.mul_le_mul_of_nonneg_right (by have := this.2; omega) (by omega)
    simp only [valU, Int.pow_succ]
    omega
theorem valU_lt {f g : Nat → Int} (hf : ∀ i, isDig (f i)) (hg : ∀ i, isDig (g i)) {k : Nat} (h : f k < g k) : ∀ m, (∀ i, k < i → i < k + 1 + m → f i = g i) → valU f (k + 1 + m) < valU g (k + 1 + m)
  | 0, _ => by
    have h1 := valU_bound hf k
    have h2 := valU_bound hg k
    have h3 : (f k + 1) * 1000000 ^ k ≤ g k * 1000000 ^ k := Int.mul_le_mul_of_nonneg_right (by omega) (by have := pow_pos' k; omega)
    rw [Int.add_mul] at h3
    simp only [Nat.add_zero, valU]
    omega
  | m + 1, he => by
    have := valU_lt hf hg h m (fun i h1 h2 => he i h1 (by omega))
    show valU f (k + 1 + m) + f (k + 1 + m) * _ < valU g (k + 1 + m) + g (k + 1 + m) * _
    rw [he (k + 1 + m) (by omega) (by omega)]
    omega
theorem val_lt {a b : List Int} (ha : ∀ x ∈ a, isDig x) (hb : ∀ x ∈ b, isDig x) {k n : Nat} (hk : k < n) (h1 : a.length ≤ n) (h2 : b.length ≤ n) (h : dig a k < dig b k) (he : ∀ i, k < i → i < n → dig a i = dig b i) : val a < val b := by
  obtain ⟨m, rfl⟩ : ∃ m, n = k + 1 + m := ⟨n - (k + 1), by omega⟩
  have := valU_lt (dig_is ha) (dig_is hb) h m he
  rwa [valU_ext h1, valU_ext h2] at this
theorem val_eq {a b : List Int} {n : Nat} (h1 : a.length ≤ n) (h2 : b.length ≤ n) (he : ∀ i, i < n → dig a i = dig b i) : val a = val b := by
  rw [← valU_ext h1, ← valU_ext h2]; exact valU_congr he
/-- The digits of a number. -/
def digs (c : Nat) : List Int := if h : c = 0 then [] else ((c % 1000000 : Nat) : Int) :: digs (c / 1000000)
theorem digs_zero : digs 0 = [] := by rw [digs]; rfl
theorem digs_pos {c : Nat} (h : 0 < c) : digs c = ((c % 1000000 : Nat) : Int) :: digs (c / 1000000) := by
  rw [digs, dif_neg (by omega)]
theorem digs_is (c : Nat) : ∀ x ∈ digs c, isDig x := by
  induction c using Nat.strongRecOn with
  | _ c ih =>
    rcases Nat.eq_zero_or_pos c with rfl | h
    · rw [digs_zero]; simp
    · rw [digs_pos h]
      intro x hx
      rcases List.mem_cons.1 hx with rfl | hx
      · exact ⟨by omega, by omega⟩
      · exact ih _ (by omega) x hx
theorem digs_len (c : Nat) : ∀ m, c < 1000000 ^ m → (digs c).length ≤ m := by
  induction c using Nat.strongRecOn with
  | _ c ih =>
    intro m hm
    rcases Nat.eq_zero_or_pos c with rfl | h
    · rw [digs_zero]; simp
    · rw [digs_pos h]
      cases m with
      | zero => simp at hm; omega
      | succ m =>
        have := ih (c / 1000000) (by omega) m (by rw [Nat.pow_succ] at hm; exact Nat.div_lt_of_lt_mul (by rwa [Nat.mul_comm]))
        simp; omega
theorem val_digs (c : Nat) : ∀ a : List Int, val (a ++ digs c) = val a + c * 1000000 ^ a.length := by
  induction c using Nat.strongRecOn with
  | _ c ih =>
    intro a
    rcases Nat.eq_zero_or_pos c with rfl | h
    · rw [digs_zero]; simp
    · rw [digs_pos h, show a ++ ((c % 1000000 : Nat) : Int) :: digs (c / 1000000) = (a ++ [((c % 1000000 : Nat) : Int)]) ++ digs (c / 1000000) by simp, ih _ (by omega), val_concat]
      simp only [List.length_append, List.length_singleton, Int.pow_succ]
      generalize (1000000 : Int) ^ a.length = P
      have e : (c : Int) = ((c % 1000000 : Nat) : Int) + ((c / 1000000 : Nat) : Int) * 1000000 := by omega
      generalize ((c % 1000000 : Nat) : Int) = x at *
      generalize ((c / 1000000 : Nat) : Int) = y at *
      rw [e, Int.add_mul, Int.mul_comm P 1000000, ← Int.mul_assoc]
      omega
/-- The carry, and the digits, of a product. -/
def carr (l : List Int) (y : Int) : Nat → Int
  | 0 => 0
  | k + 1 => (dig l k * y + carr l y k) / 1000000
def outs (l : List Int) (y : Int) (k : Nat) : List Int := (List.range k).map fun i => (dig l i * y + carr l y i) % 1000000
theorem outs_len {l : List Int} {y : Int} {k : Nat} : (outs l y k).length = k := by simp [outs]
theorem outs_succ {l : List Int} {y : Int} {k : Nat} : outs l y (k + 1) = outs l y k ++ [(dig l k * y + carr l y k) % 1000000] := by simp [outs, List.range_succ]
theorem outs_is {l : List Int} {y : Int} {k : Nat} : ∀ x ∈ outs l y k, isDig x := by
  intro x hx
  simp only [outs, List.mem_map] at hx
  obtain ⟨i, _, rfl⟩ := hx
  exact ⟨Int.emod_nonneg _ (by decide), Int.emod_lt_of_pos _ (by decide)⟩
theorem mul_dig {d y : Int} (hd : isDig d) (hy : 0 ≤ y) : 0 ≤ d * y ∧ d * y ≤ 999999 * y :=
  ⟨Int.mul_nonneg hd.1 hy, Int.mul_le_mul_of_nonneg_right (by have := hd.2; omega) hy⟩
theorem carr_bound {l : List Int} {y : Int} (hl : ∀ x ∈ l, isDig x) (hy : 0 ≤ y) (k : Nat) : 0 ≤ carr l y k ∧ carr l y k ≤ y := by
  induction k with
  | zero => exact ⟨by simp [carr], by simpa [carr] using hy⟩
  | succ k ih =>
    have := mul_dig (dig_is hl k) hy
    simp only [carr]
    omega
theorem outs_val {l : List Int} {y : Int} (k : Nat) : val (outs l y k) + carr l y k * 1000000 ^ k = valU (dig l) k * y := by
  induction k with
  | zero => simp [outs, val, valU, carr]
  | succ k ih =>
    rw [outs_succ, val_concat, outs_len]
    simp only [carr, valU]
    generalize hz : dig l k * y + carr l y k = z
    have e : z = z % 1000000 + z / 1000000 * 1000000 := by omega
    rw [Int.add_mul, ← ih, Int.pow_succ]
    have e2 : carr l y k = z - dig l k * y := by omega
    rw [e2]
    generalize (1000000 : Int) ^ k = P
    generalize z % 1000000 = u at *
    generalize z / 1000000 = v at *
    rw [Int.sub_mul, e, Int.add_mul, Int.mul_comm P 1000000, ← Int.mul_assoc, Int.mul_assoc (dig l k) P y, Int.mul_comm P y, ← Int.mul_assoc]
    omega
def timesM (l : List Int) (y : Int) : List Int := outs l y l.length ++ digs (carr l y l.length).toNat
theorem timesM_is {l : List Int} {y : Int} : ∀ x ∈ timesM l y, isDig x := by
  intro x hx
  rcases List.mem_append.1 hx with h | h
  · exact outs_is x h
  · exact digs_is _ x h
theorem timesM_val {l : List Int} {y : Int} (hl : ∀ x ∈ l, isDig x) (hy : 0 ≤ y) : val (timesM l y) = val l * y := by
  have h := (carr_bound hl hy l.length).1
  rw [timesM, val_digs, outs_len, Int.toNat_of_nonneg h, outs_val]
  rfl
theorem timesM_len {l : List Int} {y : Int} (hl : ∀ x ∈ l, isDig x) (hy : 0 ≤ y) (hy' : y ≤ 155117520) : (timesM l y).length ≤ l.length + 2 := by
  have h := carr_bound hl hy l.length
  have := digs_len (carr l y l.length).toNat 2 (by omega)
  simp only [timesM, List.length_append, outs_len]
  omega
end Sim
