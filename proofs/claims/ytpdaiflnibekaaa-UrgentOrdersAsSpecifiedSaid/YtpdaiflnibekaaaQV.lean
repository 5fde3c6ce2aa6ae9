/- What functions of this seat compute, by values: contracts (lemmas of the statement's proof, under the conditions that each names). -/
import Derived.Test.YtpdaiflnibekaaaQT
namespace Sim
open Go Go.Proofs
set_option linter.unusedVariables false
set_option linter.unusedSimpArgs false
abbrev Rep := Int × Int × Int × Int
abbrev dR : Rep := (0, 0, 0, 0)
abbrev repV (a : Rep) : PV := .agg [I a.1, I a.2.1, I a.2.2.1, I a.2.2.2]
abbrev reps (l : List Rep) : PV := .lits 4 (l.map repV)
abbrev crew (st : Int) (l : List Rep) : PV := .agg [I st, reps l]
theorem nth_reps {l : List Rep} {k : Nat} (h : k < l.length) : nth (l.map repV) k = .agg [I (l.getD k dR).1, I (l.getD k dR).2.1, I (l.getD k dR).2.2.1, I (l.getD k dR).2.2.2] := nth_mapD dR h
theorem pur_reps {l : List Rep} : pursL (l.map repV) = true := pur_map fun x => by simp [pur_agg, pursL_cons, pur_int, pursL_nil]
theorem inj_reps {l m : List Rep} : (l.map repV = m.map repV) = (l = m) := inj_map fun x y h => by
  simp only [PV.agg.injEq, List.cons.injEq, true_and, and_true, PV.int.injEq] at h
  exact Prod.ext h.1 (Prod.ext h.2.1 (Prod.ext h.2.2.1 h.2.2.2))

/-! Sets of small numbers. -/
def andI (a b : Int) : Int := IntKind.i64.wrap (BitVec.ofInt 64 a &&& BitVec.ofInt 64 b).toNat
def andNI (a b : Int) : Int := IntKind.i64.wrap (BitVec.ofInt 64 a &&& ~~~ BitVec.ofInt 64 b).toNat
theorem and_i64 {a b : Int} : intBitsP .and .i64 a b = some (andI a b) := nrfl rfl
theorem andNot_i64 {a b : Int} : intBitsP .andNot .i64 a b = some (andNI a b) := nrfl rfl
theorem ofInt_nat {a : Nat} (h : a < 9223372036854775808) : (BitVec.ofInt 64 (a : Int)).toNat = a := by
  rw [BitVec.toNat_ofInt]
  have : ((a : Int) % ((2 ^ 64 : Nat) : Int)) = a := Int.emod_eq_of_lt (by omega) (by simp only [Nat.reducePow]; omega)
  rw [this]; simp
theorem andI_nat {a b : Nat} (ha : a < 9223372036854775808) (hb : b < 9223372036854775808) : andI a b = ((a &&& b : Nat) : Int) := by
  unfold andI
  rw [BitVec.toNat_and, ofInt_nat ha, ofInt_nat hb]
  have := @Nat.and_le_left a b
  exact wrap64 (by omega) (by omega)
theorem or_lt {a b : Nat} (n : Nat) (ha : a < 2 ^ n) (hb : b < 2 ^ n) : a ||| b < 2 ^ n := Nat.or_lt_two_pow ha hb
theorem orI_nat {a b : Nat} (ha : a < 9223372036854775808) (hb : b < 9223372036854775808) : orI a b = ((a ||| b : Nat) : Int) := by
  unfold orI
  rw [BitVec.toNat_or, ofInt_nat ha, ofInt_nat hb]
  have := or_lt 63 ha hb
  exact wrap64 (by omega) (by omega)
def dif (a b : Nat) : Nat := a &&& (18446744073709551615 - b)
theorem andNI_nat {a b : Nat} (ha : a < 9223372036854775808) (hb : b < 9223372036854775808) : andNI a b = ((dif a b : Nat) : Int) := by
  unfold andNI
  rw [BitVec.toNat_and, BitVec.toNat_not, ofInt_nat ha, ofInt_nat hb]
  have := @Nat.and_le_left a (2 ^ 64 - 1 - b)
  exact wrap64 (by omega) (by omega)
theorem lt_two {a i : Nat} (ha : a < 9223372036854775808) (hi : a.testBit i = true) : i < 63 := by
  rcases Nat.lt_or_ge i 63 with h | h
  · exact h
  · have : a < 2 ^ i := Nat.lt_of_lt_of_le ha (by have := Nat.pow_le_pow_right (n := 2) (by omega) h; omega)
    rw [Nat.testBit_lt_two_pow this] at hi; cases hi
theorem testBit_dif {a b i : Nat} (ha : a < 9223372036854775808) (hb : b < 9223372036854775808) : (dif a b).testBit i = (a.testBit i && !b.testBit i) := by
  unfold dif
  rw [Nat.testBit_and]
  cases hi : a.testBit i with
  | false => rfl
  | true =>
    have h2 := lt_two ha hi
    have e : 18446744073709551615 - b = 2 ^ 64 - (b + 1) := by omega
    rw [e, Nat.testBit_two_pow_sub_succ (by omega)]
    simp; omega
/-- a is part of b. -/
def sub (a b : Nat) : Bool := a &&& b == a
theorem sub_iff {a b : Nat} : sub a b = true ↔ ∀ i, a.testBit i = true → b.testBit i = true := by
  simp only [sub, beq_iff_eq]
  constructor
  · intro h i hi
    rw [← h, Nat.testBit_and] at hi
    simp only [Bool.and_eq_true] at hi; exact hi.2
  · intro h
    apply Nat.eq_of_testBit_eq
    intro i
    rw [Nat.testBit_and]
    cases hi : a.testBit i with
    | false => rfl
    | true => rw [h i hi]; rfl
theorem dif_zero {a b : Nat} (ha : a < 9223372036854775808) (hb : b < 9223372036854775808) : dif a b = 0 ↔ sub a b = true := by
  rw [sub_iff]
  constructor
  · intro h i hi
    have := testBit_dif (i := i) ha hb
    rw [h, hi] at this
    simpa using this
  · intro h
    apply Nat.eq_of_testBit_eq
    intro i
    rw [testBit_dif ha hb, Nat.zero_testBit]
    cases hi : a.testBit i with
    | false => rfl
    | true => rw [h i hi]; rfl
theorem fdiv_pow {a j : Nat} : (a : Int).fdiv (2 ^ j) = ((a / 2 ^ j : Nat) : Int) := by
  rw [Int.fdiv_eq_ediv_of_nonneg _ (Int.le_of_lt (Int.pow_pos (by decide)))]
  rw [Int.natCast_ediv, Int.natCast_pow]; rfl
theorem bit_one {a j : Nat} : a / 2 ^ j &&& 1 = 1 ↔ a.testBit j = true := by
  rw [Nat.testBit, Nat.shiftRight_eq_div_pow, Nat.and_comm]
  generalize a / 2 ^ j = x
  have : 1 &&& x = x % 2 := by rw [Nat.and_comm, Nat.and_one_is_mod]
  rw [this]
  have := Nat.mod_two_eq_zero_or_one x
  rcases this with h | h <;> simp [h]
theorem has_nat {s k : Nat} (hs : s < 9223372036854775808) (hk : k ≤ 64) : decide (andI ((s : Int).fdiv (2 ^ min k 64)) 1 = 1) = s.testBit k := by
  rw [Nat.min_eq_left hk, fdiv_pow, show (1 : Int) = ((1 : Nat) : Int) from rfl, andI_nat (Nat.lt_of_le_of_lt (Nat.div_le_self _ _) hs) (by omega)]
  have : (((s / 2 ^ k &&& 1 : Nat) : Int) = ((1 : Nat) : Int)) ↔ s.testBit k = true := by rw [← bit_one]; omega
  cases h : s.testBit k <;> simp [h] at this ⊢ <;> exact this
theorem pow_le {k : Nat} (m : Nat) (h : k ≤ m) : 2 ^ k ≤ 2 ^ m := Nat.pow_le_pow_right (by omega) h
theorem shl_nat {k : Nat} (h : k ≤ 62) : IntKind.i64.wrap (1 * 2 ^ (min ((k : Int)).toNat 64)) = ((2 ^ k : Nat) : Int) := by
  have h1 := pow_le 62 h
  have e : min ((k : Int)).toNat 64 = k := by omega
  rw [e, Int.one_mul]
  have e2 : (2 : Int) ^ k = ((2 ^ k : Nat) : Int) := by rw [Int.natCast_pow]; rfl
  rw [e2]
  generalize 2 ^ k = q at *
  exact wrap64 (by omega) (by omega)

/-! Parts of a crew. -/
def tk (rs : List Rep) (k : Nat) : Int := (rs.getD k dR).1
def du (rs : List Rep) (k : Nat) : Int := (rs.getD k dR).2.1
def ch (rs : List Rep) (k : Nat) : Int := (rs.getD k dR).2.2.1
def af (rs : List Rep) (k : Nat) : Int := (rs.getD k dR).2.2.2
def ac (rs : List Rep) (k : Nat) : Nat := (af rs k).toNat
end Sim
