/- What functions of this seat compute, by values: contracts (lemmas of the statement's proof, under the conditions that each names). -/
import Derived.Test.YtambiicgncaaoaaQS
namespace Sim
open Go Go.Proofs
set_option maxRecDepth 100000
set_option linter.unusedVariables false
/-- The number of sets of i of n, as the loop builds it. -/
def binM (n : Nat) : Nat → Nat
  | 0 => 1
  | i + 1 => binM n i * (n - i) / (i + 1)
def isTup (o : Option PV) (a b : Int) : Bool := match o with
  | some (.tuple [.int .u64 x, .int .u64 y]) => x == a && y == b
  | _ => false
theorem isTup_eq {o : Option PV} {a b : Int} (h : isTup o a b = true) : o = some (.tuple [.int .u64 a, .int .u64 b]) := by
  unfold isTup at h
  split at h
  · simp only [Bool.and_eq_true, beq_iff_eq] at h; rw [h.1, h.2]
  · cases h
noncomputable def mulB (n : Nat) : Bool := (List.range (n / 2)).all fun i => isTup (evV Try.prog 40 60 cf46 2 30 [.int .u64 (binM n i), .int .u64 ((n - i : Nat) : Int)]) 0 ((binM n i * (n - i) : Nat) : Int)
noncomputable def divB (n : Nat) : Bool := (List.range (n / 2)).all fun i => isTup (evV Try.prog 40 60 cf46 4 31 [.int .u64 0, .int .u64 ((binM n i * (n - i) : Nat) : Int), .int .u64 ((i + 1 : Nat) : Int)]) ((binM n (i + 1) : Nat) : Int) ((binM n i * (n - i) % (i + 1) : Nat) : Int)
theorem mulAll : ((List.range 61).all mulB) = true := by kernel_rfl
theorem divAll : ((List.range 61).all divB) = true := by kernel_rfl
theorem vc_mul {n i : Nat} (hn : n ≤ 60) (hi : i < n / 2) : VC Try.prog 30 [.int .u64 (binM n i), .int .u64 ((n - i : Nat) : Int)] (.tuple [.int .u64 0, .int .u64 ((binM n i * (n - i) : Nat) : Int)]) :=
  evV_sound mixed0 _ _ _ _ (isTup_eq (List.all_eq_true.1 (List.all_eq_true.1 mulAll n (List.mem_range.2 (by omega))) i (List.mem_range.2 hi)))
theorem vc_div {n i : Nat} (hn : n ≤ 60) (hi : i < n / 2) : VC Try.prog 31 [.int .u64 0, .int .u64 ((binM n i * (n - i) : Nat) : Int), .int .u64 ((i + 1 : Nat) : Int)] (.tuple [.int .u64 ((binM n (i + 1) : Nat) : Int), .int .u64 ((binM n i * (n - i) % (i + 1) : Nat) : Int)]) :=
  evV_sound mixed0 _ _ _ _ (isTup_eq (List.all_eq_true.1 (List.all_eq_true.1 divAll n (List.mem_range.2 (by omega))) i (List.mem_range.2 hi)))
end Sim
