/- What functions of this seat compute, by values: contracts (lemmas of the statement's proof, under the conditions that each names). -/
import Derived.Test.YtmgklnbhbomlnaaQN1
namespace Sim
open Go Go.Proofs
set_option maxRecDepth 10000
set_option maxHeartbeats 2000000
set_option linter.unusedVariables false
set_option linter.unusedSimpArgs false
attribute [local congr] opsIf_congr condC_congr guardC_congr grd_congr pick3_congr obind_congr omap_congr nilC_congr
theorem wrapN' {k : Nat} (h : k ≤ 100000) : IntKind.i64.wrap ((k : Int) + 1) = ((k + 1 : Nat) : Int) := by rw [wrap64 (by omega) (by omega)]; omega
end Sim

namespace Sim
open Go Go.Proofs
set_option maxRecDepth 10000
set_option maxHeartbeats 2000000
set_option linter.unusedVariables false
set_option linter.unusedSimpArgs false
attribute [local congr] opsIf_congr condC_congr guardC_congr grd_congr pick3_congr obind_congr omap_congr nilC_congr opsV_congr
def accO (n x : Int) : Prop := 0 ≤ x ∧ x < n
instance (n x : Int) : Decidable (accO n x) := by unfold accO; infer_instance
def rngO (p : Pst) : Prop := (1 ≤ p.2.2.1 ∧ p.2.2.1 ≤ 1099511627776) ∧ (0 ≤ p.2.2.2.1 ∧ p.2.2.2.1 ≤ 1000000) ∧ (1 ≤ p.2.2.2.2.1 ∧ p.2.2.2.2.1 ≤ 7) ∧ (0 ≤ p.2.2.2.2.2 ∧ p.2.2.2.2.2 ≤ 1099511627776)
instance (p : Pst) : Decidable (rngO p) := by unfold rngO; infer_instance
end Sim

namespace Sim
open Go Go.Proofs
set_option maxRecDepth 10000
set_option maxHeartbeats 2000000
set_option linter.unusedVariables false
set_option linter.unusedSimpArgs false
attribute [local congr] opsIf_congr condC_congr guardC_congr grd_congr pick3_congr obind_congr omap_congr nilC_congr opsV_congr
end Sim

namespace Sim
open Go Go.Proofs
set_option maxRecDepth 10000
set_option maxHeartbeats 2000000
set_option linter.unusedVariables false
set_option linter.unusedSimpArgs false
attribute [local congr] opsIf_congr condC_congr guardC_congr grd_congr pick3_congr obind_congr omap_congr nilC_congr opsV_congr
structure BookOK (n : Int) (ps : List Pst) : Prop where
  num : 1 ≤ n ∧ n ≤ 40
  len : ps.length ≤ 10000
  one : ∀ k, k < ps.length → (accO n (ps.getD k dP).1 ∧ accO n (ps.getD k dP).2.1 ∧ ¬ (ps.getD k dP).1 = (ps.getD k dP).2.1) ∧ rngO (ps.getD k dP)
  asc : ∀ k, 0 < k → k < ps.length → (ps.getD (k - 1) dP).2.2.2.1 ≤ (ps.getD k dP).2.2.2.1
end Sim
