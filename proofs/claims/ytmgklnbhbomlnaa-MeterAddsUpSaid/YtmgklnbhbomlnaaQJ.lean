/- What functions of this seat compute, by values: contracts (lemmas of the statement's proof, under the conditions that each names). -/
import Derived.Test.YtmgklnbhbomlnaaQA
namespace Sim
open Go Go.Proofs
set_option maxRecDepth 10000
set_option maxHeartbeats 2000000
set_option linter.unusedVariables false
set_option linter.unusedSimpArgs false
attribute [local congr] opsIf_congr condC_congr guardC_congr grd_congr pick3_congr obind_congr omap_congr nilC_congr opsV_congr
def accO (n x : Int) : Prop := 0 ≤ x ∧ x < n
instance (n x : Int) : Decidable (accO n x) := by unfold accO; infer_instance
def rngO (p : Pst) : Prop := (1 ≤ p.2.2.1 ∧ p.2.2.1 ≤ 1099511627776) ∧ (0 ≤ p.2.2.2.1 ∧ p.2.2.2.1 ≤ 1000000) ∧ (1 ≤ p.2.2.2.2.1 ∧ p.2.2.2.2.1 ≤ 7) ∧ (0 ≤ p.2.2.2.2.2 ∧ p.2.2.2.2.2 ≤ 1099511627776)
instance (p : Pst) : Decidable (rngO p) := by unfold rngO; infer_instance
end Sim
