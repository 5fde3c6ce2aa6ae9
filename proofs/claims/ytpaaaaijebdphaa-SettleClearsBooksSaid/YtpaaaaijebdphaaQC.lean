/- What functions of this seat compute, by values: contracts (lemmas of the statement's proof, under the conditions that each names). -/
import Derived.Test.YtpaaaaijebdphaaQB
namespace Sim
open Go Go.Proofs
set_option maxRecDepth 10000
set_option maxHeartbeats 2000000
set_option linter.unusedVariables false
set_option linter.unusedSimpArgs false
attribute [local congr] opsIf_congr condC_congr guardC_congr grd_congr pick3_congr obind_congr omap_congr nilC_congr
theorem wrapN' {k : Nat} (h : k ≤ 100000) : IntKind.i64.wrap ((k : Int) + 1) = ((k + 1 : Nat) : Int) := by rw [wrap64 (by omega) (by omega)]; omega
theorem list_at {b : List Int} {q : Int → Prop} (h : ∀ j, j < b.length → q (b.getD j 0)) : ∀ p ∈ b, q p := fun p hp => by
  obtain ⟨k, hk, rfl⟩ := List.getElem_of_mem hp
  have := h k hk
  simpa [hk] using this
theorem at_list {b : List Int} {q : Int → Prop} (h : ∀ p ∈ b, q p) : ∀ j, j < b.length → q (b.getD j 0) := fun j hj => by
  have := h _ (List.getElem_mem hj)
  simpa [hj] using this
end Sim
