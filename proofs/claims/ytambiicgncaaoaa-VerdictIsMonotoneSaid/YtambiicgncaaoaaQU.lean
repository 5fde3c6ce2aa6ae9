/- What functions of this seat compute, by values: contracts (lemmas of the statement's proof, under the conditions that each names). -/
import Derived.Test.YtambiicgncaaoaaQS
namespace Sim
open Go Go.Proofs
set_option maxRecDepth 100000
theorem t_sanity : evV Try.prog 40 400 cf46 10 16 [] = some (.bool true) := by kernel_rfl
theorem sanity_ok : VC Try.prog 16 [] (.bool true) := evV_sound mixed0 _ _ _ _ t_sanity
end Sim
