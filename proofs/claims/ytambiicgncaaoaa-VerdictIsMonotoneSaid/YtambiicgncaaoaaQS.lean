/- What functions of this seat compute, by values: contracts (lemmas of the statement's proof, under the conditions that each names). -/
import Derived.Test.YtambiicgncaaoaaSimZ
import Derived.Test.YtambiicgncaaoaaProg
import Derived.KernelRfl
namespace Sim
open Go Go.Proofs
set_option maxRecDepth 100000
set_option maxHeartbeats 2000000
theorem mixed0 : Try.prog.follows .mixedOrders = true := by kernel_rfl
def cf46 : Nat → List Nat × List Nat := fun f => ([], [])
theorem t_len : evV Try.prog 40 300 cf46 2 34 [.int .u64 1000] = some (I 10) := by kernel_rfl
end Sim
