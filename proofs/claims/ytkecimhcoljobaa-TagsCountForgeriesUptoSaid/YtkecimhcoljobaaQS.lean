/- What functions of this seat compute, by values: contracts (lemmas of the statement's proof, under the conditions that each names). -/
import Derived.Test.YtkecimhcoljobaaSimZ
import Derived.Test.YtkecimhcoljobaaQV
namespace Sim
open Go Go.Proofs
set_option maxRecDepth 100000
set_option maxHeartbeats 2000000
theorem mixed0 : Try.prog.follows .mixedOrders = true := by kernel_rfl
def cf43 : Nat → List Nat × List Nat := fun f => if f = 10 then ([], [115]) else ([], [])
theorem t_make : evV Try.prog 40 300 cf43 5 13 [.agg [ints [2, 3], ints [10, 20]], I 0, .str [97, 98, 99]] = some (.tuple [I 12764368, I 0]) := by kernel_rfl
theorem t_answer : evV Try.prog 40 300 cf43 6 10 [I 2, .lits 1 [.str [97, 98, 99], .str [97, 98, 99, 100]], ints [12764368, 32425178], .lits 2 [.agg [I 0, I 1], .agg [I 1, I 2]]] = some (.tuple [.agg [ints [19146537, 13107200], I 77614724], I 0]) := by kernel_rfl
theorem t_sanity : evV Try.prog 40 300 cf43 7 8 [] = some (.bool true) := by kernel_rfl
theorem sanity_ok : VC Try.prog 8 [] (.bool true) := evV_sound mixed0 _ _ _ _ t_sanity
end Sim
