/- What functions of this seat compute, by values: contracts (lemmas of the statement's proof, under the conditions that each names). -/
import Derived.Test.YtpdaiflnibekaaaQU
namespace Sim
open Go Go.Proofs
set_option linter.unusedVariables false
set_option linter.unusedSimpArgs false
noncomputable def A_sanity : Unit → List PV := fun _ => []
noncomputable def R_sanity : Unit → PV := fun _ => B true
def H_sanity : Unit → Prop := fun _ => True
noncomputable def e_sanity : Nat × Ent := (12, .v (specOf A_sanity R_sanity H_sanity))
theorem j_sanity : ∀ i j, A_sanity i = A_sanity j → i = j := by
  rintro _ _ h
  rfl
theorem s_sanity  : specOf A_sanity R_sanity H_sanity [] = some (B true) := specOf_app j_sanity (i := ()) trivial
def C_sanity : Prop := VC Try.prog 12 [] (B true)
def O_sanity : Prop := EntOK Try.prog e_sanity.1 e_sanity.2
theorem k_sanity (c : C_sanity) : O_sanity := specOf_ok fun _ h => c 
theorem o_sanity : O_sanity := k_sanity sanity_ok
end Sim
