/- What functions of this seat compute, by values: contracts (lemmas of the statement's proof, under the conditions that each names). -/
import Derived.Test.YtoojbjfofokfjaaQR
namespace Sim
open Go Go.Proofs
noncomputable def A_sanity : Unit → List PV := fun _ => []
noncomputable def R_sanity : Unit → PV := fun _ => B true
def H_sanity : Unit → Prop := fun _ => True
noncomputable def e_sanity : Nat × Ent := (10, .v (specOf A_sanity R_sanity H_sanity))
theorem j_sanity : ∀ i j, A_sanity i = A_sanity j → i = j := by
  rintro _ _ h
  rfl
theorem s_sanity  : specOf A_sanity R_sanity H_sanity [] = some (B true) := specOf_app j_sanity (i := ()) trivial
def C_sanity : Prop := VC Try.prog 10 [] (B true)
def O_sanity : Prop := EntOK Try.prog e_sanity.1 e_sanity.2
theorem k_sanity (c : C_sanity) : O_sanity := specOf_ok fun _ h => c 
theorem o_sanity : O_sanity := k_sanity sanity_ok
/-- Few links, few schedules, few sends. -/
theorem few_len {ls : List Lnk} {L : List (List Snd)} {s : Int} (h : fewM ls L s = true) : ls.length ≤ 70 ∧ L.length ≤ 4 := by
  unfold fewM at h
  split at h
  · cases h
  · omega
theorem fewT_at {L : List (List Snd)} {s : Int} : ∀ {n}, fewT L s n = true → ∀ k, k < n → ((L.getD k []).length : Int) ≤ s
  | 0, _, k, hk => absurd hk (by omega)
  | n + 1, h, k, hk => by
    simp only [fewT, Bool.and_eq_true, decide_eq_true_eq] at h
    by_cases e : k = n
    · subst e; omega
    · exact fewT_at h.1 k (by omega)
theorem few_at {ls : List Lnk} {L : List (List Snd)} {s : Int} (h : fewM ls L s = true) (k : Nat) (hk : k < L.length) : ((L.getD k []).length : Int) ≤ s := by
  unfold fewM at h
  split at h
  · cases h
  · exact fewT_at h k hk
end Sim
