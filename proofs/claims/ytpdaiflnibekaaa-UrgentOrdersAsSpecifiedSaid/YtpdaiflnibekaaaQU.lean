/- What functions of this seat compute, by values: contracts (lemmas of the statement's proof, under the conditions that each names). -/
import Derived.Test.YtpdaiflnibekaaaQR
import Derived.Test.YtpdaiflnibekaaaSimZ
namespace Sim
open Go Go.Proofs
set_option maxRecDepth 100000
set_option linter.unusedVariables false
set_option linter.unusedSimpArgs false
def decR : List PV → Option (List Rep)
  | [] => some []
  | .agg [.int .i64 a, .int .i64 b, .int .i64 c, .int .i64 d] :: l => (decR l).map fun rs => (a, b, c, d) :: rs
  | _ => none
def decI : List PV → Option (List Int)
  | [] => some []
  | .int .i64 a :: l => (decI l).map fun rs => a :: rs
  | _ => none
theorem decR_ok : ∀ {l : List PV} {rs : List Rep}, decR l = some rs → l = rs.map repV
  | [], rs, h => by simp only [decR, Option.some.injEq] at h; subst h; rfl
  | p :: l, rs, h => by
    unfold decR at h
    split at h
    · rename_i e; cases e
    · rename_i a b c d l' e
      cases e
      simp only [Option.map_eq_some_iff] at h
      obtain ⟨rs', h1, rfl⟩ := h
      rw [decR_ok h1]; rfl
    · cases h
theorem decI_ok : ∀ {l : List PV} {rs : List Int}, decI l = some rs → l = rs.map (PV.int .i64)
  | [], rs, h => by simp only [decI, Option.some.injEq] at h; subst h; rfl
  | p :: l, rs, h => by
    unfold decI at h
    split at h
    · rename_i e; cases e
    · rename_i a l' e
      cases e
      simp only [Option.map_eq_some_iff] at h
      obtain ⟨rs', h1, rfl⟩ := h
      rw [decI_ok h1]; rfl
    · cases h
def ext (f : FuncId) (args : List PV) : Option PV :=
  match args with
  | [.agg [.int .i64 st, .lits 4 l]] => (decR l).bind fun rs => if f = 27 then some (.tuple [ints (bestM st rs).1, I (bestM st rs).2]) else if f = 33 then some (.tuple [ints (proveM st rs).1, I (proveM st rs).2]) else none
  | [.agg [.int .i64 st, .lits 4 l], .lits 1 o, .lits 1 vs] => (decR l).bind fun rs => (decI o).bind fun o => (decI vs).bind fun vs => if f = 31 then some (B (acceptM st rs o vs)) else none
  | _ => none
theorem ext_ok : ∀ f args r, ext f args = some r → VC Try.prog f args r := by
  intro f args r h
  unfold ext at h
  split at h
  · rename_i st l
    simp only [Option.bind_eq_some_iff] at h
    obtain ⟨rs, h1, h2⟩ := h
    rw [decR_ok h1]
    split at h2
    · rename_i e; subst e; cases h2; exact c_Best st rs
    · split at h2
      · rename_i e; subst e; cases h2; exact c_Prove st rs
      · cases h2
  · rename_i st l o vs
    simp only [Option.bind_eq_some_iff] at h
    obtain ⟨rs, h1, o', h2, vs', h3, h4⟩ := h
    rw [decR_ok h1, decI_ok h2, decI_ok h3]
    split at h4
    · rename_i e; subst e; cases h4; exact c_Accept st rs o' vs'
    · cases h4
  · cases h
def cf (f : FuncId) : List Nat × List Nat := if f = 12 then ([], [209]) else ([], [])
theorem t_sanity : evX Try.prog 77 200 cf ext 8 12 [] = some (.bool true) := by kernel_rfl
theorem sanity_ok : VC Try.prog 12 [] (.bool true) := evX_sound mixed ext_ok _ _ _ _ t_sanity
end Sim
