/- What functions of this seat compute, by values: contracts (lemmas of the statement's proof, under the conditions that each names). -/
import Derived.Test.YtpaaaaijebdphaaQU
import Derived.Test.YtpaaaaijebdphaaQY
import Derived.Test.YtpaaaaijebdphaaSimZ
namespace Sim
open Go Go.Proofs
set_option maxRecDepth 100000
set_option linter.unusedVariables false
set_option linter.unusedSimpArgs false
def decI : List PV → Option (List Int)
  | [] => some []
  | .int .i64 a :: l => (decI l).map fun rs => a :: rs
  | _ => none
theorem decI_ok : ∀ {l : List PV} {rs : List Int}, decI l = some rs → l = rs.map (PV.int .i64)
  | [], rs, h => by simp only [decI, Option.some.injEq] at h; subst h; rfl
  | p :: l, rs, h => by
    unfold decI at h
    split at h
    · rename_i e; cases e
    · rename_i a l' e
      cases e
      simp only [Option.map_eq_some_iff] at h
      obtain ⟨rs', h1, rfl⟩ := h
      rw [decI_ok h1]; rfl
    · cases h
def decP : List PV → Option (List Pst)
  | [] => some []
  | .agg [.int .i64 a, .int .i64 b, .int .i64 c, .int .i64 d, .int .i64 e, .int .i64 f] :: l => (decP l).map fun rs => (a, b, c, d, e, f) :: rs
  | _ => none
theorem decP_ok : ∀ {l : List PV} {rs : List Pst}, decP l = some rs → l = rs.map pstV
  | [], rs, h => by simp only [decP, Option.some.injEq] at h; subst h; rfl
  | p :: l, rs, h => by
    unfold decP at h
    split at h
    · rename_i e; cases e
    · rename_i a b c d e f l' e
      cases e
      simp only [Option.map_eq_some_iff] at h
      obtain ⟨rs', h1, rfl⟩ := h
      rw [decP_ok h1]; rfl
    · cases h
def decY : List PV → Option (List Pay)
  | [] => some []
  | .agg [.int .i64 a, .int .i64 b, .int .i64 c] :: l => (decY l).map fun rs => (a, b, c) :: rs
  | _ => none
theorem decY_ok : ∀ {l : List PV} {rs : List Pay}, decY l = some rs → l = rs.map payV
  | [], rs, h => by simp only [decY, Option.some.injEq] at h; subst h; rfl
  | p :: l, rs, h => by
    unfold decY at h
    split at h
    · rename_i e; cases e
    · rename_i a b c l' e
      cases e
      simp only [Option.map_eq_some_iff] at h
      obtain ⟨rs', h1, rfl⟩ := h
      rw [decY_ok h1]; rfl
    · cases h
def ext (f : FuncId) (args : List PV) : Option PV :=
  match args with
  | [.lits 1 l] => (decI l).bind fun b => if f = 14 then some (.tuple [I (leastN b), I (openE b)]) else if f = 16 then some (.tuple [pays (payM b), I (openE b)]) else none
  | [.lits 1 l, .lits 3 y] => (decI l).bind fun b => (decY y).bind fun y => if f = 17 ∧ b.length ≤ 100000 then some (B (settM b y)) else none
  | [.lits 6 o, .lits 6 m] => (decP o).bind fun o => (decP m).bind fun m => if f = 11 then some (.tuple [gaps (dspL o m), I (dspE o m)]) else none
  | [.agg [.int .i64 n, .lits 6 p], .int .i64 t] => (decP p).bind fun ps => if f = 19 then some (.tuple [ints (balsL n ps t), I (balsE n ps t)]) else none
  | [.agg [.int .i64 n, .lits 6 p], .lits 3 y, .int .i64 t] => (decP p).bind fun ps => (decY y).bind fun y => if f = 21 then some (.tuple [.agg [I (clearN n ps y t), psts (clearL n ps y t)], I (clearE n ps y t)]) else none
  | _ => none
theorem ext_ok : ∀ f args r, ext f args = some r → VC Try.prog f args r := by
  intro f args r h
  unfold ext at h
  split at h
  · simp only [Option.bind_eq_some_iff] at h
    obtain ⟨b, h1, h⟩ := h
    rw [decI_ok h1]
    split at h
    · rename_i e; subst e; cases h; exact c_least b
    · split at h
      · rename_i e; subst e; cases h; exact c_pay b
      · cases h
  · simp only [Option.bind_eq_some_iff] at h
    obtain ⟨b, h1, y, h2, h⟩ := h
    rw [decI_ok h1, decY_ok h2]
    split at h
    · rename_i e; obtain ⟨rfl, e⟩ := e; cases h; exact c_settles b y e
    · cases h
  · simp only [Option.bind_eq_some_iff] at h
    obtain ⟨o, h1, m, h2, h⟩ := h
    rw [decP_ok h1, decP_ok h2]
    split at h
    · rename_i e; subst e; cases h; exact c_dispute o m
    · cases h
  · simp only [Option.bind_eq_some_iff] at h
    obtain ⟨ps, h1, h⟩ := h
    rw [decP_ok h1]
    split at h
    · rename_i e; subst e; cases h; exact c_bals _ ps _
    · cases h
  · simp only [Option.bind_eq_some_iff] at h
    obtain ⟨ps, h1, y, h2, h⟩ := h
    rw [decP_ok h1, decY_ok h2]
    split at h
    · rename_i e; subst e; cases h; exact c_clear _ ps y _
    · cases h
  · cases h
def cf (f : FuncId) : List Nat × List Nat := if f = 10 then ([94], [44, 93]) else ([], [])
theorem t_sanity : evX Try.prog 130 400 cf ext 8 10 [] = some (.bool true) := by kernel_rfl
theorem sanity_ok : VC Try.prog 10 [] (.bool true) := evX_sound mixed ext_ok _ _ _ _ t_sanity
noncomputable def A_sanity : Unit → List PV := fun _ => []
noncomputable def R_sanity : Unit → PV := fun _ => B true
def H_sanity : Unit → Prop := fun _ => True
noncomputable def e_sanity : Nat × Ent := (10, .v (specOf A_sanity R_sanity H_sanity))
theorem j_sanity : ∀ i j, A_sanity i = A_sanity j → i = j := by
  rintro _ _ h
  rfl
theorem s_sanity  : specOf A_sanity R_sanity H_sanity [] = some (B true) := specOf_app j_sanity (i := ()) trivial
def C_sanity : Prop := VC Try.prog 10 [] (B true)
def O_sanity : Prop := EntOK Try.prog e_sanity.1 e_sanity.2
theorem k_sanity (c : C_sanity) : O_sanity := specOf_ok fun _ h => c 
theorem o_sanity : O_sanity := k_sanity sanity_ok
end Sim
