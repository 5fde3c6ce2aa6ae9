/- What functions of this seat compute, by values: contracts (lemmas of the statement's proof, under the conditions that each names). -/
import Derived.Test.YtpaaaaijebdphaaSimU
import Derived.Test.YtpaaaaijebdphaaProg
import Derived.KernelRfl
namespace Sim
open Go Go.Proofs
theorem ty3 : Try.prog.cellsOf 3 = 1 ∧ tvSlc Try.prog 3 = 0 ∧ tvStr Try.prog 3 = false ∧ tvMap Try.prog 3 = none ∧ tvInt Try.prog 3 = some .i64 ∧ tvLd Try.prog 3 = some (1, false) ∧ tvZero Try.prog 3 = .int .i64 0 ∧ tvNil Try.prog 3 = [] := by
  refine ⟨?_, ?_, ?_, ?_, ?_, ?_, ?_, ?_⟩ <;> kernel_rfl
theorem ty22 : Try.prog.cellsOf 22 = 1 ∧ tvSlc Try.prog 22 = 6 ∧ tvElem Try.prog 22 = 61 ∧ tvStr Try.prog 22 = false ∧ tvMap Try.prog 22 = none ∧ tvLd Try.prog 22 = some (1, false) ∧ tvZero Try.prog 22 = .nils ∧ tvNil Try.prog 22 = [(0, 6)] := by
  refine ⟨?_, ?_, ?_, ?_, ?_, ?_, ?_, ?_⟩ <;> kernel_rfl
theorem ty23 : Try.prog.cellsOf 23 = 1 ∧ tvSlc Try.prog 23 = 1 ∧ tvElem Try.prog 23 = 22 ∧ tvStr Try.prog 23 = false ∧ tvMap Try.prog 23 = none ∧ tvLd Try.prog 23 = some (1, false) ∧ tvZero Try.prog 23 = .nils ∧ tvNil Try.prog 23 = [(0, 1)] := by
  refine ⟨?_, ?_, ?_, ?_, ?_, ?_, ?_, ?_⟩ <;> kernel_rfl
theorem ty25 : Try.prog.cellsOf 25 = 1 ∧ tvSlc Try.prog 25 = 5 ∧ tvElem Try.prog 25 = 64 ∧ tvStr Try.prog 25 = false ∧ tvMap Try.prog 25 = none ∧ tvLd Try.prog 25 = some (1, false) ∧ tvZero Try.prog 25 = .nils ∧ tvNil Try.prog 25 = [(0, 5)] := by
  refine ⟨?_, ?_, ?_, ?_, ?_, ?_, ?_, ?_⟩ <;> kernel_rfl
theorem ty26 : Try.prog.cellsOf 26 = 1 ∧ tvSlc Try.prog 26 = 0 ∧ tvStr Try.prog 26 = false ∧ tvMap Try.prog 26 = none ∧ tvInt Try.prog 26 = some .i64 ∧ tvLd Try.prog 26 = some (1, false) ∧ tvZero Try.prog 26 = .int .i64 0 ∧ tvNil Try.prog 26 = [] := by
  refine ⟨?_, ?_, ?_, ?_, ?_, ?_, ?_, ?_⟩ <;> kernel_rfl
theorem ty34 : Try.prog.cellsOf 34 = 1 ∧ tvSlc Try.prog 34 = 1 ∧ tvElem Try.prog 34 = 3 ∧ tvStr Try.prog 34 = false ∧ tvMap Try.prog 34 = none ∧ tvLd Try.prog 34 = some (1, false) ∧ tvZero Try.prog 34 = .nils ∧ tvNil Try.prog 34 = [(0, 1)] := by
  refine ⟨?_, ?_, ?_, ?_, ?_, ?_, ?_, ?_⟩ <;> kernel_rfl
theorem ty35 : Try.prog.cellsOf 35 = 1 ∧ tvSlc Try.prog 35 = 3 ∧ tvElem Try.prog 35 = 68 ∧ tvStr Try.prog 35 = false ∧ tvMap Try.prog 35 = none ∧ tvLd Try.prog 35 = some (1, false) ∧ tvZero Try.prog 35 = .nils ∧ tvNil Try.prog 35 = [(0, 3)] := by
  refine ⟨?_, ?_, ?_, ?_, ?_, ?_, ?_, ?_⟩ <;> kernel_rfl
theorem ty45 : Try.prog.cellsOf 45 = 2 ∧ tvSlc Try.prog 45 = 0 ∧ tvStr Try.prog 45 = false ∧ tvMap Try.prog 45 = none ∧ tvLd Try.prog 45 = some (2, true) ∧ tvZero Try.prog 45 = .agg [.int .i64 0, .nils] ∧ tvFld Try.prog 45 0 = some (0, 1, 3) ∧ tvFld Try.prog 45 1 = some (1, 1, 22) ∧ tvArr Try.prog 45 = none ∧ tvBuild Try.prog 45 = true ∧ tvNil Try.prog 45 = [(1, 6)] := by
  refine ⟨?_, ?_, ?_, ?_, ?_, ?_, ?_, ?_, ?_, ?_, ?_⟩ <;> kernel_rfl
theorem ty61 : Try.prog.cellsOf 61 = 6 ∧ tvSlc Try.prog 61 = 0 ∧ tvStr Try.prog 61 = false ∧ tvMap Try.prog 61 = none ∧ tvLd Try.prog 61 = some (6, true) ∧ tvZero Try.prog 61 = .agg [.int .i64 0, .int .i64 0, .int .i64 0, .int .i64 0, .int .i64 0, .int .i64 0] ∧ tvFld Try.prog 61 0 = some (0, 1, 3) ∧ tvFld Try.prog 61 1 = some (1, 1, 3) ∧ tvFld Try.prog 61 2 = some (2, 1, 3) ∧ tvFld Try.prog 61 3 = some (3, 1, 3) ∧ tvFld Try.prog 61 4 = some (4, 1, 3) ∧ tvFld Try.prog 61 5 = some (5, 1, 3) ∧ tvArr Try.prog 61 = none ∧ tvBuild Try.prog 61 = true ∧ tvNil Try.prog 61 = [] := by
  refine ⟨?_, ?_, ?_, ?_, ?_, ?_, ?_, ?_, ?_, ?_, ?_, ?_, ?_, ?_, ?_⟩ <;> kernel_rfl
theorem ty64 : Try.prog.cellsOf 64 = 5 ∧ tvSlc Try.prog 64 = 0 ∧ tvStr Try.prog 64 = false ∧ tvMap Try.prog 64 = none ∧ tvLd Try.prog 64 = some (5, true) ∧ tvZero Try.prog 64 = .agg [.int .i64 0, .int .i64 0, .int .i64 0, .int .i64 0, .int .i64 0] ∧ tvFld Try.prog 64 0 = some (0, 1, 3) ∧ tvFld Try.prog 64 1 = some (1, 1, 3) ∧ tvFld Try.prog 64 2 = some (2, 1, 3) ∧ tvFld Try.prog 64 3 = some (3, 1, 3) ∧ tvFld Try.prog 64 4 = some (4, 1, 3) ∧ tvArr Try.prog 64 = none ∧ tvBuild Try.prog 64 = true ∧ tvNil Try.prog 64 = [] := by
  refine ⟨?_, ?_, ?_, ?_, ?_, ?_, ?_, ?_, ?_, ?_, ?_, ?_, ?_, ?_⟩ <;> kernel_rfl
theorem ty65 : Try.prog.cellsOf 65 = 1 ∧ tvSlc Try.prog 65 = 0 ∧ tvStr Try.prog 65 = false ∧ tvMap Try.prog 65 = none ∧ tvInt Try.prog 65 = some .u16 ∧ tvLd Try.prog 65 = some (1, false) ∧ tvZero Try.prog 65 = .int .u16 0 ∧ tvNil Try.prog 65 = [] := by
  refine ⟨?_, ?_, ?_, ?_, ?_, ?_, ?_, ?_⟩ <;> kernel_rfl
theorem ty68 : Try.prog.cellsOf 68 = 3 ∧ tvSlc Try.prog 68 = 0 ∧ tvStr Try.prog 68 = false ∧ tvMap Try.prog 68 = none ∧ tvLd Try.prog 68 = some (3, true) ∧ tvZero Try.prog 68 = .agg [.int .i64 0, .int .i64 0, .int .i64 0] ∧ tvFld Try.prog 68 0 = some (0, 1, 3) ∧ tvFld Try.prog 68 1 = some (1, 1, 3) ∧ tvFld Try.prog 68 2 = some (2, 1, 3) ∧ tvArr Try.prog 68 = none ∧ tvBuild Try.prog 68 = true ∧ tvNil Try.prog 68 = [] := by
  refine ⟨?_, ?_, ?_, ?_, ?_, ?_, ?_, ?_, ?_, ?_, ?_, ?_⟩ <;> kernel_rfl
theorem ty72 : Try.prog.cellsOf 72 = 1 ∧ tvSlc Try.prog 72 = 3 ∧ tvElem Try.prog 72 = 142 ∧ tvStr Try.prog 72 = false ∧ tvMap Try.prog 72 = none ∧ tvLd Try.prog 72 = some (1, false) ∧ tvZero Try.prog 72 = .nils ∧ tvNil Try.prog 72 = [(0, 3)] := by
  refine ⟨?_, ?_, ?_, ?_, ?_, ?_, ?_, ?_⟩ <;> kernel_rfl
theorem ty73 : Try.prog.cellsOf 73 = 1 ∧ tvSlc Try.prog 73 = 8 ∧ tvElem Try.prog 73 = 77 ∧ tvStr Try.prog 73 = false ∧ tvMap Try.prog 73 = none ∧ tvLd Try.prog 73 = some (1, false) ∧ tvZero Try.prog 73 = .nils ∧ tvNil Try.prog 73 = [(0, 8)] := by
  refine ⟨?_, ?_, ?_, ?_, ?_, ?_, ?_, ?_⟩ <;> kernel_rfl
theorem ty74 : Try.prog.cellsOf 74 = 2 ∧ tvSlc Try.prog 74 = 0 ∧ tvStr Try.prog 74 = false ∧ tvMap Try.prog 74 = none ∧ tvLd Try.prog 74 = some (2, true) ∧ tvZero Try.prog 74 = .agg [.int .u16 0, .int .u16 0] ∧ tvArr Try.prog 74 = some (2, 1) ∧ tvArrE Try.prog 74 = some (2, 65) ∧ tvBuild Try.prog 74 = true ∧ tvNil Try.prog 74 = [] := by
  refine ⟨?_, ?_, ?_, ?_, ?_, ?_, ?_, ?_, ?_, ?_⟩ <;> kernel_rfl
theorem ty75 : Try.prog.cellsOf 75 = 1 ∧ tvSlc Try.prog 75 = 3 ∧ tvElem Try.prog 75 = 164 ∧ tvStr Try.prog 75 = false ∧ tvMap Try.prog 75 = none ∧ tvLd Try.prog 75 = some (1, false) ∧ tvZero Try.prog 75 = .nils ∧ tvNil Try.prog 75 = [(0, 3)] := by
  refine ⟨?_, ?_, ?_, ?_, ?_, ?_, ?_, ?_⟩ <;> kernel_rfl
theorem ty77 : Try.prog.cellsOf 77 = 8 ∧ tvSlc Try.prog 77 = 0 ∧ tvStr Try.prog 77 = false ∧ tvMap Try.prog 77 = none ∧ tvLd Try.prog 77 = some (8, true) ∧ tvZero Try.prog 77 = .agg [.int .i64 0, .int .i64 0, .int .i64 0, .int .i64 0, .int .i64 0, .int .i64 0, .int .i64 0, .nils] ∧ tvFld Try.prog 77 0 = some (0, 1, 3) ∧ tvFld Try.prog 77 1 = some (1, 1, 3) ∧ tvFld Try.prog 77 2 = some (2, 1, 3) ∧ tvFld Try.prog 77 3 = some (3, 1, 3) ∧ tvFld Try.prog 77 4 = some (4, 1, 3) ∧ tvFld Try.prog 77 5 = some (5, 1, 3) ∧ tvFld Try.prog 77 6 = some (6, 1, 3) ∧ tvFld Try.prog 77 7 = some (7, 1, 75) ∧ tvArr Try.prog 77 = none ∧ tvBuild Try.prog 77 = true ∧ tvNil Try.prog 77 = [(7, 3)] := by
  refine ⟨?_, ?_, ?_, ?_, ?_, ?_, ?_, ?_, ?_, ?_, ?_, ?_, ?_, ?_, ?_, ?_, ?_⟩ <;> kernel_rfl
theorem ty78 : Try.prog.cellsOf 78 = 1 ∧ tvSlc Try.prog 78 = 50 ∧ tvElem Try.prog 78 = 168 ∧ tvStr Try.prog 78 = false ∧ tvMap Try.prog 78 = none ∧ tvLd Try.prog 78 = some (1, false) ∧ tvZero Try.prog 78 = .nils ∧ tvNil Try.prog 78 = [(0, 50)] := by
  refine ⟨?_, ?_, ?_, ?_, ?_, ?_, ?_, ?_⟩ <;> kernel_rfl
theorem ty80 : Try.prog.cellsOf 80 = 2 ∧ tvSlc Try.prog 80 = 0 ∧ tvStr Try.prog 80 = false ∧ tvMap Try.prog 80 = none ∧ tvLd Try.prog 80 = some (2, true) ∧ tvZero Try.prog 80 = .agg [.int .i64 0, .nils] ∧ tvFld Try.prog 80 0 = some (0, 1, 3) ∧ tvFld Try.prog 80 1 = some (1, 1, 78) ∧ tvArr Try.prog 80 = none ∧ tvBuild Try.prog 80 = true ∧ tvNil Try.prog 80 = [(1, 50)] := by
  refine ⟨?_, ?_, ?_, ?_, ?_, ?_, ?_, ?_, ?_, ?_, ?_⟩ <;> kernel_rfl
theorem ty81 : Try.prog.cellsOf 81 = 1 ∧ tvSlc Try.prog 81 = 4 ∧ tvElem Try.prog 81 = 125 ∧ tvStr Try.prog 81 = false ∧ tvMap Try.prog 81 = none ∧ tvLd Try.prog 81 = some (1, false) ∧ tvZero Try.prog 81 = .nils ∧ tvNil Try.prog 81 = [(0, 4)] := by
  refine ⟨?_, ?_, ?_, ?_, ?_, ?_, ?_, ?_⟩ <;> kernel_rfl
theorem ty85 : Try.prog.cellsOf 85 = 1 ∧ tvSlc Try.prog 85 = 0 ∧ tvStr Try.prog 85 = false ∧ tvMap Try.prog 85 = some (.ints 3, .agg [.int .i64 0, .int .i64 0]) ∧ tvLd Try.prog 85 = some (1, false) ∧ tvZero Try.prog 85 = .nilm ∧ tvNil Try.prog 85 = [] := by
  refine ⟨?_, ?_, ?_, ?_, ?_, ?_, ?_⟩ <;> kernel_rfl
theorem ty87 : Try.prog.cellsOf 87 = 3 ∧ tvSlc Try.prog 87 = 0 ∧ tvStr Try.prog 87 = false ∧ tvMap Try.prog 87 = none ∧ tvLd Try.prog 87 = some (3, true) ∧ tvZero Try.prog 87 = .agg [.int .i64 0, .int .i64 0, .int .i64 0] ∧ tvArr Try.prog 87 = some (3, 1) ∧ tvArrE Try.prog 87 = some (3, 3) ∧ tvBuild Try.prog 87 = true ∧ tvNil Try.prog 87 = [] := by
  refine ⟨?_, ?_, ?_, ?_, ?_, ?_, ?_, ?_, ?_, ?_⟩ <;> kernel_rfl
theorem ty88 : Try.prog.cellsOf 88 = 2 ∧ tvSlc Try.prog 88 = 0 ∧ tvStr Try.prog 88 = false ∧ tvMap Try.prog 88 = none ∧ tvLd Try.prog 88 = some (2, true) ∧ tvZero Try.prog 88 = .agg [.int .i64 0, .int .i64 0] ∧ tvArr Try.prog 88 = some (2, 1) ∧ tvArrE Try.prog 88 = some (2, 3) ∧ tvBuild Try.prog 88 = true ∧ tvNil Try.prog 88 = [] := by
  refine ⟨?_, ?_, ?_, ?_, ?_, ?_, ?_, ?_, ?_, ?_⟩ <;> kernel_rfl
theorem ty91 : Try.prog.cellsOf 91 = 1 ∧ tvSlc Try.prog 91 = 0 ∧ tvStr Try.prog 91 = false ∧ tvMap Try.prog 91 = none ∧ tvLd Try.prog 91 = some (1, false) ∧ tvZero Try.prog 91 = .nilf ∧ tvNil Try.prog 91 = [] := by
  refine ⟨?_, ?_, ?_, ?_, ?_, ?_, ?_⟩ <;> kernel_rfl
theorem ty102 : Try.prog.cellsOf 102 = 1 ∧ tvSlc Try.prog 102 = 0 ∧ tvStr Try.prog 102 = false ∧ tvMap Try.prog 102 = none ∧ tvLd Try.prog 102 = some (1, false) ∧ tvZero Try.prog 102 = .nilf ∧ tvNil Try.prog 102 = [] := by
  refine ⟨?_, ?_, ?_, ?_, ?_, ?_, ?_⟩ <;> kernel_rfl
theorem ty105 : Try.prog.cellsOf 105 = 1 ∧ tvSlc Try.prog 105 = 0 ∧ tvStr Try.prog 105 = false ∧ tvMap Try.prog 105 = none ∧ tvLd Try.prog 105 = some (1, false) ∧ tvZero Try.prog 105 = .nilf ∧ tvNil Try.prog 105 = [] := by
  refine ⟨?_, ?_, ?_, ?_, ?_, ?_, ?_⟩ <;> kernel_rfl
theorem ty123 : Try.prog.cellsOf 123 = 1 ∧ tvSlc Try.prog 123 = 0 ∧ tvStr Try.prog 123 = false ∧ tvMap Try.prog 123 = some (.ints 3, .int .i64 0) ∧ tvLd Try.prog 123 = some (1, false) ∧ tvZero Try.prog 123 = .nilm ∧ tvNil Try.prog 123 = [] := by
  refine ⟨?_, ?_, ?_, ?_, ?_, ?_, ?_⟩ <;> kernel_rfl
theorem ty125 : Try.prog.cellsOf 125 = 4 ∧ tvSlc Try.prog 125 = 0 ∧ tvStr Try.prog 125 = false ∧ tvMap Try.prog 125 = none ∧ tvLd Try.prog 125 = some (4, true) ∧ tvZero Try.prog 125 = .agg [.int .i64 0, .int .i64 0, .int .i64 0, .int .i64 0] ∧ tvFld Try.prog 125 0 = some (0, 1, 3) ∧ tvFld Try.prog 125 1 = some (1, 1, 3) ∧ tvFld Try.prog 125 2 = some (2, 1, 3) ∧ tvFld Try.prog 125 3 = some (3, 1, 3) ∧ tvArr Try.prog 125 = none ∧ tvBuild Try.prog 125 = true ∧ tvNil Try.prog 125 = [] := by
  refine ⟨?_, ?_, ?_, ?_, ?_, ?_, ?_, ?_, ?_, ?_, ?_, ?_, ?_⟩ <;> kernel_rfl
theorem ty127 : Try.prog.cellsOf 127 = 1 ∧ tvSlc Try.prog 127 = 0 ∧ tvStr Try.prog 127 = false ∧ tvMap Try.prog 127 = none ∧ tvLd Try.prog 127 = some (1, false) ∧ tvZero Try.prog 127 = .nilf ∧ tvNil Try.prog 127 = [] := by
  refine ⟨?_, ?_, ?_, ?_, ?_, ?_, ?_⟩ <;> kernel_rfl
theorem ty130 : Try.prog.cellsOf 130 = 1 ∧ tvSlc Try.prog 130 = 3 ∧ tvElem Try.prog 130 = 87 ∧ tvStr Try.prog 130 = false ∧ tvMap Try.prog 130 = none ∧ tvLd Try.prog 130 = some (1, false) ∧ tvZero Try.prog 130 = .nils ∧ tvNil Try.prog 130 = [(0, 3)] := by
  refine ⟨?_, ?_, ?_, ?_, ?_, ?_, ?_, ?_⟩ <;> kernel_rfl
theorem ty142 : Try.prog.cellsOf 142 = 3 ∧ tvSlc Try.prog 142 = 0 ∧ tvStr Try.prog 142 = false ∧ tvMap Try.prog 142 = none ∧ tvLd Try.prog 142 = some (3, true) ∧ tvZero Try.prog 142 = .agg [.int .i64 0, .int .i64 0, .int .i64 0] ∧ tvFld Try.prog 142 0 = some (0, 1, 3) ∧ tvFld Try.prog 142 1 = some (1, 1, 3) ∧ tvFld Try.prog 142 2 = some (2, 1, 3) ∧ tvArr Try.prog 142 = none ∧ tvBuild Try.prog 142 = true ∧ tvNil Try.prog 142 = [] := by
  refine ⟨?_, ?_, ?_, ?_, ?_, ?_, ?_, ?_, ?_, ?_, ?_, ?_⟩ <;> kernel_rfl
theorem ty143 : Try.prog.cellsOf 143 = 1 ∧ tvSlc Try.prog 143 = 3 ∧ tvElem Try.prog 143 = 147 ∧ tvStr Try.prog 143 = false ∧ tvMap Try.prog 143 = none ∧ tvLd Try.prog 143 = some (1, false) ∧ tvZero Try.prog 143 = .nils ∧ tvNil Try.prog 143 = [(0, 3)] := by
  refine ⟨?_, ?_, ?_, ?_, ?_, ?_, ?_, ?_⟩ <;> kernel_rfl
theorem ty145 : Try.prog.cellsOf 145 = 1 ∧ tvSlc Try.prog 145 = 0 ∧ tvStr Try.prog 145 = false ∧ tvMap Try.prog 145 = none ∧ tvLd Try.prog 145 = some (1, false) ∧ tvZero Try.prog 145 = .nilf ∧ tvNil Try.prog 145 = [] := by
  refine ⟨?_, ?_, ?_, ?_, ?_, ?_, ?_⟩ <;> kernel_rfl
theorem ty147 : Try.prog.cellsOf 147 = 3 ∧ tvSlc Try.prog 147 = 0 ∧ tvStr Try.prog 147 = false ∧ tvMap Try.prog 147 = none ∧ tvLd Try.prog 147 = some (3, true) ∧ tvZero Try.prog 147 = .agg [.int .i64 0, .int .i64 0, .nilf] ∧ tvFld Try.prog 147 0 = some (0, 1, 3) ∧ tvFld Try.prog 147 1 = some (1, 1, 3) ∧ tvFld Try.prog 147 2 = some (2, 1, 145) ∧ tvArr Try.prog 147 = none ∧ tvBuild Try.prog 147 = true ∧ tvNil Try.prog 147 = [] := by
  refine ⟨?_, ?_, ?_, ?_, ?_, ?_, ?_, ?_, ?_, ?_, ?_, ?_⟩ <;> kernel_rfl
theorem ty164 : Try.prog.cellsOf 164 = 3 ∧ tvSlc Try.prog 164 = 0 ∧ tvStr Try.prog 164 = false ∧ tvMap Try.prog 164 = none ∧ tvLd Try.prog 164 = some (3, true) ∧ tvZero Try.prog 164 = .agg [.int .i64 0, .int .i64 0, .int .i64 0] ∧ tvFld Try.prog 164 0 = some (0, 1, 3) ∧ tvFld Try.prog 164 1 = some (1, 1, 3) ∧ tvFld Try.prog 164 2 = some (2, 1, 3) ∧ tvArr Try.prog 164 = none ∧ tvBuild Try.prog 164 = true ∧ tvNil Try.prog 164 = [] := by
  refine ⟨?_, ?_, ?_, ?_, ?_, ?_, ?_, ?_, ?_, ?_, ?_, ?_⟩ <;> kernel_rfl
theorem ty166 : Try.prog.cellsOf 166 = 24 ∧ tvSlc Try.prog 166 = 0 ∧ tvStr Try.prog 166 = false ∧ tvMap Try.prog 166 = none ∧ tvLd Try.prog 166 = some (24, true) ∧ tvZero Try.prog 166 = .agg [.int .i64 0, .int .i64 0, .int .i64 0, .int .i64 0, .int .i64 0, .int .i64 0, .int .i64 0, .int .i64 0, .int .i64 0, .int .i64 0, .int .i64 0, .int .i64 0, .int .i64 0, .int .i64 0, .int .i64 0, .int .i64 0, .int .i64 0, .int .i64 0, .int .i64 0, .int .i64 0, .int .i64 0, .int .i64 0, .int .i64 0, .int .i64 0] ∧ tvArr Try.prog 166 = some (24, 1) ∧ tvArrE Try.prog 166 = some (24, 3) ∧ tvBuild Try.prog 166 = true ∧ tvNil Try.prog 166 = [] := by
  refine ⟨?_, ?_, ?_, ?_, ?_, ?_, ?_, ?_, ?_, ?_⟩ <;> kernel_rfl
theorem ty168 : Try.prog.cellsOf 168 = 50 ∧ tvSlc Try.prog 168 = 0 ∧ tvStr Try.prog 168 = false ∧ tvMap Try.prog 168 = none ∧ tvLd Try.prog 168 = some (50, true) ∧ tvZero Try.prog 168 = .agg [.int .i64 0, .int .i64 0, .int .i64 0, .int .i64 0, .int .i64 0, .int .i64 0, .int .i64 0, .int .i64 0, .int .i64 0, .int .i64 0, .int .i64 0, .int .i64 0, .int .i64 0, .int .i64 0, .int .i64 0, .int .i64 0, .int .i64 0, .int .i64 0, .int .i64 0, .int .i64 0, .int .i64 0, .int .i64 0, .int .i64 0, .int .i64 0, .int .i64 0, .int .i64 0, .int .i64 0, .int .i64 0, .int .i64 0, .int .i64 0, .int .i64 0, .int .i64 0, .int .i64 0, .int .i64 0, .int .i64 0, .int .i64 0, .int .i64 0, .int .i64 0, .int .i64 0, .int .i64 0, .int .i64 0, .int .i64 0, .int .i64 0, .int .i64 0, .int .i64 0, .int .i64 0, .int .i64 0, .int .i64 0, .int .i64 0, .int .i64 0] ∧ tvFld Try.prog 168 0 = some (0, 1, 3) ∧ tvFld Try.prog 168 1 = some (1, 1, 3) ∧ tvFld Try.prog 168 2 = some (2, 24, 166) ∧ tvFld Try.prog 168 3 = some (26, 24, 166) ∧ tvArr Try.prog 168 = none ∧ tvBuild Try.prog 168 = true ∧ tvNil Try.prog 168 = [] := by
  refine ⟨?_, ?_, ?_, ?_, ?_, ?_, ?_, ?_, ?_, ?_, ?_, ?_, ?_⟩ <;> kernel_rfl
end Sim

namespace Sim
open Go Go.Proofs
set_option linter.unusedVariables false
set_option linter.unusedSimpArgs false
/-- A posting: debit, credit, amount, tick, why, ref. -/
abbrev Pst := Int × Int × Int × Int × Int × Int
abbrev dP : Pst := (0, 0, 0, 0, 0, 0)
abbrev pstV (a : Pst) : PV := .agg [I a.1, I a.2.1, I a.2.2.1, I a.2.2.2.1, I a.2.2.2.2.1, I a.2.2.2.2.2]
abbrev psts (l : List Pst) : PV := .lits 6 (l.map pstV)
theorem nth_psts {l : List Pst} {k : Nat} (h : k < l.length) : nth (l.map pstV) k = .agg [I (l.getD k dP).1, I (l.getD k dP).2.1, I (l.getD k dP).2.2.1, I (l.getD k dP).2.2.2.1, I (l.getD k dP).2.2.2.2.1, I (l.getD k dP).2.2.2.2.2] := nth_mapD dP h
theorem pur_psts {l : List Pst} : pursL (l.map pstV) = true := pur_map fun x => by simp [pur_agg, pursL_cons, pur_int, pursL_nil]
theorem inj_psts {l m : List Pst} : (l.map pstV = m.map pstV) = (l = m) := inj_map fun x y h => by
  simp only [PV.agg.injEq, List.cons.injEq, true_and, and_true, PV.int.injEq] at h
  exact Prod.ext h.1 (Prod.ext h.2.1 (Prod.ext h.2.2.1 (Prod.ext h.2.2.2.1 (Prod.ext h.2.2.2.2.1 h.2.2.2.2.2))))
/-- A gap: debit, credit, why, own, claimed. -/
abbrev Gap := Int × Int × Int × Int × Int
abbrev dG : Gap := (0, 0, 0, 0, 0)
abbrev gapV (a : Gap) : PV := .agg [I a.1, I a.2.1, I a.2.2.1, I a.2.2.2.1, I a.2.2.2.2]
abbrev gaps (l : List Gap) : PV := .lits 5 (l.map gapV)
theorem nth_gaps {l : List Gap} {k : Nat} (h : k < l.length) : nth (l.map gapV) k = .agg [I (l.getD k dG).1, I (l.getD k dG).2.1, I (l.getD k dG).2.2.1, I (l.getD k dG).2.2.2.1, I (l.getD k dG).2.2.2.2] := nth_mapD dG h
theorem pur_gaps {l : List Gap} : pursL (l.map gapV) = true := pur_map fun x => by simp [pur_agg, pursL_cons, pur_int, pursL_nil]
theorem inj_gaps {l m : List Gap} : (l.map gapV = m.map gapV) = (l = m) := inj_map fun x y h => by
  simp only [PV.agg.injEq, List.cons.injEq, true_and, and_true, PV.int.injEq] at h
  exact Prod.ext h.1 (Prod.ext h.2.1 (Prod.ext h.2.2.1 (Prod.ext h.2.2.2.1 h.2.2.2.2)))
/-- A payment: from, to, amount. -/
abbrev Pay := Int × Int × Int
abbrev dY : Pay := (0, 0, 0)
abbrev payV (a : Pay) : PV := .agg [I a.1, I a.2.1, I a.2.2]
abbrev pays (l : List Pay) : PV := .lits 3 (l.map payV)
theorem nth_pays {l : List Pay} {k : Nat} (h : k < l.length) : nth (l.map payV) k = .agg [I (l.getD k dY).1, I (l.getD k dY).2.1, I (l.getD k dY).2.2] := nth_mapD dY h
theorem pur_pays {l : List Pay} : pursL (l.map payV) = true := pur_map fun x => by simp [pur_agg, pursL_cons, pur_int, pursL_nil]
theorem inj_pays {l m : List Pay} : (l.map payV = m.map payV) = (l = m) := inj_map fun x y h => by
  simp only [PV.agg.injEq, List.cons.injEq, true_and, and_true, PV.int.injEq] at h
  exact Prod.ext h.1 (Prod.ext h.2.1 h.2.2)
end Sim
