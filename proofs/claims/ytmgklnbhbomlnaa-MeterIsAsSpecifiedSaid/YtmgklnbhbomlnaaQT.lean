/- What functions of this seat compute, by values: contracts (lemmas of the statement's proof, under the conditions that each names). -/
import Derived.Test.YtmgklnbhbomlnaaSimU
import Derived.Test.YtmgklnbhbomlnaaProg
import Derived.KernelRfl
namespace Sim
open Go Go.Proofs
theorem ty3 : Try.prog.cellsOf 3 = 1 ∧ tvSlc Try.prog 3 = 0 ∧ tvStr Try.prog 3 = false ∧ tvMap Try.prog 3 = none ∧ tvInt Try.prog 3 = some .i64 ∧ tvLd Try.prog 3 = some (1, false) ∧ tvZero Try.prog 3 = .int .i64 0 ∧ tvNil Try.prog 3 = [] := by
  refine ⟨?_, ?_, ?_, ?_, ?_, ?_, ?_, ?_⟩ <;> kernel_rfl
theorem ty22 : Try.prog.cellsOf 22 = 1 ∧ tvSlc Try.prog 22 = 4 ∧ tvElem Try.prog 22 = 56 ∧ tvStr Try.prog 22 = false ∧ tvMap Try.prog 22 = none ∧ tvLd Try.prog 22 = some (1, false) ∧ tvZero Try.prog 22 = .nils ∧ tvNil Try.prog 22 = [(0, 4)] := by
  refine ⟨?_, ?_, ?_, ?_, ?_, ?_, ?_, ?_⟩ <;> kernel_rfl
theorem ty23 : Try.prog.cellsOf 23 = 1 ∧ tvSlc Try.prog 23 = 3 ∧ tvElem Try.prog 23 = 80 ∧ tvStr Try.prog 23 = false ∧ tvMap Try.prog 23 = none ∧ tvLd Try.prog 23 = some (1, false) ∧ tvZero Try.prog 23 = .nils ∧ tvNil Try.prog 23 = [(0, 3)] := by
  refine ⟨?_, ?_, ?_, ?_, ?_, ?_, ?_, ?_⟩ <;> kernel_rfl
theorem ty24 : Try.prog.cellsOf 24 = 1 ∧ tvSlc Try.prog 24 = 50 ∧ tvElem Try.prog 24 = 84 ∧ tvStr Try.prog 24 = false ∧ tvMap Try.prog 24 = none ∧ tvLd Try.prog 24 = some (1, false) ∧ tvZero Try.prog 24 = .nils ∧ tvNil Try.prog 24 = [(0, 50)] := by
  refine ⟨?_, ?_, ?_, ?_, ?_, ?_, ?_, ?_⟩ <;> kernel_rfl
theorem ty26 : Try.prog.cellsOf 26 = 2 ∧ tvSlc Try.prog 26 = 0 ∧ tvStr Try.prog 26 = false ∧ tvMap Try.prog 26 = none ∧ tvLd Try.prog 26 = some (2, true) ∧ tvZero Try.prog 26 = .agg [.int .i64 0, .nils] ∧ tvFld Try.prog 26 0 = some (0, 1, 3) ∧ tvFld Try.prog 26 1 = some (1, 1, 24) ∧ tvArr Try.prog 26 = none ∧ tvBuild Try.prog 26 = true ∧ tvNil Try.prog 26 = [(1, 50)] := by
  refine ⟨?_, ?_, ?_, ?_, ?_, ?_, ?_, ?_, ?_, ?_, ?_⟩ <;> kernel_rfl
theorem ty27 : Try.prog.cellsOf 27 = 1 ∧ tvSlc Try.prog 27 = 8 ∧ tvElem Try.prog 27 = 34 ∧ tvStr Try.prog 27 = false ∧ tvMap Try.prog 27 = none ∧ tvLd Try.prog 27 = some (1, false) ∧ tvZero Try.prog 27 = .nils ∧ tvNil Try.prog 27 = [(0, 8)] := by
  refine ⟨?_, ?_, ?_, ?_, ?_, ?_, ?_, ?_⟩ <;> kernel_rfl
theorem ty30 : Try.prog.cellsOf 30 = 1 ∧ tvSlc Try.prog 30 = 0 ∧ tvStr Try.prog 30 = false ∧ tvMap Try.prog 30 = none ∧ tvInt Try.prog 30 = some .i64 ∧ tvLd Try.prog 30 = some (1, false) ∧ tvZero Try.prog 30 = .int .i64 0 ∧ tvNil Try.prog 30 = [] := by
  refine ⟨?_, ?_, ?_, ?_, ?_, ?_, ?_, ?_⟩ <;> kernel_rfl
theorem ty32 : Try.prog.cellsOf 32 = 1 ∧ tvSlc Try.prog 32 = 3 ∧ tvElem Try.prog 32 = 86 ∧ tvStr Try.prog 32 = false ∧ tvMap Try.prog 32 = none ∧ tvLd Try.prog 32 = some (1, false) ∧ tvZero Try.prog 32 = .nils ∧ tvNil Try.prog 32 = [(0, 3)] := by
  refine ⟨?_, ?_, ?_, ?_, ?_, ?_, ?_, ?_⟩ <;> kernel_rfl
theorem ty34 : Try.prog.cellsOf 34 = 8 ∧ tvSlc Try.prog 34 = 0 ∧ tvStr Try.prog 34 = false ∧ tvMap Try.prog 34 = none ∧ tvLd Try.prog 34 = some (8, true) ∧ tvZero Try.prog 34 = .agg [.int .i64 0, .int .i64 0, .int .i64 0, .int .i64 0, .int .i64 0, .int .i64 0, .int .i64 0, .nils] ∧ tvFld Try.prog 34 0 = some (0, 1, 3) ∧ tvFld Try.prog 34 1 = some (1, 1, 3) ∧ tvFld Try.prog 34 2 = some (2, 1, 3) ∧ tvFld Try.prog 34 3 = some (3, 1, 3) ∧ tvFld Try.prog 34 4 = some (4, 1, 3) ∧ tvFld Try.prog 34 5 = some (5, 1, 3) ∧ tvFld Try.prog 34 6 = some (6, 1, 3) ∧ tvFld Try.prog 34 7 = some (7, 1, 32) ∧ tvArr Try.prog 34 = none ∧ tvBuild Try.prog 34 = true ∧ tvNil Try.prog 34 = [(7, 3)] := by
  refine ⟨?_, ?_, ?_, ?_, ?_, ?_, ?_, ?_, ?_, ?_, ?_, ?_, ?_, ?_, ?_, ?_, ?_⟩ <;> kernel_rfl
theorem ty38 : Try.prog.cellsOf 38 = 2 ∧ tvSlc Try.prog 38 = 0 ∧ tvStr Try.prog 38 = false ∧ tvMap Try.prog 38 = none ∧ tvLd Try.prog 38 = some (2, true) ∧ tvZero Try.prog 38 = .agg [.int .i64 0, .int .i64 0] ∧ tvFld Try.prog 38 0 = some (0, 1, 3) ∧ tvFld Try.prog 38 1 = some (1, 1, 30) ∧ tvArr Try.prog 38 = none ∧ tvBuild Try.prog 38 = true ∧ tvNil Try.prog 38 = [] := by
  refine ⟨?_, ?_, ?_, ?_, ?_, ?_, ?_, ?_, ?_, ?_, ?_⟩ <;> kernel_rfl
theorem ty40 : Try.prog.cellsOf 40 = 1 ∧ tvSlc Try.prog 40 = 6 ∧ tvElem Try.prog 40 = 54 ∧ tvStr Try.prog 40 = false ∧ tvMap Try.prog 40 = none ∧ tvLd Try.prog 40 = some (1, false) ∧ tvZero Try.prog 40 = .nils ∧ tvNil Try.prog 40 = [(0, 6)] := by
  refine ⟨?_, ?_, ?_, ?_, ?_, ?_, ?_, ?_⟩ <;> kernel_rfl
theorem ty44 : Try.prog.cellsOf 44 = 3 ∧ tvSlc Try.prog 44 = 0 ∧ tvStr Try.prog 44 = false ∧ tvMap Try.prog 44 = none ∧ tvLd Try.prog 44 = some (3, true) ∧ tvZero Try.prog 44 = .agg [.nils, .nils, .int .i64 0] ∧ tvFld Try.prog 44 0 = some (0, 1, 40) ∧ tvFld Try.prog 44 1 = some (1, 1, 22) ∧ tvFld Try.prog 44 2 = some (2, 1, 30) ∧ tvArr Try.prog 44 = none ∧ tvBuild Try.prog 44 = true ∧ tvNil Try.prog 44 = [(0, 6), (1, 4)] := by
  refine ⟨?_, ?_, ?_, ?_, ?_, ?_, ?_, ?_, ?_, ?_, ?_, ?_⟩ <;> kernel_rfl
theorem ty54 : Try.prog.cellsOf 54 = 6 ∧ tvSlc Try.prog 54 = 0 ∧ tvStr Try.prog 54 = false ∧ tvMap Try.prog 54 = none ∧ tvLd Try.prog 54 = some (6, true) ∧ tvZero Try.prog 54 = .agg [.int .i64 0, .int .i64 0, .int .i64 0, .int .i64 0, .int .i64 0, .int .i64 0] ∧ tvFld Try.prog 54 0 = some (0, 1, 3) ∧ tvFld Try.prog 54 1 = some (1, 1, 3) ∧ tvFld Try.prog 54 2 = some (2, 1, 3) ∧ tvFld Try.prog 54 3 = some (3, 1, 3) ∧ tvFld Try.prog 54 4 = some (4, 1, 3) ∧ tvFld Try.prog 54 5 = some (5, 1, 3) ∧ tvArr Try.prog 54 = none ∧ tvBuild Try.prog 54 = true ∧ tvNil Try.prog 54 = [] := by
  refine ⟨?_, ?_, ?_, ?_, ?_, ?_, ?_, ?_, ?_, ?_, ?_, ?_, ?_, ?_, ?_⟩ <;> kernel_rfl
theorem ty56 : Try.prog.cellsOf 56 = 4 ∧ tvSlc Try.prog 56 = 0 ∧ tvStr Try.prog 56 = false ∧ tvMap Try.prog 56 = none ∧ tvLd Try.prog 56 = some (4, true) ∧ tvZero Try.prog 56 = .agg [.int .i64 0, .int .i64 0, .int .i64 0, .int .i64 0] ∧ tvFld Try.prog 56 0 = some (0, 1, 3) ∧ tvFld Try.prog 56 1 = some (1, 1, 3) ∧ tvFld Try.prog 56 2 = some (2, 1, 3) ∧ tvFld Try.prog 56 3 = some (3, 1, 3) ∧ tvArr Try.prog 56 = none ∧ tvBuild Try.prog 56 = true ∧ tvNil Try.prog 56 = [] := by
  refine ⟨?_, ?_, ?_, ?_, ?_, ?_, ?_, ?_, ?_, ?_, ?_, ?_, ?_⟩ <;> kernel_rfl
theorem ty75 : Try.prog.cellsOf 75 = 1 ∧ tvSlc Try.prog 75 = 1 ∧ tvElem Try.prog 75 = 3 ∧ tvStr Try.prog 75 = false ∧ tvMap Try.prog 75 = none ∧ tvLd Try.prog 75 = some (1, false) ∧ tvZero Try.prog 75 = .nils ∧ tvNil Try.prog 75 = [(0, 1)] := by
  refine ⟨?_, ?_, ?_, ?_, ?_, ?_, ?_, ?_⟩ <;> kernel_rfl
theorem ty80 : Try.prog.cellsOf 80 = 3 ∧ tvSlc Try.prog 80 = 0 ∧ tvStr Try.prog 80 = false ∧ tvMap Try.prog 80 = none ∧ tvLd Try.prog 80 = some (3, true) ∧ tvZero Try.prog 80 = .agg [.int .i64 0, .int .i64 0, .int .i64 0] ∧ tvFld Try.prog 80 0 = some (0, 1, 3) ∧ tvFld Try.prog 80 1 = some (1, 1, 3) ∧ tvFld Try.prog 80 2 = some (2, 1, 3) ∧ tvArr Try.prog 80 = none ∧ tvBuild Try.prog 80 = true ∧ tvNil Try.prog 80 = [] := by
  refine ⟨?_, ?_, ?_, ?_, ?_, ?_, ?_, ?_, ?_, ?_, ?_, ?_⟩ <;> kernel_rfl
theorem ty81 : Try.prog.cellsOf 81 = 24 ∧ tvSlc Try.prog 81 = 0 ∧ tvStr Try.prog 81 = false ∧ tvMap Try.prog 81 = none ∧ tvLd Try.prog 81 = some (24, true) ∧ tvZero Try.prog 81 = .agg [.int .i64 0, .int .i64 0, .int .i64 0, .int .i64 0, .int .i64 0, .int .i64 0, .int .i64 0, .int .i64 0, .int .i64 0, .int .i64 0, .int .i64 0, .int .i64 0, .int .i64 0, .int .i64 0, .int .i64 0, .int .i64 0, .int .i64 0, .int .i64 0, .int .i64 0, .int .i64 0, .int .i64 0, .int .i64 0, .int .i64 0, .int .i64 0] ∧ tvArr Try.prog 81 = some (24, 1) ∧ tvArrE Try.prog 81 = some (24, 3) ∧ tvBuild Try.prog 81 = true ∧ tvNil Try.prog 81 = [] := by
  refine ⟨?_, ?_, ?_, ?_, ?_, ?_, ?_, ?_, ?_, ?_⟩ <;> kernel_rfl
theorem ty84 : Try.prog.cellsOf 84 = 50 ∧ tvSlc Try.prog 84 = 0 ∧ tvStr Try.prog 84 = false ∧ tvMap Try.prog 84 = none ∧ tvLd Try.prog 84 = some (50, true) ∧ tvZero Try.prog 84 = .agg [.int .i64 0, .int .i64 0, .int .i64 0, .int .i64 0, .int .i64 0, .int .i64 0, .int .i64 0, .int .i64 0, .int .i64 0, .int .i64 0, .int .i64 0, .int .i64 0, .int .i64 0, .int .i64 0, .int .i64 0, .int .i64 0, .int .i64 0, .int .i64 0, .int .i64 0, .int .i64 0, .int .i64 0, .int .i64 0, .int .i64 0, .int .i64 0, .int .i64 0, .int .i64 0, .int .i64 0, .int .i64 0, .int .i64 0, .int .i64 0, .int .i64 0, .int .i64 0, .int .i64 0, .int .i64 0, .int .i64 0, .int .i64 0, .int .i64 0, .int .i64 0, .int .i64 0, .int .i64 0, .int .i64 0, .int .i64 0, .int .i64 0, .int .i64 0, .int .i64 0, .int .i64 0, .int .i64 0, .int .i64 0, .int .i64 0, .int .i64 0] ∧ tvFld Try.prog 84 0 = some (0, 1, 3) ∧ tvFld Try.prog 84 1 = some (1, 1, 3) ∧ tvFld Try.prog 84 2 = some (2, 24, 81) ∧ tvFld Try.prog 84 3 = some (26, 24, 81) ∧ tvArr Try.prog 84 = none ∧ tvBuild Try.prog 84 = true ∧ tvNil Try.prog 84 = [] := by
  refine ⟨?_, ?_, ?_, ?_, ?_, ?_, ?_, ?_, ?_, ?_, ?_, ?_, ?_⟩ <;> kernel_rfl
theorem ty86 : Try.prog.cellsOf 86 = 3 ∧ tvSlc Try.prog 86 = 0 ∧ tvStr Try.prog 86 = false ∧ tvMap Try.prog 86 = none ∧ tvLd Try.prog 86 = some (3, true) ∧ tvZero Try.prog 86 = .agg [.int .i64 0, .int .i64 0, .int .i64 0] ∧ tvFld Try.prog 86 0 = some (0, 1, 3) ∧ tvFld Try.prog 86 1 = some (1, 1, 3) ∧ tvFld Try.prog 86 2 = some (2, 1, 3) ∧ tvArr Try.prog 86 = none ∧ tvBuild Try.prog 86 = true ∧ tvNil Try.prog 86 = [] := by
  refine ⟨?_, ?_, ?_, ?_, ?_, ?_, ?_, ?_, ?_, ?_, ?_, ?_⟩ <;> kernel_rfl
theorem ty89 : Try.prog.cellsOf 89 = 1 ∧ tvSlc Try.prog 89 = 3 ∧ tvElem Try.prog 89 = 93 ∧ tvStr Try.prog 89 = false ∧ tvMap Try.prog 89 = none ∧ tvLd Try.prog 89 = some (1, false) ∧ tvZero Try.prog 89 = .nils ∧ tvNil Try.prog 89 = [(0, 3)] := by
  refine ⟨?_, ?_, ?_, ?_, ?_, ?_, ?_, ?_⟩ <;> kernel_rfl
theorem ty91 : Try.prog.cellsOf 91 = 1 ∧ tvSlc Try.prog 91 = 0 ∧ tvStr Try.prog 91 = false ∧ tvMap Try.prog 91 = none ∧ tvLd Try.prog 91 = some (1, false) ∧ tvZero Try.prog 91 = .nilf ∧ tvNil Try.prog 91 = [] := by
  refine ⟨?_, ?_, ?_, ?_, ?_, ?_, ?_⟩ <;> kernel_rfl
theorem ty93 : Try.prog.cellsOf 93 = 3 ∧ tvSlc Try.prog 93 = 0 ∧ tvStr Try.prog 93 = false ∧ tvMap Try.prog 93 = none ∧ tvLd Try.prog 93 = some (3, true) ∧ tvZero Try.prog 93 = .agg [.int .i64 0, .int .i64 0, .nilf] ∧ tvFld Try.prog 93 0 = some (0, 1, 3) ∧ tvFld Try.prog 93 1 = some (1, 1, 3) ∧ tvFld Try.prog 93 2 = some (2, 1, 91) ∧ tvArr Try.prog 93 = none ∧ tvBuild Try.prog 93 = true ∧ tvNil Try.prog 93 = [] := by
  refine ⟨?_, ?_, ?_, ?_, ?_, ?_, ?_, ?_, ?_, ?_, ?_, ?_⟩ <;> kernel_rfl
theorem ty96 : Try.prog.cellsOf 96 = 2 ∧ tvSlc Try.prog 96 = 0 ∧ tvStr Try.prog 96 = false ∧ tvMap Try.prog 96 = none ∧ tvLd Try.prog 96 = some (2, true) ∧ tvZero Try.prog 96 = .agg [.int .i64 0, .int .i64 0] ∧ tvFld Try.prog 96 0 = some (0, 1, 3) ∧ tvFld Try.prog 96 1 = some (1, 1, 30) ∧ tvArr Try.prog 96 = none ∧ tvBuild Try.prog 96 = true ∧ tvNil Try.prog 96 = [] := by
  refine ⟨?_, ?_, ?_, ?_, ?_, ?_, ?_, ?_, ?_, ?_, ?_⟩ <;> kernel_rfl
theorem ty98 : Try.prog.cellsOf 98 = 1 ∧ tvSlc Try.prog 98 = 0 ∧ tvStr Try.prog 98 = false ∧ tvMap Try.prog 98 = some (.ints 3, .int .i64 0) ∧ tvLd Try.prog 98 = some (1, false) ∧ tvZero Try.prog 98 = .nilm ∧ tvNil Try.prog 98 = [] := by
  refine ⟨?_, ?_, ?_, ?_, ?_, ?_, ?_⟩ <;> kernel_rfl
theorem ty99 : Try.prog.cellsOf 99 = 1 ∧ tvSlc Try.prog 99 = 0 ∧ tvStr Try.prog 99 = false ∧ tvMap Try.prog 99 = none ∧ tvLd Try.prog 99 = some (1, false) ∧ tvZero Try.prog 99 = .nilf ∧ tvNil Try.prog 99 = [] := by
  refine ⟨?_, ?_, ?_, ?_, ?_, ?_, ?_⟩ <;> kernel_rfl
theorem ty100 : Try.prog.cellsOf 100 = 3 ∧ tvSlc Try.prog 100 = 0 ∧ tvStr Try.prog 100 = false ∧ tvMap Try.prog 100 = none ∧ tvLd Try.prog 100 = some (3, true) ∧ tvZero Try.prog 100 = .agg [.int .i64 0, .int .i64 0, .int .i64 0] ∧ tvArr Try.prog 100 = some (3, 1) ∧ tvArrE Try.prog 100 = some (3, 3) ∧ tvBuild Try.prog 100 = true ∧ tvNil Try.prog 100 = [] := by
  refine ⟨?_, ?_, ?_, ?_, ?_, ?_, ?_, ?_, ?_, ?_⟩ <;> kernel_rfl
theorem ty102 : Try.prog.cellsOf 102 = 1 ∧ tvSlc Try.prog 102 = 3 ∧ tvElem Try.prog 102 = 100 ∧ tvStr Try.prog 102 = false ∧ tvMap Try.prog 102 = none ∧ tvLd Try.prog 102 = some (1, false) ∧ tvZero Try.prog 102 = .nils ∧ tvNil Try.prog 102 = [(0, 3)] := by
  refine ⟨?_, ?_, ?_, ?_, ?_, ?_, ?_, ?_⟩ <;> kernel_rfl
end Sim
