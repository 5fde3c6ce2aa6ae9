/- What functions of this seat compute, by values: contracts (lemmas of the statement's proof, under the conditions that each names). -/
import Derived.Test.YtoojbjfofokfjaaSimU
import Derived.Test.YtoojbjfofokfjaaProg
import Derived.KernelRfl
namespace Sim
open Go Go.Proofs
theorem ty1 : Try.prog.cellsOf 1 = 1 ∧ tvSlc Try.prog 1 = 0 ∧ tvStr Try.prog 1 = false ∧ tvMap Try.prog 1 = none ∧ tvLd Try.prog 1 = some (1, false) ∧ tvZero Try.prog 1 = .nilf ∧ tvNil Try.prog 1 = [] := by
  refine ⟨?_, ?_, ?_, ?_, ?_, ?_, ?_⟩ <;> kernel_rfl
theorem ty2 : Try.prog.cellsOf 2 = 1 ∧ tvSlc Try.prog 2 = 0 ∧ tvStr Try.prog 2 = false ∧ tvMap Try.prog 2 = none ∧ tvInt Try.prog 2 = some .i64 ∧ tvLd Try.prog 2 = some (1, false) ∧ tvZero Try.prog 2 = .int .i64 0 ∧ tvNil Try.prog 2 = [] := by
  refine ⟨?_, ?_, ?_, ?_, ?_, ?_, ?_, ?_⟩ <;> kernel_rfl
theorem ty3 : Try.prog.cellsOf 3 = 1 ∧ tvSlc Try.prog 3 = 0 ∧ tvStr Try.prog 3 = false ∧ tvMap Try.prog 3 = none ∧ tvInt Try.prog 3 = some .i64 ∧ tvLd Try.prog 3 = some (1, false) ∧ tvZero Try.prog 3 = .int .i64 0 ∧ tvNil Try.prog 3 = [] := by
  refine ⟨?_, ?_, ?_, ?_, ?_, ?_, ?_, ?_⟩ <;> kernel_rfl
theorem ty4 : Try.prog.cellsOf 4 = 1 ∧ tvSlc Try.prog 4 = 0 ∧ tvStr Try.prog 4 = false ∧ tvMap Try.prog 4 = none ∧ tvBool Try.prog 4 = true ∧ tvLd Try.prog 4 = some (1, false) ∧ tvZero Try.prog 4 = .bool false ∧ tvNil Try.prog 4 = [] := by
  refine ⟨?_, ?_, ?_, ?_, ?_, ?_, ?_, ?_⟩ <;> kernel_rfl
theorem ty5 : Try.prog.cellsOf 5 = 1 ∧ tvSlc Try.prog 5 = 0 ∧ tvStr Try.prog 5 = false ∧ tvMap Try.prog 5 = none ∧ tvInt Try.prog 5 = some .u8 ∧ tvLd Try.prog 5 = some (1, false) ∧ tvZero Try.prog 5 = .int .u8 0 ∧ tvNil Try.prog 5 = [] := by
  refine ⟨?_, ?_, ?_, ?_, ?_, ?_, ?_, ?_⟩ <;> kernel_rfl
theorem ty6 : Try.prog.cellsOf 6 = 1 ∧ tvSlc Try.prog 6 = 0 ∧ tvStr Try.prog 6 = false ∧ tvMap Try.prog 6 = none ∧ tvInt Try.prog 6 = some .u8 ∧ tvLd Try.prog 6 = some (1, false) ∧ tvZero Try.prog 6 = .int .u8 0 ∧ tvNil Try.prog 6 = [] := by
  refine ⟨?_, ?_, ?_, ?_, ?_, ?_, ?_, ?_⟩ <;> kernel_rfl
theorem ty7 : Try.prog.cellsOf 7 = 4 ∧ tvSlc Try.prog 7 = 0 ∧ tvStr Try.prog 7 = false ∧ tvMap Try.prog 7 = none ∧ tvLd Try.prog 7 = some (4, true) ∧ tvZero Try.prog 7 = .agg [.int .i64 0, .int .i64 0, .bool false, .int .u8 0] ∧ tvFld Try.prog 7 0 = some (0, 1, 2) ∧ tvFld Try.prog 7 1 = some (1, 1, 3) ∧ tvFld Try.prog 7 2 = some (2, 1, 4) ∧ tvFld Try.prog 7 3 = some (3, 1, 6) ∧ tvArr Try.prog 7 = none ∧ tvBuild Try.prog 7 = true ∧ tvNil Try.prog 7 = [] := by
  refine ⟨?_, ?_, ?_, ?_, ?_, ?_, ?_, ?_, ?_, ?_, ?_, ?_, ?_⟩ <;> kernel_rfl
theorem ty8 : Try.prog.cellsOf 8 = 4 ∧ tvSlc Try.prog 8 = 0 ∧ tvStr Try.prog 8 = false ∧ tvMap Try.prog 8 = none ∧ tvLd Try.prog 8 = some (4, true) ∧ tvZero Try.prog 8 = .agg [.int .i64 0, .int .i64 0, .bool false, .int .u8 0] ∧ tvFld Try.prog 8 0 = some (0, 1, 2) ∧ tvFld Try.prog 8 1 = some (1, 1, 3) ∧ tvFld Try.prog 8 2 = some (2, 1, 4) ∧ tvFld Try.prog 8 3 = some (3, 1, 6) ∧ tvArr Try.prog 8 = none ∧ tvBuild Try.prog 8 = true ∧ tvNil Try.prog 8 = [] := by
  refine ⟨?_, ?_, ?_, ?_, ?_, ?_, ?_, ?_, ?_, ?_, ?_, ?_, ?_⟩ <;> kernel_rfl
theorem ty9 : Try.prog.cellsOf 9 = 1 ∧ tvSlc Try.prog 9 = 0 ∧ tvStr Try.prog 9 = true ∧ tvMap Try.prog 9 = none ∧ tvLd Try.prog 9 = some (1, false) ∧ tvZero Try.prog 9 = .str [] ∧ tvNil Try.prog 9 = [] := by
  refine ⟨?_, ?_, ?_, ?_, ?_, ?_, ?_⟩ <;> kernel_rfl
theorem ty10 : Try.prog.cellsOf 10 = 1 ∧ tvSlc Try.prog 10 = 0 ∧ tvStr Try.prog 10 = true ∧ tvMap Try.prog 10 = none ∧ tvLd Try.prog 10 = some (1, false) ∧ tvZero Try.prog 10 = .str [] ∧ tvNil Try.prog 10 = [] := by
  refine ⟨?_, ?_, ?_, ?_, ?_, ?_, ?_⟩ <;> kernel_rfl
theorem ty11 : Try.prog.cellsOf 11 = 1 ∧ tvSlc Try.prog 11 = 0 ∧ tvStr Try.prog 11 = true ∧ tvMap Try.prog 11 = none ∧ tvLd Try.prog 11 = some (1, false) ∧ tvZero Try.prog 11 = .str [] ∧ tvNil Try.prog 11 = [] := by
  refine ⟨?_, ?_, ?_, ?_, ?_, ?_, ?_⟩ <;> kernel_rfl
theorem ty12 : Try.prog.cellsOf 12 = 1 ∧ tvSlc Try.prog 12 = 0 ∧ tvStr Try.prog 12 = false ∧ tvMap Try.prog 12 = none ∧ tvInt Try.prog 12 = some .u64 ∧ tvLd Try.prog 12 = some (1, false) ∧ tvZero Try.prog 12 = .int .u64 0 ∧ tvNil Try.prog 12 = [] := by
  refine ⟨?_, ?_, ?_, ?_, ?_, ?_, ?_, ?_⟩ <;> kernel_rfl
theorem ty13 : Try.prog.cellsOf 13 = 2 ∧ tvSlc Try.prog 13 = 0 ∧ tvStr Try.prog 13 = false ∧ tvMap Try.prog 13 = none ∧ tvLd Try.prog 13 = some (2, true) ∧ tvZero Try.prog 13 = .agg [.str [], .int .u64 0] ∧ tvFld Try.prog 13 0 = some (0, 1, 9) ∧ tvFld Try.prog 13 1 = some (1, 1, 12) ∧ tvArr Try.prog 13 = none ∧ tvBuild Try.prog 13 = true ∧ tvNil Try.prog 13 = [] := by
  refine ⟨?_, ?_, ?_, ?_, ?_, ?_, ?_, ?_, ?_, ?_, ?_⟩ <;> kernel_rfl
theorem ty14 : Try.prog.cellsOf 14 = 2 ∧ tvSlc Try.prog 14 = 0 ∧ tvStr Try.prog 14 = false ∧ tvMap Try.prog 14 = none ∧ tvLd Try.prog 14 = some (2, true) ∧ tvZero Try.prog 14 = .agg [.str [], .int .u64 0] ∧ tvFld Try.prog 14 0 = some (0, 1, 9) ∧ tvFld Try.prog 14 1 = some (1, 1, 12) ∧ tvArr Try.prog 14 = none ∧ tvBuild Try.prog 14 = true ∧ tvNil Try.prog 14 = [] := by
  refine ⟨?_, ?_, ?_, ?_, ?_, ?_, ?_, ?_, ?_, ?_, ?_⟩ <;> kernel_rfl
theorem ty15 : Try.prog.cellsOf 15 = 1 ∧ tvSlc Try.prog 15 = 0 ∧ tvStr Try.prog 15 = false ∧ tvMap Try.prog 15 = none ∧ tvLd Try.prog 15 = some (1, false) ∧ tvZero Try.prog 15 = .nilp ∧ tvNil Try.prog 15 = [] := by
  refine ⟨?_, ?_, ?_, ?_, ?_, ?_, ?_⟩ <;> kernel_rfl
theorem ty16 : Try.prog.cellsOf 16 = 1 ∧ tvSlc Try.prog 16 = 0 ∧ tvStr Try.prog 16 = false ∧ tvMap Try.prog 16 = none ∧ tvLd Try.prog 16 = some (1, false) ∧ tvZero Try.prog 16 = .nilp ∧ tvNil Try.prog 16 = [] := by
  refine ⟨?_, ?_, ?_, ?_, ?_, ?_, ?_⟩ <;> kernel_rfl
theorem ty17 : Try.prog.cellsOf 17 = 1 ∧ tvSlc Try.prog 17 = 0 ∧ tvStr Try.prog 17 = false ∧ tvMap Try.prog 17 = none ∧ tvLd Try.prog 17 = some (1, false) ∧ tvZero Try.prog 17 = .nilp ∧ tvNil Try.prog 17 = [] := by
  refine ⟨?_, ?_, ?_, ?_, ?_, ?_, ?_⟩ <;> kernel_rfl
theorem ty18 : Try.prog.cellsOf 18 = 1 ∧ tvSlc Try.prog 18 = 0 ∧ tvStr Try.prog 18 = false ∧ tvMap Try.prog 18 = none ∧ tvLd Try.prog 18 = some (1, true) ∧ tvZero Try.prog 18 = .agg [.nilp] ∧ tvFld Try.prog 18 0 = some (0, 1, 17) ∧ tvArr Try.prog 18 = none ∧ tvBuild Try.prog 18 = true ∧ tvNil Try.prog 18 = [] := by
  refine ⟨?_, ?_, ?_, ?_, ?_, ?_, ?_, ?_, ?_, ?_⟩ <;> kernel_rfl
theorem ty19 : Try.prog.cellsOf 19 = 1 ∧ tvSlc Try.prog 19 = 0 ∧ tvStr Try.prog 19 = false ∧ tvMap Try.prog 19 = none ∧ tvLd Try.prog 19 = some (1, true) ∧ tvZero Try.prog 19 = .agg [.nilp] ∧ tvFld Try.prog 19 0 = some (0, 1, 17) ∧ tvArr Try.prog 19 = none ∧ tvBuild Try.prog 19 = true ∧ tvNil Try.prog 19 = [] := by
  refine ⟨?_, ?_, ?_, ?_, ?_, ?_, ?_, ?_, ?_, ?_⟩ <;> kernel_rfl
theorem ty20 : Try.prog.cellsOf 20 = 1 ∧ tvSlc Try.prog 20 = 0 ∧ tvStr Try.prog 20 = false ∧ tvMap Try.prog 20 = none ∧ tvLd Try.prog 20 = some (1, false) ∧ tvZero Try.prog 20 = .nili ∧ tvNil Try.prog 20 = [] := by
  refine ⟨?_, ?_, ?_, ?_, ?_, ?_, ?_⟩ <;> kernel_rfl
theorem ty21 : Try.prog.cellsOf 21 = 1 ∧ tvSlc Try.prog 21 = 0 ∧ tvStr Try.prog 21 = false ∧ tvMap Try.prog 21 = none ∧ tvInt Try.prog 21 = some .i32 ∧ tvLd Try.prog 21 = some (1, false) ∧ tvZero Try.prog 21 = .int .i32 0 ∧ tvNil Try.prog 21 = [] := by
  refine ⟨?_, ?_, ?_, ?_, ?_, ?_, ?_, ?_⟩ <;> kernel_rfl
theorem ty22 : Try.prog.cellsOf 22 = 1 ∧ tvSlc Try.prog 22 = 50 ∧ tvElem Try.prog 22 = 57 ∧ tvStr Try.prog 22 = false ∧ tvMap Try.prog 22 = none ∧ tvLd Try.prog 22 = some (1, false) ∧ tvZero Try.prog 22 = .nils ∧ tvNil Try.prog 22 = [(0, 50)] := by
  refine ⟨?_, ?_, ?_, ?_, ?_, ?_, ?_, ?_⟩ <;> kernel_rfl
theorem ty23 : Try.prog.cellsOf 23 = 2 ∧ tvSlc Try.prog 23 = 0 ∧ tvStr Try.prog 23 = false ∧ tvMap Try.prog 23 = none ∧ tvLd Try.prog 23 = some (2, true) ∧ tvZero Try.prog 23 = .agg [.int .i64 0, .nils] ∧ tvFld Try.prog 23 0 = some (0, 1, 3) ∧ tvFld Try.prog 23 1 = some (1, 1, 22) ∧ tvArr Try.prog 23 = none ∧ tvBuild Try.prog 23 = true ∧ tvNil Try.prog 23 = [(1, 50)] := by
  refine ⟨?_, ?_, ?_, ?_, ?_, ?_, ?_, ?_, ?_, ?_, ?_⟩ <;> kernel_rfl
theorem ty24 : Try.prog.cellsOf 24 = 2 ∧ tvSlc Try.prog 24 = 0 ∧ tvStr Try.prog 24 = false ∧ tvMap Try.prog 24 = none ∧ tvLd Try.prog 24 = some (2, true) ∧ tvZero Try.prog 24 = .agg [.int .i64 0, .nils] ∧ tvFld Try.prog 24 0 = some (0, 1, 3) ∧ tvFld Try.prog 24 1 = some (1, 1, 22) ∧ tvArr Try.prog 24 = none ∧ tvBuild Try.prog 24 = true ∧ tvNil Try.prog 24 = [(1, 50)] := by
  refine ⟨?_, ?_, ?_, ?_, ?_, ?_, ?_, ?_, ?_, ?_, ?_⟩ <;> kernel_rfl
theorem ty25 : Try.prog.cellsOf 25 = 1 ∧ tvSlc Try.prog 25 = 1 ∧ tvElem Try.prog 25 = 29 ∧ tvStr Try.prog 25 = false ∧ tvMap Try.prog 25 = none ∧ tvLd Try.prog 25 = some (1, false) ∧ tvZero Try.prog 25 = .nils ∧ tvNil Try.prog 25 = [(0, 1)] := by
  refine ⟨?_, ?_, ?_, ?_, ?_, ?_, ?_, ?_⟩ <;> kernel_rfl
theorem ty26 : Try.prog.cellsOf 26 = 2 ∧ tvSlc Try.prog 26 = 0 ∧ tvStr Try.prog 26 = false ∧ tvMap Try.prog 26 = none ∧ tvLd Try.prog 26 = some (2, true) ∧ tvZero Try.prog 26 = .agg [.int .i64 0, .int .i64 0] ∧ tvArr Try.prog 26 = some (2, 1) ∧ tvArrE Try.prog 26 = some (2, 3) ∧ tvBuild Try.prog 26 = true ∧ tvNil Try.prog 26 = [] := by
  refine ⟨?_, ?_, ?_, ?_, ?_, ?_, ?_, ?_, ?_, ?_⟩ <;> kernel_rfl
theorem ty27 : Try.prog.cellsOf 27 = 1 ∧ tvSlc Try.prog 27 = 0 ∧ tvStr Try.prog 27 = false ∧ tvMap Try.prog 27 = none ∧ tvLd Try.prog 27 = some (1, false) ∧ tvZero Try.prog 27 = .nilf ∧ tvNil Try.prog 27 = [] := by
  refine ⟨?_, ?_, ?_, ?_, ?_, ?_, ?_⟩ <;> kernel_rfl
theorem ty28 : Try.prog.cellsOf 28 = 1 ∧ tvSlc Try.prog 28 = 0 ∧ tvStr Try.prog 28 = false ∧ tvMap Try.prog 28 = none ∧ tvLd Try.prog 28 = some (1, false) ∧ tvZero Try.prog 28 = .nilf ∧ tvNil Try.prog 28 = [] := by
  refine ⟨?_, ?_, ?_, ?_, ?_, ?_, ?_⟩ <;> kernel_rfl
theorem ty29 : Try.prog.cellsOf 29 = 1 ∧ tvSlc Try.prog 29 = 3 ∧ tvElem Try.prog 29 = 52 ∧ tvStr Try.prog 29 = false ∧ tvMap Try.prog 29 = none ∧ tvLd Try.prog 29 = some (1, false) ∧ tvZero Try.prog 29 = .nils ∧ tvNil Try.prog 29 = [(0, 3)] := by
  refine ⟨?_, ?_, ?_, ?_, ?_, ?_, ?_, ?_⟩ <;> kernel_rfl
theorem ty30 : Try.prog.cellsOf 30 = 1 ∧ tvSlc Try.prog 30 = 0 ∧ tvStr Try.prog 30 = false ∧ tvMap Try.prog 30 = none ∧ tvInt Try.prog 30 = some .i64 ∧ tvLd Try.prog 30 = some (1, false) ∧ tvZero Try.prog 30 = .int .i64 0 ∧ tvNil Try.prog 30 = [] := by
  refine ⟨?_, ?_, ?_, ?_, ?_, ?_, ?_, ?_⟩ <;> kernel_rfl
theorem ty32 : Try.prog.cellsOf 32 = 1 ∧ tvSlc Try.prog 32 = 0 ∧ tvStr Try.prog 32 = false ∧ tvMap Try.prog 32 = none ∧ tvLd Try.prog 32 = some (1, false) ∧ tvZero Try.prog 32 = .nilf ∧ tvNil Try.prog 32 = [] := by
  refine ⟨?_, ?_, ?_, ?_, ?_, ?_, ?_⟩ <;> kernel_rfl
theorem ty33 : Try.prog.cellsOf 33 = 2 ∧ tvSlc Try.prog 33 = 0 ∧ tvStr Try.prog 33 = false ∧ tvMap Try.prog 33 = none ∧ tvLd Try.prog 33 = some (2, true) ∧ tvZero Try.prog 33 = .agg [.int .i64 0, .int .i64 0] ∧ tvFld Try.prog 33 0 = some (0, 1, 3) ∧ tvFld Try.prog 33 1 = some (1, 1, 30) ∧ tvArr Try.prog 33 = none ∧ tvBuild Try.prog 33 = true ∧ tvNil Try.prog 33 = [] := by
  refine ⟨?_, ?_, ?_, ?_, ?_, ?_, ?_, ?_, ?_, ?_, ?_⟩ <;> kernel_rfl
theorem ty34 : Try.prog.cellsOf 34 = 2 ∧ tvSlc Try.prog 34 = 0 ∧ tvStr Try.prog 34 = false ∧ tvMap Try.prog 34 = none ∧ tvLd Try.prog 34 = some (2, true) ∧ tvZero Try.prog 34 = .agg [.int .i64 0, .int .i64 0] ∧ tvFld Try.prog 34 0 = some (0, 1, 3) ∧ tvFld Try.prog 34 1 = some (1, 1, 30) ∧ tvArr Try.prog 34 = none ∧ tvBuild Try.prog 34 = true ∧ tvNil Try.prog 34 = [] := by
  refine ⟨?_, ?_, ?_, ?_, ?_, ?_, ?_, ?_, ?_, ?_, ?_⟩ <;> kernel_rfl
theorem ty35 : Try.prog.cellsOf 35 = 1 ∧ tvSlc Try.prog 35 = 0 ∧ tvStr Try.prog 35 = false ∧ tvMap Try.prog 35 = none ∧ tvLd Try.prog 35 = some (1, false) ∧ tvZero Try.prog 35 = .nilf ∧ tvNil Try.prog 35 = [] := by
  refine ⟨?_, ?_, ?_, ?_, ?_, ?_, ?_⟩ <;> kernel_rfl
theorem ty36 : Try.prog.cellsOf 36 = 1 ∧ tvSlc Try.prog 36 = 0 ∧ tvStr Try.prog 36 = false ∧ tvMap Try.prog 36 = none ∧ tvLd Try.prog 36 = some (1, false) ∧ tvZero Try.prog 36 = .nilf ∧ tvNil Try.prog 36 = [] := by
  refine ⟨?_, ?_, ?_, ?_, ?_, ?_, ?_⟩ <;> kernel_rfl
theorem ty37 : Try.prog.cellsOf 37 = 1 ∧ tvSlc Try.prog 37 = 0 ∧ tvStr Try.prog 37 = false ∧ tvMap Try.prog 37 = none ∧ tvLd Try.prog 37 = some (1, false) ∧ tvZero Try.prog 37 = .nilf ∧ tvNil Try.prog 37 = [] := by
  refine ⟨?_, ?_, ?_, ?_, ?_, ?_, ?_⟩ <;> kernel_rfl
theorem ty38 : Try.prog.cellsOf 38 = 1 ∧ tvSlc Try.prog 38 = 0 ∧ tvStr Try.prog 38 = false ∧ tvMap Try.prog 38 = none ∧ tvLd Try.prog 38 = some (1, false) ∧ tvZero Try.prog 38 = .nilf ∧ tvNil Try.prog 38 = [] := by
  refine ⟨?_, ?_, ?_, ?_, ?_, ?_, ?_⟩ <;> kernel_rfl
theorem ty40 : Try.prog.cellsOf 40 = 1 ∧ tvSlc Try.prog 40 = 0 ∧ tvStr Try.prog 40 = false ∧ tvMap Try.prog 40 = none ∧ tvLd Try.prog 40 = some (1, false) ∧ tvZero Try.prog 40 = .nilf ∧ tvNil Try.prog 40 = [] := by
  refine ⟨?_, ?_, ?_, ?_, ?_, ?_, ?_⟩ <;> kernel_rfl
theorem ty41 : Try.prog.cellsOf 41 = 2 ∧ tvSlc Try.prog 41 = 0 ∧ tvStr Try.prog 41 = false ∧ tvMap Try.prog 41 = none ∧ tvLd Try.prog 41 = some (2, true) ∧ tvZero Try.prog 41 = .agg [.nils, .int .i64 0] ∧ tvFld Try.prog 41 0 = some (0, 1, 29) ∧ tvFld Try.prog 41 1 = some (1, 1, 30) ∧ tvArr Try.prog 41 = none ∧ tvBuild Try.prog 41 = true ∧ tvNil Try.prog 41 = [(0, 3)] := by
  refine ⟨?_, ?_, ?_, ?_, ?_, ?_, ?_, ?_, ?_, ?_, ?_⟩ <;> kernel_rfl
theorem ty42 : Try.prog.cellsOf 42 = 2 ∧ tvSlc Try.prog 42 = 0 ∧ tvStr Try.prog 42 = false ∧ tvMap Try.prog 42 = none ∧ tvLd Try.prog 42 = some (2, true) ∧ tvZero Try.prog 42 = .agg [.nils, .int .i64 0] ∧ tvFld Try.prog 42 0 = some (0, 1, 29) ∧ tvFld Try.prog 42 1 = some (1, 1, 30) ∧ tvArr Try.prog 42 = none ∧ tvBuild Try.prog 42 = true ∧ tvNil Try.prog 42 = [(0, 3)] := by
  refine ⟨?_, ?_, ?_, ?_, ?_, ?_, ?_, ?_, ?_, ?_, ?_⟩ <;> kernel_rfl
theorem ty43 : Try.prog.cellsOf 43 = 1 ∧ tvSlc Try.prog 43 = 0 ∧ tvStr Try.prog 43 = false ∧ tvMap Try.prog 43 = none ∧ tvLd Try.prog 43 = some (1, false) ∧ tvZero Try.prog 43 = .nilf ∧ tvNil Try.prog 43 = [] := by
  refine ⟨?_, ?_, ?_, ?_, ?_, ?_, ?_⟩ <;> kernel_rfl
theorem ty44 : Try.prog.cellsOf 44 = 1 ∧ tvSlc Try.prog 44 = 0 ∧ tvStr Try.prog 44 = false ∧ tvMap Try.prog 44 = none ∧ tvLd Try.prog 44 = some (1, false) ∧ tvZero Try.prog 44 = .nilf ∧ tvNil Try.prog 44 = [] := by
  refine ⟨?_, ?_, ?_, ?_, ?_, ?_, ?_⟩ <;> kernel_rfl
theorem ty45 : Try.prog.cellsOf 45 = 1 ∧ tvSlc Try.prog 45 = 0 ∧ tvStr Try.prog 45 = false ∧ tvMap Try.prog 45 = none ∧ tvLd Try.prog 45 = some (1, false) ∧ tvZero Try.prog 45 = .nilf ∧ tvNil Try.prog 45 = [] := by
  refine ⟨?_, ?_, ?_, ?_, ?_, ?_, ?_⟩ <;> kernel_rfl
theorem ty46 : Try.prog.cellsOf 46 = 1 ∧ tvSlc Try.prog 46 = 0 ∧ tvStr Try.prog 46 = false ∧ tvMap Try.prog 46 = none ∧ tvLd Try.prog 46 = some (1, false) ∧ tvZero Try.prog 46 = .nilf ∧ tvNil Try.prog 46 = [] := by
  refine ⟨?_, ?_, ?_, ?_, ?_, ?_, ?_⟩ <;> kernel_rfl
theorem ty47 : Try.prog.cellsOf 47 = 5 ∧ tvSlc Try.prog 47 = 0 ∧ tvStr Try.prog 47 = false ∧ tvMap Try.prog 47 = none ∧ tvLd Try.prog 47 = some (5, true) ∧ tvZero Try.prog 47 = .agg [.int .i64 0, .int .i64 0, .int .i64 0, .int .i64 0, .int .i64 0] ∧ tvFld Try.prog 47 0 = some (0, 1, 3) ∧ tvFld Try.prog 47 1 = some (1, 1, 3) ∧ tvFld Try.prog 47 2 = some (2, 1, 3) ∧ tvFld Try.prog 47 3 = some (3, 1, 3) ∧ tvFld Try.prog 47 4 = some (4, 1, 3) ∧ tvArr Try.prog 47 = none ∧ tvBuild Try.prog 47 = true ∧ tvNil Try.prog 47 = [] := by
  refine ⟨?_, ?_, ?_, ?_, ?_, ?_, ?_, ?_, ?_, ?_, ?_, ?_, ?_, ?_⟩ <;> kernel_rfl
theorem ty48 : Try.prog.cellsOf 48 = 5 ∧ tvSlc Try.prog 48 = 0 ∧ tvStr Try.prog 48 = false ∧ tvMap Try.prog 48 = none ∧ tvLd Try.prog 48 = some (5, true) ∧ tvZero Try.prog 48 = .agg [.int .i64 0, .int .i64 0, .int .i64 0, .int .i64 0, .int .i64 0] ∧ tvFld Try.prog 48 0 = some (0, 1, 3) ∧ tvFld Try.prog 48 1 = some (1, 1, 3) ∧ tvFld Try.prog 48 2 = some (2, 1, 3) ∧ tvFld Try.prog 48 3 = some (3, 1, 3) ∧ tvFld Try.prog 48 4 = some (4, 1, 3) ∧ tvArr Try.prog 48 = none ∧ tvBuild Try.prog 48 = true ∧ tvNil Try.prog 48 = [] := by
  refine ⟨?_, ?_, ?_, ?_, ?_, ?_, ?_, ?_, ?_, ?_, ?_, ?_, ?_, ?_⟩ <;> kernel_rfl
theorem ty49 : Try.prog.cellsOf 49 = 1 ∧ tvSlc Try.prog 49 = 0 ∧ tvStr Try.prog 49 = false ∧ tvMap Try.prog 49 = none ∧ tvLd Try.prog 49 = some (1, false) ∧ tvZero Try.prog 49 = .nilf ∧ tvNil Try.prog 49 = [] := by
  refine ⟨?_, ?_, ?_, ?_, ?_, ?_, ?_⟩ <;> kernel_rfl
theorem ty50 : Try.prog.cellsOf 50 = 1 ∧ tvSlc Try.prog 50 = 0 ∧ tvStr Try.prog 50 = false ∧ tvMap Try.prog 50 = none ∧ tvLd Try.prog 50 = some (1, false) ∧ tvZero Try.prog 50 = .nilf ∧ tvNil Try.prog 50 = [] := by
  refine ⟨?_, ?_, ?_, ?_, ?_, ?_, ?_⟩ <;> kernel_rfl
theorem ty51 : Try.prog.cellsOf 51 = 3 ∧ tvSlc Try.prog 51 = 0 ∧ tvStr Try.prog 51 = false ∧ tvMap Try.prog 51 = none ∧ tvLd Try.prog 51 = some (3, true) ∧ tvZero Try.prog 51 = .agg [.int .i64 0, .int .i64 0, .int .i64 0] ∧ tvFld Try.prog 51 0 = some (0, 1, 3) ∧ tvFld Try.prog 51 1 = some (1, 1, 3) ∧ tvFld Try.prog 51 2 = some (2, 1, 3) ∧ tvArr Try.prog 51 = none ∧ tvBuild Try.prog 51 = true ∧ tvNil Try.prog 51 = [] := by
  refine ⟨?_, ?_, ?_, ?_, ?_, ?_, ?_, ?_, ?_, ?_, ?_, ?_⟩ <;> kernel_rfl
theorem ty52 : Try.prog.cellsOf 52 = 3 ∧ tvSlc Try.prog 52 = 0 ∧ tvStr Try.prog 52 = false ∧ tvMap Try.prog 52 = none ∧ tvLd Try.prog 52 = some (3, true) ∧ tvZero Try.prog 52 = .agg [.int .i64 0, .int .i64 0, .int .i64 0] ∧ tvFld Try.prog 52 0 = some (0, 1, 3) ∧ tvFld Try.prog 52 1 = some (1, 1, 3) ∧ tvFld Try.prog 52 2 = some (2, 1, 3) ∧ tvArr Try.prog 52 = none ∧ tvBuild Try.prog 52 = true ∧ tvNil Try.prog 52 = [] := by
  refine ⟨?_, ?_, ?_, ?_, ?_, ?_, ?_, ?_, ?_, ?_, ?_, ?_⟩ <;> kernel_rfl
theorem ty53 : Try.prog.cellsOf 53 = 1 ∧ tvSlc Try.prog 53 = 0 ∧ tvStr Try.prog 53 = false ∧ tvMap Try.prog 53 = none ∧ tvLd Try.prog 53 = some (1, false) ∧ tvZero Try.prog 53 = .nilf ∧ tvNil Try.prog 53 = [] := by
  refine ⟨?_, ?_, ?_, ?_, ?_, ?_, ?_⟩ <;> kernel_rfl
theorem ty54 : Try.prog.cellsOf 54 = 1 ∧ tvSlc Try.prog 54 = 0 ∧ tvStr Try.prog 54 = false ∧ tvMap Try.prog 54 = none ∧ tvInt Try.prog 54 = some .u16 ∧ tvLd Try.prog 54 = some (1, false) ∧ tvZero Try.prog 54 = .int .u16 0 ∧ tvNil Try.prog 54 = [] := by
  refine ⟨?_, ?_, ?_, ?_, ?_, ?_, ?_, ?_⟩ <;> kernel_rfl
theorem ty55 : Try.prog.cellsOf 55 = 24 ∧ tvSlc Try.prog 55 = 0 ∧ tvStr Try.prog 55 = false ∧ tvMap Try.prog 55 = none ∧ tvLd Try.prog 55 = some (24, true) ∧ tvZero Try.prog 55 = .agg [.int .i64 0, .int .i64 0, .int .i64 0, .int .i64 0, .int .i64 0, .int .i64 0, .int .i64 0, .int .i64 0, .int .i64 0, .int .i64 0, .int .i64 0, .int .i64 0, .int .i64 0, .int .i64 0, .int .i64 0, .int .i64 0, .int .i64 0, .int .i64 0, .int .i64 0, .int .i64 0, .int .i64 0, .int .i64 0, .int .i64 0, .int .i64 0] ∧ tvArr Try.prog 55 = some (24, 1) ∧ tvArrE Try.prog 55 = some (24, 3) ∧ tvBuild Try.prog 55 = true ∧ tvNil Try.prog 55 = [] := by
  refine ⟨?_, ?_, ?_, ?_, ?_, ?_, ?_, ?_, ?_, ?_⟩ <;> kernel_rfl
theorem ty56 : Try.prog.cellsOf 56 = 50 ∧ tvSlc Try.prog 56 = 0 ∧ tvStr Try.prog 56 = false ∧ tvMap Try.prog 56 = none ∧ tvLd Try.prog 56 = some (50, true) ∧ tvZero Try.prog 56 = .agg [.int .i64 0, .int .i64 0, .int .i64 0, .int .i64 0, .int .i64 0, .int .i64 0, .int .i64 0, .int .i64 0, .int .i64 0, .int .i64 0, .int .i64 0, .int .i64 0, .int .i64 0, .int .i64 0, .int .i64 0, .int .i64 0, .int .i64 0, .int .i64 0, .int .i64 0, .int .i64 0, .int .i64 0, .int .i64 0, .int .i64 0, .int .i64 0, .int .i64 0, .int .i64 0, .int .i64 0, .int .i64 0, .int .i64 0, .int .i64 0, .int .i64 0, .int .i64 0, .int .i64 0, .int .i64 0, .int .i64 0, .int .i64 0, .int .i64 0, .int .i64 0, .int .i64 0, .int .i64 0, .int .i64 0, .int .i64 0, .int .i64 0, .int .i64 0, .int .i64 0, .int .i64 0, .int .i64 0, .int .i64 0, .int .i64 0, .int .i64 0] ∧ tvFld Try.prog 56 0 = some (0, 1, 3) ∧ tvFld Try.prog 56 1 = some (1, 1, 3) ∧ tvFld Try.prog 56 2 = some (2, 24, 55) ∧ tvFld Try.prog 56 3 = some (26, 24, 55) ∧ tvArr Try.prog 56 = none ∧ tvBuild Try.prog 56 = true ∧ tvNil Try.prog 56 = [] := by
  refine ⟨?_, ?_, ?_, ?_, ?_, ?_, ?_, ?_, ?_, ?_, ?_, ?_, ?_⟩ <;> kernel_rfl
theorem ty57 : Try.prog.cellsOf 57 = 50 ∧ tvSlc Try.prog 57 = 0 ∧ tvStr Try.prog 57 = false ∧ tvMap Try.prog 57 = none ∧ tvLd Try.prog 57 = some (50, true) ∧ tvZero Try.prog 57 = .agg [.int .i64 0, .int .i64 0, .int .i64 0, .int .i64 0, .int .i64 0, .int .i64 0, .int .i64 0, .int .i64 0, .int .i64 0, .int .i64 0, .int .i64 0, .int .i64 0, .int .i64 0, .int .i64 0, .int .i64 0, .int .i64 0, .int .i64 0, .int .i64 0, .int .i64 0, .int .i64 0, .int .i64 0, .int .i64 0, .int .i64 0, .int .i64 0, .int .i64 0, .int .i64 0, .int .i64 0, .int .i64 0, .int .i64 0, .int .i64 0, .int .i64 0, .int .i64 0, .int .i64 0, .int .i64 0, .int .i64 0, .int .i64 0, .int .i64 0, .int .i64 0, .int .i64 0, .int .i64 0, .int .i64 0, .int .i64 0, .int .i64 0, .int .i64 0, .int .i64 0, .int .i64 0, .int .i64 0, .int .i64 0, .int .i64 0, .int .i64 0] ∧ tvFld Try.prog 57 0 = some (0, 1, 3) ∧ tvFld Try.prog 57 1 = some (1, 1, 3) ∧ tvFld Try.prog 57 2 = some (2, 24, 55) ∧ tvFld Try.prog 57 3 = some (26, 24, 55) ∧ tvArr Try.prog 57 = none ∧ tvBuild Try.prog 57 = true ∧ tvNil Try.prog 57 = [] := by
  refine ⟨?_, ?_, ?_, ?_, ?_, ?_, ?_, ?_, ?_, ?_, ?_, ?_, ?_⟩ <;> kernel_rfl
theorem ty58 : Try.prog.cellsOf 58 = 1 ∧ tvSlc Try.prog 58 = 0 ∧ tvStr Try.prog 58 = false ∧ tvMap Try.prog 58 = none ∧ tvLd Try.prog 58 = some (1, false) ∧ tvZero Try.prog 58 = .nilf ∧ tvNil Try.prog 58 = [] := by
  refine ⟨?_, ?_, ?_, ?_, ?_, ?_, ?_⟩ <;> kernel_rfl
theorem ty59 : Try.prog.cellsOf 59 = 4 ∧ tvSlc Try.prog 59 = 0 ∧ tvStr Try.prog 59 = false ∧ tvMap Try.prog 59 = none ∧ tvLd Try.prog 59 = some (4, true) ∧ tvZero Try.prog 59 = .agg [.int .u16 0, .int .u16 0, .int .u16 0, .int .u16 0] ∧ tvArr Try.prog 59 = some (4, 1) ∧ tvArrE Try.prog 59 = some (4, 54) ∧ tvBuild Try.prog 59 = true ∧ tvNil Try.prog 59 = [] := by
  refine ⟨?_, ?_, ?_, ?_, ?_, ?_, ?_, ?_, ?_, ?_⟩ <;> kernel_rfl
theorem ty60 : Try.prog.cellsOf 60 = 1 ∧ tvSlc Try.prog 60 = 0 ∧ tvStr Try.prog 60 = false ∧ tvMap Try.prog 60 = none ∧ tvLd Try.prog 60 = some (1, false) ∧ tvZero Try.prog 60 = .nilf ∧ tvNil Try.prog 60 = [] := by
  refine ⟨?_, ?_, ?_, ?_, ?_, ?_, ?_⟩ <;> kernel_rfl
theorem ty61 : Try.prog.cellsOf 61 = 1 ∧ tvSlc Try.prog 61 = 0 ∧ tvStr Try.prog 61 = false ∧ tvMap Try.prog 61 = none ∧ tvLd Try.prog 61 = some (1, false) ∧ tvZero Try.prog 61 = .nilf ∧ tvNil Try.prog 61 = [] := by
  refine ⟨?_, ?_, ?_, ?_, ?_, ?_, ?_⟩ <;> kernel_rfl
theorem ty62 : Try.prog.cellsOf 62 = 1 ∧ tvSlc Try.prog 62 = 0 ∧ tvStr Try.prog 62 = false ∧ tvMap Try.prog 62 = none ∧ tvLd Try.prog 62 = some (1, false) ∧ tvZero Try.prog 62 = .nilf ∧ tvNil Try.prog 62 = [] := by
  refine ⟨?_, ?_, ?_, ?_, ?_, ?_, ?_⟩ <;> kernel_rfl
theorem ty63 : Try.prog.cellsOf 63 = 2 ∧ tvSlc Try.prog 63 = 0 ∧ tvStr Try.prog 63 = false ∧ tvMap Try.prog 63 = none ∧ tvLd Try.prog 63 = some (2, true) ∧ tvZero Try.prog 63 = .agg [.int .u16 0, .int .u16 0] ∧ tvArr Try.prog 63 = some (2, 1) ∧ tvArrE Try.prog 63 = some (2, 54) ∧ tvBuild Try.prog 63 = true ∧ tvNil Try.prog 63 = [] := by
  refine ⟨?_, ?_, ?_, ?_, ?_, ?_, ?_, ?_, ?_, ?_⟩ <;> kernel_rfl
theorem ty64 : Try.prog.cellsOf 64 = 1 ∧ tvSlc Try.prog 64 = 0 ∧ tvStr Try.prog 64 = false ∧ tvMap Try.prog 64 = none ∧ tvLd Try.prog 64 = some (1, false) ∧ tvZero Try.prog 64 = .nilf ∧ tvNil Try.prog 64 = [] := by
  refine ⟨?_, ?_, ?_, ?_, ?_, ?_, ?_⟩ <;> kernel_rfl
theorem ty65 : Try.prog.cellsOf 65 = 1 ∧ tvSlc Try.prog 65 = 5 ∧ tvElem Try.prog 65 = 48 ∧ tvStr Try.prog 65 = false ∧ tvMap Try.prog 65 = none ∧ tvLd Try.prog 65 = some (1, false) ∧ tvZero Try.prog 65 = .nils ∧ tvNil Try.prog 65 = [(0, 5)] := by
  refine ⟨?_, ?_, ?_, ?_, ?_, ?_, ?_, ?_⟩ <;> kernel_rfl
theorem ty66 : Try.prog.cellsOf 66 = 1 ∧ tvSlc Try.prog 66 = 0 ∧ tvStr Try.prog 66 = false ∧ tvMap Try.prog 66 = none ∧ tvLd Try.prog 66 = some (1, false) ∧ tvZero Try.prog 66 = .nilf ∧ tvNil Try.prog 66 = [] := by
  refine ⟨?_, ?_, ?_, ?_, ?_, ?_, ?_⟩ <;> kernel_rfl
theorem ty67 : Try.prog.cellsOf 67 = 1 ∧ tvSlc Try.prog 67 = 0 ∧ tvStr Try.prog 67 = false ∧ tvMap Try.prog 67 = none ∧ tvLd Try.prog 67 = some (1, false) ∧ tvZero Try.prog 67 = .nilf ∧ tvNil Try.prog 67 = [] := by
  refine ⟨?_, ?_, ?_, ?_, ?_, ?_, ?_⟩ <;> kernel_rfl
theorem ty68 : Try.prog.cellsOf 68 = 1 ∧ tvSlc Try.prog 68 = 0 ∧ tvStr Try.prog 68 = false ∧ tvMap Try.prog 68 = none ∧ tvLd Try.prog 68 = some (1, false) ∧ tvZero Try.prog 68 = .nilf ∧ tvNil Try.prog 68 = [] := by
  refine ⟨?_, ?_, ?_, ?_, ?_, ?_, ?_⟩ <;> kernel_rfl
theorem ty69 : Try.prog.cellsOf 69 = 1 ∧ tvSlc Try.prog 69 = 0 ∧ tvStr Try.prog 69 = false ∧ tvMap Try.prog 69 = none ∧ tvLd Try.prog 69 = some (1, false) ∧ tvZero Try.prog 69 = .nilf ∧ tvNil Try.prog 69 = [] := by
  refine ⟨?_, ?_, ?_, ?_, ?_, ?_, ?_⟩ <;> kernel_rfl
theorem ty70 : Try.prog.cellsOf 70 = 1 ∧ tvSlc Try.prog 70 = 0 ∧ tvStr Try.prog 70 = false ∧ tvMap Try.prog 70 = none ∧ tvLd Try.prog 70 = some (1, false) ∧ tvZero Try.prog 70 = .nilf ∧ tvNil Try.prog 70 = [] := by
  refine ⟨?_, ?_, ?_, ?_, ?_, ?_, ?_⟩ <;> kernel_rfl
theorem ty71 : Try.prog.cellsOf 71 = 1 ∧ tvSlc Try.prog 71 = 0 ∧ tvStr Try.prog 71 = false ∧ tvMap Try.prog 71 = none ∧ tvLd Try.prog 71 = some (1, false) ∧ tvZero Try.prog 71 = .nilf ∧ tvNil Try.prog 71 = [] := by
  refine ⟨?_, ?_, ?_, ?_, ?_, ?_, ?_⟩ <;> kernel_rfl
theorem ty72 : Try.prog.cellsOf 72 = 1 ∧ tvSlc Try.prog 72 = 0 ∧ tvStr Try.prog 72 = false ∧ tvMap Try.prog 72 = none ∧ tvLd Try.prog 72 = some (1, false) ∧ tvZero Try.prog 72 = .nilf ∧ tvNil Try.prog 72 = [] := by
  refine ⟨?_, ?_, ?_, ?_, ?_, ?_, ?_⟩ <;> kernel_rfl
theorem ty73 : Try.prog.cellsOf 73 = 1 ∧ tvSlc Try.prog 73 = 0 ∧ tvStr Try.prog 73 = false ∧ tvMap Try.prog 73 = some (.ints 2, .int .i64 0) ∧ tvLd Try.prog 73 = some (1, false) ∧ tvZero Try.prog 73 = .nilm ∧ tvNil Try.prog 73 = [] := by
  refine ⟨?_, ?_, ?_, ?_, ?_, ?_, ?_⟩ <;> kernel_rfl
theorem ty74 : Try.prog.cellsOf 74 = 2 ∧ tvSlc Try.prog 74 = 0 ∧ tvStr Try.prog 74 = false ∧ tvMap Try.prog 74 = none ∧ tvLd Try.prog 74 = some (2, true) ∧ tvZero Try.prog 74 = .agg [.int .i64 0, .int .i64 0] ∧ tvFld Try.prog 74 0 = some (0, 1, 3) ∧ tvFld Try.prog 74 1 = some (1, 1, 3) ∧ tvArr Try.prog 74 = none ∧ tvBuild Try.prog 74 = true ∧ tvNil Try.prog 74 = [] := by
  refine ⟨?_, ?_, ?_, ?_, ?_, ?_, ?_, ?_, ?_, ?_, ?_⟩ <;> kernel_rfl
theorem ty75 : Try.prog.cellsOf 75 = 2 ∧ tvSlc Try.prog 75 = 0 ∧ tvStr Try.prog 75 = false ∧ tvMap Try.prog 75 = none ∧ tvLd Try.prog 75 = some (2, true) ∧ tvZero Try.prog 75 = .agg [.int .i64 0, .int .i64 0] ∧ tvFld Try.prog 75 0 = some (0, 1, 3) ∧ tvFld Try.prog 75 1 = some (1, 1, 3) ∧ tvArr Try.prog 75 = none ∧ tvBuild Try.prog 75 = true ∧ tvNil Try.prog 75 = [] := by
  refine ⟨?_, ?_, ?_, ?_, ?_, ?_, ?_, ?_, ?_, ?_, ?_⟩ <;> kernel_rfl
theorem ty76 : Try.prog.cellsOf 76 = 1 ∧ tvSlc Try.prog 76 = 0 ∧ tvStr Try.prog 76 = false ∧ tvMap Try.prog 76 = none ∧ tvLd Try.prog 76 = some (1, false) ∧ tvZero Try.prog 76 = .nilf ∧ tvNil Try.prog 76 = [] := by
  refine ⟨?_, ?_, ?_, ?_, ?_, ?_, ?_⟩ <;> kernel_rfl
theorem ty77 : Try.prog.cellsOf 77 = 1 ∧ tvSlc Try.prog 77 = 0 ∧ tvStr Try.prog 77 = false ∧ tvMap Try.prog 77 = none ∧ tvLd Try.prog 77 = some (1, false) ∧ tvZero Try.prog 77 = .nilf ∧ tvNil Try.prog 77 = [] := by
  refine ⟨?_, ?_, ?_, ?_, ?_, ?_, ?_⟩ <;> kernel_rfl
theorem ty78 : Try.prog.cellsOf 78 = 1 ∧ tvSlc Try.prog 78 = 0 ∧ tvStr Try.prog 78 = false ∧ tvMap Try.prog 78 = none ∧ tvLd Try.prog 78 = some (1, false) ∧ tvZero Try.prog 78 = .nilf ∧ tvNil Try.prog 78 = [] := by
  refine ⟨?_, ?_, ?_, ?_, ?_, ?_, ?_⟩ <;> kernel_rfl
theorem ty79 : Try.prog.cellsOf 79 = 1 ∧ tvSlc Try.prog 79 = 0 ∧ tvStr Try.prog 79 = false ∧ tvMap Try.prog 79 = none ∧ tvLd Try.prog 79 = some (1, false) ∧ tvZero Try.prog 79 = .nilf ∧ tvNil Try.prog 79 = [] := by
  refine ⟨?_, ?_, ?_, ?_, ?_, ?_, ?_⟩ <;> kernel_rfl
theorem ty80 : Try.prog.cellsOf 80 = 1 ∧ tvSlc Try.prog 80 = 0 ∧ tvStr Try.prog 80 = false ∧ tvMap Try.prog 80 = none ∧ tvLd Try.prog 80 = some (1, false) ∧ tvZero Try.prog 80 = .nilf ∧ tvNil Try.prog 80 = [] := by
  refine ⟨?_, ?_, ?_, ?_, ?_, ?_, ?_⟩ <;> kernel_rfl
theorem ty81 : Try.prog.cellsOf 81 = 1 ∧ tvSlc Try.prog 81 = 0 ∧ tvStr Try.prog 81 = false ∧ tvMap Try.prog 81 = none ∧ tvLd Try.prog 81 = some (1, false) ∧ tvZero Try.prog 81 = .nilf ∧ tvNil Try.prog 81 = [] := by
  refine ⟨?_, ?_, ?_, ?_, ?_, ?_, ?_⟩ <;> kernel_rfl
theorem ty82 : Try.prog.cellsOf 82 = 1 ∧ tvSlc Try.prog 82 = 0 ∧ tvStr Try.prog 82 = false ∧ tvMap Try.prog 82 = none ∧ tvLd Try.prog 82 = some (1, false) ∧ tvZero Try.prog 82 = .nilf ∧ tvNil Try.prog 82 = [] := by
  refine ⟨?_, ?_, ?_, ?_, ?_, ?_, ?_⟩ <;> kernel_rfl
theorem ty83 : Try.prog.cellsOf 83 = 1 ∧ tvSlc Try.prog 83 = 0 ∧ tvStr Try.prog 83 = false ∧ tvMap Try.prog 83 = none ∧ tvLd Try.prog 83 = some (1, false) ∧ tvZero Try.prog 83 = .nilf ∧ tvNil Try.prog 83 = [] := by
  refine ⟨?_, ?_, ?_, ?_, ?_, ?_, ?_⟩ <;> kernel_rfl
theorem ty84 : Try.prog.cellsOf 84 = 1 ∧ tvSlc Try.prog 84 = 0 ∧ tvStr Try.prog 84 = false ∧ tvMap Try.prog 84 = none ∧ tvLd Try.prog 84 = some (1, false) ∧ tvZero Try.prog 84 = .nilf ∧ tvNil Try.prog 84 = [] := by
  refine ⟨?_, ?_, ?_, ?_, ?_, ?_, ?_⟩ <;> kernel_rfl
theorem ty85 : Try.prog.cellsOf 85 = 1 ∧ tvSlc Try.prog 85 = 0 ∧ tvStr Try.prog 85 = false ∧ tvMap Try.prog 85 = none ∧ tvInt Try.prog 85 = some .u64 ∧ tvLd Try.prog 85 = some (1, false) ∧ tvZero Try.prog 85 = .int .u64 0 ∧ tvNil Try.prog 85 = [] := by
  refine ⟨?_, ?_, ?_, ?_, ?_, ?_, ?_, ?_⟩ <;> kernel_rfl
theorem ty86 : Try.prog.cellsOf 86 = 1 ∧ tvSlc Try.prog 86 = 0 ∧ tvStr Try.prog 86 = false ∧ tvMap Try.prog 86 = none ∧ tvLd Try.prog 86 = some (1, false) ∧ tvZero Try.prog 86 = .nilf ∧ tvNil Try.prog 86 = [] := by
  refine ⟨?_, ?_, ?_, ?_, ?_, ?_, ?_⟩ <;> kernel_rfl
theorem ty87 : Try.prog.cellsOf 87 = 1 ∧ tvSlc Try.prog 87 = 0 ∧ tvStr Try.prog 87 = false ∧ tvMap Try.prog 87 = none ∧ tvLd Try.prog 87 = some (1, false) ∧ tvZero Try.prog 87 = .nilf ∧ tvNil Try.prog 87 = [] := by
  refine ⟨?_, ?_, ?_, ?_, ?_, ?_, ?_⟩ <;> kernel_rfl
theorem ty88 : Try.prog.cellsOf 88 = 1 ∧ tvSlc Try.prog 88 = 0 ∧ tvStr Try.prog 88 = false ∧ tvMap Try.prog 88 = none ∧ tvLd Try.prog 88 = some (1, false) ∧ tvZero Try.prog 88 = .nilf ∧ tvNil Try.prog 88 = [] := by
  refine ⟨?_, ?_, ?_, ?_, ?_, ?_, ?_⟩ <;> kernel_rfl
theorem ty89 : Try.prog.cellsOf 89 = 1 ∧ tvSlc Try.prog 89 = 0 ∧ tvStr Try.prog 89 = false ∧ tvMap Try.prog 89 = none ∧ tvLd Try.prog 89 = some (1, false) ∧ tvZero Try.prog 89 = .nilf ∧ tvNil Try.prog 89 = [] := by
  refine ⟨?_, ?_, ?_, ?_, ?_, ?_, ?_⟩ <;> kernel_rfl
theorem ty90 : Try.prog.cellsOf 90 = 1 ∧ tvSlc Try.prog 90 = 0 ∧ tvStr Try.prog 90 = false ∧ tvMap Try.prog 90 = none ∧ tvInt Try.prog 90 = some .i64 ∧ tvLd Try.prog 90 = some (1, false) ∧ tvZero Try.prog 90 = .int .i64 0 ∧ tvNil Try.prog 90 = [] := by
  refine ⟨?_, ?_, ?_, ?_, ?_, ?_, ?_, ?_⟩ <;> kernel_rfl
theorem ty92 : Try.prog.cellsOf 92 = 1 ∧ tvSlc Try.prog 92 = 0 ∧ tvStr Try.prog 92 = false ∧ tvMap Try.prog 92 = none ∧ tvLd Try.prog 92 = some (1, false) ∧ tvZero Try.prog 92 = .nilf ∧ tvNil Try.prog 92 = [] := by
  refine ⟨?_, ?_, ?_, ?_, ?_, ?_, ?_⟩ <;> kernel_rfl
theorem ty93 : Try.prog.cellsOf 93 = 1 ∧ tvSlc Try.prog 93 = 0 ∧ tvStr Try.prog 93 = false ∧ tvMap Try.prog 93 = none ∧ tvLd Try.prog 93 = some (1, false) ∧ tvZero Try.prog 93 = .nilf ∧ tvNil Try.prog 93 = [] := by
  refine ⟨?_, ?_, ?_, ?_, ?_, ?_, ?_⟩ <;> kernel_rfl
theorem ty94 : Try.prog.cellsOf 94 = 1 ∧ tvSlc Try.prog 94 = 0 ∧ tvStr Try.prog 94 = false ∧ tvMap Try.prog 94 = none ∧ tvLd Try.prog 94 = some (1, false) ∧ tvZero Try.prog 94 = .nilf ∧ tvNil Try.prog 94 = [] := by
  refine ⟨?_, ?_, ?_, ?_, ?_, ?_, ?_⟩ <;> kernel_rfl
theorem ty96 : Try.prog.cellsOf 96 = 1 ∧ tvSlc Try.prog 96 = 0 ∧ tvStr Try.prog 96 = false ∧ tvMap Try.prog 96 = none ∧ tvLd Try.prog 96 = some (1, false) ∧ tvZero Try.prog 96 = .nilf ∧ tvNil Try.prog 96 = [] := by
  refine ⟨?_, ?_, ?_, ?_, ?_, ?_, ?_⟩ <;> kernel_rfl
theorem ty97 : Try.prog.cellsOf 97 = 1 ∧ tvSlc Try.prog 97 = 0 ∧ tvStr Try.prog 97 = false ∧ tvMap Try.prog 97 = none ∧ tvLd Try.prog 97 = some (1, false) ∧ tvZero Try.prog 97 = .nilf ∧ tvNil Try.prog 97 = [] := by
  refine ⟨?_, ?_, ?_, ?_, ?_, ?_, ?_⟩ <;> kernel_rfl
theorem ty98 : Try.prog.cellsOf 98 = 1 ∧ tvSlc Try.prog 98 = 0 ∧ tvStr Try.prog 98 = false ∧ tvMap Try.prog 98 = none ∧ tvInt Try.prog 98 = some .u32 ∧ tvLd Try.prog 98 = some (1, false) ∧ tvZero Try.prog 98 = .int .u32 0 ∧ tvNil Try.prog 98 = [] := by
  refine ⟨?_, ?_, ?_, ?_, ?_, ?_, ?_, ?_⟩ <;> kernel_rfl
theorem ty99 : Try.prog.cellsOf 99 = 1 ∧ tvSlc Try.prog 99 = 0 ∧ tvStr Try.prog 99 = false ∧ tvMap Try.prog 99 = none ∧ tvLd Try.prog 99 = some (1, false) ∧ tvZero Try.prog 99 = .nilf ∧ tvNil Try.prog 99 = [] := by
  refine ⟨?_, ?_, ?_, ?_, ?_, ?_, ?_⟩ <;> kernel_rfl
theorem ty100 : Try.prog.cellsOf 100 = 1 ∧ tvSlc Try.prog 100 = 0 ∧ tvStr Try.prog 100 = false ∧ tvMap Try.prog 100 = none ∧ tvInt Try.prog 100 = some .u64 ∧ tvLd Try.prog 100 = some (1, false) ∧ tvZero Try.prog 100 = .int .u64 0 ∧ tvNil Try.prog 100 = [] := by
  refine ⟨?_, ?_, ?_, ?_, ?_, ?_, ?_, ?_⟩ <;> kernel_rfl
theorem ty101 : Try.prog.cellsOf 101 = 1 ∧ tvSlc Try.prog 101 = 0 ∧ tvStr Try.prog 101 = false ∧ tvMap Try.prog 101 = none ∧ tvLd Try.prog 101 = some (1, false) ∧ tvZero Try.prog 101 = .nilf ∧ tvNil Try.prog 101 = [] := by
  refine ⟨?_, ?_, ?_, ?_, ?_, ?_, ?_⟩ <;> kernel_rfl
theorem ty102 : Try.prog.cellsOf 102 = 1 ∧ tvSlc Try.prog 102 = 0 ∧ tvStr Try.prog 102 = false ∧ tvMap Try.prog 102 = none ∧ tvInt Try.prog 102 = some .u64 ∧ tvLd Try.prog 102 = some (1, false) ∧ tvZero Try.prog 102 = .int .u64 0 ∧ tvNil Try.prog 102 = [] := by
  refine ⟨?_, ?_, ?_, ?_, ?_, ?_, ?_, ?_⟩ <;> kernel_rfl
theorem ty103 : Try.prog.cellsOf 103 = 1 ∧ tvSlc Try.prog 103 = 0 ∧ tvStr Try.prog 103 = false ∧ tvMap Try.prog 103 = none ∧ tvLd Try.prog 103 = some (1, false) ∧ tvZero Try.prog 103 = .nilf ∧ tvNil Try.prog 103 = [] := by
  refine ⟨?_, ?_, ?_, ?_, ?_, ?_, ?_⟩ <;> kernel_rfl
theorem ty104 : Try.prog.cellsOf 104 = 1 ∧ tvSlc Try.prog 104 = 0 ∧ tvStr Try.prog 104 = false ∧ tvMap Try.prog 104 = none ∧ tvLd Try.prog 104 = some (1, false) ∧ tvZero Try.prog 104 = .nilf ∧ tvNil Try.prog 104 = [] := by
  refine ⟨?_, ?_, ?_, ?_, ?_, ?_, ?_⟩ <;> kernel_rfl
theorem ty105 : Try.prog.cellsOf 105 = 1 ∧ tvSlc Try.prog 105 = 0 ∧ tvStr Try.prog 105 = false ∧ tvMap Try.prog 105 = none ∧ tvLd Try.prog 105 = some (1, false) ∧ tvZero Try.prog 105 = .nilf ∧ tvNil Try.prog 105 = [] := by
  refine ⟨?_, ?_, ?_, ?_, ?_, ?_, ?_⟩ <;> kernel_rfl
theorem ty106 : Try.prog.cellsOf 106 = 1 ∧ tvSlc Try.prog 106 = 0 ∧ tvStr Try.prog 106 = false ∧ tvMap Try.prog 106 = none ∧ tvLd Try.prog 106 = some (1, false) ∧ tvZero Try.prog 106 = .nilp ∧ tvNil Try.prog 106 = [] := by
  refine ⟨?_, ?_, ?_, ?_, ?_, ?_, ?_⟩ <;> kernel_rfl
theorem ty107 : Try.prog.cellsOf 107 = 1 ∧ tvSlc Try.prog 107 = 0 ∧ tvStr Try.prog 107 = false ∧ tvMap Try.prog 107 = none ∧ tvLd Try.prog 107 = some (1, false) ∧ tvZero Try.prog 107 = .nilf ∧ tvNil Try.prog 107 = [] := by
  refine ⟨?_, ?_, ?_, ?_, ?_, ?_, ?_⟩ <;> kernel_rfl
theorem ty108 : Try.prog.cellsOf 108 = 1 ∧ tvSlc Try.prog 108 = 0 ∧ tvStr Try.prog 108 = false ∧ tvMap Try.prog 108 = none ∧ tvLd Try.prog 108 = some (1, false) ∧ tvZero Try.prog 108 = .nilp ∧ tvNil Try.prog 108 = [] := by
  refine ⟨?_, ?_, ?_, ?_, ?_, ?_, ?_⟩ <;> kernel_rfl
theorem ty110 : Try.prog.cellsOf 110 = 1 ∧ tvSlc Try.prog 110 = 0 ∧ tvStr Try.prog 110 = false ∧ tvMap Try.prog 110 = none ∧ tvLd Try.prog 110 = some (1, false) ∧ tvZero Try.prog 110 = .nilf ∧ tvNil Try.prog 110 = [] := by
  refine ⟨?_, ?_, ?_, ?_, ?_, ?_, ?_⟩ <;> kernel_rfl
theorem ty111 : Try.prog.cellsOf 111 = 1 ∧ tvSlc Try.prog 111 = 0 ∧ tvStr Try.prog 111 = false ∧ tvMap Try.prog 111 = none ∧ tvLd Try.prog 111 = some (1, false) ∧ tvZero Try.prog 111 = .nilf ∧ tvNil Try.prog 111 = [] := by
  refine ⟨?_, ?_, ?_, ?_, ?_, ?_, ?_⟩ <;> kernel_rfl
theorem ty112 : Try.prog.cellsOf 112 = 4 ∧ tvSlc Try.prog 112 = 0 ∧ tvStr Try.prog 112 = false ∧ tvMap Try.prog 112 = none ∧ tvLd Try.prog 112 = some (4, true) ∧ tvZero Try.prog 112 = .agg [.nilp, .nilp, .nilp, .str []] ∧ tvFld Try.prog 112 0 = some (0, 1, 17) ∧ tvFld Try.prog 112 1 = some (1, 1, 17) ∧ tvFld Try.prog 112 2 = some (2, 1, 17) ∧ tvFld Try.prog 112 3 = some (3, 1, 9) ∧ tvArr Try.prog 112 = none ∧ tvBuild Try.prog 112 = true ∧ tvNil Try.prog 112 = [] := by
  refine ⟨?_, ?_, ?_, ?_, ?_, ?_, ?_, ?_, ?_, ?_, ?_, ?_, ?_⟩ <;> kernel_rfl
theorem ty113 : Try.prog.cellsOf 113 = 4 ∧ tvSlc Try.prog 113 = 0 ∧ tvStr Try.prog 113 = false ∧ tvMap Try.prog 113 = none ∧ tvLd Try.prog 113 = some (4, true) ∧ tvZero Try.prog 113 = .agg [.nilp, .nilp, .nilp, .str []] ∧ tvFld Try.prog 113 0 = some (0, 1, 17) ∧ tvFld Try.prog 113 1 = some (1, 1, 17) ∧ tvFld Try.prog 113 2 = some (2, 1, 17) ∧ tvFld Try.prog 113 3 = some (3, 1, 9) ∧ tvArr Try.prog 113 = none ∧ tvBuild Try.prog 113 = true ∧ tvNil Try.prog 113 = [] := by
  refine ⟨?_, ?_, ?_, ?_, ?_, ?_, ?_, ?_, ?_, ?_, ?_, ?_, ?_⟩ <;> kernel_rfl
theorem ty114 : Try.prog.cellsOf 114 = 0 ∧ tvSlc Try.prog 114 = 0 ∧ tvStr Try.prog 114 = false ∧ tvMap Try.prog 114 = none ∧ tvZero Try.prog 114 = .agg [] ∧ tvArr Try.prog 114 = some (0, 1) ∧ tvArrE Try.prog 114 = some (0, 16) ∧ tvBuild Try.prog 114 = true ∧ tvNil Try.prog 114 = [] := by
  refine ⟨?_, ?_, ?_, ?_, ?_, ?_, ?_, ?_, ?_⟩ <;> kernel_rfl
theorem ty115 : Try.prog.cellsOf 115 = 0 ∧ tvSlc Try.prog 115 = 0 ∧ tvStr Try.prog 115 = false ∧ tvMap Try.prog 115 = none ∧ tvZero Try.prog 115 = .agg [] ∧ tvFld Try.prog 115 0 = some (0, 0, 114) ∧ tvArr Try.prog 115 = none ∧ tvBuild Try.prog 115 = true ∧ tvNil Try.prog 115 = [] := by
  refine ⟨?_, ?_, ?_, ?_, ?_, ?_, ?_, ?_, ?_⟩ <;> kernel_rfl
theorem ty116 : Try.prog.cellsOf 116 = 0 ∧ tvSlc Try.prog 116 = 0 ∧ tvStr Try.prog 116 = false ∧ tvMap Try.prog 116 = none ∧ tvZero Try.prog 116 = .agg [] ∧ tvFld Try.prog 116 0 = some (0, 0, 114) ∧ tvArr Try.prog 116 = none ∧ tvBuild Try.prog 116 = true ∧ tvNil Try.prog 116 = [] := by
  refine ⟨?_, ?_, ?_, ?_, ?_, ?_, ?_, ?_, ?_⟩ <;> kernel_rfl
theorem ty117 : Try.prog.cellsOf 117 = 1 ∧ tvSlc Try.prog 117 = 0 ∧ tvStr Try.prog 117 = false ∧ tvMap Try.prog 117 = none ∧ tvLd Try.prog 117 = some (1, false) ∧ tvZero Try.prog 117 = .nilf ∧ tvNil Try.prog 117 = [] := by
  refine ⟨?_, ?_, ?_, ?_, ?_, ?_, ?_⟩ <;> kernel_rfl
theorem ty118 : Try.prog.cellsOf 118 = 1 ∧ tvSlc Try.prog 118 = 0 ∧ tvStr Try.prog 118 = false ∧ tvMap Try.prog 118 = none ∧ tvInt Try.prog 118 = some .u8 ∧ tvLd Try.prog 118 = some (1, false) ∧ tvZero Try.prog 118 = .int .u8 0 ∧ tvNil Try.prog 118 = [] := by
  refine ⟨?_, ?_, ?_, ?_, ?_, ?_, ?_, ?_⟩ <;> kernel_rfl
theorem ty119 : Try.prog.cellsOf 119 = 1 ∧ tvSlc Try.prog 119 = 0 ∧ tvStr Try.prog 119 = false ∧ tvMap Try.prog 119 = none ∧ tvInt Try.prog 119 = some .u8 ∧ tvLd Try.prog 119 = some (1, false) ∧ tvZero Try.prog 119 = .int .u8 0 ∧ tvNil Try.prog 119 = [] := by
  refine ⟨?_, ?_, ?_, ?_, ?_, ?_, ?_, ?_⟩ <;> kernel_rfl
theorem ty120 : Try.prog.cellsOf 120 = 1 ∧ tvSlc Try.prog 120 = 0 ∧ tvStr Try.prog 120 = false ∧ tvMap Try.prog 120 = none ∧ tvLd Try.prog 120 = some (1, false) ∧ tvZero Try.prog 120 = .nilf ∧ tvNil Try.prog 120 = [] := by
  refine ⟨?_, ?_, ?_, ?_, ?_, ?_, ?_⟩ <;> kernel_rfl
theorem ty121 : Try.prog.cellsOf 121 = 1 ∧ tvSlc Try.prog 121 = 0 ∧ tvStr Try.prog 121 = false ∧ tvMap Try.prog 121 = none ∧ tvLd Try.prog 121 = some (1, false) ∧ tvZero Try.prog 121 = .nilp ∧ tvNil Try.prog 121 = [] := by
  refine ⟨?_, ?_, ?_, ?_, ?_, ?_, ?_⟩ <;> kernel_rfl
theorem ty122 : Try.prog.cellsOf 122 = 1 ∧ tvSlc Try.prog 122 = 0 ∧ tvStr Try.prog 122 = false ∧ tvMap Try.prog 122 = none ∧ tvInt Try.prog 122 = some .i32 ∧ tvLd Try.prog 122 = some (1, false) ∧ tvZero Try.prog 122 = .int .i32 0 ∧ tvNil Try.prog 122 = [] := by
  refine ⟨?_, ?_, ?_, ?_, ?_, ?_, ?_, ?_⟩ <;> kernel_rfl
theorem ty123 : Try.prog.cellsOf 123 = 1 ∧ tvSlc Try.prog 123 = 0 ∧ tvStr Try.prog 123 = false ∧ tvMap Try.prog 123 = none ∧ tvInt Try.prog 123 = some .i32 ∧ tvLd Try.prog 123 = some (1, false) ∧ tvZero Try.prog 123 = .int .i32 0 ∧ tvNil Try.prog 123 = [] := by
  refine ⟨?_, ?_, ?_, ?_, ?_, ?_, ?_, ?_⟩ <;> kernel_rfl
theorem ty124 : Try.prog.cellsOf 124 = 11 ∧ tvSlc Try.prog 124 = 0 ∧ tvStr Try.prog 124 = false ∧ tvMap Try.prog 124 = none ∧ tvLd Try.prog 124 = some (11, true) ∧ tvZero Try.prog 124 = .agg [.int .u64 0, .int .u64 0, .int .u32 0, .int .u8 0, .int .u8 0, .int .u8 0, .int .u8 0, .nilf, .nilp, .int .i32 0, .int .i32 0] ∧ tvFld Try.prog 124 0 = some (0, 1, 12) ∧ tvFld Try.prog 124 1 = some (1, 1, 12) ∧ tvFld Try.prog 124 2 = some (2, 1, 98) ∧ tvFld Try.prog 124 3 = some (3, 1, 118) ∧ tvFld Try.prog 124 4 = some (4, 1, 5) ∧ tvFld Try.prog 124 5 = some (5, 1, 5) ∧ tvFld Try.prog 124 6 = some (6, 1, 119) ∧ tvFld Try.prog 124 7 = some (7, 1, 120) ∧ tvFld Try.prog 124 8 = some (8, 1, 121) ∧ tvFld Try.prog 124 9 = some (9, 1, 122) ∧ tvFld Try.prog 124 10 = some (10, 1, 123) ∧ tvArr Try.prog 124 = none ∧ tvBuild Try.prog 124 = true ∧ tvNil Try.prog 124 = [] := by
  refine ⟨?_, ?_, ?_, ?_, ?_, ?_, ?_, ?_, ?_, ?_, ?_, ?_, ?_, ?_, ?_, ?_, ?_, ?_, ?_, ?_⟩ <;> kernel_rfl
theorem ty125 : Try.prog.cellsOf 125 = 11 ∧ tvSlc Try.prog 125 = 0 ∧ tvStr Try.prog 125 = false ∧ tvMap Try.prog 125 = none ∧ tvLd Try.prog 125 = some (11, true) ∧ tvZero Try.prog 125 = .agg [.int .u64 0, .int .u64 0, .int .u32 0, .int .u8 0, .int .u8 0, .int .u8 0, .int .u8 0, .nilf, .nilp, .int .i32 0, .int .i32 0] ∧ tvFld Try.prog 125 0 = some (0, 1, 12) ∧ tvFld Try.prog 125 1 = some (1, 1, 12) ∧ tvFld Try.prog 125 2 = some (2, 1, 98) ∧ tvFld Try.prog 125 3 = some (3, 1, 118) ∧ tvFld Try.prog 125 4 = some (4, 1, 5) ∧ tvFld Try.prog 125 5 = some (5, 1, 5) ∧ tvFld Try.prog 125 6 = some (6, 1, 119) ∧ tvFld Try.prog 125 7 = some (7, 1, 120) ∧ tvFld Try.prog 125 8 = some (8, 1, 121) ∧ tvFld Try.prog 125 9 = some (9, 1, 122) ∧ tvFld Try.prog 125 10 = some (10, 1, 123) ∧ tvArr Try.prog 125 = none ∧ tvBuild Try.prog 125 = true ∧ tvNil Try.prog 125 = [] := by
  refine ⟨?_, ?_, ?_, ?_, ?_, ?_, ?_, ?_, ?_, ?_, ?_, ?_, ?_, ?_, ?_, ?_, ?_, ?_, ?_, ?_⟩ <;> kernel_rfl
theorem ty126 : Try.prog.cellsOf 126 = 1 ∧ tvSlc Try.prog 126 = 0 ∧ tvStr Try.prog 126 = false ∧ tvMap Try.prog 126 = none ∧ tvLd Try.prog 126 = some (1, false) ∧ tvNil Try.prog 126 = [] := by
  refine ⟨?_, ?_, ?_, ?_, ?_, ?_⟩ <;> kernel_rfl
end Sim
