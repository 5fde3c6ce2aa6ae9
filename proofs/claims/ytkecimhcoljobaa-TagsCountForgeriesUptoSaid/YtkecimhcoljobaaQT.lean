/- What functions of this seat compute, by values: contracts (lemmas of the statement's proof, under the conditions that each names). -/
import Derived.Test.YtkecimhcoljobaaSimS
import Derived.Test.YtkecimhcoljobaaProg
import Derived.KernelRfl
namespace Sim
open Go Go.Proofs
theorem ty1 : Try.prog.cellsOf 1 = 1 ∧ tvSlc Try.prog 1 = 0 ∧ tvStr Try.prog 1 = false ∧ tvLd Try.prog 1 = some (1, false) ∧ tvZero Try.prog 1 = .nilf ∧ tvNil Try.prog 1 = [] := by
  refine ⟨?_, ?_, ?_, ?_, ?_, ?_⟩ <;> kernel_rfl
theorem ty2 : Try.prog.cellsOf 2 = 1 ∧ tvSlc Try.prog 2 = 0 ∧ tvStr Try.prog 2 = false ∧ tvInt Try.prog 2 = some .i64 ∧ tvLd Try.prog 2 = some (1, false) ∧ tvZero Try.prog 2 = .int .i64 0 ∧ tvNil Try.prog 2 = [] := by
  refine ⟨?_, ?_, ?_, ?_, ?_, ?_, ?_⟩ <;> kernel_rfl
theorem ty3 : Try.prog.cellsOf 3 = 1 ∧ tvSlc Try.prog 3 = 0 ∧ tvStr Try.prog 3 = false ∧ tvInt Try.prog 3 = some .i64 ∧ tvLd Try.prog 3 = some (1, false) ∧ tvZero Try.prog 3 = .int .i64 0 ∧ tvNil Try.prog 3 = [] := by
  refine ⟨?_, ?_, ?_, ?_, ?_, ?_, ?_⟩ <;> kernel_rfl
theorem ty4 : Try.prog.cellsOf 4 = 1 ∧ tvSlc Try.prog 4 = 0 ∧ tvStr Try.prog 4 = false ∧ tvBool Try.prog 4 = true ∧ tvLd Try.prog 4 = some (1, false) ∧ tvZero Try.prog 4 = .bool false ∧ tvNil Try.prog 4 = [] := by
  refine ⟨?_, ?_, ?_, ?_, ?_, ?_, ?_⟩ <;> kernel_rfl
theorem ty5 : Try.prog.cellsOf 5 = 1 ∧ tvSlc Try.prog 5 = 0 ∧ tvStr Try.prog 5 = false ∧ tvInt Try.prog 5 = some .u8 ∧ tvLd Try.prog 5 = some (1, false) ∧ tvZero Try.prog 5 = .int .u8 0 ∧ tvNil Try.prog 5 = [] := by
  refine ⟨?_, ?_, ?_, ?_, ?_, ?_, ?_⟩ <;> kernel_rfl
theorem ty6 : Try.prog.cellsOf 6 = 1 ∧ tvSlc Try.prog 6 = 0 ∧ tvStr Try.prog 6 = false ∧ tvInt Try.prog 6 = some .u8 ∧ tvLd Try.prog 6 = some (1, false) ∧ tvZero Try.prog 6 = .int .u8 0 ∧ tvNil Try.prog 6 = [] := by
  refine ⟨?_, ?_, ?_, ?_, ?_, ?_, ?_⟩ <;> kernel_rfl
theorem ty7 : Try.prog.cellsOf 7 = 4 ∧ tvSlc Try.prog 7 = 0 ∧ tvStr Try.prog 7 = false ∧ tvLd Try.prog 7 = some (4, true) ∧ tvZero Try.prog 7 = .agg [.int .i64 0, .int .i64 0, .bool false, .int .u8 0] ∧ tvFld Try.prog 7 0 = some (0, 1, 2) ∧ tvFld Try.prog 7 1 = some (1, 1, 3) ∧ tvFld Try.prog 7 2 = some (2, 1, 4) ∧ tvFld Try.prog 7 3 = some (3, 1, 6) ∧ tvArr Try.prog 7 = none ∧ tvBuild Try.prog 7 = true ∧ tvNil Try.prog 7 = [] := by
  refine ⟨?_, ?_, ?_, ?_, ?_, ?_, ?_, ?_, ?_, ?_, ?_, ?_⟩ <;> kernel_rfl
theorem ty8 : Try.prog.cellsOf 8 = 4 ∧ tvSlc Try.prog 8 = 0 ∧ tvStr Try.prog 8 = false ∧ tvLd Try.prog 8 = some (4, true) ∧ tvZero Try.prog 8 = .agg [.int .i64 0, .int .i64 0, .bool false, .int .u8 0] ∧ tvFld Try.prog 8 0 = some (0, 1, 2) ∧ tvFld Try.prog 8 1 = some (1, 1, 3) ∧ tvFld Try.prog 8 2 = some (2, 1, 4) ∧ tvFld Try.prog 8 3 = some (3, 1, 6) ∧ tvArr Try.prog 8 = none ∧ tvBuild Try.prog 8 = true ∧ tvNil Try.prog 8 = [] := by
  refine ⟨?_, ?_, ?_, ?_, ?_, ?_, ?_, ?_, ?_, ?_, ?_, ?_⟩ <;> kernel_rfl
theorem ty9 : Try.prog.cellsOf 9 = 1 ∧ tvSlc Try.prog 9 = 0 ∧ tvStr Try.prog 9 = true ∧ tvLd Try.prog 9 = some (1, false) ∧ tvZero Try.prog 9 = .str [] ∧ tvNil Try.prog 9 = [] := by
  refine ⟨?_, ?_, ?_, ?_, ?_, ?_⟩ <;> kernel_rfl
theorem ty10 : Try.prog.cellsOf 10 = 1 ∧ tvSlc Try.prog 10 = 0 ∧ tvStr Try.prog 10 = true ∧ tvLd Try.prog 10 = some (1, false) ∧ tvZero Try.prog 10 = .str [] ∧ tvNil Try.prog 10 = [] := by
  refine ⟨?_, ?_, ?_, ?_, ?_, ?_⟩ <;> kernel_rfl
theorem ty11 : Try.prog.cellsOf 11 = 1 ∧ tvSlc Try.prog 11 = 0 ∧ tvStr Try.prog 11 = true ∧ tvLd Try.prog 11 = some (1, false) ∧ tvZero Try.prog 11 = .str [] ∧ tvNil Try.prog 11 = [] := by
  refine ⟨?_, ?_, ?_, ?_, ?_, ?_⟩ <;> kernel_rfl
theorem ty12 : Try.prog.cellsOf 12 = 1 ∧ tvSlc Try.prog 12 = 0 ∧ tvStr Try.prog 12 = false ∧ tvInt Try.prog 12 = some .u64 ∧ tvLd Try.prog 12 = some (1, false) ∧ tvZero Try.prog 12 = .int .u64 0 ∧ tvNil Try.prog 12 = [] := by
  refine ⟨?_, ?_, ?_, ?_, ?_, ?_, ?_⟩ <;> kernel_rfl
theorem ty13 : Try.prog.cellsOf 13 = 2 ∧ tvSlc Try.prog 13 = 0 ∧ tvStr Try.prog 13 = false ∧ tvLd Try.prog 13 = some (2, true) ∧ tvZero Try.prog 13 = .agg [.str [], .int .u64 0] ∧ tvFld Try.prog 13 0 = some (0, 1, 9) ∧ tvFld Try.prog 13 1 = some (1, 1, 12) ∧ tvArr Try.prog 13 = none ∧ tvBuild Try.prog 13 = true ∧ tvNil Try.prog 13 = [] := by
  refine ⟨?_, ?_, ?_, ?_, ?_, ?_, ?_, ?_, ?_, ?_⟩ <;> kernel_rfl
theorem ty14 : Try.prog.cellsOf 14 = 2 ∧ tvSlc Try.prog 14 = 0 ∧ tvStr Try.prog 14 = false ∧ tvLd Try.prog 14 = some (2, true) ∧ tvZero Try.prog 14 = .agg [.str [], .int .u64 0] ∧ tvFld Try.prog 14 0 = some (0, 1, 9) ∧ tvFld Try.prog 14 1 = some (1, 1, 12) ∧ tvArr Try.prog 14 = none ∧ tvBuild Try.prog 14 = true ∧ tvNil Try.prog 14 = [] := by
  refine ⟨?_, ?_, ?_, ?_, ?_, ?_, ?_, ?_, ?_, ?_⟩ <;> kernel_rfl
theorem ty15 : Try.prog.cellsOf 15 = 1 ∧ tvSlc Try.prog 15 = 0 ∧ tvStr Try.prog 15 = false ∧ tvLd Try.prog 15 = some (1, false) ∧ tvZero Try.prog 15 = .nilp ∧ tvNil Try.prog 15 = [] := by
  refine ⟨?_, ?_, ?_, ?_, ?_, ?_⟩ <;> kernel_rfl
theorem ty16 : Try.prog.cellsOf 16 = 1 ∧ tvSlc Try.prog 16 = 0 ∧ tvStr Try.prog 16 = false ∧ tvLd Try.prog 16 = some (1, false) ∧ tvZero Try.prog 16 = .nilp ∧ tvNil Try.prog 16 = [] := by
  refine ⟨?_, ?_, ?_, ?_, ?_, ?_⟩ <;> kernel_rfl
theorem ty17 : Try.prog.cellsOf 17 = 1 ∧ tvSlc Try.prog 17 = 0 ∧ tvStr Try.prog 17 = false ∧ tvLd Try.prog 17 = some (1, false) ∧ tvZero Try.prog 17 = .nilp ∧ tvNil Try.prog 17 = [] := by
  refine ⟨?_, ?_, ?_, ?_, ?_, ?_⟩ <;> kernel_rfl
theorem ty18 : Try.prog.cellsOf 18 = 1 ∧ tvSlc Try.prog 18 = 0 ∧ tvStr Try.prog 18 = false ∧ tvLd Try.prog 18 = some (1, true) ∧ tvZero Try.prog 18 = .agg [.nilp] ∧ tvFld Try.prog 18 0 = some (0, 1, 17) ∧ tvArr Try.prog 18 = none ∧ tvBuild Try.prog 18 = true ∧ tvNil Try.prog 18 = [] := by
  refine ⟨?_, ?_, ?_, ?_, ?_, ?_, ?_, ?_, ?_⟩ <;> kernel_rfl
theorem ty19 : Try.prog.cellsOf 19 = 1 ∧ tvSlc Try.prog 19 = 0 ∧ tvStr Try.prog 19 = false ∧ tvLd Try.prog 19 = some (1, true) ∧ tvZero Try.prog 19 = .agg [.nilp] ∧ tvFld Try.prog 19 0 = some (0, 1, 17) ∧ tvArr Try.prog 19 = none ∧ tvBuild Try.prog 19 = true ∧ tvNil Try.prog 19 = [] := by
  refine ⟨?_, ?_, ?_, ?_, ?_, ?_, ?_, ?_, ?_⟩ <;> kernel_rfl
theorem ty20 : Try.prog.cellsOf 20 = 1 ∧ tvSlc Try.prog 20 = 0 ∧ tvStr Try.prog 20 = false ∧ tvLd Try.prog 20 = some (1, false) ∧ tvZero Try.prog 20 = .nili ∧ tvNil Try.prog 20 = [] := by
  refine ⟨?_, ?_, ?_, ?_, ?_, ?_⟩ <;> kernel_rfl
theorem ty21 : Try.prog.cellsOf 21 = 1 ∧ tvSlc Try.prog 21 = 0 ∧ tvStr Try.prog 21 = false ∧ tvInt Try.prog 21 = some .i32 ∧ tvLd Try.prog 21 = some (1, false) ∧ tvZero Try.prog 21 = .int .i32 0 ∧ tvNil Try.prog 21 = [] := by
  refine ⟨?_, ?_, ?_, ?_, ?_, ?_, ?_⟩ <;> kernel_rfl
theorem ty22 : Try.prog.cellsOf 22 = 1 ∧ tvSlc Try.prog 22 = 1 ∧ tvElem Try.prog 22 = 3 ∧ tvStr Try.prog 22 = false ∧ tvLd Try.prog 22 = some (1, false) ∧ tvZero Try.prog 22 = .nils ∧ tvNil Try.prog 22 = [(0, 1)] := by
  refine ⟨?_, ?_, ?_, ?_, ?_, ?_, ?_⟩ <;> kernel_rfl
theorem ty23 : Try.prog.cellsOf 23 = 2 ∧ tvSlc Try.prog 23 = 0 ∧ tvStr Try.prog 23 = false ∧ tvLd Try.prog 23 = some (2, true) ∧ tvZero Try.prog 23 = .agg [.nils, .nils] ∧ tvFld Try.prog 23 0 = some (0, 1, 22) ∧ tvFld Try.prog 23 1 = some (1, 1, 22) ∧ tvArr Try.prog 23 = none ∧ tvBuild Try.prog 23 = true ∧ tvNil Try.prog 23 = [(0, 1), (1, 1)] := by
  refine ⟨?_, ?_, ?_, ?_, ?_, ?_, ?_, ?_, ?_, ?_⟩ <;> kernel_rfl
theorem ty24 : Try.prog.cellsOf 24 = 2 ∧ tvSlc Try.prog 24 = 0 ∧ tvStr Try.prog 24 = false ∧ tvLd Try.prog 24 = some (2, true) ∧ tvZero Try.prog 24 = .agg [.nils, .nils] ∧ tvFld Try.prog 24 0 = some (0, 1, 22) ∧ tvFld Try.prog 24 1 = some (1, 1, 22) ∧ tvArr Try.prog 24 = none ∧ tvBuild Try.prog 24 = true ∧ tvNil Try.prog 24 = [(0, 1), (1, 1)] := by
  refine ⟨?_, ?_, ?_, ?_, ?_, ?_, ?_, ?_, ?_, ?_⟩ <;> kernel_rfl
theorem ty25 : Try.prog.cellsOf 25 = 1 ∧ tvSlc Try.prog 25 = 1 ∧ tvElem Try.prog 25 = 9 ∧ tvStr Try.prog 25 = false ∧ tvLd Try.prog 25 = some (1, false) ∧ tvZero Try.prog 25 = .nils ∧ tvNil Try.prog 25 = [(0, 1)] := by
  refine ⟨?_, ?_, ?_, ?_, ?_, ?_, ?_⟩ <;> kernel_rfl
theorem ty26 : Try.prog.cellsOf 26 = 1 ∧ tvSlc Try.prog 26 = 2 ∧ tvElem Try.prog 26 = 60 ∧ tvStr Try.prog 26 = false ∧ tvLd Try.prog 26 = some (1, false) ∧ tvZero Try.prog 26 = .nils ∧ tvNil Try.prog 26 = [(0, 2)] := by
  refine ⟨?_, ?_, ?_, ?_, ?_, ?_, ?_⟩ <;> kernel_rfl
theorem ty27 : Try.prog.cellsOf 27 = 2 ∧ tvSlc Try.prog 27 = 0 ∧ tvStr Try.prog 27 = false ∧ tvLd Try.prog 27 = some (2, true) ∧ tvZero Try.prog 27 = .agg [.nils, .int .i64 0] ∧ tvFld Try.prog 27 0 = some (0, 1, 22) ∧ tvFld Try.prog 27 1 = some (1, 1, 3) ∧ tvArr Try.prog 27 = none ∧ tvBuild Try.prog 27 = true ∧ tvNil Try.prog 27 = [(0, 1)] := by
  refine ⟨?_, ?_, ?_, ?_, ?_, ?_, ?_, ?_, ?_, ?_⟩ <;> kernel_rfl
theorem ty28 : Try.prog.cellsOf 28 = 2 ∧ tvSlc Try.prog 28 = 0 ∧ tvStr Try.prog 28 = false ∧ tvLd Try.prog 28 = some (2, true) ∧ tvZero Try.prog 28 = .agg [.nils, .int .i64 0] ∧ tvFld Try.prog 28 0 = some (0, 1, 22) ∧ tvFld Try.prog 28 1 = some (1, 1, 3) ∧ tvArr Try.prog 28 = none ∧ tvBuild Try.prog 28 = true ∧ tvNil Try.prog 28 = [(0, 1)] := by
  refine ⟨?_, ?_, ?_, ?_, ?_, ?_, ?_, ?_, ?_, ?_⟩ <;> kernel_rfl
theorem ty29 : Try.prog.cellsOf 29 = 7 ∧ tvSlc Try.prog 29 = 0 ∧ tvStr Try.prog 29 = false ∧ tvLd Try.prog 29 = some (7, true) ∧ tvZero Try.prog 29 = .agg [.nils, .nils, .nils, .nils, .nils, .nils, .int .i64 0] ∧ tvFld Try.prog 29 0 = some (0, 2, 24) ∧ tvFld Try.prog 29 1 = some (2, 1, 25) ∧ tvFld Try.prog 29 2 = some (3, 1, 22) ∧ tvFld Try.prog 29 3 = some (4, 1, 26) ∧ tvFld Try.prog 29 4 = some (5, 2, 28) ∧ tvArr Try.prog 29 = none ∧ tvBuild Try.prog 29 = true ∧ tvNil Try.prog 29 = [(0, 1), (1, 1), (2, 1), (3, 1), (4, 2), (5, 1)] := by
  refine ⟨?_, ?_, ?_, ?_, ?_, ?_, ?_, ?_, ?_, ?_, ?_, ?_, ?_⟩ <;> kernel_rfl
theorem ty30 : Try.prog.cellsOf 30 = 7 ∧ tvSlc Try.prog 30 = 0 ∧ tvStr Try.prog 30 = false ∧ tvLd Try.prog 30 = some (7, true) ∧ tvZero Try.prog 30 = .agg [.nils, .nils, .nils, .nils, .nils, .nils, .int .i64 0] ∧ tvFld Try.prog 30 0 = some (0, 2, 24) ∧ tvFld Try.prog 30 1 = some (2, 1, 25) ∧ tvFld Try.prog 30 2 = some (3, 1, 22) ∧ tvFld Try.prog 30 3 = some (4, 1, 26) ∧ tvFld Try.prog 30 4 = some (5, 2, 28) ∧ tvArr Try.prog 30 = none ∧ tvBuild Try.prog 30 = true ∧ tvNil Try.prog 30 = [(0, 1), (1, 1), (2, 1), (3, 1), (4, 2), (5, 1)] := by
  refine ⟨?_, ?_, ?_, ?_, ?_, ?_, ?_, ?_, ?_, ?_, ?_, ?_, ?_⟩ <;> kernel_rfl
theorem ty31 : Try.prog.cellsOf 31 = 1 ∧ tvSlc Try.prog 31 = 0 ∧ tvStr Try.prog 31 = false ∧ tvInt Try.prog 31 = some .u32 ∧ tvLd Try.prog 31 = some (1, false) ∧ tvZero Try.prog 31 = .int .u32 0 ∧ tvNil Try.prog 31 = [] := by
  refine ⟨?_, ?_, ?_, ?_, ?_, ?_, ?_⟩ <;> kernel_rfl
theorem ty32 : Try.prog.cellsOf 32 = 1 ∧ tvSlc Try.prog 32 = 0 ∧ tvStr Try.prog 32 = false ∧ tvLd Try.prog 32 = some (1, false) ∧ tvZero Try.prog 32 = .nilf ∧ tvNil Try.prog 32 = [] := by
  refine ⟨?_, ?_, ?_, ?_, ?_, ?_⟩ <;> kernel_rfl
theorem ty33 : Try.prog.cellsOf 33 = 1 ∧ tvSlc Try.prog 33 = 0 ∧ tvStr Try.prog 33 = false ∧ tvInt Try.prog 33 = some .i64 ∧ tvLd Try.prog 33 = some (1, false) ∧ tvZero Try.prog 33 = .int .i64 0 ∧ tvNil Try.prog 33 = [] := by
  refine ⟨?_, ?_, ?_, ?_, ?_, ?_, ?_⟩ <;> kernel_rfl
theorem ty34 : Try.prog.cellsOf 34 = 1 ∧ tvSlc Try.prog 34 = 0 ∧ tvStr Try.prog 34 = false ∧ tvLd Try.prog 34 = some (1, false) ∧ tvZero Try.prog 34 = .nilf ∧ tvNil Try.prog 34 = [] := by
  refine ⟨?_, ?_, ?_, ?_, ?_, ?_⟩ <;> kernel_rfl
theorem ty35 : Try.prog.cellsOf 35 = 1 ∧ tvSlc Try.prog 35 = 0 ∧ tvStr Try.prog 35 = false ∧ tvLd Try.prog 35 = some (1, false) ∧ tvZero Try.prog 35 = .nilf ∧ tvNil Try.prog 35 = [] := by
  refine ⟨?_, ?_, ?_, ?_, ?_, ?_⟩ <;> kernel_rfl
theorem ty37 : Try.prog.cellsOf 37 = 1 ∧ tvSlc Try.prog 37 = 0 ∧ tvStr Try.prog 37 = false ∧ tvLd Try.prog 37 = some (1, false) ∧ tvZero Try.prog 37 = .nilf ∧ tvNil Try.prog 37 = [] := by
  refine ⟨?_, ?_, ?_, ?_, ?_, ?_⟩ <;> kernel_rfl
theorem ty39 : Try.prog.cellsOf 39 = 1 ∧ tvSlc Try.prog 39 = 0 ∧ tvStr Try.prog 39 = false ∧ tvLd Try.prog 39 = some (1, false) ∧ tvZero Try.prog 39 = .nilf ∧ tvNil Try.prog 39 = [] := by
  refine ⟨?_, ?_, ?_, ?_, ?_, ?_⟩ <;> kernel_rfl
theorem ty40 : Try.prog.cellsOf 40 = 1 ∧ tvSlc Try.prog 40 = 0 ∧ tvStr Try.prog 40 = false ∧ tvLd Try.prog 40 = some (1, false) ∧ tvZero Try.prog 40 = .nilf ∧ tvNil Try.prog 40 = [] := by
  refine ⟨?_, ?_, ?_, ?_, ?_, ?_⟩ <;> kernel_rfl
theorem ty41 : Try.prog.cellsOf 41 = 1 ∧ tvSlc Try.prog 41 = 0 ∧ tvStr Try.prog 41 = false ∧ tvLd Try.prog 41 = some (1, false) ∧ tvZero Try.prog 41 = .nilf ∧ tvNil Try.prog 41 = [] := by
  refine ⟨?_, ?_, ?_, ?_, ?_, ?_⟩ <;> kernel_rfl
theorem ty43 : Try.prog.cellsOf 43 = 1 ∧ tvSlc Try.prog 43 = 0 ∧ tvStr Try.prog 43 = false ∧ tvLd Try.prog 43 = some (1, false) ∧ tvZero Try.prog 43 = .nilf ∧ tvNil Try.prog 43 = [] := by
  refine ⟨?_, ?_, ?_, ?_, ?_, ?_⟩ <;> kernel_rfl
theorem ty44 : Try.prog.cellsOf 44 = 1 ∧ tvSlc Try.prog 44 = 0 ∧ tvStr Try.prog 44 = false ∧ tvLd Try.prog 44 = some (1, false) ∧ tvZero Try.prog 44 = .nilf ∧ tvNil Try.prog 44 = [] := by
  refine ⟨?_, ?_, ?_, ?_, ?_, ?_⟩ <;> kernel_rfl
theorem ty46 : Try.prog.cellsOf 46 = 1 ∧ tvSlc Try.prog 46 = 0 ∧ tvStr Try.prog 46 = false ∧ tvLd Try.prog 46 = some (1, false) ∧ tvZero Try.prog 46 = .nilf ∧ tvNil Try.prog 46 = [] := by
  refine ⟨?_, ?_, ?_, ?_, ?_, ?_⟩ <;> kernel_rfl
theorem ty47 : Try.prog.cellsOf 47 = 1 ∧ tvSlc Try.prog 47 = 0 ∧ tvStr Try.prog 47 = false ∧ tvLd Try.prog 47 = some (1, false) ∧ tvZero Try.prog 47 = .nilf ∧ tvNil Try.prog 47 = [] := by
  refine ⟨?_, ?_, ?_, ?_, ?_, ?_⟩ <;> kernel_rfl
theorem ty48 : Try.prog.cellsOf 48 = 1 ∧ tvSlc Try.prog 48 = 2 ∧ tvElem Try.prog 48 = 28 ∧ tvStr Try.prog 48 = false ∧ tvLd Try.prog 48 = some (1, false) ∧ tvZero Try.prog 48 = .nils ∧ tvNil Try.prog 48 = [(0, 2)] := by
  refine ⟨?_, ?_, ?_, ?_, ?_, ?_, ?_⟩ <;> kernel_rfl
theorem ty49 : Try.prog.cellsOf 49 = 1 ∧ tvSlc Try.prog 49 = 0 ∧ tvStr Try.prog 49 = false ∧ tvLd Try.prog 49 = some (1, false) ∧ tvZero Try.prog 49 = .nilf ∧ tvNil Try.prog 49 = [] := by
  refine ⟨?_, ?_, ?_, ?_, ?_, ?_⟩ <;> kernel_rfl
theorem ty50 : Try.prog.cellsOf 50 = 3 ∧ tvSlc Try.prog 50 = 0 ∧ tvStr Try.prog 50 = false ∧ tvLd Try.prog 50 = some (3, true) ∧ tvZero Try.prog 50 = .agg [.nils, .int .i64 0, .int .i64 0] ∧ tvFld Try.prog 50 0 = some (0, 2, 28) ∧ tvFld Try.prog 50 1 = some (2, 1, 33) ∧ tvArr Try.prog 50 = none ∧ tvBuild Try.prog 50 = true ∧ tvNil Try.prog 50 = [(0, 1)] := by
  refine ⟨?_, ?_, ?_, ?_, ?_, ?_, ?_, ?_, ?_, ?_⟩ <;> kernel_rfl
theorem ty51 : Try.prog.cellsOf 51 = 3 ∧ tvSlc Try.prog 51 = 0 ∧ tvStr Try.prog 51 = false ∧ tvLd Try.prog 51 = some (3, true) ∧ tvZero Try.prog 51 = .agg [.nils, .int .i64 0, .int .i64 0] ∧ tvFld Try.prog 51 0 = some (0, 2, 28) ∧ tvFld Try.prog 51 1 = some (2, 1, 33) ∧ tvArr Try.prog 51 = none ∧ tvBuild Try.prog 51 = true ∧ tvNil Try.prog 51 = [(0, 1)] := by
  refine ⟨?_, ?_, ?_, ?_, ?_, ?_, ?_, ?_, ?_, ?_⟩ <;> kernel_rfl
theorem ty52 : Try.prog.cellsOf 52 = 1 ∧ tvSlc Try.prog 52 = 0 ∧ tvStr Try.prog 52 = false ∧ tvLd Try.prog 52 = some (1, false) ∧ tvZero Try.prog 52 = .nilf ∧ tvNil Try.prog 52 = [] := by
  refine ⟨?_, ?_, ?_, ?_, ?_, ?_⟩ <;> kernel_rfl
theorem ty53 : Try.prog.cellsOf 53 = 1 ∧ tvSlc Try.prog 53 = 0 ∧ tvStr Try.prog 53 = false ∧ tvLd Try.prog 53 = some (1, false) ∧ tvZero Try.prog 53 = .nilf ∧ tvNil Try.prog 53 = [] := by
  refine ⟨?_, ?_, ?_, ?_, ?_, ?_⟩ <;> kernel_rfl
theorem ty54 : Try.prog.cellsOf 54 = 2 ∧ tvSlc Try.prog 54 = 0 ∧ tvStr Try.prog 54 = false ∧ tvLd Try.prog 54 = some (2, true) ∧ tvZero Try.prog 54 = .agg [.int .i64 0, .bool false] ∧ tvFld Try.prog 54 0 = some (0, 1, 3) ∧ tvFld Try.prog 54 1 = some (1, 1, 4) ∧ tvArr Try.prog 54 = none ∧ tvBuild Try.prog 54 = true ∧ tvNil Try.prog 54 = [] := by
  refine ⟨?_, ?_, ?_, ?_, ?_, ?_, ?_, ?_, ?_, ?_⟩ <;> kernel_rfl
theorem ty55 : Try.prog.cellsOf 55 = 2 ∧ tvSlc Try.prog 55 = 0 ∧ tvStr Try.prog 55 = false ∧ tvLd Try.prog 55 = some (2, true) ∧ tvZero Try.prog 55 = .agg [.int .i64 0, .bool false] ∧ tvFld Try.prog 55 0 = some (0, 1, 3) ∧ tvFld Try.prog 55 1 = some (1, 1, 4) ∧ tvArr Try.prog 55 = none ∧ tvBuild Try.prog 55 = true ∧ tvNil Try.prog 55 = [] := by
  refine ⟨?_, ?_, ?_, ?_, ?_, ?_, ?_, ?_, ?_, ?_⟩ <;> kernel_rfl
theorem ty56 : Try.prog.cellsOf 56 = 1 ∧ tvSlc Try.prog 56 = 0 ∧ tvStr Try.prog 56 = false ∧ tvLd Try.prog 56 = some (1, false) ∧ tvZero Try.prog 56 = .nilf ∧ tvNil Try.prog 56 = [] := by
  refine ⟨?_, ?_, ?_, ?_, ?_, ?_⟩ <;> kernel_rfl
theorem ty57 : Try.prog.cellsOf 57 = 1 ∧ tvSlc Try.prog 57 = 0 ∧ tvStr Try.prog 57 = false ∧ tvLd Try.prog 57 = some (1, false) ∧ tvZero Try.prog 57 = .nilf ∧ tvNil Try.prog 57 = [] := by
  refine ⟨?_, ?_, ?_, ?_, ?_, ?_⟩ <;> kernel_rfl
theorem ty58 : Try.prog.cellsOf 58 = 2 ∧ tvSlc Try.prog 58 = 0 ∧ tvStr Try.prog 58 = false ∧ tvLd Try.prog 58 = some (2, true) ∧ tvZero Try.prog 58 = .agg [.int .u32 0, .int .u32 0] ∧ tvArr Try.prog 58 = some (2, 1) ∧ tvArrE Try.prog 58 = some (2, 31) ∧ tvBuild Try.prog 58 = true ∧ tvNil Try.prog 58 = [] := by
  refine ⟨?_, ?_, ?_, ?_, ?_, ?_, ?_, ?_, ?_⟩ <;> kernel_rfl
theorem ty59 : Try.prog.cellsOf 59 = 2 ∧ tvSlc Try.prog 59 = 0 ∧ tvStr Try.prog 59 = false ∧ tvLd Try.prog 59 = some (2, true) ∧ tvZero Try.prog 59 = .agg [.int .i64 0, .int .i64 0] ∧ tvFld Try.prog 59 0 = some (0, 1, 3) ∧ tvFld Try.prog 59 1 = some (1, 1, 3) ∧ tvArr Try.prog 59 = none ∧ tvBuild Try.prog 59 = true ∧ tvNil Try.prog 59 = [] := by
  refine ⟨?_, ?_, ?_, ?_, ?_, ?_, ?_, ?_, ?_, ?_⟩ <;> kernel_rfl
theorem ty60 : Try.prog.cellsOf 60 = 2 ∧ tvSlc Try.prog 60 = 0 ∧ tvStr Try.prog 60 = false ∧ tvLd Try.prog 60 = some (2, true) ∧ tvZero Try.prog 60 = .agg [.int .i64 0, .int .i64 0] ∧ tvFld Try.prog 60 0 = some (0, 1, 3) ∧ tvFld Try.prog 60 1 = some (1, 1, 3) ∧ tvArr Try.prog 60 = none ∧ tvBuild Try.prog 60 = true ∧ tvNil Try.prog 60 = [] := by
  refine ⟨?_, ?_, ?_, ?_, ?_, ?_, ?_, ?_, ?_, ?_⟩ <;> kernel_rfl
theorem ty61 : Try.prog.cellsOf 61 = 1 ∧ tvSlc Try.prog 61 = 0 ∧ tvStr Try.prog 61 = false ∧ tvLd Try.prog 61 = some (1, false) ∧ tvZero Try.prog 61 = .nilf ∧ tvNil Try.prog 61 = [] := by
  refine ⟨?_, ?_, ?_, ?_, ?_, ?_⟩ <;> kernel_rfl
theorem ty62 : Try.prog.cellsOf 62 = 1 ∧ tvSlc Try.prog 62 = 0 ∧ tvStr Try.prog 62 = false ∧ tvLd Try.prog 62 = some (1, false) ∧ tvZero Try.prog 62 = .nilf ∧ tvNil Try.prog 62 = [] := by
  refine ⟨?_, ?_, ?_, ?_, ?_, ?_⟩ <;> kernel_rfl
theorem ty63 : Try.prog.cellsOf 63 = 1 ∧ tvSlc Try.prog 63 = 0 ∧ tvStr Try.prog 63 = false ∧ tvLd Try.prog 63 = some (1, false) ∧ tvZero Try.prog 63 = .nilf ∧ tvNil Try.prog 63 = [] := by
  refine ⟨?_, ?_, ?_, ?_, ?_, ?_⟩ <;> kernel_rfl
theorem ty64 : Try.prog.cellsOf 64 = 1 ∧ tvSlc Try.prog 64 = 0 ∧ tvStr Try.prog 64 = false ∧ tvLd Try.prog 64 = some (1, false) ∧ tvZero Try.prog 64 = .nilf ∧ tvNil Try.prog 64 = [] := by
  refine ⟨?_, ?_, ?_, ?_, ?_, ?_⟩ <;> kernel_rfl
theorem ty65 : Try.prog.cellsOf 65 = 1 ∧ tvSlc Try.prog 65 = 1 ∧ tvElem Try.prog 65 = 22 ∧ tvStr Try.prog 65 = false ∧ tvLd Try.prog 65 = some (1, false) ∧ tvZero Try.prog 65 = .nils ∧ tvNil Try.prog 65 = [(0, 1)] := by
  refine ⟨?_, ?_, ?_, ?_, ?_, ?_, ?_⟩ <;> kernel_rfl
theorem ty66 : Try.prog.cellsOf 66 = 1 ∧ tvSlc Try.prog 66 = 0 ∧ tvStr Try.prog 66 = false ∧ tvLd Try.prog 66 = some (1, false) ∧ tvZero Try.prog 66 = .nilf ∧ tvNil Try.prog 66 = [] := by
  refine ⟨?_, ?_, ?_, ?_, ?_, ?_⟩ <;> kernel_rfl
theorem ty67 : Try.prog.cellsOf 67 = 1 ∧ tvSlc Try.prog 67 = 1 ∧ tvElem Try.prog 67 = 68 ∧ tvStr Try.prog 67 = false ∧ tvLd Try.prog 67 = some (1, false) ∧ tvZero Try.prog 67 = .nils ∧ tvNil Try.prog 67 = [(0, 1)] := by
  refine ⟨?_, ?_, ?_, ?_, ?_, ?_, ?_⟩ <;> kernel_rfl
theorem ty68 : Try.prog.cellsOf 68 = 1 ∧ tvSlc Try.prog 68 = 0 ∧ tvStr Try.prog 68 = false ∧ tvInt Try.prog 68 = some .i64 ∧ tvLd Try.prog 68 = some (1, false) ∧ tvZero Try.prog 68 = .int .i64 0 ∧ tvNil Try.prog 68 = [] := by
  refine ⟨?_, ?_, ?_, ?_, ?_, ?_, ?_⟩ <;> kernel_rfl
theorem ty69 : Try.prog.cellsOf 69 = 1 ∧ tvSlc Try.prog 69 = 0 ∧ tvStr Try.prog 69 = false ∧ tvLd Try.prog 69 = some (1, false) ∧ tvZero Try.prog 69 = .nilf ∧ tvNil Try.prog 69 = [] := by
  refine ⟨?_, ?_, ?_, ?_, ?_, ?_⟩ <;> kernel_rfl
theorem ty70 : Try.prog.cellsOf 70 = 1 ∧ tvSlc Try.prog 70 = 0 ∧ tvStr Try.prog 70 = false ∧ tvLd Try.prog 70 = some (1, false) ∧ tvZero Try.prog 70 = .nilf ∧ tvNil Try.prog 70 = [] := by
  refine ⟨?_, ?_, ?_, ?_, ?_, ?_⟩ <;> kernel_rfl
theorem ty71 : Try.prog.cellsOf 71 = 1 ∧ tvSlc Try.prog 71 = 0 ∧ tvStr Try.prog 71 = false ∧ tvLd Try.prog 71 = some (1, false) ∧ tvZero Try.prog 71 = .nilf ∧ tvNil Try.prog 71 = [] := by
  refine ⟨?_, ?_, ?_, ?_, ?_, ?_⟩ <;> kernel_rfl
theorem ty72 : Try.prog.cellsOf 72 = 1 ∧ tvSlc Try.prog 72 = 0 ∧ tvStr Try.prog 72 = false ∧ tvLd Try.prog 72 = some (1, false) ∧ tvZero Try.prog 72 = .nilf ∧ tvNil Try.prog 72 = [] := by
  refine ⟨?_, ?_, ?_, ?_, ?_, ?_⟩ <;> kernel_rfl
theorem ty73 : Try.prog.cellsOf 73 = 1 ∧ tvSlc Try.prog 73 = 0 ∧ tvStr Try.prog 73 = false ∧ tvLd Try.prog 73 = some (1, false) ∧ tvZero Try.prog 73 = .nilf ∧ tvNil Try.prog 73 = [] := by
  refine ⟨?_, ?_, ?_, ?_, ?_, ?_⟩ <;> kernel_rfl
theorem ty74 : Try.prog.cellsOf 74 = 1 ∧ tvSlc Try.prog 74 = 0 ∧ tvStr Try.prog 74 = false ∧ tvLd Try.prog 74 = some (1, false) ∧ tvZero Try.prog 74 = .nilf ∧ tvNil Try.prog 74 = [] := by
  refine ⟨?_, ?_, ?_, ?_, ?_, ?_⟩ <;> kernel_rfl
theorem ty75 : Try.prog.cellsOf 75 = 1 ∧ tvSlc Try.prog 75 = 0 ∧ tvStr Try.prog 75 = false ∧ tvInt Try.prog 75 = some .u64 ∧ tvLd Try.prog 75 = some (1, false) ∧ tvZero Try.prog 75 = .int .u64 0 ∧ tvNil Try.prog 75 = [] := by
  refine ⟨?_, ?_, ?_, ?_, ?_, ?_, ?_⟩ <;> kernel_rfl
theorem ty76 : Try.prog.cellsOf 76 = 1 ∧ tvSlc Try.prog 76 = 0 ∧ tvStr Try.prog 76 = false ∧ tvLd Try.prog 76 = some (1, false) ∧ tvZero Try.prog 76 = .nilf ∧ tvNil Try.prog 76 = [] := by
  refine ⟨?_, ?_, ?_, ?_, ?_, ?_⟩ <;> kernel_rfl
theorem ty77 : Try.prog.cellsOf 77 = 4 ∧ tvSlc Try.prog 77 = 0 ∧ tvStr Try.prog 77 = false ∧ tvLd Try.prog 77 = some (4, true) ∧ tvZero Try.prog 77 = .agg [.nilp, .nilp, .nilp, .str []] ∧ tvFld Try.prog 77 0 = some (0, 1, 17) ∧ tvFld Try.prog 77 1 = some (1, 1, 17) ∧ tvFld Try.prog 77 2 = some (2, 1, 17) ∧ tvFld Try.prog 77 3 = some (3, 1, 9) ∧ tvArr Try.prog 77 = none ∧ tvBuild Try.prog 77 = true ∧ tvNil Try.prog 77 = [] := by
  refine ⟨?_, ?_, ?_, ?_, ?_, ?_, ?_, ?_, ?_, ?_, ?_, ?_⟩ <;> kernel_rfl
theorem ty78 : Try.prog.cellsOf 78 = 4 ∧ tvSlc Try.prog 78 = 0 ∧ tvStr Try.prog 78 = false ∧ tvLd Try.prog 78 = some (4, true) ∧ tvZero Try.prog 78 = .agg [.nilp, .nilp, .nilp, .str []] ∧ tvFld Try.prog 78 0 = some (0, 1, 17) ∧ tvFld Try.prog 78 1 = some (1, 1, 17) ∧ tvFld Try.prog 78 2 = some (2, 1, 17) ∧ tvFld Try.prog 78 3 = some (3, 1, 9) ∧ tvArr Try.prog 78 = none ∧ tvBuild Try.prog 78 = true ∧ tvNil Try.prog 78 = [] := by
  refine ⟨?_, ?_, ?_, ?_, ?_, ?_, ?_, ?_, ?_, ?_, ?_, ?_⟩ <;> kernel_rfl
theorem ty79 : Try.prog.cellsOf 79 = 0 ∧ tvSlc Try.prog 79 = 0 ∧ tvStr Try.prog 79 = false ∧ tvZero Try.prog 79 = .agg [] ∧ tvArr Try.prog 79 = some (0, 1) ∧ tvArrE Try.prog 79 = some (0, 16) ∧ tvBuild Try.prog 79 = true ∧ tvNil Try.prog 79 = [] := by
  refine ⟨?_, ?_, ?_, ?_, ?_, ?_, ?_, ?_⟩ <;> kernel_rfl
theorem ty80 : Try.prog.cellsOf 80 = 0 ∧ tvSlc Try.prog 80 = 0 ∧ tvStr Try.prog 80 = false ∧ tvZero Try.prog 80 = .agg [] ∧ tvFld Try.prog 80 0 = some (0, 0, 79) ∧ tvArr Try.prog 80 = none ∧ tvBuild Try.prog 80 = true ∧ tvNil Try.prog 80 = [] := by
  refine ⟨?_, ?_, ?_, ?_, ?_, ?_, ?_, ?_⟩ <;> kernel_rfl
theorem ty81 : Try.prog.cellsOf 81 = 0 ∧ tvSlc Try.prog 81 = 0 ∧ tvStr Try.prog 81 = false ∧ tvZero Try.prog 81 = .agg [] ∧ tvFld Try.prog 81 0 = some (0, 0, 79) ∧ tvArr Try.prog 81 = none ∧ tvBuild Try.prog 81 = true ∧ tvNil Try.prog 81 = [] := by
  refine ⟨?_, ?_, ?_, ?_, ?_, ?_, ?_, ?_⟩ <;> kernel_rfl
theorem ty82 : Try.prog.cellsOf 82 = 1 ∧ tvSlc Try.prog 82 = 0 ∧ tvStr Try.prog 82 = false ∧ tvLd Try.prog 82 = some (1, false) ∧ tvZero Try.prog 82 = .nilf ∧ tvNil Try.prog 82 = [] := by
  refine ⟨?_, ?_, ?_, ?_, ?_, ?_⟩ <;> kernel_rfl
theorem ty83 : Try.prog.cellsOf 83 = 1 ∧ tvSlc Try.prog 83 = 0 ∧ tvStr Try.prog 83 = false ∧ tvInt Try.prog 83 = some .u8 ∧ tvLd Try.prog 83 = some (1, false) ∧ tvZero Try.prog 83 = .int .u8 0 ∧ tvNil Try.prog 83 = [] := by
  refine ⟨?_, ?_, ?_, ?_, ?_, ?_, ?_⟩ <;> kernel_rfl
theorem ty84 : Try.prog.cellsOf 84 = 1 ∧ tvSlc Try.prog 84 = 0 ∧ tvStr Try.prog 84 = false ∧ tvInt Try.prog 84 = some .u8 ∧ tvLd Try.prog 84 = some (1, false) ∧ tvZero Try.prog 84 = .int .u8 0 ∧ tvNil Try.prog 84 = [] := by
  refine ⟨?_, ?_, ?_, ?_, ?_, ?_, ?_⟩ <;> kernel_rfl
theorem ty85 : Try.prog.cellsOf 85 = 1 ∧ tvSlc Try.prog 85 = 0 ∧ tvStr Try.prog 85 = false ∧ tvLd Try.prog 85 = some (1, false) ∧ tvZero Try.prog 85 = .nilf ∧ tvNil Try.prog 85 = [] := by
  refine ⟨?_, ?_, ?_, ?_, ?_, ?_⟩ <;> kernel_rfl
theorem ty86 : Try.prog.cellsOf 86 = 1 ∧ tvSlc Try.prog 86 = 0 ∧ tvStr Try.prog 86 = false ∧ tvLd Try.prog 86 = some (1, false) ∧ tvZero Try.prog 86 = .nilp ∧ tvNil Try.prog 86 = [] := by
  refine ⟨?_, ?_, ?_, ?_, ?_, ?_⟩ <;> kernel_rfl
theorem ty87 : Try.prog.cellsOf 87 = 1 ∧ tvSlc Try.prog 87 = 0 ∧ tvStr Try.prog 87 = false ∧ tvInt Try.prog 87 = some .i32 ∧ tvLd Try.prog 87 = some (1, false) ∧ tvZero Try.prog 87 = .int .i32 0 ∧ tvNil Try.prog 87 = [] := by
  refine ⟨?_, ?_, ?_, ?_, ?_, ?_, ?_⟩ <;> kernel_rfl
theorem ty88 : Try.prog.cellsOf 88 = 1 ∧ tvSlc Try.prog 88 = 0 ∧ tvStr Try.prog 88 = false ∧ tvInt Try.prog 88 = some .i32 ∧ tvLd Try.prog 88 = some (1, false) ∧ tvZero Try.prog 88 = .int .i32 0 ∧ tvNil Try.prog 88 = [] := by
  refine ⟨?_, ?_, ?_, ?_, ?_, ?_, ?_⟩ <;> kernel_rfl
theorem ty89 : Try.prog.cellsOf 89 = 11 ∧ tvSlc Try.prog 89 = 0 ∧ tvStr Try.prog 89 = false ∧ tvLd Try.prog 89 = some (11, true) ∧ tvZero Try.prog 89 = .agg [.int .u64 0, .int .u64 0, .int .u32 0, .int .u8 0, .int .u8 0, .int .u8 0, .int .u8 0, .nilf, .nilp, .int .i32 0, .int .i32 0] ∧ tvFld Try.prog 89 0 = some (0, 1, 12) ∧ tvFld Try.prog 89 1 = some (1, 1, 12) ∧ tvFld Try.prog 89 2 = some (2, 1, 31) ∧ tvFld Try.prog 89 3 = some (3, 1, 83) ∧ tvFld Try.prog 89 4 = some (4, 1, 5) ∧ tvFld Try.prog 89 5 = some (5, 1, 5) ∧ tvFld Try.prog 89 6 = some (6, 1, 84) ∧ tvFld Try.prog 89 7 = some (7, 1, 85) ∧ tvFld Try.prog 89 8 = some (8, 1, 86) ∧ tvFld Try.prog 89 9 = some (9, 1, 87) ∧ tvFld Try.prog 89 10 = some (10, 1, 88) ∧ tvArr Try.prog 89 = none ∧ tvBuild Try.prog 89 = true ∧ tvNil Try.prog 89 = [] := by
  refine ⟨?_, ?_, ?_, ?_, ?_, ?_, ?_, ?_, ?_, ?_, ?_, ?_, ?_, ?_, ?_, ?_, ?_, ?_, ?_⟩ <;> kernel_rfl
theorem ty90 : Try.prog.cellsOf 90 = 11 ∧ tvSlc Try.prog 90 = 0 ∧ tvStr Try.prog 90 = false ∧ tvLd Try.prog 90 = some (11, true) ∧ tvZero Try.prog 90 = .agg [.int .u64 0, .int .u64 0, .int .u32 0, .int .u8 0, .int .u8 0, .int .u8 0, .int .u8 0, .nilf, .nilp, .int .i32 0, .int .i32 0] ∧ tvFld Try.prog 90 0 = some (0, 1, 12) ∧ tvFld Try.prog 90 1 = some (1, 1, 12) ∧ tvFld Try.prog 90 2 = some (2, 1, 31) ∧ tvFld Try.prog 90 3 = some (3, 1, 83) ∧ tvFld Try.prog 90 4 = some (4, 1, 5) ∧ tvFld Try.prog 90 5 = some (5, 1, 5) ∧ tvFld Try.prog 90 6 = some (6, 1, 84) ∧ tvFld Try.prog 90 7 = some (7, 1, 85) ∧ tvFld Try.prog 90 8 = some (8, 1, 86) ∧ tvFld Try.prog 90 9 = some (9, 1, 87) ∧ tvFld Try.prog 90 10 = some (10, 1, 88) ∧ tvArr Try.prog 90 = none ∧ tvBuild Try.prog 90 = true ∧ tvNil Try.prog 90 = [] := by
  refine ⟨?_, ?_, ?_, ?_, ?_, ?_, ?_, ?_, ?_, ?_, ?_, ?_, ?_, ?_, ?_, ?_, ?_, ?_, ?_⟩ <;> kernel_rfl
theorem ty91 : Try.prog.cellsOf 91 = 1 ∧ tvSlc Try.prog 91 = 0 ∧ tvStr Try.prog 91 = false ∧ tvLd Try.prog 91 = some (1, false) ∧ tvNil Try.prog 91 = [] := by
  refine ⟨?_, ?_, ?_, ?_, ?_⟩ <;> kernel_rfl
end Sim
