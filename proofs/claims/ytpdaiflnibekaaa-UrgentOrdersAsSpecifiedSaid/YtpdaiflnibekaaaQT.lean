/- What functions of this seat compute, by values: contracts (lemmas of the statement's proof, under the conditions that each names). -/
import Derived.Test.YtpdaiflnibekaaaSimU
import Derived.Test.YtpdaiflnibekaaaProg
import Derived.KernelRfl
namespace Sim
open Go Go.Proofs
theorem ty1 : Try.prog.cellsOf 1 = 1 ∧ tvSlc Try.prog 1 = 0 ∧ tvStr Try.prog 1 = false ∧ tvMap Try.prog 1 = none ∧ tvLd Try.prog 1 = some (1, false) ∧ tvZero Try.prog 1 = .nilf ∧ tvNil Try.prog 1 = [] := by
  refine ⟨?_, ?_, ?_, ?_, ?_, ?_, ?_⟩ <;> kernel_rfl
theorem ty2 : Try.prog.cellsOf 2 = 1 ∧ tvSlc Try.prog 2 = 0 ∧ tvStr Try.prog 2 = false ∧ tvMap Try.prog 2 = none ∧ tvInt Try.prog 2 = some .i64 ∧ tvLd Try.prog 2 = some (1, false) ∧ tvZero Try.prog 2 = .int .i64 0 ∧ tvNil Try.prog 2 = [] := by
  refine ⟨?_, ?_, ?_, ?_, ?_, ?_, ?_, ?_⟩ <;> kernel_rfl
theorem ty3 : Try.prog.cellsOf 3 = 1 ∧ tvSlc Try.prog 3 = 0 ∧ tvStr Try.prog 3 = false ∧ tvMap Try.prog 3 = none ∧ tvInt Try.prog 3 = some .i64 ∧ tvLd Try.prog 3 = some (1, false) ∧ tvZero Try.prog 3 = .int .i64 0 ∧ tvNil Try.prog 3 = [] := by
  refine ⟨?_, ?_, ?_, ?_, ?_, ?_, ?_, ?_⟩ <;> kernel_rfl
theorem ty4 : Try.prog.cellsOf 4 = 1 ∧ tvSlc Try.prog 4 = 0 ∧ tvStr Try.prog 4 = false ∧ tvMap Try.prog 4 = none ∧ tvBool Try.prog 4 = true ∧ tvLd Try.prog 4 = some (1, false) ∧ tvZero Try.prog 4 = .bool false ∧ tvNil Try.prog 4 = [] := by
  refine ⟨?_, ?_, ?_, ?_, ?_, ?_, ?_, ?_⟩ <;> kernel_rfl
theorem ty5 : Try.prog.cellsOf 5 = 1 ∧ tvSlc Try.prog 5 = 0 ∧ tvStr Try.prog 5 = false ∧ tvMap Try.prog 5 = none ∧ tvInt Try.prog 5 = some .u8 ∧ tvLd Try.prog 5 = some (1, false) ∧ tvZero Try.prog 5 = .int .u8 0 ∧ tvNil Try.prog 5 = [] := by
  refine ⟨?_, ?_, ?_, ?_, ?_, ?_, ?_, ?_⟩ <;> kernel_rfl
theorem ty6 : Try.prog.cellsOf 6 = 1 ∧ tvSlc Try.prog 6 = 0 ∧ tvStr Try.prog 6 = false ∧ tvMap Try.prog 6 = none ∧ tvInt Try.prog 6 = some .u8 ∧ tvLd Try.prog 6 = some (1, false) ∧ tvZero Try.prog 6 = .int .u8 0 ∧ tvNil Try.prog 6 = [] := by
  refine ⟨?_, ?_, ?_, ?_, ?_, ?_, ?_, ?_⟩ <;> kernel_rfl
theorem ty7 : Try.prog.cellsOf 7 = 4 ∧ tvSlc Try.prog 7 = 0 ∧ tvStr Try.prog 7 = false ∧ tvMap Try.prog 7 = none ∧ tvLd Try.prog 7 = some (4, true) ∧ tvZero Try.prog 7 = .agg [.int .i64 0, .int .i64 0, .bool false, .int .u8 0] ∧ tvFld Try.prog 7 0 = some (0, 1, 2) ∧ tvFld Try.prog 7 1 = some (1, 1, 3) ∧ tvFld Try.prog 7 2 = some (2, 1, 4) ∧ tvFld Try.prog 7 3 = some (3, 1, 6) ∧ tvArr Try.prog 7 = none ∧ tvBuild Try.prog 7 = true ∧ tvNil Try.prog 7 = [] := by
  refine ⟨?_, ?_, ?_, ?_, ?_, ?_, ?_, ?_, ?_, ?_, ?_, ?_, ?_⟩ <;> kernel_rfl
theorem ty8 : Try.prog.cellsOf 8 = 4 ∧ tvSlc Try.prog 8 = 0 ∧ tvStr Try.prog 8 = false ∧ tvMap Try.prog 8 = none ∧ tvLd Try.prog 8 = some (4, true) ∧ tvZero Try.prog 8 = .agg [.int .i64 0, .int .i64 0, .bool false, .int .u8 0] ∧ tvFld Try.prog 8 0 = some (0, 1, 2) ∧ tvFld Try.prog 8 1 = some (1, 1, 3) ∧ tvFld Try.prog 8 2 = some (2, 1, 4) ∧ tvFld Try.prog 8 3 = some (3, 1, 6) ∧ tvArr Try.prog 8 = none ∧ tvBuild Try.prog 8 = true ∧ tvNil Try.prog 8 = [] := by
  refine ⟨?_, ?_, ?_, ?_, ?_, ?_, ?_, ?_, ?_, ?_, ?_, ?_, ?_⟩ <;> kernel_rfl
theorem ty9 : Try.prog.cellsOf 9 = 1 ∧ tvSlc Try.prog 9 = 0 ∧ tvStr Try.prog 9 = true ∧ tvMap Try.prog 9 = none ∧ tvLd Try.prog 9 = some (1, false) ∧ tvZero Try.prog 9 = .str [] ∧ tvNil Try.prog 9 = [] := by
  refine ⟨?_, ?_, ?_, ?_, ?_, ?_, ?_⟩ <;> kernel_rfl
theorem ty10 : Try.prog.cellsOf 10 = 1 ∧ tvSlc Try.prog 10 = 0 ∧ tvStr Try.prog 10 = true ∧ tvMap Try.prog 10 = none ∧ tvLd Try.prog 10 = some (1, false) ∧ tvZero Try.prog 10 = .str [] ∧ tvNil Try.prog 10 = [] := by
  refine ⟨?_, ?_, ?_, ?_, ?_, ?_, ?_⟩ <;> kernel_rfl
theorem ty11 : Try.prog.cellsOf 11 = 1 ∧ tvSlc Try.prog 11 = 0 ∧ tvStr Try.prog 11 = true ∧ tvMap Try.prog 11 = none ∧ tvLd Try.prog 11 = some (1, false) ∧ tvZero Try.prog 11 = .str [] ∧ tvNil Try.prog 11 = [] := by
  refine ⟨?_, ?_, ?_, ?_, ?_, ?_, ?_⟩ <;> kernel_rfl
theorem ty12 : Try.prog.cellsOf 12 = 1 ∧ tvSlc Try.prog 12 = 0 ∧ tvStr Try.prog 12 = false ∧ tvMap Try.prog 12 = none ∧ tvInt Try.prog 12 = some .u64 ∧ tvLd Try.prog 12 = some (1, false) ∧ tvZero Try.prog 12 = .int .u64 0 ∧ tvNil Try.prog 12 = [] := by
  refine ⟨?_, ?_, ?_, ?_, ?_, ?_, ?_, ?_⟩ <;> kernel_rfl
theorem ty13 : Try.prog.cellsOf 13 = 2 ∧ tvSlc Try.prog 13 = 0 ∧ tvStr Try.prog 13 = false ∧ tvMap Try.prog 13 = none ∧ tvLd Try.prog 13 = some (2, true) ∧ tvZero Try.prog 13 = .agg [.str [], .int .u64 0] ∧ tvFld Try.prog 13 0 = some (0, 1, 9) ∧ tvFld Try.prog 13 1 = some (1, 1, 12) ∧ tvArr Try.prog 13 = none ∧ tvBuild Try.prog 13 = true ∧ tvNil Try.prog 13 = [] := by
  refine ⟨?_, ?_, ?_, ?_, ?_, ?_, ?_, ?_, ?_, ?_, ?_⟩ <;> kernel_rfl
theorem ty14 : Try.prog.cellsOf 14 = 2 ∧ tvSlc Try.prog 14 = 0 ∧ tvStr Try.prog 14 = false ∧ tvMap Try.prog 14 = none ∧ tvLd Try.prog 14 = some (2, true) ∧ tvZero Try.prog 14 = .agg [.str [], .int .u64 0] ∧ tvFld Try.prog 14 0 = some (0, 1, 9) ∧ tvFld Try.prog 14 1 = some (1, 1, 12) ∧ tvArr Try.prog 14 = none ∧ tvBuild Try.prog 14 = true ∧ tvNil Try.prog 14 = [] := by
  refine ⟨?_, ?_, ?_, ?_, ?_, ?_, ?_, ?_, ?_, ?_, ?_⟩ <;> kernel_rfl
theorem ty15 : Try.prog.cellsOf 15 = 1 ∧ tvSlc Try.prog 15 = 0 ∧ tvStr Try.prog 15 = false ∧ tvMap Try.prog 15 = none ∧ tvLd Try.prog 15 = some (1, false) ∧ tvZero Try.prog 15 = .nilp ∧ tvNil Try.prog 15 = [] := by
  refine ⟨?_, ?_, ?_, ?_, ?_, ?_, ?_⟩ <;> kernel_rfl
theorem ty16 : Try.prog.cellsOf 16 = 1 ∧ tvSlc Try.prog 16 = 0 ∧ tvStr Try.prog 16 = false ∧ tvMap Try.prog 16 = none ∧ tvLd Try.prog 16 = some (1, false) ∧ tvZero Try.prog 16 = .nilp ∧ tvNil Try.prog 16 = [] := by
  refine ⟨?_, ?_, ?_, ?_, ?_, ?_, ?_⟩ <;> kernel_rfl
theorem ty17 : Try.prog.cellsOf 17 = 1 ∧ tvSlc Try.prog 17 = 0 ∧ tvStr Try.prog 17 = false ∧ tvMap Try.prog 17 = none ∧ tvLd Try.prog 17 = some (1, false) ∧ tvZero Try.prog 17 = .nilp ∧ tvNil Try.prog 17 = [] := by
  refine ⟨?_, ?_, ?_, ?_, ?_, ?_, ?_⟩ <;> kernel_rfl
theorem ty18 : Try.prog.cellsOf 18 = 1 ∧ tvSlc Try.prog 18 = 0 ∧ tvStr Try.prog 18 = false ∧ tvMap Try.prog 18 = none ∧ tvLd Try.prog 18 = some (1, true) ∧ tvZero Try.prog 18 = .agg [.nilp] ∧ tvFld Try.prog 18 0 = some (0, 1, 17) ∧ tvArr Try.prog 18 = none ∧ tvBuild Try.prog 18 = true ∧ tvNil Try.prog 18 = [] := by
  refine ⟨?_, ?_, ?_, ?_, ?_, ?_, ?_, ?_, ?_, ?_⟩ <;> kernel_rfl
theorem ty19 : Try.prog.cellsOf 19 = 1 ∧ tvSlc Try.prog 19 = 0 ∧ tvStr Try.prog 19 = false ∧ tvMap Try.prog 19 = none ∧ tvLd Try.prog 19 = some (1, true) ∧ tvZero Try.prog 19 = .agg [.nilp] ∧ tvFld Try.prog 19 0 = some (0, 1, 17) ∧ tvArr Try.prog 19 = none ∧ tvBuild Try.prog 19 = true ∧ tvNil Try.prog 19 = [] := by
  refine ⟨?_, ?_, ?_, ?_, ?_, ?_, ?_, ?_, ?_, ?_⟩ <;> kernel_rfl
theorem ty20 : Try.prog.cellsOf 20 = 1 ∧ tvSlc Try.prog 20 = 0 ∧ tvStr Try.prog 20 = false ∧ tvMap Try.prog 20 = none ∧ tvLd Try.prog 20 = some (1, false) ∧ tvZero Try.prog 20 = .nili ∧ tvNil Try.prog 20 = [] := by
  refine ⟨?_, ?_, ?_, ?_, ?_, ?_, ?_⟩ <;> kernel_rfl
theorem ty21 : Try.prog.cellsOf 21 = 1 ∧ tvSlc Try.prog 21 = 0 ∧ tvStr Try.prog 21 = false ∧ tvMap Try.prog 21 = none ∧ tvInt Try.prog 21 = some .i32 ∧ tvLd Try.prog 21 = some (1, false) ∧ tvZero Try.prog 21 = .int .i32 0 ∧ tvNil Try.prog 21 = [] := by
  refine ⟨?_, ?_, ?_, ?_, ?_, ?_, ?_, ?_⟩ <;> kernel_rfl
theorem ty22 : Try.prog.cellsOf 22 = 1 ∧ tvSlc Try.prog 22 = 4 ∧ tvElem Try.prog 22 = 56 ∧ tvStr Try.prog 22 = false ∧ tvMap Try.prog 22 = none ∧ tvLd Try.prog 22 = some (1, false) ∧ tvZero Try.prog 22 = .nils ∧ tvNil Try.prog 22 = [(0, 4)] := by
  refine ⟨?_, ?_, ?_, ?_, ?_, ?_, ?_, ?_⟩ <;> kernel_rfl
theorem ty23 : Try.prog.cellsOf 23 = 2 ∧ tvSlc Try.prog 23 = 0 ∧ tvStr Try.prog 23 = false ∧ tvMap Try.prog 23 = none ∧ tvLd Try.prog 23 = some (2, true) ∧ tvZero Try.prog 23 = .agg [.int .i64 0, .nils] ∧ tvFld Try.prog 23 0 = some (0, 1, 3) ∧ tvFld Try.prog 23 1 = some (1, 1, 22) ∧ tvArr Try.prog 23 = none ∧ tvBuild Try.prog 23 = true ∧ tvNil Try.prog 23 = [(1, 4)] := by
  refine ⟨?_, ?_, ?_, ?_, ?_, ?_, ?_, ?_, ?_, ?_, ?_⟩ <;> kernel_rfl
theorem ty24 : Try.prog.cellsOf 24 = 2 ∧ tvSlc Try.prog 24 = 0 ∧ tvStr Try.prog 24 = false ∧ tvMap Try.prog 24 = none ∧ tvLd Try.prog 24 = some (2, true) ∧ tvZero Try.prog 24 = .agg [.int .i64 0, .nils] ∧ tvFld Try.prog 24 0 = some (0, 1, 3) ∧ tvFld Try.prog 24 1 = some (1, 1, 22) ∧ tvArr Try.prog 24 = none ∧ tvBuild Try.prog 24 = true ∧ tvNil Try.prog 24 = [(1, 4)] := by
  refine ⟨?_, ?_, ?_, ?_, ?_, ?_, ?_, ?_, ?_, ?_, ?_⟩ <;> kernel_rfl
theorem ty25 : Try.prog.cellsOf 25 = 1 ∧ tvSlc Try.prog 25 = 1 ∧ tvElem Try.prog 25 = 3 ∧ tvStr Try.prog 25 = false ∧ tvMap Try.prog 25 = none ∧ tvLd Try.prog 25 = some (1, false) ∧ tvZero Try.prog 25 = .nils ∧ tvNil Try.prog 25 = [(0, 1)] := by
  refine ⟨?_, ?_, ?_, ?_, ?_, ?_, ?_, ?_⟩ <;> kernel_rfl
theorem ty26 : Try.prog.cellsOf 26 = 1 ∧ tvSlc Try.prog 26 = 0 ∧ tvStr Try.prog 26 = false ∧ tvMap Try.prog 26 = none ∧ tvLd Try.prog 26 = some (1, false) ∧ tvZero Try.prog 26 = .nilf ∧ tvNil Try.prog 26 = [] := by
  refine ⟨?_, ?_, ?_, ?_, ?_, ?_, ?_⟩ <;> kernel_rfl
theorem ty27 : Try.prog.cellsOf 27 = 1 ∧ tvSlc Try.prog 27 = 0 ∧ tvStr Try.prog 27 = false ∧ tvMap Try.prog 27 = none ∧ tvLd Try.prog 27 = some (1, false) ∧ tvZero Try.prog 27 = .nilf ∧ tvNil Try.prog 27 = [] := by
  refine ⟨?_, ?_, ?_, ?_, ?_, ?_, ?_⟩ <;> kernel_rfl
theorem ty28 : Try.prog.cellsOf 28 = 1 ∧ tvSlc Try.prog 28 = 0 ∧ tvStr Try.prog 28 = false ∧ tvMap Try.prog 28 = none ∧ tvInt Try.prog 28 = some .i64 ∧ tvLd Try.prog 28 = some (1, false) ∧ tvZero Try.prog 28 = .int .i64 0 ∧ tvNil Try.prog 28 = [] := by
  refine ⟨?_, ?_, ?_, ?_, ?_, ?_, ?_, ?_⟩ <;> kernel_rfl
theorem ty30 : Try.prog.cellsOf 30 = 1 ∧ tvSlc Try.prog 30 = 0 ∧ tvStr Try.prog 30 = false ∧ tvMap Try.prog 30 = none ∧ tvLd Try.prog 30 = some (1, false) ∧ tvZero Try.prog 30 = .nilf ∧ tvNil Try.prog 30 = [] := by
  refine ⟨?_, ?_, ?_, ?_, ?_, ?_, ?_⟩ <;> kernel_rfl
theorem ty31 : Try.prog.cellsOf 31 = 2 ∧ tvSlc Try.prog 31 = 0 ∧ tvStr Try.prog 31 = false ∧ tvMap Try.prog 31 = none ∧ tvLd Try.prog 31 = some (2, true) ∧ tvZero Try.prog 31 = .agg [.nils, .int .i64 0] ∧ tvFld Try.prog 31 0 = some (0, 1, 25) ∧ tvFld Try.prog 31 1 = some (1, 1, 28) ∧ tvArr Try.prog 31 = none ∧ tvBuild Try.prog 31 = true ∧ tvNil Try.prog 31 = [(0, 1)] := by
  refine ⟨?_, ?_, ?_, ?_, ?_, ?_, ?_, ?_, ?_, ?_, ?_⟩ <;> kernel_rfl
theorem ty32 : Try.prog.cellsOf 32 = 2 ∧ tvSlc Try.prog 32 = 0 ∧ tvStr Try.prog 32 = false ∧ tvMap Try.prog 32 = none ∧ tvLd Try.prog 32 = some (2, true) ∧ tvZero Try.prog 32 = .agg [.nils, .int .i64 0] ∧ tvFld Try.prog 32 0 = some (0, 1, 25) ∧ tvFld Try.prog 32 1 = some (1, 1, 28) ∧ tvArr Try.prog 32 = none ∧ tvBuild Try.prog 32 = true ∧ tvNil Try.prog 32 = [(0, 1)] := by
  refine ⟨?_, ?_, ?_, ?_, ?_, ?_, ?_, ?_, ?_, ?_, ?_⟩ <;> kernel_rfl
theorem ty33 : Try.prog.cellsOf 33 = 1 ∧ tvSlc Try.prog 33 = 0 ∧ tvStr Try.prog 33 = false ∧ tvMap Try.prog 33 = none ∧ tvLd Try.prog 33 = some (1, false) ∧ tvZero Try.prog 33 = .nilf ∧ tvNil Try.prog 33 = [] := by
  refine ⟨?_, ?_, ?_, ?_, ?_, ?_, ?_⟩ <;> kernel_rfl
theorem ty34 : Try.prog.cellsOf 34 = 1 ∧ tvSlc Try.prog 34 = 0 ∧ tvStr Try.prog 34 = false ∧ tvMap Try.prog 34 = none ∧ tvLd Try.prog 34 = some (1, false) ∧ tvZero Try.prog 34 = .nilf ∧ tvNil Try.prog 34 = [] := by
  refine ⟨?_, ?_, ?_, ?_, ?_, ?_, ?_⟩ <;> kernel_rfl
theorem ty35 : Try.prog.cellsOf 35 = 1 ∧ tvSlc Try.prog 35 = 0 ∧ tvStr Try.prog 35 = false ∧ tvMap Try.prog 35 = none ∧ tvLd Try.prog 35 = some (1, false) ∧ tvZero Try.prog 35 = .nilf ∧ tvNil Try.prog 35 = [] := by
  refine ⟨?_, ?_, ?_, ?_, ?_, ?_, ?_⟩ <;> kernel_rfl
theorem ty37 : Try.prog.cellsOf 37 = 1 ∧ tvSlc Try.prog 37 = 0 ∧ tvStr Try.prog 37 = false ∧ tvMap Try.prog 37 = none ∧ tvLd Try.prog 37 = some (1, false) ∧ tvZero Try.prog 37 = .nilf ∧ tvNil Try.prog 37 = [] := by
  refine ⟨?_, ?_, ?_, ?_, ?_, ?_, ?_⟩ <;> kernel_rfl
theorem ty38 : Try.prog.cellsOf 38 = 2 ∧ tvSlc Try.prog 38 = 0 ∧ tvStr Try.prog 38 = false ∧ tvMap Try.prog 38 = none ∧ tvLd Try.prog 38 = some (2, true) ∧ tvZero Try.prog 38 = .agg [.int .i64 0, .int .i64 0] ∧ tvFld Try.prog 38 0 = some (0, 1, 3) ∧ tvFld Try.prog 38 1 = some (1, 1, 28) ∧ tvArr Try.prog 38 = none ∧ tvBuild Try.prog 38 = true ∧ tvNil Try.prog 38 = [] := by
  refine ⟨?_, ?_, ?_, ?_, ?_, ?_, ?_, ?_, ?_, ?_, ?_⟩ <;> kernel_rfl
theorem ty39 : Try.prog.cellsOf 39 = 2 ∧ tvSlc Try.prog 39 = 0 ∧ tvStr Try.prog 39 = false ∧ tvMap Try.prog 39 = none ∧ tvLd Try.prog 39 = some (2, true) ∧ tvZero Try.prog 39 = .agg [.int .i64 0, .int .i64 0] ∧ tvFld Try.prog 39 0 = some (0, 1, 3) ∧ tvFld Try.prog 39 1 = some (1, 1, 28) ∧ tvArr Try.prog 39 = none ∧ tvBuild Try.prog 39 = true ∧ tvNil Try.prog 39 = [] := by
  refine ⟨?_, ?_, ?_, ?_, ?_, ?_, ?_, ?_, ?_, ?_, ?_⟩ <;> kernel_rfl
theorem ty40 : Try.prog.cellsOf 40 = 1 ∧ tvSlc Try.prog 40 = 0 ∧ tvStr Try.prog 40 = false ∧ tvMap Try.prog 40 = none ∧ tvLd Try.prog 40 = some (1, false) ∧ tvZero Try.prog 40 = .nilf ∧ tvNil Try.prog 40 = [] := by
  refine ⟨?_, ?_, ?_, ?_, ?_, ?_, ?_⟩ <;> kernel_rfl
theorem ty42 : Try.prog.cellsOf 42 = 1 ∧ tvSlc Try.prog 42 = 0 ∧ tvStr Try.prog 42 = false ∧ tvMap Try.prog 42 = none ∧ tvLd Try.prog 42 = some (1, false) ∧ tvZero Try.prog 42 = .nilf ∧ tvNil Try.prog 42 = [] := by
  refine ⟨?_, ?_, ?_, ?_, ?_, ?_, ?_⟩ <;> kernel_rfl
theorem ty43 : Try.prog.cellsOf 43 = 3 ∧ tvSlc Try.prog 43 = 0 ∧ tvStr Try.prog 43 = false ∧ tvMap Try.prog 43 = none ∧ tvLd Try.prog 43 = some (3, true) ∧ tvZero Try.prog 43 = .agg [.int .i64 0, .nils, .int .i64 0] ∧ tvFld Try.prog 43 0 = some (0, 2, 24) ∧ tvFld Try.prog 43 1 = some (2, 1, 28) ∧ tvArr Try.prog 43 = none ∧ tvBuild Try.prog 43 = true ∧ tvNil Try.prog 43 = [(1, 4)] := by
  refine ⟨?_, ?_, ?_, ?_, ?_, ?_, ?_, ?_, ?_, ?_, ?_⟩ <;> kernel_rfl
theorem ty44 : Try.prog.cellsOf 44 = 3 ∧ tvSlc Try.prog 44 = 0 ∧ tvStr Try.prog 44 = false ∧ tvMap Try.prog 44 = none ∧ tvLd Try.prog 44 = some (3, true) ∧ tvZero Try.prog 44 = .agg [.int .i64 0, .nils, .int .i64 0] ∧ tvFld Try.prog 44 0 = some (0, 2, 24) ∧ tvFld Try.prog 44 1 = some (2, 1, 28) ∧ tvArr Try.prog 44 = none ∧ tvBuild Try.prog 44 = true ∧ tvNil Try.prog 44 = [(1, 4)] := by
  refine ⟨?_, ?_, ?_, ?_, ?_, ?_, ?_, ?_, ?_, ?_, ?_⟩ <;> kernel_rfl
theorem ty45 : Try.prog.cellsOf 45 = 1 ∧ tvSlc Try.prog 45 = 0 ∧ tvStr Try.prog 45 = false ∧ tvMap Try.prog 45 = none ∧ tvLd Try.prog 45 = some (1, false) ∧ tvZero Try.prog 45 = .nilf ∧ tvNil Try.prog 45 = [] := by
  refine ⟨?_, ?_, ?_, ?_, ?_, ?_, ?_⟩ <;> kernel_rfl
theorem ty46 : Try.prog.cellsOf 46 = 1 ∧ tvSlc Try.prog 46 = 0 ∧ tvStr Try.prog 46 = false ∧ tvMap Try.prog 46 = none ∧ tvLd Try.prog 46 = some (1, false) ∧ tvZero Try.prog 46 = .nilf ∧ tvNil Try.prog 46 = [] := by
  refine ⟨?_, ?_, ?_, ?_, ?_, ?_, ?_⟩ <;> kernel_rfl
theorem ty47 : Try.prog.cellsOf 47 = 1 ∧ tvSlc Try.prog 47 = 0 ∧ tvStr Try.prog 47 = false ∧ tvMap Try.prog 47 = none ∧ tvLd Try.prog 47 = some (1, false) ∧ tvZero Try.prog 47 = .nilf ∧ tvNil Try.prog 47 = [] := by
  refine ⟨?_, ?_, ?_, ?_, ?_, ?_, ?_⟩ <;> kernel_rfl
theorem ty48 : Try.prog.cellsOf 48 = 1 ∧ tvSlc Try.prog 48 = 0 ∧ tvStr Try.prog 48 = false ∧ tvMap Try.prog 48 = none ∧ tvLd Try.prog 48 = some (1, false) ∧ tvZero Try.prog 48 = .nilf ∧ tvNil Try.prog 48 = [] := by
  refine ⟨?_, ?_, ?_, ?_, ?_, ?_, ?_⟩ <;> kernel_rfl
theorem ty49 : Try.prog.cellsOf 49 = 1 ∧ tvSlc Try.prog 49 = 0 ∧ tvStr Try.prog 49 = false ∧ tvMap Try.prog 49 = none ∧ tvLd Try.prog 49 = some (1, false) ∧ tvZero Try.prog 49 = .nilf ∧ tvNil Try.prog 49 = [] := by
  refine ⟨?_, ?_, ?_, ?_, ?_, ?_, ?_⟩ <;> kernel_rfl
theorem ty50 : Try.prog.cellsOf 50 = 1 ∧ tvSlc Try.prog 50 = 0 ∧ tvStr Try.prog 50 = false ∧ tvMap Try.prog 50 = none ∧ tvLd Try.prog 50 = some (1, false) ∧ tvZero Try.prog 50 = .nilf ∧ tvNil Try.prog 50 = [] := by
  refine ⟨?_, ?_, ?_, ?_, ?_, ?_, ?_⟩ <;> kernel_rfl
theorem ty51 : Try.prog.cellsOf 51 = 1 ∧ tvSlc Try.prog 51 = 0 ∧ tvStr Try.prog 51 = false ∧ tvMap Try.prog 51 = none ∧ tvLd Try.prog 51 = some (1, false) ∧ tvZero Try.prog 51 = .nilf ∧ tvNil Try.prog 51 = [] := by
  refine ⟨?_, ?_, ?_, ?_, ?_, ?_, ?_⟩ <;> kernel_rfl
theorem ty52 : Try.prog.cellsOf 52 = 1 ∧ tvSlc Try.prog 52 = 0 ∧ tvStr Try.prog 52 = false ∧ tvMap Try.prog 52 = none ∧ tvLd Try.prog 52 = some (1, false) ∧ tvZero Try.prog 52 = .nilf ∧ tvNil Try.prog 52 = [] := by
  refine ⟨?_, ?_, ?_, ?_, ?_, ?_, ?_⟩ <;> kernel_rfl
theorem ty53 : Try.prog.cellsOf 53 = 1 ∧ tvSlc Try.prog 53 = 0 ∧ tvStr Try.prog 53 = false ∧ tvMap Try.prog 53 = none ∧ tvLd Try.prog 53 = some (1, false) ∧ tvZero Try.prog 53 = .nilf ∧ tvNil Try.prog 53 = [] := by
  refine ⟨?_, ?_, ?_, ?_, ?_, ?_, ?_⟩ <;> kernel_rfl
theorem ty54 : Try.prog.cellsOf 54 = 1 ∧ tvSlc Try.prog 54 = 0 ∧ tvStr Try.prog 54 = false ∧ tvMap Try.prog 54 = none ∧ tvLd Try.prog 54 = some (1, false) ∧ tvZero Try.prog 54 = .nilf ∧ tvNil Try.prog 54 = [] := by
  refine ⟨?_, ?_, ?_, ?_, ?_, ?_, ?_⟩ <;> kernel_rfl
theorem ty55 : Try.prog.cellsOf 55 = 4 ∧ tvSlc Try.prog 55 = 0 ∧ tvStr Try.prog 55 = false ∧ tvMap Try.prog 55 = none ∧ tvLd Try.prog 55 = some (4, true) ∧ tvZero Try.prog 55 = .agg [.int .i64 0, .int .i64 0, .int .i64 0, .int .i64 0] ∧ tvFld Try.prog 55 0 = some (0, 1, 3) ∧ tvFld Try.prog 55 1 = some (1, 1, 3) ∧ tvFld Try.prog 55 2 = some (2, 1, 3) ∧ tvFld Try.prog 55 3 = some (3, 1, 3) ∧ tvArr Try.prog 55 = none ∧ tvBuild Try.prog 55 = true ∧ tvNil Try.prog 55 = [] := by
  refine ⟨?_, ?_, ?_, ?_, ?_, ?_, ?_, ?_, ?_, ?_, ?_, ?_, ?_⟩ <;> kernel_rfl
theorem ty56 : Try.prog.cellsOf 56 = 4 ∧ tvSlc Try.prog 56 = 0 ∧ tvStr Try.prog 56 = false ∧ tvMap Try.prog 56 = none ∧ tvLd Try.prog 56 = some (4, true) ∧ tvZero Try.prog 56 = .agg [.int .i64 0, .int .i64 0, .int .i64 0, .int .i64 0] ∧ tvFld Try.prog 56 0 = some (0, 1, 3) ∧ tvFld Try.prog 56 1 = some (1, 1, 3) ∧ tvFld Try.prog 56 2 = some (2, 1, 3) ∧ tvFld Try.prog 56 3 = some (3, 1, 3) ∧ tvArr Try.prog 56 = none ∧ tvBuild Try.prog 56 = true ∧ tvNil Try.prog 56 = [] := by
  refine ⟨?_, ?_, ?_, ?_, ?_, ?_, ?_, ?_, ?_, ?_, ?_, ?_, ?_⟩ <;> kernel_rfl
theorem ty57 : Try.prog.cellsOf 57 = 1 ∧ tvSlc Try.prog 57 = 3 ∧ tvElem Try.prog 57 = 59 ∧ tvStr Try.prog 57 = false ∧ tvMap Try.prog 57 = none ∧ tvLd Try.prog 57 = some (1, false) ∧ tvZero Try.prog 57 = .nils ∧ tvNil Try.prog 57 = [(0, 3)] := by
  refine ⟨?_, ?_, ?_, ?_, ?_, ?_, ?_, ?_⟩ <;> kernel_rfl
theorem ty58 : Try.prog.cellsOf 58 = 1 ∧ tvSlc Try.prog 58 = 0 ∧ tvStr Try.prog 58 = false ∧ tvMap Try.prog 58 = none ∧ tvInt Try.prog 58 = some .u16 ∧ tvLd Try.prog 58 = some (1, false) ∧ tvZero Try.prog 58 = .int .u16 0 ∧ tvNil Try.prog 58 = [] := by
  refine ⟨?_, ?_, ?_, ?_, ?_, ?_, ?_, ?_⟩ <;> kernel_rfl
theorem ty59 : Try.prog.cellsOf 59 = 3 ∧ tvSlc Try.prog 59 = 0 ∧ tvStr Try.prog 59 = false ∧ tvMap Try.prog 59 = none ∧ tvLd Try.prog 59 = some (3, true) ∧ tvZero Try.prog 59 = .agg [.int .u16 0, .int .u16 0, .int .u16 0] ∧ tvArr Try.prog 59 = some (3, 1) ∧ tvArrE Try.prog 59 = some (3, 58) ∧ tvBuild Try.prog 59 = true ∧ tvNil Try.prog 59 = [] := by
  refine ⟨?_, ?_, ?_, ?_, ?_, ?_, ?_, ?_, ?_, ?_⟩ <;> kernel_rfl
theorem ty60 : Try.prog.cellsOf 60 = 1 ∧ tvSlc Try.prog 60 = 0 ∧ tvStr Try.prog 60 = false ∧ tvMap Try.prog 60 = none ∧ tvLd Try.prog 60 = some (1, false) ∧ tvZero Try.prog 60 = .nilf ∧ tvNil Try.prog 60 = [] := by
  refine ⟨?_, ?_, ?_, ?_, ?_, ?_, ?_⟩ <;> kernel_rfl
theorem ty61 : Try.prog.cellsOf 61 = 1 ∧ tvSlc Try.prog 61 = 0 ∧ tvStr Try.prog 61 = false ∧ tvMap Try.prog 61 = none ∧ tvLd Try.prog 61 = some (1, false) ∧ tvZero Try.prog 61 = .nilf ∧ tvNil Try.prog 61 = [] := by
  refine ⟨?_, ?_, ?_, ?_, ?_, ?_, ?_⟩ <;> kernel_rfl
theorem ty62 : Try.prog.cellsOf 62 = 1 ∧ tvSlc Try.prog 62 = 0 ∧ tvStr Try.prog 62 = false ∧ tvMap Try.prog 62 = none ∧ tvLd Try.prog 62 = some (1, false) ∧ tvZero Try.prog 62 = .nilf ∧ tvNil Try.prog 62 = [] := by
  refine ⟨?_, ?_, ?_, ?_, ?_, ?_, ?_⟩ <;> kernel_rfl
theorem ty63 : Try.prog.cellsOf 63 = 1 ∧ tvSlc Try.prog 63 = 0 ∧ tvStr Try.prog 63 = false ∧ tvMap Try.prog 63 = none ∧ tvLd Try.prog 63 = some (1, false) ∧ tvZero Try.prog 63 = .nilf ∧ tvNil Try.prog 63 = [] := by
  refine ⟨?_, ?_, ?_, ?_, ?_, ?_, ?_⟩ <;> kernel_rfl
theorem ty64 : Try.prog.cellsOf 64 = 1 ∧ tvSlc Try.prog 64 = 0 ∧ tvStr Try.prog 64 = false ∧ tvMap Try.prog 64 = none ∧ tvInt Try.prog 64 = some .i64 ∧ tvLd Try.prog 64 = some (1, false) ∧ tvZero Try.prog 64 = .int .i64 0 ∧ tvNil Try.prog 64 = [] := by
  refine ⟨?_, ?_, ?_, ?_, ?_, ?_, ?_, ?_⟩ <;> kernel_rfl
theorem ty65 : Try.prog.cellsOf 65 = 1 ∧ tvSlc Try.prog 65 = 0 ∧ tvStr Try.prog 65 = false ∧ tvMap Try.prog 65 = none ∧ tvLd Try.prog 65 = some (1, false) ∧ tvZero Try.prog 65 = .nilf ∧ tvNil Try.prog 65 = [] := by
  refine ⟨?_, ?_, ?_, ?_, ?_, ?_, ?_⟩ <;> kernel_rfl
theorem ty66 : Try.prog.cellsOf 66 = 1 ∧ tvSlc Try.prog 66 = 0 ∧ tvStr Try.prog 66 = false ∧ tvMap Try.prog 66 = none ∧ tvLd Try.prog 66 = some (1, false) ∧ tvZero Try.prog 66 = .nilf ∧ tvNil Try.prog 66 = [] := by
  refine ⟨?_, ?_, ?_, ?_, ?_, ?_, ?_⟩ <;> kernel_rfl
theorem ty67 : Try.prog.cellsOf 67 = 1 ∧ tvSlc Try.prog 67 = 0 ∧ tvStr Try.prog 67 = false ∧ tvMap Try.prog 67 = none ∧ tvLd Try.prog 67 = some (1, false) ∧ tvZero Try.prog 67 = .nilf ∧ tvNil Try.prog 67 = [] := by
  refine ⟨?_, ?_, ?_, ?_, ?_, ?_, ?_⟩ <;> kernel_rfl
theorem ty68 : Try.prog.cellsOf 68 = 1 ∧ tvSlc Try.prog 68 = 0 ∧ tvStr Try.prog 68 = false ∧ tvMap Try.prog 68 = none ∧ tvLd Try.prog 68 = some (1, false) ∧ tvZero Try.prog 68 = .nilf ∧ tvNil Try.prog 68 = [] := by
  refine ⟨?_, ?_, ?_, ?_, ?_, ?_, ?_⟩ <;> kernel_rfl
theorem ty69 : Try.prog.cellsOf 69 = 1 ∧ tvSlc Try.prog 69 = 0 ∧ tvStr Try.prog 69 = false ∧ tvMap Try.prog 69 = none ∧ tvLd Try.prog 69 = some (1, false) ∧ tvZero Try.prog 69 = .nilf ∧ tvNil Try.prog 69 = [] := by
  refine ⟨?_, ?_, ?_, ?_, ?_, ?_, ?_⟩ <;> kernel_rfl
theorem ty70 : Try.prog.cellsOf 70 = 1 ∧ tvSlc Try.prog 70 = 0 ∧ tvStr Try.prog 70 = false ∧ tvMap Try.prog 70 = none ∧ tvLd Try.prog 70 = some (1, false) ∧ tvZero Try.prog 70 = .nilf ∧ tvNil Try.prog 70 = [] := by
  refine ⟨?_, ?_, ?_, ?_, ?_, ?_, ?_⟩ <;> kernel_rfl
theorem ty71 : Try.prog.cellsOf 71 = 1 ∧ tvSlc Try.prog 71 = 0 ∧ tvStr Try.prog 71 = false ∧ tvMap Try.prog 71 = some (.int .i64, .int .i64 0) ∧ tvLd Try.prog 71 = some (1, false) ∧ tvZero Try.prog 71 = .nilm ∧ tvNil Try.prog 71 = [] := by
  refine ⟨?_, ?_, ?_, ?_, ?_, ?_, ?_⟩ <;> kernel_rfl
theorem ty72 : Try.prog.cellsOf 72 = 1 ∧ tvSlc Try.prog 72 = 0 ∧ tvStr Try.prog 72 = false ∧ tvMap Try.prog 72 = none ∧ tvLd Try.prog 72 = some (1, false) ∧ tvZero Try.prog 72 = .nilf ∧ tvNil Try.prog 72 = [] := by
  refine ⟨?_, ?_, ?_, ?_, ?_, ?_, ?_⟩ <;> kernel_rfl
theorem ty74 : Try.prog.cellsOf 74 = 1 ∧ tvSlc Try.prog 74 = 0 ∧ tvStr Try.prog 74 = false ∧ tvMap Try.prog 74 = none ∧ tvLd Try.prog 74 = some (1, false) ∧ tvZero Try.prog 74 = .nilf ∧ tvNil Try.prog 74 = [] := by
  refine ⟨?_, ?_, ?_, ?_, ?_, ?_, ?_⟩ <;> kernel_rfl
theorem ty75 : Try.prog.cellsOf 75 = 1 ∧ tvSlc Try.prog 75 = 0 ∧ tvStr Try.prog 75 = false ∧ tvMap Try.prog 75 = none ∧ tvLd Try.prog 75 = some (1, false) ∧ tvZero Try.prog 75 = .nilf ∧ tvNil Try.prog 75 = [] := by
  refine ⟨?_, ?_, ?_, ?_, ?_, ?_, ?_⟩ <;> kernel_rfl
theorem ty76 : Try.prog.cellsOf 76 = 1 ∧ tvSlc Try.prog 76 = 0 ∧ tvStr Try.prog 76 = false ∧ tvMap Try.prog 76 = none ∧ tvLd Try.prog 76 = some (1, false) ∧ tvZero Try.prog 76 = .nilf ∧ tvNil Try.prog 76 = [] := by
  refine ⟨?_, ?_, ?_, ?_, ?_, ?_, ?_⟩ <;> kernel_rfl
theorem ty77 : Try.prog.cellsOf 77 = 2 ∧ tvSlc Try.prog 77 = 0 ∧ tvStr Try.prog 77 = false ∧ tvMap Try.prog 77 = none ∧ tvLd Try.prog 77 = some (2, true) ∧ tvZero Try.prog 77 = .agg [.int .i64 0, .int .i64 0] ∧ tvFld Try.prog 77 0 = some (0, 1, 3) ∧ tvFld Try.prog 77 1 = some (1, 1, 3) ∧ tvArr Try.prog 77 = none ∧ tvBuild Try.prog 77 = true ∧ tvNil Try.prog 77 = [] := by
  refine ⟨?_, ?_, ?_, ?_, ?_, ?_, ?_, ?_, ?_, ?_, ?_⟩ <;> kernel_rfl
theorem ty78 : Try.prog.cellsOf 78 = 2 ∧ tvSlc Try.prog 78 = 0 ∧ tvStr Try.prog 78 = false ∧ tvMap Try.prog 78 = none ∧ tvLd Try.prog 78 = some (2, true) ∧ tvZero Try.prog 78 = .agg [.int .i64 0, .int .i64 0] ∧ tvFld Try.prog 78 0 = some (0, 1, 3) ∧ tvFld Try.prog 78 1 = some (1, 1, 3) ∧ tvArr Try.prog 78 = none ∧ tvBuild Try.prog 78 = true ∧ tvNil Try.prog 78 = [] := by
  refine ⟨?_, ?_, ?_, ?_, ?_, ?_, ?_, ?_, ?_, ?_, ?_⟩ <;> kernel_rfl
theorem ty79 : Try.prog.cellsOf 79 = 1 ∧ tvSlc Try.prog 79 = 0 ∧ tvStr Try.prog 79 = false ∧ tvMap Try.prog 79 = none ∧ tvLd Try.prog 79 = some (1, false) ∧ tvZero Try.prog 79 = .nilf ∧ tvNil Try.prog 79 = [] := by
  refine ⟨?_, ?_, ?_, ?_, ?_, ?_, ?_⟩ <;> kernel_rfl
theorem ty80 : Try.prog.cellsOf 80 = 1 ∧ tvSlc Try.prog 80 = 0 ∧ tvStr Try.prog 80 = false ∧ tvMap Try.prog 80 = none ∧ tvLd Try.prog 80 = some (1, false) ∧ tvZero Try.prog 80 = .nilf ∧ tvNil Try.prog 80 = [] := by
  refine ⟨?_, ?_, ?_, ?_, ?_, ?_, ?_⟩ <;> kernel_rfl
theorem ty81 : Try.prog.cellsOf 81 = 1 ∧ tvSlc Try.prog 81 = 0 ∧ tvStr Try.prog 81 = false ∧ tvMap Try.prog 81 = none ∧ tvLd Try.prog 81 = some (1, false) ∧ tvZero Try.prog 81 = .nilf ∧ tvNil Try.prog 81 = [] := by
  refine ⟨?_, ?_, ?_, ?_, ?_, ?_, ?_⟩ <;> kernel_rfl
theorem ty82 : Try.prog.cellsOf 82 = 1 ∧ tvSlc Try.prog 82 = 0 ∧ tvStr Try.prog 82 = false ∧ tvMap Try.prog 82 = none ∧ tvLd Try.prog 82 = some (1, false) ∧ tvZero Try.prog 82 = .nilf ∧ tvNil Try.prog 82 = [] := by
  refine ⟨?_, ?_, ?_, ?_, ?_, ?_, ?_⟩ <;> kernel_rfl
theorem ty83 : Try.prog.cellsOf 83 = 1 ∧ tvSlc Try.prog 83 = 0 ∧ tvStr Try.prog 83 = false ∧ tvMap Try.prog 83 = none ∧ tvInt Try.prog 83 = some .u64 ∧ tvLd Try.prog 83 = some (1, false) ∧ tvZero Try.prog 83 = .int .u64 0 ∧ tvNil Try.prog 83 = [] := by
  refine ⟨?_, ?_, ?_, ?_, ?_, ?_, ?_, ?_⟩ <;> kernel_rfl
theorem ty85 : Try.prog.cellsOf 85 = 1 ∧ tvSlc Try.prog 85 = 0 ∧ tvStr Try.prog 85 = false ∧ tvMap Try.prog 85 = none ∧ tvLd Try.prog 85 = some (1, false) ∧ tvZero Try.prog 85 = .nilf ∧ tvNil Try.prog 85 = [] := by
  refine ⟨?_, ?_, ?_, ?_, ?_, ?_, ?_⟩ <;> kernel_rfl
theorem ty86 : Try.prog.cellsOf 86 = 1 ∧ tvSlc Try.prog 86 = 0 ∧ tvStr Try.prog 86 = false ∧ tvMap Try.prog 86 = none ∧ tvInt Try.prog 86 = some .u32 ∧ tvLd Try.prog 86 = some (1, false) ∧ tvZero Try.prog 86 = .int .u32 0 ∧ tvNil Try.prog 86 = [] := by
  refine ⟨?_, ?_, ?_, ?_, ?_, ?_, ?_, ?_⟩ <;> kernel_rfl
theorem ty88 : Try.prog.cellsOf 88 = 1 ∧ tvSlc Try.prog 88 = 0 ∧ tvStr Try.prog 88 = false ∧ tvMap Try.prog 88 = none ∧ tvLd Try.prog 88 = some (1, false) ∧ tvZero Try.prog 88 = .nilf ∧ tvNil Try.prog 88 = [] := by
  refine ⟨?_, ?_, ?_, ?_, ?_, ?_, ?_⟩ <;> kernel_rfl
theorem ty89 : Try.prog.cellsOf 89 = 1 ∧ tvSlc Try.prog 89 = 0 ∧ tvStr Try.prog 89 = false ∧ tvMap Try.prog 89 = none ∧ tvInt Try.prog 89 = some .u64 ∧ tvLd Try.prog 89 = some (1, false) ∧ tvZero Try.prog 89 = .int .u64 0 ∧ tvNil Try.prog 89 = [] := by
  refine ⟨?_, ?_, ?_, ?_, ?_, ?_, ?_, ?_⟩ <;> kernel_rfl
theorem ty91 : Try.prog.cellsOf 91 = 1 ∧ tvSlc Try.prog 91 = 0 ∧ tvStr Try.prog 91 = false ∧ tvMap Try.prog 91 = none ∧ tvLd Try.prog 91 = some (1, false) ∧ tvZero Try.prog 91 = .nilf ∧ tvNil Try.prog 91 = [] := by
  refine ⟨?_, ?_, ?_, ?_, ?_, ?_, ?_⟩ <;> kernel_rfl
theorem ty92 : Try.prog.cellsOf 92 = 1 ∧ tvSlc Try.prog 92 = 0 ∧ tvStr Try.prog 92 = false ∧ tvMap Try.prog 92 = none ∧ tvLd Try.prog 92 = some (1, false) ∧ tvZero Try.prog 92 = .nilf ∧ tvNil Try.prog 92 = [] := by
  refine ⟨?_, ?_, ?_, ?_, ?_, ?_, ?_⟩ <;> kernel_rfl
theorem ty93 : Try.prog.cellsOf 93 = 4 ∧ tvSlc Try.prog 93 = 0 ∧ tvStr Try.prog 93 = false ∧ tvMap Try.prog 93 = none ∧ tvLd Try.prog 93 = some (4, true) ∧ tvZero Try.prog 93 = .agg [.nilp, .nilp, .nilp, .str []] ∧ tvFld Try.prog 93 0 = some (0, 1, 17) ∧ tvFld Try.prog 93 1 = some (1, 1, 17) ∧ tvFld Try.prog 93 2 = some (2, 1, 17) ∧ tvFld Try.prog 93 3 = some (3, 1, 9) ∧ tvArr Try.prog 93 = none ∧ tvBuild Try.prog 93 = true ∧ tvNil Try.prog 93 = [] := by
  refine ⟨?_, ?_, ?_, ?_, ?_, ?_, ?_, ?_, ?_, ?_, ?_, ?_, ?_⟩ <;> kernel_rfl
theorem ty94 : Try.prog.cellsOf 94 = 4 ∧ tvSlc Try.prog 94 = 0 ∧ tvStr Try.prog 94 = false ∧ tvMap Try.prog 94 = none ∧ tvLd Try.prog 94 = some (4, true) ∧ tvZero Try.prog 94 = .agg [.nilp, .nilp, .nilp, .str []] ∧ tvFld Try.prog 94 0 = some (0, 1, 17) ∧ tvFld Try.prog 94 1 = some (1, 1, 17) ∧ tvFld Try.prog 94 2 = some (2, 1, 17) ∧ tvFld Try.prog 94 3 = some (3, 1, 9) ∧ tvArr Try.prog 94 = none ∧ tvBuild Try.prog 94 = true ∧ tvNil Try.prog 94 = [] := by
  refine ⟨?_, ?_, ?_, ?_, ?_, ?_, ?_, ?_, ?_, ?_, ?_, ?_, ?_⟩ <;> kernel_rfl
theorem ty95 : Try.prog.cellsOf 95 = 0 ∧ tvSlc Try.prog 95 = 0 ∧ tvStr Try.prog 95 = false ∧ tvMap Try.prog 95 = none ∧ tvZero Try.prog 95 = .agg [] ∧ tvArr Try.prog 95 = some (0, 1) ∧ tvArrE Try.prog 95 = some (0, 16) ∧ tvBuild Try.prog 95 = true ∧ tvNil Try.prog 95 = [] := by
  refine ⟨?_, ?_, ?_, ?_, ?_, ?_, ?_, ?_, ?_⟩ <;> kernel_rfl
theorem ty96 : Try.prog.cellsOf 96 = 0 ∧ tvSlc Try.prog 96 = 0 ∧ tvStr Try.prog 96 = false ∧ tvMap Try.prog 96 = none ∧ tvZero Try.prog 96 = .agg [] ∧ tvFld Try.prog 96 0 = some (0, 0, 95) ∧ tvArr Try.prog 96 = none ∧ tvBuild Try.prog 96 = true ∧ tvNil Try.prog 96 = [] := by
  refine ⟨?_, ?_, ?_, ?_, ?_, ?_, ?_, ?_, ?_⟩ <;> kernel_rfl
theorem ty97 : Try.prog.cellsOf 97 = 0 ∧ tvSlc Try.prog 97 = 0 ∧ tvStr Try.prog 97 = false ∧ tvMap Try.prog 97 = none ∧ tvZero Try.prog 97 = .agg [] ∧ tvFld Try.prog 97 0 = some (0, 0, 95) ∧ tvArr Try.prog 97 = none ∧ tvBuild Try.prog 97 = true ∧ tvNil Try.prog 97 = [] := by
  refine ⟨?_, ?_, ?_, ?_, ?_, ?_, ?_, ?_, ?_⟩ <;> kernel_rfl
theorem ty98 : Try.prog.cellsOf 98 = 1 ∧ tvSlc Try.prog 98 = 0 ∧ tvStr Try.prog 98 = false ∧ tvMap Try.prog 98 = none ∧ tvLd Try.prog 98 = some (1, false) ∧ tvZero Try.prog 98 = .nilf ∧ tvNil Try.prog 98 = [] := by
  refine ⟨?_, ?_, ?_, ?_, ?_, ?_, ?_⟩ <;> kernel_rfl
theorem ty99 : Try.prog.cellsOf 99 = 1 ∧ tvSlc Try.prog 99 = 0 ∧ tvStr Try.prog 99 = false ∧ tvMap Try.prog 99 = none ∧ tvInt Try.prog 99 = some .u8 ∧ tvLd Try.prog 99 = some (1, false) ∧ tvZero Try.prog 99 = .int .u8 0 ∧ tvNil Try.prog 99 = [] := by
  refine ⟨?_, ?_, ?_, ?_, ?_, ?_, ?_, ?_⟩ <;> kernel_rfl
theorem ty100 : Try.prog.cellsOf 100 = 1 ∧ tvSlc Try.prog 100 = 0 ∧ tvStr Try.prog 100 = false ∧ tvMap Try.prog 100 = none ∧ tvInt Try.prog 100 = some .u8 ∧ tvLd Try.prog 100 = some (1, false) ∧ tvZero Try.prog 100 = .int .u8 0 ∧ tvNil Try.prog 100 = [] := by
  refine ⟨?_, ?_, ?_, ?_, ?_, ?_, ?_, ?_⟩ <;> kernel_rfl
theorem ty101 : Try.prog.cellsOf 101 = 1 ∧ tvSlc Try.prog 101 = 0 ∧ tvStr Try.prog 101 = false ∧ tvMap Try.prog 101 = none ∧ tvLd Try.prog 101 = some (1, false) ∧ tvZero Try.prog 101 = .nilf ∧ tvNil Try.prog 101 = [] := by
  refine ⟨?_, ?_, ?_, ?_, ?_, ?_, ?_⟩ <;> kernel_rfl
theorem ty102 : Try.prog.cellsOf 102 = 1 ∧ tvSlc Try.prog 102 = 0 ∧ tvStr Try.prog 102 = false ∧ tvMap Try.prog 102 = none ∧ tvLd Try.prog 102 = some (1, false) ∧ tvZero Try.prog 102 = .nilp ∧ tvNil Try.prog 102 = [] := by
  refine ⟨?_, ?_, ?_, ?_, ?_, ?_, ?_⟩ <;> kernel_rfl
theorem ty103 : Try.prog.cellsOf 103 = 1 ∧ tvSlc Try.prog 103 = 0 ∧ tvStr Try.prog 103 = false ∧ tvMap Try.prog 103 = none ∧ tvInt Try.prog 103 = some .i32 ∧ tvLd Try.prog 103 = some (1, false) ∧ tvZero Try.prog 103 = .int .i32 0 ∧ tvNil Try.prog 103 = [] := by
  refine ⟨?_, ?_, ?_, ?_, ?_, ?_, ?_, ?_⟩ <;> kernel_rfl
theorem ty104 : Try.prog.cellsOf 104 = 1 ∧ tvSlc Try.prog 104 = 0 ∧ tvStr Try.prog 104 = false ∧ tvMap Try.prog 104 = none ∧ tvInt Try.prog 104 = some .i32 ∧ tvLd Try.prog 104 = some (1, false) ∧ tvZero Try.prog 104 = .int .i32 0 ∧ tvNil Try.prog 104 = [] := by
  refine ⟨?_, ?_, ?_, ?_, ?_, ?_, ?_, ?_⟩ <;> kernel_rfl
theorem ty105 : Try.prog.cellsOf 105 = 11 ∧ tvSlc Try.prog 105 = 0 ∧ tvStr Try.prog 105 = false ∧ tvMap Try.prog 105 = none ∧ tvLd Try.prog 105 = some (11, true) ∧ tvZero Try.prog 105 = .agg [.int .u64 0, .int .u64 0, .int .u32 0, .int .u8 0, .int .u8 0, .int .u8 0, .int .u8 0, .nilf, .nilp, .int .i32 0, .int .i32 0] ∧ tvFld Try.prog 105 0 = some (0, 1, 12) ∧ tvFld Try.prog 105 1 = some (1, 1, 12) ∧ tvFld Try.prog 105 2 = some (2, 1, 86) ∧ tvFld Try.prog 105 3 = some (3, 1, 99) ∧ tvFld Try.prog 105 4 = some (4, 1, 5) ∧ tvFld Try.prog 105 5 = some (5, 1, 5) ∧ tvFld Try.prog 105 6 = some (6, 1, 100) ∧ tvFld Try.prog 105 7 = some (7, 1, 101) ∧ tvFld Try.prog 105 8 = some (8, 1, 102) ∧ tvFld Try.prog 105 9 = some (9, 1, 103) ∧ tvFld Try.prog 105 10 = some (10, 1, 104) ∧ tvArr Try.prog 105 = none ∧ tvBuild Try.prog 105 = true ∧ tvNil Try.prog 105 = [] := by
  refine ⟨?_, ?_, ?_, ?_, ?_, ?_, ?_, ?_, ?_, ?_, ?_, ?_, ?_, ?_, ?_, ?_, ?_, ?_, ?_, ?_⟩ <;> kernel_rfl
theorem ty106 : Try.prog.cellsOf 106 = 11 ∧ tvSlc Try.prog 106 = 0 ∧ tvStr Try.prog 106 = false ∧ tvMap Try.prog 106 = none ∧ tvLd Try.prog 106 = some (11, true) ∧ tvZero Try.prog 106 = .agg [.int .u64 0, .int .u64 0, .int .u32 0, .int .u8 0, .int .u8 0, .int .u8 0, .int .u8 0, .nilf, .nilp, .int .i32 0, .int .i32 0] ∧ tvFld Try.prog 106 0 = some (0, 1, 12) ∧ tvFld Try.prog 106 1 = some (1, 1, 12) ∧ tvFld Try.prog 106 2 = some (2, 1, 86) ∧ tvFld Try.prog 106 3 = some (3, 1, 99) ∧ tvFld Try.prog 106 4 = some (4, 1, 5) ∧ tvFld Try.prog 106 5 = some (5, 1, 5) ∧ tvFld Try.prog 106 6 = some (6, 1, 100) ∧ tvFld Try.prog 106 7 = some (7, 1, 101) ∧ tvFld Try.prog 106 8 = some (8, 1, 102) ∧ tvFld Try.prog 106 9 = some (9, 1, 103) ∧ tvFld Try.prog 106 10 = some (10, 1, 104) ∧ tvArr Try.prog 106 = none ∧ tvBuild Try.prog 106 = true ∧ tvNil Try.prog 106 = [] := by
  refine ⟨?_, ?_, ?_, ?_, ?_, ?_, ?_, ?_, ?_, ?_, ?_, ?_, ?_, ?_, ?_, ?_, ?_, ?_, ?_, ?_⟩ <;> kernel_rfl
theorem ty107 : Try.prog.cellsOf 107 = 1 ∧ tvSlc Try.prog 107 = 0 ∧ tvStr Try.prog 107 = false ∧ tvMap Try.prog 107 = none ∧ tvLd Try.prog 107 = some (1, false) ∧ tvNil Try.prog 107 = [] := by
  refine ⟨?_, ?_, ?_, ?_, ?_, ?_⟩ <;> kernel_rfl
end Sim
