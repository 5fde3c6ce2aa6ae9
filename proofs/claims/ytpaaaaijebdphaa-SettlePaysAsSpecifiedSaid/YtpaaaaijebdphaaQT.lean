/- What functions of this seat compute, by values: contracts (lemmas of the statement's proof, under the conditions that each names). -/
import Derived.Test.YtpaaaaijebdphaaSimU
import Derived.Test.YtpaaaaijebdphaaProg
import Derived.KernelRfl
namespace Sim
open Go Go.Proofs
theorem ty1 : Try.prog.cellsOf 1 = 1 ∧ tvSlc Try.prog 1 = 0 ∧ tvStr Try.prog 1 = false ∧ tvMap Try.prog 1 = none ∧ tvLd Try.prog 1 = some (1, false) ∧ tvZero Try.prog 1 = .nilf ∧ tvNil Try.prog 1 = [] := by
  refine ⟨?_, ?_, ?_, ?_, ?_, ?_, ?_⟩ <;> kernel_rfl
theorem ty2 : Try.prog.cellsOf 2 = 1 ∧ tvSlc Try.prog 2 = 0 ∧ tvStr Try.prog 2 = false ∧ tvMap Try.prog 2 = none ∧ tvInt Try.prog 2 = some .i64 ∧ tvLd Try.prog 2 = some (1, false) ∧ tvZero Try.prog 2 = .int .i64 0 ∧ tvNil Try.prog 2 = [] := by
  refine ⟨?_, ?_, ?_, ?_, ?_, ?_, ?_, ?_⟩ <;> kernel_rfl
theorem ty3 : Try.prog.cellsOf 3 = 1 ∧ tvSlc Try.prog 3 = 0 ∧ tvStr Try.prog 3 = false ∧ tvMap Try.prog 3 = none ∧ tvInt Try.prog 3 = some .i64 ∧ tvLd Try.prog 3 = some (1, false) ∧ tvZero Try.prog 3 = .int .i64 0 ∧ tvNil Try.prog 3 = [] := by
  refine ⟨?_, ?_, ?_, ?_, ?_, ?_, ?_, ?_⟩ <;> kernel_rfl
theorem ty4 : Try.prog.cellsOf 4 = 1 ∧ tvSlc Try.prog 4 = 0 ∧ tvStr Try.prog 4 = false ∧ tvMap Try.prog 4 = none ∧ tvBool Try.prog 4 = true ∧ tvLd Try.prog 4 = some (1, false) ∧ tvZero Try.prog 4 = .bool false ∧ tvNil Try.prog 4 = [] := by
  refine ⟨?_, ?_, ?_, ?_, ?_, ?_, ?_, ?_⟩ <;> kernel_rfl
theorem ty5 : Try.prog.cellsOf 5 = 1 ∧ tvSlc Try.prog 5 = 0 ∧ tvStr Try.prog 5 = false ∧ tvMap Try.prog 5 = none ∧ tvInt Try.prog 5 = some .u8 ∧ tvLd Try.prog 5 = some (1, false) ∧ tvZero Try.prog 5 = .int .u8 0 ∧ tvNil Try.prog 5 = [] := by
  refine ⟨?_, ?_, ?_, ?_, ?_, ?_, ?_, ?_⟩ <;> kernel_rfl
theorem ty6 : Try.prog.cellsOf 6 = 1 ∧ tvSlc Try.prog 6 = 0 ∧ tvStr Try.prog 6 = false ∧ tvMap Try.prog 6 = none ∧ tvInt Try.prog 6 = some .u8 ∧ tvLd Try.prog 6 = some (1, false) ∧ tvZero Try.prog 6 = .int .u8 0 ∧ tvNil Try.prog 6 = [] := by
  refine ⟨?_, ?_, ?_, ?_, ?_, ?_, ?_, ?_⟩ <;> kernel_rfl
theorem ty7 : Try.prog.cellsOf 7 = 4 ∧ tvSlc Try.prog 7 = 0 ∧ tvStr Try.prog 7 = false ∧ tvMap Try.prog 7 = none ∧ tvLd Try.prog 7 = some (4, true) ∧ tvZero Try.prog 7 = .agg [.int .i64 0, .int .i64 0, .bool false, .int .u8 0] ∧ tvFld Try.prog 7 0 = some (0, 1, 2) ∧ tvFld Try.prog 7 1 = some (1, 1, 3) ∧ tvFld Try.prog 7 2 = some (2, 1, 4) ∧ tvFld Try.prog 7 3 = some (3, 1, 6) ∧ tvArr Try.prog 7 = none ∧ tvBuild Try.prog 7 = true ∧ tvNil Try.prog 7 = [] := by
  refine ⟨?_, ?_, ?_, ?_, ?_, ?_, ?_, ?_, ?_, ?_, ?_, ?_, ?_⟩ <;> kernel_rfl
theorem ty8 : Try.prog.cellsOf 8 = 4 ∧ tvSlc Try.prog 8 = 0 ∧ tvStr Try.prog 8 = false ∧ tvMap Try.prog 8 = none ∧ tvLd Try.prog 8 = some (4, true) ∧ tvZero Try.prog 8 = .agg [.int .i64 0, .int .i64 0, .bool false, .int .u8 0] ∧ tvFld Try.prog 8 0 = some (0, 1, 2) ∧ tvFld Try.prog 8 1 = some (1, 1, 3) ∧ tvFld Try.prog 8 2 = some (2, 1, 4) ∧ tvFld Try.prog 8 3 = some (3, 1, 6) ∧ tvArr Try.prog 8 = none ∧ tvBuild Try.prog 8 = true ∧ tvNil Try.prog 8 = [] := by
  refine ⟨?_, ?_, ?_, ?_, ?_, ?_, ?_, ?_, ?_, ?_, ?_, ?_, ?_⟩ <;> kernel_rfl
theorem ty9 : Try.prog.cellsOf 9 = 1 ∧ tvSlc Try.prog 9 = 0 ∧ tvStr Try.prog 9 = true ∧ tvMap Try.prog 9 = none ∧ tvLd Try.prog 9 = some (1, false) ∧ tvZero Try.prog 9 = .str [] ∧ tvNil Try.prog 9 = [] := by
  refine ⟨?_, ?_, ?_, ?_, ?_, ?_, ?_⟩ <;> kernel_rfl
theorem ty10 : Try.prog.cellsOf 10 = 1 ∧ tvSlc Try.prog 10 = 0 ∧ tvStr Try.prog 10 = true ∧ tvMap Try.prog 10 = none ∧ tvLd Try.prog 10 = some (1, false) ∧ tvZero Try.prog 10 = .str [] ∧ tvNil Try.prog 10 = [] := by
  refine ⟨?_, ?_, ?_, ?_, ?_, ?_, ?_⟩ <;> kernel_rfl
theorem ty11 : Try.prog.cellsOf 11 = 1 ∧ tvSlc Try.prog 11 = 0 ∧ tvStr Try.prog 11 = true ∧ tvMap Try.prog 11 = none ∧ tvLd Try.prog 11 = some (1, false) ∧ tvZero Try.prog 11 = .str [] ∧ tvNil Try.prog 11 = [] := by
  refine ⟨?_, ?_, ?_, ?_, ?_, ?_, ?_⟩ <;> kernel_rfl
theorem ty12 : Try.prog.cellsOf 12 = 1 ∧ tvSlc Try.prog 12 = 0 ∧ tvStr Try.prog 12 = false ∧ tvMap Try.prog 12 = none ∧ tvInt Try.prog 12 = some .u64 ∧ tvLd Try.prog 12 = some (1, false) ∧ tvZero Try.prog 12 = .int .u64 0 ∧ tvNil Try.prog 12 = [] := by
  refine ⟨?_, ?_, ?_, ?_, ?_, ?_, ?_, ?_⟩ <;> kernel_rfl
theorem ty13 : Try.prog.cellsOf 13 = 2 ∧ tvSlc Try.prog 13 = 0 ∧ tvStr Try.prog 13 = false ∧ tvMap Try.prog 13 = none ∧ tvLd Try.prog 13 = some (2, true) ∧ tvZero Try.prog 13 = .agg [.str [], .int .u64 0] ∧ tvFld Try.prog 13 0 = some (0, 1, 9) ∧ tvFld Try.prog 13 1 = some (1, 1, 12) ∧ tvArr Try.prog 13 = none ∧ tvBuild Try.prog 13 = true ∧ tvNil Try.prog 13 = [] := by
  refine ⟨?_, ?_, ?_, ?_, ?_, ?_, ?_, ?_, ?_, ?_, ?_⟩ <;> kernel_rfl
theorem ty14 : Try.prog.cellsOf 14 = 2 ∧ tvSlc Try.prog 14 = 0 ∧ tvStr Try.prog 14 = false ∧ tvMap Try.prog 14 = none ∧ tvLd Try.prog 14 = some (2, true) ∧ tvZero Try.prog 14 = .agg [.str [], .int .u64 0] ∧ tvFld Try.prog 14 0 = some (0, 1, 9) ∧ tvFld Try.prog 14 1 = some (1, 1, 12) ∧ tvArr Try.prog 14 = none ∧ tvBuild Try.prog 14 = true ∧ tvNil Try.prog 14 = [] := by
  refine ⟨?_, ?_, ?_, ?_, ?_, ?_, ?_, ?_, ?_, ?_, ?_⟩ <;> kernel_rfl
theorem ty15 : Try.prog.cellsOf 15 = 1 ∧ tvSlc Try.prog 15 = 0 ∧ tvStr Try.prog 15 = false ∧ tvMap Try.prog 15 = none ∧ tvLd Try.prog 15 = some (1, false) ∧ tvZero Try.prog 15 = .nilp ∧ tvNil Try.prog 15 = [] := by
  refine ⟨?_, ?_, ?_, ?_, ?_, ?_, ?_⟩ <;> kernel_rfl
theorem ty16 : Try.prog.cellsOf 16 = 1 ∧ tvSlc Try.prog 16 = 0 ∧ tvStr Try.prog 16 = false ∧ tvMap Try.prog 16 = none ∧ tvLd Try.prog 16 = some (1, false) ∧ tvZero Try.prog 16 = .nilp ∧ tvNil Try.prog 16 = [] := by
  refine ⟨?_, ?_, ?_, ?_, ?_, ?_, ?_⟩ <;> kernel_rfl
theorem ty17 : Try.prog.cellsOf 17 = 1 ∧ tvSlc Try.prog 17 = 0 ∧ tvStr Try.prog 17 = false ∧ tvMap Try.prog 17 = none ∧ tvLd Try.prog 17 = some (1, false) ∧ tvZero Try.prog 17 = .nilp ∧ tvNil Try.prog 17 = [] := by
  refine ⟨?_, ?_, ?_, ?_, ?_, ?_, ?_⟩ <;> kernel_rfl
theorem ty18 : Try.prog.cellsOf 18 = 1 ∧ tvSlc Try.prog 18 = 0 ∧ tvStr Try.prog 18 = false ∧ tvMap Try.prog 18 = none ∧ tvLd Try.prog 18 = some (1, true) ∧ tvZero Try.prog 18 = .agg [.nilp] ∧ tvFld Try.prog 18 0 = some (0, 1, 17) ∧ tvArr Try.prog 18 = none ∧ tvBuild Try.prog 18 = true ∧ tvNil Try.prog 18 = [] := by
  refine ⟨?_, ?_, ?_, ?_, ?_, ?_, ?_, ?_, ?_, ?_⟩ <;> kernel_rfl
theorem ty19 : Try.prog.cellsOf 19 = 1 ∧ tvSlc Try.prog 19 = 0 ∧ tvStr Try.prog 19 = false ∧ tvMap Try.prog 19 = none ∧ tvLd Try.prog 19 = some (1, true) ∧ tvZero Try.prog 19 = .agg [.nilp] ∧ tvFld Try.prog 19 0 = some (0, 1, 17) ∧ tvArr Try.prog 19 = none ∧ tvBuild Try.prog 19 = true ∧ tvNil Try.prog 19 = [] := by
  refine ⟨?_, ?_, ?_, ?_, ?_, ?_, ?_, ?_, ?_, ?_⟩ <;> kernel_rfl
theorem ty20 : Try.prog.cellsOf 20 = 1 ∧ tvSlc Try.prog 20 = 0 ∧ tvStr Try.prog 20 = false ∧ tvMap Try.prog 20 = none ∧ tvLd Try.prog 20 = some (1, false) ∧ tvZero Try.prog 20 = .nili ∧ tvNil Try.prog 20 = [] := by
  refine ⟨?_, ?_, ?_, ?_, ?_, ?_, ?_⟩ <;> kernel_rfl
theorem ty21 : Try.prog.cellsOf 21 = 1 ∧ tvSlc Try.prog 21 = 0 ∧ tvStr Try.prog 21 = false ∧ tvMap Try.prog 21 = none ∧ tvInt Try.prog 21 = some .i32 ∧ tvLd Try.prog 21 = some (1, false) ∧ tvZero Try.prog 21 = .int .i32 0 ∧ tvNil Try.prog 21 = [] := by
  refine ⟨?_, ?_, ?_, ?_, ?_, ?_, ?_, ?_⟩ <;> kernel_rfl
theorem ty22 : Try.prog.cellsOf 22 = 1 ∧ tvSlc Try.prog 22 = 6 ∧ tvElem Try.prog 22 = 61 ∧ tvStr Try.prog 22 = false ∧ tvMap Try.prog 22 = none ∧ tvLd Try.prog 22 = some (1, false) ∧ tvZero Try.prog 22 = .nils ∧ tvNil Try.prog 22 = [(0, 6)] := by
  refine ⟨?_, ?_, ?_, ?_, ?_, ?_, ?_, ?_⟩ <;> kernel_rfl
theorem ty23 : Try.prog.cellsOf 23 = 1 ∧ tvSlc Try.prog 23 = 1 ∧ tvElem Try.prog 23 = 22 ∧ tvStr Try.prog 23 = false ∧ tvMap Try.prog 23 = none ∧ tvLd Try.prog 23 = some (1, false) ∧ tvZero Try.prog 23 = .nils ∧ tvNil Try.prog 23 = [(0, 1)] := by
  refine ⟨?_, ?_, ?_, ?_, ?_, ?_, ?_, ?_⟩ <;> kernel_rfl
theorem ty24 : Try.prog.cellsOf 24 = 1 ∧ tvSlc Try.prog 24 = 0 ∧ tvStr Try.prog 24 = false ∧ tvMap Try.prog 24 = none ∧ tvLd Try.prog 24 = some (1, false) ∧ tvZero Try.prog 24 = .nilf ∧ tvNil Try.prog 24 = [] := by
  refine ⟨?_, ?_, ?_, ?_, ?_, ?_, ?_⟩ <;> kernel_rfl
theorem ty25 : Try.prog.cellsOf 25 = 1 ∧ tvSlc Try.prog 25 = 5 ∧ tvElem Try.prog 25 = 64 ∧ tvStr Try.prog 25 = false ∧ tvMap Try.prog 25 = none ∧ tvLd Try.prog 25 = some (1, false) ∧ tvZero Try.prog 25 = .nils ∧ tvNil Try.prog 25 = [(0, 5)] := by
  refine ⟨?_, ?_, ?_, ?_, ?_, ?_, ?_, ?_⟩ <;> kernel_rfl
theorem ty26 : Try.prog.cellsOf 26 = 1 ∧ tvSlc Try.prog 26 = 0 ∧ tvStr Try.prog 26 = false ∧ tvMap Try.prog 26 = none ∧ tvInt Try.prog 26 = some .i64 ∧ tvLd Try.prog 26 = some (1, false) ∧ tvZero Try.prog 26 = .int .i64 0 ∧ tvNil Try.prog 26 = [] := by
  refine ⟨?_, ?_, ?_, ?_, ?_, ?_, ?_, ?_⟩ <;> kernel_rfl
theorem ty28 : Try.prog.cellsOf 28 = 1 ∧ tvSlc Try.prog 28 = 0 ∧ tvStr Try.prog 28 = false ∧ tvMap Try.prog 28 = none ∧ tvLd Try.prog 28 = some (1, false) ∧ tvZero Try.prog 28 = .nilf ∧ tvNil Try.prog 28 = [] := by
  refine ⟨?_, ?_, ?_, ?_, ?_, ?_, ?_⟩ <;> kernel_rfl
theorem ty29 : Try.prog.cellsOf 29 = 2 ∧ tvSlc Try.prog 29 = 0 ∧ tvStr Try.prog 29 = false ∧ tvMap Try.prog 29 = none ∧ tvLd Try.prog 29 = some (2, true) ∧ tvZero Try.prog 29 = .agg [.nils, .int .i64 0] ∧ tvFld Try.prog 29 0 = some (0, 1, 25) ∧ tvFld Try.prog 29 1 = some (1, 1, 26) ∧ tvArr Try.prog 29 = none ∧ tvBuild Try.prog 29 = true ∧ tvNil Try.prog 29 = [(0, 5)] := by
  refine ⟨?_, ?_, ?_, ?_, ?_, ?_, ?_, ?_, ?_, ?_, ?_⟩ <;> kernel_rfl
theorem ty30 : Try.prog.cellsOf 30 = 2 ∧ tvSlc Try.prog 30 = 0 ∧ tvStr Try.prog 30 = false ∧ tvMap Try.prog 30 = none ∧ tvLd Try.prog 30 = some (2, true) ∧ tvZero Try.prog 30 = .agg [.nils, .int .i64 0] ∧ tvFld Try.prog 30 0 = some (0, 1, 25) ∧ tvFld Try.prog 30 1 = some (1, 1, 26) ∧ tvArr Try.prog 30 = none ∧ tvBuild Try.prog 30 = true ∧ tvNil Try.prog 30 = [(0, 5)] := by
  refine ⟨?_, ?_, ?_, ?_, ?_, ?_, ?_, ?_, ?_, ?_, ?_⟩ <;> kernel_rfl
theorem ty31 : Try.prog.cellsOf 31 = 1 ∧ tvSlc Try.prog 31 = 0 ∧ tvStr Try.prog 31 = false ∧ tvMap Try.prog 31 = none ∧ tvLd Try.prog 31 = some (1, false) ∧ tvZero Try.prog 31 = .nilf ∧ tvNil Try.prog 31 = [] := by
  refine ⟨?_, ?_, ?_, ?_, ?_, ?_, ?_⟩ <;> kernel_rfl
theorem ty32 : Try.prog.cellsOf 32 = 1 ∧ tvSlc Try.prog 32 = 0 ∧ tvStr Try.prog 32 = false ∧ tvMap Try.prog 32 = none ∧ tvLd Try.prog 32 = some (1, false) ∧ tvZero Try.prog 32 = .nilf ∧ tvNil Try.prog 32 = [] := by
  refine ⟨?_, ?_, ?_, ?_, ?_, ?_, ?_⟩ <;> kernel_rfl
theorem ty33 : Try.prog.cellsOf 33 = 1 ∧ tvSlc Try.prog 33 = 0 ∧ tvStr Try.prog 33 = false ∧ tvMap Try.prog 33 = none ∧ tvLd Try.prog 33 = some (1, false) ∧ tvZero Try.prog 33 = .nilf ∧ tvNil Try.prog 33 = [] := by
  refine ⟨?_, ?_, ?_, ?_, ?_, ?_, ?_⟩ <;> kernel_rfl
theorem ty34 : Try.prog.cellsOf 34 = 1 ∧ tvSlc Try.prog 34 = 1 ∧ tvElem Try.prog 34 = 3 ∧ tvStr Try.prog 34 = false ∧ tvMap Try.prog 34 = none ∧ tvLd Try.prog 34 = some (1, false) ∧ tvZero Try.prog 34 = .nils ∧ tvNil Try.prog 34 = [(0, 1)] := by
  refine ⟨?_, ?_, ?_, ?_, ?_, ?_, ?_, ?_⟩ <;> kernel_rfl
theorem ty35 : Try.prog.cellsOf 35 = 1 ∧ tvSlc Try.prog 35 = 3 ∧ tvElem Try.prog 35 = 68 ∧ tvStr Try.prog 35 = false ∧ tvMap Try.prog 35 = none ∧ tvLd Try.prog 35 = some (1, false) ∧ tvZero Try.prog 35 = .nils ∧ tvNil Try.prog 35 = [(0, 3)] := by
  refine ⟨?_, ?_, ?_, ?_, ?_, ?_, ?_, ?_⟩ <;> kernel_rfl
theorem ty37 : Try.prog.cellsOf 37 = 1 ∧ tvSlc Try.prog 37 = 0 ∧ tvStr Try.prog 37 = false ∧ tvMap Try.prog 37 = none ∧ tvLd Try.prog 37 = some (1, false) ∧ tvZero Try.prog 37 = .nilf ∧ tvNil Try.prog 37 = [] := by
  refine ⟨?_, ?_, ?_, ?_, ?_, ?_, ?_⟩ <;> kernel_rfl
theorem ty38 : Try.prog.cellsOf 38 = 2 ∧ tvSlc Try.prog 38 = 0 ∧ tvStr Try.prog 38 = false ∧ tvMap Try.prog 38 = none ∧ tvLd Try.prog 38 = some (2, true) ∧ tvZero Try.prog 38 = .agg [.int .i64 0, .int .i64 0] ∧ tvFld Try.prog 38 0 = some (0, 1, 3) ∧ tvFld Try.prog 38 1 = some (1, 1, 26) ∧ tvArr Try.prog 38 = none ∧ tvBuild Try.prog 38 = true ∧ tvNil Try.prog 38 = [] := by
  refine ⟨?_, ?_, ?_, ?_, ?_, ?_, ?_, ?_, ?_, ?_, ?_⟩ <;> kernel_rfl
theorem ty39 : Try.prog.cellsOf 39 = 2 ∧ tvSlc Try.prog 39 = 0 ∧ tvStr Try.prog 39 = false ∧ tvMap Try.prog 39 = none ∧ tvLd Try.prog 39 = some (2, true) ∧ tvZero Try.prog 39 = .agg [.int .i64 0, .int .i64 0] ∧ tvFld Try.prog 39 0 = some (0, 1, 3) ∧ tvFld Try.prog 39 1 = some (1, 1, 26) ∧ tvArr Try.prog 39 = none ∧ tvBuild Try.prog 39 = true ∧ tvNil Try.prog 39 = [] := by
  refine ⟨?_, ?_, ?_, ?_, ?_, ?_, ?_, ?_, ?_, ?_, ?_⟩ <;> kernel_rfl
theorem ty40 : Try.prog.cellsOf 40 = 1 ∧ tvSlc Try.prog 40 = 0 ∧ tvStr Try.prog 40 = false ∧ tvMap Try.prog 40 = none ∧ tvLd Try.prog 40 = some (1, false) ∧ tvZero Try.prog 40 = .nilf ∧ tvNil Try.prog 40 = [] := by
  refine ⟨?_, ?_, ?_, ?_, ?_, ?_, ?_⟩ <;> kernel_rfl
theorem ty42 : Try.prog.cellsOf 42 = 1 ∧ tvSlc Try.prog 42 = 0 ∧ tvStr Try.prog 42 = false ∧ tvMap Try.prog 42 = none ∧ tvLd Try.prog 42 = some (1, false) ∧ tvZero Try.prog 42 = .nilf ∧ tvNil Try.prog 42 = [] := by
  refine ⟨?_, ?_, ?_, ?_, ?_, ?_, ?_⟩ <;> kernel_rfl
theorem ty43 : Try.prog.cellsOf 43 = 1 ∧ tvSlc Try.prog 43 = 0 ∧ tvStr Try.prog 43 = false ∧ tvMap Try.prog 43 = none ∧ tvLd Try.prog 43 = some (1, false) ∧ tvZero Try.prog 43 = .nilf ∧ tvNil Try.prog 43 = [] := by
  refine ⟨?_, ?_, ?_, ?_, ?_, ?_, ?_⟩ <;> kernel_rfl
theorem ty44 : Try.prog.cellsOf 44 = 2 ∧ tvSlc Try.prog 44 = 0 ∧ tvStr Try.prog 44 = false ∧ tvMap Try.prog 44 = none ∧ tvLd Try.prog 44 = some (2, true) ∧ tvZero Try.prog 44 = .agg [.int .i64 0, .nils] ∧ tvFld Try.prog 44 0 = some (0, 1, 3) ∧ tvFld Try.prog 44 1 = some (1, 1, 22) ∧ tvArr Try.prog 44 = none ∧ tvBuild Try.prog 44 = true ∧ tvNil Try.prog 44 = [(1, 6)] := by
  refine ⟨?_, ?_, ?_, ?_, ?_, ?_, ?_, ?_, ?_, ?_, ?_⟩ <;> kernel_rfl
theorem ty45 : Try.prog.cellsOf 45 = 2 ∧ tvSlc Try.prog 45 = 0 ∧ tvStr Try.prog 45 = false ∧ tvMap Try.prog 45 = none ∧ tvLd Try.prog 45 = some (2, true) ∧ tvZero Try.prog 45 = .agg [.int .i64 0, .nils] ∧ tvFld Try.prog 45 0 = some (0, 1, 3) ∧ tvFld Try.prog 45 1 = some (1, 1, 22) ∧ tvArr Try.prog 45 = none ∧ tvBuild Try.prog 45 = true ∧ tvNil Try.prog 45 = [(1, 6)] := by
  refine ⟨?_, ?_, ?_, ?_, ?_, ?_, ?_, ?_, ?_, ?_, ?_⟩ <;> kernel_rfl
theorem ty47 : Try.prog.cellsOf 47 = 1 ∧ tvSlc Try.prog 47 = 0 ∧ tvStr Try.prog 47 = false ∧ tvMap Try.prog 47 = none ∧ tvLd Try.prog 47 = some (1, false) ∧ tvZero Try.prog 47 = .nilf ∧ tvNil Try.prog 47 = [] := by
  refine ⟨?_, ?_, ?_, ?_, ?_, ?_, ?_⟩ <;> kernel_rfl
theorem ty48 : Try.prog.cellsOf 48 = 2 ∧ tvSlc Try.prog 48 = 0 ∧ tvStr Try.prog 48 = false ∧ tvMap Try.prog 48 = none ∧ tvLd Try.prog 48 = some (2, true) ∧ tvZero Try.prog 48 = .agg [.nils, .int .i64 0] ∧ tvFld Try.prog 48 0 = some (0, 1, 34) ∧ tvFld Try.prog 48 1 = some (1, 1, 26) ∧ tvArr Try.prog 48 = none ∧ tvBuild Try.prog 48 = true ∧ tvNil Try.prog 48 = [(0, 1)] := by
  refine ⟨?_, ?_, ?_, ?_, ?_, ?_, ?_, ?_, ?_, ?_, ?_⟩ <;> kernel_rfl
theorem ty49 : Try.prog.cellsOf 49 = 2 ∧ tvSlc Try.prog 49 = 0 ∧ tvStr Try.prog 49 = false ∧ tvMap Try.prog 49 = none ∧ tvLd Try.prog 49 = some (2, true) ∧ tvZero Try.prog 49 = .agg [.nils, .int .i64 0] ∧ tvFld Try.prog 49 0 = some (0, 1, 34) ∧ tvFld Try.prog 49 1 = some (1, 1, 26) ∧ tvArr Try.prog 49 = none ∧ tvBuild Try.prog 49 = true ∧ tvNil Try.prog 49 = [(0, 1)] := by
  refine ⟨?_, ?_, ?_, ?_, ?_, ?_, ?_, ?_, ?_, ?_, ?_⟩ <;> kernel_rfl
theorem ty50 : Try.prog.cellsOf 50 = 1 ∧ tvSlc Try.prog 50 = 0 ∧ tvStr Try.prog 50 = false ∧ tvMap Try.prog 50 = none ∧ tvLd Try.prog 50 = some (1, false) ∧ tvZero Try.prog 50 = .nilf ∧ tvNil Try.prog 50 = [] := by
  refine ⟨?_, ?_, ?_, ?_, ?_, ?_, ?_⟩ <;> kernel_rfl
theorem ty52 : Try.prog.cellsOf 52 = 1 ∧ tvSlc Try.prog 52 = 0 ∧ tvStr Try.prog 52 = false ∧ tvMap Try.prog 52 = none ∧ tvLd Try.prog 52 = some (1, false) ∧ tvZero Try.prog 52 = .nilf ∧ tvNil Try.prog 52 = [] := by
  refine ⟨?_, ?_, ?_, ?_, ?_, ?_, ?_⟩ <;> kernel_rfl
theorem ty53 : Try.prog.cellsOf 53 = 3 ∧ tvSlc Try.prog 53 = 0 ∧ tvStr Try.prog 53 = false ∧ tvMap Try.prog 53 = none ∧ tvLd Try.prog 53 = some (3, true) ∧ tvZero Try.prog 53 = .agg [.int .i64 0, .nils, .int .i64 0] ∧ tvFld Try.prog 53 0 = some (0, 2, 45) ∧ tvFld Try.prog 53 1 = some (2, 1, 26) ∧ tvArr Try.prog 53 = none ∧ tvBuild Try.prog 53 = true ∧ tvNil Try.prog 53 = [(1, 6)] := by
  refine ⟨?_, ?_, ?_, ?_, ?_, ?_, ?_, ?_, ?_, ?_, ?_⟩ <;> kernel_rfl
theorem ty54 : Try.prog.cellsOf 54 = 3 ∧ tvSlc Try.prog 54 = 0 ∧ tvStr Try.prog 54 = false ∧ tvMap Try.prog 54 = none ∧ tvLd Try.prog 54 = some (3, true) ∧ tvZero Try.prog 54 = .agg [.int .i64 0, .nils, .int .i64 0] ∧ tvFld Try.prog 54 0 = some (0, 2, 45) ∧ tvFld Try.prog 54 1 = some (2, 1, 26) ∧ tvArr Try.prog 54 = none ∧ tvBuild Try.prog 54 = true ∧ tvNil Try.prog 54 = [(1, 6)] := by
  refine ⟨?_, ?_, ?_, ?_, ?_, ?_, ?_, ?_, ?_, ?_, ?_⟩ <;> kernel_rfl
theorem ty55 : Try.prog.cellsOf 55 = 1 ∧ tvSlc Try.prog 55 = 0 ∧ tvStr Try.prog 55 = false ∧ tvMap Try.prog 55 = none ∧ tvLd Try.prog 55 = some (1, false) ∧ tvZero Try.prog 55 = .nilf ∧ tvNil Try.prog 55 = [] := by
  refine ⟨?_, ?_, ?_, ?_, ?_, ?_, ?_⟩ <;> kernel_rfl
theorem ty56 : Try.prog.cellsOf 56 = 1 ∧ tvSlc Try.prog 56 = 0 ∧ tvStr Try.prog 56 = false ∧ tvMap Try.prog 56 = none ∧ tvLd Try.prog 56 = some (1, false) ∧ tvZero Try.prog 56 = .nilf ∧ tvNil Try.prog 56 = [] := by
  refine ⟨?_, ?_, ?_, ?_, ?_, ?_, ?_⟩ <;> kernel_rfl
theorem ty57 : Try.prog.cellsOf 57 = 1 ∧ tvSlc Try.prog 57 = 0 ∧ tvStr Try.prog 57 = false ∧ tvMap Try.prog 57 = none ∧ tvLd Try.prog 57 = some (1, false) ∧ tvZero Try.prog 57 = .nilf ∧ tvNil Try.prog 57 = [] := by
  refine ⟨?_, ?_, ?_, ?_, ?_, ?_, ?_⟩ <;> kernel_rfl
theorem ty58 : Try.prog.cellsOf 58 = 1 ∧ tvSlc Try.prog 58 = 0 ∧ tvStr Try.prog 58 = false ∧ tvMap Try.prog 58 = none ∧ tvLd Try.prog 58 = some (1, false) ∧ tvZero Try.prog 58 = .nilf ∧ tvNil Try.prog 58 = [] := by
  refine ⟨?_, ?_, ?_, ?_, ?_, ?_, ?_⟩ <;> kernel_rfl
theorem ty59 : Try.prog.cellsOf 59 = 40 ∧ tvSlc Try.prog 59 = 0 ∧ tvStr Try.prog 59 = false ∧ tvMap Try.prog 59 = none ∧ tvLd Try.prog 59 = some (40, true) ∧ tvZero Try.prog 59 = .agg [.int .i64 0, .int .i64 0, .int .i64 0, .int .i64 0, .int .i64 0, .int .i64 0, .int .i64 0, .int .i64 0, .int .i64 0, .int .i64 0, .int .i64 0, .int .i64 0, .int .i64 0, .int .i64 0, .int .i64 0, .int .i64 0, .int .i64 0, .int .i64 0, .int .i64 0, .int .i64 0, .int .i64 0, .int .i64 0, .int .i64 0, .int .i64 0, .int .i64 0, .int .i64 0, .int .i64 0, .int .i64 0, .int .i64 0, .int .i64 0, .int .i64 0, .int .i64 0, .int .i64 0, .int .i64 0, .int .i64 0, .int .i64 0, .int .i64 0, .int .i64 0, .int .i64 0, .int .i64 0] ∧ tvArr Try.prog 59 = some (40, 1) ∧ tvArrE Try.prog 59 = some (40, 3) ∧ tvBuild Try.prog 59 = true ∧ tvNil Try.prog 59 = [] := by
  refine ⟨?_, ?_, ?_, ?_, ?_, ?_, ?_, ?_, ?_, ?_⟩ <;> kernel_rfl
theorem ty60 : Try.prog.cellsOf 60 = 6 ∧ tvSlc Try.prog 60 = 0 ∧ tvStr Try.prog 60 = false ∧ tvMap Try.prog 60 = none ∧ tvLd Try.prog 60 = some (6, true) ∧ tvZero Try.prog 60 = .agg [.int .i64 0, .int .i64 0, .int .i64 0, .int .i64 0, .int .i64 0, .int .i64 0] ∧ tvFld Try.prog 60 0 = some (0, 1, 3) ∧ tvFld Try.prog 60 1 = some (1, 1, 3) ∧ tvFld Try.prog 60 2 = some (2, 1, 3) ∧ tvFld Try.prog 60 3 = some (3, 1, 3) ∧ tvFld Try.prog 60 4 = some (4, 1, 3) ∧ tvFld Try.prog 60 5 = some (5, 1, 3) ∧ tvArr Try.prog 60 = none ∧ tvBuild Try.prog 60 = true ∧ tvNil Try.prog 60 = [] := by
  refine ⟨?_, ?_, ?_, ?_, ?_, ?_, ?_, ?_, ?_, ?_, ?_, ?_, ?_, ?_, ?_⟩ <;> kernel_rfl
theorem ty61 : Try.prog.cellsOf 61 = 6 ∧ tvSlc Try.prog 61 = 0 ∧ tvStr Try.prog 61 = false ∧ tvMap Try.prog 61 = none ∧ tvLd Try.prog 61 = some (6, true) ∧ tvZero Try.prog 61 = .agg [.int .i64 0, .int .i64 0, .int .i64 0, .int .i64 0, .int .i64 0, .int .i64 0] ∧ tvFld Try.prog 61 0 = some (0, 1, 3) ∧ tvFld Try.prog 61 1 = some (1, 1, 3) ∧ tvFld Try.prog 61 2 = some (2, 1, 3) ∧ tvFld Try.prog 61 3 = some (3, 1, 3) ∧ tvFld Try.prog 61 4 = some (4, 1, 3) ∧ tvFld Try.prog 61 5 = some (5, 1, 3) ∧ tvArr Try.prog 61 = none ∧ tvBuild Try.prog 61 = true ∧ tvNil Try.prog 61 = [] := by
  refine ⟨?_, ?_, ?_, ?_, ?_, ?_, ?_, ?_, ?_, ?_, ?_, ?_, ?_, ?_, ?_⟩ <;> kernel_rfl
theorem ty62 : Try.prog.cellsOf 62 = 1 ∧ tvSlc Try.prog 62 = 0 ∧ tvStr Try.prog 62 = false ∧ tvMap Try.prog 62 = none ∧ tvLd Try.prog 62 = some (1, false) ∧ tvZero Try.prog 62 = .nilf ∧ tvNil Try.prog 62 = [] := by
  refine ⟨?_, ?_, ?_, ?_, ?_, ?_, ?_⟩ <;> kernel_rfl
theorem ty63 : Try.prog.cellsOf 63 = 5 ∧ tvSlc Try.prog 63 = 0 ∧ tvStr Try.prog 63 = false ∧ tvMap Try.prog 63 = none ∧ tvLd Try.prog 63 = some (5, true) ∧ tvZero Try.prog 63 = .agg [.int .i64 0, .int .i64 0, .int .i64 0, .int .i64 0, .int .i64 0] ∧ tvFld Try.prog 63 0 = some (0, 1, 3) ∧ tvFld Try.prog 63 1 = some (1, 1, 3) ∧ tvFld Try.prog 63 2 = some (2, 1, 3) ∧ tvFld Try.prog 63 3 = some (3, 1, 3) ∧ tvFld Try.prog 63 4 = some (4, 1, 3) ∧ tvArr Try.prog 63 = none ∧ tvBuild Try.prog 63 = true ∧ tvNil Try.prog 63 = [] := by
  refine ⟨?_, ?_, ?_, ?_, ?_, ?_, ?_, ?_, ?_, ?_, ?_, ?_, ?_, ?_⟩ <;> kernel_rfl
theorem ty64 : Try.prog.cellsOf 64 = 5 ∧ tvSlc Try.prog 64 = 0 ∧ tvStr Try.prog 64 = false ∧ tvMap Try.prog 64 = none ∧ tvLd Try.prog 64 = some (5, true) ∧ tvZero Try.prog 64 = .agg [.int .i64 0, .int .i64 0, .int .i64 0, .int .i64 0, .int .i64 0] ∧ tvFld Try.prog 64 0 = some (0, 1, 3) ∧ tvFld Try.prog 64 1 = some (1, 1, 3) ∧ tvFld Try.prog 64 2 = some (2, 1, 3) ∧ tvFld Try.prog 64 3 = some (3, 1, 3) ∧ tvFld Try.prog 64 4 = some (4, 1, 3) ∧ tvArr Try.prog 64 = none ∧ tvBuild Try.prog 64 = true ∧ tvNil Try.prog 64 = [] := by
  refine ⟨?_, ?_, ?_, ?_, ?_, ?_, ?_, ?_, ?_, ?_, ?_, ?_, ?_, ?_⟩ <;> kernel_rfl
theorem ty65 : Try.prog.cellsOf 65 = 1 ∧ tvSlc Try.prog 65 = 0 ∧ tvStr Try.prog 65 = false ∧ tvMap Try.prog 65 = none ∧ tvInt Try.prog 65 = some .u16 ∧ tvLd Try.prog 65 = some (1, false) ∧ tvZero Try.prog 65 = .int .u16 0 ∧ tvNil Try.prog 65 = [] := by
  refine ⟨?_, ?_, ?_, ?_, ?_, ?_, ?_, ?_⟩ <;> kernel_rfl
theorem ty66 : Try.prog.cellsOf 66 = 1 ∧ tvSlc Try.prog 66 = 0 ∧ tvStr Try.prog 66 = false ∧ tvMap Try.prog 66 = none ∧ tvLd Try.prog 66 = some (1, false) ∧ tvZero Try.prog 66 = .nilf ∧ tvNil Try.prog 66 = [] := by
  refine ⟨?_, ?_, ?_, ?_, ?_, ?_, ?_⟩ <;> kernel_rfl
theorem ty67 : Try.prog.cellsOf 67 = 3 ∧ tvSlc Try.prog 67 = 0 ∧ tvStr Try.prog 67 = false ∧ tvMap Try.prog 67 = none ∧ tvLd Try.prog 67 = some (3, true) ∧ tvZero Try.prog 67 = .agg [.int .i64 0, .int .i64 0, .int .i64 0] ∧ tvFld Try.prog 67 0 = some (0, 1, 3) ∧ tvFld Try.prog 67 1 = some (1, 1, 3) ∧ tvFld Try.prog 67 2 = some (2, 1, 3) ∧ tvArr Try.prog 67 = none ∧ tvBuild Try.prog 67 = true ∧ tvNil Try.prog 67 = [] := by
  refine ⟨?_, ?_, ?_, ?_, ?_, ?_, ?_, ?_, ?_, ?_, ?_, ?_⟩ <;> kernel_rfl
theorem ty68 : Try.prog.cellsOf 68 = 3 ∧ tvSlc Try.prog 68 = 0 ∧ tvStr Try.prog 68 = false ∧ tvMap Try.prog 68 = none ∧ tvLd Try.prog 68 = some (3, true) ∧ tvZero Try.prog 68 = .agg [.int .i64 0, .int .i64 0, .int .i64 0] ∧ tvFld Try.prog 68 0 = some (0, 1, 3) ∧ tvFld Try.prog 68 1 = some (1, 1, 3) ∧ tvFld Try.prog 68 2 = some (2, 1, 3) ∧ tvArr Try.prog 68 = none ∧ tvBuild Try.prog 68 = true ∧ tvNil Try.prog 68 = [] := by
  refine ⟨?_, ?_, ?_, ?_, ?_, ?_, ?_, ?_, ?_, ?_, ?_, ?_⟩ <;> kernel_rfl
theorem ty69 : Try.prog.cellsOf 69 = 1 ∧ tvSlc Try.prog 69 = 0 ∧ tvStr Try.prog 69 = false ∧ tvMap Try.prog 69 = none ∧ tvLd Try.prog 69 = some (1, false) ∧ tvZero Try.prog 69 = .nilf ∧ tvNil Try.prog 69 = [] := by
  refine ⟨?_, ?_, ?_, ?_, ?_, ?_, ?_⟩ <;> kernel_rfl
theorem ty70 : Try.prog.cellsOf 70 = 1 ∧ tvSlc Try.prog 70 = 0 ∧ tvStr Try.prog 70 = false ∧ tvMap Try.prog 70 = none ∧ tvLd Try.prog 70 = some (1, false) ∧ tvZero Try.prog 70 = .nilf ∧ tvNil Try.prog 70 = [] := by
  refine ⟨?_, ?_, ?_, ?_, ?_, ?_, ?_⟩ <;> kernel_rfl
theorem ty71 : Try.prog.cellsOf 71 = 1 ∧ tvSlc Try.prog 71 = 0 ∧ tvStr Try.prog 71 = false ∧ tvMap Try.prog 71 = none ∧ tvLd Try.prog 71 = some (1, false) ∧ tvZero Try.prog 71 = .nilf ∧ tvNil Try.prog 71 = [] := by
  refine ⟨?_, ?_, ?_, ?_, ?_, ?_, ?_⟩ <;> kernel_rfl
theorem ty72 : Try.prog.cellsOf 72 = 1 ∧ tvSlc Try.prog 72 = 3 ∧ tvElem Try.prog 72 = 142 ∧ tvStr Try.prog 72 = false ∧ tvMap Try.prog 72 = none ∧ tvLd Try.prog 72 = some (1, false) ∧ tvZero Try.prog 72 = .nils ∧ tvNil Try.prog 72 = [(0, 3)] := by
  refine ⟨?_, ?_, ?_, ?_, ?_, ?_, ?_, ?_⟩ <;> kernel_rfl
theorem ty73 : Try.prog.cellsOf 73 = 1 ∧ tvSlc Try.prog 73 = 8 ∧ tvElem Try.prog 73 = 77 ∧ tvStr Try.prog 73 = false ∧ tvMap Try.prog 73 = none ∧ tvLd Try.prog 73 = some (1, false) ∧ tvZero Try.prog 73 = .nils ∧ tvNil Try.prog 73 = [(0, 8)] := by
  refine ⟨?_, ?_, ?_, ?_, ?_, ?_, ?_, ?_⟩ <;> kernel_rfl
theorem ty74 : Try.prog.cellsOf 74 = 2 ∧ tvSlc Try.prog 74 = 0 ∧ tvStr Try.prog 74 = false ∧ tvMap Try.prog 74 = none ∧ tvLd Try.prog 74 = some (2, true) ∧ tvZero Try.prog 74 = .agg [.int .u16 0, .int .u16 0] ∧ tvArr Try.prog 74 = some (2, 1) ∧ tvArrE Try.prog 74 = some (2, 65) ∧ tvBuild Try.prog 74 = true ∧ tvNil Try.prog 74 = [] := by
  refine ⟨?_, ?_, ?_, ?_, ?_, ?_, ?_, ?_, ?_, ?_⟩ <;> kernel_rfl
theorem ty75 : Try.prog.cellsOf 75 = 1 ∧ tvSlc Try.prog 75 = 3 ∧ tvElem Try.prog 75 = 164 ∧ tvStr Try.prog 75 = false ∧ tvMap Try.prog 75 = none ∧ tvLd Try.prog 75 = some (1, false) ∧ tvZero Try.prog 75 = .nils ∧ tvNil Try.prog 75 = [(0, 3)] := by
  refine ⟨?_, ?_, ?_, ?_, ?_, ?_, ?_, ?_⟩ <;> kernel_rfl
theorem ty76 : Try.prog.cellsOf 76 = 8 ∧ tvSlc Try.prog 76 = 0 ∧ tvStr Try.prog 76 = false ∧ tvMap Try.prog 76 = none ∧ tvLd Try.prog 76 = some (8, true) ∧ tvZero Try.prog 76 = .agg [.int .i64 0, .int .i64 0, .int .i64 0, .int .i64 0, .int .i64 0, .int .i64 0, .int .i64 0, .nils] ∧ tvFld Try.prog 76 0 = some (0, 1, 3) ∧ tvFld Try.prog 76 1 = some (1, 1, 3) ∧ tvFld Try.prog 76 2 = some (2, 1, 3) ∧ tvFld Try.prog 76 3 = some (3, 1, 3) ∧ tvFld Try.prog 76 4 = some (4, 1, 3) ∧ tvFld Try.prog 76 5 = some (5, 1, 3) ∧ tvFld Try.prog 76 6 = some (6, 1, 3) ∧ tvFld Try.prog 76 7 = some (7, 1, 75) ∧ tvArr Try.prog 76 = none ∧ tvBuild Try.prog 76 = true ∧ tvNil Try.prog 76 = [(7, 3)] := by
  refine ⟨?_, ?_, ?_, ?_, ?_, ?_, ?_, ?_, ?_, ?_, ?_, ?_, ?_, ?_, ?_, ?_, ?_⟩ <;> kernel_rfl
theorem ty77 : Try.prog.cellsOf 77 = 8 ∧ tvSlc Try.prog 77 = 0 ∧ tvStr Try.prog 77 = false ∧ tvMap Try.prog 77 = none ∧ tvLd Try.prog 77 = some (8, true) ∧ tvZero Try.prog 77 = .agg [.int .i64 0, .int .i64 0, .int .i64 0, .int .i64 0, .int .i64 0, .int .i64 0, .int .i64 0, .nils] ∧ tvFld Try.prog 77 0 = some (0, 1, 3) ∧ tvFld Try.prog 77 1 = some (1, 1, 3) ∧ tvFld Try.prog 77 2 = some (2, 1, 3) ∧ tvFld Try.prog 77 3 = some (3, 1, 3) ∧ tvFld Try.prog 77 4 = some (4, 1, 3) ∧ tvFld Try.prog 77 5 = some (5, 1, 3) ∧ tvFld Try.prog 77 6 = some (6, 1, 3) ∧ tvFld Try.prog 77 7 = some (7, 1, 75) ∧ tvArr Try.prog 77 = none ∧ tvBuild Try.prog 77 = true ∧ tvNil Try.prog 77 = [(7, 3)] := by
  refine ⟨?_, ?_, ?_, ?_, ?_, ?_, ?_, ?_, ?_, ?_, ?_, ?_, ?_, ?_, ?_, ?_, ?_⟩ <;> kernel_rfl
theorem ty78 : Try.prog.cellsOf 78 = 1 ∧ tvSlc Try.prog 78 = 50 ∧ tvElem Try.prog 78 = 168 ∧ tvStr Try.prog 78 = false ∧ tvMap Try.prog 78 = none ∧ tvLd Try.prog 78 = some (1, false) ∧ tvZero Try.prog 78 = .nils ∧ tvNil Try.prog 78 = [(0, 50)] := by
  refine ⟨?_, ?_, ?_, ?_, ?_, ?_, ?_, ?_⟩ <;> kernel_rfl
theorem ty79 : Try.prog.cellsOf 79 = 2 ∧ tvSlc Try.prog 79 = 0 ∧ tvStr Try.prog 79 = false ∧ tvMap Try.prog 79 = none ∧ tvLd Try.prog 79 = some (2, true) ∧ tvZero Try.prog 79 = .agg [.int .i64 0, .nils] ∧ tvFld Try.prog 79 0 = some (0, 1, 3) ∧ tvFld Try.prog 79 1 = some (1, 1, 78) ∧ tvArr Try.prog 79 = none ∧ tvBuild Try.prog 79 = true ∧ tvNil Try.prog 79 = [(1, 50)] := by
  refine ⟨?_, ?_, ?_, ?_, ?_, ?_, ?_, ?_, ?_, ?_, ?_⟩ <;> kernel_rfl
theorem ty80 : Try.prog.cellsOf 80 = 2 ∧ tvSlc Try.prog 80 = 0 ∧ tvStr Try.prog 80 = false ∧ tvMap Try.prog 80 = none ∧ tvLd Try.prog 80 = some (2, true) ∧ tvZero Try.prog 80 = .agg [.int .i64 0, .nils] ∧ tvFld Try.prog 80 0 = some (0, 1, 3) ∧ tvFld Try.prog 80 1 = some (1, 1, 78) ∧ tvArr Try.prog 80 = none ∧ tvBuild Try.prog 80 = true ∧ tvNil Try.prog 80 = [(1, 50)] := by
  refine ⟨?_, ?_, ?_, ?_, ?_, ?_, ?_, ?_, ?_, ?_, ?_⟩ <;> kernel_rfl
theorem ty81 : Try.prog.cellsOf 81 = 1 ∧ tvSlc Try.prog 81 = 4 ∧ tvElem Try.prog 81 = 125 ∧ tvStr Try.prog 81 = false ∧ tvMap Try.prog 81 = none ∧ tvLd Try.prog 81 = some (1, false) ∧ tvZero Try.prog 81 = .nils ∧ tvNil Try.prog 81 = [(0, 4)] := by
  refine ⟨?_, ?_, ?_, ?_, ?_, ?_, ?_, ?_⟩ <;> kernel_rfl
theorem ty83 : Try.prog.cellsOf 83 = 1 ∧ tvSlc Try.prog 83 = 0 ∧ tvStr Try.prog 83 = false ∧ tvMap Try.prog 83 = none ∧ tvLd Try.prog 83 = some (1, false) ∧ tvZero Try.prog 83 = .nilf ∧ tvNil Try.prog 83 = [] := by
  refine ⟨?_, ?_, ?_, ?_, ?_, ?_, ?_⟩ <;> kernel_rfl
theorem ty84 : Try.prog.cellsOf 84 = 1 ∧ tvSlc Try.prog 84 = 0 ∧ tvStr Try.prog 84 = false ∧ tvMap Try.prog 84 = none ∧ tvLd Try.prog 84 = some (1, false) ∧ tvZero Try.prog 84 = .nilf ∧ tvNil Try.prog 84 = [] := by
  refine ⟨?_, ?_, ?_, ?_, ?_, ?_, ?_⟩ <;> kernel_rfl
theorem ty85 : Try.prog.cellsOf 85 = 1 ∧ tvSlc Try.prog 85 = 0 ∧ tvStr Try.prog 85 = false ∧ tvMap Try.prog 85 = some (.ints 3, .agg [.int .i64 0, .int .i64 0]) ∧ tvLd Try.prog 85 = some (1, false) ∧ tvZero Try.prog 85 = .nilm ∧ tvNil Try.prog 85 = [] := by
  refine ⟨?_, ?_, ?_, ?_, ?_, ?_, ?_⟩ <;> kernel_rfl
theorem ty86 : Try.prog.cellsOf 86 = 1 ∧ tvSlc Try.prog 86 = 0 ∧ tvStr Try.prog 86 = false ∧ tvMap Try.prog 86 = none ∧ tvLd Try.prog 86 = some (1, false) ∧ tvZero Try.prog 86 = .nilf ∧ tvNil Try.prog 86 = [] := by
  refine ⟨?_, ?_, ?_, ?_, ?_, ?_, ?_⟩ <;> kernel_rfl
theorem ty87 : Try.prog.cellsOf 87 = 3 ∧ tvSlc Try.prog 87 = 0 ∧ tvStr Try.prog 87 = false ∧ tvMap Try.prog 87 = none ∧ tvLd Try.prog 87 = some (3, true) ∧ tvZero Try.prog 87 = .agg [.int .i64 0, .int .i64 0, .int .i64 0] ∧ tvArr Try.prog 87 = some (3, 1) ∧ tvArrE Try.prog 87 = some (3, 3) ∧ tvBuild Try.prog 87 = true ∧ tvNil Try.prog 87 = [] := by
  refine ⟨?_, ?_, ?_, ?_, ?_, ?_, ?_, ?_, ?_, ?_⟩ <;> kernel_rfl
theorem ty88 : Try.prog.cellsOf 88 = 2 ∧ tvSlc Try.prog 88 = 0 ∧ tvStr Try.prog 88 = false ∧ tvMap Try.prog 88 = none ∧ tvLd Try.prog 88 = some (2, true) ∧ tvZero Try.prog 88 = .agg [.int .i64 0, .int .i64 0] ∧ tvArr Try.prog 88 = some (2, 1) ∧ tvArrE Try.prog 88 = some (2, 3) ∧ tvBuild Try.prog 88 = true ∧ tvNil Try.prog 88 = [] := by
  refine ⟨?_, ?_, ?_, ?_, ?_, ?_, ?_, ?_, ?_, ?_⟩ <;> kernel_rfl
theorem ty89 : Try.prog.cellsOf 89 = 1 ∧ tvSlc Try.prog 89 = 0 ∧ tvStr Try.prog 89 = false ∧ tvMap Try.prog 89 = none ∧ tvLd Try.prog 89 = some (1, false) ∧ tvZero Try.prog 89 = .nilf ∧ tvNil Try.prog 89 = [] := by
  refine ⟨?_, ?_, ?_, ?_, ?_, ?_, ?_⟩ <;> kernel_rfl
theorem ty90 : Try.prog.cellsOf 90 = 1 ∧ tvSlc Try.prog 90 = 0 ∧ tvStr Try.prog 90 = false ∧ tvMap Try.prog 90 = none ∧ tvLd Try.prog 90 = some (1, false) ∧ tvZero Try.prog 90 = .nilf ∧ tvNil Try.prog 90 = [] := by
  refine ⟨?_, ?_, ?_, ?_, ?_, ?_, ?_⟩ <;> kernel_rfl
theorem ty91 : Try.prog.cellsOf 91 = 1 ∧ tvSlc Try.prog 91 = 0 ∧ tvStr Try.prog 91 = false ∧ tvMap Try.prog 91 = none ∧ tvLd Try.prog 91 = some (1, false) ∧ tvZero Try.prog 91 = .nilf ∧ tvNil Try.prog 91 = [] := by
  refine ⟨?_, ?_, ?_, ?_, ?_, ?_, ?_⟩ <;> kernel_rfl
theorem ty92 : Try.prog.cellsOf 92 = 1 ∧ tvSlc Try.prog 92 = 0 ∧ tvStr Try.prog 92 = false ∧ tvMap Try.prog 92 = none ∧ tvLd Try.prog 92 = some (1, false) ∧ tvZero Try.prog 92 = .nilf ∧ tvNil Try.prog 92 = [] := by
  refine ⟨?_, ?_, ?_, ?_, ?_, ?_, ?_⟩ <;> kernel_rfl
theorem ty93 : Try.prog.cellsOf 93 = 1 ∧ tvSlc Try.prog 93 = 0 ∧ tvStr Try.prog 93 = false ∧ tvMap Try.prog 93 = none ∧ tvLd Try.prog 93 = some (1, false) ∧ tvZero Try.prog 93 = .nilf ∧ tvNil Try.prog 93 = [] := by
  refine ⟨?_, ?_, ?_, ?_, ?_, ?_, ?_⟩ <;> kernel_rfl
theorem ty94 : Try.prog.cellsOf 94 = 1 ∧ tvSlc Try.prog 94 = 0 ∧ tvStr Try.prog 94 = false ∧ tvMap Try.prog 94 = none ∧ tvLd Try.prog 94 = some (1, false) ∧ tvZero Try.prog 94 = .nilf ∧ tvNil Try.prog 94 = [] := by
  refine ⟨?_, ?_, ?_, ?_, ?_, ?_, ?_⟩ <;> kernel_rfl
theorem ty95 : Try.prog.cellsOf 95 = 1 ∧ tvSlc Try.prog 95 = 0 ∧ tvStr Try.prog 95 = false ∧ tvMap Try.prog 95 = none ∧ tvLd Try.prog 95 = some (1, false) ∧ tvZero Try.prog 95 = .nilf ∧ tvNil Try.prog 95 = [] := by
  refine ⟨?_, ?_, ?_, ?_, ?_, ?_, ?_⟩ <;> kernel_rfl
theorem ty97 : Try.prog.cellsOf 97 = 1 ∧ tvSlc Try.prog 97 = 0 ∧ tvStr Try.prog 97 = false ∧ tvMap Try.prog 97 = none ∧ tvLd Try.prog 97 = some (1, false) ∧ tvZero Try.prog 97 = .nilf ∧ tvNil Try.prog 97 = [] := by
  refine ⟨?_, ?_, ?_, ?_, ?_, ?_, ?_⟩ <;> kernel_rfl
theorem ty98 : Try.prog.cellsOf 98 = 1 ∧ tvSlc Try.prog 98 = 0 ∧ tvStr Try.prog 98 = false ∧ tvMap Try.prog 98 = none ∧ tvLd Try.prog 98 = some (1, false) ∧ tvZero Try.prog 98 = .nilf ∧ tvNil Try.prog 98 = [] := by
  refine ⟨?_, ?_, ?_, ?_, ?_, ?_, ?_⟩ <;> kernel_rfl
theorem ty99 : Try.prog.cellsOf 99 = 1 ∧ tvSlc Try.prog 99 = 0 ∧ tvStr Try.prog 99 = false ∧ tvMap Try.prog 99 = none ∧ tvLd Try.prog 99 = some (1, false) ∧ tvZero Try.prog 99 = .nilf ∧ tvNil Try.prog 99 = [] := by
  refine ⟨?_, ?_, ?_, ?_, ?_, ?_, ?_⟩ <;> kernel_rfl
theorem ty100 : Try.prog.cellsOf 100 = 1 ∧ tvSlc Try.prog 100 = 0 ∧ tvStr Try.prog 100 = false ∧ tvMap Try.prog 100 = none ∧ tvLd Try.prog 100 = some (1, false) ∧ tvZero Try.prog 100 = .nilf ∧ tvNil Try.prog 100 = [] := by
  refine ⟨?_, ?_, ?_, ?_, ?_, ?_, ?_⟩ <;> kernel_rfl
theorem ty101 : Try.prog.cellsOf 101 = 1 ∧ tvSlc Try.prog 101 = 0 ∧ tvStr Try.prog 101 = false ∧ tvMap Try.prog 101 = none ∧ tvLd Try.prog 101 = some (1, false) ∧ tvZero Try.prog 101 = .nilf ∧ tvNil Try.prog 101 = [] := by
  refine ⟨?_, ?_, ?_, ?_, ?_, ?_, ?_⟩ <;> kernel_rfl
theorem ty102 : Try.prog.cellsOf 102 = 1 ∧ tvSlc Try.prog 102 = 0 ∧ tvStr Try.prog 102 = false ∧ tvMap Try.prog 102 = none ∧ tvLd Try.prog 102 = some (1, false) ∧ tvZero Try.prog 102 = .nilf ∧ tvNil Try.prog 102 = [] := by
  refine ⟨?_, ?_, ?_, ?_, ?_, ?_, ?_⟩ <;> kernel_rfl
theorem ty103 : Try.prog.cellsOf 103 = 1 ∧ tvSlc Try.prog 103 = 0 ∧ tvStr Try.prog 103 = false ∧ tvMap Try.prog 103 = none ∧ tvLd Try.prog 103 = some (1, false) ∧ tvZero Try.prog 103 = .nilf ∧ tvNil Try.prog 103 = [] := by
  refine ⟨?_, ?_, ?_, ?_, ?_, ?_, ?_⟩ <;> kernel_rfl
theorem ty104 : Try.prog.cellsOf 104 = 1 ∧ tvSlc Try.prog 104 = 0 ∧ tvStr Try.prog 104 = false ∧ tvMap Try.prog 104 = none ∧ tvLd Try.prog 104 = some (1, false) ∧ tvZero Try.prog 104 = .nilf ∧ tvNil Try.prog 104 = [] := by
  refine ⟨?_, ?_, ?_, ?_, ?_, ?_, ?_⟩ <;> kernel_rfl
theorem ty105 : Try.prog.cellsOf 105 = 1 ∧ tvSlc Try.prog 105 = 0 ∧ tvStr Try.prog 105 = false ∧ tvMap Try.prog 105 = none ∧ tvLd Try.prog 105 = some (1, false) ∧ tvZero Try.prog 105 = .nilf ∧ tvNil Try.prog 105 = [] := by
  refine ⟨?_, ?_, ?_, ?_, ?_, ?_, ?_⟩ <;> kernel_rfl
theorem ty106 : Try.prog.cellsOf 106 = 1 ∧ tvSlc Try.prog 106 = 0 ∧ tvStr Try.prog 106 = false ∧ tvMap Try.prog 106 = none ∧ tvLd Try.prog 106 = some (1, false) ∧ tvZero Try.prog 106 = .nilf ∧ tvNil Try.prog 106 = [] := by
  refine ⟨?_, ?_, ?_, ?_, ?_, ?_, ?_⟩ <;> kernel_rfl
theorem ty107 : Try.prog.cellsOf 107 = 2 ∧ tvSlc Try.prog 107 = 0 ∧ tvStr Try.prog 107 = false ∧ tvMap Try.prog 107 = none ∧ tvLd Try.prog 107 = some (2, true) ∧ tvZero Try.prog 107 = .agg [.int .i64 0, .int .i64 0] ∧ tvFld Try.prog 107 0 = some (0, 1, 3) ∧ tvFld Try.prog 107 1 = some (1, 1, 26) ∧ tvArr Try.prog 107 = none ∧ tvBuild Try.prog 107 = true ∧ tvNil Try.prog 107 = [] := by
  refine ⟨?_, ?_, ?_, ?_, ?_, ?_, ?_, ?_, ?_, ?_, ?_⟩ <;> kernel_rfl
theorem ty108 : Try.prog.cellsOf 108 = 1 ∧ tvSlc Try.prog 108 = 0 ∧ tvStr Try.prog 108 = false ∧ tvMap Try.prog 108 = none ∧ tvLd Try.prog 108 = some (1, false) ∧ tvZero Try.prog 108 = .nilf ∧ tvNil Try.prog 108 = [] := by
  refine ⟨?_, ?_, ?_, ?_, ?_, ?_, ?_⟩ <;> kernel_rfl
theorem ty109 : Try.prog.cellsOf 109 = 1 ∧ tvSlc Try.prog 109 = 0 ∧ tvStr Try.prog 109 = false ∧ tvMap Try.prog 109 = none ∧ tvLd Try.prog 109 = some (1, false) ∧ tvZero Try.prog 109 = .nilf ∧ tvNil Try.prog 109 = [] := by
  refine ⟨?_, ?_, ?_, ?_, ?_, ?_, ?_⟩ <;> kernel_rfl
theorem ty110 : Try.prog.cellsOf 110 = 1 ∧ tvSlc Try.prog 110 = 0 ∧ tvStr Try.prog 110 = false ∧ tvMap Try.prog 110 = none ∧ tvLd Try.prog 110 = some (1, false) ∧ tvZero Try.prog 110 = .nilf ∧ tvNil Try.prog 110 = [] := by
  refine ⟨?_, ?_, ?_, ?_, ?_, ?_, ?_⟩ <;> kernel_rfl
theorem ty111 : Try.prog.cellsOf 111 = 3 ∧ tvSlc Try.prog 111 = 0 ∧ tvStr Try.prog 111 = false ∧ tvMap Try.prog 111 = none ∧ tvLd Try.prog 111 = some (3, true) ∧ tvZero Try.prog 111 = .agg [.int .i64 0, .nils, .int .i64 0] ∧ tvFld Try.prog 111 0 = some (0, 2, 45) ∧ tvFld Try.prog 111 1 = some (2, 1, 26) ∧ tvArr Try.prog 111 = none ∧ tvBuild Try.prog 111 = true ∧ tvNil Try.prog 111 = [(1, 6)] := by
  refine ⟨?_, ?_, ?_, ?_, ?_, ?_, ?_, ?_, ?_, ?_, ?_⟩ <;> kernel_rfl
theorem ty112 : Try.prog.cellsOf 112 = 1 ∧ tvSlc Try.prog 112 = 0 ∧ tvStr Try.prog 112 = false ∧ tvMap Try.prog 112 = none ∧ tvLd Try.prog 112 = some (1, false) ∧ tvZero Try.prog 112 = .nilf ∧ tvNil Try.prog 112 = [] := by
  refine ⟨?_, ?_, ?_, ?_, ?_, ?_, ?_⟩ <;> kernel_rfl
theorem ty113 : Try.prog.cellsOf 113 = 1 ∧ tvSlc Try.prog 113 = 0 ∧ tvStr Try.prog 113 = false ∧ tvMap Try.prog 113 = none ∧ tvLd Try.prog 113 = some (1, false) ∧ tvZero Try.prog 113 = .nilf ∧ tvNil Try.prog 113 = [] := by
  refine ⟨?_, ?_, ?_, ?_, ?_, ?_, ?_⟩ <;> kernel_rfl
theorem ty114 : Try.prog.cellsOf 114 = 1 ∧ tvSlc Try.prog 114 = 0 ∧ tvStr Try.prog 114 = false ∧ tvMap Try.prog 114 = none ∧ tvLd Try.prog 114 = some (1, false) ∧ tvZero Try.prog 114 = .nilf ∧ tvNil Try.prog 114 = [] := by
  refine ⟨?_, ?_, ?_, ?_, ?_, ?_, ?_⟩ <;> kernel_rfl
theorem ty115 : Try.prog.cellsOf 115 = 1 ∧ tvSlc Try.prog 115 = 0 ∧ tvStr Try.prog 115 = false ∧ tvMap Try.prog 115 = none ∧ tvLd Try.prog 115 = some (1, false) ∧ tvZero Try.prog 115 = .nilf ∧ tvNil Try.prog 115 = [] := by
  refine ⟨?_, ?_, ?_, ?_, ?_, ?_, ?_⟩ <;> kernel_rfl
theorem ty116 : Try.prog.cellsOf 116 = 1 ∧ tvSlc Try.prog 116 = 0 ∧ tvStr Try.prog 116 = false ∧ tvMap Try.prog 116 = none ∧ tvLd Try.prog 116 = some (1, false) ∧ tvZero Try.prog 116 = .nilf ∧ tvNil Try.prog 116 = [] := by
  refine ⟨?_, ?_, ?_, ?_, ?_, ?_, ?_⟩ <;> kernel_rfl
theorem ty117 : Try.prog.cellsOf 117 = 8 ∧ tvSlc Try.prog 117 = 0 ∧ tvStr Try.prog 117 = false ∧ tvMap Try.prog 117 = none ∧ tvLd Try.prog 117 = some (8, true) ∧ tvZero Try.prog 117 = .agg [.int .i64 0, .int .i64 0, .int .i64 0, .int .i64 0, .int .i64 0, .int .i64 0, .int .i64 0, .int .i64 0] ∧ tvArr Try.prog 117 = some (8, 1) ∧ tvArrE Try.prog 117 = some (8, 3) ∧ tvBuild Try.prog 117 = true ∧ tvNil Try.prog 117 = [] := by
  refine ⟨?_, ?_, ?_, ?_, ?_, ?_, ?_, ?_, ?_, ?_⟩ <;> kernel_rfl
theorem ty118 : Try.prog.cellsOf 118 = 1 ∧ tvSlc Try.prog 118 = 0 ∧ tvStr Try.prog 118 = false ∧ tvMap Try.prog 118 = none ∧ tvLd Try.prog 118 = some (1, false) ∧ tvZero Try.prog 118 = .nilf ∧ tvNil Try.prog 118 = [] := by
  refine ⟨?_, ?_, ?_, ?_, ?_, ?_, ?_⟩ <;> kernel_rfl
theorem ty119 : Try.prog.cellsOf 119 = 1 ∧ tvSlc Try.prog 119 = 0 ∧ tvStr Try.prog 119 = false ∧ tvMap Try.prog 119 = none ∧ tvLd Try.prog 119 = some (1, false) ∧ tvZero Try.prog 119 = .nilf ∧ tvNil Try.prog 119 = [] := by
  refine ⟨?_, ?_, ?_, ?_, ?_, ?_, ?_⟩ <;> kernel_rfl
theorem ty120 : Try.prog.cellsOf 120 = 1 ∧ tvSlc Try.prog 120 = 0 ∧ tvStr Try.prog 120 = false ∧ tvMap Try.prog 120 = none ∧ tvLd Try.prog 120 = some (1, false) ∧ tvZero Try.prog 120 = .nilf ∧ tvNil Try.prog 120 = [] := by
  refine ⟨?_, ?_, ?_, ?_, ?_, ?_, ?_⟩ <;> kernel_rfl
theorem ty121 : Try.prog.cellsOf 121 = 1 ∧ tvSlc Try.prog 121 = 0 ∧ tvStr Try.prog 121 = false ∧ tvMap Try.prog 121 = none ∧ tvLd Try.prog 121 = some (1, false) ∧ tvZero Try.prog 121 = .nilf ∧ tvNil Try.prog 121 = [] := by
  refine ⟨?_, ?_, ?_, ?_, ?_, ?_, ?_⟩ <;> kernel_rfl
theorem ty122 : Try.prog.cellsOf 122 = 1 ∧ tvSlc Try.prog 122 = 0 ∧ tvStr Try.prog 122 = false ∧ tvMap Try.prog 122 = none ∧ tvLd Try.prog 122 = some (1, false) ∧ tvZero Try.prog 122 = .nilf ∧ tvNil Try.prog 122 = [] := by
  refine ⟨?_, ?_, ?_, ?_, ?_, ?_, ?_⟩ <;> kernel_rfl
theorem ty123 : Try.prog.cellsOf 123 = 1 ∧ tvSlc Try.prog 123 = 0 ∧ tvStr Try.prog 123 = false ∧ tvMap Try.prog 123 = some (.ints 3, .int .i64 0) ∧ tvLd Try.prog 123 = some (1, false) ∧ tvZero Try.prog 123 = .nilm ∧ tvNil Try.prog 123 = [] := by
  refine ⟨?_, ?_, ?_, ?_, ?_, ?_, ?_⟩ <;> kernel_rfl
theorem ty124 : Try.prog.cellsOf 124 = 4 ∧ tvSlc Try.prog 124 = 0 ∧ tvStr Try.prog 124 = false ∧ tvMap Try.prog 124 = none ∧ tvLd Try.prog 124 = some (4, true) ∧ tvZero Try.prog 124 = .agg [.int .i64 0, .int .i64 0, .int .i64 0, .int .i64 0] ∧ tvFld Try.prog 124 0 = some (0, 1, 3) ∧ tvFld Try.prog 124 1 = some (1, 1, 3) ∧ tvFld Try.prog 124 2 = some (2, 1, 3) ∧ tvFld Try.prog 124 3 = some (3, 1, 3) ∧ tvArr Try.prog 124 = none ∧ tvBuild Try.prog 124 = true ∧ tvNil Try.prog 124 = [] := by
  refine ⟨?_, ?_, ?_, ?_, ?_, ?_, ?_, ?_, ?_, ?_, ?_, ?_, ?_⟩ <;> kernel_rfl
theorem ty125 : Try.prog.cellsOf 125 = 4 ∧ tvSlc Try.prog 125 = 0 ∧ tvStr Try.prog 125 = false ∧ tvMap Try.prog 125 = none ∧ tvLd Try.prog 125 = some (4, true) ∧ tvZero Try.prog 125 = .agg [.int .i64 0, .int .i64 0, .int .i64 0, .int .i64 0] ∧ tvFld Try.prog 125 0 = some (0, 1, 3) ∧ tvFld Try.prog 125 1 = some (1, 1, 3) ∧ tvFld Try.prog 125 2 = some (2, 1, 3) ∧ tvFld Try.prog 125 3 = some (3, 1, 3) ∧ tvArr Try.prog 125 = none ∧ tvBuild Try.prog 125 = true ∧ tvNil Try.prog 125 = [] := by
  refine ⟨?_, ?_, ?_, ?_, ?_, ?_, ?_, ?_, ?_, ?_, ?_, ?_, ?_⟩ <;> kernel_rfl
theorem ty126 : Try.prog.cellsOf 126 = 1 ∧ tvSlc Try.prog 126 = 0 ∧ tvStr Try.prog 126 = false ∧ tvMap Try.prog 126 = none ∧ tvLd Try.prog 126 = some (1, false) ∧ tvZero Try.prog 126 = .nilf ∧ tvNil Try.prog 126 = [] := by
  refine ⟨?_, ?_, ?_, ?_, ?_, ?_, ?_⟩ <;> kernel_rfl
theorem ty127 : Try.prog.cellsOf 127 = 1 ∧ tvSlc Try.prog 127 = 0 ∧ tvStr Try.prog 127 = false ∧ tvMap Try.prog 127 = none ∧ tvLd Try.prog 127 = some (1, false) ∧ tvZero Try.prog 127 = .nilf ∧ tvNil Try.prog 127 = [] := by
  refine ⟨?_, ?_, ?_, ?_, ?_, ?_, ?_⟩ <;> kernel_rfl
theorem ty128 : Try.prog.cellsOf 128 = 1 ∧ tvSlc Try.prog 128 = 0 ∧ tvStr Try.prog 128 = false ∧ tvMap Try.prog 128 = none ∧ tvLd Try.prog 128 = some (1, false) ∧ tvZero Try.prog 128 = .nilf ∧ tvNil Try.prog 128 = [] := by
  refine ⟨?_, ?_, ?_, ?_, ?_, ?_, ?_⟩ <;> kernel_rfl
theorem ty129 : Try.prog.cellsOf 129 = 1 ∧ tvSlc Try.prog 129 = 0 ∧ tvStr Try.prog 129 = false ∧ tvMap Try.prog 129 = none ∧ tvLd Try.prog 129 = some (1, false) ∧ tvZero Try.prog 129 = .nilf ∧ tvNil Try.prog 129 = [] := by
  refine ⟨?_, ?_, ?_, ?_, ?_, ?_, ?_⟩ <;> kernel_rfl
theorem ty130 : Try.prog.cellsOf 130 = 1 ∧ tvSlc Try.prog 130 = 3 ∧ tvElem Try.prog 130 = 87 ∧ tvStr Try.prog 130 = false ∧ tvMap Try.prog 130 = none ∧ tvLd Try.prog 130 = some (1, false) ∧ tvZero Try.prog 130 = .nils ∧ tvNil Try.prog 130 = [(0, 3)] := by
  refine ⟨?_, ?_, ?_, ?_, ?_, ?_, ?_, ?_⟩ <;> kernel_rfl
theorem ty131 : Try.prog.cellsOf 131 = 1 ∧ tvSlc Try.prog 131 = 0 ∧ tvStr Try.prog 131 = false ∧ tvMap Try.prog 131 = none ∧ tvLd Try.prog 131 = some (1, false) ∧ tvZero Try.prog 131 = .nilf ∧ tvNil Try.prog 131 = [] := by
  refine ⟨?_, ?_, ?_, ?_, ?_, ?_, ?_⟩ <;> kernel_rfl
theorem ty132 : Try.prog.cellsOf 132 = 1 ∧ tvSlc Try.prog 132 = 0 ∧ tvStr Try.prog 132 = false ∧ tvMap Try.prog 132 = none ∧ tvLd Try.prog 132 = some (1, false) ∧ tvZero Try.prog 132 = .nilf ∧ tvNil Try.prog 132 = [] := by
  refine ⟨?_, ?_, ?_, ?_, ?_, ?_, ?_⟩ <;> kernel_rfl
theorem ty133 : Try.prog.cellsOf 133 = 1 ∧ tvSlc Try.prog 133 = 0 ∧ tvStr Try.prog 133 = false ∧ tvMap Try.prog 133 = none ∧ tvLd Try.prog 133 = some (1, false) ∧ tvZero Try.prog 133 = .nilf ∧ tvNil Try.prog 133 = [] := by
  refine ⟨?_, ?_, ?_, ?_, ?_, ?_, ?_⟩ <;> kernel_rfl
theorem ty134 : Try.prog.cellsOf 134 = 1 ∧ tvSlc Try.prog 134 = 0 ∧ tvStr Try.prog 134 = false ∧ tvMap Try.prog 134 = none ∧ tvInt Try.prog 134 = some .u64 ∧ tvLd Try.prog 134 = some (1, false) ∧ tvZero Try.prog 134 = .int .u64 0 ∧ tvNil Try.prog 134 = [] := by
  refine ⟨?_, ?_, ?_, ?_, ?_, ?_, ?_, ?_⟩ <;> kernel_rfl
theorem ty135 : Try.prog.cellsOf 135 = 1 ∧ tvSlc Try.prog 135 = 0 ∧ tvStr Try.prog 135 = false ∧ tvMap Try.prog 135 = none ∧ tvLd Try.prog 135 = some (1, false) ∧ tvZero Try.prog 135 = .nilf ∧ tvNil Try.prog 135 = [] := by
  refine ⟨?_, ?_, ?_, ?_, ?_, ?_, ?_⟩ <;> kernel_rfl
theorem ty136 : Try.prog.cellsOf 136 = 1 ∧ tvSlc Try.prog 136 = 0 ∧ tvStr Try.prog 136 = false ∧ tvMap Try.prog 136 = none ∧ tvLd Try.prog 136 = some (1, false) ∧ tvZero Try.prog 136 = .nilf ∧ tvNil Try.prog 136 = [] := by
  refine ⟨?_, ?_, ?_, ?_, ?_, ?_, ?_⟩ <;> kernel_rfl
theorem ty137 : Try.prog.cellsOf 137 = 1 ∧ tvSlc Try.prog 137 = 0 ∧ tvStr Try.prog 137 = false ∧ tvMap Try.prog 137 = none ∧ tvLd Try.prog 137 = some (1, false) ∧ tvZero Try.prog 137 = .nilf ∧ tvNil Try.prog 137 = [] := by
  refine ⟨?_, ?_, ?_, ?_, ?_, ?_, ?_⟩ <;> kernel_rfl
theorem ty138 : Try.prog.cellsOf 138 = 1 ∧ tvSlc Try.prog 138 = 0 ∧ tvStr Try.prog 138 = false ∧ tvMap Try.prog 138 = none ∧ tvLd Try.prog 138 = some (1, false) ∧ tvZero Try.prog 138 = .nilf ∧ tvNil Try.prog 138 = [] := by
  refine ⟨?_, ?_, ?_, ?_, ?_, ?_, ?_⟩ <;> kernel_rfl
theorem ty139 : Try.prog.cellsOf 139 = 1 ∧ tvSlc Try.prog 139 = 0 ∧ tvStr Try.prog 139 = false ∧ tvMap Try.prog 139 = none ∧ tvLd Try.prog 139 = some (1, false) ∧ tvZero Try.prog 139 = .nilf ∧ tvNil Try.prog 139 = [] := by
  refine ⟨?_, ?_, ?_, ?_, ?_, ?_, ?_⟩ <;> kernel_rfl
theorem ty140 : Try.prog.cellsOf 140 = 1 ∧ tvSlc Try.prog 140 = 0 ∧ tvStr Try.prog 140 = false ∧ tvMap Try.prog 140 = none ∧ tvLd Try.prog 140 = some (1, false) ∧ tvZero Try.prog 140 = .nilf ∧ tvNil Try.prog 140 = [] := by
  refine ⟨?_, ?_, ?_, ?_, ?_, ?_, ?_⟩ <;> kernel_rfl
theorem ty141 : Try.prog.cellsOf 141 = 3 ∧ tvSlc Try.prog 141 = 0 ∧ tvStr Try.prog 141 = false ∧ tvMap Try.prog 141 = none ∧ tvLd Try.prog 141 = some (3, true) ∧ tvZero Try.prog 141 = .agg [.int .i64 0, .int .i64 0, .int .i64 0] ∧ tvFld Try.prog 141 0 = some (0, 1, 3) ∧ tvFld Try.prog 141 1 = some (1, 1, 3) ∧ tvFld Try.prog 141 2 = some (2, 1, 3) ∧ tvArr Try.prog 141 = none ∧ tvBuild Try.prog 141 = true ∧ tvNil Try.prog 141 = [] := by
  refine ⟨?_, ?_, ?_, ?_, ?_, ?_, ?_, ?_, ?_, ?_, ?_, ?_⟩ <;> kernel_rfl
theorem ty142 : Try.prog.cellsOf 142 = 3 ∧ tvSlc Try.prog 142 = 0 ∧ tvStr Try.prog 142 = false ∧ tvMap Try.prog 142 = none ∧ tvLd Try.prog 142 = some (3, true) ∧ tvZero Try.prog 142 = .agg [.int .i64 0, .int .i64 0, .int .i64 0] ∧ tvFld Try.prog 142 0 = some (0, 1, 3) ∧ tvFld Try.prog 142 1 = some (1, 1, 3) ∧ tvFld Try.prog 142 2 = some (2, 1, 3) ∧ tvArr Try.prog 142 = none ∧ tvBuild Try.prog 142 = true ∧ tvNil Try.prog 142 = [] := by
  refine ⟨?_, ?_, ?_, ?_, ?_, ?_, ?_, ?_, ?_, ?_, ?_, ?_⟩ <;> kernel_rfl
theorem ty143 : Try.prog.cellsOf 143 = 1 ∧ tvSlc Try.prog 143 = 3 ∧ tvElem Try.prog 143 = 147 ∧ tvStr Try.prog 143 = false ∧ tvMap Try.prog 143 = none ∧ tvLd Try.prog 143 = some (1, false) ∧ tvZero Try.prog 143 = .nils ∧ tvNil Try.prog 143 = [(0, 3)] := by
  refine ⟨?_, ?_, ?_, ?_, ?_, ?_, ?_, ?_⟩ <;> kernel_rfl
theorem ty144 : Try.prog.cellsOf 144 = 1 ∧ tvSlc Try.prog 144 = 0 ∧ tvStr Try.prog 144 = false ∧ tvMap Try.prog 144 = none ∧ tvLd Try.prog 144 = some (1, false) ∧ tvZero Try.prog 144 = .nilf ∧ tvNil Try.prog 144 = [] := by
  refine ⟨?_, ?_, ?_, ?_, ?_, ?_, ?_⟩ <;> kernel_rfl
theorem ty145 : Try.prog.cellsOf 145 = 1 ∧ tvSlc Try.prog 145 = 0 ∧ tvStr Try.prog 145 = false ∧ tvMap Try.prog 145 = none ∧ tvLd Try.prog 145 = some (1, false) ∧ tvZero Try.prog 145 = .nilf ∧ tvNil Try.prog 145 = [] := by
  refine ⟨?_, ?_, ?_, ?_, ?_, ?_, ?_⟩ <;> kernel_rfl
theorem ty146 : Try.prog.cellsOf 146 = 3 ∧ tvSlc Try.prog 146 = 0 ∧ tvStr Try.prog 146 = false ∧ tvMap Try.prog 146 = none ∧ tvLd Try.prog 146 = some (3, true) ∧ tvZero Try.prog 146 = .agg [.int .i64 0, .int .i64 0, .nilf] ∧ tvFld Try.prog 146 0 = some (0, 1, 3) ∧ tvFld Try.prog 146 1 = some (1, 1, 3) ∧ tvFld Try.prog 146 2 = some (2, 1, 145) ∧ tvArr Try.prog 146 = none ∧ tvBuild Try.prog 146 = true ∧ tvNil Try.prog 146 = [] := by
  refine ⟨?_, ?_, ?_, ?_, ?_, ?_, ?_, ?_, ?_, ?_, ?_, ?_⟩ <;> kernel_rfl
theorem ty147 : Try.prog.cellsOf 147 = 3 ∧ tvSlc Try.prog 147 = 0 ∧ tvStr Try.prog 147 = false ∧ tvMap Try.prog 147 = none ∧ tvLd Try.prog 147 = some (3, true) ∧ tvZero Try.prog 147 = .agg [.int .i64 0, .int .i64 0, .nilf] ∧ tvFld Try.prog 147 0 = some (0, 1, 3) ∧ tvFld Try.prog 147 1 = some (1, 1, 3) ∧ tvFld Try.prog 147 2 = some (2, 1, 145) ∧ tvArr Try.prog 147 = none ∧ tvBuild Try.prog 147 = true ∧ tvNil Try.prog 147 = [] := by
  refine ⟨?_, ?_, ?_, ?_, ?_, ?_, ?_, ?_, ?_, ?_, ?_, ?_⟩ <;> kernel_rfl
theorem ty148 : Try.prog.cellsOf 148 = 1 ∧ tvSlc Try.prog 148 = 0 ∧ tvStr Try.prog 148 = false ∧ tvMap Try.prog 148 = none ∧ tvLd Try.prog 148 = some (1, false) ∧ tvZero Try.prog 148 = .nilf ∧ tvNil Try.prog 148 = [] := by
  refine ⟨?_, ?_, ?_, ?_, ?_, ?_, ?_⟩ <;> kernel_rfl
theorem ty149 : Try.prog.cellsOf 149 = 1 ∧ tvSlc Try.prog 149 = 0 ∧ tvStr Try.prog 149 = false ∧ tvMap Try.prog 149 = none ∧ tvLd Try.prog 149 = some (1, false) ∧ tvZero Try.prog 149 = .nilf ∧ tvNil Try.prog 149 = [] := by
  refine ⟨?_, ?_, ?_, ?_, ?_, ?_, ?_⟩ <;> kernel_rfl
theorem ty150 : Try.prog.cellsOf 150 = 1 ∧ tvSlc Try.prog 150 = 0 ∧ tvStr Try.prog 150 = false ∧ tvMap Try.prog 150 = none ∧ tvLd Try.prog 150 = some (1, false) ∧ tvZero Try.prog 150 = .nilf ∧ tvNil Try.prog 150 = [] := by
  refine ⟨?_, ?_, ?_, ?_, ?_, ?_, ?_⟩ <;> kernel_rfl
theorem ty151 : Try.prog.cellsOf 151 = 1 ∧ tvSlc Try.prog 151 = 0 ∧ tvStr Try.prog 151 = false ∧ tvMap Try.prog 151 = none ∧ tvLd Try.prog 151 = some (1, false) ∧ tvZero Try.prog 151 = .nilf ∧ tvNil Try.prog 151 = [] := by
  refine ⟨?_, ?_, ?_, ?_, ?_, ?_, ?_⟩ <;> kernel_rfl
theorem ty152 : Try.prog.cellsOf 152 = 1 ∧ tvSlc Try.prog 152 = 0 ∧ tvStr Try.prog 152 = false ∧ tvMap Try.prog 152 = none ∧ tvInt Try.prog 152 = some .i64 ∧ tvLd Try.prog 152 = some (1, false) ∧ tvZero Try.prog 152 = .int .i64 0 ∧ tvNil Try.prog 152 = [] := by
  refine ⟨?_, ?_, ?_, ?_, ?_, ?_, ?_, ?_⟩ <;> kernel_rfl
theorem ty154 : Try.prog.cellsOf 154 = 1 ∧ tvSlc Try.prog 154 = 0 ∧ tvStr Try.prog 154 = false ∧ tvMap Try.prog 154 = none ∧ tvLd Try.prog 154 = some (1, false) ∧ tvZero Try.prog 154 = .nilf ∧ tvNil Try.prog 154 = [] := by
  refine ⟨?_, ?_, ?_, ?_, ?_, ?_, ?_⟩ <;> kernel_rfl
theorem ty155 : Try.prog.cellsOf 155 = 1 ∧ tvSlc Try.prog 155 = 0 ∧ tvStr Try.prog 155 = false ∧ tvMap Try.prog 155 = none ∧ tvLd Try.prog 155 = some (1, false) ∧ tvZero Try.prog 155 = .nilf ∧ tvNil Try.prog 155 = [] := by
  refine ⟨?_, ?_, ?_, ?_, ?_, ?_, ?_⟩ <;> kernel_rfl
theorem ty156 : Try.prog.cellsOf 156 = 1 ∧ tvSlc Try.prog 156 = 0 ∧ tvStr Try.prog 156 = false ∧ tvMap Try.prog 156 = none ∧ tvLd Try.prog 156 = some (1, false) ∧ tvZero Try.prog 156 = .nilf ∧ tvNil Try.prog 156 = [] := by
  refine ⟨?_, ?_, ?_, ?_, ?_, ?_, ?_⟩ <;> kernel_rfl
theorem ty158 : Try.prog.cellsOf 158 = 1 ∧ tvSlc Try.prog 158 = 0 ∧ tvStr Try.prog 158 = false ∧ tvMap Try.prog 158 = none ∧ tvLd Try.prog 158 = some (1, false) ∧ tvZero Try.prog 158 = .nilf ∧ tvNil Try.prog 158 = [] := by
  refine ⟨?_, ?_, ?_, ?_, ?_, ?_, ?_⟩ <;> kernel_rfl
theorem ty159 : Try.prog.cellsOf 159 = 1 ∧ tvSlc Try.prog 159 = 0 ∧ tvStr Try.prog 159 = false ∧ tvMap Try.prog 159 = none ∧ tvLd Try.prog 159 = some (1, false) ∧ tvZero Try.prog 159 = .nilf ∧ tvNil Try.prog 159 = [] := by
  refine ⟨?_, ?_, ?_, ?_, ?_, ?_, ?_⟩ <;> kernel_rfl
theorem ty160 : Try.prog.cellsOf 160 = 1 ∧ tvSlc Try.prog 160 = 0 ∧ tvStr Try.prog 160 = false ∧ tvMap Try.prog 160 = none ∧ tvInt Try.prog 160 = some .u32 ∧ tvLd Try.prog 160 = some (1, false) ∧ tvZero Try.prog 160 = .int .u32 0 ∧ tvNil Try.prog 160 = [] := by
  refine ⟨?_, ?_, ?_, ?_, ?_, ?_, ?_, ?_⟩ <;> kernel_rfl
theorem ty161 : Try.prog.cellsOf 161 = 1 ∧ tvSlc Try.prog 161 = 0 ∧ tvStr Try.prog 161 = false ∧ tvMap Try.prog 161 = none ∧ tvLd Try.prog 161 = some (1, false) ∧ tvZero Try.prog 161 = .nilf ∧ tvNil Try.prog 161 = [] := by
  refine ⟨?_, ?_, ?_, ?_, ?_, ?_, ?_⟩ <;> kernel_rfl
theorem ty162 : Try.prog.cellsOf 162 = 1 ∧ tvSlc Try.prog 162 = 0 ∧ tvStr Try.prog 162 = false ∧ tvMap Try.prog 162 = none ∧ tvInt Try.prog 162 = some .u64 ∧ tvLd Try.prog 162 = some (1, false) ∧ tvZero Try.prog 162 = .int .u64 0 ∧ tvNil Try.prog 162 = [] := by
  refine ⟨?_, ?_, ?_, ?_, ?_, ?_, ?_, ?_⟩ <;> kernel_rfl
theorem ty163 : Try.prog.cellsOf 163 = 3 ∧ tvSlc Try.prog 163 = 0 ∧ tvStr Try.prog 163 = false ∧ tvMap Try.prog 163 = none ∧ tvLd Try.prog 163 = some (3, true) ∧ tvZero Try.prog 163 = .agg [.int .i64 0, .int .i64 0, .int .i64 0] ∧ tvFld Try.prog 163 0 = some (0, 1, 3) ∧ tvFld Try.prog 163 1 = some (1, 1, 3) ∧ tvFld Try.prog 163 2 = some (2, 1, 3) ∧ tvArr Try.prog 163 = none ∧ tvBuild Try.prog 163 = true ∧ tvNil Try.prog 163 = [] := by
  refine ⟨?_, ?_, ?_, ?_, ?_, ?_, ?_, ?_, ?_, ?_, ?_, ?_⟩ <;> kernel_rfl
theorem ty164 : Try.prog.cellsOf 164 = 3 ∧ tvSlc Try.prog 164 = 0 ∧ tvStr Try.prog 164 = false ∧ tvMap Try.prog 164 = none ∧ tvLd Try.prog 164 = some (3, true) ∧ tvZero Try.prog 164 = .agg [.int .i64 0, .int .i64 0, .int .i64 0] ∧ tvFld Try.prog 164 0 = some (0, 1, 3) ∧ tvFld Try.prog 164 1 = some (1, 1, 3) ∧ tvFld Try.prog 164 2 = some (2, 1, 3) ∧ tvArr Try.prog 164 = none ∧ tvBuild Try.prog 164 = true ∧ tvNil Try.prog 164 = [] := by
  refine ⟨?_, ?_, ?_, ?_, ?_, ?_, ?_, ?_, ?_, ?_, ?_, ?_⟩ <;> kernel_rfl
theorem ty165 : Try.prog.cellsOf 165 = 1 ∧ tvSlc Try.prog 165 = 0 ∧ tvStr Try.prog 165 = false ∧ tvMap Try.prog 165 = none ∧ tvLd Try.prog 165 = some (1, false) ∧ tvZero Try.prog 165 = .nilf ∧ tvNil Try.prog 165 = [] := by
  refine ⟨?_, ?_, ?_, ?_, ?_, ?_, ?_⟩ <;> kernel_rfl
theorem ty166 : Try.prog.cellsOf 166 = 24 ∧ tvSlc Try.prog 166 = 0 ∧ tvStr Try.prog 166 = false ∧ tvMap Try.prog 166 = none ∧ tvLd Try.prog 166 = some (24, true) ∧ tvZero Try.prog 166 = .agg [.int .i64 0, .int .i64 0, .int .i64 0, .int .i64 0, .int .i64 0, .int .i64 0, .int .i64 0, .int .i64 0, .int .i64 0, .int .i64 0, .int .i64 0, .int .i64 0, .int .i64 0, .int .i64 0, .int .i64 0, .int .i64 0, .int .i64 0, .int .i64 0, .int .i64 0, .int .i64 0, .int .i64 0, .int .i64 0, .int .i64 0, .int .i64 0] ∧ tvArr Try.prog 166 = some (24, 1) ∧ tvArrE Try.prog 166 = some (24, 3) ∧ tvBuild Try.prog 166 = true ∧ tvNil Try.prog 166 = [] := by
  refine ⟨?_, ?_, ?_, ?_, ?_, ?_, ?_, ?_, ?_, ?_⟩ <;> kernel_rfl
theorem ty167 : Try.prog.cellsOf 167 = 50 ∧ tvSlc Try.prog 167 = 0 ∧ tvStr Try.prog 167 = false ∧ tvMap Try.prog 167 = none ∧ tvLd Try.prog 167 = some (50, true) ∧ tvZero Try.prog 167 = .agg [.int .i64 0, .int .i64 0, .int .i64 0, .int .i64 0, .int .i64 0, .int .i64 0, .int .i64 0, .int .i64 0, .int .i64 0, .int .i64 0, .int .i64 0, .int .i64 0, .int .i64 0, .int .i64 0, .int .i64 0, .int .i64 0, .int .i64 0, .int .i64 0, .int .i64 0, .int .i64 0, .int .i64 0, .int .i64 0, .int .i64 0, .int .i64 0, .int .i64 0, .int .i64 0, .int .i64 0, .int .i64 0, .int .i64 0, .int .i64 0, .int .i64 0, .int .i64 0, .int .i64 0, .int .i64 0, .int .i64 0, .int .i64 0, .int .i64 0, .int .i64 0, .int .i64 0, .int .i64 0, .int .i64 0, .int .i64 0, .int .i64 0, .int .i64 0, .int .i64 0, .int .i64 0, .int .i64 0, .int .i64 0, .int .i64 0, .int .i64 0] ∧ tvFld Try.prog 167 0 = some (0, 1, 3) ∧ tvFld Try.prog 167 1 = some (1, 1, 3) ∧ tvFld Try.prog 167 2 = some (2, 24, 166) ∧ tvFld Try.prog 167 3 = some (26, 24, 166) ∧ tvArr Try.prog 167 = none ∧ tvBuild Try.prog 167 = true ∧ tvNil Try.prog 167 = [] := by
  refine ⟨?_, ?_, ?_, ?_, ?_, ?_, ?_, ?_, ?_, ?_, ?_, ?_, ?_⟩ <;> kernel_rfl
theorem ty168 : Try.prog.cellsOf 168 = 50 ∧ tvSlc Try.prog 168 = 0 ∧ tvStr Try.prog 168 = false ∧ tvMap Try.prog 168 = none ∧ tvLd Try.prog 168 = some (50, true) ∧ tvZero Try.prog 168 = .agg [.int .i64 0, .int .i64 0, .int .i64 0, .int .i64 0, .int .i64 0, .int .i64 0, .int .i64 0, .int .i64 0, .int .i64 0, .int .i64 0, .int .i64 0, .int .i64 0, .int .i64 0, .int .i64 0, .int .i64 0, .int .i64 0, .int .i64 0, .int .i64 0, .int .i64 0, .int .i64 0, .int .i64 0, .int .i64 0, .int .i64 0, .int .i64 0, .int .i64 0, .int .i64 0, .int .i64 0, .int .i64 0, .int .i64 0, .int .i64 0, .int .i64 0, .int .i64 0, .int .i64 0, .int .i64 0, .int .i64 0, .int .i64 0, .int .i64 0, .int .i64 0, .int .i64 0, .int .i64 0, .int .i64 0, .int .i64 0, .int .i64 0, .int .i64 0, .int .i64 0, .int .i64 0, .int .i64 0, .int .i64 0, .int .i64 0, .int .i64 0] ∧ tvFld Try.prog 168 0 = some (0, 1, 3) ∧ tvFld Try.prog 168 1 = some (1, 1, 3) ∧ tvFld Try.prog 168 2 = some (2, 24, 166) ∧ tvFld Try.prog 168 3 = some (26, 24, 166) ∧ tvArr Try.prog 168 = none ∧ tvBuild Try.prog 168 = true ∧ tvNil Try.prog 168 = [] := by
  refine ⟨?_, ?_, ?_, ?_, ?_, ?_, ?_, ?_, ?_, ?_, ?_, ?_, ?_⟩ <;> kernel_rfl
theorem ty169 : Try.prog.cellsOf 169 = 1 ∧ tvSlc Try.prog 169 = 0 ∧ tvStr Try.prog 169 = false ∧ tvMap Try.prog 169 = none ∧ tvLd Try.prog 169 = some (1, false) ∧ tvZero Try.prog 169 = .nilf ∧ tvNil Try.prog 169 = [] := by
  refine ⟨?_, ?_, ?_, ?_, ?_, ?_, ?_⟩ <;> kernel_rfl
theorem ty170 : Try.prog.cellsOf 170 = 1 ∧ tvSlc Try.prog 170 = 0 ∧ tvStr Try.prog 170 = false ∧ tvMap Try.prog 170 = none ∧ tvLd Try.prog 170 = some (1, false) ∧ tvZero Try.prog 170 = .nilf ∧ tvNil Try.prog 170 = [] := by
  refine ⟨?_, ?_, ?_, ?_, ?_, ?_, ?_⟩ <;> kernel_rfl
theorem ty171 : Try.prog.cellsOf 171 = 1 ∧ tvSlc Try.prog 171 = 0 ∧ tvStr Try.prog 171 = false ∧ tvMap Try.prog 171 = none ∧ tvLd Try.prog 171 = some (1, false) ∧ tvZero Try.prog 171 = .nilf ∧ tvNil Try.prog 171 = [] := by
  refine ⟨?_, ?_, ?_, ?_, ?_, ?_, ?_⟩ <;> kernel_rfl
theorem ty172 : Try.prog.cellsOf 172 = 1 ∧ tvSlc Try.prog 172 = 0 ∧ tvStr Try.prog 172 = false ∧ tvMap Try.prog 172 = none ∧ tvLd Try.prog 172 = some (1, false) ∧ tvZero Try.prog 172 = .nilf ∧ tvNil Try.prog 172 = [] := by
  refine ⟨?_, ?_, ?_, ?_, ?_, ?_, ?_⟩ <;> kernel_rfl
theorem ty173 : Try.prog.cellsOf 173 = 1 ∧ tvSlc Try.prog 173 = 0 ∧ tvStr Try.prog 173 = false ∧ tvMap Try.prog 173 = none ∧ tvLd Try.prog 173 = some (1, false) ∧ tvZero Try.prog 173 = .nilf ∧ tvNil Try.prog 173 = [] := by
  refine ⟨?_, ?_, ?_, ?_, ?_, ?_, ?_⟩ <;> kernel_rfl
theorem ty174 : Try.prog.cellsOf 174 = 1 ∧ tvSlc Try.prog 174 = 0 ∧ tvStr Try.prog 174 = false ∧ tvMap Try.prog 174 = none ∧ tvInt Try.prog 174 = some .u64 ∧ tvLd Try.prog 174 = some (1, false) ∧ tvZero Try.prog 174 = .int .u64 0 ∧ tvNil Try.prog 174 = [] := by
  refine ⟨?_, ?_, ?_, ?_, ?_, ?_, ?_, ?_⟩ <;> kernel_rfl
theorem ty175 : Try.prog.cellsOf 175 = 1 ∧ tvSlc Try.prog 175 = 0 ∧ tvStr Try.prog 175 = false ∧ tvMap Try.prog 175 = none ∧ tvLd Try.prog 175 = some (1, false) ∧ tvZero Try.prog 175 = .nilf ∧ tvNil Try.prog 175 = [] := by
  refine ⟨?_, ?_, ?_, ?_, ?_, ?_, ?_⟩ <;> kernel_rfl
theorem ty176 : Try.prog.cellsOf 176 = 1 ∧ tvSlc Try.prog 176 = 0 ∧ tvStr Try.prog 176 = false ∧ tvMap Try.prog 176 = none ∧ tvLd Try.prog 176 = some (1, false) ∧ tvZero Try.prog 176 = .nilf ∧ tvNil Try.prog 176 = [] := by
  refine ⟨?_, ?_, ?_, ?_, ?_, ?_, ?_⟩ <;> kernel_rfl
theorem ty177 : Try.prog.cellsOf 177 = 1 ∧ tvSlc Try.prog 177 = 0 ∧ tvStr Try.prog 177 = false ∧ tvMap Try.prog 177 = none ∧ tvLd Try.prog 177 = some (1, false) ∧ tvZero Try.prog 177 = .nilf ∧ tvNil Try.prog 177 = [] := by
  refine ⟨?_, ?_, ?_, ?_, ?_, ?_, ?_⟩ <;> kernel_rfl
theorem ty178 : Try.prog.cellsOf 178 = 1 ∧ tvSlc Try.prog 178 = 0 ∧ tvStr Try.prog 178 = false ∧ tvMap Try.prog 178 = none ∧ tvLd Try.prog 178 = some (1, false) ∧ tvZero Try.prog 178 = .nilp ∧ tvNil Try.prog 178 = [] := by
  refine ⟨?_, ?_, ?_, ?_, ?_, ?_, ?_⟩ <;> kernel_rfl
theorem ty179 : Try.prog.cellsOf 179 = 1 ∧ tvSlc Try.prog 179 = 0 ∧ tvStr Try.prog 179 = false ∧ tvMap Try.prog 179 = none ∧ tvLd Try.prog 179 = some (1, false) ∧ tvZero Try.prog 179 = .nilf ∧ tvNil Try.prog 179 = [] := by
  refine ⟨?_, ?_, ?_, ?_, ?_, ?_, ?_⟩ <;> kernel_rfl
theorem ty180 : Try.prog.cellsOf 180 = 1 ∧ tvSlc Try.prog 180 = 0 ∧ tvStr Try.prog 180 = false ∧ tvMap Try.prog 180 = none ∧ tvLd Try.prog 180 = some (1, false) ∧ tvZero Try.prog 180 = .nilf ∧ tvNil Try.prog 180 = [] := by
  refine ⟨?_, ?_, ?_, ?_, ?_, ?_, ?_⟩ <;> kernel_rfl
theorem ty181 : Try.prog.cellsOf 181 = 1 ∧ tvSlc Try.prog 181 = 0 ∧ tvStr Try.prog 181 = false ∧ tvMap Try.prog 181 = none ∧ tvLd Try.prog 181 = some (1, false) ∧ tvZero Try.prog 181 = .nilf ∧ tvNil Try.prog 181 = [] := by
  refine ⟨?_, ?_, ?_, ?_, ?_, ?_, ?_⟩ <;> kernel_rfl
theorem ty182 : Try.prog.cellsOf 182 = 1 ∧ tvSlc Try.prog 182 = 0 ∧ tvStr Try.prog 182 = false ∧ tvMap Try.prog 182 = none ∧ tvLd Try.prog 182 = some (1, false) ∧ tvZero Try.prog 182 = .nilf ∧ tvNil Try.prog 182 = [] := by
  refine ⟨?_, ?_, ?_, ?_, ?_, ?_, ?_⟩ <;> kernel_rfl
theorem ty183 : Try.prog.cellsOf 183 = 1 ∧ tvSlc Try.prog 183 = 0 ∧ tvStr Try.prog 183 = false ∧ tvMap Try.prog 183 = none ∧ tvLd Try.prog 183 = some (1, false) ∧ tvZero Try.prog 183 = .nilp ∧ tvNil Try.prog 183 = [] := by
  refine ⟨?_, ?_, ?_, ?_, ?_, ?_, ?_⟩ <;> kernel_rfl
theorem ty185 : Try.prog.cellsOf 185 = 1 ∧ tvSlc Try.prog 185 = 0 ∧ tvStr Try.prog 185 = false ∧ tvMap Try.prog 185 = none ∧ tvLd Try.prog 185 = some (1, false) ∧ tvZero Try.prog 185 = .nilf ∧ tvNil Try.prog 185 = [] := by
  refine ⟨?_, ?_, ?_, ?_, ?_, ?_, ?_⟩ <;> kernel_rfl
theorem ty186 : Try.prog.cellsOf 186 = 1 ∧ tvSlc Try.prog 186 = 0 ∧ tvStr Try.prog 186 = false ∧ tvMap Try.prog 186 = none ∧ tvLd Try.prog 186 = some (1, false) ∧ tvZero Try.prog 186 = .nilf ∧ tvNil Try.prog 186 = [] := by
  refine ⟨?_, ?_, ?_, ?_, ?_, ?_, ?_⟩ <;> kernel_rfl
theorem ty187 : Try.prog.cellsOf 187 = 1 ∧ tvSlc Try.prog 187 = 0 ∧ tvStr Try.prog 187 = false ∧ tvMap Try.prog 187 = none ∧ tvLd Try.prog 187 = some (1, false) ∧ tvZero Try.prog 187 = .nilf ∧ tvNil Try.prog 187 = [] := by
  refine ⟨?_, ?_, ?_, ?_, ?_, ?_, ?_⟩ <;> kernel_rfl
theorem ty188 : Try.prog.cellsOf 188 = 4 ∧ tvSlc Try.prog 188 = 0 ∧ tvStr Try.prog 188 = false ∧ tvMap Try.prog 188 = none ∧ tvLd Try.prog 188 = some (4, true) ∧ tvZero Try.prog 188 = .agg [.nilp, .nilp, .nilp, .str []] ∧ tvFld Try.prog 188 0 = some (0, 1, 17) ∧ tvFld Try.prog 188 1 = some (1, 1, 17) ∧ tvFld Try.prog 188 2 = some (2, 1, 17) ∧ tvFld Try.prog 188 3 = some (3, 1, 9) ∧ tvArr Try.prog 188 = none ∧ tvBuild Try.prog 188 = true ∧ tvNil Try.prog 188 = [] := by
  refine ⟨?_, ?_, ?_, ?_, ?_, ?_, ?_, ?_, ?_, ?_, ?_, ?_, ?_⟩ <;> kernel_rfl
theorem ty189 : Try.prog.cellsOf 189 = 4 ∧ tvSlc Try.prog 189 = 0 ∧ tvStr Try.prog 189 = false ∧ tvMap Try.prog 189 = none ∧ tvLd Try.prog 189 = some (4, true) ∧ tvZero Try.prog 189 = .agg [.nilp, .nilp, .nilp, .str []] ∧ tvFld Try.prog 189 0 = some (0, 1, 17) ∧ tvFld Try.prog 189 1 = some (1, 1, 17) ∧ tvFld Try.prog 189 2 = some (2, 1, 17) ∧ tvFld Try.prog 189 3 = some (3, 1, 9) ∧ tvArr Try.prog 189 = none ∧ tvBuild Try.prog 189 = true ∧ tvNil Try.prog 189 = [] := by
  refine ⟨?_, ?_, ?_, ?_, ?_, ?_, ?_, ?_, ?_, ?_, ?_, ?_, ?_⟩ <;> kernel_rfl
theorem ty190 : Try.prog.cellsOf 190 = 0 ∧ tvSlc Try.prog 190 = 0 ∧ tvStr Try.prog 190 = false ∧ tvMap Try.prog 190 = none ∧ tvZero Try.prog 190 = .agg [] ∧ tvArr Try.prog 190 = some (0, 1) ∧ tvArrE Try.prog 190 = some (0, 16) ∧ tvBuild Try.prog 190 = true ∧ tvNil Try.prog 190 = [] := by
  refine ⟨?_, ?_, ?_, ?_, ?_, ?_, ?_, ?_, ?_⟩ <;> kernel_rfl
theorem ty191 : Try.prog.cellsOf 191 = 0 ∧ tvSlc Try.prog 191 = 0 ∧ tvStr Try.prog 191 = false ∧ tvMap Try.prog 191 = none ∧ tvZero Try.prog 191 = .agg [] ∧ tvFld Try.prog 191 0 = some (0, 0, 190) ∧ tvArr Try.prog 191 = none ∧ tvBuild Try.prog 191 = true ∧ tvNil Try.prog 191 = [] := by
  refine ⟨?_, ?_, ?_, ?_, ?_, ?_, ?_, ?_, ?_⟩ <;> kernel_rfl
theorem ty192 : Try.prog.cellsOf 192 = 0 ∧ tvSlc Try.prog 192 = 0 ∧ tvStr Try.prog 192 = false ∧ tvMap Try.prog 192 = none ∧ tvZero Try.prog 192 = .agg [] ∧ tvFld Try.prog 192 0 = some (0, 0, 190) ∧ tvArr Try.prog 192 = none ∧ tvBuild Try.prog 192 = true ∧ tvNil Try.prog 192 = [] := by
  refine ⟨?_, ?_, ?_, ?_, ?_, ?_, ?_, ?_, ?_⟩ <;> kernel_rfl
theorem ty193 : Try.prog.cellsOf 193 = 1 ∧ tvSlc Try.prog 193 = 0 ∧ tvStr Try.prog 193 = false ∧ tvMap Try.prog 193 = none ∧ tvLd Try.prog 193 = some (1, false) ∧ tvZero Try.prog 193 = .nilf ∧ tvNil Try.prog 193 = [] := by
  refine ⟨?_, ?_, ?_, ?_, ?_, ?_, ?_⟩ <;> kernel_rfl
theorem ty194 : Try.prog.cellsOf 194 = 1 ∧ tvSlc Try.prog 194 = 0 ∧ tvStr Try.prog 194 = false ∧ tvMap Try.prog 194 = none ∧ tvInt Try.prog 194 = some .u8 ∧ tvLd Try.prog 194 = some (1, false) ∧ tvZero Try.prog 194 = .int .u8 0 ∧ tvNil Try.prog 194 = [] := by
  refine ⟨?_, ?_, ?_, ?_, ?_, ?_, ?_, ?_⟩ <;> kernel_rfl
theorem ty195 : Try.prog.cellsOf 195 = 1 ∧ tvSlc Try.prog 195 = 0 ∧ tvStr Try.prog 195 = false ∧ tvMap Try.prog 195 = none ∧ tvInt Try.prog 195 = some .u8 ∧ tvLd Try.prog 195 = some (1, false) ∧ tvZero Try.prog 195 = .int .u8 0 ∧ tvNil Try.prog 195 = [] := by
  refine ⟨?_, ?_, ?_, ?_, ?_, ?_, ?_, ?_⟩ <;> kernel_rfl
theorem ty196 : Try.prog.cellsOf 196 = 1 ∧ tvSlc Try.prog 196 = 0 ∧ tvStr Try.prog 196 = false ∧ tvMap Try.prog 196 = none ∧ tvLd Try.prog 196 = some (1, false) ∧ tvZero Try.prog 196 = .nilf ∧ tvNil Try.prog 196 = [] := by
  refine ⟨?_, ?_, ?_, ?_, ?_, ?_, ?_⟩ <;> kernel_rfl
theorem ty197 : Try.prog.cellsOf 197 = 1 ∧ tvSlc Try.prog 197 = 0 ∧ tvStr Try.prog 197 = false ∧ tvMap Try.prog 197 = none ∧ tvLd Try.prog 197 = some (1, false) ∧ tvZero Try.prog 197 = .nilp ∧ tvNil Try.prog 197 = [] := by
  refine ⟨?_, ?_, ?_, ?_, ?_, ?_, ?_⟩ <;> kernel_rfl
theorem ty198 : Try.prog.cellsOf 198 = 1 ∧ tvSlc Try.prog 198 = 0 ∧ tvStr Try.prog 198 = false ∧ tvMap Try.prog 198 = none ∧ tvInt Try.prog 198 = some .i32 ∧ tvLd Try.prog 198 = some (1, false) ∧ tvZero Try.prog 198 = .int .i32 0 ∧ tvNil Try.prog 198 = [] := by
  refine ⟨?_, ?_, ?_, ?_, ?_, ?_, ?_, ?_⟩ <;> kernel_rfl
theorem ty199 : Try.prog.cellsOf 199 = 1 ∧ tvSlc Try.prog 199 = 0 ∧ tvStr Try.prog 199 = false ∧ tvMap Try.prog 199 = none ∧ tvInt Try.prog 199 = some .i32 ∧ tvLd Try.prog 199 = some (1, false) ∧ tvZero Try.prog 199 = .int .i32 0 ∧ tvNil Try.prog 199 = [] := by
  refine ⟨?_, ?_, ?_, ?_, ?_, ?_, ?_, ?_⟩ <;> kernel_rfl
theorem ty200 : Try.prog.cellsOf 200 = 11 ∧ tvSlc Try.prog 200 = 0 ∧ tvStr Try.prog 200 = false ∧ tvMap Try.prog 200 = none ∧ tvLd Try.prog 200 = some (11, true) ∧ tvZero Try.prog 200 = .agg [.int .u64 0, .int .u64 0, .int .u32 0, .int .u8 0, .int .u8 0, .int .u8 0, .int .u8 0, .nilf, .nilp, .int .i32 0, .int .i32 0] ∧ tvFld Try.prog 200 0 = some (0, 1, 12) ∧ tvFld Try.prog 200 1 = some (1, 1, 12) ∧ tvFld Try.prog 200 2 = some (2, 1, 160) ∧ tvFld Try.prog 200 3 = some (3, 1, 194) ∧ tvFld Try.prog 200 4 = some (4, 1, 5) ∧ tvFld Try.prog 200 5 = some (5, 1, 5) ∧ tvFld Try.prog 200 6 = some (6, 1, 195) ∧ tvFld Try.prog 200 7 = some (7, 1, 196) ∧ tvFld Try.prog 200 8 = some (8, 1, 197) ∧ tvFld Try.prog 200 9 = some (9, 1, 198) ∧ tvFld Try.prog 200 10 = some (10, 1, 199) ∧ tvArr Try.prog 200 = none ∧ tvBuild Try.prog 200 = true ∧ tvNil Try.prog 200 = [] := by
  refine ⟨?_, ?_, ?_, ?_, ?_, ?_, ?_, ?_, ?_, ?_, ?_, ?_, ?_, ?_, ?_, ?_, ?_, ?_, ?_, ?_⟩ <;> kernel_rfl
theorem ty201 : Try.prog.cellsOf 201 = 11 ∧ tvSlc Try.prog 201 = 0 ∧ tvStr Try.prog 201 = false ∧ tvMap Try.prog 201 = none ∧ tvLd Try.prog 201 = some (11, true) ∧ tvZero Try.prog 201 = .agg [.int .u64 0, .int .u64 0, .int .u32 0, .int .u8 0, .int .u8 0, .int .u8 0, .int .u8 0, .nilf, .nilp, .int .i32 0, .int .i32 0] ∧ tvFld Try.prog 201 0 = some (0, 1, 12) ∧ tvFld Try.prog 201 1 = some (1, 1, 12) ∧ tvFld Try.prog 201 2 = some (2, 1, 160) ∧ tvFld Try.prog 201 3 = some (3, 1, 194) ∧ tvFld Try.prog 201 4 = some (4, 1, 5) ∧ tvFld Try.prog 201 5 = some (5, 1, 5) ∧ tvFld Try.prog 201 6 = some (6, 1, 195) ∧ tvFld Try.prog 201 7 = some (7, 1, 196) ∧ tvFld Try.prog 201 8 = some (8, 1, 197) ∧ tvFld Try.prog 201 9 = some (9, 1, 198) ∧ tvFld Try.prog 201 10 = some (10, 1, 199) ∧ tvArr Try.prog 201 = none ∧ tvBuild Try.prog 201 = true ∧ tvNil Try.prog 201 = [] := by
  refine ⟨?_, ?_, ?_, ?_, ?_, ?_, ?_, ?_, ?_, ?_, ?_, ?_, ?_, ?_, ?_, ?_, ?_, ?_, ?_, ?_⟩ <;> kernel_rfl
theorem ty202 : Try.prog.cellsOf 202 = 1 ∧ tvSlc Try.prog 202 = 0 ∧ tvStr Try.prog 202 = false ∧ tvMap Try.prog 202 = none ∧ tvLd Try.prog 202 = some (1, false) ∧ tvNil Try.prog 202 = [] := by
  refine ⟨?_, ?_, ?_, ?_, ?_, ?_⟩ <;> kernel_rfl
end Sim
