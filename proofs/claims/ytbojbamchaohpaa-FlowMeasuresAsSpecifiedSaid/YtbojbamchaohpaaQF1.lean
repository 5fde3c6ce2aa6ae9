/- What functions of this seat compute, by values: contracts (lemmas of the statement's proof, under the conditions that each names). -/
import Derived.Test.YtbojbamchaohpaaSimX
import Derived.Test.YtbojbamchaohpaaProg
import Derived.KernelRfl
import Init
namespace Sim
open Go Go.Proofs
theorem ty3 : Try.prog.cellsOf 3 = 1 ∧ tvSlc Try.prog 3 = 0 ∧ tvStr Try.prog 3 = false ∧ tvMap Try.prog 3 = none ∧ tvInt Try.prog 3 = some .i64 ∧ tvLd Try.prog 3 = some (1, false) ∧ tvZero Try.prog 3 = .int .i64 0 ∧ tvNil Try.prog 3 = [] := by
 refine ⟨?_, ?_, ?_, ?_, ?_, ?_, ?_, ?_⟩ <;> kernel_rfl
theorem ty4 : Try.prog.cellsOf 4 = 1 ∧ tvSlc Try.prog 4 = 0 ∧ tvStr Try.prog 4 = false ∧ tvMap Try.prog 4 = none ∧ tvBool Try.prog 4 = true ∧ tvLd Try.prog 4 = some (1, false) ∧ tvZero Try.prog 4 = .bool false ∧ tvNil Try.prog 4 = [] := by
 refine ⟨?_, ?_, ?_, ?_, ?_, ?_, ?_, ?_⟩ <;> kernel_rfl
theorem ty20 : Try.prog.cellsOf 20 = 1 ∧ tvSlc Try.prog 20 = 0 ∧ tvStr Try.prog 20 = false ∧ tvMap Try.prog 20 = none ∧ tvLd Try.prog 20 = some (1, false) ∧ tvZero Try.prog 20 = .nili ∧ tvNil Try.prog 20 = [] := by
 refine ⟨?_, ?_, ?_, ?_, ?_, ?_, ?_⟩ <;> kernel_rfl
theorem ty22 : Try.prog.cellsOf 22 = 1 ∧ tvSlc Try.prog 22 = 50 ∧ tvElem Try.prog 22 = 49 ∧ tvStr Try.prog 22 = false ∧ tvMap Try.prog 22 = none ∧ tvLd Try.prog 22 = some (1, false) ∧ tvZero Try.prog 22 = .nils ∧ tvNil Try.prog 22 = [(0, 50)] := by
 refine ⟨?_, ?_, ?_, ?_, ?_, ?_, ?_, ?_⟩ <;> kernel_rfl
theorem ty24 : Try.prog.cellsOf 24 = 2 ∧ tvSlc Try.prog 24 = 0 ∧ tvStr Try.prog 24 = false ∧ tvMap Try.prog 24 = none ∧ tvLd Try.prog 24 = some (2, true) ∧ tvZero Try.prog 24 = .agg [.int .i64 0, .nils] ∧ tvFld Try.prog 24 0 = some (0, 1, 3) ∧ tvFld Try.prog 24 1 = some (1, 1, 22) ∧ tvArr Try.prog 24 = none ∧ tvBuild Try.prog 24 = true ∧ tvNil Try.prog 24 = [(1, 50)] := by
 refine ⟨?_, ?_, ?_, ?_, ?_, ?_, ?_, ?_, ?_, ?_, ?_⟩ <;> kernel_rfl
theorem ty25 : Try.prog.cellsOf 25 = 1 ∧ tvSlc Try.prog 25 = 3 ∧ tvElem Try.prog 25 = 56 ∧ tvStr Try.prog 25 = false ∧ tvMap Try.prog 25 = none ∧ tvLd Try.prog 25 = some (1, false) ∧ tvZero Try.prog 25 = .nils ∧ tvNil Try.prog 25 = [(0, 3)] := by
 refine ⟨?_, ?_, ?_, ?_, ?_, ?_, ?_, ?_⟩ <;> kernel_rfl
theorem ty27 : Try.prog.cellsOf 27 = 5 ∧ tvSlc Try.prog 27 = 0 ∧ tvStr Try.prog 27 = false ∧ tvMap Try.prog 27 = none ∧ tvLd Try.prog 27 = some (5, true) ∧ tvZero Try.prog 27 = .agg [.int .i64 0, .int .i64 0, .int .i64 0, .int .i64 0, .int .i64 0] ∧ tvFld Try.prog 27 0 = some (0, 1, 3) ∧ tvFld Try.prog 27 1 = some (1, 1, 3) ∧ tvFld Try.prog 27 2 = some (2, 1, 3) ∧ tvFld Try.prog 27 3 = some (3, 1, 3) ∧ tvFld Try.prog 27 4 = some (4, 1, 3) ∧ tvArr Try.prog 27 = none ∧ tvBuild Try.prog 27 = true ∧ tvNil Try.prog 27 = [] := by
 refine ⟨?_, ?_, ?_, ?_, ?_, ?_, ?_, ?_, ?_, ?_, ?_, ?_, ?_, ?_⟩ <;> kernel_rfl
theorem ty29 : Try.prog.cellsOf 29 = 1 ∧ tvSlc Try.prog 29 = 0 ∧ tvStr Try.prog 29 = false ∧ tvMap Try.prog 29 = none ∧ tvInt Try.prog 29 = some .i64 ∧ tvLd Try.prog 29 = some (1, false) ∧ tvZero Try.prog 29 = .int .i64 0 ∧ tvNil Try.prog 29 = [] := by
 refine ⟨?_, ?_, ?_, ?_, ?_, ?_, ?_, ?_⟩ <;> kernel_rfl
theorem ty36 : Try.prog.cellsOf 36 = 2 ∧ tvSlc Try.prog 36 = 0 ∧ tvStr Try.prog 36 = false ∧ tvMap Try.prog 36 = none ∧ tvLd Try.prog 36 = some (2, true) ∧ tvZero Try.prog 36 = .agg [.int .i64 0, .int .i64 0] ∧ tvFld Try.prog 36 0 = some (0, 1, 3) ∧ tvFld Try.prog 36 1 = some (1, 1, 29) ∧ tvArr Try.prog 36 = none ∧ tvBuild Try.prog 36 = true ∧ tvNil Try.prog 36 = [] := by
 refine ⟨?_, ?_, ?_, ?_, ?_, ?_, ?_, ?_, ?_, ?_, ?_⟩ <;> kernel_rfl
theorem ty46 : Try.prog.cellsOf 46 = 1 ∧ tvSlc Try.prog 46 = 1 ∧ tvElem Try.prog 46 = 3 ∧ tvStr Try.prog 46 = false ∧ tvMap Try.prog 46 = none ∧ tvLd Try.prog 46 = some (1, false) ∧ tvZero Try.prog 46 = .nils ∧ tvNil Try.prog 46 = [(0, 1)] := by
 refine ⟨?_, ?_, ?_, ?_, ?_, ?_, ?_, ?_⟩ <;> kernel_rfl
theorem ty47 : Try.prog.cellsOf 47 = 24 ∧ tvSlc Try.prog 47 = 0 ∧ tvStr Try.prog 47 = false ∧ tvMap Try.prog 47 = none ∧ tvLd Try.prog 47 = some (24, true) ∧ tvZero Try.prog 47 = .agg [.int .i64 0, .int .i64 0, .int .i64 0, .int .i64 0, .int .i64 0, .int .i64 0, .int .i64 0, .int .i64 0, .int .i64 0, .int .i64 0, .int .i64 0, .int .i64 0, .int .i64 0, .int .i64 0, .int .i64 0, .int .i64 0, .int .i64 0, .int .i64 0, .int .i64 0, .int .i64 0, .int .i64 0, .int .i64 0, .int .i64 0, .int .i64 0] ∧ tvArr Try.prog 47 = some (24, 1) ∧ tvArrE Try.prog 47 = some (24, 3) ∧ tvBuild Try.prog 47 = true ∧ tvNil Try.prog 47 = [] := by
 refine ⟨?_, ?_, ?_, ?_, ?_, ?_, ?_, ?_, ?_, ?_⟩ <;> kernel_rfl
theorem ty49 : Try.prog.cellsOf 49 = 50 ∧ tvSlc Try.prog 49 = 0 ∧ tvStr Try.prog 49 = false ∧ tvMap Try.prog 49 = none ∧ tvLd Try.prog 49 = some (50, true) ∧ tvZero Try.prog 49 = .agg [.int .i64 0, .int .i64 0, .int .i64 0, .int .i64 0, .int .i64 0, .int .i64 0, .int .i64 0, .int .i64 0, .int .i64 0, .int .i64 0, .int .i64 0, .int .i64 0, .int .i64 0, .int .i64 0, .int .i64 0, .int .i64 0, .int .i64 0, .int .i64 0, .int .i64 0, .int .i64 0, .int .i64 0, .int .i64 0, .int .i64 0, .int .i64 0, .int .i64 0, .int .i64 0, .int .i64 0, .int .i64 0, .int .i64 0, .int .i64 0, .int .i64 0, .int .i64 0, .int .i64 0, .int .i64 0, .int .i64 0, .int .i64 0, .int .i64 0, .int .i64 0, .int .i64 0, .int .i64 0, .int .i64 0, .int .i64 0, .int .i64 0, .int .i64 0, .int .i64 0, .int .i64 0, .int .i64 0, .int .i64 0, .int .i64 0, .int .i64 0] ∧ tvFld Try.prog 49 0 = some (0, 1, 3) ∧ tvFld Try.prog 49 1 = some (1, 1, 3) ∧ tvFld Try.prog 49 2 = some (2, 24, 47) ∧ tvFld Try.prog 49 3 = some (26, 24, 47) ∧ tvArr Try.prog 49 = none ∧ tvBuild Try.prog 49 = true ∧ tvNil Try.prog 49 = [] := by
 refine ⟨?_, ?_, ?_, ?_, ?_, ?_, ?_, ?_, ?_, ?_, ?_, ?_, ?_⟩ <;> kernel_rfl
theorem ty56 : Try.prog.cellsOf 56 = 3 ∧ tvSlc Try.prog 56 = 0 ∧ tvStr Try.prog 56 = false ∧ tvMap Try.prog 56 = none ∧ tvLd Try.prog 56 = some (3, true) ∧ tvZero Try.prog 56 = .agg [.int .i64 0, .int .i64 0, .int .i64 0] ∧ tvFld Try.prog 56 0 = some (0, 1, 3) ∧ tvFld Try.prog 56 1 = some (1, 1, 3) ∧ tvFld Try.prog 56 2 = some (2, 1, 3) ∧ tvArr Try.prog 56 = none ∧ tvBuild Try.prog 56 = true ∧ tvNil Try.prog 56 = [] := by
 refine ⟨?_, ?_, ?_, ?_, ?_, ?_, ?_, ?_, ?_, ?_, ?_, ?_⟩ <;> kernel_rfl
theorem ty59 : Try.prog.cellsOf 59 = 1 ∧ tvSlc Try.prog 59 = 0 ∧ tvStr Try.prog 59 = false ∧ tvMap Try.prog 59 = none ∧ tvLd Try.prog 59 = some (1, false) ∧ tvZero Try.prog 59 = .nilp ∧ tvNil Try.prog 59 = [] := by
 refine ⟨?_, ?_, ?_, ?_, ?_, ?_, ?_⟩ <;> kernel_rfl
theorem ty64 : Try.prog.cellsOf 64 = 1 ∧ tvSlc Try.prog 64 = 0 ∧ tvStr Try.prog 64 = false ∧ tvMap Try.prog 64 = none ∧ tvLd Try.prog 64 = some (1, false) ∧ tvZero Try.prog 64 = .nilf ∧ tvNil Try.prog 64 = [] := by
 refine ⟨?_, ?_, ?_, ?_, ?_, ?_, ?_⟩ <;> kernel_rfl
theorem ty65 : Try.prog.cellsOf 65 = 1 ∧ tvSlc Try.prog 65 = 4 ∧ tvElem Try.prog 65 = 70 ∧ tvStr Try.prog 65 = false ∧ tvMap Try.prog 65 = none ∧ tvLd Try.prog 65 = some (1, false) ∧ tvZero Try.prog 65 = .nils ∧ tvNil Try.prog 65 = [(0, 4)] := by
 refine ⟨?_, ?_, ?_, ?_, ?_, ?_, ?_, ?_⟩ <;> kernel_rfl
theorem ty66 : Try.prog.cellsOf 66 = 1 ∧ tvSlc Try.prog 66 = 1 ∧ tvElem Try.prog 66 = 46 ∧ tvStr Try.prog 66 = false ∧ tvMap Try.prog 66 = none ∧ tvLd Try.prog 66 = some (1, false) ∧ tvZero Try.prog 66 = .nils ∧ tvNil Try.prog 66 = [(0, 1)] := by
 refine ⟨?_, ?_, ?_, ?_, ?_, ?_, ?_, ?_⟩ <;> kernel_rfl
theorem ty68 : Try.prog.cellsOf 68 = 3 ∧ tvSlc Try.prog 68 = 0 ∧ tvStr Try.prog 68 = false ∧ tvMap Try.prog 68 = none ∧ tvLd Try.prog 68 = some (3, true) ∧ tvZero Try.prog 68 = .agg [.nils, .nils, .nils] ∧ tvFld Try.prog 68 0 = some (0, 1, 65) ∧ tvFld Try.prog 68 1 = some (1, 1, 66) ∧ tvFld Try.prog 68 2 = some (2, 1, 46) ∧ tvArr Try.prog 68 = none ∧ tvBuild Try.prog 68 = true ∧ tvNil Try.prog 68 = [(0, 4), (1, 1), (2, 1)] := by
 refine ⟨?_, ?_, ?_, ?_, ?_, ?_, ?_, ?_, ?_, ?_, ?_, ?_⟩ <;> kernel_rfl
theorem ty70 : Try.prog.cellsOf 70 = 4 ∧ tvSlc Try.prog 70 = 0 ∧ tvStr Try.prog 70 = false ∧ tvMap Try.prog 70 = none ∧ tvLd Try.prog 70 = some (4, true) ∧ tvZero Try.prog 70 = .agg [.int .i64 0, .int .i64 0, .int .i64 0, .int .i64 0] ∧ tvFld Try.prog 70 0 = some (0, 1, 3) ∧ tvFld Try.prog 70 1 = some (1, 1, 3) ∧ tvFld Try.prog 70 2 = some (2, 1, 3) ∧ tvFld Try.prog 70 3 = some (3, 1, 3) ∧ tvArr Try.prog 70 = none ∧ tvBuild Try.prog 70 = true ∧ tvNil Try.prog 70 = [] := by
 refine ⟨?_, ?_, ?_, ?_, ?_, ?_, ?_, ?_, ?_, ?_, ?_, ?_, ?_⟩ <;> kernel_rfl
theorem ty71 : Try.prog.cellsOf 71 = 1 ∧ tvSlc Try.prog 71 = 4 ∧ tvElem Try.prog 71 = 76 ∧ tvStr Try.prog 71 = false ∧ tvMap Try.prog 71 = none ∧ tvLd Try.prog 71 = some (1, false) ∧ tvZero Try.prog 71 = .nils ∧ tvNil Try.prog 71 = [(0, 4)] := by
 refine ⟨?_, ?_, ?_, ?_, ?_, ?_, ?_, ?_⟩ <;> kernel_rfl
theorem ty73 : Try.prog.cellsOf 73 = 2 ∧ tvSlc Try.prog 73 = 0 ∧ tvStr Try.prog 73 = false ∧ tvMap Try.prog 73 = none ∧ tvLd Try.prog 73 = some (2, true) ∧ tvZero Try.prog 73 = .agg [.nils, .int .i64 0] ∧ tvFld Try.prog 73 0 = some (0, 1, 71) ∧ tvFld Try.prog 73 1 = some (1, 1, 3) ∧ tvArr Try.prog 73 = none ∧ tvBuild Try.prog 73 = true ∧ tvNil Try.prog 73 = [(0, 4)] := by
 refine ⟨?_, ?_, ?_, ?_, ?_, ?_, ?_, ?_, ?_, ?_, ?_⟩ <;> kernel_rfl
theorem ty76 : Try.prog.cellsOf 76 = 4 ∧ tvSlc Try.prog 76 = 0 ∧ tvStr Try.prog 76 = false ∧ tvMap Try.prog 76 = none ∧ tvLd Try.prog 76 = some (4, true) ∧ tvZero Try.prog 76 = .agg [.int .i64 0, .int .i64 0, .int .i64 0, .int .i64 0] ∧ tvFld Try.prog 76 0 = some (0, 1, 3) ∧ tvFld Try.prog 76 1 = some (1, 1, 3) ∧ tvFld Try.prog 76 2 = some (2, 1, 3) ∧ tvFld Try.prog 76 3 = some (3, 1, 3) ∧ tvArr Try.prog 76 = none ∧ tvBuild Try.prog 76 = true ∧ tvNil Try.prog 76 = [] := by
 refine ⟨?_, ?_, ?_, ?_, ?_, ?_, ?_, ?_, ?_, ?_, ?_, ?_, ?_⟩ <;> kernel_rfl
theorem ty85 : Try.prog.cellsOf 85 = 1 ∧ tvSlc Try.prog 85 = 0 ∧ tvStr Try.prog 85 = false ∧ tvMap Try.prog 85 = none ∧ tvInt Try.prog 85 = some .u64 ∧ tvLd Try.prog 85 = some (1, false) ∧ tvZero Try.prog 85 = .int .u64 0 ∧ tvNil Try.prog 85 = [] := by
 refine ⟨?_, ?_, ?_, ?_, ?_, ?_, ?_, ?_⟩ <;> kernel_rfl
theorem ty88 : Try.prog.cellsOf 88 = 2 ∧ tvSlc Try.prog 88 = 0 ∧ tvStr Try.prog 88 = false ∧ tvMap Try.prog 88 = none ∧ tvLd Try.prog 88 = some (2, true) ∧ tvZero Try.prog 88 = .agg [.nils, .bool false] ∧ tvFld Try.prog 88 0 = some (0, 1, 46) ∧ tvFld Try.prog 88 1 = some (1, 1, 4) ∧ tvArr Try.prog 88 = none ∧ tvBuild Try.prog 88 = true ∧ tvNil Try.prog 88 = [(0, 1)] := by
 refine ⟨?_, ?_, ?_, ?_, ?_, ?_, ?_, ?_, ?_, ?_, ?_⟩ <;> kernel_rfl
theorem ty94 : Try.prog.cellsOf 94 = 2 ∧ tvSlc Try.prog 94 = 0 ∧ tvStr Try.prog 94 = false ∧ tvMap Try.prog 94 = none ∧ tvLd Try.prog 94 = some (2, true) ∧ tvZero Try.prog 94 = .agg [.int .i64 0, .int .i64 0] ∧ tvArr Try.prog 94 = some (2, 1) ∧ tvArrE Try.prog 94 = some (2, 3) ∧ tvBuild Try.prog 94 = true ∧ tvNil Try.prog 94 = [] := by
 refine ⟨?_, ?_, ?_, ?_, ?_, ?_, ?_, ?_, ?_, ?_⟩ <;> kernel_rfl
theorem ty95 : Try.prog.cellsOf 95 = 1 ∧ tvSlc Try.prog 95 = 0 ∧ tvStr Try.prog 95 = false ∧ tvMap Try.prog 95 = some (.ints 2, .int .i64 0) ∧ tvLd Try.prog 95 = some (1, false) ∧ tvZero Try.prog 95 = .nilm ∧ tvNil Try.prog 95 = [] := by
 refine ⟨?_, ?_, ?_, ?_, ?_, ?_, ?_⟩ <;> kernel_rfl
theorem ty98 : Try.prog.cellsOf 98 = 2 ∧ tvSlc Try.prog 98 = 0 ∧ tvStr Try.prog 98 = false ∧ tvMap Try.prog 98 = none ∧ tvLd Try.prog 98 = some (2, true) ∧ tvZero Try.prog 98 = .agg [.int .i64 0, .int .i64 0] ∧ tvFld Try.prog 98 0 = some (0, 1, 3) ∧ tvFld Try.prog 98 1 = some (1, 1, 29) ∧ tvArr Try.prog 98 = none ∧ tvBuild Try.prog 98 = true ∧ tvNil Try.prog 98 = [] := by
 refine ⟨?_, ?_, ?_, ?_, ?_, ?_, ?_, ?_, ?_, ?_, ?_⟩ <;> kernel_rfl
theorem ty100 : Try.prog.cellsOf 100 = 1 ∧ tvSlc Try.prog 100 = 1 ∧ tvElem Try.prog 100 = 4 ∧ tvStr Try.prog 100 = false ∧ tvMap Try.prog 100 = none ∧ tvLd Try.prog 100 = some (1, false) ∧ tvZero Try.prog 100 = .nils ∧ tvNil Try.prog 100 = [(0, 1)] := by
 refine ⟨?_, ?_, ?_, ?_, ?_, ?_, ?_, ?_⟩ <;> kernel_rfl
theorem ty102 : Try.prog.cellsOf 102 = 1 ∧ tvSlc Try.prog 102 = 0 ∧ tvStr Try.prog 102 = false ∧ tvMap Try.prog 102 = none ∧ tvLd Try.prog 102 = some (1, false) ∧ tvZero Try.prog 102 = .nilp ∧ tvMth Try.prog 102 "Len" = some (55, false, 106) ∧ tvMth Try.prog 102 "Less" = some (79, false, 106) ∧ tvMth Try.prog 102 "Pop" = some (80, true, 106) ∧ tvMth Try.prog 102 "Push" = some (81, true, 106) ∧ tvMth Try.prog 102 "Swap" = some (82, false, 106) ∧ tvConc Try.prog 102 = true ∧ tvNil Try.prog 102 = [] := by
 refine ⟨?_, ?_, ?_, ?_, ?_, ?_, ?_, ?_, ?_, ?_, ?_, ?_, ?_⟩ <;> kernel_rfl
theorem ty104 : Try.prog.cellsOf 104 = 2 ∧ tvSlc Try.prog 104 = 0 ∧ tvStr Try.prog 104 = false ∧ tvMap Try.prog 104 = none ∧ tvLd Try.prog 104 = some (2, true) ∧ tvZero Try.prog 104 = .agg [.int .i64 0, .int .i64 0] ∧ tvFld Try.prog 104 0 = some (0, 1, 3) ∧ tvFld Try.prog 104 1 = some (1, 1, 3) ∧ tvArr Try.prog 104 = none ∧ tvBuild Try.prog 104 = true ∧ tvConc Try.prog 104 = true ∧ tvNil Try.prog 104 = [] := by
 refine ⟨?_, ?_, ?_, ?_, ?_, ?_, ?_, ?_, ?_, ?_, ?_, ?_⟩ <;> kernel_rfl
theorem ty106 : Try.prog.cellsOf 106 = 1 ∧ tvSlc Try.prog 106 = 2 ∧ tvElem Try.prog 106 = 104 ∧ tvStr Try.prog 106 = false ∧ tvMap Try.prog 106 = none ∧ tvLd Try.prog 106 = some (1, false) ∧ tvZero Try.prog 106 = .nils ∧ tvNil Try.prog 106 = [(0, 2)] := by
 refine ⟨?_, ?_, ?_, ?_, ?_, ?_, ?_, ?_⟩ <;> kernel_rfl
theorem ty115 : Try.prog.cellsOf 115 = 1 ∧ tvSlc Try.prog 115 = 0 ∧ tvStr Try.prog 115 = false ∧ tvMap Try.prog 115 = none ∧ tvLd Try.prog 115 = some (1, false) ∧ tvZero Try.prog 115 = .nili ∧ tvNil Try.prog 115 = [] := by
 refine ⟨?_, ?_, ?_, ?_, ?_, ?_, ?_⟩ <;> kernel_rfl
end Sim
namespace Sim
set_option linter.unusedVariables false
def sumN (f : Nat → Int) : Nat → Int
 | 0 => 0
 | n + 1 => sumN f n + f n
theorem sumN_congr {f g : Nat → Int} : ∀ {n}, (∀ i, i < n → f i = g i) → sumN f n = sumN g n
 | 0, _ => rfl
 | n + 1, h => by rw [sumN, sumN, sumN_congr fun i hi => h i (by omega), h n (by omega)]
theorem sumN_add {f g : Nat → Int} : ∀ {n}, sumN (fun i => f i + g i) n = sumN f n + sumN g n
 | 0 => rfl
 | n + 1 => by rw [sumN, sumN, sumN, sumN_add]; omega
theorem sumN_sub {f g : Nat → Int} : ∀ {n}, sumN (fun i => f i - g i) n = sumN f n - sumN g n
 | 0 => rfl
 | n + 1 => by rw [sumN, sumN, sumN, sumN_sub]; omega
theorem sumN_mul {f : Nat → Int} {c : Int} : ∀ {n}, sumN (fun i => c * f i) n = c * sumN f n
 | 0 => by simp [sumN]
 | n + 1 => by rw [sumN, sumN, sumN_mul, Int.mul_add]
theorem sumN_nonneg {f : Nat → Int} : ∀ {n}, (∀ i, i < n → 0 ≤ f i) → 0 ≤ sumN f n
 | 0, _ => Int.le_refl _
 | n + 1, h => by
  have := sumN_nonneg (f := f) (n := n) fun i hi => h i (by omega)
  have := h n (by omega)
  rw [sumN]; omega
theorem sumN_le {f g : Nat → Int} : ∀ {n}, (∀ i, i < n → f i ≤ g i) → sumN f n ≤ sumN g n
 | 0, _ => Int.le_refl _
 | n + 1, h => by
  have := sumN_le (f := f) (g := g) (n := n) fun i hi => h i (by omega)
  have := h n (by omega)
  rw [sumN, sumN]; omega
theorem sumN_zero {f : Nat → Int} : ∀ {n}, (∀ i, i < n → f i = 0) → sumN f n = 0
 | 0, _ => rfl
 | n + 1, h => by rw [sumN, sumN_zero fun i hi => h i (by omega), h n (by omega)]; rfl
theorem sumN_one {a : Nat} {v : Int} : ∀ {n}, sumN (fun i => if a = i then v else 0) n = if a < n then v else 0
 | 0 => by simp [sumN]
 | n + 1 => by
  rw [sumN, sumN_one]
  repeat' split
  all_goals omega
theorem sumN_swap {f : Nat → Nat → Int} {m : Nat} : ∀ {n}, sumN (fun i => sumN (fun j => f i j) m) n = sumN (fun j => sumN (fun i => f i j) n) m
 | 0 => by rw [sumN, sumN_zero]; intro i _; rfl
 | n + 1 => by
  rw [sumN, sumN_swap, ← sumN_add]
  exact sumN_congr fun i _ => rfl
structure FN where
 N : Nat
 m : Nat
 s : Nat
 t : Nat
 fr : Nat → Nat
 to : Nat → Nat
 cap : Nat → Int
 pr : Nat → Int
structure FN.WF (G : FN) : Prop where
 s : G.s < G.N
 t : G.t < G.N
 ar : ∀ i, i < G.m → G.fr i < G.N ∧ G.to i < G.N
namespace FN
variable {G : FN}
def net (G : FN) (f : Nat → Int) (v : Nat) : Int := sumN (fun i => (if G.fr i = v then f i else 0) - (if G.to i = v then f i else 0)) G.m
def cost (G : FN) (f : Nat → Int) : Int := sumN (fun i => G.pr i * f i) G.m
def Val (G : FN) (f : Nat → Int) (val : Int) : Prop := ∀ v, v < G.N → G.net f v = (if G.s = v then val else 0) - (if G.t = v then val else 0)
structure Flow (G : FN) (f : Nat → Int) (val : Int) : Prop where
 nn : ∀ i, i < G.m → 0 ≤ f i
 le : ∀ i, i < G.m → f i ≤ G.cap i
 val : Val G f val
theorem dual (w : G.WF) {f : Nat → Int} {val : Int} (h : G.Val f val) (φ : Nat → Int) : sumN (fun i => (φ (G.fr i) - φ (G.to i)) * f i) G.m = (φ G.s - φ G.t) * val := by
 have e1 : sumN (fun i => (φ (G.fr i) - φ (G.to i)) * f i) G.m = sumN (fun i => sumN (fun v => φ v * ((if G.fr i = v then f i else 0) - (if G.to i = v then f i else 0))) G.N) G.m := by
  refine sumN_congr fun i hi => ?_
  obtain ⟨h1, h2⟩ := w.ar i hi
  have e : (fun v => φ v * ((if G.fr i = v then f i else 0) - (if G.to i = v then f i else 0))) = fun v => (if G.fr i = v then φ (G.fr i) * f i else 0) - (if G.to i = v then φ (G.to i) * f i else 0) := by
   funext v
   rw [Int.mul_sub]
   congr 1
   ·split
    ·rename_i e; rw [e]
    ·simp
   ·split
    ·rename_i e; rw [e]
    ·simp
  rw [e, sumN_sub, sumN_one, sumN_one, if_pos h1, if_pos h2, Int.sub_mul]
 rw [e1, sumN_swap]
 have e2 : sumN (fun v => sumN (fun i => φ v * ((if G.fr i = v then f i else 0) - (if G.to i = v then f i else 0))) G.m) G.N = sumN (fun v => (if G.s = v then φ G.s * val else 0) - (if G.t = v then φ G.t * val else 0)) G.N := by
  refine sumN_congr fun v hv => ?_
  have := h v hv
  unfold net at this
  rw [sumN_mul, this, Int.mul_sub]
  congr 1
  ·split
   ·rename_i e; rw [e]
   ·simp
  ·split
   ·rename_i e; rw [e]
   ·simp
 rw [e2, sumN_sub, sumN_one, sumN_one, if_pos w.s, if_pos w.t, Int.sub_mul]
def Pot (G : FN) (g : Nat → Int) (φ : Nat → Int) : Prop := ∀ i, i < G.m → (g i < G.cap i → 0 ≤ G.pr i + φ (G.fr i) - φ (G.to i)) ∧ (0 < g i → G.pr i + φ (G.fr i) - φ (G.to i) ≤ 0)
theorem opt (w : G.WF) {g h : Nat → Int} {a b c : Int} {φ : Nat → Int} (hg : G.Flow g a) (hp : G.Pot g φ) (hn : ∀ i, i < G.m → 0 ≤ h i) (hl : ∀ i, i < G.m → h i ≤ c * G.cap i) (hv : G.Val h b) (hb : b = c * a) (hc : 0 ≤ c) : c * G.cost g ≤ G.cost h := by
 have d1 := dual w hg.val φ
 have d2 := dual w hv φ
 have key : 0 ≤ sumN (fun i => (G.pr i + φ (G.fr i) - φ (G.to i)) * (h i - c * g i)) G.m := by
  refine sumN_nonneg fun i hi => ?_
  obtain ⟨p1, p2⟩ := hp i hi
  have g0 := hg.nn i hi
  have g1 := hg.le i hi
  have h0 := hn i hi
  have h1 := hl i hi
  generalize G.pr i + φ (G.fr i) - φ (G.to i) = r at *
  by_cases r0 : r = 0
  ·rw [r0, Int.zero_mul]; exact Int.le_refl _
  by_cases r1 : 0 < r
  ·have e : g i = 0 := by
    apply Classical.byContradiction
    intro hh
    have := p2 (by omega)
    omega
   rw [e, Int.mul_zero, Int.sub_zero]
   exact Int.mul_nonneg (by omega) h0
  ·have e : g i = G.cap i := by
    apply Classical.byContradiction
    intro hh
    have := p1 (by omega)
    omega
   rw [e]
   exact Int.mul_nonneg_of_nonpos_of_nonpos (by omega) (by omega)
 have e : sumN (fun i => (G.pr i + φ (G.fr i) - φ (G.to i)) * (h i - c * g i)) G.m = (G.cost h + (φ G.s - φ G.t) * b) - c * (G.cost g + (φ G.s - φ G.t) * a) := by
  unfold cost
  rw [← d1, ← d2, ← sumN_add, ← sumN_add, ← sumN_mul, ← sumN_sub]
  refine sumN_congr fun i _ => ?_
  generalize φ (G.fr i) = x
  generalize φ (G.to i) = y
  generalize G.pr i = p
  rw [show p + x - y = p + (x - y) by omega]
  generalize x - y = z
  rw [Int.mul_sub, Int.add_mul, Int.add_mul, Int.mul_add, ← Int.mul_assoc, ← Int.mul_assoc, ← Int.mul_assoc, ← Int.mul_assoc, Int.mul_comm p c, Int.mul_comm z c]
 rw [e, hb, Int.mul_add] at key
 have e2 : (φ G.s - φ G.t) * (c * a) = c * ((φ G.s - φ G.t) * a) := by
  rw [← Int.mul_assoc, Int.mul_comm _ c, Int.mul_assoc]
 omega
theorem cut (w : G.WF) {g h : Nat → Int} {a b : Int} {S : Nat → Prop} [DecidablePred S] (hg : G.Val g a) (hh : G.Flow h b) (s : S G.s) (t : ¬ S G.t) (ho : ∀ i, i < G.m → S (G.fr i) → ¬ S (G.to i) → G.cap i ≤ g i) (hi : ∀ i, i < G.m → ¬ S (G.fr i) → S (G.to i) → g i ≤ 0) : b ≤ a := by
 have d1 := dual w hg fun v => if S v then 1 else 0
 have d2 := dual w hh.val fun v => if S v then 1 else 0
 rw [if_pos s, if_neg t] at d1 d2
 have : sumN (fun i => ((if S (G.fr i) then 1 else 0) - (if S (G.to i) then 1 else 0)) * h i) G.m ≤ sumN (fun i => ((if S (G.fr i) then 1 else 0) - (if S (G.to i) then 1 else 0)) * g i) G.m := by
  refine sumN_le fun i him => ?_
  have h0 := hh.nn i him
  have h1 := hh.le i him
  by_cases c1 : S (G.fr i) <;> by_cases c2 : S (G.to i)
  ·rw [if_pos c1, if_pos c2]; simp
  ·have := ho i him c1 c2
   rw [if_pos c1, if_neg c2]; omega
  ·have := hi i him c1 c2
   rw [if_neg c1, if_pos c2]; omega
  ·rw [if_neg c1, if_neg c2]; simp
 omega
end FN
end Sim
