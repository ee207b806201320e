/- The types of the seat. -/
import Derived.Test.YtilkneilafpjiaaVxExt
import Derived.Test.YtilkneilafpjiaaProg
import Derived.KernelRfl
namespace Go.Proofs.Ytilkneilafpjiaa
open Go.RowKit Go.VL
set_option linter.unusedSimpArgs false
set_option linter.unusedVariables false
@[simp] theorem tk_22 : tk Try.prog 22 = .flt .f32 := by kernel_rfl
@[simp] theorem co_22 : Try.prog.cellsOf 22 = 1 := by kernel_rfl
@[simp] theorem cz_22 : csz Try.prog 22 = 1 := by kernel_rfl
@[simp] theorem ag_22 : aggB Try.prog 22 = false := by kernel_rfl
@[simp] theorem ze_22 : zeroV Try.prog 22 = some [.float .f32 0] := by kernel_rfl
@[simp] theorem by_22 : Try.prog.bytesOf 22 = 4 := by kernel_rfl
@[simp] theorem tk_23 : tk Try.prog 23 = .int .i16 := by kernel_rfl
@[simp] theorem co_23 : Try.prog.cellsOf 23 = 1 := by kernel_rfl
@[simp] theorem cz_23 : csz Try.prog 23 = 1 := by kernel_rfl
@[simp] theorem ag_23 : aggB Try.prog 23 = false := by kernel_rfl
@[simp] theorem ze_23 : zeroV Try.prog 23 = some [.int .i16 0] := by kernel_rfl
@[simp] theorem by_23 : Try.prog.bytesOf 23 = 2 := by kernel_rfl
@[simp] theorem tk_53 : tk Try.prog 53 = .flt .f64 := by kernel_rfl
@[simp] theorem co_53 : Try.prog.cellsOf 53 = 1 := by kernel_rfl
@[simp] theorem cz_53 : csz Try.prog 53 = 1 := by kernel_rfl
@[simp] theorem ag_53 : aggB Try.prog 53 = false := by kernel_rfl
@[simp] theorem ze_53 : zeroV Try.prog 53 = some [.float .f64 0] := by kernel_rfl
@[simp] theorem by_53 : Try.prog.bytesOf 53 = 8 := by kernel_rfl
theorem mixed : Try.prog.follows .mixedOrders = true := by kernel_rfl
theorem okx13 : TellsX Try.prog 13 FXround := TellsX.of (e := (Extern.MathFloor.toIntegral "math.RoundToEven" .even)) Try.func13 (by kernel_rfl) (by kernel_rfl) (by kernel_rfl) (by kernel_rfl) (xround _)
end Go.Proofs.Ytilkneilafpjiaa
