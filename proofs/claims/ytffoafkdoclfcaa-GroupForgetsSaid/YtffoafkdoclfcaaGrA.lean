/- What stands at the beginning: the example that the statements check first. Conditions: none. -/
import Derived.Test.YtffoafkdoclfcaaAbsTm
import Derived.Test.YtffoafkdoclfcaaGrTy
namespace Go.Abs.Gr
open Go Go.Proofs Go.Abs
set_option maxRecDepth 100000
theorem tm : Try.prog.follows .mixedOrders = true := by kernel_rfl
theorem tN : Try.prog.funcs.all (fun fn => !(fn.name == "runtime.NumGoroutine")) = true := by kernel_rfl
theorem sane_run : runFn Try.prog 1000 12 8 [] [] = some (.bool true, []) := by kernel_rfl
theorem sane_ok : FnC Try.prog 8 (runFn Try.prog 1000 12 8) := runFn_ok tm tN 12 8 Try.func8 rfl
end Go.Abs.Gr
