/- The kernel evaluates a closed fact of this program; no conditions. -/
import Derived.KernelRfl
import Derived.Test.YtlmeiickknfhhaaGreatDoorFa
set_option linter.all false
set_option linter.unusedVariables false
set_option linter.unusedSimpArgs false
set_option linter.unusedSectionVars false
set_option linter.unnecessarySimpa false
namespace Go.Proofs.YtlmeiickknfhhaaGreatDoor
open Go
theorem laid_out : laidOutB Tryz.prog = true := by kernel_rfl
end Go.Proofs.YtlmeiickknfhhaaGreatDoor
