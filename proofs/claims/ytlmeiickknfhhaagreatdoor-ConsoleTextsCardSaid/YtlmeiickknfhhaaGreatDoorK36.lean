/- The kernel evaluates a closed fact of this program; no conditions. -/
import Derived.KernelRfl
import Derived.Test.YtlmeiickknfhhaaGreatDoorKn
set_option linter.all false
set_option linter.unusedVariables false
set_option linter.unusedSimpArgs false
set_option linter.unusedSectionVars false
set_option linter.unnecessarySimpa false
namespace Go.Canon
open Go
theorem e36 : knownIs [] 56 k36 = true := by kernel_rfl
end Go.Canon
