/- The kernel evaluates a closed fact of this program; no conditions. -/
import Derived.KernelRfl
import Derived.Test.YtlmeiickknfhhaaGreatDoorFa
set_option linter.all false
set_option linter.unusedVariables false
set_option linter.unusedSimpArgs false
set_option linter.unusedSectionVars false
set_option linter.unnecessarySimpa false
namespace Go.Proofs.YtlmeiickknfhhaaGreatDoor
open Go
theorem un_followed : (Rows.consoleTextsRow.unfollowed == Tryz.prog.unfollowed 3) = true := by kernel_rfl
end Go.Proofs.YtlmeiickknfhhaaGreatDoor
