/- The kernel evaluates a closed fact of this program; no conditions. -/
import Derived.KernelRfl
import Derived.Test.YtlmeiickknfhhaaGreatDoorFa
set_option linter.all false
set_option linter.unusedVariables false
set_option linter.unusedSimpArgs false
set_option linter.unusedSectionVars false
set_option linter.unnecessarySimpa false
section
namespace Go.Proofs.YtlmeiickknfhhaaGreatDoor
open Go
theorem maps_rowed : mapsRowed Tryz.prog = true := by kernel_rfl
end Go.Proofs.YtlmeiickknfhhaaGreatDoor
end
section
namespace Go.Proofs.YtlmeiickknfhhaaGreatDoor
open Go
theorem stops_heard : Tryz.prog.stopsHeard = true := by kernel_rfl
end Go.Proofs.YtlmeiickknfhhaaGreatDoor
end
