/- Closed facts of the row (h). -/
import Derived.Test.YtnoffmhomcefpaaGreatDoorRows
import Derived.JoinedOf
import Derived.KernelRfl
/- Closed facts of the row (h). -/
namespace Go.Proofs.YtnoffmhomcefpaaGreatDoor.stateNone
open Go.ChangeShapes
set_option linter.unusedVariables false
theorem fact12 : ((Rows.stateNoneRow.named == Tryz.prog.varsNamed 3)) = true := by kernel_rfl
theorem fact25 : (Tryz.prog.mayEnter) = true := by kernel_rfl
theorem fact24 : (Tryz.prog.stopsHeard) = true := by kernel_rfl
end Go.Proofs.YtnoffmhomcefpaaGreatDoor.stateNone
