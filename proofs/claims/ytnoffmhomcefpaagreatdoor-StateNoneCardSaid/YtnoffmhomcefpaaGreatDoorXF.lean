/- Closed facts of the row (f). -/
import Derived.Test.YtnoffmhomcefpaaGreatDoorRows
import Derived.JoinedOf
import Derived.KernelRfl
/- Closed facts of the row (f). -/
namespace Go.Proofs.YtnoffmhomcefpaaGreatDoor.stateNone
open Go.ChangeShapes
set_option linter.unusedVariables false
theorem fact9 : ((Rows.stateNoneRow.inPlace == Tryz.prog.inPlace 3)) = true := by kernel_rfl
end Go.Proofs.YtnoffmhomcefpaaGreatDoor.stateNone
