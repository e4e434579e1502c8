/- Closed facts of the row (g). -/
import Derived.Test.YtnoffmhomcefpaaGreatDoorRows
import Derived.JoinedOf
import Derived.KernelRfl
/- Closed facts of the row (g). -/
namespace Go.Proofs.YtnoffmhomcefpaaGreatDoor.stateNone
open Go.ChangeShapes
set_option linter.unusedVariables false
theorem fact10 : ((Rows.stateNoneRow.unfollowed == Tryz.prog.unfollowed 3)) = true := by kernel_rfl
theorem fact11 : ((Rows.stateNoneRow.recurses == Tryz.prog.recurses 3)) = true := by kernel_rfl
end Go.Proofs.YtnoffmhomcefpaaGreatDoor.stateNone
