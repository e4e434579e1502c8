/- Closed facts of the row (f). -/
import Derived.Test.YtomheegfobcijaaGreatDoorRows
import Derived.JoinedOf
import Derived.KernelRfl
/- Closed facts of the row (f). -/
namespace Go.Proofs.YtomheegfobcijaaGreatDoor.storeNone
open Go.ChangeShapes
set_option linter.unusedVariables false
theorem fact9 : ((Rows.storeNoneRow.inPlace == Tryz.prog.inPlace 3)) = true := by kernel_rfl
end Go.Proofs.YtomheegfobcijaaGreatDoor.storeNone
