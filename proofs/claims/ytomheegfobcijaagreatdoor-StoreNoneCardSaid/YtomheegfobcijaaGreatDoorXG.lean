/- Closed facts of the row (g). -/
import Derived.Test.YtomheegfobcijaaGreatDoorRows
import Derived.JoinedOf
import Derived.KernelRfl
/- Closed facts of the row (g). -/
namespace Go.Proofs.YtomheegfobcijaaGreatDoor.storeNone
open Go.ChangeShapes
set_option linter.unusedVariables false
theorem fact10 : ((Rows.storeNoneRow.unfollowed == Tryz.prog.unfollowed 3)) = true := by kernel_rfl
theorem fact11 : ((Rows.storeNoneRow.recurses == Tryz.prog.recurses 3)) = true := by kernel_rfl
end Go.Proofs.YtomheegfobcijaaGreatDoor.storeNone
