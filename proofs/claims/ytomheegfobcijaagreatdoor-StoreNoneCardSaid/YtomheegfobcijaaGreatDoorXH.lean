/- Closed facts of the row (h). -/
import Derived.Test.YtomheegfobcijaaGreatDoorRows
import Derived.JoinedOf
import Derived.KernelRfl
/- Closed facts of the row (h). -/
namespace Go.Proofs.YtomheegfobcijaaGreatDoor.storeNone
open Go.ChangeShapes
set_option linter.unusedVariables false
theorem fact12 : ((Rows.storeNoneRow.named == Tryz.prog.varsNamed 3)) = true := by kernel_rfl
theorem fact25 : (Tryz.prog.mayEnter) = true := by kernel_rfl
theorem fact24 : (Tryz.prog.stopsHeard) = true := by kernel_rfl
end Go.Proofs.YtomheegfobcijaaGreatDoor.storeNone
