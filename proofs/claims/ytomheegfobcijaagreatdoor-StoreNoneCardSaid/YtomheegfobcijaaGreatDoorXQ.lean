/- Closed facts of the card (q). -/
import Derived.Test.YtomheegfobcijaaGreatDoorRows
import Derived.SevenTiedAt
import Derived.KernelRfl
/- Closed facts of the card (q). -/
namespace Go.Proofs.YtomheegfobcijaaGreatDoor.storeNone
open Go.ChangeShapes
theorem clooks : true = Tryz.pinned.checked.prog.looks [] := by kernel_rfl
end Go.Proofs.YtomheegfobcijaaGreatDoor.storeNone
