/- Closed facts of the card (r). -/
import Derived.Test.YtomheegfobcijaaGreatDoorRows
import Derived.SevenTiedAt
import Derived.KernelRfl
/- Closed facts of the card (r). -/
namespace Go.Proofs.YtomheegfobcijaaGreatDoor.storeNone
open Go.ChangeShapes
theorem cgoes : false = Rows.storeNoneRow.goesBy Tryz.pinned.checked.prog := by kernel_rfl
end Go.Proofs.YtomheegfobcijaaGreatDoor.storeNone
