/- Closed facts of the card (p). -/
import Derived.Test.YtomheegfobcijaaGreatDoorRows
import Derived.SevenTiedAt
import Derived.KernelRfl
/- Closed facts of the card (p). -/
namespace Go.Proofs.YtomheegfobcijaaGreatDoor.storeNone
open Go.ChangeShapes
theorem cwf : Rows.storeNoneRow.wfByText (OpenSpec.ofChange Rows.storeNoneSpec) = true := by kernel_rfl
theorem cmain : Tryz.pinned.checked.prog.mainIs = some (true, "508520f90308a02e6b46fcedab592e338efd96e0918510c153dc8a25c42e84c3".toList) := by kernel_rfl
theorem cnamed : Tryz.prog.funcNamed "freshet/freshetlaw17.StoreNone" = some 3 := by kernel_rfl
end Go.Proofs.YtomheegfobcijaaGreatDoor.storeNone
