/- The program is one that the abstract machine is right of. -/
import Derived.Test.YtnajopkaepjncaaAm24
import Derived.Test.YtnajopkaepjncaaProg
import Derived.Test.YtnajopkaepjncaaChecked
namespace Go.Proofs.Ytnajopkaepjncaa
theorem pok : Am.POk Try.prog := Am.pok_of (by kernel_rfl)
end Go.Proofs.Ytnajopkaepjncaa
