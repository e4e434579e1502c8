/- The closed facts of the row, together. -/
import Derived.Test.YtomheegfobcijaaGreatDoorXF
import Derived.Test.YtomheegfobcijaaGreatDoorXG
import Derived.Test.YtomheegfobcijaaGreatDoorXH
import Derived.Test.YtomheegfobcijaaGreatDoorXK
import Derived.Test.YtomheegfobcijaaGreatDoorXA
/- The closed facts of the row, together. -/
namespace Go.Proofs.YtomheegfobcijaaGreatDoor.storeNone
open Go.ChangeShapes
theorem and2 {a b : Bool} (h : a = true) (k : b = true) : (a && b) = true := by rw [h, k]; rfl
set_option maxRecDepth 100000 in
theorem facts : joinedFacts Tryz.prog 3 Tryz.f3 Rows.storeNoneSpec Rows.storeNoneRow = true := by
  unfold joinedFacts
  exact and2 (and2 (and2 (and2 (and2 (and2 (and2 (and2 (and2 (and2 (and2 (and2 (and2 (and2 (and2 (and2 (and2 (and2 (and2 (and2 (and2 (and2 (and2 (and2 (and2 (and2 (and2 (and2 (and2 (and2 (and2 (fact0) fact1) fact2) fact3) fact4) fact5) fact6) fact7) fact8) fact9) fact10) fact11) fact12) fact13) fact14) fact15) fact16) fact17) fact18) fact19) fact20) fact21) fact22) fact23) fact24) fact25) fact26) fact27) (by kernel_rfl)) fact29) fact30) fact31
end Go.Proofs.YtomheegfobcijaaGreatDoor.storeNone

/- A store that is not there, or that nobody opened, answers ErrNil, and tells nothing; none is opened on a disk that is not there. Condition: none but the listed variables of Go's library, which hold what the program's text lays in them. -/
namespace Go.Proofs.YtomheegfobcijaaGreatDoor.storeNone
open Go.ChangeShapes Go.WideShapes Go.ChangeAt Go.RowKit
open Am 
open Go.ChangeMaps (open_string shut_string)
set_option linter.unusedVariables false
theorem over : Rows.storeNoneRow.holds Tryz.pinned (OpenSpec.ofChange Rows.storeNoneSpec) :=
  OpenClaim.holds_of_wide 3 Tryz.f3 rfl rfl rfl rfl rfl rfl rfl ⟨rfl, rfl, rfl, rfl, rfl⟩ rfl rfl rfl rfl rfl fnamed Tryz.func3 facts
    finst (by unfold Func.isWrapper; first | (rw [if_pos (by decide +kernel)]; kernel_rfl) | (rw [if_neg (by decide +kernel)]; exact ⟨rfl, rfl⟩))
    (fun os started H enc _ => lifted os started H enc)
end Go.Proofs.YtomheegfobcijaaGreatDoor.storeNone
