/- A store that is not there, or that nobody opened, answers ErrNil, and tells nothing; none is opened on a disk that is not there. Condition: none but the listed variables of Go's library, which hold what the program's text lays in them. -/
import Derived.Test.YtomheegfobcijaaGreatDoorXJ
import Derived.Test.YtomheegfobcijaaGreatDoorXP
import Derived.Test.YtomheegfobcijaaGreatDoorXQ
import Derived.Test.YtomheegfobcijaaGreatDoorXW
/- A store that is not there, or that nobody opened, answers ErrNil, and tells nothing; none is opened on a disk that is not there. Condition: none but the listed variables of Go's library, which hold what the program's text lays in them. -/
namespace Go.Proofs.YtomheegfobcijaaGreatDoor.storeNone
open Go.ChangeShapes Go.WideShapes Go.ChangeAt Go.RowKit
open Am 
open Go.ChangeMaps (open_string shut_string)
set_option linter.unusedVariables false
theorem card : Rows.StoreNoneCardSaid :=
  Claim7.holds_tied_plain_at .later [] [.data, .data, .data, .handle, .sentinel, .sentinel] true (true, "508520f90308a02e6b46fcedab592e338efd96e0918510c153dc8a25c42e84c3") true over (fun _ h => by cases h) cwf (fun _ h => by cases h) storeNone_row_tie rfl ⟨rfl, rfl⟩ cmain rfl
    (fun f fn hf hfn => by
      obtain rfl : f = 3 := Option.some.inj (cnamed.symm.trans hf) |>.symm
      obtain rfl : fn = Tryz.f3 := (Option.some.inj (Tryz.func3.symm.trans hfn)).symm
      exact ⟨clooks, fun j t ht => by
        rw [Tryz.params3] at ht
        have hm : t ∈ [27, 28, 9, 29] := by simpa using Array.mem_of_getElem? ht
        have hall : ([27, 28, 9, 29].all fun u => !Tryz.prog.wantsStandIn u) = true := by kernel_rfl
        exact (show Tryz.prog.wantsStandIn t = false by simpa using List.all_eq_true.1 hall t hm)⟩)
    cgoes
end Go.Proofs.YtomheegfobcijaaGreatDoor.storeNone
namespace Go.Proofs.YtomheegfobcijaaGreatDoor
theorem storeNone_holds : Rows.StoreNoneCardSaid := storeNone.card
end Go.Proofs.YtomheegfobcijaaGreatDoor
