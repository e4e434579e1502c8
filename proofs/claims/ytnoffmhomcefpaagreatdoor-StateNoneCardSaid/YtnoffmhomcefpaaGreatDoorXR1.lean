/- The closed facts of the row, together. -/
import Derived.Test.YtnoffmhomcefpaaGreatDoorXF
import Derived.Test.YtnoffmhomcefpaaGreatDoorXG
import Derived.Test.YtnoffmhomcefpaaGreatDoorXH
import Derived.Test.YtnoffmhomcefpaaGreatDoorXK
import Derived.Test.YtnoffmhomcefpaaGreatDoorXA
/- The closed facts of the row, together. -/
namespace Go.Proofs.YtnoffmhomcefpaaGreatDoor.stateNone
open Go.ChangeShapes
theorem and2 {a b : Bool} (h : a = true) (k : b = true) : (a && b) = true := by rw [h, k]; rfl
set_option maxRecDepth 100000 in
theorem facts : joinedFacts Tryz.prog 3 Tryz.f3 Rows.stateNoneSpec Rows.stateNoneRow = true := by
  unfold joinedFacts
  exact and2 (and2 (and2 (and2 (and2 (and2 (and2 (and2 (and2 (and2 (and2 (and2 (and2 (and2 (and2 (and2 (and2 (and2 (and2 (and2 (and2 (and2 (and2 (and2 (and2 (and2 (and2 (and2 (and2 (and2 (and2 (fact0) fact1) fact2) fact3) fact4) fact5) fact6) fact7) fact8) fact9) fact10) fact11) fact12) fact13) fact14) fact15) fact16) fact17) fact18) fact19) fact20) fact21) fact22) fact23) fact24) fact25) fact26) fact27) (by kernel_rfl)) fact29) fact30) fact31
end Go.Proofs.YtnoffmhomcefpaaGreatDoor.stateNone

/- A view that is not there, or that nobody made, answers ErrNil, and tells nothing; none is made of a store that is not there. Condition: none but the listed variables of Go's library, which hold what the program's text lays in them. -/
namespace Go.Proofs.YtnoffmhomcefpaaGreatDoor.stateNone
open Go.ChangeShapes Go.WideShapes Go.ChangeAt Go.RowKit
open Am 
open Go.ChangeMaps (open_string shut_string)
set_option linter.unusedVariables false
theorem over : Rows.stateNoneRow.holds Tryz.pinned (OpenSpec.ofChange Rows.stateNoneSpec) :=
  OpenClaim.holds_of_wide 3 Tryz.f3 rfl rfl rfl rfl rfl rfl rfl ⟨rfl, rfl, rfl, rfl, rfl⟩ rfl rfl rfl rfl rfl fnamed Tryz.func3 facts
    finst (by unfold Func.isWrapper; first | (rw [if_pos (by decide +kernel)]; kernel_rfl) | (rw [if_neg (by decide +kernel)]; exact ⟨rfl, rfl⟩))
    (fun os started H enc _ => lifted os started H enc)
end Go.Proofs.YtnoffmhomcefpaaGreatDoor.stateNone

/- A view that is not there, or that nobody made, answers ErrNil, and tells nothing; none is made of a store that is not there. Condition: none but the listed variables of Go's library, which hold what the program's text lays in them. -/
namespace Go.Proofs.YtnoffmhomcefpaaGreatDoor.stateNone
open Go.ChangeShapes Go.WideShapes Go.ChangeAt Go.RowKit
open Am 
open Go.ChangeMaps (open_string shut_string)
set_option linter.unusedVariables false
theorem card : Rows.StateNoneCardSaid :=
  Claim7.holds_tied_plain_at .later [] [.data, .data, .data, .handle, .sentinel, .sentinel] true (true, "5fdf5c681cfee58bc373e6de67d4420c23a24d76253f8189c3004aa57567df90") true over (fun _ h => by cases h) (by kernel_rfl) (fun _ h => by cases h) stateNone_row_tie rfl ⟨rfl, rfl⟩ (by kernel_rfl) rfl
    (fun f fn hf hfn => by
      obtain rfl : f = 3 := Option.some.inj ((show Tryz.prog.funcNamed "freshet/freshetlaw26.StateNone" = some 3 by kernel_rfl).symm.trans hf) |>.symm
      obtain rfl : fn = Tryz.f3 := (Option.some.inj (Tryz.func3.symm.trans hfn)).symm
      exact ⟨by kernel_rfl, fun j t ht => by
        rw [Tryz.params3] at ht
        have hm : t ∈ [23, 9, 3] := by simpa using Array.mem_of_getElem? ht
        have hall : ([23, 9, 3].all fun u => !Tryz.prog.wantsStandIn u) = true := by kernel_rfl
        exact (show Tryz.prog.wantsStandIn t = false by simpa using List.all_eq_true.1 hall t hm)⟩)
    (by kernel_rfl)
end Go.Proofs.YtnoffmhomcefpaaGreatDoor.stateNone
namespace Go.Proofs.YtnoffmhomcefpaaGreatDoor
theorem stateNone_holds : Rows.StateNoneCardSaid := stateNone.card
end Go.Proofs.YtnoffmhomcefpaaGreatDoor
