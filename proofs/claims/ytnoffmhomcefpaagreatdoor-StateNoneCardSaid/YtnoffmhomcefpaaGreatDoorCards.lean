/-
  DERIVED. GIVEN WITH THE SEED: THE CARDS: each row of YtnoffmhomcefpaaGreatDoorRows.lean that lists a variable, with what it lists TIED to the program's text (the seventh form; the later family's looks); each row that meets fmt, with fmt's text TOLD by the authors' own Lean function (tested against real Go, not proved from fmt's source: count such statements apart). THE CARD IS WHAT COUNTS. Prove the row's statement (the work); the ties are given (YtnoffmhomcefpaaGreatDoorTie.lean); close each card by the builder's one call (the guide's Derived/Test/ToyasCard.lean, 'card_holds'). Laid BY PROGRAM, IN A SANDBOX (cutbox-door.mjs). By AI agents, Wed Nov 11 2026. No macro, syntax, notation, axiom, sorry.
-/
import Derived.Test.YtnoffmhomcefpaaGreatDoorRows
import GoSem.ClaimSeven
namespace Go.Proofs.YtnoffmhomcefpaaGreatDoor
namespace Rows

/-- THE TIED CARD OF 'freshetlaw26.StateNone'. -/
def stateNoneCard : Claim7 := { stood := { row := stateNoneRow, standIns := [], harness := (true, "5fdf5c681cfee58bc373e6de67d4420c23a24d76253f8189c3004aa57567df90"), looks := true }, kinds := [], alts := [], laidByText := true, laidKinds := [.data, .data, .data, .handle, .sentinel, .sentinel], laidTests := true, laidLooks := .later }
def StateNoneCardSaid : Prop := Claim7.holds Tryz.pinned (.plain (OpenSpec.ofChange stateNoneSpec)) stateNoneCard

/-- THE SECOND FORM's CARD OF 'freshetlaw26.StateNone'. -/
def stateNoneUptoCard : Claim7 := { stood := { row := stateNoneUptoRow, standIns := [], harness := (true, "5fdf5c681cfee58bc373e6de67d4420c23a24d76253f8189c3004aa57567df90"), looks := true }, kinds := [], alts := [], laidByText := true, laidKinds := [.data, .data, .data, .handle, .sentinel, .sentinel], laidTests := true, laidLooks := .later }
def StateNoneUptoCardSaid : Prop := Claim7.holds Tryz.pinned (.plain (OpenSpec.upto stateNoneSpec)) stateNoneUptoCard
end Rows
end Go.Proofs.YtnoffmhomcefpaaGreatDoor
