/-
  DERIVED. GIVEN WITH THE SEED: THE CARDS: each row of YtecdcnacjlcjoaaDoorRows.lean that lists a variable, with what it lists TIED to the program's text (the seventh form; the later family's looks); each row that meets fmt, with fmt's text TOLD by the authors' own Lean function (tested against real Go, not proved from fmt's source: count such statements apart). THE CARD IS WHAT COUNTS. Prove the row's statement (the work); the ties are given (YtecdcnacjlcjoaaDoorTie.lean); close each card by the builder's one call (the guide's Derived/Test/ToyasCard.lean, 'card_holds'). Laid BY PROGRAM, IN A SANDBOX (cutbox-door.mjs). By AI agents, Wed Nov 11 2026. No macro, syntax, notation, axiom, sorry.
-/
import Derived.Test.YtecdcnacjlcjoaaDoorRows
import GoSem.ClaimSeven
namespace Go.Proofs.YtecdcnacjlcjoaaDoor
namespace Rows

/-- THE TIED CARD OF 'freshetlaw24.JobParse'. -/
def jobParseCard : Claim7 := { stood := { row := jobParseRow, standIns := [], harness := (true, "5029d14638bd973f59e870854dfffaa20a6d81439b38947da3894957ab1921fa"), looks := true }, kinds := [], alts := [], laidByText := true, laidKinds := [.data, .data, .data, .data, .sentinel, .sentinel, .pinned], laidTests := true, laidLooks := .later }
def JobParseCardSaid : Prop := Claim7.holds Tryd.pinned (.plain (OpenSpec.ofChange jobParseSpec)) jobParseCard

/-- THE TIED CARD OF 'freshetlaw24.JobFirst'. -/
def jobFirstCard : Claim7 := { stood := { row := jobFirstRow, standIns := [], harness := (true, "5029d14638bd973f59e870854dfffaa20a6d81439b38947da3894957ab1921fa"), looks := true }, kinds := [], alts := [], laidByText := true, laidKinds := [.data, .data, .data, .data, .sentinel, .sentinel, .pinned], laidTests := true, laidLooks := .later }
def JobFirstCardSaid : Prop := Claim7.holds Tryd.pinned (.plain (OpenSpec.ofChange jobFirstSpec)) jobFirstCard

/-- THE TIED CARD OF 'freshetlaw24.JobShorter'. -/
def jobShorterCard : Claim7 := { stood := { row := jobShorterRow, standIns := [], harness := (true, "5029d14638bd973f59e870854dfffaa20a6d81439b38947da3894957ab1921fa"), looks := true }, kinds := [], alts := [], laidByText := true, laidKinds := [.data, .data, .data, .data, .sentinel, .sentinel, .pinned], laidTests := true, laidLooks := .later }
def JobShorterCardSaid : Prop := Claim7.holds Tryd.pinned (.plain (OpenSpec.ofChange jobShorterSpec)) jobShorterCard

/-- THE TIED CARD OF 'freshetlaw24.JobNames'. -/
def jobNamesCard : Claim7 := { stood := { row := jobNamesRow, standIns := [], harness := (true, "5029d14638bd973f59e870854dfffaa20a6d81439b38947da3894957ab1921fa"), looks := true }, kinds := [], alts := [], laidByText := true, laidKinds := [.data, .data, .data, .data, .sentinel, .sentinel, .pinned], laidTests := true, laidLooks := .later }
def JobNamesCardSaid : Prop := Claim7.holds Tryd.pinned (.plain (OpenSpec.ofChange jobNamesSpec)) jobNamesCard

/-- THE TIED CARD OF 'freshetlaw24.JobText'. -/
def jobTextCard : Claim7 := { stood := { row := jobTextRow, standIns := [], harness := (true, "5029d14638bd973f59e870854dfffaa20a6d81439b38947da3894957ab1921fa"), looks := true }, kinds := [], alts := [], laidByText := true, laidKinds := [.data, .data, .data, .data, .sentinel, .sentinel, .pinned], laidTests := true, laidLooks := .later }
def JobTextCardSaid : Prop := Claim7.holds Tryd.pinned (.plain (OpenSpec.ofChange jobTextSpec)) jobTextCard

/-- THE TIED CARD OF 'freshetlaw24.JobBack'. -/
def jobBackCard : Claim7 := { stood := { row := jobBackRow, standIns := [], harness := (true, "5029d14638bd973f59e870854dfffaa20a6d81439b38947da3894957ab1921fa"), looks := true }, kinds := [], alts := [], laidByText := true, laidKinds := [.data, .data, .data, .data, .sentinel, .sentinel, .pinned], laidTests := true, laidLooks := .later }
def JobBackCardSaid : Prop := Claim7.holds Tryd.pinned (.plain (OpenSpec.ofChange jobBackSpec)) jobBackCard

/-- THE SECOND FORM's CARD OF 'freshetlaw24.JobParse'. -/
def jobParseUptoCard : Claim7 := { stood := { row := jobParseUptoRow, standIns := [], harness := (true, "5029d14638bd973f59e870854dfffaa20a6d81439b38947da3894957ab1921fa"), looks := true }, kinds := [], alts := [], laidByText := true, laidKinds := [.data, .data, .data, .data, .sentinel, .sentinel, .pinned], laidTests := true, laidLooks := .later }
def JobParseUptoCardSaid : Prop := Claim7.holds Tryd.pinned (.plain (OpenSpec.upto jobParseSpec)) jobParseUptoCard

/-- THE SECOND FORM's CARD OF 'freshetlaw24.JobFirst'. -/
def jobFirstUptoCard : Claim7 := { stood := { row := jobFirstUptoRow, standIns := [], harness := (true, "5029d14638bd973f59e870854dfffaa20a6d81439b38947da3894957ab1921fa"), looks := true }, kinds := [], alts := [], laidByText := true, laidKinds := [.data, .data, .data, .data, .sentinel, .sentinel, .pinned], laidTests := true, laidLooks := .later }
def JobFirstUptoCardSaid : Prop := Claim7.holds Tryd.pinned (.plain (OpenSpec.upto jobFirstSpec)) jobFirstUptoCard

/-- THE SECOND FORM's CARD OF 'freshetlaw24.JobShorter'. -/
def jobShorterUptoCard : Claim7 := { stood := { row := jobShorterUptoRow, standIns := [], harness := (true, "5029d14638bd973f59e870854dfffaa20a6d81439b38947da3894957ab1921fa"), looks := true }, kinds := [], alts := [], laidByText := true, laidKinds := [.data, .data, .data, .data, .sentinel, .sentinel, .pinned], laidTests := true, laidLooks := .later }
def JobShorterUptoCardSaid : Prop := Claim7.holds Tryd.pinned (.plain (OpenSpec.upto jobShorterSpec)) jobShorterUptoCard

/-- THE SECOND FORM's CARD OF 'freshetlaw24.JobNames'. -/
def jobNamesUptoCard : Claim7 := { stood := { row := jobNamesUptoRow, standIns := [], harness := (true, "5029d14638bd973f59e870854dfffaa20a6d81439b38947da3894957ab1921fa"), looks := true }, kinds := [], alts := [], laidByText := true, laidKinds := [.data, .data, .data, .data, .sentinel, .sentinel, .pinned], laidTests := true, laidLooks := .later }
def JobNamesUptoCardSaid : Prop := Claim7.holds Tryd.pinned (.plain (OpenSpec.upto jobNamesSpec)) jobNamesUptoCard

/-- THE SECOND FORM's CARD OF 'freshetlaw24.JobText'. -/
def jobTextUptoCard : Claim7 := { stood := { row := jobTextUptoRow, standIns := [], harness := (true, "5029d14638bd973f59e870854dfffaa20a6d81439b38947da3894957ab1921fa"), looks := true }, kinds := [], alts := [], laidByText := true, laidKinds := [.data, .data, .data, .data, .sentinel, .sentinel, .pinned], laidTests := true, laidLooks := .later }
def JobTextUptoCardSaid : Prop := Claim7.holds Tryd.pinned (.plain (OpenSpec.upto jobTextSpec)) jobTextUptoCard

/-- THE SECOND FORM's CARD OF 'freshetlaw24.JobBack'. -/
def jobBackUptoCard : Claim7 := { stood := { row := jobBackUptoRow, standIns := [], harness := (true, "5029d14638bd973f59e870854dfffaa20a6d81439b38947da3894957ab1921fa"), looks := true }, kinds := [], alts := [], laidByText := true, laidKinds := [.data, .data, .data, .data, .sentinel, .sentinel, .pinned], laidTests := true, laidLooks := .later }
def JobBackUptoCardSaid : Prop := Claim7.holds Tryd.pinned (.plain (OpenSpec.upto jobBackSpec)) jobBackUptoCard
end Rows
end Go.Proofs.YtecdcnacjlcjoaaDoor
