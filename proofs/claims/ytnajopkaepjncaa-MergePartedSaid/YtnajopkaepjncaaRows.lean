/-
  No cell of these rows narrows 'for every input' (looked for: loops, veiled, ifaces, maps, wideKeys, modest, calm, conditions, laid).
  DERIVED. THE GIVEN ROWS OF THIS SEAT. 8 by the template 'for every input the law returns true; each argument reads behind the call as it read before'; 0 by the template 'total and deterministic' (their statements: YtnajopkaepjncaaTotals.lean).
  GIVEN WITH THE SEED: the statements are not yours to turn. If you find one false, say at which input.
  Laid BY PROGRAM, IN A SANDBOX (cutbox-rows.mjs): the forced cells as the released guide's own fill.sh prints them over the translation 9df27bc874de5875… (all of the seat's roots in one cut). By AI agents, Wed Nov 11 2026. No macro, syntax, notation, axiom, sorry.
-/
import Derived.Test.YtnajopkaepjncaaChecked
import GoSem.Claim
import GoSem.ClaimJoined
import GoSem.ClaimMapViews
import Derived.JoinedTies
import Derived.KernelRfl
namespace Go.Proofs.Ytnajopkaepjncaa
/- THE CELL 'sum', in the pinned program and in every row, IS THE sha256 OF THE DUMP (.gsa) THAT YtnajopkaepjncaaProg.lean LOADS. Nothing in Lean hashes anything: it is a label: what it is worth is what the hold of that sum in a sandbox is worth. -/
noncomputable def Try.pinned : Pinned := { name := "ytnajopkaepjncaa", sum := "9df27bc874de5875e72f6c4728684832edba6552f2799964429129ef1f247fce", checked := Try.checked }
namespace Rows
def none {H : Type} : Left H := { results := [], args := [] }

/-- 'freshetlaw13.MergeAt': WHATEVER THE INPUT: true; the input reads as it did. -/
def mergeAtSpec : ChangeSpec := { name := "mergeAt", fn := fun _ => fun
  | [d1, d2] => { results := [.lit (.bool true)], args := [d1, d2] }
  | _ => none }
def mergeAtRow : OpenClaim := { program := "ytnajopkaepjncaa", sum := "9df27bc874de5875e72f6c4728684832edba6552f2799964429129ef1f247fce", func := "freshet/freshetlaw13.MergeAt", spec := "mergeAt", unfollowed := true, recurses := true, apart := false }
def MergeAtSaid : Prop := mergeAtRow.holds Try.pinned (OpenSpec.ofChange mergeAtSpec)

/-- ITS FALSE NEIGHBOUR: 'it returns false'. Refute it at one input. -/
def mergeAtWrong : ChangeSpec := { name := "mergeAt", fn := fun _ => fun
  | [d1, d2] => { results := [.lit (.bool false)], args := [d1, d2] }
  | _ => none }
def MergeAtWrongFalsely : Prop := mergeAtRow.holds Try.pinned (OpenSpec.ofChange mergeAtWrong)

/-- 'freshetlaw13.MergeDrop': WHATEVER THE INPUT: true; the input reads as it did. -/
def mergeDropSpec : ChangeSpec := { name := "mergeDrop", fn := fun _ => fun
  | [d1, d2, d3] => { results := [.lit (.bool true)], args := [d1, d2, d3] }
  | _ => none }
def mergeDropRow : OpenClaim := { program := "ytnajopkaepjncaa", sum := "9df27bc874de5875e72f6c4728684832edba6552f2799964429129ef1f247fce", func := "freshet/freshetlaw13.MergeDrop", spec := "mergeDrop", unfollowed := true, recurses := true, apart := false }
def MergeDropSaid : Prop := mergeDropRow.holds Try.pinned (OpenSpec.ofChange mergeDropSpec)

/-- ITS FALSE NEIGHBOUR: 'it returns false'. Refute it at one input. -/
def mergeDropWrong : ChangeSpec := { name := "mergeDrop", fn := fun _ => fun
  | [d1, d2, d3] => { results := [.lit (.bool false)], args := [d1, d2, d3] }
  | _ => none }
def MergeDropWrongFalsely : Prop := mergeDropRow.holds Try.pinned (OpenSpec.ofChange mergeDropWrong)

/-- 'freshetlaw13.MergeAgain': WHATEVER THE INPUT: true; the input reads as it did. -/
def mergeAgainSpec : ChangeSpec := { name := "mergeAgain", fn := fun _ => fun
  | [d1, d2, d3, d4] => { results := [.lit (.bool true)], args := [d1, d2, d3, d4] }
  | _ => none }
def mergeAgainRow : OpenClaim := { program := "ytnajopkaepjncaa", sum := "9df27bc874de5875e72f6c4728684832edba6552f2799964429129ef1f247fce", func := "freshet/freshetlaw13.MergeAgain", spec := "mergeAgain", unfollowed := true, recurses := true, apart := false }
def MergeAgainSaid : Prop := mergeAgainRow.holds Try.pinned (OpenSpec.ofChange mergeAgainSpec)

/-- ITS FALSE NEIGHBOUR: 'it returns false'. Refute it at one input. -/
def mergeAgainWrong : ChangeSpec := { name := "mergeAgain", fn := fun _ => fun
  | [d1, d2, d3, d4] => { results := [.lit (.bool false)], args := [d1, d2, d3, d4] }
  | _ => none }
def MergeAgainWrongFalsely : Prop := mergeAgainRow.holds Try.pinned (OpenSpec.ofChange mergeAgainWrong)

/-- 'freshetlaw13.MergeRises': WHATEVER THE INPUT: true; the input reads as it did. -/
def mergeRisesSpec : ChangeSpec := { name := "mergeRises", fn := fun _ => fun
  | [d1, d2] => { results := [.lit (.bool true)], args := [d1, d2] }
  | _ => none }
def mergeRisesRow : OpenClaim := { program := "ytnajopkaepjncaa", sum := "9df27bc874de5875e72f6c4728684832edba6552f2799964429129ef1f247fce", func := "freshet/freshetlaw13.MergeRises", spec := "mergeRises", unfollowed := true, recurses := true, apart := false }
def MergeRisesSaid : Prop := mergeRisesRow.holds Try.pinned (OpenSpec.ofChange mergeRisesSpec)

/-- ITS FALSE NEIGHBOUR: 'it returns false'. Refute it at one input. -/
def mergeRisesWrong : ChangeSpec := { name := "mergeRises", fn := fun _ => fun
  | [d1, d2] => { results := [.lit (.bool false)], args := [d1, d2] }
  | _ => none }
def MergeRisesWrongFalsely : Prop := mergeRisesRow.holds Try.pinned (OpenSpec.ofChange mergeRisesWrong)

/-- 'freshetlaw13.MergeAll': WHATEVER THE INPUT: true; the input reads as it did. -/
def mergeAllSpec : ChangeSpec := { name := "mergeAll", fn := fun _ => fun
  | [d] => { results := [.lit (.bool true)], args := [d] }
  | _ => none }
def mergeAllRow : OpenClaim := { program := "ytnajopkaepjncaa", sum := "9df27bc874de5875e72f6c4728684832edba6552f2799964429129ef1f247fce", func := "freshet/freshetlaw13.MergeAll", spec := "mergeAll", unfollowed := true, recurses := true, apart := false }
def MergeAllSaid : Prop := mergeAllRow.holds Try.pinned (OpenSpec.ofChange mergeAllSpec)

/-- ITS FALSE NEIGHBOUR: 'it returns false'. Refute it at one input. -/
def mergeAllWrong : ChangeSpec := { name := "mergeAll", fn := fun _ => fun
  | [d] => { results := [.lit (.bool false)], args := [d] }
  | _ => none }
def MergeAllWrongFalsely : Prop := mergeAllRow.holds Try.pinned (OpenSpec.ofChange mergeAllWrong)

/-- 'freshetlaw13.MergeParted': WHATEVER THE INPUT: true; the input reads as it did. -/
def mergePartedSpec : ChangeSpec := { name := "mergeParted", fn := fun _ => fun
  | [d1, d2] => { results := [.lit (.bool true)], args := [d1, d2] }
  | _ => none }
def mergePartedRow : OpenClaim := { program := "ytnajopkaepjncaa", sum := "9df27bc874de5875e72f6c4728684832edba6552f2799964429129ef1f247fce", func := "freshet/freshetlaw13.MergeParted", spec := "mergeParted", unfollowed := true, recurses := true, apart := false }
def MergePartedSaid : Prop := mergePartedRow.holds Try.pinned (OpenSpec.ofChange mergePartedSpec)

/-- ITS FALSE NEIGHBOUR: 'it returns false'. Refute it at one input. -/
def mergePartedWrong : ChangeSpec := { name := "mergeParted", fn := fun _ => fun
  | [d1, d2] => { results := [.lit (.bool false)], args := [d1, d2] }
  | _ => none }
def MergePartedWrongFalsely : Prop := mergePartedRow.holds Try.pinned (OpenSpec.ofChange mergePartedWrong)

/-- 'freshetlaw13.MergeNothing': WHATEVER THE INPUT: true; the input reads as it did. -/
def mergeNothingSpec : ChangeSpec := { name := "mergeNothing", fn := fun _ => fun
  | [d1, d2, d3, d4] => { results := [.lit (.bool true)], args := [d1, d2, d3, d4] }
  | _ => none }
def mergeNothingRow : OpenClaim := { program := "ytnajopkaepjncaa", sum := "9df27bc874de5875e72f6c4728684832edba6552f2799964429129ef1f247fce", func := "freshet/freshetlaw13.MergeNothing", spec := "mergeNothing", unfollowed := true, recurses := true, apart := false }
def MergeNothingSaid : Prop := mergeNothingRow.holds Try.pinned (OpenSpec.ofChange mergeNothingSpec)

/-- ITS FALSE NEIGHBOUR: 'it returns false'. Refute it at one input. -/
def mergeNothingWrong : ChangeSpec := { name := "mergeNothing", fn := fun _ => fun
  | [d1, d2, d3, d4] => { results := [.lit (.bool false)], args := [d1, d2, d3, d4] }
  | _ => none }
def MergeNothingWrongFalsely : Prop := mergeNothingRow.holds Try.pinned (OpenSpec.ofChange mergeNothingWrong)

/-- 'freshetlaw13.MergeFirst': WHATEVER THE INPUT: true; the input reads as it did. -/
def mergeFirstSpec : ChangeSpec := { name := "mergeFirst", fn := fun _ => fun
  | [d1, d2] => { results := [.lit (.bool true)], args := [d1, d2] }
  | _ => none }
def mergeFirstRow : OpenClaim := { program := "ytnajopkaepjncaa", sum := "9df27bc874de5875e72f6c4728684832edba6552f2799964429129ef1f247fce", func := "freshet/freshetlaw13.MergeFirst", spec := "mergeFirst", unfollowed := true, recurses := true, apart := false }
def MergeFirstSaid : Prop := mergeFirstRow.holds Try.pinned (OpenSpec.ofChange mergeFirstSpec)

/-- ITS FALSE NEIGHBOUR: 'it returns false'. Refute it at one input. -/
def mergeFirstWrong : ChangeSpec := { name := "mergeFirst", fn := fun _ => fun
  | [d1, d2] => { results := [.lit (.bool false)], args := [d1, d2] }
  | _ => none }
def MergeFirstWrongFalsely : Prop := mergeFirstRow.holds Try.pinned (OpenSpec.ofChange mergeFirstWrong)

/- THE SECOND FORM. 'bulk': how many values and letters a reading holds, each counted each time it is reached (what is shared counts as often as it is met; a slice's spare places count too). A statement '..UptoSaid' is the law's where the arguments, and the package variables that the reading takes, are together of bulk at most 1048576: NARROWER than '..Said'. Prove '..Said' where nothing that the law and all that it calls make is longer than what came in: it says more and counts as full. Else prove '..UptoSaid'. A law counts once. -/
mutual
def uptoBulk {H : Type} : DataW H → Nat
  | .lit (.string bytes) => bytes.length + 1
  | .lit _ => 1
  | .nil => 1
  | .ptr d => uptoBulk d + 1
  | .slice elems spare => uptoBulkAll elems + uptoBulkAll spare + 1
  | .agg parts => uptoBulkAll parts + 1
  | .iface _ d => uptoBulk d + 1
  | .map entries => uptoBulkEntries entries + 1
  | .held _ => 1
def uptoBulkAll {H : Type} : List (DataW H) → Nat
  | [] => 0
  | d :: r => uptoBulk d + uptoBulkAll r
def uptoBulkEntries {H : Type} : List (Lit × DataW H) → Nat
  | [] => 0
  | x :: r => uptoBulkEntry x + uptoBulkEntries r
def uptoBulkEntry {H : Type} : Lit × DataW H → Nat
  | (.string bytes, d) => bytes.length + uptoBulk d + 1
  | (_, d) => uptoBulk d + 1
 end
def uptoSmall : (H : Type) → List (DataW H) → Bool := fun _ ds => decide (uptoBulkAll ds ≤ 1048576)
def OpenSpec.upto (s : _root_.Go.ChangeSpec) : _root_.Go.OpenSpec := { _root_.Go.OpenSpec.ofChange s with cond := some uptoSmall }

/-- 'freshetlaw13.MergeAt', WHERE WHAT IT READS IS OF BULK AT MOST 1048576: true; the input reads as it did. -/
def mergeAtUptoRow : OpenClaim := { program := "ytnajopkaepjncaa", sum := "9df27bc874de5875e72f6c4728684832edba6552f2799964429129ef1f247fce", func := "freshet/freshetlaw13.MergeAt", spec := "mergeAt", unfollowed := true, recurses := true, apart := false, narrowed := true }
def MergeAtUptoSaid : Prop := mergeAtUptoRow.holds Try.pinned (OpenSpec.upto mergeAtSpec)

/-- 'freshetlaw13.MergeDrop', WHERE WHAT IT READS IS OF BULK AT MOST 1048576: true; the input reads as it did. -/
def mergeDropUptoRow : OpenClaim := { program := "ytnajopkaepjncaa", sum := "9df27bc874de5875e72f6c4728684832edba6552f2799964429129ef1f247fce", func := "freshet/freshetlaw13.MergeDrop", spec := "mergeDrop", unfollowed := true, recurses := true, apart := false, narrowed := true }
def MergeDropUptoSaid : Prop := mergeDropUptoRow.holds Try.pinned (OpenSpec.upto mergeDropSpec)

/-- 'freshetlaw13.MergeAgain', WHERE WHAT IT READS IS OF BULK AT MOST 1048576: true; the input reads as it did. -/
def mergeAgainUptoRow : OpenClaim := { program := "ytnajopkaepjncaa", sum := "9df27bc874de5875e72f6c4728684832edba6552f2799964429129ef1f247fce", func := "freshet/freshetlaw13.MergeAgain", spec := "mergeAgain", unfollowed := true, recurses := true, apart := false, narrowed := true }
def MergeAgainUptoSaid : Prop := mergeAgainUptoRow.holds Try.pinned (OpenSpec.upto mergeAgainSpec)

/-- 'freshetlaw13.MergeRises', WHERE WHAT IT READS IS OF BULK AT MOST 1048576: true; the input reads as it did. -/
def mergeRisesUptoRow : OpenClaim := { program := "ytnajopkaepjncaa", sum := "9df27bc874de5875e72f6c4728684832edba6552f2799964429129ef1f247fce", func := "freshet/freshetlaw13.MergeRises", spec := "mergeRises", unfollowed := true, recurses := true, apart := false, narrowed := true }
def MergeRisesUptoSaid : Prop := mergeRisesUptoRow.holds Try.pinned (OpenSpec.upto mergeRisesSpec)

/-- 'freshetlaw13.MergeAll', WHERE WHAT IT READS IS OF BULK AT MOST 1048576: true; the input reads as it did. -/
def mergeAllUptoRow : OpenClaim := { program := "ytnajopkaepjncaa", sum := "9df27bc874de5875e72f6c4728684832edba6552f2799964429129ef1f247fce", func := "freshet/freshetlaw13.MergeAll", spec := "mergeAll", unfollowed := true, recurses := true, apart := false, narrowed := true }
def MergeAllUptoSaid : Prop := mergeAllUptoRow.holds Try.pinned (OpenSpec.upto mergeAllSpec)

/-- 'freshetlaw13.MergeParted', WHERE WHAT IT READS IS OF BULK AT MOST 1048576: true; the input reads as it did. -/
def mergePartedUptoRow : OpenClaim := { program := "ytnajopkaepjncaa", sum := "9df27bc874de5875e72f6c4728684832edba6552f2799964429129ef1f247fce", func := "freshet/freshetlaw13.MergeParted", spec := "mergeParted", unfollowed := true, recurses := true, apart := false, narrowed := true }
def MergePartedUptoSaid : Prop := mergePartedUptoRow.holds Try.pinned (OpenSpec.upto mergePartedSpec)

/-- 'freshetlaw13.MergeNothing', WHERE WHAT IT READS IS OF BULK AT MOST 1048576: true; the input reads as it did. -/
def mergeNothingUptoRow : OpenClaim := { program := "ytnajopkaepjncaa", sum := "9df27bc874de5875e72f6c4728684832edba6552f2799964429129ef1f247fce", func := "freshet/freshetlaw13.MergeNothing", spec := "mergeNothing", unfollowed := true, recurses := true, apart := false, narrowed := true }
def MergeNothingUptoSaid : Prop := mergeNothingUptoRow.holds Try.pinned (OpenSpec.upto mergeNothingSpec)

/-- 'freshetlaw13.MergeFirst', WHERE WHAT IT READS IS OF BULK AT MOST 1048576: true; the input reads as it did. -/
def mergeFirstUptoRow : OpenClaim := { program := "ytnajopkaepjncaa", sum := "9df27bc874de5875e72f6c4728684832edba6552f2799964429129ef1f247fce", func := "freshet/freshetlaw13.MergeFirst", spec := "mergeFirst", unfollowed := true, recurses := true, apart := false, narrowed := true }
def MergeFirstUptoSaid : Prop := mergeFirstUptoRow.holds Try.pinned (OpenSpec.upto mergeFirstSpec)

end Rows
end Go.Proofs.Ytnajopkaepjncaa
