/- Closed facts of the row (k). -/
import Derived.Test.YtnoffmhomcefpaaGreatDoorRows
import Derived.JoinedOf
import Derived.KernelRfl
/- Closed facts of the row (k). -/
namespace Go.Proofs.YtnoffmhomcefpaaGreatDoor.stateNone
open Go.ChangeShapes
set_option linter.unusedVariables false
theorem fact0 : (Rows.stateNoneRow.wf (OpenSpec.ofChange Rows.stateNoneSpec)) = true := by kernel_rfl
theorem fact1 : (laidOutB Tryz.prog) = true := by kernel_rfl
theorem fact2 : (mapsRowed Tryz.prog) = true := by kernel_rfl
theorem fact3 : (Tryz.f3.params.all (Tryz.prog.readableRec ·)) = true := by kernel_rfl
theorem fact4 : (namedTie Tryz.prog Rows.stateNoneRow.named Rows.stateNoneSpec.vars) = true := by kernel_rfl
theorem fact5 : ((Rows.stateNoneRow.stops == [])) = true := by kernel_rfl
theorem fact6 : ((Tryz.prog.stops == [])) = true := by kernel_rfl
theorem fact7 : ((Rows.stateNoneRow.knobs == [])) = true := by kernel_rfl
theorem fact8 : ((Tryz.prog.stopKnobs == [])) = true := by kernel_rfl
theorem fact13 : ((Rows.stateNoneRow.maps == (Tryz.f3.params.toList ++ Rows.stateNoneSpec.plain.varTypes Tryz.prog).any (Tryz.prog.mapsRec ·))) = true := by kernel_rfl
theorem fact14 : ((Rows.stateNoneRow.ifaces == (Tryz.f3.params.toList ++ Rows.stateNoneSpec.plain.varTypes Tryz.prog).any (Tryz.prog.ifacesRec ·))) = true := by kernel_rfl
theorem fact15 : ((Rows.stateNoneRow.mapsOut == Tryz.prog.mapsAmong Tryz.f3.resultTypes.toList)) = true := by kernel_rfl
theorem fact16 : ((Rows.stateNoneRow.loops == (Tryz.f3.params.toList ++ Rows.stateNoneSpec.plain.varTypes Tryz.prog).any (Tryz.prog.loopsFrom ·))) = true := by kernel_rfl
theorem fact17 : ((Rows.stateNoneRow.wideKeys == (Tryz.f3.params.toList ++ Rows.stateNoneSpec.plain.varTypes Tryz.prog ++ Tryz.f3.resultTypes.toList).any (Tryz.prog.wideKeysFrom ·))) = true := by kernel_rfl
theorem fact18 : (Rows.stateNoneSpec.vars.all (Tryz.prog.varReadable ·)) = true := by kernel_rfl
theorem fact19 : (Tryz.f3.resultTypes.all (fun t => Tryz.prog.readableRec t && decide (t < Tryz.prog.types.size))) = true := by kernel_rfl
theorem fact20 : ((Rows.stateNoneRow.ifacesOut == Tryz.f3.resultTypes.toList.any (Tryz.prog.ifacesRec ·))) = true := by kernel_rfl
theorem fact21 : ((Rows.stateNoneRow.loopsOut == Tryz.f3.resultTypes.toList.any (Tryz.prog.loopsFrom ·))) = true := by kernel_rfl
theorem fact22 : ((Rows.stateNoneRow.plainKeys == Tryz.prog.plainKeys)) = true := by kernel_rfl
theorem fact23 : (Rows.stateNoneRow.shortTexts.isNone) = true := by kernel_rfl
theorem fact26 : ((Rows.stateNoneRow.lifted == Tryz.prog.liftsFinal)) = true := by kernel_rfl
theorem fact27 : ((Tryz.prog.make == some Rows.stateNoneRow.make)) = true := by kernel_rfl
theorem fact29 : ((Rows.stateNoneRow.pinned == Rows.stateNoneRow.pinnedBy)) = true := by kernel_rfl
theorem fact30 : ((Rows.stateNoneRow.veiled == (Tryz.f3.params.toList ++ Rows.stateNoneSpec.plain.varTypes Tryz.prog ++ Tryz.f3.resultTypes.toList).any (Tryz.prog.veiledRec ·))) = true := by kernel_rfl
theorem fact31 : (Rows.stateNoneRow.veiledFits Tryz.prog Tryz.f3.params.toList (Tryz.f3.params.toList ++ Rows.stateNoneSpec.plain.varTypes Tryz.prog ++ Tryz.f3.resultTypes.toList)) = true := by kernel_rfl
theorem fnamed : Tryz.prog.funcNamed Rows.stateNoneRow.func = some 3 := by kernel_rfl
theorem finst : Tryz.f3.isInstance Tryz.prog Rows.stateNoneRow.origin Rows.stateNoneRow.targs := of_decide_eq_true (by kernel_rfl)
end Go.Proofs.YtnoffmhomcefpaaGreatDoor.stateNone
