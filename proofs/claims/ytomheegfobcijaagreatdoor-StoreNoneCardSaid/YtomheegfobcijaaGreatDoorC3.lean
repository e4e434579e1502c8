/- A piece of a run. -/
import Derived.Test.YtomheegfobcijaaGreatDoorT4
import Derived.KernelRfl
/- A piece of a run. -/
namespace Go.Proofs.YtomheegfobcijaaGreatDoor.Am
set_option linter.unusedVariables false
theorem run9 : cutF Tryz.prog Kp (Kp.vars 20) (ntC Tryz.prog 20) 2 (999 - 7) (partC Tryz.prog 20 7) piece7 = some piece9 := by kernel_rfl
end Go.Proofs.YtomheegfobcijaaGreatDoor.Am
