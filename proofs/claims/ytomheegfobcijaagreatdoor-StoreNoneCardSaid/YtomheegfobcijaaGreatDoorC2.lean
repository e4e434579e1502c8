/- A piece of a run. -/
import Derived.Test.YtomheegfobcijaaGreatDoorT4
import Derived.KernelRfl
/- A piece of a run. -/
namespace Go.Proofs.YtomheegfobcijaaGreatDoor.Am
set_option linter.unusedVariables false
theorem run7 : cutF Tryz.prog Kp (Kp.vars 20) (ntC Tryz.prog 20) 4 (999 - 3) (partC Tryz.prog 20 3) piece3 = some piece7 := by kernel_rfl
end Go.Proofs.YtomheegfobcijaaGreatDoor.Am
