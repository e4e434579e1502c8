/- The last piece of a run. -/
import Derived.Test.YtomheegfobcijaaGreatDoorT4
import Derived.KernelRfl
/- The last piece of a run. -/
namespace Go.Proofs.YtomheegfobcijaaGreatDoor.Am
set_option linter.unusedVariables false
theorem run_end : endsTrue Tryz.prog Kp 20 ((machF Tryz.prog (999 - 9)).2 Kp (Kp.vars 20) (ntC Tryz.prog 20) (partC Tryz.prog 20 9) piece9) = true := by kernel_rfl
end Go.Proofs.YtomheegfobcijaaGreatDoor.Am
