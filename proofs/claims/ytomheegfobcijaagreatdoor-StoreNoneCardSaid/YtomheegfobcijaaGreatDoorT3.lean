/- Calls that the machine ran: their answers. -/
import Derived.Test.YtomheegfobcijaaGreatDoorM7
import Derived.Test.YtomheegfobcijaaGreatDoorM5
import Derived.Test.YtomheegfobcijaaGreatDoorM6
import Derived.KernelRfl
/- Calls that the machine ran: their answers. -/
namespace Go.Proofs.YtomheegfobcijaaGreatDoor.Am
set_option linter.unusedVariables false
def arg199_0 : List AV := [(.str [0, 1, 98, 2, 1, 4, 1, 97, 0, 3, 0, 0, 0, 0, 1, 0, 0, 0, 1, 0, 0, 0])]
def ans199_0 : AV := (.tup [(.lst 73 [(.agg [(.str [98]), (.int .u64 2), (.int .i64 1), (.str [1, 97, 0, 3])])] []), (.int .i64 0)])
theorem told199_0 : isAns (callF Tryz.prog 1000 ⟨vars0, findS libs, fun _ => false, fun _ => false, 0⟩ 199 arg199_0 [] []) ans199_0 = true := by kernel_rfl
def arg199_1 : List AV := [(.str [0, 1, 97, 3, 2, 1, 0, 1, 1, 1, 120, 0, 1, 98, 2, 1, 1, 121, 0, 0, 0, 0, 1, 0, 0, 0, 16, 0, 0, 0])]
def ans199_1 : AV := (.tup [(.lst 73 [(.agg [(.str [97]), (.int .u64 3), (.int .i64 2), (.str [])]), (.agg [(.str [97]), (.int .u64 1), (.int .i64 1), (.str [120])]), (.agg [(.str [98]), (.int .u64 2), (.int .i64 1), (.str [121])])] []), (.int .i64 0)])
theorem told199_1 : isAns (callF Tryz.prog 1000 ⟨vars0, findS libs, fun _ => false, fun _ => false, 0⟩ 199 arg199_1 [] []) ans199_1 = true := by kernel_rfl
end Go.Proofs.YtomheegfobcijaaGreatDoor.Am
