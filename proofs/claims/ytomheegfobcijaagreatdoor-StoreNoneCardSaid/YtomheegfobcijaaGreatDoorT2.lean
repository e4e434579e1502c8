/- Calls that the machine ran: their answers. -/
import Derived.Test.YtomheegfobcijaaGreatDoorM7
import Derived.Test.YtomheegfobcijaaGreatDoorM5
import Derived.Test.YtomheegfobcijaaGreatDoorM6
import Derived.KernelRfl
/- Calls that the machine ran: their answers. -/
namespace Go.Proofs.YtomheegfobcijaaGreatDoor.Am
set_option linter.unusedVariables false
def arg83_0 : List AV := [(.lst 73 [(.agg [(.str [97]), (.int .u64 3), (.int .i64 2), (.str [])]), (.agg [(.str [97]), (.int .u64 1), (.int .i64 1), (.str [120])]), (.agg [(.str [98]), (.int .u64 2), (.int .i64 1), (.str [121])])] []), (.agg [(.int .i64 64), (.int .i64 16), (.int .i64 10)])]
def ans83_0 : AV := (.tup [(.str [30, 0, 1, 97, 3, 2, 1, 0, 1, 1, 1, 120, 0, 1, 98, 2, 1, 1, 121, 0, 0, 0, 0, 1, 0, 0, 0, 16, 0, 0, 0, 106, 83, 170, 109, 9, 7, 0, 66, 64, 146, 37, 1, 132, 16, 248, 129, 50, 237, 22, 0, 1, 98, 2, 1, 4, 1, 97, 0, 3, 0, 0, 0, 0, 1, 0, 0, 0, 1, 0, 0, 0, 44, 173, 31, 76, 35, 0, 0, 0, 0, 0, 0, 0, 49, 0, 0, 0, 0, 0, 0, 0, 109, 186, 142, 189]), (.int .i64 0)])
theorem told83_0 : isAns (callF Tryz.prog 1000 ⟨vars0, findS libs, fun _ => false, fun _ => false, 0⟩ 83 arg83_0 [] []) ans83_0 = true := by kernel_rfl
end Go.Proofs.YtomheegfobcijaaGreatDoor.Am
