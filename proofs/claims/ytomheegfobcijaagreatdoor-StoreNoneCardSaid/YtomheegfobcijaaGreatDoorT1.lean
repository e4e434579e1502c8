/- Calls that the machine ran: their answers. -/
import Derived.Test.YtomheegfobcijaaGreatDoorM7
import Derived.Test.YtomheegfobcijaaGreatDoorM5
import Derived.Test.YtomheegfobcijaaGreatDoorM6
import Derived.KernelRfl
/- Calls that the machine ran: their answers. -/
namespace Go.Proofs.YtomheegfobcijaaGreatDoor.Am
set_option linter.unusedVariables false
def arg186_0 : List AV := [(.agg [(.int .u64 1), (.int .u64 1), (.int .u64 0), .nils, .nils, .nils, .nils])]
def ans186_0 : AV := (.agg [(.int .u64 1), (.int .u64 1), (.int .u64 0), .nils, .nils])
theorem told186_0 : isAns (callF Tryz.prog 1000 ⟨vars0, findS libs, fun _ => false, fun _ => false, 0⟩ 186 arg186_0 [] []) ans186_0 = true := by kernel_rfl
def arg186_1 : List AV := [(.agg [(.int .u64 2), (.int .u64 2), (.int .u64 3), (.lst 94 [(.agg [(.int .u64 1), (.int .i64 96), (.int .i64 3), (.str [97]), (.str [98]), (.int .u64 1), (.int .u64 3)])] []), .nils, .nils, .nils])]
def ans186_1 : AV := (.agg [(.int .u64 2), (.int .u64 2), (.int .u64 3), .nils, (.lst 96 [(.agg [(.int .i64 0), (.int .u64 1), (.int .i64 96), (.int .i64 3), (.str [97]), (.str [98]), (.int .u64 1), (.int .u64 3)])] [])])
theorem told186_1 : isAns (callF Tryz.prog 1000 ⟨vars0, findS libs, fun _ => false, fun _ => false, 0⟩ 186 arg186_1 [] []) ans186_1 = true := by kernel_rfl
end Go.Proofs.YtomheegfobcijaaGreatDoor.Am

/- Calls that the machine ran: their answers. -/
namespace Go.Proofs.YtomheegfobcijaaGreatDoor.Am
set_option linter.unusedVariables false
def arg185_0 : List AV := [(.agg [(.int .u64 1), (.int .u64 1), (.int .u64 0), .nils, .nils])]
def ans185_0 : AV := (.tup [(.str [1, 1, 0, 0, 0]), (.int .i64 0)])
theorem told185_0 : isAns (callF Tryz.prog 1000 ⟨vars0, findS libs, fun _ => false, fun _ => false, 0⟩ 185 arg185_0 [] []) ans185_0 = true := by kernel_rfl
def arg185_1 : List AV := [(.agg [(.int .u64 2), (.int .u64 2), (.int .u64 3), .nils, (.lst 96 [(.agg [(.int .i64 0), (.int .u64 1), (.int .i64 96), (.int .i64 3), (.str [97]), (.str [98]), (.int .u64 1), (.int .u64 3)])] [])])]
def ans185_1 : AV := (.tup [(.str [2, 2, 3, 0, 1, 0, 1, 96, 3, 1, 97, 1, 98, 1, 3]), (.int .i64 0)])
theorem told185_1 : isAns (callF Tryz.prog 1000 ⟨vars0, findS libs, fun _ => false, fun _ => false, 0⟩ 185 arg185_1 [] []) ans185_1 = true := by kernel_rfl
end Go.Proofs.YtomheegfobcijaaGreatDoor.Am

/- Calls that the machine ran: their answers. -/
namespace Go.Proofs.YtomheegfobcijaaGreatDoor.Am
set_option linter.unusedVariables false
def arg131_0 : List AV := [(.agg [(.int .u64 1), (.lst 127 [(.agg [(.int .i64 1), (.str [97]), (.str [120])]), (.agg [(.int .i64 1), (.str [98]), (.str [121])])] [])])]
def ans131_0 : AV := (.tup [(.str [1, 2, 1, 1, 97, 1, 120, 1, 1, 98, 1, 121]), (.int .i64 0)])
theorem told131_0 : isAns (callF Tryz.prog 1000 ⟨vars0, findS libs, fun _ => false, fun _ => false, 0⟩ 131 arg131_0 [] []) ans131_0 = true := by kernel_rfl
def arg131_1 : List AV := [(.agg [(.int .u64 3), (.lst 127 [(.agg [(.int .i64 2), (.str [97]), (.str [])])] [])])]
def ans131_1 : AV := (.tup [(.str [3, 1, 2, 1, 97]), (.int .i64 0)])
theorem told131_1 : isAns (callF Tryz.prog 1000 ⟨vars0, findS libs, fun _ => false, fun _ => false, 0⟩ 131 arg131_1 [] []) ans131_1 = true := by kernel_rfl
end Go.Proofs.YtomheegfobcijaaGreatDoor.Am

/- Calls that the machine ran: their answers. -/
namespace Go.Proofs.YtomheegfobcijaaGreatDoor.Am
set_option linter.unusedVariables false
def arg30_0 : List AV := [(.lst 73 [(.agg [(.str [97]), (.int .u64 3), (.int .i64 2), (.str [])]), (.agg [(.str [97]), (.int .u64 1), (.int .i64 1), (.str [120])]), (.agg [(.str [98]), (.int .u64 2), (.int .i64 1), (.str [121])])] []), (.lst 29 [(.int .u64 2)] []), (.bool false)]
def ans30_0 : AV := (.tup [(.lst 73 [(.agg [(.str [97]), (.int .u64 3), (.int .i64 2), (.str [])]), (.agg [(.str [97]), (.int .u64 1), (.int .i64 1), (.str [120])]), (.agg [(.str [98]), (.int .u64 2), (.int .i64 1), (.str [121])])] []), (.int .i64 0)])
theorem told30_0 : isAns (callF Tryz.prog 1000 ⟨vars0, findS libs, fun _ => false, fun _ => false, 0⟩ 30 arg30_0 [] []) ans30_0 = true := by kernel_rfl
end Go.Proofs.YtomheegfobcijaaGreatDoor.Am

/- Calls that the machine ran: their answers. -/
namespace Go.Proofs.YtomheegfobcijaaGreatDoor.Am
set_option linter.unusedVariables false
def arg184_0 : List AV := [(.agg [(.int .u64 1), (.int .u64 1), (.int .u64 0), .nils, .nils, .nils, .nils]), (.agg [(.int .u64 2), (.int .u64 2), (.int .u64 3), .nils, (.lst 96 [(.agg [(.int .i64 0), (.int .u64 1), (.int .i64 96), (.int .i64 3), (.str [97]), (.str [98]), (.int .u64 1), (.int .u64 3)])] [])])]
def ans184_0 : AV := (.tup [(.agg [(.int .u64 2), (.int .u64 2), (.int .u64 3), (.lst 94 [(.agg [(.int .u64 1), (.int .i64 96), (.int .i64 3), (.str [97]), (.str [98]), (.int .u64 1), (.int .u64 3)])] []), .nils, .nils, .nils]), (.int .i64 0)])
theorem told184_0 : isAns (callF Tryz.prog 1000 ⟨vars0, findS libs, fun _ => false, fun _ => false, 0⟩ 184 arg184_0 [] []) ans184_0 = true := by kernel_rfl
end Go.Proofs.YtomheegfobcijaaGreatDoor.Am

/- Calls that the machine ran: their answers. -/
namespace Go.Proofs.YtomheegfobcijaaGreatDoor.Am
set_option linter.unusedVariables false
def arg238_0 : List AV := [(.str [7, 0, 66, 64, 146, 37, 1, 132, 16]), (.str [97])]
def ans238_0 : AV := (.bool true)
theorem told238_0 : isAns (callF Tryz.prog 1000 ⟨vars0, findS libs, fun _ => false, fun _ => false, 0⟩ 238 arg238_0 [] []) ans238_0 = true := by kernel_rfl
end Go.Proofs.YtomheegfobcijaaGreatDoor.Am
