/- awake answers true. -/
import Derived.Test.YtnoffmhomcefpaaGreatDoorM7
import Derived.Test.YtnoffmhomcefpaaGreatDoorM5
import Derived.Test.YtnoffmhomcefpaaGreatDoorM1
import Derived.KernelRfl
/- awake answers true. -/
namespace Go.Proofs.YtnoffmhomcefpaaGreatDoor.Am
set_option linter.unusedVariables false
def Kl : Know := ⟨vars0, findS libs, fun _ => false, fun _ => false, 0⟩
theorem awake_runsF : isTrue (callF Tryz.prog 1000 Kl 16 [] [] []) = true := by kernel_rfl
theorem awake_runs : isTrue (callK Tryz.prog 1000 Kl 16 [] [] []) = true := by rw [← callF_eq]; exact awake_runsF
end Go.Proofs.YtnoffmhomcefpaaGreatDoor.Am

/- StateNone's law, run to its end. -/
namespace Go.Proofs.YtnoffmhomcefpaaGreatDoor.Am
set_option linter.unusedVariables false
def shorts : List (FuncId × ShortF) := (16, idleF true) :: libs
theorem shorts_ok : AllOk Tryz.prog shorts := by
  obtain ⟨H, own, h⟩ := isTrue_some awake_runs
  exact ⟨idle_ok pok (short_sound (K := Kl) rfl libs_ok) (short_local (K := Kl) rfl libs_ok) h, libs_ok⟩
def Kj (lo : Nat) : Know := ⟨vars0, findS shorts, fun _ => false, fun _ => false, lo⟩
theorem StateNone_runs (a b : Int) (s t u v : List UInt8) (n : Int) : isTrue (callK Tryz.prog 1000 (Kj 0) 3 [.agg [.int .i64 a, .int .i64 b, .str s, .str t, .str u], .str v, .int .i64 n] [] []) = true := by kernel_rfl
abbrev keyTy : Ty := .pair (.int .i64) (.pair (.int .i64) (.pair .str (.pair .str (.pair .str .unit))))
theorem tyKey : tyOf Tryz.prog 10 23 = some keyTy := by kernel_rfl
theorem key_enc (d : keyTy.den) : .agg (keyTy.enc d) = AV.agg [.int .i64 d.1.1, .int .i64 d.2.1.1, .str d.2.2.1.1, .str d.2.2.2.1.1, .str d.2.2.2.2.1.1] := rfl
end Go.Proofs.YtnoffmhomcefpaaGreatDoor.Am
