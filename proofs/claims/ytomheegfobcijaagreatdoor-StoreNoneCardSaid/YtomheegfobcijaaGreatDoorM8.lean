/- The whole run. -/
import Derived.Test.YtomheegfobcijaaGreatDoorC1
import Derived.Test.YtomheegfobcijaaGreatDoorC2
import Derived.Test.YtomheegfobcijaaGreatDoorC3
import Derived.Test.YtomheegfobcijaaGreatDoorC4
import Derived.Test.YtomheegfobcijaaGreatDoorM7
/- The whole run. -/
namespace Go.Proofs.YtomheegfobcijaaGreatDoor.Am
set_option linter.unusedVariables false
theorem awake_runs : isTrue (callK Tryz.prog 1000 Kp 20 [] [] []) = true := by
  obtain ⟨st, h, he⟩ := ends_ok run_end
  have h : execK Tryz.prog (999 - 7) Kp (Kp.vars 20) (ntC Tryz.prog 20) (partC Tryz.prog 20 7) piece7 = some (.ret, st) := piece_ok (i := 7) (j := 2) run9 h
  have h : execK Tryz.prog (999 - 3) Kp (Kp.vars 20) (ntC Tryz.prog 20) (partC Tryz.prog 20 3) piece3 = some (.ret, st) := piece_ok (i := 3) (j := 4) run7 h
  have h : execK Tryz.prog (999 - 0) Kp (Kp.vars 20) (ntC Tryz.prog 20) (partC Tryz.prog 20 0) piece0 = some (.ret, st) := piece_ok (i := 0) (j := 3) run3 h
  exact pieces_run (N := 999) (K := Kp) rfl rfl rfl Tryz.func20 rfl h he
end Go.Proofs.YtomheegfobcijaaGreatDoor.Am

/- StoreNone's law, run to its end. -/
namespace Go.Proofs.YtomheegfobcijaaGreatDoor.Am
set_option linter.unusedVariables false
def shorts : List (FuncId × ShortF) := (20, idleF true) :: libs
theorem shorts_ok : AllOk Tryz.prog shorts := by
  obtain ⟨H, own, h⟩ := isTrue_some awake_runs
  exact ⟨idle_ok pok (short_sound (K := Kp) rfl memos_ok) (short_local (K := Kp) rfl memos_ok) h, libs_ok⟩
def Kj (lo : Nat) : Know := ⟨vars0, findS shorts, fun _ => false, fun _ => false, lo⟩
theorem StoreNone_runs_nil (a b c d e f g : Int) (key : List UInt8) (n : Int) : isTrue (callK Tryz.prog 1000 (Kj 0) 3 [.agg [.int .i64 a, .int .i64 b, .int .i64 c, .int .i64 d, .int .i64 e, .int .i64 f, .int .i64 g], .nils, .str key, .int .u64 n] [] []) = true := by kernel_rfl
theorem StoreNone_runs_lst (a b c d e f g : Int) (xs sp : List AV) (key : List UInt8) (n : Int) : isTrue (callK Tryz.prog 1000 (Kj 0) 3 [.agg [.int .i64 a, .int .i64 b, .int .i64 c, .int .i64 d, .int .i64 e, .int .i64 f, .int .i64 g], (.lst 127 xs sp), .str key, .int .u64 n] [] []) = true := by kernel_rfl
abbrev threeTy : Ty := .pair (.int .i64) (.pair (.int .i64) (.pair (.int .i64) .unit))
abbrev optTy : Ty := .pair threeTy (.pair threeTy (.pair (.int .i64) .unit))
abbrev wrTy : Ty := .slice 127 true (.pair (.int .i64) (.pair .str (.pair .str .unit)))
theorem tyOpt : tyOf Tryz.prog 10 27 = some optTy := by kernel_rfl
theorem tyWr : tyOf Tryz.prog 10 28 = some wrTy := by kernel_rfl
theorem opt_enc (d : optTy.den) : .agg (optTy.enc d) = AV.agg [.int .i64 d.1.1.1, .int .i64 d.1.2.1.1, .int .i64 d.1.2.2.1.1, .int .i64 d.2.1.1.1, .int .i64 d.2.1.2.1.1, .int .i64 d.2.1.2.2.1.1, .int .i64 d.2.2.1.1] := rfl
theorem StoreNone_runs (a b c d e f g : Int) (x : wrTy.den) (key : List UInt8) (n : Int) : isTrue (callK Tryz.prog 1000 (Kj 0) 3 [.agg [.int .i64 a, .int .i64 b, .int .i64 c, .int .i64 d, .int .i64 e, .int .i64 f, .int .i64 g], (wrTy.enc x).headD .undef, .str key, .int .u64 n] [] []) = true := by
  cases x with
  | none => exact StoreNone_runs_nil a b c d e f g key n
  | some p => exact StoreNone_runs_lst a b c d e f g _ _ key n
end Go.Proofs.YtomheegfobcijaaGreatDoor.Am
