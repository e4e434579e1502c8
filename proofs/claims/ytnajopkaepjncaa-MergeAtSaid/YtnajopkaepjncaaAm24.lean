/- The abstract machine is right, twentieth part: what is looked up in a program's text. -/
import Derived.Test.YtnajopkaepjncaaAm23
namespace Go.Proofs.Ytnajopkaepjncaa.Am

def funcOk (fn : Func) : Bool :=
  !(fn.name == "runtime.NumGoroutine") && match fn.body with
    | some c => codeOk c
    | none => true
def progOk (P : Program) : Bool := P.follows .mixedOrders && P.funcs.all funcOk

theorem pok_of {P : Program} (h : progOk P = true) : POk P := by
  unfold progOk at h
  rw [Bool.and_eq_true] at h
  have hall : ∀ (f : Nat) (fn : Func), P.funcs[f]? = some fn → funcOk fn = true := by
    intro f fn hf
    exact (Array.all_eq_true'.1 h.2) fn (Array.mem_of_getElem? hf)
  have hN : NoNum P := by
    intro f fn hf
    have := hall f fn hf
    unfold funcOk at this
    rw [Bool.and_eq_true] at this
    simpa using this.1
  refine ⟨hN, ?_, draw_thm h.1 hN⟩
  intro f fn c hf hc
  have := hall f fn hf
  unfold funcOk at this
  rw [hc, Bool.and_eq_true] at this
  exact this.2

end Go.Proofs.Ytnajopkaepjncaa.Am
