/- Rows, as the abstract machine has them; which of two stands ahead. -/
import Derived.Test.YtnajopkaepjncaaAmP
import Derived.Test.YtnajopkaepjncaaVars
namespace Go.Proofs.Ytnajopkaepjncaa
open Am
set_option linter.unusedVariables false

structure Row where
  key : List UInt8
  seq : Int
  kind : Int
  val : List UInt8
def Row.enc (r : Row) : AV := .agg [.str r.key, .int .u64 r.seq, .int .i64 r.kind, .str r.val]

abbrev Gv (f : FuncId) (args : List AV) (x : AV) : Prop := Gives Try.prog K0 f args x

def aheadP (r : Row) (key : List UInt8) (seq : Int) : Bool := Op.bytesLess r.key key || (r.key == key && decide (r.seq > seq))

theorem ahead_spec (r : Row) (key : List UInt8) (seq : Int) : Gv 36 [r.enc, .str key, .int .u64 seq] (.bool (aheadP r key seq)) := by
  intro H cells
  refine ⟨[some ⟨39, r.enc.cells⟩], ?_⟩
  refine calls_by Try.func36 rfl rfl rfl ?_
  refine And.intro (Nat.succ_pos _) ?_
  refine Exists.intro _ (And.intro rfl (Exists.intro _ (And.intro rfl ?_)))
  refine Exists.intro _ (And.intro (get_last _ _) ?_)
  refine And.intro (fun h1 => ?_) (fun h1 => ?_)
  · replace h1 : Op.bytesLess r.key key = true := h1
    refine And.intro (bool_eq ?_) (And.intro rfl rfl)
    unfold aheadP; rw [h1]; rfl
  · replace h1 : Op.bytesLess r.key key = false := h1
    refine Exists.intro _ (And.intro (get_last _ _) ?_)
    refine And.intro (fun h2 => ?_) (fun h2 => ?_)
    · replace h2 : (r.key == key) = true := h2
      refine Exists.intro _ (And.intro (get_last _ _) ?_)
      refine And.intro (bool_eq (?_ : decide (r.seq > seq) = aheadP r key seq)) (And.intro rfl rfl)
      unfold aheadP; rw [h1, h2]; rfl
    · replace h2 : (r.key == key) = false := h2
      refine And.intro (bool_eq (?_ : false = aheadP r key seq)) (And.intro rfl rfl)
      unfold aheadP; rw [h1, h2]; rfl
end Go.Proofs.Ytnajopkaepjncaa
