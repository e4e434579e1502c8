/- What comes in, as the machine's values: rows, lists of rows, marks. -/
import Derived.Test.YtnajopkaepjncaaA2
namespace Go.Proofs.Ytnajopkaepjncaa
open Am
set_option linter.unusedVariables false

abbrev rowTy : Ty := .pair .str (.pair (.int .u64) (.pair (.int .i64) (.pair .str .unit)))
abbrev rowsTy : Ty := .slice 39 true rowTy
abbrev marksTy : Ty := .slice 23 false (.int .u64)
abbrev listsTy : Ty := .slice 22 false rowsTy
theorem ty22 : tyOf Try.prog 5 22 = some rowsTy := by kernel_rfl
theorem ty33 : tyOf Try.prog 5 33 = some marksTy := by kernel_rfl
theorem ty42 : tyOf Try.prog 6 42 = some listsTy := by kernel_rfl
def toRow (d : rowTy.den) : Row := ⟨d.1.1, d.2.1.1, d.2.2.1.1, d.2.2.2.1.1⟩
theorem toRow_enc (d : rowTy.den) : elt true (rowTy.enc d) = (toRow d).enc := rfl
theorem rows_of (d : rowsTy.den) : ∃ l, IsRows ((rowsTy.enc d).headD .undef) l ∧ l.length ≤ maxLen := by
  cases d with
  | none => exact ⟨[], .inl ⟨rfl, rfl⟩, Nat.zero_le _⟩
  | some p =>
    refine ⟨p.1.1.map toRow, .inr ⟨p.1.2.map fun d => elt true (rowTy.enc d), ?_⟩, ?_⟩
    · show AV.lst 39 _ _ = AV.lst 39 _ _
      rw [List.map_map]; rfl
    · have := p.2
      rw [List.length_map]; omega
end Go.Proofs.Ytnajopkaepjncaa
