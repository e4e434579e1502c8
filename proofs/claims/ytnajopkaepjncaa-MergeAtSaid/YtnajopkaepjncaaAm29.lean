/- Walks, fifth part: small laws. -/
import Derived.Test.YtnajopkaepjncaaAm28
namespace Go.Proofs.Ytnajopkaepjncaa.Am
set_option linter.unusedVariables false

/-- A call that only makes memory. -/
def Gives (P : Program) (K : Know) (f : FuncId) (args : List AV) (x : AV) : Prop := ∀ H cells, ∃ E, CallsA P K f args H cells x (H ++ E) cells

/-- A place in a function's text: false: the first part, true: the second. -/
def Code.sub : Code → List Bool → Code
  | c, [] => c
  | .seq a _, false :: r => Code.sub a r
  | .seq _ b, true :: r => Code.sub b r
  | .cond _ a _, false :: r => Code.sub a r
  | .cond _ _ b, true :: r => Code.sub b r
  | .block _ c, _ :: r => Code.sub c r
  | .loop c, _ :: r => Code.sub c r
  | c, _ => c
def at_ (f : Func) (p : List Bool) : Code := match f.body with
  | some c => Code.sub c p
  | none => .skip
def More (H H' : List (Option Blk)) : Prop := ∃ E, H' = H ++ E
theorem More.refl (H : List (Option Blk)) : More H H := ⟨[], (List.append_nil H).symm⟩
theorem More.trans {A B C : List (Option Blk)} (h : More A B) (k : More B C) : More A C := by
  obtain ⟨E, rfl⟩ := h; obtain ⟨F, rfl⟩ := k; exact ⟨E ++ F, by rw [List.append_assoc]⟩
theorem More.app (H E : List (Option Blk)) : More H (H ++ E) := ⟨E, rfl⟩
theorem dec_true {p : Prop} [Decidable p] (h : decide p = true) : p := of_decide_eq_true h
theorem dec_false {p : Prop} [Decidable p] (h : decide p = false) : ¬ p := of_decide_eq_false h

theorem get_last {α : Type} (H : List α) (a : α) : (H ++ [a])[H.length]? = some a := by simp
theorem get_app {α : Type} {H : List α} {i : Nat} {a : α} (h : H[i]? = some a) (E : List α) : (H ++ E)[i]? = some a := by rw [List.getElem?_append_left (List.getElem?_eq_some_iff.1 h).1]; exact h
theorem wrap_i64 {n : Int} (h0 : -9223372036854775808 ≤ n) (h1 : n < 9223372036854775808) : IntKind.i64.wrap n = n := by
  have : IntKind.i64.wrap n = (n + 9223372036854775808) % 18446744073709551616 - 9223372036854775808 := by
    simp [IntKind.wrap, IntKind.bits, IntKind.signed]
    split <;> omega
  rw [this]; omega
/-- One more, one less. -/
theorem int_eq {m n : Int} (h : m = n) : some (AV.int .i64 m) = some (AV.int .i64 n) := by rw [h]
theorem i64_eq {m n : Int} (h : m = n) (h0 : -9223372036854775808 ≤ n) (h1 : n < 9223372036854775808) : some (AV.int .i64 (IntKind.i64.wrap m)) = some (AV.int .i64 n) := by rw [h, wrap_i64 h0 h1]
theorem bool_eq {a b : Bool} (h : a = b) : some (AV.bool a) = some (AV.bool b) := by rw [h]

end Go.Proofs.Ytnajopkaepjncaa.Am
