/- The abstract machine is right, sixteenth part: what an operation reads of slots, of the heap and of the ends. -/
import Derived.Test.YtnajopkaepjncaaAm19
namespace Go.Proofs.Ytnajopkaepjncaa.Am
set_option linter.unusedVariables false
set_option linter.unusedSimpArgs false
open Go.RowKit

section
variable {P : Program} {call : CallA} {ops : List Oper}

theorem evalO_env {env env' : List (Nat × AV)} {x : Operand} (h : ∀ s, x = .tmp s → look env s = look env' s) : evalO env x = evalO env' x := by
  cases x <;> simp only [evalO]
  rw [h _ rfl]
theorem evalL_env {env env' : List (Nat × AV)} : ∀ l : List Operand, (∀ x ∈ l, evalO env x = evalO env' x) → evalL env l = evalL env' l
  | [], _ => rfl
  | x :: r, h => by simp only [evalL]; rw [h x (by simp), evalL_env r fun y hy => h y (by simp [hy])]
theorem evalParts_env {env env' : List (Nat × AV)} : ∀ l : List (Nat × Operand), (∀ x ∈ l, evalO env x.2 = evalO env' x.2) → evalParts env l = evalParts env' l
  | [], _ => rfl
  | (i, x) :: r, h => by simp only [evalParts]; rw [h (i, x) (by simp), evalParts_env r fun y hy => h y (by simp [hy])]
theorem optA_env {env env' : List (Nat × AV)} (x : Option Operand) (h : ∀ y, x = some y → evalO env y = evalO env' y) : optA env x = optA env' x := by
  cases x with
  | none => rfl
  | some y => simp only [optA]; rw [h y rfl]

theorem core_env {env env' : List (Nat × AV)} {H : List (Option Blk)} {own : List Loc} {o : Oper} (h : ∀ s ∈ opSlots o, look env s = look env' s) : core call P ops o env H own = core call P ops o env' H own := by
  have hs : ∀ s, .tmp s ∈ o.op.operands.toList → look env s = look env' s := by
    intro s hm
    exact h s (by unfold opSlots; exact List.mem_filterMap.2 ⟨_, hm, rfl⟩)
  have hx : ∀ x ∈ o.op.operands.toList, evalO env x = evalO env' x := fun x hm => evalO_env fun s e => hs s (e ▸ hm)
  clear h
  obtain ⟨dst, op, ty, pos, after, guard⟩ := o
  simp only at hs hx
  cases op
  case move x =>
    cases x with
    | tmp s => simp only [core]; rw [hs s (by simp [Op.operands])]
    | _ => rfl
  case load t a => simp only [core]; rw [hx a (by simp [Op.operands])]
  case alloc e => rfl
  case box e x => simp only [core]; rw [hx x (by simp [Op.operands])]
  case store t a x => simp only [core]; rw [hx a (by simp [Op.operands]), hx x (by simp [Op.operands])]
  case assign x => simp only [core]; rw [hx x (by simp [Op.operands])]
  case buildSlice t len parts => simp only [core]; rw [evalParts_env parts.toList fun q hq => hx q.2 (by simp only [Op.operands, List.mem_map]; exact ⟨q, hq, rfl⟩)]
  case makeSlice t l c => simp only [core]; rw [hx l (by simp [Op.operands]), hx c (by simp [Op.operands])]
  case convert s d x => simp only [core]; rw [hx x (by simp [Op.operands])]
  case pick c a b => simp only [core, pureOp]; rw [hx c (by simp [Op.operands]), hx a (by simp [Op.operands]), hx b (by simp [Op.operands])]
  case build t parts => simp only [core, pureOp]; rw [evalParts_env parts.toList fun q hq => hx q.2 (by simp only [Op.operands, List.mem_map]; exact ⟨q, hq, rfl⟩)]
  case nilCheck x => simp only [core, pureOp]; rw [hx x (by simp [Op.operands])]
  case binOp op t x y ty => simp only [core, pureOp]; rw [hx x (by simp [Op.operands]), hx y (by simp [Op.operands])]
  case unOp op t x => simp only [core, pureOp]; rw [hx x (by simp [Op.operands])]
  case makeInterface t x => simp only [core, pureOp]; rw [hx x (by simp [Op.operands])]
  case makeFunc f first captured =>
    have : evalL env captured.toList = evalL env' captured.toList := evalL_env _ fun q hq => hx q (by simp [Op.operands]; exact .inr (by simpa using hq))
    cases f <;> simp only [core, pureOp]
    rw [this]
  case slice t x l hh m => simp only [core, pureOp]; rw [hx x (by simp [Op.operands]), optA_env l fun y e => hx y (by simp [Op.operands, e]), optA_env hh fun y e => hx y (by simp [Op.operands, e]), optA_env m fun y e => hx y (by simp [Op.operands, e])]
  case fieldAddr s x f => simp only [core, pureOp]; rw [hx x (by simp [Op.operands])]
  case field t x f => simp only [core, pureOp]; rw [hx x (by simp [Op.operands])]
  case indexAddr t x i => simp only [core, pureOp]; rw [hx x (by simp [Op.operands]), hx i (by simp [Op.operands])]
  case index t x i => simp only [core, pureOp]; rw [hx x (by simp [Op.operands]), hx i (by simp [Op.operands])]
  case extract t i => simp only [core, pureOp]; rw [hx t (by simp [Op.operands])]
  case call c =>
    obtain ⟨callee, args, at_⟩ := c
    simp only [Op.operands, Call.operands] at hs hx
    have hargs : ∀ x ∈ args.toList, evalO env x = evalO env' x := fun x hm => hx x (by simp; exact .inr (by simpa using hm))
    cases callee with
    | value f => simp only [core]; rw [hx f (by simp), evalL_env _ hargs]
    | invoke r name => simp only [core]; rw [hx r (by simp), evalL_env _ hargs]
    | builtin b =>
      cases b
      case append =>
        simp only [core]
        split
        · rename_i s x ts tx e1 e2
          rw [e1] at hargs
          unfold appendA
          rw [hargs s (by simp), hargs x (by simp)]
        · rfl
      case len =>
        simp only [core, pureOp]
        split
        · rename_i x t e1 e2
          rw [e1] at hargs
          rw [hargs x (by simp)]
        · rfl
      all_goals rfl
  all_goals rfl

end
end Go.Proofs.Ytnajopkaepjncaa.Am
