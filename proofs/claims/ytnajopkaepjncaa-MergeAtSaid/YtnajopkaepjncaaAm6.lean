/- The abstract machine is right, third part: whatever operation neither reads nor writes cells. -/
import Derived.Test.YtnajopkaepjncaaAm5
namespace Go.Proofs.Ytnajopkaepjncaa.Am
set_option linter.unusedVariables false
set_option linter.unusedSimpArgs false
open Go.RowKit

section
variable {P : Program} {M : Mem} {w : World}

/-! ### comparisons -/
def plainV : Value → Bool
  | .int _ _ => false
  | .float _ _ => false
  | .complex _ _ _ => false
  | .string _ => false
  | _ => true
theorem plain_rep {x : AV} {v : Value} (r : Rep P M x v) (h : plainA x = true) : plainV v = true := by
  cases r <;> simp [plainA] at h <;> rfl
theorem binOp_eql {t : TypeId} {v u : Value} (h : plainV v = true) : Go.binOp .eql t v u = (do pure (.bool (← Op.equal t v u))) := by
  cases v <;> first
    | (simp [plainV] at h; done)
    | rfl
    | (cases u <;> rfl)
theorem binOp_neq {t : TypeId} {v u : Value} (h : plainV v = true) : Go.binOp .neq t v u = (do pure (.bool (!(← Op.equal t v u)))) := by
  cases v <;> first
    | (simp [plainV] at h; done)
    | rfl
    | (cases u <;> rfl)
theorem guard_plain {op : BinOp} {t : TypeId} {x y : Operand} {v u : Value} (h : (∀ k n, v ≠ .int k n → True) ) : True := trivial
theorem guard_int {op : BinOp} {t : TypeId} {x y : Operand} {k k' : IntKind} {m n : Int} : (eqGuard op t x y (.int k m) (.int k' n)).run P w = .ok () w := by
  unfold eqGuard; cases op <;> rfl
theorem guard_str {op : BinOp} {t : TypeId} {x y : Operand} {m n : ByteArray} : (eqGuard op t x y (.string m) (.string n)).run P w = .ok () w := by
  unfold eqGuard; cases op <;> rfl
theorem isConst_matches (x : Operand) : (match x with | .const _ => true | _ => false) = isConst x := by cases x <;> rfl
theorem guard_eq {op : BinOp} (hop : op = .eql ∨ op = .neq) {t : TypeId} {x y : Operand} {a b : AV} {v u : Value} (ra : Rep P M a v) (rb : Rep P M b u) (hp : plainA a = true) (h : eqGuardA P t x y a b = true) (hb : b ≠ .undef) :
    (eqGuard op t x y v u).run P w = .ok () w := by
  have key : ∀ op', (op' = BinOp.eql ∨ op' = BinOp.neq) → (eqGuard op' t x y v u).run P w = .ok () w := by
    intro op' ho
    have hm : (!(match op' with | .eql => true | .neq => true | _ => false)) = false := by rcases ho with rfl | rfl <;> rfl
    cases ra <;> simp [plainA] at hp
    case nili =>
      cases rb <;> first
        | (exact absurd rfl hb)
        | (unfold eqGuard; rcases ho with rfl | rfl <;> rfl)
        | skip
      simp only [eqGuardA, Bool.or_eq_true] at h
      unfold eqGuard
      rcases ho with rfl | rfl <;> rcases h with h | h <;> (cases x <;> cases y <;> simp [isConst] at h <;> simp)
    case agg cs vs hl hh h1 =>
      cases rb <;> first
        | (exact absurd rfl hb)
        | (unfold eqGuard; rcases ho with rfl | rfl <;> rfl)
        | skip
      simp only [eqGuardA, Bool.not_eq_true'] at h
      unfold eqGuard
      rcases ho with rfl | rfl <;> simp [h]
    all_goals
      cases rb <;> first
        | (exact absurd rfl hb)
        | (unfold eqGuard; rcases ho with rfl | rfl <;> rfl)
  exact key op hop

theorem eqIn_undef {d : Nat} {t : TypeId} {x : AV} {r : Bool} : eqIn P d t x .undef ≠ some r := by
  cases d with
  | zero => simp [eqIn]
  | succ d => unfold eqIn; split <;> (try split) <;> simp_all

theorem intOp_sound {op : BinOp} {k : IntKind} {m n : Int} {r : AV} (h : intOp op k m n = some r) (t : TypeId) : ∃ v, (Go.binOp op t (.int k m) (.int k n)).run P w = .ok v w ∧ Rep P M r v := by
  cases op <;> simp only [intOp] at h
  case quo => split at h; cases h; rename_i hz; injection h with h; subst h; exact ⟨_, by simp [Go.binOp, Op.intDiv, hz], .int _ _⟩
  case rem => split at h; cases h; rename_i hz; injection h with h; subst h; exact ⟨_, by simp [Go.binOp, Op.intDiv, hz], .int _ _⟩
  case shl => cases h
  case shr => cases h
  all_goals
    injection h with h; subst h
    first
      | (refine ⟨_, ?_, .bool _⟩; simp only [Go.binOp, ne_eq, not_true_eq_false, if_false]; rfl)
      | (refine ⟨_, ?_, .int _ _⟩; simp only [Go.binOp, ne_eq, not_true_eq_false, if_false]; rfl)

theorem bytes_toList (l : List UInt8) : (⟨⟨l⟩⟩ : ByteArray).toList = l := ByteArray.toList_eq ⟨⟨l⟩⟩

theorem strOp_sound {op : BinOp} {m n : List UInt8} {r : AV} (h : strOp op m n = some r) (t : TypeId) : ∃ v, (Go.binOp op t (.string ⟨⟨m⟩⟩) (.string ⟨⟨n⟩⟩)).run P w = .ok v w ∧ Rep P M r v := by
  have e : Go.binOp op t (.string ⟨⟨m⟩⟩) (.string ⟨⟨n⟩⟩) = Op.stringOp op ⟨⟨m⟩⟩ ⟨⟨n⟩⟩ := by cases op <;> rfl
  rw [e]
  cases op <;> simp only [strOp] at h <;> try (cases h; done)
  case add =>
    split at h
    · rename_i hl
      injection h with h; subst h
      refine ⟨.string ⟨⟨m ++ n⟩⟩, ?_, .str _⟩
      have h1 : ¬ (((ByteArray.size ⟨⟨m⟩⟩ + ByteArray.size ⟨⟨n⟩⟩ : Nat) : Int) > IntKind.i64.max) := by
        have : IntKind.i64.max = 9223372036854775807 := by decide
        rw [this]
        simp only [ByteArray.size, List.size_toArray]
        omega
      have h2 : (⟨⟨m⟩⟩ ++ ⟨⟨n⟩⟩ : ByteArray) = ⟨⟨m ++ n⟩⟩ := by
        apply ByteArray.ext
        simp
      simp only [Op.stringOp, if_neg h1, h2, Sem.run_pure]
    · cases h
  all_goals
    injection h with h; subst h
    exact ⟨_, by simp only [Op.stringOp, bytes_toList, Sem.run_pure], .bool _⟩

theorem binOp_sound {op : BinOp} {t yt : TypeId} {x y : Operand} {a b r : AV} {v u : Value} (h : binOpA P op t x y a b = some r) (ra : Rep P M a v) (rb : Rep P M b u) :
    ∃ z, ((do eqGuard op t x y v u; Go.binOp op t v u : Sem Value)).run P w = .ok z w ∧ Rep P M r z := by
  unfold binOpA at h
  split at h
  · rename_i k m k' n
    obtain rfl := int_inv ra
    obtain rfl := int_inv rb
    simp only [Sem.run_bind, guard_int, Result.andThen_ok]
    have sh : ∀ op', (op' = BinOp.shl ∨ op' = BinOp.shr) → shiftOp op' k m n = some r → ∃ z, (Go.binOp op' t (.int k m) (.int k' n)).run P w = .ok z w ∧ Rep P M r z := by
      intro op' ho hs
      unfold shiftOp at hs
      split at hs
      · cases hs
      · rename_i hn
        rcases ho with rfl | rfl <;> simp only at hs <;> injection hs with hs <;> subst hs <;> exact ⟨_, by simp [Go.binOp, Op.shift, hn], .int _ _⟩
    split at h
    · exact sh _ (.inl rfl) h
    · exact sh _ (.inr rfl) h
    · split at h
      · rename_i hk; subst hk; exact intOp_sound h t
      · cases h
  · obtain rfl := str_inv ra
    obtain rfl := str_inv rb
    simp only [Sem.run_bind, guard_str, Result.andThen_ok]
    exact strOp_sound h t
  · split at h
    · split at h
      · rename_i hg
        simp only [Bool.and_eq_true] at hg
        cases he : eqIn P 10000 t a b with
        | none => simp [he] at h
        | some q =>
          simp only [he, Option.map_some, Option.some.injEq] at h; subst h
          have hb : b ≠ .undef := by rintro rfl; exact eqIn_undef he
          refine ⟨.bool q, ?_, .bool _⟩
          simp only [Sem.run_bind, guard_eq (.inl rfl) ra rb hg.1 hg.2 hb, Result.andThen_ok, binOp_eql (plain_rep ra hg.1), Op.equal]
          rw [show Op.maxDepth = 10000 from rfl, eqIn_sound 10000 t a b v u q he ra rb]
          rfl
      · cases h
    · split at h
      · rename_i hg
        simp only [Bool.and_eq_true] at hg
        cases he : eqIn P 10000 t a b with
        | none => simp [he] at h
        | some q =>
          simp only [he, Option.map_some, Option.some.injEq] at h; subst h
          have hb : b ≠ .undef := by rintro rfl; exact eqIn_undef he
          refine ⟨.bool !q, ?_, .bool _⟩
          simp only [Sem.run_bind, guard_eq (.inr rfl) ra rb hg.1 hg.2 hb, Result.andThen_ok, binOp_neq (plain_rep ra hg.1), Op.equal]
          rw [show Op.maxDepth = 10000 from rfl, eqIn_sound 10000 t a b v u q he ra rb]
          rfl
      · cases h
    · cases h

theorem unOp_sound {op : UnOp} {x r : AV} {v : Value} (h : unOpA op x = some r) (rx : Rep P M x v) : ∃ z, (Op.unary op v).run P w = .ok z w ∧ Rep P M r z := by
  unfold unOpA at h
  split at h
  · obtain rfl := int_inv rx; injection h with h; subst h; exact ⟨_, by simp [Op.unary, Op.intArith], .int _ _⟩
  · obtain rfl := int_inv rx
    simp only [intOp] at h
    injection h with h; subst h
    exact ⟨_, rfl, .int _ _⟩
  · obtain rfl := bool_inv rx; injection h with h; subst h; exact ⟨_, by simp [Op.unary], .bool _⟩
  · cases h

theorem conv_sound {src dst : TypeId} {x r : AV} {v : Value} (h : convA P src dst x = some r) (rx : Rep P M x v) : ∃ z, (Go.convert src dst v).run P w = .ok z w ∧ Rep P M r z := by
  unfold convA at h
  split at h
  · rename_i d k k' n hs hd
    obtain rfl := int_inv rx
    injection h with h; subst h
    exact ⟨_, by simp [Go.convert, run_underlying' hs, run_underlying' hd, Conv.intToInt], .int _ _⟩
  · rename_i d s hs hd
    obtain rfl := str_inv rx
    injection h with h; subst h
    refine ⟨.string ⟨⟨s⟩⟩, ?_, .str _⟩
    simp only [Go.convert, Sem.run_bind, run_underlying' hs, run_underlying' hd, Result.andThen_ok]
    cases d <;> rfl
  · cases h

end
end Go.Proofs.Ytnajopkaepjncaa.Am
