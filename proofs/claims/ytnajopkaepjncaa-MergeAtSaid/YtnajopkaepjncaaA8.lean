/- Does a number see the row at a place? The document's own. -/
import Derived.Test.YtnajopkaepjncaaA7
namespace Go.Proofs.Ytnajopkaepjncaa
open Am
set_option linter.unusedVariables false

def seesP (l : List Row) (i : Nat) (n : Int) : Bool :=
  match l[i]? with
  | some a => decide (a.seq ≤ n) && ((i == 0) || match l[i - 1]? with
    | some b => !(b.key == a.key) || decide (b.seq > n)
    | none => true)
  | none => false
set_option maxRecDepth 8000 in
theorem sees2_spec (l : List Row) (sp : List AV) (hl : l.length < 4611686018427387904) {i : Nat} (hi : i < l.length) (n : Int) : Gv 30 [.lst 39 (l.map Row.enc) sp, .int .i64 (i : Int), .int .u64 n] (.bool (seesP l i n)) := by
  refine GivesR.one (gives_by Try.func30 rfl rfl rfl fun H cells => ?_)
  obtain ⟨a, ha⟩ : ∃ a, l[i]? = some a := ⟨l[i], List.getElem?_eq_getElem hi⟩
  refine Exists.intro _ (And.intro rfl ?_)
  refine And.intro (Int.natCast_nonneg _) (Exists.intro _ (And.intro (get_row ha) ?_))
  refine And.intro (fun h1 => ?_) (fun h1 => ?_)
  · replace h1 : decide (a.seq ≤ n) = true := h1
    refine And.intro (fun h2 => ?_) (fun h2 => ?_)
    · replace h2 : ((i : Int) == 0) = true := h2
      have h0 : i = 0 := by rw [beq_iff_eq] at h2; omega
      subst h0
      have hs : seesP l 0 n = true := by unfold seesP; rw [ha]; simp only [h1]; rfl
      rw [hs]
      refine And.intro (fun _ => ?_) (fun h => by cases h)
      exact Exists.intro _ (And.intro rfl (And.intro rfl (And.intro (More.refl H) rfl)))
    · replace h2 : ((i : Int) == 0) = false := h2
      have h0 : i ≠ 0 := by rw [beq_eq_false_iff_ne] at h2; omega
      obtain ⟨b, hb⟩ : ∃ b, l[i - 1]? = some b := ⟨l[i - 1], List.getElem?_eq_getElem (by omega)⟩
      have hs : seesP l i n = (!(b.key == a.key) || decide (b.seq > n)) := by
        unfold seesP; rw [ha]; simp only [h1, hb]
        have : (i == 0) = false := by rw [beq_eq_false_iff_ne]; exact h0
        rw [this]; rfl
      rw [hs]
      refine Exists.intro (.int .i64 ((i - 1 : Nat) : Int)) (And.intro (i64_eq (by omega) (by omega) (by omega)) ?_)
      refine And.intro (Int.natCast_nonneg _) (Exists.intro _ (And.intro (get_row hb) ?_))
      refine And.intro (Int.natCast_nonneg _) (Exists.intro _ (And.intro (get_row ha) ?_))
      refine And.intro (fun h3 => ?_) (fun h3 => ?_)
      · replace h3 : (!(b.key == a.key)) = true := h3
        rw [h3]
        exact Exists.intro _ (And.intro rfl (And.intro rfl (And.intro (More.refl H) rfl)))
      · replace h3 : (!(b.key == a.key)) = false := h3
        rw [h3]
        refine Exists.intro (.int .i64 ((i - 1 : Nat) : Int)) (And.intro (i64_eq (by omega) (by omega) (by omega)) ?_)
        refine And.intro (Int.natCast_nonneg _) (Exists.intro _ (And.intro (get_row hb) ?_))
        exact Exists.intro _ (And.intro rfl (And.intro rfl (And.intro (More.refl H) rfl)))
  · replace h1 : decide (a.seq ≤ n) = false := h1
    have hs : seesP l i n = false := by unfold seesP; rw [ha]; simp only [h1]; rfl
    rw [hs]
    exact Exists.intro _ (And.intro rfl (And.intro rfl (And.intro (More.refl H) rfl)))
end Go.Proofs.Ytnajopkaepjncaa
