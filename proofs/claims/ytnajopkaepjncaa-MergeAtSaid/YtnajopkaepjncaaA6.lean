/- What rows have at a number, whole. -/
import Derived.Test.YtnajopkaepjncaaA5
namespace Go.Proofs.Ytnajopkaepjncaa
open Am
set_option linter.unusedVariables false

theorem runsFrom_len (l : List Row) : ∀ (n i fr : Nat) (out : List (List Row)), out.length ≤ i → (∀ r ∈ out, r.length ≤ l.length) → (runsFrom l n i fr out).length ≤ i + n ∧ ∀ r ∈ runsFrom l n i fr out, r.length ≤ l.length := by
  intro n
  induction n with
  | zero => intro i fr out h1 h2; exact ⟨h1, h2⟩
  | succ n ih =>
    intro i fr out h1 h2
    simp only [runsFrom]
    cases endAt l i with
    | true =>
      obtain ⟨h3, h4⟩ := ih (i + 1) (i + 1) (out ++ [(l.take (i + 1)).drop fr]) (by simp; exact h1) (by
        intro r hr
        rcases List.mem_append.1 hr with h | h
        · exact h2 r h
        · rw [List.mem_singleton] at h; subst h
          rw [List.length_drop, List.length_take]; omega)
      exact ⟨by simp only; omega, h4⟩
    | false =>
      obtain ⟨h3, h4⟩ := ih (i + 1) fr out (by omega) h2
      exact ⟨by simp only; omega, h4⟩
theorem runsP_len (l : List Row) : (runsP l).length ≤ l.length ∧ ∀ r ∈ runsP l, r.length ≤ l.length := by
  have := runsFrom_len l l.length 0 0 [] (Nat.le_refl _) (fun r h => by cases h)
  rw [Nat.zero_add] at this
  exact this

def atP (l : List Row) (n : Int) : List Pr := atFrom (runsP l) n (runsP l).length 0 []
/-- What At answers. -/
def atA (l : List Row) (n : Int) : AV := match orderP l with
  | true => .tup [built 41 ((atP l n).map Pr.enc), .int .i64 0]
  | false => .tup [.nils, .int .i64 2]
set_option maxRecDepth 8000 in
theorem at_spec {x : AV} {l : List Row} (hx : IsRows x l) (hl : l.length < 1048576) (n : Int) : Gv 13 [x, .int .u64 n] (atA l n) := by
  refine GivesR.one (gives_by Try.func13 rfl rfl rfl fun H cells => ?_)
  obtain ⟨E, hE⟩ := order_spec hx (by omega) H cells
  obtain ⟨F, hF⟩ := runs_spec hx hl (H ++ E) cells
  have hm : More H ((H ++ E) ++ F) := (More.app H E).trans (More.app _ F)
  obtain ⟨q1, q2⟩ := runsP_len l
  have hrest : ∀ (r0 : List Row) (rest : List (List Row)), runsP l = r0 :: rest → (r0 :: rest).length < 1048576 ∧ ∀ run ∈ r0 :: rest, run.length < 1048576 := by
    intro r0 rest h
    rw [h] at q1 q2
    exact ⟨by omega, fun run hr => by have := q2 run hr; omega⟩
  rcases hx with ⟨rfl, rfl⟩ | ⟨sp, rfl⟩
  · refine And.intro rfl (Exists.intro _ (Exists.intro _ (Exists.intro _ (And.intro hE ?_))))
    cases ho : orderP [] with
    | false =>
      have ha : atA [] n = .tup [.nils, .int .i64 2] := by unfold atA; rw [ho]
      rw [ha]
      refine And.intro (fun _ => ?_) (fun h => by cases h)
      exact Exists.intro _ (And.intro rfl (And.intro rfl (And.intro (More.app H E) rfl)))
    | true =>
      have ha : atA [] n = .tup [built 41 ((atP [] n).map Pr.enc), .int .i64 0] := by unfold atA; rw [ho]
      refine And.intro (fun h => by cases h) (fun _ => ?_)
      refine And.intro rfl (Exists.intro _ (Exists.intro _ (Exists.intro _ (And.intro hF ?_))))
      cases hr : runsP [] with
      | nil =>
        have hp : atP [] n = [] := by unfold atP; rw [hr]; rfl
        rw [hp] at ha
        rw [ha]
        refine L_round ?_
        refine And.intro (fun h => by cases h) (fun h => ?_)
        exact Exists.intro _ (And.intro rfl (And.intro rfl (And.intro hm rfl)))
      | cons r0 rest =>
        obtain ⟨h1, h2⟩ := hrest r0 rest hr
        refine L_mono (at_loop r0 rest n h1 h2 cells (r0 :: rest).length 0 [] ((H ++ E) ++ F) rfl (Nat.le_refl _)) ?_
        rintro e env H' sl cl ⟨h3, rfl, rfl, rfl, v1, v14, v15, v16, v17, rfl⟩
        have hp : atFrom (r0 :: rest) n (r0 :: rest).length 0 [] = atP [] n := by unfold atP; rw [hr]
        rw [hp, ha]
        cases hq : atP [] n with
        | nil => exact Exists.intro _ (And.intro rfl (And.intro rfl (And.intro (hm.trans h3) rfl)))
        | cons o os => exact Exists.intro _ (And.intro rfl (And.intro rfl (And.intro (hm.trans h3) rfl)))
  · refine And.intro rfl (Exists.intro _ (Exists.intro _ (Exists.intro _ (And.intro hE ?_))))
    cases ho : orderP l with
    | false =>
      have ha : atA l n = .tup [.nils, .int .i64 2] := by unfold atA; rw [ho]
      rw [ha]
      refine And.intro (fun _ => ?_) (fun h => by cases h)
      exact Exists.intro _ (And.intro rfl (And.intro rfl (And.intro (More.app H E) rfl)))
    | true =>
      have ha : atA l n = .tup [built 41 ((atP l n).map Pr.enc), .int .i64 0] := by unfold atA; rw [ho]
      refine And.intro (fun h => by cases h) (fun _ => ?_)
      refine And.intro rfl (Exists.intro _ (Exists.intro _ (Exists.intro _ (And.intro hF ?_))))
      cases hr : runsP l with
      | nil =>
        have hp : atP l n = [] := by unfold atP; rw [hr]; rfl
        rw [hp] at ha
        rw [ha]
        refine L_round ?_
        refine And.intro (fun h => by cases h) (fun h => ?_)
        exact Exists.intro _ (And.intro rfl (And.intro rfl (And.intro hm rfl)))
      | cons r0 rest =>
        obtain ⟨h1, h2⟩ := hrest r0 rest hr
        refine L_mono (at_loop r0 rest n h1 h2 cells (r0 :: rest).length 0 [] ((H ++ E) ++ F) rfl (Nat.le_refl _)) ?_
        rintro e env H' sl cl ⟨h3, rfl, rfl, rfl, v1, v14, v15, v16, v17, rfl⟩
        have hp : atFrom (r0 :: rest) n (r0 :: rest).length 0 [] = atP l n := by unfold atP; rw [hr]
        rw [hp, ha]
        cases hq : atP l n with
        | nil => exact Exists.intro _ (And.intro rfl (And.intro rfl (And.intro (hm.trans h3) rfl)))
        | cons o os => exact Exists.intro _ (And.intro rfl (And.intro rfl (And.intro (hm.trans h3) rfl)))
end Go.Proofs.Ytnajopkaepjncaa
