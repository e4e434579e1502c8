/- What any rows have at any number is what the document says: the walk through the law's own function. -/
import Derived.Test.YtnajopkaepjncaaA12
import Derived.Test.YtnajopkaepjncaaW1
namespace Go.Proofs.Ytnajopkaepjncaa
open Am
set_option linter.unusedVariables false
set_option maxRecDepth 8000

theorem built_isL (e : TypeId) (xs : List AV) : IsL e (built e xs) xs := by
  cases xs with
  | nil => exact .inl ⟨rfl, rfl⟩
  | cons x r => exact .inr ⟨[], rfl⟩
theorem refFrom_len (l : List Row) (n : Int) : ∀ (m i : Nat) (out : List Pr), (refFrom l n m i out).length ≤ out.length + m := by
  intro m
  induction m with
  | zero => intro i out; exact Nat.le_refl _
  | succ m ih =>
    intro i out
    simp only [refFrom]
    split
    · split
      · refine Nat.le_trans (ih _ _) ?_
        simp only [List.length_append, List.length_cons, List.length_nil]
        omega
      · have := ih (i + 1) out
        omega
    · omega

theorem MergeAt_spec {x : AV} {l : List Row} (hx : IsRows x l) (n : Int) : Gv 3 [x, .int .u64 n] (.bool true) := by
  refine GivesR.one (gives_by Try.func3 rfl rfl rfl fun H cells => ?_)
  by_cases hlt : l.length ≤ 200
  case neg =>
    rcases hx with ⟨rfl, rfl⟩ | ⟨sp, rfl⟩
    · exact absurd (Nat.zero_le _) hlt
    · refine And.intro (fun _ => ?_) (fun h => ?_)
      · refine And.intro rfl (Exists.intro _ (Exists.intro _ (Exists.intro _ (And.intro (awake_spec H cells) ?_))))
        exact Exists.intro _ (And.intro rfl (And.intro rfl (And.intro (More.refl H) rfl)))
      · exfalso
        have h := dec_false (p := ((l.map Row.enc).length : Int) > 200) h
        rw [List.length_map] at h
        omega
  case pos =>
  have hlt' : l.length < 1048576 := by omega
  obtain ⟨E1, hE1⟩ := own_spec hx hlt' H cells
  obtain ⟨E2, hE2⟩ := at_spec (own_rows l) hlt' n (H ++ E1) cells
  obtain ⟨E3, hE3⟩ := ref_at_spec hx hlt' n ((H ++ E1) ++ E2) cells
  rw [atA_is] at hE2
  have hm : More H (((H ++ E1) ++ E2) ++ E3) := ((More.app H E1).trans (More.app _ E2)).trans (More.app _ E3)
  have hq := refFrom_len l n l.length 0 []
  have hlast : ∀ xs : List Pr, xs.length ≤ 200 → ∃ E4, CallsA Try.prog K0 15 [built 41 (xs.map Pr.enc), built 41 (xs.map Pr.enc)] (((H ++ E1) ++ E2) ++ E3) cells (.bool true) ((((H ++ E1) ++ E2) ++ E3) ++ E4) cells :=
    fun xs h => same_spec15 (built_isL _ _) (built_isL _ _) (by omega) _ cells

  rcases hx with ⟨rfl, rfl⟩ | ⟨sp, rfl⟩
  · have hy : IsRows .nils [] := .inl ⟨rfl, rfl⟩
    refine And.intro (fun h => ?_) (fun _ => ?_)
    · cases h
    refine And.intro rfl (Exists.intro _ (Exists.intro _ (Exists.intro _ (And.intro hE1 ?_))))
    have hr : refA [] n = .tup [built 41 ((match orderP [] with | true => refFrom [] n ([] : List Row).length 0 [] | false => []).map Pr.enc), .int .i64 (match orderP [] with | true => 0 | false => 2)] := by unfold refA; cases orderP [] <;> rfl
    rw [hr] at hE2 hE3
    cases ho : orderP [] with
    | false =>
      rw [ho] at hE2 hE3
      simp only at hE2 hE3
      obtain ⟨E4, hE4⟩ := hlast [] (Nat.zero_le _)
      obtain ⟨E5, hE5⟩ := kept_spec hy hlt' (((((H ++ E1) ++ E2) ++ E3)) ++ E4) cells
      refine And.intro rfl (Exists.intro _ (Exists.intro _ (Exists.intro _ (And.intro hE2 ?_))))
      refine And.intro rfl (Exists.intro _ (Exists.intro _ (Exists.intro _ (And.intro hE3 ?_))))
      refine And.intro rfl (Exists.intro _ (Exists.intro _ (Exists.intro _ (And.intro hE4 ?_))))
      refine And.intro (fun _ => ?_) (fun h => by cases h)
      refine And.intro (fun _ => ?_) (fun h => by cases h)
      refine And.intro rfl (Exists.intro _ (Exists.intro _ (Exists.intro _ (And.intro hE5 ?_))))
      refine And.intro (fun _ => ?_) (fun h => by cases h)
      refine And.intro rfl (Exists.intro _ (Exists.intro _ (Exists.intro _ (And.intro (awake_spec _ cells) ?_))))
      exact Exists.intro _ (And.intro rfl (And.intro rfl (And.intro ((hm.trans (More.app _ E4)).trans (More.app _ E5)) rfl)))
    | true =>
      rw [ho] at hE2 hE3
      simp only at hE2 hE3
      obtain ⟨E4, hE4⟩ := hlast (refFrom [] n ([] : List Row).length 0 []) (Nat.le_trans hq (by rw [List.length_nil (α := Pr)]; have := hlt; omega))
      obtain ⟨E5, hE5⟩ := kept_spec hy hlt' (((((H ++ E1) ++ E2) ++ E3)) ++ E4) cells
      revert hE2 hE3 hE4
      generalize refFrom [] n ([] : List Row).length 0 [] = xs
      intro hE2 hE3 hE4
      cases xs with
      | nil =>
        refine And.intro rfl (Exists.intro _ (Exists.intro _ (Exists.intro _ (And.intro hE2 ?_))))
        refine And.intro rfl (Exists.intro _ (Exists.intro _ (Exists.intro _ (And.intro hE3 ?_))))
        refine And.intro rfl (Exists.intro _ (Exists.intro _ (Exists.intro _ (And.intro hE4 ?_))))
        refine And.intro (fun _ => ?_) (fun h => by cases h)
        refine And.intro (fun _ => ?_) (fun h => by cases h)
        refine And.intro rfl (Exists.intro _ (Exists.intro _ (Exists.intro _ (And.intro hE5 ?_))))
        refine And.intro (fun _ => ?_) (fun h => by cases h)
        refine And.intro rfl (Exists.intro _ (Exists.intro _ (Exists.intro _ (And.intro (awake_spec _ cells) ?_))))
        exact Exists.intro _ (And.intro rfl (And.intro rfl (And.intro ((hm.trans (More.app _ E4)).trans (More.app _ E5)) rfl)))
      | cons q qs =>
        refine And.intro rfl (Exists.intro _ (Exists.intro _ (Exists.intro _ (And.intro hE2 ?_))))
        refine And.intro rfl (Exists.intro _ (Exists.intro _ (Exists.intro _ (And.intro hE3 ?_))))
        refine And.intro rfl (Exists.intro _ (Exists.intro _ (Exists.intro _ (And.intro hE4 ?_))))
        refine And.intro (fun _ => ?_) (fun h => by cases h)
        refine And.intro (fun _ => ?_) (fun h => by cases h)
        refine And.intro rfl (Exists.intro _ (Exists.intro _ (Exists.intro _ (And.intro hE5 ?_))))
        refine And.intro (fun _ => ?_) (fun h => by cases h)
        refine And.intro rfl (Exists.intro _ (Exists.intro _ (Exists.intro _ (And.intro (awake_spec _ cells) ?_))))
        exact Exists.intro _ (And.intro rfl (And.intro rfl (And.intro ((hm.trans (More.app _ E4)).trans (More.app _ E5)) rfl)))
  · have hy : IsRows (.lst 39 (l.map Row.enc) sp) l := .inr ⟨sp, rfl⟩
    refine And.intro (fun h => ?_) (fun _ => ?_)
    · exfalso
      have h := dec_true (p := ((l.map Row.enc).length : Int) > 200) h
      rw [List.length_map] at h
      omega
    refine And.intro rfl (Exists.intro _ (Exists.intro _ (Exists.intro _ (And.intro hE1 ?_))))
    have hr : refA l n = .tup [built 41 ((match orderP l with | true => refFrom l n (l : List Row).length 0 [] | false => []).map Pr.enc), .int .i64 (match orderP l with | true => 0 | false => 2)] := by unfold refA; cases orderP l <;> rfl
    rw [hr] at hE2 hE3
    cases ho : orderP l with
    | false =>
      rw [ho] at hE2 hE3
      simp only at hE2 hE3
      obtain ⟨E4, hE4⟩ := hlast [] (Nat.zero_le _)
      obtain ⟨E5, hE5⟩ := kept_spec hy hlt' (((((H ++ E1) ++ E2) ++ E3)) ++ E4) cells
      refine And.intro rfl (Exists.intro _ (Exists.intro _ (Exists.intro _ (And.intro hE2 ?_))))
      refine And.intro rfl (Exists.intro _ (Exists.intro _ (Exists.intro _ (And.intro hE3 ?_))))
      refine And.intro rfl (Exists.intro _ (Exists.intro _ (Exists.intro _ (And.intro hE4 ?_))))
      refine And.intro (fun _ => ?_) (fun h => by cases h)
      refine And.intro (fun _ => ?_) (fun h => by cases h)
      refine And.intro rfl (Exists.intro _ (Exists.intro _ (Exists.intro _ (And.intro hE5 ?_))))
      refine And.intro (fun _ => ?_) (fun h => by cases h)
      refine And.intro rfl (Exists.intro _ (Exists.intro _ (Exists.intro _ (And.intro (awake_spec _ cells) ?_))))
      exact Exists.intro _ (And.intro rfl (And.intro rfl (And.intro ((hm.trans (More.app _ E4)).trans (More.app _ E5)) rfl)))
    | true =>
      rw [ho] at hE2 hE3
      simp only at hE2 hE3
      obtain ⟨E4, hE4⟩ := hlast (refFrom l n (l : List Row).length 0 []) (Nat.le_trans hq (by rw [List.length_nil (α := Pr)]; have := hlt; omega))
      obtain ⟨E5, hE5⟩ := kept_spec hy hlt' (((((H ++ E1) ++ E2) ++ E3)) ++ E4) cells
      revert hE2 hE3 hE4
      generalize refFrom l n (l : List Row).length 0 [] = xs
      intro hE2 hE3 hE4
      cases xs with
      | nil =>
        refine And.intro rfl (Exists.intro _ (Exists.intro _ (Exists.intro _ (And.intro hE2 ?_))))
        refine And.intro rfl (Exists.intro _ (Exists.intro _ (Exists.intro _ (And.intro hE3 ?_))))
        refine And.intro rfl (Exists.intro _ (Exists.intro _ (Exists.intro _ (And.intro hE4 ?_))))
        refine And.intro (fun _ => ?_) (fun h => by cases h)
        refine And.intro (fun _ => ?_) (fun h => by cases h)
        refine And.intro rfl (Exists.intro _ (Exists.intro _ (Exists.intro _ (And.intro hE5 ?_))))
        refine And.intro (fun _ => ?_) (fun h => by cases h)
        refine And.intro rfl (Exists.intro _ (Exists.intro _ (Exists.intro _ (And.intro (awake_spec _ cells) ?_))))
        exact Exists.intro _ (And.intro rfl (And.intro rfl (And.intro ((hm.trans (More.app _ E4)).trans (More.app _ E5)) rfl)))
      | cons q qs =>
        refine And.intro rfl (Exists.intro _ (Exists.intro _ (Exists.intro _ (And.intro hE2 ?_))))
        refine And.intro rfl (Exists.intro _ (Exists.intro _ (Exists.intro _ (And.intro hE3 ?_))))
        refine And.intro rfl (Exists.intro _ (Exists.intro _ (Exists.intro _ (And.intro hE4 ?_))))
        refine And.intro (fun _ => ?_) (fun h => by cases h)
        refine And.intro (fun _ => ?_) (fun h => by cases h)
        refine And.intro rfl (Exists.intro _ (Exists.intro _ (Exists.intro _ (And.intro hE5 ?_))))
        refine And.intro (fun _ => ?_) (fun h => by cases h)
        refine And.intro rfl (Exists.intro _ (Exists.intro _ (Exists.intro _ (And.intro (awake_spec _ cells) ?_))))
        exact Exists.intro _ (And.intro rfl (And.intro rfl (And.intro ((hm.trans (More.app _ E4)).trans (More.app _ E5)) rfl)))
end Go.Proofs.Ytnajopkaepjncaa
