/- What any rows have at any number is what the document says: the walk through the law's own function. -/
import Derived.Test.YtnajopkaepjncaaM4
import Derived.Test.YtnajopkaepjncaaM6
import Derived.Test.YtnajopkaepjncaaM5
/- What any rows have at any number is what the document says: the walk through the law's own function. -/
namespace Go.Proofs.Ytnajopkaepjncaa
open Am
set_option linter.unusedVariables false
set_option maxRecDepth 8000

theorem built_isL (e : TypeId) (xs : List AV) : IsL e (built e xs) xs := by
  cases xs with
  | nil => exact .inl ⟨rfl, rfl⟩
  | cons x r => exact .inr ⟨[], rfl⟩
theorem refFrom_len (l : List Row) (n : Int) : ∀ (m i : Nat) (out : List Pr), (refFrom l n m i out).length ≤ out.length + m := by
  intro m
  induction m with
  | zero => intro i out; exact Nat.le_refl _
  | succ m ih =>
    intro i out
    simp only [refFrom]
    split
    · split
      · refine Nat.le_trans (ih _ _) ?_
        simp only [List.length_append, List.length_cons, List.length_nil]
        omega
      · have := ih (i + 1) out
        omega
    · omega

theorem MergeAt_spec {x : AV} {l : List Row} (hx : IsRows x l) (n : Int) : Gv 3 [x, .int .u64 n] (.bool true) := by
  refine GivesR.one (gives_by Try.func3 rfl rfl rfl fun H cells => ?_)
  by_cases hlt : l.length ≤ 200
  case neg =>
    rcases hx with ⟨rfl, rfl⟩ | ⟨sp, rfl⟩
    · exact absurd (Nat.zero_le _) hlt
    · refine And.intro (fun _ => ?_) (fun h => ?_)
      · refine And.intro rfl (Exists.intro _ (Exists.intro _ (Exists.intro _ (And.intro (awake_spec H cells) ?_))))
        exact Exists.intro _ (And.intro rfl (And.intro rfl (And.intro (More.refl H) rfl)))
      · exfalso
        have h := dec_false (p := ((l.map Row.enc).length : Int) > 200) h
        rw [List.length_map] at h
        omega
  case pos =>
  have hlt' : l.length < 1048576 := by omega
  obtain ⟨E1, hE1⟩ := own_spec hx hlt' H cells
  obtain ⟨E2, hE2⟩ := at_spec (own_rows l) hlt' n (H ++ E1) cells
  obtain ⟨E3, hE3⟩ := ref_at_spec hx hlt' n ((H ++ E1) ++ E2) cells
  rw [atA_is] at hE2
  have hm : More H (((H ++ E1) ++ E2) ++ E3) := ((More.app H E1).trans (More.app _ E2)).trans (More.app _ E3)
  have hq := refFrom_len l n l.length 0 []
  have hlast : ∀ xs : List Pr, xs.length ≤ 200 → ∃ E4, CallsA Try.prog K0 15 [built 41 (xs.map Pr.enc), built 41 (xs.map Pr.enc)] (((H ++ E1) ++ E2) ++ E3) cells (.bool true) ((((H ++ E1) ++ E2) ++ E3) ++ E4) cells :=
    fun xs h => same_spec15 (built_isL _ _) (built_isL _ _) (by omega) _ cells

  rcases hx with ⟨rfl, rfl⟩ | ⟨sp, rfl⟩
  · have hy : IsRows .nils [] := .inl ⟨rfl, rfl⟩
    refine And.intro (fun h => ?_) (fun _ => ?_)
    · cases h
    refine And.intro rfl (Exists.intro _ (Exists.intro _ (Exists.intro _ (And.intro hE1 ?_))))
    have hr : refA [] n = .tup [built 41 ((match orderP [] with | true => refFrom [] n ([] : List Row).length 0 [] | false => []).map Pr.enc), .int .i64 (match orderP [] with | true => 0 | false => 2)] := by unfold refA; cases orderP [] <;> rfl
    rw [hr] at hE2 hE3
    cases ho : orderP [] with
    | false =>
      rw [ho] at hE2 hE3
      simp only at hE2 hE3
      obtain ⟨E4, hE4⟩ := hlast [] (Nat.zero_le _)
      obtain ⟨E5, hE5⟩ := kept_spec hy hlt' (((((H ++ E1) ++ E2) ++ E3)) ++ E4) cells
      refine And.intro rfl (Exists.intro _ (Exists.intro _ (Exists.intro _ (And.intro hE2 ?_))))
      refine And.intro rfl (Exists.intro _ (Exists.intro _ (Exists.intro _ (And.intro hE3 ?_))))
      refine And.intro rfl (Exists.intro _ (Exists.intro _ (Exists.intro _ (And.intro hE4 ?_))))
      refine And.intro (fun _ => ?_) (fun h => by cases h)
      refine And.intro (fun _ => ?_) (fun h => by cases h)
      refine And.intro rfl (Exists.intro _ (Exists.intro _ (Exists.intro _ (And.intro hE5 ?_))))
      refine And.intro (fun _ => ?_) (fun h => by cases h)
      refine And.intro rfl (Exists.intro _ (Exists.intro _ (Exists.intro _ (And.intro (awake_spec _ cells) ?_))))
      exact Exists.intro _ (And.intro rfl (And.intro rfl (And.intro ((hm.trans (More.app _ E4)).trans (More.app _ E5)) rfl)))
    | true =>
      rw [ho] at hE2 hE3
      simp only at hE2 hE3
      obtain ⟨E4, hE4⟩ := hlast (refFrom [] n ([] : List Row).length 0 []) (Nat.le_trans hq (by rw [List.length_nil (α := Pr)]; have := hlt; omega))
      obtain ⟨E5, hE5⟩ := kept_spec hy hlt' (((((H ++ E1) ++ E2) ++ E3)) ++ E4) cells
      revert hE2 hE3 hE4
      generalize refFrom [] n ([] : List Row).length 0 [] = xs
      intro hE2 hE3 hE4
      cases xs with
      | nil =>
        refine And.intro rfl (Exists.intro _ (Exists.intro _ (Exists.intro _ (And.intro hE2 ?_))))
        refine And.intro rfl (Exists.intro _ (Exists.intro _ (Exists.intro _ (And.intro hE3 ?_))))
        refine And.intro rfl (Exists.intro _ (Exists.intro _ (Exists.intro _ (And.intro hE4 ?_))))
        refine And.intro (fun _ => ?_) (fun h => by cases h)
        refine And.intro (fun _ => ?_) (fun h => by cases h)
        refine And.intro rfl (Exists.intro _ (Exists.intro _ (Exists.intro _ (And.intro hE5 ?_))))
        refine And.intro (fun _ => ?_) (fun h => by cases h)
        refine And.intro rfl (Exists.intro _ (Exists.intro _ (Exists.intro _ (And.intro (awake_spec _ cells) ?_))))
        exact Exists.intro _ (And.intro rfl (And.intro rfl (And.intro ((hm.trans (More.app _ E4)).trans (More.app _ E5)) rfl)))
      | cons q qs =>
        refine And.intro rfl (Exists.intro _ (Exists.intro _ (Exists.intro _ (And.intro hE2 ?_))))
        refine And.intro rfl (Exists.intro _ (Exists.intro _ (Exists.intro _ (And.intro hE3 ?_))))
        refine And.intro rfl (Exists.intro _ (Exists.intro _ (Exists.intro _ (And.intro hE4 ?_))))
        refine And.intro (fun _ => ?_) (fun h => by cases h)
        refine And.intro (fun _ => ?_) (fun h => by cases h)
        refine And.intro rfl (Exists.intro _ (Exists.intro _ (Exists.intro _ (And.intro hE5 ?_))))
        refine And.intro (fun _ => ?_) (fun h => by cases h)
        refine And.intro rfl (Exists.intro _ (Exists.intro _ (Exists.intro _ (And.intro (awake_spec _ cells) ?_))))
        exact Exists.intro _ (And.intro rfl (And.intro rfl (And.intro ((hm.trans (More.app _ E4)).trans (More.app _ E5)) rfl)))
  · have hy : IsRows (.lst 39 (l.map Row.enc) sp) l := .inr ⟨sp, rfl⟩
    refine And.intro (fun h => ?_) (fun _ => ?_)
    · exfalso
      have h := dec_true (p := ((l.map Row.enc).length : Int) > 200) h
      rw [List.length_map] at h
      omega
    refine And.intro rfl (Exists.intro _ (Exists.intro _ (Exists.intro _ (And.intro hE1 ?_))))
    have hr : refA l n = .tup [built 41 ((match orderP l with | true => refFrom l n (l : List Row).length 0 [] | false => []).map Pr.enc), .int .i64 (match orderP l with | true => 0 | false => 2)] := by unfold refA; cases orderP l <;> rfl
    rw [hr] at hE2 hE3
    cases ho : orderP l with
    | false =>
      rw [ho] at hE2 hE3
      simp only at hE2 hE3
      obtain ⟨E4, hE4⟩ := hlast [] (Nat.zero_le _)
      obtain ⟨E5, hE5⟩ := kept_spec hy hlt' (((((H ++ E1) ++ E2) ++ E3)) ++ E4) cells
      refine And.intro rfl (Exists.intro _ (Exists.intro _ (Exists.intro _ (And.intro hE2 ?_))))
      refine And.intro rfl (Exists.intro _ (Exists.intro _ (Exists.intro _ (And.intro hE3 ?_))))
      refine And.intro rfl (Exists.intro _ (Exists.intro _ (Exists.intro _ (And.intro hE4 ?_))))
      refine And.intro (fun _ => ?_) (fun h => by cases h)
      refine And.intro (fun _ => ?_) (fun h => by cases h)
      refine And.intro rfl (Exists.intro _ (Exists.intro _ (Exists.intro _ (And.intro hE5 ?_))))
      refine And.intro (fun _ => ?_) (fun h => by cases h)
      refine And.intro rfl (Exists.intro _ (Exists.intro _ (Exists.intro _ (And.intro (awake_spec _ cells) ?_))))
      exact Exists.intro _ (And.intro rfl (And.intro rfl (And.intro ((hm.trans (More.app _ E4)).trans (More.app _ E5)) rfl)))
    | true =>
      rw [ho] at hE2 hE3
      simp only at hE2 hE3
      obtain ⟨E4, hE4⟩ := hlast (refFrom l n (l : List Row).length 0 []) (Nat.le_trans hq (by rw [List.length_nil (α := Pr)]; have := hlt; omega))
      obtain ⟨E5, hE5⟩ := kept_spec hy hlt' (((((H ++ E1) ++ E2) ++ E3)) ++ E4) cells
      revert hE2 hE3 hE4
      generalize refFrom l n (l : List Row).length 0 [] = xs
      intro hE2 hE3 hE4
      cases xs with
      | nil =>
        refine And.intro rfl (Exists.intro _ (Exists.intro _ (Exists.intro _ (And.intro hE2 ?_))))
        refine And.intro rfl (Exists.intro _ (Exists.intro _ (Exists.intro _ (And.intro hE3 ?_))))
        refine And.intro rfl (Exists.intro _ (Exists.intro _ (Exists.intro _ (And.intro hE4 ?_))))
        refine And.intro (fun _ => ?_) (fun h => by cases h)
        refine And.intro (fun _ => ?_) (fun h => by cases h)
        refine And.intro rfl (Exists.intro _ (Exists.intro _ (Exists.intro _ (And.intro hE5 ?_))))
        refine And.intro (fun _ => ?_) (fun h => by cases h)
        refine And.intro rfl (Exists.intro _ (Exists.intro _ (Exists.intro _ (And.intro (awake_spec _ cells) ?_))))
        exact Exists.intro _ (And.intro rfl (And.intro rfl (And.intro ((hm.trans (More.app _ E4)).trans (More.app _ E5)) rfl)))
      | cons q qs =>
        refine And.intro rfl (Exists.intro _ (Exists.intro _ (Exists.intro _ (And.intro hE2 ?_))))
        refine And.intro rfl (Exists.intro _ (Exists.intro _ (Exists.intro _ (And.intro hE3 ?_))))
        refine And.intro rfl (Exists.intro _ (Exists.intro _ (Exists.intro _ (And.intro hE4 ?_))))
        refine And.intro (fun _ => ?_) (fun h => by cases h)
        refine And.intro (fun _ => ?_) (fun h => by cases h)
        refine And.intro rfl (Exists.intro _ (Exists.intro _ (Exists.intro _ (And.intro hE5 ?_))))
        refine And.intro (fun _ => ?_) (fun h => by cases h)
        refine And.intro rfl (Exists.intro _ (Exists.intro _ (Exists.intro _ (And.intro (awake_spec _ cells) ?_))))
        exact Exists.intro _ (And.intro rfl (And.intro rfl (And.intro ((hm.trans (More.app _ E4)).trans (More.app _ E5)) rfl)))
end Go.Proofs.Ytnajopkaepjncaa

/- What rows have at a number has rising keys, each with the value of one of their rows: the walk through the law's own function. -/
namespace Go.Proofs.Ytnajopkaepjncaa
open Am
set_option linter.unusedVariables false
set_option maxRecDepth 8000

def isR (r : Row) (p : Pr) (n : Int) : Bool := (r.key == p.key) && ((r.val == p.val) && ((r.kind == 1) && decide (r.seq ≤ n)))
def orFrom (l : List Row) (p : Pr) (n : Int) : Nat → Nat → Bool → Bool
  | 0, _, b => b
  | m + 1, k, b => match l[k]? with
    | some r => orFrom l p n m (k + 1) (b || isR r p n)
    | none => b

noncomputable abbrev c6i : Code := at_ Try.f6 [true, true, true, true, false, true, false, false, true, false, false, true, false, true, false, false]
theorem rises_in (l : List Row) (sp : List AV) (xs : List Pr) (n : Int) (hl : l.length < 4611686018427387904) (cells : Cl) {i : Nat} {p : Pr} (hp : xs[i]? = some p) : ∀ (m k : Nat) (b : Bool) (H : Hp), l.length - k = m →
    L Try.prog K0 (K0.vars 6) 105 c6i [(0, .lst 39 (l.map Row.enc) sp), (1, .int .u64 n), (5, .lst 41 (xs.map Pr.enc) []), (7, .int .i64 (i : Int)), (8, .bool b), (9, .int .i64 (k : Int))] H [] cells
      fun e env H' sl cl => More H H' ∧ cl = cells ∧ sl = [] ∧ e = .exit 2 ∧ ∃ v9 v37, env = [(0, .lst 39 (l.map Row.enc) sp), (1, .int .u64 n), (5, .lst 41 (xs.map Pr.enc) []), (7, .int .i64 (i : Int)), (8, .bool (orFrom l p n m k b)), (9, v9), (37, v37)] := by
  intro m
  induction m with
  | zero =>
    intro k b H hn
    refine L_round ?_
    refine And.intro (fun h => ?_) (fun h => ?_)
    · exfalso
      have h := dec_true (p := (k : Int) < ((l.map Row.enc).length : Nat)) h
      rw [List.length_map] at h
      omega
    · exact And.intro (More.refl H) (And.intro rfl (And.intro rfl (And.intro rfl ⟨_, _, rfl⟩)))
  | succ m ih =>
    intro k b H hn
    obtain ⟨r, hr⟩ : ∃ r, l[k]? = some r := ⟨l[k], List.getElem?_eq_getElem (by omega)⟩
    have hstep : orFrom l p n (m + 1) k b = orFrom l p n m (k + 1) (b || isR r p n) := by simp only [orFrom, hr]
    refine L_round ?_
    refine And.intro (fun h => ?_) (fun h => ?_)
    · clear h
      rw [hstep]
      refine Exists.intro _ (And.intro rfl ?_)
      refine And.intro (fun h0 => ?_) (fun h0 => ?_)
      · replace h0 : b = true := h0
        have hb : (b || isR r p n) = true := by rw [h0]; rfl
        rw [hb]
        refine Exists.intro (.int .i64 ((k + 1 : Nat) : Int)) (And.intro (i64_eq (by omega) (by omega) (by omega)) ?_)
        exact ih (k + 1) true H (by omega)
      · replace h0 : b = false := h0
        refine And.intro (Int.natCast_nonneg _) (Exists.intro _ (And.intro (get_row hr) ?_))
        refine And.intro (Int.natCast_nonneg _) (Exists.intro _ (And.intro (get_pr hp) ?_))
        refine And.intro (fun h1 => ?_) (fun h1 => ?_)
        · replace h1 : (r.key == p.key) = true := h1
          refine And.intro (Int.natCast_nonneg _) (Exists.intro _ (And.intro (get_row hr) ?_))
          refine And.intro (Int.natCast_nonneg _) (Exists.intro _ (And.intro (get_pr hp) ?_))
          refine And.intro (fun h2 => ?_) (fun h2 => ?_)
          · replace h2 : (r.val == p.val) = true := h2
            refine And.intro (Int.natCast_nonneg _) (Exists.intro _ (And.intro (get_row hr) ?_))
            refine And.intro (fun h3 => ?_) (fun h3 => ?_)
            · replace h3 : (r.kind == 1) = true := h3
              refine And.intro (Int.natCast_nonneg _) (Exists.intro _ (And.intro (get_row hr) ?_))
              have hb : (b || isR r p n) = decide (r.seq ≤ n) := by unfold isR; rw [h0, h1, h2, h3]; rfl
              rw [hb]
              refine Exists.intro (.int .i64 ((k + 1 : Nat) : Int)) (And.intro (i64_eq (by omega) (by omega) (by omega)) ?_)
              exact ih (k + 1) (decide (r.seq ≤ n)) H (by omega)
            · replace h3 : (r.kind == 1) = false := h3
              have hb : (b || isR r p n) = false := by unfold isR; rw [h0, h1, h2, h3]; rfl
              rw [hb]
              refine Exists.intro (.int .i64 ((k + 1 : Nat) : Int)) (And.intro (i64_eq (by omega) (by omega) (by omega)) ?_)
              exact ih (k + 1) false H (by omega)
          · replace h2 : (r.val == p.val) = false := h2
            have hb : (b || isR r p n) = false := by unfold isR; rw [h0, h1, h2]; rfl
            rw [hb]
            refine And.intro (fun h => by cases h) (fun _ => ?_)
            refine Exists.intro (.int .i64 ((k + 1 : Nat) : Int)) (And.intro (i64_eq (by omega) (by omega) (by omega)) ?_)
            exact ih (k + 1) false H (by omega)
        · replace h1 : (r.key == p.key) = false := h1
          have hb : (b || isR r p n) = false := by unfold isR; rw [h0, h1]; rfl
          rw [hb]
          refine And.intro (fun h => by cases h) (fun _ => ?_)
          refine And.intro (fun h => by cases h) (fun _ => ?_)
          refine Exists.intro (.int .i64 ((k + 1 : Nat) : Int)) (And.intro (i64_eq (by omega) (by omega) (by omega)) ?_)
          exact ih (k + 1) false H (by omega)
    · exfalso
      have h := dec_false (p := (k : Int) < ((l.map Row.enc).length : Nat)) h
      rw [List.length_map] at h
      omega

noncomputable abbrev c6 : Code := at_ Try.f6 [true, true, true, true, false, true, false, false]
theorem rises_out (l : List Row) (sp : List AV) (xs : List Pr) (n : Int) (hl : l.length < 4611686018427387904) (hx : xs.length < 4611686018427387904) (cells : Cl) (h1 : ∀ (i : Nat) (p : Pr), xs[i]? = some p → orFrom l p n l.length 0 false = true)
    (h2 : ∀ (i : Nat) (p q : Pr), xs[i]? = some p → xs[i + 1]? = some q → Op.bytesLess p.key q.key = true) : ∀ (m i : Nat) (H : Hp), xs.length - i = m →
    L Try.prog K0 (K0.vars 6) 105 c6 [(0, .lst 39 (l.map Row.enc) sp), (1, .int .u64 n), (5, .lst 41 (xs.map Pr.enc) []), (7, .int .i64 (i : Int))] H [] cells
      fun e env H' sl cl => More H H' ∧ cl = cells ∧ sl = [] ∧ e = .exit 0 := by
  intro m
  induction m with
  | zero =>
    intro i H hn
    refine L_round ?_
    refine And.intro (fun h => ?_) (fun h => ?_)
    · exfalso
      have h := dec_true (p := (i : Int) < ((xs.map Pr.enc).length : Nat)) h
      rw [List.length_map] at h
      omega
    · exact And.intro (More.refl H) (And.intro rfl (And.intro rfl rfl))
  | succ m ih =>
    intro i H hn
    obtain ⟨p, hp⟩ : ∃ p, xs[i]? = some p := ⟨xs[i], List.getElem?_eq_getElem (by omega)⟩
    refine L_round ?_
    refine And.intro (fun h => ?_) (fun h => ?_)
    · clear h
      refine L_mono (rises_in l sp xs n hl cells hp l.length 0 false H rfl) ?_
      rintro e env H' sl cl ⟨hm, rfl, rfl, rfl, v9, v37, rfl⟩
      rw [h1 i p hp]
      refine Exists.intro _ (And.intro rfl ?_)
      refine And.intro (fun h => by cases h) (fun _ => ?_)
      refine And.intro (fun h0 => ?_) (fun h0 => ?_)
      · have h0 := dec_true (p := (i : Int) > 0) h0
        obtain ⟨q, hq⟩ : ∃ q, xs[i - 1]? = some q := ⟨xs[i - 1], List.getElem?_eq_getElem (by omega)⟩
        have hk := h2 (i - 1) q p hq (by rw [Nat.sub_add_cancel (by omega)]; exact hp)
        refine Exists.intro (.int .i64 ((i - 1 : Nat) : Int)) (And.intro (i64_eq (by omega) (by omega) (by omega)) ?_)
        refine And.intro (Int.natCast_nonneg _) (Exists.intro _ (And.intro (get_pr hq) ?_))
        refine And.intro (Int.natCast_nonneg _) (Exists.intro _ (And.intro (get_pr hp) ?_))
        refine And.intro (fun h => ?_) (fun _ => ?_)
        · exfalso
          replace h : (!Op.bytesLess q.key p.key) = true := h
          rw [hk] at h
          cases h
        refine Exists.intro (.int .i64 ((i + 1 : Nat) : Int)) (And.intro (i64_eq (by omega) (by omega) (by omega)) ?_)
        refine L_mono (ih (i + 1) H' (by omega)) ?_
        rintro e env H2 sl cl ⟨hm2, rfl, rfl, rfl⟩
        exact And.intro (hm.trans hm2) (And.intro rfl (And.intro rfl rfl))
      · refine And.intro (fun h => by cases h) (fun _ => ?_)
        refine Exists.intro (.int .i64 ((i + 1 : Nat) : Int)) (And.intro (i64_eq (by omega) (by omega) (by omega)) ?_)
        refine L_mono (ih (i + 1) H' (by omega)) ?_
        rintro e env H2 sl cl ⟨hm2, rfl, rfl, rfl⟩
        exact And.intro (hm.trans hm2) (And.intro rfl (And.intro rfl rfl))
    · exfalso
      have h := dec_false (p := (i : Int) < ((xs.map Pr.enc).length : Nat)) h
      rw [List.length_map] at h
      omega

/-! ### the plain law -/
theorem or_true (l : List Row) (p : Pr) (n : Int) : ∀ (m k : Nat), orFrom l p n m k true = true := by
  intro m
  induction m with
  | zero => intro k; rfl
  | succ m ih =>
    intro k
    simp only [orFrom]
    split
    · exact ih _
    · rfl
theorem or_hit {l : List Row} {p : Pr} {n : Int} {j : Nat} {r : Row} (hr : l[j]? = some r) (h : isR r p n = true) : ∀ (m k : Nat) (b : Bool), l.length - k = m → k ≤ j → orFrom l p n m k b = true := by
  have hj : j < l.length := (List.getElem?_eq_some_iff.1 hr).1
  intro m
  induction m with
  | zero => intro k b h1 h2; omega
  | succ m ih =>
    intro k b h1 h2
    simp only [orFrom]
    rw [List.getElem?_eq_getElem (by omega : k < l.length)]
    simp only
    by_cases hk : k = j
    · subst hk
      rw [List.getElem?_eq_getElem hj] at hr
      injection hr with hr
      rw [hr, h, Bool.or_true]
      exact or_true l p n m _
    · exact ih (k + 1) _ (by omega) (by omega)
/-- What the document's list is made of, from a place on: rows that are seen, in order. -/
theorem ref_mem (l : List Row) (n : Int) : ∀ (m i : Nat), l.length - i = m → ∀ p ∈ refFrom l n m i [], ∃ (j : Nat) (r : Row), i ≤ j ∧ l[j]? = some r ∧ seesP l j n = true ∧ r.kind = 1 ∧ p = Pr.mk r.key r.val := by
  intro m
  induction m with
  | zero => intro i _ p hp; cases hp
  | succ m ih =>
    intro i hm p hp
    obtain ⟨a, ha⟩ : ∃ a, l[i]? = some a := ⟨l[i], List.getElem?_eq_getElem (by omega)⟩
    simp only [refFrom, ha] at hp
    cases hs : (seesP l i n && (a.kind == 1)) with
    | true =>
      rw [hs] at hp
      simp only at hp
      rw [ref_out] at hp
      rcases List.mem_append.1 hp with h | h
      · simp only [List.nil_append, List.mem_singleton] at h
        rw [Bool.and_eq_true, beq_iff_eq] at hs
        exact ⟨i, a, Nat.le_refl _, ha, hs.1, hs.2, h⟩
      · obtain ⟨j, r, h1, h2⟩ := ih (i + 1) (by omega) p h
        exact ⟨j, r, by omega, h2⟩
    | false =>
      rw [hs] at hp
      simp only at hp
      obtain ⟨j, r, h1, h2⟩ := ih (i + 1) (by omega) p hp
      exact ⟨j, r, by omega, h2⟩
theorem sees_seq {l : List Row} {j : Nat} {r : Row} {n : Int} (hr : l[j]? = some r) (h : seesP l j n = true) : r.seq ≤ n := by
  unfold seesP at h
  rw [hr] at h
  simp only [Bool.and_eq_true, decide_eq_true_eq] at h
  exact h.1
/-- Of rows in order, keys don't fall. -/
theorem order_le {l : List Row} (ho : orderP l = true) {i : Nat} {a : Row} (ha : l[i]? = some a) : ∀ (d : Nat) (b : Row), l[i + d]? = some b → Op.bytesLess a.key b.key = true ∨ (a.key = b.key ∧ (0 < d → b.seq < a.seq)) := by
  intro d
  induction d with
  | zero =>
    intro b hb
    rw [Nat.add_zero, ha] at hb
    injection hb with hb
    exact .inr ⟨by rw [hb], fun h => absurd h (Nat.lt_irrefl 0)⟩
  | succ d ih =>
    intro b hb
    have hlt : i + d < l.length := by have := (List.getElem?_eq_some_iff.1 hb).1; omega
    obtain ⟨c, hc⟩ : ∃ c, l[i + d]? = some c := ⟨l[i + d], List.getElem?_eq_getElem hlt⟩
    have h1 := order_next ho hc hb
    unfold aheadP at h1
    rw [Bool.or_eq_true, Bool.and_eq_true, beq_iff_eq, decide_eq_true_eq] at h1
    rcases ih _ hc with h2 | ⟨h2, h3⟩
    · rcases h1 with h1 | ⟨h1, _⟩
      · exact .inl (less_trans h2 h1)
      · exact .inl (by rw [← h1]; exact h2)
    · rcases h1 with h1 | ⟨h1, h4⟩
      · exact .inl (by rw [h2]; exact h1)
      · refine .inr ⟨h2.trans h1, fun _ => ?_⟩
        by_cases hd : 0 < d
        · have := h3 hd; omega
        · obtain rfl : d = 0 := by omega
          rw [Nat.add_zero, ha] at hc
          injection hc with hc
          rw [hc]; exact h4
/-- Two that are seen have different keys. -/
theorem sees_less {l : List Row} (ho : orderP l = true) {n : Int} {i j : Nat} {a b : Row} (hij : i < j) (ha : l[i]? = some a) (hb : l[j]? = some b) (h1 : seesP l i n = true) (h2 : seesP l j n = true) : Op.bytesLess a.key b.key = true := by
  rcases order_le ho ha (j - i) b (by rw [show i + (j - i) = j by omega]; exact hb) with h | ⟨h, _⟩
  · exact h
  · exfalso
    -- the row ahead of the second has the same key and is seen, too
    have hj : j - 1 < l.length := by have := (List.getElem?_eq_some_iff.1 hb).1; omega
    obtain ⟨c, hc⟩ : ∃ c, l[j - 1]? = some c := ⟨l[j - 1], List.getElem?_eq_getElem hj⟩
    have hcb : l[j - 1 + 1]? = some b := by rw [show j - 1 + 1 = j by omega]; exact hb
    have h3 := order_le ho ha (j - 1 - i) _ (by rw [show i + (j - 1 - i) = j - 1 by omega]; exact hc)
    have h4 := order_next ho hc hcb
    unfold aheadP at h4
    rw [Bool.or_eq_true, Bool.and_eq_true, beq_iff_eq, decide_eq_true_eq] at h4
    have hkey : c.key = b.key := by
      rcases h3 with h3 | ⟨h3, _⟩
      · rcases h4 with h4 | ⟨h4, _⟩
        · have := less_trans h3 h4
          rw [h, less_irrefl] at this; cases this
        · exact h4
      · rw [← h3, h]
    have hseq : c.seq ≤ n := by
      have ha' := sees_seq ha h1
      rcases h3 with h3 | ⟨h3, h5⟩
      · rw [h, ← hkey, less_irrefl] at h3; cases h3
      · by_cases hd : 0 < j - 1 - i
        · have := h5 hd; omega
        · have : i = j - 1 := by omega
          subst this
          rw [hc] at ha; injection ha with ha
          rw [ha]; exact ha'
    unfold seesP at h2
    rw [hb, hc] at h2
    have e1 : (j == 0) = false := by rw [beq_eq_false_iff_ne]; omega
    have e2 : decide (c.seq > n) = false := by simp; omega
    simp [e1, e2, hkey] at h2
theorem ref_rises {l : List Row} (ho : orderP l = true) (n : Int) : ∀ (m i : Nat), l.length - i = m → ∀ (t : Nat) (p q : Pr), (refFrom l n m i [])[t]? = some p → (refFrom l n m i [])[t + 1]? = some q → Op.bytesLess p.key q.key = true := by
  intro m
  induction m with
  | zero => intro i _ t p q h; simp [refFrom] at h
  | succ m ih =>
    intro i hm t p q hp hq
    obtain ⟨a, ha⟩ : ∃ a, l[i]? = some a := ⟨l[i], List.getElem?_eq_getElem (by omega)⟩
    simp only [refFrom, ha] at hp hq
    cases hs : (seesP l i n && (a.kind == 1)) with
    | true =>
      rw [hs] at hp hq
      simp only at hp hq
      rw [ref_out] at hp hq
      simp only [List.nil_append, List.singleton_append] at hp hq
      cases t with
      | zero =>
        simp only [List.getElem?_cons_zero, Option.some.injEq] at hp
        subst hp
        simp only [List.getElem?_cons_succ] at hq
        obtain ⟨j, r, h1, h2, h3, h4, rfl⟩ := ref_mem l n m (i + 1) (by omega) q (List.mem_of_getElem? hq)
        rw [Bool.and_eq_true] at hs
        exact sees_less ho (by omega) ha h2 hs.1 h3
      | succ t =>
        simp only [List.getElem?_cons_succ] at hp hq
        exact ih (i + 1) (by omega) t p q hp hq
    | false =>
      rw [hs] at hp hq
      simp only at hp hq
      exact ih (i + 1) (by omega) t p q hp hq

theorem MergeRises_spec {x : AV} {l : List Row} (hx : IsRows x l) (n : Int) : Gv 6 [x, .int .u64 n] (.bool true) := by
  refine GivesR.one (gives_by Try.func6 rfl rfl rfl fun H cells => ?_)
  by_cases hlt : l.length ≤ 200
  case neg =>
    rcases hx with ⟨rfl, rfl⟩ | ⟨sp, rfl⟩
    · exact absurd (Nat.zero_le _) hlt
    · refine And.intro (fun _ => ?_) (fun h => ?_)
      · refine And.intro rfl (Exists.intro _ (Exists.intro _ (Exists.intro _ (And.intro (awake_spec H cells) ?_))))
        exact Exists.intro _ (And.intro rfl (And.intro rfl (And.intro (More.refl H) rfl)))
      · exfalso
        have h := dec_false (p := ((l.map Row.enc).length : Int) > 200) h
        rw [List.length_map] at h
        omega
  case pos =>
  have hlt' : l.length < 1048576 := by omega
  obtain ⟨E1, hE1⟩ := at_spec hx hlt' n H cells
  rw [atA_is] at hE1
  have hm : More H (H ++ E1) := More.app H E1
  have hq := refFrom_len l n l.length 0 []
  have hr : refA l n = .tup [built 41 ((match orderP l with | true => refFrom l n l.length 0 [] | false => []).map Pr.enc), .int .i64 (match orderP l with | true => 0 | false => 2)] := by unfold refA; cases orderP l <;> rfl
  rw [hr] at hE1
  have hno : ¬ ((l.map Row.enc).length : Int) > 200 := by rw [List.length_map]; omega
  rcases hx with ⟨rfl, rfl⟩ | ⟨sp, rfl⟩
  · refine And.intro (fun h => by cases h) (fun _ => ?_)
    refine And.intro rfl (Exists.intro _ (Exists.intro _ (Exists.intro _ (And.intro hE1 ?_))))
    refine And.intro (fun h => by cases h) (fun _ => ?_)
    refine L_round ?_
    refine And.intro (fun h => by cases h) (fun _ => ?_)
    refine And.intro rfl (Exists.intro _ (Exists.intro _ (Exists.intro _ (And.intro (awake_spec _ cells) ?_))))
    exact Exists.intro _ (And.intro rfl (And.intro rfl (And.intro hm rfl)))
  · refine And.intro (fun h => ?_) (fun _ => ?_)
    · exact absurd (dec_true (p := ((l.map Row.enc).length : Int) > 200) h) hno
    cases ho : orderP l with
    | false =>
      rw [ho] at hE1
      simp only at hE1
      refine And.intro rfl (Exists.intro _ (Exists.intro _ (Exists.intro _ (And.intro hE1 ?_))))
      refine And.intro (fun _ => ?_) (fun h => by cases h)
      refine And.intro (fun _ => ?_) (fun h => by cases h)
      refine And.intro rfl (Exists.intro _ (Exists.intro _ (Exists.intro _ (And.intro (awake_spec _ cells) ?_))))
      exact Exists.intro _ (And.intro rfl (And.intro rfl (And.intro hm rfl)))
    | true =>
      rw [ho] at hE1
      simp only at hE1
      have f1 : ∀ (i : Nat) (p : Pr), (refFrom l n l.length 0 [])[i]? = some p → orFrom l p n l.length 0 false = true := by
        intro i p h
        obtain ⟨j, r, _, h2, h3, h4, rfl⟩ := ref_mem l n l.length 0 rfl p (List.mem_of_getElem? h)
        refine or_hit h2 ?_ l.length 0 false rfl (Nat.zero_le _)
        unfold isR
        simp [h4, sees_seq h2 h3]
      have f2 := ref_rises ho n l.length 0 rfl
      have f3 : (refFrom l n l.length 0 []).length ≤ 200 := by simp only [List.length_nil] at hq; omega
      revert hE1 f1 f2 f3
      generalize refFrom l n l.length 0 [] = xs
      intro hE1 f1 f2 f3
      cases xs with
      | nil =>
        refine And.intro rfl (Exists.intro _ (Exists.intro _ (Exists.intro _ (And.intro hE1 ?_))))
        refine And.intro (fun h => by cases h) (fun _ => ?_)
        refine L_round ?_
        refine And.intro (fun h => by cases h) (fun _ => ?_)
        refine And.intro rfl (Exists.intro _ (Exists.intro _ (Exists.intro _ (And.intro (awake_spec _ cells) ?_))))
        exact Exists.intro _ (And.intro rfl (And.intro rfl (And.intro hm rfl)))
      | cons p ps =>
        refine And.intro rfl (Exists.intro _ (Exists.intro _ (Exists.intro _ (And.intro hE1 ?_))))
        refine And.intro (fun h => by cases h) (fun _ => ?_)
        refine L_mono (rises_out l sp (p :: ps) n (by omega) (by omega) cells f1 f2 (p :: ps).length 0 (H ++ E1) rfl) ?_
        rintro e env H' sl cl ⟨h3, rfl, rfl, rfl⟩
        refine And.intro rfl (Exists.intro _ (Exists.intro _ (Exists.intro _ (And.intro (awake_spec _ _) ?_))))
        exact Exists.intro _ (And.intro rfl (And.intro rfl (And.intro (hm.trans h3) rfl)))
end Go.Proofs.Ytnajopkaepjncaa

/- What is dropped, told by what a row is, not by where it stands. -/
namespace Go.Proofs.Ytnajopkaepjncaa
open Am
set_option linter.unusedVariables false
set_option linter.unusedSimpArgs false

/-! ### rows in order -/
def Ord (l : List Row) : Prop := l.Pairwise fun a b => aheadP a b.key b.seq = true
theorem ord_of {l : List Row} (ho : orderP l = true) : Ord l := by
  unfold Ord
  rw [List.pairwise_iff_getElem]
  intro i j hi hj hij
  have h := order_le ho (List.getElem?_eq_getElem hi) (j - i) l[j] (by rw [show i + (j - i) = j by omega]; exact List.getElem?_eq_getElem hj)
  unfold aheadP
  rcases h with h | ⟨h1, h2⟩
  · rw [h]; rfl
  · have := h2 (by omega)
    rw [h1]
    simp; omega
theorem of_ord {l : List Row} (h : Ord l) : orderP l = true := by
  unfold Ord at h
  rw [List.pairwise_iff_getElem] at h
  have key : ∀ (n k : Nat), k + n + 1 ≤ l.length ∨ n = 0 → orderFrom l n k = true := by
    intro n
    induction n with
    | zero => intro k _; rfl
    | succ n ih =>
      intro k hk
      have hk : k + (n + 1) + 1 ≤ l.length := by omega
      simp only [orderFrom]
      rw [List.getElem?_eq_getElem (by omega : k < l.length), List.getElem?_eq_getElem (by omega : k + 1 < l.length)]
      simp only
      rw [h k (k + 1) (by omega) (by omega) (by omega)]
      exact ih (k + 1) (by omega)
  exact key (l.length - 1) 0 (by omega)
theorem Ord.sub {a l : List Row} (h : Ord l) (hs : List.Sublist a l) : Ord a := List.Pairwise.sublist hs h
theorem SeqOk.sub {a l : List Row} (h : SeqOk l) (hs : List.Sublist a l) : SeqOk a := fun r hr => h r (hs.subset hr)

/-- Does a number see this row of these? -/
def seesB (l : List Row) (x : Int) (r : Row) : Bool := decide (r.seq ≤ x) && l.all fun q => !(q.key == r.key) || !(decide (q.seq ≤ x)) || decide (q.seq ≤ r.seq)
theorem seesB_iff (l : List Row) (x : Int) (r : Row) : seesB l x r = true ↔ (r.seq ≤ x ∧ ∀ q ∈ l, q.key = r.key → q.seq ≤ x → q.seq ≤ r.seq) := by
  unfold seesB
  simp only [Bool.and_eq_true, decide_eq_true_eq, List.all_eq_true, Bool.or_eq_true, Bool.not_eq_true', beq_eq_false_iff_ne, decide_eq_false_iff_not]
  refine and_congr_right fun _ => ⟨fun h q hq h1 h2 => ?_, fun h q hq => ?_⟩
  · rcases h q hq with (h3 | h3) | h3
    · exact absurd h1 h3
    · exact absurd h2 h3
    · exact h3
  · by_cases h1 : q.key = r.key
    · by_cases h2 : q.seq ≤ x
      · exact .inr (h q hq h1 h2)
      · exact .inl (.inr h2)
    · exact .inl (.inl h1)
theorem sees_is {l : List Row} (ho : orderP l = true) {i : Nat} {r : Row} (hr : l[i]? = some r) (x : Int) : seesP l i x = seesB l x r := by
  rw [Bool.eq_iff_iff, seesB_iff]
  have hi : i < l.length := (List.getElem?_eq_some_iff.1 hr).1
  unfold seesP
  rw [hr]
  simp only [Bool.and_eq_true, decide_eq_true_eq]
  refine and_congr_right fun hx => ?_
  constructor
  · intro h q hq hk hqx
    obtain ⟨j, hj, rfl⟩ := List.getElem_of_mem hq
    have hjq := List.getElem?_eq_getElem hj
    rcases Nat.lt_trichotomy j i with hlt | heq | hgt
    · exfalso
      -- the row ahead of it has the same key, and a number that is not seen
      obtain ⟨b, hb⟩ : ∃ b, l[i - 1]? = some b := ⟨l[i - 1], List.getElem?_eq_getElem (by omega)⟩
      have h1 := order_le ho hjq (i - 1 - j) b (by rw [show j + (i - 1 - j) = i - 1 by omega]; exact hb)
      have h2 := order_next ho hb (by rw [show i - 1 + 1 = i by omega]; exact hr)
      unfold aheadP at h2
      rw [Bool.or_eq_true, Bool.and_eq_true, beq_iff_eq, decide_eq_true_eq] at h2
      have hbk : b.key = r.key := by
        rcases h1 with h1 | ⟨h1, _⟩
        · rcases h2 with h2 | ⟨h2, _⟩
          · have := less_trans h1 h2
            rw [hk, less_irrefl] at this; cases this
          · exact h2
        · rw [← h1, hk]
      have hbx : b.seq ≤ x := by
        rcases h1 with h1 | ⟨h1, h3⟩
        · rw [hbk, hk, less_irrefl] at h1; cases h1
        · by_cases hd : 0 < i - 1 - j
          · have := h3 hd; omega
          · have : j = i - 1 := by omega
            subst this
            rw [hjq] at hb; injection hb with hb
            rw [← hb]; exact hqx
      rw [hb] at h
      have e1 : (i == 0) = false := by rw [beq_eq_false_iff_ne]; omega
      have e2 : decide (b.seq > x) = false := by simp; omega
      simp [e1, e2, hbk] at h
    · subst heq
      rw [hjq] at hr; injection hr with hr
      rw [hr]; exact Int.le_refl _
    · rcases order_le ho hr (j - i) l[j] (by rw [show i + (j - i) = j by omega]; exact hjq) with h1 | ⟨_, h1⟩
      · rw [hk, less_irrefl] at h1; cases h1
      · have := h1 (by omega); omega
  · intro h
    by_cases h0 : i = 0
    · subst h0; rfl
    · obtain ⟨b, hb⟩ : ∃ b, l[i - 1]? = some b := ⟨l[i - 1], List.getElem?_eq_getElem (by omega)⟩
      rw [hb]
      by_cases hk : b.key = r.key
      · have hs := order_seq ho hb (by rw [show i - 1 + 1 = i by omega]; exact hr) hk
        have : b.seq > x := by
          rcases Int.lt_or_le x b.seq with h1 | h1
          · exact h1
          · have := h b (List.mem_of_getElem? hb) hk h1; omega
        simp [this]
      · simp [hk]
theorem selI_filter (l : List Row) (q : Nat → Bool) (p : Row → Bool) (h : ∀ (i : Nat) (r : Row), l[i]? = some r → q i = p r) : ∀ (n i : Nat), l.length - i = n → selI l q n i = (l.drop i).filter p := by
  intro n
  induction n with
  | zero => intro i hn; rw [List.drop_eq_nil_of_le (by omega)]; rfl
  | succ n ih =>
    intro i hn
    have hi : i < l.length := by omega
    have hr := List.getElem?_eq_getElem hi
    simp only [selI]
    rw [hr, List.drop_eq_getElem_cons hi, List.filter_cons, h i _ hr, ih (i + 1) (by omega)]
    cases p l[i] <;> rfl
/-- Is a row needed? -/
def needB (l : List Row) (ms : List Int) (r : Row) : Bool := seesB l maxU r || ms.any fun x => seesB l x r
theorem some_filter {l : List Row} (ho : orderP l = true) (ms : List Int) : someP l ms = l.filter (needB l ms) := by
  unfold someP
  rw [some_is, List.nil_append, selI_filter l (needP l ms) (needB l ms) ?_ l.length 0 rfl, List.drop_zero]
  intro i r hr
  unfold needP needB
  rw [need_any l ms i ms.length 0 _ rfl, List.drop_zero, sees_is ho hr]
  congr 1
  exact List.any_congr rfl fun x => sees_is ho hr x
def hasPut (xs : List Row) (r : Row) : Bool := xs.any fun q => (q.key == r.key) && (decide (q.seq ≤ r.seq) && (q.kind == 1))
theorem hasPut_iff (xs : List Row) (r : Row) : hasPut xs r = true ↔ ∃ q ∈ xs, q.key = r.key ∧ q.seq ≤ r.seq ∧ q.kind = 1 := by
  unfold hasPut
  simp only [List.any_eq_true, Bool.and_eq_true, beq_iff_eq, decide_eq_true_eq]
theorem put_drop {xs : List Row} (ho : orderP xs = true) {i : Nat} {a : Row} (ha : xs[i]? = some a) : ∀ (m k : Nat) (b : Bool), xs.length - k = m → i ≤ k → (i < k → ∀ c, xs[k - 1]? = some c → c.key = a.key) → putFrom xs a.key m k b = (b || (xs.drop k).any fun q => (q.key == a.key) && (q.kind == 1)) := by
  intro m
  induction m with
  | zero =>
    intro k b h _ _
    rw [List.drop_eq_nil_of_le (by omega)]
    simp [putFrom]
  | succ m ih =>
    intro k b h hik hprev
    have hk : k < xs.length := by omega
    have hr := List.getElem?_eq_getElem hk
    simp only [putFrom]
    rw [hr, List.drop_eq_getElem_cons hk]
    simp only [List.any_cons]
    by_cases he : xs[k].key = a.key
    · have e1 : (xs[k].key == a.key) = true := by rw [beq_iff_eq]; exact he
      rw [e1]
      simp only [Bool.true_and]
      rw [ih (k + 1) _ (by omega) (by omega) (fun _ c hc => by
        rw [Nat.add_sub_cancel, hr] at hc; injection hc with hc; rw [← hc]; exact he), Bool.or_assoc]
    · have e1 : (xs[k].key == a.key) = false := by rw [beq_eq_false_iff_ne]; exact he
      rw [e1]
      simp only [Bool.false_and, Bool.false_or]
      have hnone : (xs.drop (k + 1)).any (fun q => (q.key == a.key) && (q.kind == 1)) = false := by
        rw [List.any_eq_false]
        intro q hq
        obtain ⟨j, hj, rfl⟩ := List.getElem_of_mem hq
        rw [List.length_drop] at hj
        rw [List.getElem_drop]
        have hlt : k + 1 + j < xs.length := by omega
        have h1 : Op.bytesLess a.key xs[k].key = true := by
          rcases order_le ho ha (k - i) xs[k] (by rw [show i + (k - i) = k by omega]; exact hr) with h1 | ⟨h1, _⟩
          · exact h1
          · exact absurd h1.symm he
        have h2 := order_le ho hr (1 + j) xs[k + 1 + j] (by rw [show k + (1 + j) = k + 1 + j by omega]; exact List.getElem?_eq_getElem hlt)
        have h3 : xs[k + 1 + j].key ≠ a.key := by
          intro e
          rcases h2 with h2 | ⟨h2, _⟩
          · have := less_trans h1 h2
            rw [e, less_irrefl] at this; cases this
          · rw [h2, e, less_irrefl] at h1; cases h1
        simp [h3]
      rw [hnone, Bool.or_false]
theorem put_is {xs : List Row} (ho : orderP xs = true) {i : Nat} {a : Row} (ha : xs[i]? = some a) : putFrom xs a.key (xs.length - i) i false = hasPut xs a := by
  rw [put_drop ho ha (xs.length - i) i false rfl (Nat.le_refl _) (fun h => by omega), Bool.false_or, Bool.eq_iff_iff, hasPut_iff]
  have hi : i < xs.length := (List.getElem?_eq_some_iff.1 ha).1
  simp only [List.any_eq_true, Bool.and_eq_true, beq_iff_eq]
  constructor
  · rintro ⟨q, hq, h1, h2⟩
    obtain ⟨j, hj, rfl⟩ := List.getElem_of_mem hq
    rw [List.length_drop] at hj
    rw [List.getElem_drop] at h1 h2
    refine ⟨_, List.getElem_mem (by omega : i + j < xs.length), h1, ?_, h2⟩
    rcases order_le ho ha j xs[i + j] (List.getElem?_eq_getElem (by omega)) with h3 | ⟨_, h3⟩
    · rw [h1, less_irrefl] at h3; cases h3
    · by_cases h0 : 0 < j
      · have := h3 h0; omega
      · obtain rfl : j = 0 := by omega
        have := ha
        rw [List.getElem?_eq_getElem (by omega)] at this
        injection this with this
        simp only [Nat.add_zero, this]
        exact Int.le_refl _
  · rintro ⟨q, hq, h1, h2, h3⟩
    obtain ⟨j, hj, rfl⟩ := List.getElem_of_mem hq
    refine ⟨xs[j], ?_, h1, h3⟩
    by_cases hij : i ≤ j
    · rw [List.mem_iff_getElem]
      exact ⟨j - i, by rw [List.length_drop]; omega, by rw [List.getElem_drop]; congr 1; omega⟩
    · exfalso
      rcases order_le ho (List.getElem?_eq_getElem hj) (i - j) a (by rw [show j + (i - j) = i by omega]; exact ha) with h4 | ⟨_, h4⟩
      · rw [h1, less_irrefl] at h4; cases h4
      · have := h4 (by omega); omega
theorem bot_is (xs : List Row) : ∀ (m i : Nat), botFrom xs m i [] = selI xs (fun i => match xs[i]? with | some r => putFrom xs r.key (xs.length - i) i false | none => false) m i := by
  intro m
  induction m with
  | zero => intro i; rfl
  | succ m ih =>
    intro i
    simp only [botFrom, selI]
    cases hr : xs[i]? with
    | none => rfl
    | some r =>
      simp only
      cases putFrom xs r.key (xs.length - i) i false with
      | true => simp only; rw [bot_out, ih]; rfl
      | false => simp only; exact ih _
theorem bot_filter {xs : List Row} (ho : orderP xs = true) : botFrom xs xs.length 0 [] = xs.filter (hasPut xs) := by
  rw [bot_is, selI_filter xs _ (hasPut xs) ?_ xs.length 0 rfl, List.drop_zero]
  intro i r hr
  rw [hr]
  exact put_is ho hr

/-- What stays, told by what a row is. -/
def staysB (l : List Row) (ms : List Int) (bot : Bool) (r : Row) : Bool := needB l ms r && (!bot || hasPut (l.filter (needB l ms)) r)
theorem drop_filter {l : List Row} (ho : orderP l = true) (hs : SeqOk l) (ms : List Int) (bot : Bool) : dropP l ms bot = l.filter (staysB l ms bot) := by
  rw [drop_law ho hs]
  have hsome := some_filter ho ms
  cases bot with
  | false =>
    show someP l ms = _
    rw [hsome]
    refine List.filter_congr fun r _ => ?_
    unfold staysB; simp
  | true =>
    show botFrom (someP l ms) (someP l ms).length 0 [] = _
    rw [hsome]
    have ho2 : orderP (l.filter (needB l ms)) = true := of_ord ((ord_of ho).sub List.filter_sublist)
    rw [bot_filter ho2, List.filter_filter]
    refine List.filter_congr fun r _ => ?_
    unfold staysB; simp [Bool.and_comm]

/-! ### dropping again -/
theorem sees_sub {a l : List Row} (hs : List.Sublist a l) {x : Int} {r : Row} (h : seesB l x r = true) : seesB a x r = true := by
  rw [seesB_iff] at h ⊢
  exact ⟨h.1, fun q hq => h.2 q (hs.subset hq)⟩
theorem need_sub {a l : List Row} (hs : List.Sublist a l) {ms : List Int} {r : Row} (h : needB l ms r = true) : needB a ms r = true := by
  unfold needB at h ⊢
  rw [Bool.or_eq_true] at h ⊢
  rcases h with h | h
  · exact .inl (sees_sub hs h)
  · rw [List.any_eq_true] at h ⊢
    obtain ⟨x, hx, h⟩ := h
    exact .inr ⟨x, hx, sees_sub hs h⟩
theorem drop_sub {l : List Row} (ho : orderP l = true) (hs : SeqOk l) (ms : List Int) (bot : Bool) : List.Sublist (dropP l ms bot) l := by
  rw [drop_filter ho hs]; exact List.filter_sublist
theorem drop_again {l : List Row} (ho : orderP l = true) (hs : SeqOk l) (ms : List Int) (bot : Bool) : dropP (dropP l ms bot) ms bot = dropP l ms bot := by
  have hsub := drop_sub ho hs ms bot
  have ho2 : orderP (dropP l ms bot) = true := of_ord ((ord_of ho).sub hsub)
  rw [drop_filter ho2 (hs.sub hsub)]
  rw [List.filter_eq_self]
  intro r hr
  rw [drop_filter ho hs, List.mem_filter] at hr
  obtain ⟨hr0, hr⟩ := hr
  unfold staysB at hr
  rw [Bool.and_eq_true] at hr
  obtain ⟨h1, h2⟩ := hr
  unfold staysB
  rw [Bool.and_eq_true]
  refine ⟨need_sub hsub h1, ?_⟩
  cases bot with
  | false => rfl
  | true =>
    simp only [Bool.not_true, Bool.false_or] at h2 ⊢
    rw [hasPut_iff] at h2 ⊢
    obtain ⟨q, hq, h3, h4, h5⟩ := h2
    rw [List.mem_filter] at hq
    have hqm : q ∈ dropP l ms true := by
      rw [drop_filter ho hs, List.mem_filter]
      refine ⟨hq.1, ?_⟩
      unfold staysB
      rw [hq.2]
      simp only [Bool.not_true, Bool.false_or, Bool.true_and]
      rw [hasPut_iff]
      exact ⟨q, List.mem_filter.2 hq, rfl, Int.le_refl _, h5⟩
    exact ⟨q, List.mem_filter.2 ⟨hqm, need_sub hsub hq.2⟩, h3, h4, h5⟩
theorem filter_sub {p q : Row → Bool} : ∀ (l : List Row), (∀ r ∈ l, p r = true → q r = true) → List.Sublist (l.filter p) (l.filter q)
  | [], _ => List.Sublist.refl _
  | a :: l, h => by
    have ih := filter_sub l fun r hr => h r (by simp [hr])
    rw [List.filter_cons, List.filter_cons]
    cases hp : p a with
    | true => rw [h a (by simp) hp]; exact ih.cons_cons a
    | false =>
      cases q a with
      | true => exact ih.cons a
      | false => exact ih
theorem drop_more {l : List Row} (ho : orderP l = true) (hs : SeqOk l) (ms more : List Int) (bot : Bool) : List.Sublist (dropP l ms bot) (dropP l (ms ++ more) bot) := by
  have hneed : ∀ r, needB l ms r = true → needB l (ms ++ more) r = true := by
    intro r h
    unfold needB at h ⊢
    rw [Bool.or_eq_true] at h ⊢
    rcases h with h | h
    · exact .inl h
    · rw [List.any_append, h]; exact .inr rfl
  rw [drop_filter ho hs, drop_filter ho hs]
  refine filter_sub l fun r _ h => ?_
  unfold staysB at h ⊢
  rw [Bool.and_eq_true] at h ⊢
  refine ⟨hneed r h.1, ?_⟩
  cases bot with
  | false => rfl
  | true =>
    have h2 := h.2
    simp only [Bool.not_true, Bool.false_or] at h2 ⊢
    rw [hasPut_iff] at h2 ⊢
    obtain ⟨q, hq, h3⟩ := h2
    rw [List.mem_filter] at hq
    exact ⟨q, List.mem_filter.2 ⟨hq.1, hneed q hq.2⟩, h3⟩
end Go.Proofs.Ytnajopkaepjncaa

/- What taking the first of all heads makes: the plain law. -/
namespace Go.Proofs.Ytnajopkaepjncaa
open Am
set_option linter.unusedVariables false
set_option linter.unusedSimpArgs false

def ah (a b : Row) : Prop := Op.bytesLess a.key b.key = true ∨ (a.key = b.key ∧ b.seq < a.seq)
def like (a b : Row) : Prop := a.key = b.key ∧ a.seq = b.seq
theorem ah_iff (a b : Row) : aheadP a b.key b.seq = true ↔ ah a b := by
  unfold aheadP ah
  rw [Bool.or_eq_true, Bool.and_eq_true, beq_iff_eq, decide_eq_true_eq]
theorem ah_irrefl {a b : Row} (h : like a b) : ¬ ah a b := by
  rintro (h1 | ⟨_, h1⟩)
  · rw [h.1, less_irrefl] at h1; cases h1
  · have := h.2; omega
theorem ah_trans {a b c : Row} (h : ah a b) (k : ah b c) : ah a c := by
  rcases h with h | ⟨h1, h2⟩
  · rcases k with k | ⟨k1, _⟩
    · exact .inl (less_trans h k)
    · exact .inl (by rw [← k1]; exact h)
  · rcases k with k | ⟨k1, k2⟩
    · exact .inl (by rw [h1]; exact k)
    · exact .inr ⟨h1.trans k1, by omega⟩
theorem ah_like {a b c : Row} (h : ah a b) (k : like b c) : ah a c := by
  rcases h with h | ⟨h1, h2⟩
  · exact .inl (by rw [← k.1]; exact h)
  · exact .inr ⟨h1.trans k.1, by have := k.2; omega⟩
theorem like_ah {a b c : Row} (k : like a b) (h : ah b c) : ah a c := by
  rcases h with h | ⟨h1, h2⟩
  · exact .inl (by rw [k.1]; exact h)
  · exact .inr ⟨k.1.trans h1, by have := k.2; omega⟩
theorem like.symm {a b : Row} (h : like a b) : like b a := ⟨h.1.symm, h.2.symm⟩
theorem like.trans {a b c : Row} (h : like a b) (k : like b c) : like a c := ⟨h.1.trans k.1, h.2.trans k.2⟩
theorem ah_total (a b : Row) : ah a b ∨ like a b ∨ ah b a := by
  cases h1 : Op.bytesLess a.key b.key with
  | true => exact .inl (.inl h1)
  | false =>
    cases h2 : Op.bytesLess b.key a.key with
    | true => exact .inr (.inr (.inl h2))
    | false =>
      have hk := less_total _ _ h1 h2
      rcases Int.lt_trichotomy a.seq b.seq with h | h | h
      · exact .inr (.inr (.inr ⟨hk.symm, h⟩))
      · exact .inr (.inl ⟨hk, h⟩)
      · exact .inl (.inr ⟨hk, h⟩)
theorem lessR_ah (a b : Row) (i j : Int) : lessR a b i j = true ↔ (ah a b ∨ (like a b ∧ i < j)) := by
  rw [lessR_iff]
  unfold ah like
  constructor
  · rintro (h | ⟨h, h1 | ⟨h1, h2⟩⟩)
    · exact .inl (.inl h)
    · exact .inl (.inr ⟨h, h1⟩)
    · exact .inr ⟨⟨h, h1⟩, h2⟩
  · rintro ((h | ⟨h, h1⟩) | ⟨⟨h, h1⟩, h2⟩)
    · exact .inl h
    · exact .inr ⟨h, .inl h1⟩
    · exact .inr ⟨h, .inr ⟨h1, h2⟩⟩
def OrdA (l : List Row) : Prop := l.Pairwise ah
theorem ordA_of {l : List Row} (h : orderP l = true) : OrdA l := (ord_of h).imp fun h => (ah_iff _ _).1 h
theorem of_ordA {l : List Row} (h : OrdA l) : orderP l = true := of_ord (h.imp fun h => (ah_iff _ _).2 h)
/-- Of rows in order, two alike are one. -/
theorem ord_like {l : List Row} (h : OrdA l) {a b : Row} (ha : a ∈ l) (hb : b ∈ l) (hl : like a b) : a = b := by
  induction l with
  | nil => cases ha
  | cons c l ih =>
    unfold OrdA at h
    rw [List.pairwise_cons] at h
    rcases List.mem_cons.1 ha with h1 | h1 <;> rcases List.mem_cons.1 hb with h2 | h2
    · rw [h1, h2]
    · subst h1; exact absurd (h.1 b h2) (ah_irrefl hl)
    · subst h2; exact absurd (h.1 a h1) (ah_irrefl hl.symm)
    · exact ih h.2 h1 h2
/-- Rows in order are told by which they are. -/
theorem ord_eq : ∀ {a b : List Row}, OrdA a → OrdA b → (∀ r, r ∈ a ↔ r ∈ b) → a = b
  | [], [], _, _, _ => rfl
  | [], y :: b, _, _, h => by have := (h y).2 (by simp); cases this
  | x :: a, [], _, _, h => by have := (h x).1 (by simp); cases this
  | x :: a, y :: b, ha, hb, h => by
    unfold OrdA at ha hb
    rw [List.pairwise_cons] at ha hb
    have hxy : x = y := by
      rcases List.mem_cons.1 ((h x).1 (by simp)) with h1 | h1
      · exact h1
      · rcases List.mem_cons.1 ((h y).2 (by simp)) with h2 | h2
        · exact h2.symm
        · have h3 := hb.1 x h1
          have h4 := ha.1 y h2
          exact absurd (ah_trans h3 h4) (ah_irrefl ⟨rfl, rfl⟩)
    subst hxy
    have : a = b := ord_eq ha.2 hb.2 fun r => by
      constructor
      · intro hr
        rcases List.mem_cons.1 ((h r).1 (by simp [hr])) with h1 | h1
        · subst h1; exact absurd (ha.1 r hr) (ah_irrefl ⟨rfl, rfl⟩)
        · exact h1
      · intro hr
        rcases List.mem_cons.1 ((h r).2 (by simp [hr])) with h1 | h1
        · subst h1; exact absurd (hb.1 r hr) (ah_irrefl ⟨rfl, rfl⟩)
        · exact h1
    rw [this]

/-- A row that no list ahead of its own has. -/
def First (ls : List (List Row)) (r : Row) : Prop := ∃ (i : Nat) (l : List Row), ls[i]? = some l ∧ r ∈ l ∧ ∀ (j : Nat) (l' : List Row), j < i → ls[j]? = some l' → ∀ x ∈ l', ¬ like x r
/-- Lists made one. -/
def Made1 (ls : List (List Row)) (out : List Row) : Prop := OrdA out ∧ ∀ r, r ∈ out ↔ First ls r
theorem made_eq {ls : List (List Row)} {a b : List Row} (h : Made1 ls a) (k : Made1 ls b) : a = b := ord_eq h.1 k.1 fun r => (h.2 r).trans (k.2 r).symm

structure MInv (ls : List (List Row)) (hs : List Hd) (out : List Row) : Prop where
  ord : OrdA out
  at_ : ∀ h ∈ hs, ∃ (i : Nat) (pre : List Row), h.list = (i : Int) ∧ ls[i]? = some (pre ++ h.rest)
  dist : (hs.map Hd.list).Nodup
  first : ∀ r ∈ out, First ls r
  ahead : ∀ r ∈ out, ∀ h ∈ hs, ∀ x ∈ h.rest, ¬ ah x r
  has : ∀ (i : Nat) (l : List Row), ls[i]? = some l → ∀ r ∈ l, (∃ h ∈ hs, h.list = (i : Int) ∧ r ∈ h.rest) ∨ ∃ r' ∈ out, like r' r
theorem minv_perm {ls : List (List Row)} {hs hs' : List Hd} {out : List Row} (hp : hs'.Perm hs) (h : MInv ls hs out) : MInv ls hs' out where
  ord := h.ord
  at_ := fun x hx => h.at_ x (hp.mem_iff.1 hx)
  dist := ((hp.map Hd.list).nodup_iff).2 h.dist
  first := h.first
  ahead := fun r hr x hx => h.ahead r hr x (hp.mem_iff.1 hx)
  has := fun i l hl r hr => by
    rcases h.has i l hl r hr with ⟨x, hx, h1⟩ | h1
    · exact .inl ⟨x, hp.mem_iff.2 hx, h1⟩
    · exact .inr h1
theorem last_max {out : List Row} (h : OrdA out) {z : Row} (hz : out[out.length - 1]? = some z) {r : Row} (hr : r ∈ out) : r = z ∨ ah r z := by
  unfold OrdA at h
  rw [List.pairwise_iff_getElem] at h
  obtain ⟨k, hk, rfl⟩ := List.getElem_of_mem hr
  have hl : out.length - 1 < out.length := by omega
  rw [List.getElem?_eq_getElem hl] at hz
  injection hz with hz
  by_cases hkl : k = out.length - 1
  · left; rw [← hz]; congr 1
  · right; rw [← hz]; exact h k _ hk hl (by omega)
def nextH (a : Hd) (rs : List Row) (tl : List Hd) : List Hd := match rs with
  | [] => tl
  | _ :: _ => ⟨rs, a.sp, a.list⟩ :: tl
theorem minv_step {ls : List (List Row)} (hls : ∀ l ∈ ls, OrdA l) {a : Hd} {r : Row} {rs : List Row} {tl : List Hd} {out : List Row} (ha : a.rest = r :: rs) (hleast : ∀ b ∈ tl, full b ∧ leH a b) (h : MInv ls (a :: tl) out) :
    MInv ls (nextH a rs tl) (putO out r) := by
  obtain ⟨i, pre, hai, hli⟩ := h.at_ a (by simp)
  rw [ha] at hli
  have hlo := hls _ (List.mem_of_getElem? hli)
  have hrs : ∀ x ∈ rs, ah r x := by
    have h1 := (List.pairwise_append.1 hlo).2.1
    rw [List.pairwise_cons] at h1
    exact h1.1
  have hnd : a.list ∉ tl.map Hd.list ∧ (tl.map Hd.list).Nodup := by
    have := h.dist
    rw [List.map_cons, List.nodup_cons] at this
    exact this
  -- rows of other heads don't stand ahead of this one
  have hoth : ∀ b ∈ tl, ∀ x ∈ b.rest, ¬ ah x r ∧ (like x r → b.list > (i : Int) ∨ b.list = (i : Int)) := by
    intro b hb x hx
    obtain ⟨hbf, hbl⟩ := hleast b hb
    obtain ⟨y, ys, hy⟩ := List.exists_cons_of_ne_nil hbf
    obtain ⟨j, pre2, hbj, hlj⟩ := h.at_ b (by simp [hb])
    rw [hy] at hlj hx
    have hlo2 := hls _ (List.mem_of_getElem? hlj)
    have hyx : x = y ∨ ah y x := by
      have h1 := (List.pairwise_append.1 hlo2).2.1
      rw [List.pairwise_cons] at h1
      rcases List.mem_cons.1 hx with hx | hx
      · exact .inl hx
      · exact .inr (h1.1 x hx)
    unfold leH lessH at hbl
    rw [hy, ha] at hbl
    simp only at hbl
    have hno : ¬ (ah y r ∨ (like y r ∧ b.list < a.list)) := by
      rw [← lessR_ah, hbl]; intro e; cases e
    refine ⟨fun hxr => ?_, fun hxr => ?_⟩
    · rcases hyx with hyx | hyx
      · subst hyx; exact hno (.inl hxr)
      · exact hno (.inl (ah_trans hyx hxr))
    · rcases hyx with hyx | hyx
      · subst hyx
        have : ¬ b.list < a.list := fun hlt => hno (.inr ⟨hxr, hlt⟩)
        rw [hai] at this
        omega
      · exact absurd (.inl (ah_like hyx hxr)) hno
  have hnew_at : ∀ x ∈ nextH a rs tl, x ∈ tl ∨ (x = ⟨rs, a.sp, a.list⟩ ∧ rs ≠ []) := by
    intro x hx
    cases rs with
    | nil => exact .inl hx
    | cons q qs =>
      rcases List.mem_cons.1 hx with hx | hx
      · exact .inr ⟨hx, by intro e; cases e⟩
      · exact .inl hx
  have hold : ∀ x ∈ tl, x ∈ nextH a rs tl := by
    intro x hx
    cases rs with
    | nil => exact hx
    | cons q qs => exact List.mem_cons_of_mem _ hx
  have hput : (putO out r = out ∧ ∃ z ∈ out, like z r) ∨ (putO out r = out ++ [r] ∧ ∀ z ∈ out, ah z r) := by
    unfold putO
    cases hz : out[out.length - 1]? with
    | none =>
      right
      refine ⟨rfl, fun z hzm => ?_⟩
      have : out = [] := by
        cases out with
        | nil => rfl
        | cons o os => simp at hz
      rw [this] at hzm; cases hzm
    | some z =>
      have hzm := List.mem_of_getElem? hz
      have hzr : ¬ ah r z := h.ahead z hzm a (by simp) r (by rw [ha]; simp)
      simp only
      by_cases hlk : like z r
      · left
        have e1 : (z.key != r.key) = false := by simp [hlk.1]
        have e2 : (z.seq != r.seq) = false := by simp [hlk.2]
        rw [e1, e2]
        exact ⟨rfl, z, hzm, hlk⟩
      · right
        have hza : ah z r := by
          rcases ah_total z r with h1 | h1 | h1
          · exact h1
          · exact absurd h1 hlk
          · exact absurd h1 hzr
        refine ⟨?_, fun w hw => ?_⟩
        · by_cases hk : z.key = r.key
          · have e1 : (z.key != r.key) = false := by simp [hk]
            have e2 : (z.seq != r.seq) = true := by
              simp; intro e; exact hlk ⟨hk, e⟩
            rw [e1, e2]
          · have e1 : (z.key != r.key) = true := by simp [hk]
            rw [e1]
        · rcases last_max h.ord hz hw with h1 | h1
          · rw [h1]; exact hza
          · exact ah_trans h1 hza
  have hmem : ∀ z ∈ out, z ∈ putO out r := by
    intro z hz
    rcases hput with ⟨h1, _⟩ | ⟨h1, _⟩
    · rw [h1]; exact hz
    · rw [h1]; simp [hz]
  have hrep : ∃ z ∈ putO out r, like z r := by
    rcases hput with ⟨h1, z, hz, hl⟩ | ⟨h1, _⟩
    · exact ⟨z, by rw [h1]; exact hz, hl⟩
    · exact ⟨r, by rw [h1]; simp, ⟨rfl, rfl⟩⟩
  refine ⟨?_, ?_, ?_, ?_, ?_, ?_⟩
  · rcases hput with ⟨h1, _⟩ | ⟨h1, h2⟩
    · rw [h1]; exact h.ord
    · rw [h1]
      unfold OrdA
      rw [List.pairwise_append]
      exact ⟨h.ord, List.pairwise_singleton _ _, fun x hx y hy => by rw [List.mem_singleton] at hy; rw [hy]; exact h2 x hx⟩
  · intro x hx
    rcases hnew_at x hx with hx | ⟨hx, _⟩
    · exact h.at_ x (by simp [hx])
    · rw [hx]
      exact ⟨i, pre ++ [r], hai, by rw [hli]; simp⟩
  · cases rs with
    | nil => exact hnd.2
    | cons q qs =>
      show ((⟨q :: qs, a.sp, a.list⟩ :: tl : List Hd).map Hd.list).Nodup
      rw [List.map_cons, List.nodup_cons]
      exact hnd
  · rcases hput with ⟨h1, _⟩ | ⟨h1, h2⟩
    · rw [h1]; exact h.first
    · rw [h1]
      intro z hz
      rcases List.mem_append.1 hz with hz | hz
      · exact h.first z hz
      · rw [List.mem_singleton] at hz
        subst hz
        refine ⟨i, _, hli, by simp, fun j l' hj hl' x hx hxr => ?_⟩
        rcases h.has j l' hl' x hx with ⟨b, hb, hbj, hxb⟩ | ⟨r', hr', hlk⟩
        · rcases List.mem_cons.1 hb with hb | hb
          · rw [hb, hai] at hbj; omega
          · rcases (hoth b hb x hxb).2 hxr with h3 | h3 <;> omega
        · exact ah_irrefl (hlk.trans hxr) (h2 r' hr')
  · intro z hz x hx y hy
    have hyr : ¬ ah y r := by
      rcases hnew_at x hx with hx | ⟨hx, _⟩
      · exact (hoth x hx y hy).1
      · rw [hx] at hy
        intro hyr
        exact ah_irrefl ⟨rfl, rfl⟩ (ah_trans (hrs y hy) hyr)
    rcases hput with ⟨h1, _⟩ | ⟨h1, h2⟩
    · rw [h1] at hz
      rcases hnew_at x hx with hx | ⟨hx, _⟩
      · exact h.ahead z hz x (by simp [hx]) y hy
      · rw [hx] at hy
        exact h.ahead z hz a (by simp) y (by rw [ha]; simp [hy])
    · rw [h1] at hz
      rcases List.mem_append.1 hz with hz | hz
      · rcases hnew_at x hx with hx | ⟨hx, _⟩
        · exact h.ahead z hz x (by simp [hx]) y hy
        · rw [hx] at hy
          exact h.ahead z hz a (by simp) y (by rw [ha]; simp [hy])
      · rw [List.mem_singleton] at hz; rw [hz]; exact hyr
  · intro k l hl x hx
    rcases h.has k l hl x hx with ⟨b, hb, hbk, hxb⟩ | ⟨r', hr', hlk⟩
    · rcases List.mem_cons.1 hb with hb | hb
      · subst hb
        rw [ha] at hxb
        rcases List.mem_cons.1 hxb with hxb | hxb
        · subst hxb
          exact .inr hrep
        · refine .inl ⟨⟨rs, b.sp, b.list⟩, ?_, hbk, hxb⟩
          cases rs with
          | nil => cases hxb
          | cons q qs => exact List.mem_cons_self
      · exact .inl ⟨b, hold b hb, hbk, hxb⟩
    · exact .inr ⟨r', hmem r' hr', hlk⟩
theorem minv_end {ls : List (List Row)} (hls : ∀ l ∈ ls, OrdA l) {out : List Row} (h : MInv ls [] out) : Made1 ls out := by
  refine ⟨h.ord, fun r => ⟨h.first r, ?_⟩⟩
  rintro ⟨i, l, hl, hr, hno⟩
  rcases h.has i l hl r hr with ⟨b, hb, _⟩ | ⟨r', hr', hlk⟩
  · cases hb
  · obtain ⟨j, l', hl', hrl', hno'⟩ := h.first r' hr'
    rcases Nat.lt_trichotomy i j with hij | hij | hij
    · exact absurd hlk.symm (hno' i l hij hl r hr)
    · subst hij
      rw [hl] at hl'; injection hl' with hl'; subst hl'
      rw [← ord_like (hls l (List.mem_of_getElem? hl)) hrl' hr hlk]
      exact hr'
    · exact absurd hlk (hno j l' hij hl' r' hrl')
theorem keeps_minv {ls : List (List Row)} (hls : ∀ l ∈ ls, OrdA l) : Keeps (MInv ls) :=
  ⟨fun a r rs tl out ha hl h => (by
    have := minv_step hls ha hl h
    cases rs <;> exact this), fun hs hs' out hp h => minv_perm hp h⟩
theorem headL_at : ∀ (a : List Ls) (k : Nat), ∀ h ∈ headL a k, ∃ (i : Nat), h.list = ((k + i : Nat) : Int) ∧ (a.map Ls.l)[i]? = some h.rest
  | [], k, h, hm => by cases hm
  | b :: a, k, h, hm => by
    simp only [headL, List.mem_append] at hm
    rcases hm with hm | hm
    · refine ⟨0, ?_⟩
      unfold headOne at hm
      split at hm
      · cases hm
      · rename_i x xs hx
        rw [List.mem_singleton] at hm
        rw [hm]
        exact ⟨by simp, by simp [hx]⟩
    · obtain ⟨i, h1, h2⟩ := headL_at a (k + 1) h hm
      exact ⟨i + 1, by rw [h1]; congr 1; omega, by simpa using h2⟩
theorem headL_dist : ∀ (a : List Ls) (k : Nat), ((headL a k).map Hd.list).Nodup
  | [], k => by simp [headL]
  | b :: a, k => by
    have ih := headL_dist a (k + 1)
    simp only [headL, List.map_append]
    rw [List.nodup_append]
    refine ⟨by unfold headOne; split <;> simp, ih, ?_⟩
    intro x hx y hy e
    subst e
    obtain ⟨h1, hm1, rfl⟩ := List.mem_map.1 hx
    obtain ⟨h2, hm2, e2⟩ := List.mem_map.1 hy
    obtain ⟨i, hi, _⟩ := headL_at a (k + 1) h2 hm2
    have hk : h1.list = (k : Int) := by
      unfold headOne at hm1
      split at hm1
      · cases hm1
      · rw [List.mem_singleton] at hm1; rw [hm1]
    rw [e2, hk] at hi
    omega
theorem headL_has : ∀ (a : List Ls) (k i : Nat) (l : List Row), (a.map Ls.l)[i]? = some l → l ≠ [] → ∃ h ∈ headL a k, h.list = ((k + i : Nat) : Int) ∧ h.rest = l
  | [], k, i, l, h, _ => by simp at h
  | b :: a, k, 0, l, h, hn => by
    simp only [List.map_cons, List.getElem?_cons_zero, Option.some.injEq] at h
    obtain ⟨x, xs, hx⟩ := List.exists_cons_of_ne_nil hn
    refine ⟨⟨b.l, b.v.getD [], (k : Int)⟩, ?_, by simp, h⟩
    simp only [headL, List.mem_append]
    left
    unfold headOne
    rw [h, hx]
    simp [← hx, ← h]
  | b :: a, k, i + 1, l, h, hn => by
    simp only [List.map_cons, List.getElem?_cons_succ] at h
    obtain ⟨x, hx, h1, h2⟩ := headL_has a (k + 1) i l h hn
    refine ⟨x, ?_, by rw [h1]; congr 1; omega, h2⟩
    simp only [headL, List.mem_append]
    exact .inr hx
theorem minv_start (ps : List Ls) : MInv (ps.map Ls.l) (headL ps 0) [] where
  ord := List.Pairwise.nil
  at_ := fun h hm => by
    obtain ⟨i, h1, h2⟩ := headL_at ps 0 h hm
    exact ⟨i, [], by rw [h1, Nat.zero_add], h2⟩
  dist := headL_dist ps 0
  first := fun r hr => by cases hr
  ahead := fun r hr => by cases hr
  has := fun i l hl r hr => by
    obtain ⟨h, hm, h1, h2⟩ := headL_has ps 0 i l hl (by rintro rfl; cases hr)
    exact .inl ⟨h, hm, by rw [h1, Nat.zero_add], by rw [h2]; exact hr⟩
end Go.Proofs.Ytnajopkaepjncaa

/- The place of a row among rows in order, and is it there? The document's own. -/
namespace Go.Proofs.Ytnajopkaepjncaa
open Am
set_option linter.unusedVariables false
set_option maxRecDepth 8000

/-- The first place, from k on, whose row is not ahead. -/
def placeFrom (l : List Row) (key : List UInt8) (seq : Int) : Nat → Nat → Nat
  | 0, k => k
  | n + 1, k => match l[k]? with
    | some r => match aheadP r key seq with
      | true => placeFrom l key seq n (k + 1)
      | false => k
    | none => k
def placeP (l : List Row) (key : List UInt8) (seq : Int) : Nat := placeFrom l key seq l.length 0
theorem placeFrom_le (l : List Row) (key : List UInt8) (seq : Int) : ∀ n k, k ≤ l.length → placeFrom l key seq n k ≤ l.length := by
  intro n
  induction n with
  | zero => intro k h; exact h
  | succ n ih =>
    intro k h
    simp only [placeFrom]
    cases hr : l[k]? with
    | none => exact h
    | some r =>
      have hk := (List.getElem?_eq_some_iff.1 hr).1
      simp only
      cases aheadP r key seq with
      | true => exact ih (k + 1) hk
      | false => exact h
theorem placeP_le (l : List Row) (key : List UInt8) (seq : Int) : placeP l key seq ≤ l.length := placeFrom_le l key seq _ 0 (Nat.zero_le _)

noncomputable abbrev c42 : Code := at_ Try.f42 [true, true, false, false, false]
theorem place_loop (l : List Row) (sp : List AV) (key : List UInt8) (seq : Int) (hl : l.length < 4611686018427387904) (cells : Cl) : ∀ (n k : Nat) (H : Hp), l.length - k = n → k ≤ l.length →
    L Try.prog K0 (K0.vars 42) 24 c42 [(0, .lst 39 (l.map Row.enc) sp), (1, .str key), (2, .int .u64 seq), (7, .int .i64 (k : Int))] H [] cells
      fun e env H' sl cl => More H H' ∧ cl = cells ∧ sl = [] ∧ e = .exit 0 ∧ ∃ v0 v1 v2 v20, env = [(0, v0), (1, v1), (2, v2), (7, .int .i64 (placeFrom l key seq n k : Nat)), (20, v20)] := by
  intro n
  induction n with
  | zero =>
    intro k H hn hk
    refine L_round ?_
    refine And.intro (fun h => ?_) (fun h => ?_)
    · exfalso
      have h := dec_true (p := (k : Int) < ((l.map Row.enc).length : Nat)) h
      rw [List.length_map] at h
      omega
    · refine And.intro (fun h => by cases h) (fun h => ?_)
      exact And.intro (More.refl H) (And.intro rfl (And.intro rfl (And.intro rfl ⟨_, _, _, _, rfl⟩)))
  | succ n ih =>
    intro k H hn hk
    have hk : k < l.length := by omega
    obtain ⟨a, ha⟩ : ∃ a, l[k]? = some a := ⟨l[k], List.getElem?_eq_getElem hk⟩
    refine L_round ?_
    refine And.intro (fun h => ?_) (fun h => ?_)
    · clear h
      refine And.intro (Int.natCast_nonneg _) (Exists.intro _ (And.intro (get_row ha) ?_))
      obtain ⟨E, hE⟩ := ahead2_spec a key seq H cells
      refine And.intro rfl (Exists.intro _ (Exists.intro _ (Exists.intro _ (And.intro hE ?_))))
      have hstep : placeFrom l key seq (n + 1) k = (match aheadP a key seq with | true => placeFrom l key seq n (k + 1) | false => k) := by
        simp only [placeFrom, ha]
      cases hah : aheadP a key seq with
      | false =>
        rw [hah] at hstep
        rw [hstep]
        refine And.intro (fun h => by cases h) (fun h => ?_)
        exact And.intro (More.app H E) (And.intro rfl (And.intro rfl (And.intro rfl ⟨_, _, _, _, rfl⟩)))
      | true =>
        rw [hah] at hstep
        rw [hstep]
        refine And.intro (fun h => ?_) (fun h => by cases h)
        refine Exists.intro (.int .i64 ((k + 1 : Nat) : Int)) (And.intro (i64_eq (by omega) (by omega) (by omega)) ?_)
        refine L_mono (ih (k + 1) (H ++ E) (by omega) (by omega)) ?_
        rintro e env H' sl cl ⟨h1, h2⟩
        exact ⟨(More.app H E).trans h1, h2⟩
    · exfalso
      have h := dec_false (p := (k : Int) < ((l.map Row.enc).length : Nat)) h
      rw [List.length_map] at h
      omega
theorem place_spec {x : AV} {l : List Row} (hx : IsRows x l) (hl : l.length < 4611686018427387904) (key : List UInt8) (seq : Int) : Gv 42 [x, .str key, .int .u64 seq] (.int .i64 (placeP l key seq : Nat)) := by
  refine GivesR.one (gives_by Try.func42 rfl rfl rfl fun H cells => ?_)
  rcases hx with ⟨rfl, rfl⟩ | ⟨sp, rfl⟩
  · refine L_round ?_
    refine And.intro (fun h => by cases h) (fun h => ?_)
    refine And.intro (fun h => by cases h) (fun h => ?_)
    exact Exists.intro _ (And.intro rfl (And.intro rfl (And.intro (More.refl H) rfl)))
  · refine L_mono (place_loop l sp key seq hl cells _ 0 H rfl (Nat.zero_le _)) ?_
    rintro e env H' sl cl ⟨h1, rfl, rfl, rfl, v0, v1, v2, v20, rfl⟩
    exact Exists.intro _ (And.intro rfl (And.intro rfl (And.intro h1 rfl)))

/-- Is a row with this key and number at its place? -/
def thereP (l : List Row) (key : List UInt8) (seq : Int) : Bool := match l[placeP l key seq]? with
  | some r => (r.key == key) && (r.seq == seq)
  | none => false
theorem there_spec {x : AV} {l : List Row} (hx : IsRows x l) (hl : l.length < 4611686018427387904) (key : List UInt8) (seq : Int) : Gv 34 [x, .str key, .int .u64 seq] (.bool (thereP l key seq)) := by
  refine GivesR.one (gives_by Try.func34 rfl rfl rfl fun H cells => ?_)
  obtain ⟨E, hE⟩ := place_spec hx hl key seq H cells
  rcases hx with ⟨rfl, rfl⟩ | ⟨sp, rfl⟩
  · refine And.intro rfl (Exists.intro _ (Exists.intro _ (Exists.intro _ (And.intro hE ?_))))
    refine And.intro (fun h => by cases h) (fun h => ?_)
    refine And.intro (fun h => by cases h) (fun h => ?_)
    exact Exists.intro _ (And.intro rfl (And.intro rfl (And.intro (More.app H E) rfl)))
  · refine And.intro rfl (Exists.intro _ (Exists.intro _ (Exists.intro _ (And.intro hE ?_))))
    refine And.intro (fun h => ?_) (fun h => ?_)
    · have h := dec_true (p := ((placeP l key seq : Nat) : Int) < ((l.map Row.enc).length : Nat)) h
      rw [List.length_map] at h
      have hp : placeP l key seq < l.length := by omega
      obtain ⟨a, ha⟩ : ∃ a, l[placeP l key seq]? = some a := ⟨l[placeP l key seq], List.getElem?_eq_getElem hp⟩
      have ht : thereP l key seq = ((a.key == key) && (a.seq == seq)) := by unfold thereP; rw [ha]
      refine And.intro (Int.natCast_nonneg _) (Exists.intro _ (And.intro (get_row ha) ?_))
      rw [ht]
      refine And.intro (fun h2 => ?_) (fun h2 => ?_)
      · replace h2 : (a.key == key) = true := h2
        rw [h2]
        refine And.intro (Int.natCast_nonneg _) (Exists.intro _ (And.intro (get_row ha) ?_))
        exact Exists.intro _ (And.intro rfl (And.intro rfl (And.intro (More.app H E) rfl)))
      · replace h2 : (a.key == key) = false := h2
        rw [h2]
        exact Exists.intro _ (And.intro rfl (And.intro rfl (And.intro (More.app H E) rfl)))
    · have h := dec_false (p := ((placeP l key seq : Nat) : Int) < ((l.map Row.enc).length : Nat)) h
      rw [List.length_map] at h
      have ht : thereP l key seq = false := by unfold thereP; rw [List.getElem?_eq_none (by omega)]
      rw [ht]
      refine And.intro (fun h => by cases h) (fun h => ?_)
      exact Exists.intro _ (And.intro rfl (And.intro rfl (And.intro (More.app H E) rfl)))
end Go.Proofs.Ytnajopkaepjncaa

/- Rows with one more at its place: the document's own. -/
namespace Go.Proofs.Ytnajopkaepjncaa
open Am
set_option linter.unusedVariables false
set_option maxRecDepth 8000

theorem bound_nat {d m n : Nat} (h : n ≤ m) : boundA (some (.int .i64 (n : Int))) d m = some n := by
  unfold boundA
  simp only
  rw [if_pos (by omega)]; simp
theorem cut_to {t e : TypeId} (hu : Try.prog.underlying t = some (.slice e)) (xs sp : List AV) {n : Nat} (hn : n ≤ xs.length) : sliceA Try.prog t (.lst e xs sp) none (some (.int .i64 (n : Int))) none = some (.lst e (xs.take n) (xs.drop n ++ sp)) := by
  unfold sliceA
  rw [hu]
  have b2 := bound_nat (d := xs.length) (m := xs.length + sp.length) (n := n) (by omega)
  have b3 : boundA none (xs.length + sp.length) (xs.length + sp.length) = some (xs.length + sp.length) := rfl
  have b1 : boundA none 0 n = some 0 := rfl
  simp only [Option.isSome_none, Bool.false_and, Bool.false_eq_true, if_false, b1, b2, b3]
  have h1 : ((xs ++ sp).take n).drop 0 = xs.take n := by rw [List.drop_zero, List.take_append_of_le_length hn]
  have h2 : ((xs ++ sp).take (xs.length + sp.length)).drop n = xs.drop n ++ sp := by
    rw [List.take_of_length_le (by rw [List.length_append]; exact Nat.le_refl _), List.drop_append_of_le_length hn]
  rw [h1, h2]
  simp
theorem cut_from {t e : TypeId} (hu : Try.prog.underlying t = some (.slice e)) (xs sp : List AV) {n : Nat} (hn : n ≤ xs.length) : sliceA Try.prog t (.lst e xs sp) (some (.int .i64 (n : Int))) none none = some (.lst e (xs.drop n) sp) := by
  unfold sliceA
  rw [hu]
  have b2 : boundA none xs.length (xs.length + sp.length) = some xs.length := rfl
  have b3 : boundA none (xs.length + sp.length) (xs.length + sp.length) = some (xs.length + sp.length) := rfl
  have b1 := bound_nat (d := 0) (m := xs.length) (n := n) hn
  simp only [Option.isSome_none, Bool.false_and, Bool.false_eq_true, if_false, b1, b2, b3]
  have h1 : ((xs ++ sp).take xs.length).drop n = xs.drop n := by rw [List.take_left' rfl]
  have h2 : ((xs ++ sp).take (xs.length + sp.length)).drop xs.length = sp := by
    rw [List.take_of_length_le (by rw [List.length_append]; exact Nat.le_refl _)]
    exact List.drop_left' rfl
  rw [h1, h2]
  simp

/-- The rows, with one more at its place. -/
def withP (l : List Row) (r : Row) : List Row := l.take (placeP l r.key r.seq) ++ r :: l.drop (placeP l r.key r.seq)
theorem withP_len (l : List Row) (r : Row) : (withP l r).length = l.length + 1 := by
  have := placeP_le l r.key r.seq
  unfold withP
  rw [List.length_append, List.length_cons, List.length_take, List.length_drop]
  omega
theorem with_spec {x : AV} {l : List Row} (hx : IsRows x l) (hl : l.length < 1048576) (r : Row) : Gv 35 [x, r.enc] (.lst 39 ((withP l r).map Row.enc) []) := by
  refine GivesR.one (gives_by Try.func35 rfl rfl rfl fun H cells => ?_)
  obtain ⟨E, hE⟩ := place_spec hx (by omega) r.key r.seq (H ++ [some (Blk.mk 39 r.enc.cells)]) cells
  have hp := placeP_le l r.key r.seq
  have hm : More H ((H ++ [some (Blk.mk 39 r.enc.cells)]) ++ E) := (More.app H _).trans (More.app _ E)
  rcases hx with ⟨rfl, rfl⟩ | ⟨sp, rfl⟩
  · refine And.intro (Nat.succ_pos _) ?_
    refine Exists.intro _ (And.intro rfl (Exists.intro _ (And.intro rfl ?_)))
    refine Exists.intro _ (And.intro (get_last _ _) ?_)
    refine Exists.intro _ (And.intro (get_last _ _) ?_)
    refine And.intro rfl (Exists.intro _ (Exists.intro _ (Exists.intro _ (And.intro hE ?_))))
    refine Exists.intro _ (And.intro rfl ?_)
    refine Exists.intro _ (And.intro rfl ?_)
    refine And.intro rfl (And.intro rfl (And.intro (Nat.le_of_ble_eq_true rfl) (And.intro (Nat.le_of_ble_eq_true rfl) (And.intro (Nat.le_of_ble_eq_true rfl) (And.intro rfl (Exists.intro ([] : List AV) (And.intro rfl ?_)))))))
    refine Exists.intro _ (And.intro (get_app (get_last _ _) E) ?_)
    refine Exists.intro _ (And.intro rfl ?_)
    refine And.intro rfl (And.intro rfl (And.intro (Nat.le_of_ble_eq_true rfl) (And.intro (Nat.le_of_ble_eq_true rfl) (And.intro (Nat.le_of_ble_eq_true rfl) (And.intro rfl (Exists.intro [r.enc] (And.intro rfl ?_)))))))
    refine Exists.intro _ (And.intro rfl ?_)
    refine Exists.intro _ (And.intro rfl ?_)
    refine And.intro rfl (And.intro rfl (And.intro (Nat.le_of_ble_eq_true rfl) (And.intro (Nat.le_of_ble_eq_true rfl) (And.intro (Nat.le_of_ble_eq_true rfl) (And.intro rfl (Exists.intro [r.enc] (And.intro rfl ?_)))))))
    exact Exists.intro _ (And.intro rfl (And.intro rfl (And.intro hm rfl)))
  · have hw : ((l.map Row.enc).take (placeP l r.key r.seq) ++ [r.enc]) ++ (l.map Row.enc).drop (placeP l r.key r.seq) = (withP l r).map Row.enc := by
      unfold withP
      rw [List.map_append, List.map_cons, List.map_take, List.map_drop, List.append_assoc]; rfl
    have hpl : placeP l r.key r.seq ≤ (l.map Row.enc).length := by rw [List.length_map]; exact hp
    have ht : ((l.map Row.enc).take (placeP l r.key r.seq)).length ≤ 1048576 := by rw [List.length_take, List.length_map]; omega
    have hd : ((l.map Row.enc).drop (placeP l r.key r.seq)).length ≤ 1048576 := by rw [List.length_drop, List.length_map]; omega
    have ht1 : ((l.map Row.enc).take (placeP l r.key r.seq) ++ [r.enc]).length ≤ 1048577 := by rw [List.length_append]; exact Nat.succ_le_succ ht
    refine And.intro (Nat.succ_pos _) ?_
    refine Exists.intro _ (And.intro rfl (Exists.intro _ (And.intro rfl ?_)))
    refine Exists.intro _ (And.intro (get_last _ _) ?_)
    refine Exists.intro _ (And.intro (get_last _ _) ?_)
    refine And.intro rfl (Exists.intro _ (Exists.intro _ (Exists.intro _ (And.intro hE ?_))))
    refine Exists.intro _ (And.intro (cut_to Try.underlying22 _ _ hpl) ?_)
    refine Exists.intro _ (And.intro rfl ?_)
    refine And.intro rfl (And.intro rfl (And.intro (?_ : (0 + ((l.map Row.enc).take (placeP l r.key r.seq)).length) * 48 ≤ 140737488355328) (And.intro (?_ : 0 + ((l.map Row.enc).take (placeP l r.key r.seq)).length ≤ 140737488355328) (And.intro (Nat.le_of_ble_eq_true rfl) (And.intro rfl (Exists.intro ((l.map Row.enc).take (placeP l r.key r.seq)) (And.intro rfl ?_)))))))
    · omega
    · omega
    refine Exists.intro _ (And.intro (get_app (get_last _ _) E) ?_)
    refine Exists.intro _ (And.intro rfl ?_)
    refine And.intro rfl (And.intro rfl (And.intro (?_ : (((l.map Row.enc).take (placeP l r.key r.seq)).length + 1) * 48 ≤ 140737488355328) (And.intro (?_ : ((l.map Row.enc).take (placeP l r.key r.seq)).length + 1 ≤ 140737488355328) (And.intro (Nat.le_of_ble_eq_true rfl) (And.intro rfl (Exists.intro ((l.map Row.enc).take (placeP l r.key r.seq) ++ [r.enc]) (And.intro rfl ?_)))))))
    · omega
    · omega
    refine Exists.intro _ (And.intro (cut_from Try.underlying22 _ _ hpl) ?_)
    refine Exists.intro _ (And.intro rfl ?_)
    refine And.intro rfl (And.intro rfl (And.intro (?_ : (((l.map Row.enc).take (placeP l r.key r.seq) ++ [r.enc]).length + ((l.map Row.enc).drop (placeP l r.key r.seq)).length) * 48 ≤ 140737488355328) (And.intro (?_ : ((l.map Row.enc).take (placeP l r.key r.seq) ++ [r.enc]).length + ((l.map Row.enc).drop (placeP l r.key r.seq)).length ≤ 140737488355328) (And.intro (Nat.le_of_ble_eq_true rfl) (And.intro rfl (Exists.intro ((withP l r).map Row.enc) (And.intro hw ?_)))))))
    · omega
    · omega
    exact Exists.intro _ (And.intro rfl (And.intro rfl (And.intro hm rfl)))
end Go.Proofs.Ytnajopkaepjncaa

/- Lists made one: the document's own. -/
namespace Go.Proofs.Ytnajopkaepjncaa
open Am
set_option linter.unusedVariables false
set_option maxRecDepth 8000

noncomputable abbrev c23a : Code := at_ Try.f23 [true, false, true, false, false]
theorem ref_order_loop (ps : List Ls) (hok : ∀ q ∈ ps, q.ok) (hps : ps.length < 100000) (hl : ∀ q ∈ ps, q.l.length < 1048576) (sp : List AV) : ∀ (m i : Nat) (H : Hp), ps.length - i = m → (∀ q ∈ ps.take i, orderP q.l = true) →
    L Try.prog K0 (K0.vars 23) 54 c23a [(0, .lst 22 (ps.map Ls.av) sp), (4, .int .i64 (i : Int))] H [] []
      fun e env H' sl cl => sl = [] ∧ cl = [] ∧ More H H' ∧ ((e = .ret ∧ (∃ q ∈ ps, orderP q.l = false) ∧ env = [(2, .nils), (3, .int .i64 2)]) ∨ (e = .exit 0 ∧ (∀ q ∈ ps, orderP q.l = true) ∧ ∃ v4 v12, env = [(0, .lst 22 (ps.map Ls.av) sp), (4, v4), (12, v12)])) := by
  intro m
  induction m with
  | zero =>
    intro i H hm hord
    have ht : ps.take i = ps := List.take_of_length_le (by omega)
    rw [ht] at hord
    refine L_round ?_
    refine And.intro (fun h => ?_) (fun _ => ?_)
    · exfalso
      have h := dec_true (p := (i : Int) < ((ps.map Ls.av).length : Nat)) h
      rw [List.length_map] at h
      omega
    · exact And.intro rfl (And.intro rfl (And.intro (More.refl H) (.inr ⟨rfl, hord, _, _, rfl⟩)))
  | succ m ih =>
    intro i H hm hord
    have hi : i < ps.length := by omega
    obtain ⟨q, hq⟩ : ∃ q, ps[i]? = some q := ⟨ps[i], List.getElem?_eq_getElem hi⟩
    have hqm : q ∈ ps := List.mem_of_getElem? hq
    have hqok := hok q hqm
    have hql := hl q hqm
    have htk : ps.take (i + 1) = ps.take i ++ [q] := by rw [List.take_add_one, hq]; rfl
    obtain ⟨E, hE⟩ := order2_spec (Ls.rows hqok) (by omega) H []
    have hnext : orderP q.l = true → L Try.prog K0 (K0.vars 23) 54 c23a [(0, .lst 22 (ps.map Ls.av) sp), (4, .int .i64 ((i + 1 : Nat) : Int))] (H ++ E) [] []
      fun e env H' sl cl => sl = [] ∧ cl = [] ∧ More H H' ∧ ((e = .ret ∧ (∃ q ∈ ps, orderP q.l = false) ∧ env = [(2, .nils), (3, .int .i64 2)]) ∨ (e = .exit 0 ∧ (∀ q ∈ ps, orderP q.l = true) ∧ ∃ v4 v12, env = [(0, .lst 22 (ps.map Ls.av) sp), (4, v4), (12, v12)])) := by
      intro g
      refine L_mono (ih (i + 1) (H ++ E) (by omega) ?_) ?_
      · rw [htk]
        intro x hx
        rcases List.mem_append.1 hx with hx | hx
        · exact hord x hx
        · rw [List.mem_singleton] at hx; rw [hx]; exact g
      · rintro e env H' sl cl ⟨h1, h2, h3, h4⟩
        exact ⟨h1, h2, (More.app H E).trans h3, h4⟩
    obtain ⟨ql, qv⟩ := q
    refine L_round ?_
    refine And.intro (fun _ => ?_) (fun h => by
      exfalso
      have h := dec_false (p := (i : Int) < ((ps.map Ls.av).length : Nat)) h
      rw [List.length_map] at h
      omega)
    cases qv with
    | none =>
      obtain rfl : ql = [] := hqok rfl
      refine And.intro (Int.natCast_nonneg _) (Exists.intro _ (And.intro (get_ls hq) ?_))
      refine And.intro rfl (Exists.intro _ (Exists.intro _ (Exists.intro _ (And.intro hE ?_))))
      refine And.intro (fun h => by cases h) (fun _ => ?_)
      refine Exists.intro (.int .i64 ((i + 1 : Nat) : Int)) (And.intro (i64_eq (by omega) (by omega) (by omega)) ?_)
      exact hnext rfl
    | some qs =>
      refine And.intro (Int.natCast_nonneg _) (Exists.intro _ (And.intro (get_ls hq) ?_))
      refine And.intro rfl (Exists.intro _ (Exists.intro _ (Exists.intro _ (And.intro hE ?_))))
      cases ho : orderP ql with
      | false =>
        refine And.intro (fun _ => ?_) (fun h => by cases h)
        exact And.intro rfl (And.intro rfl (And.intro (More.app H E) (.inl ⟨rfl, ⟨_, hqm, ho⟩, rfl⟩)))
      | true =>
        refine And.intro (fun h => by cases h) (fun _ => ?_)
        refine Exists.intro (.int .i64 ((i + 1 : Nat) : Int)) (And.intro (i64_eq (by omega) (by omega) (by omega)) ?_)
        exact hnext ho

/-- One row more, if it is not there. -/
def insR (out : List Row) (r : Row) : List Row := match thereP out r.key r.seq with
  | true => out
  | false => withP out r
theorem insR_len (out : List Row) (r : Row) : (insR out r).length ≤ out.length + 1 := by
  unfold insR
  cases thereP out r.key r.seq with
  | true => exact Nat.le_succ _
  | false => exact Nat.le_of_eq (withP_len out r)
/-- Rows that were made, as a value. -/
def IsOut (x : AV) (l : List Row) : Prop := (x = .nils ∧ l = []) ∨ x = .lst 39 (l.map Row.enc) []
theorem IsOut.rows {x : AV} {l : List Row} (h : IsOut x l) : IsRows x l := by
  rcases h with h | h
  · exact .inl h
  · exact .inr ⟨[], h⟩

noncomputable abbrev c23c : Code := at_ Try.f23 [true, true, true, false, true, false, false, true, false, false, true, false, false]
theorem ref_rows_loop (ps : List Ls) (sp : List AV) (i : Nat) (hi : i < 100000) (ql : List Row) (qs : List AV) (hq : ps[i]? = some ⟨ql, some qs⟩) (hql : ql.length < 1048576) : ∀ (m k : Nat) (out : List Row) (v5 : AV) (H : Hp), ql.length - k = m → IsOut v5 out → out.length + m < 1000000 →
    L Try.prog K0 (K0.vars 23) 54 c23c [(0, .lst 22 (ps.map Ls.av) sp), (5, v5), (6, .int .i64 (i : Int)), (7, .int .i64 (k : Int))] H [] []
      fun e env H' sl cl => sl = [] ∧ cl = [] ∧ More H H' ∧ e = .exit 4 ∧ ∃ v5' v7 v33, IsOut v5' ((ql.drop k).foldl insR out) ∧ env = [(0, .lst 22 (ps.map Ls.av) sp), (5, v5'), (6, .int .i64 (i : Int)), (7, v7), (33, v33)] := by
  intro m
  induction m with
  | zero =>
    intro k out v5 H hm hv hlen
    have hd : ql.drop k = [] := List.drop_eq_nil_of_le (by omega)
    rw [hd]
    refine L_round ?_
    rcases hv with ⟨rfl, rfl⟩ | rfl
    · refine And.intro (Int.natCast_nonneg _) (Exists.intro _ (And.intro (get_ls hq) ?_))
      refine And.intro (fun h => ?_) (fun _ => ?_)
      · exfalso
        have h := dec_true (p := (k : Int) < ((ql.map Row.enc).length : Nat)) h
        rw [List.length_map] at h
        omega
      · exact And.intro rfl (And.intro rfl (And.intro (More.refl H) (And.intro rfl ⟨_, _, _, .inl ⟨rfl, rfl⟩, rfl⟩)))
    · refine And.intro (Int.natCast_nonneg _) (Exists.intro _ (And.intro (get_ls hq) ?_))
      refine And.intro (fun h => ?_) (fun _ => ?_)
      · exfalso
        have h := dec_true (p := (k : Int) < ((ql.map Row.enc).length : Nat)) h
        rw [List.length_map] at h
        omega
      · exact And.intro rfl (And.intro rfl (And.intro (More.refl H) (And.intro rfl ⟨_, _, _, .inr rfl, rfl⟩)))
  | succ m ih =>
    intro k out v5 H hm hv hlen
    have hk : k < ql.length := by omega
    obtain ⟨r, hr⟩ : ∃ r, ql[k]? = some r := ⟨ql[k], List.getElem?_eq_getElem hk⟩
    have hd : ql.drop k = r :: ql.drop (k + 1) := by
      rw [List.drop_eq_getElem_cons hk]
      rw [List.getElem?_eq_getElem hk] at hr
      injection hr with hr
      rw [hr]
    rw [hd]
    have hpl := insR_len out r
    obtain ⟨E, hE⟩ := there_spec hv.rows (by omega) r.key r.seq (H ++ [some (Blk.mk 39 r.enc.cells)]) []
    obtain ⟨F, hF⟩ := with_spec hv.rows (by omega) r ((H ++ [some (Blk.mk 39 r.enc.cells)]) ++ E) []
    have hm1 : More H ((H ++ [some (Blk.mk 39 r.enc.cells)]) ++ E) := (More.app H _).trans (More.app _ E)
    have hnext : ∀ v5' H2, More H H2 → IsOut v5' (insR out r) → L Try.prog K0 (K0.vars 23) 54 c23c [(0, .lst 22 (ps.map Ls.av) sp), (5, v5'), (6, .int .i64 (i : Int)), (7, .int .i64 ((k + 1 : Nat) : Int))] H2 [] []
      fun e env H' sl cl => sl = [] ∧ cl = [] ∧ More H H' ∧ e = .exit 4 ∧ ∃ v5' v7 v33, IsOut v5' ((r :: ql.drop (k + 1)).foldl insR out) ∧ env = [(0, .lst 22 (ps.map Ls.av) sp), (5, v5'), (6, .int .i64 (i : Int)), (7, v7), (33, v33)] := by
      intro v5' H2 g1 g2
      refine L_mono (ih (k + 1) (insR out r) v5' H2 (by omega) g2 (by omega)) ?_
      rintro e env H' sl cl ⟨h1, h2, h3, h4⟩
      exact ⟨h1, h2, g1.trans h3, h4⟩
    refine L_round ?_
    rcases hv with ⟨rfl, rfl⟩ | rfl
    · refine And.intro (Int.natCast_nonneg _) (Exists.intro _ (And.intro (get_ls hq) ?_))
      refine And.intro (fun _ => ?_) (fun h => by
        exfalso
        have h := dec_false (p := (k : Int) < ((ql.map Row.enc).length : Nat)) h
        rw [List.length_map] at h
        omega)
      refine And.intro (Int.natCast_nonneg _) (Exists.intro _ (And.intro (get_ls hq) ?_))
      refine And.intro (Int.natCast_nonneg _) (Exists.intro _ (And.intro (get_row hr) ?_))
      refine Exists.intro _ (And.intro rfl (Exists.intro _ (And.intro rfl ?_)))
      refine Exists.intro _ (And.intro (get_last _ _) ?_)
      refine And.intro rfl (And.intro (Nat.succ_pos _) (And.intro (Nat.le_of_ble_eq_true rfl) (Exists.intro (H ++ [some (Blk.mk 39 r.enc.cells)]) (And.intro (set_last _ _ _) (Exists.intro [] (And.intro (nil_cells _) ?_))))))
      refine Exists.intro _ (And.intro (get_last _ _) ?_)
      refine Exists.intro _ (And.intro (get_last _ _) ?_)
      refine And.intro rfl (Exists.intro _ (Exists.intro _ (Exists.intro _ (And.intro hE ?_))))
      cases hth : thereP [] r.key r.seq with
      | true =>
        have hpr : insR [] r = [] := by unfold insR; rw [hth]
        refine And.intro (fun h => by cases h) (fun _ => ?_)
        refine Exists.intro (.int .i64 ((k + 1 : Nat) : Int)) (And.intro (i64_eq (by omega) (by omega) (by omega)) ?_)
        exact hnext _ _ hm1 (by rw [hpr]; exact .inl ⟨rfl, rfl⟩)
      | false =>
        have hpr : insR [] r = withP [] r := by unfold insR; rw [hth]
        refine And.intro (fun _ => ?_) (fun h => by cases h)
        refine Exists.intro _ (And.intro (get_app (get_last _ _) E) ?_)
        refine And.intro rfl (Exists.intro _ (Exists.intro _ (Exists.intro _ (And.intro hF ?_))))
        refine Exists.intro (.int .i64 ((k + 1 : Nat) : Int)) (And.intro (i64_eq (by omega) (by omega) (by omega)) ?_)
        exact hnext _ _ (hm1.trans (More.app _ F)) (by rw [hpr]; exact .inr rfl)
    · refine And.intro (Int.natCast_nonneg _) (Exists.intro _ (And.intro (get_ls hq) ?_))
      refine And.intro (fun _ => ?_) (fun h => by
        exfalso
        have h := dec_false (p := (k : Int) < ((ql.map Row.enc).length : Nat)) h
        rw [List.length_map] at h
        omega)
      refine And.intro (Int.natCast_nonneg _) (Exists.intro _ (And.intro (get_ls hq) ?_))
      refine And.intro (Int.natCast_nonneg _) (Exists.intro _ (And.intro (get_row hr) ?_))
      refine Exists.intro _ (And.intro rfl (Exists.intro _ (And.intro rfl ?_)))
      refine Exists.intro _ (And.intro (get_last _ _) ?_)
      refine And.intro rfl (And.intro (Nat.succ_pos _) (And.intro (Nat.le_of_ble_eq_true rfl) (Exists.intro (H ++ [some (Blk.mk 39 r.enc.cells)]) (And.intro (set_last _ _ _) (Exists.intro [] (And.intro (nil_cells _) ?_))))))
      refine Exists.intro _ (And.intro (get_last _ _) ?_)
      refine Exists.intro _ (And.intro (get_last _ _) ?_)
      refine And.intro rfl (Exists.intro _ (Exists.intro _ (Exists.intro _ (And.intro hE ?_))))
      cases hth : thereP out r.key r.seq with
      | true =>
        have hpr : insR out r = out := by unfold insR; rw [hth]
        refine And.intro (fun h => by cases h) (fun _ => ?_)
        refine Exists.intro (.int .i64 ((k + 1 : Nat) : Int)) (And.intro (i64_eq (by omega) (by omega) (by omega)) ?_)
        exact hnext _ _ hm1 (by rw [hpr]; exact .inr rfl)
      | false =>
        have hpr : insR out r = withP out r := by unfold insR; rw [hth]
        refine And.intro (fun _ => ?_) (fun h => by cases h)
        refine Exists.intro _ (And.intro (get_app (get_last _ _) E) ?_)
        refine And.intro rfl (Exists.intro _ (Exists.intro _ (Exists.intro _ (And.intro hF ?_))))
        refine Exists.intro (.int .i64 ((k + 1 : Nat) : Int)) (And.intro (i64_eq (by omega) (by omega) (by omega)) ?_)
        exact hnext _ _ (hm1.trans (More.app _ F)) (by rw [hpr]; exact .inr rfl)
end Go.Proofs.Ytnajopkaepjncaa

/- Lists made one: the document's own, whole. -/
namespace Go.Proofs.Ytnajopkaepjncaa
open Am
set_option linter.unusedVariables false
set_option maxRecDepth 8000

noncomputable abbrev c23b : Code := at_ Try.f23 [true, true, true, false, true, false, false]
def rowsOf (ps : List Ls) : List Row := ps.flatMap Ls.l
theorem rowsOf_len : ∀ ps : List Ls, (rowsOf ps).length = total ps
  | [] => rfl
  | q :: r => by
    have := rowsOf_len r
    unfold rowsOf total at *
    simp only [List.flatMap_cons, List.length_append, List.map_cons, List.sum_cons]
    omega
theorem foldl_len : ∀ (l : List Row) (out : List Row), (l.foldl insR out).length ≤ out.length + l.length
  | [], out => Nat.le_refl _
  | r :: l, out => by
    have h1 := foldl_len l (insR out r)
    have h2 := insR_len out r
    simp only [List.foldl_cons, List.length_cons]
    omega
theorem ref_lists_loop (ps : List Ls) (hok : ∀ q ∈ ps, q.ok) (hps : ps.length < 100000) (hl : ∀ q ∈ ps, q.l.length < 1048576) (sp : List AV) : ∀ (m i : Nat) (out : List Row) (v5 : AV) (H : Hp), ps.length - i = m → IsOut v5 out → out.length + total (ps.drop i) < 1000000 →
    L Try.prog K0 (K0.vars 23) 54 c23b [(0, .lst 22 (ps.map Ls.av) sp), (5, v5), (6, .int .i64 (i : Int))] H [] []
      fun e env H' sl cl => sl = [] ∧ cl = [] ∧ More H H' ∧ e = .exit 2 ∧ ∃ v5' v0 v6 v24, IsOut v5' ((rowsOf (ps.drop i)).foldl insR out) ∧ env = [(0, v0), (5, v5'), (6, v6), (24, v24)] := by
  intro m
  induction m with
  | zero =>
    intro i out v5 H hm hv hlen
    have hd : ps.drop i = [] := List.drop_eq_nil_of_le (by omega)
    rw [hd]
    refine L_round ?_
    rcases hv with ⟨rfl, rfl⟩ | rfl
    · refine And.intro (fun h => ?_) (fun _ => ?_)
      · exfalso
        have h := dec_true (p := (i : Int) < ((ps.map Ls.av).length : Nat)) h
        rw [List.length_map] at h
        omega
      · exact And.intro rfl (And.intro rfl (And.intro (More.refl H) (And.intro rfl ⟨_, _, _, _, .inl ⟨rfl, rfl⟩, rfl⟩)))
    · refine And.intro (fun h => ?_) (fun _ => ?_)
      · exfalso
        have h := dec_true (p := (i : Int) < ((ps.map Ls.av).length : Nat)) h
        rw [List.length_map] at h
        omega
      · exact And.intro rfl (And.intro rfl (And.intro (More.refl H) (And.intro rfl ⟨_, _, _, _, .inr rfl, rfl⟩)))
  | succ m ih =>
    intro i out v5 H hm hv hlen
    have hi : i < ps.length := by omega
    obtain ⟨q, hq⟩ : ∃ q, ps[i]? = some q := ⟨ps[i], List.getElem?_eq_getElem hi⟩
    have hqm : q ∈ ps := List.mem_of_getElem? hq
    have hqok := hok q hqm
    have hql := hl q hqm
    have hd : ps.drop i = q :: ps.drop (i + 1) := by
      rw [List.drop_eq_getElem_cons hi]
      rw [List.getElem?_eq_getElem hi] at hq
      injection hq with hq
      rw [hq]
    have htot : total (ps.drop i) = q.l.length + total (ps.drop (i + 1)) := by
      rw [hd]; unfold total; rw [List.map_cons, List.sum_cons]
    have hfo : (rowsOf (ps.drop i)).foldl insR out = (rowsOf (ps.drop (i + 1))).foldl insR (q.l.foldl insR out) := by
      rw [hd]; unfold rowsOf; rw [List.flatMap_cons, List.foldl_append]
    rw [hfo]
    have hfl := foldl_len q.l out
    have hnext : ∀ v5' H2, More H H2 → IsOut v5' (q.l.foldl insR out) → L Try.prog K0 (K0.vars 23) 54 c23b [(0, .lst 22 (ps.map Ls.av) sp), (5, v5'), (6, .int .i64 ((i + 1 : Nat) : Int))] H2 [] []
      fun e env H' sl cl => sl = [] ∧ cl = [] ∧ More H H' ∧ e = .exit 2 ∧ ∃ v5' v0 v6 v24, IsOut v5' ((rowsOf (ps.drop (i + 1))).foldl insR (q.l.foldl insR out)) ∧ env = [(0, v0), (5, v5'), (6, v6), (24, v24)] := by
      intro v5' H2 g1 g2
      refine L_mono (ih (i + 1) (q.l.foldl insR out) v5' H2 (by omega) g2 (by omega)) ?_
      rintro e env H' sl cl ⟨h1, h2, h3, h4⟩
      exact ⟨h1, h2, g1.trans h3, h4⟩
    obtain ⟨ql, qv⟩ := q
    refine L_round ?_
    cases qv with
    | none =>
      obtain rfl : ql = [] := hqok rfl
      rcases hv with ⟨rfl, rfl⟩ | rfl
      · refine And.intro (fun _ => ?_) (fun h => by
          exfalso
          have h := dec_false (p := (i : Int) < ((ps.map Ls.av).length : Nat)) h
          rw [List.length_map] at h
          omega)
        refine L_round ?_
        refine And.intro (Int.natCast_nonneg _) (Exists.intro _ (And.intro (get_ls hq) ?_))
        refine And.intro (fun h => by cases h) (fun _ => ?_)
        refine Exists.intro (.int .i64 ((i + 1 : Nat) : Int)) (And.intro (i64_eq (by omega) (by omega) (by omega)) ?_)
        exact hnext _ _ (More.refl H) (.inl ⟨rfl, rfl⟩)
      · refine And.intro (fun _ => ?_) (fun h => by
          exfalso
          have h := dec_false (p := (i : Int) < ((ps.map Ls.av).length : Nat)) h
          rw [List.length_map] at h
          omega)
        refine L_round ?_
        refine And.intro (Int.natCast_nonneg _) (Exists.intro _ (And.intro (get_ls hq) ?_))
        refine And.intro (fun h => by cases h) (fun _ => ?_)
        refine Exists.intro (.int .i64 ((i + 1 : Nat) : Int)) (And.intro (i64_eq (by omega) (by omega) (by omega)) ?_)
        exact hnext _ _ (More.refl H) (.inr rfl)
    | some qs =>
      have hin : ∀ v5 , IsOut v5 out → L Try.prog K0 (K0.vars 23) 54 c23c [(0, .lst 22 (ps.map Ls.av) sp), (5, v5), (6, .int .i64 (i : Int)), (7, .int .i64 ((0 : Nat) : Int))] H [] []
        fun e env H' sl cl => sl = [] ∧ cl = [] ∧ More H H' ∧ e = .exit 4 ∧ ∃ v5' v7 v33, IsOut v5' (ql.foldl insR out) ∧ env = [(0, .lst 22 (ps.map Ls.av) sp), (5, v5'), (6, .int .i64 (i : Int)), (7, v7), (33, v33)] := fun v5 hv =>
        ref_rows_loop ps sp i (by omega) ql qs hq hql ql.length 0 out v5 H rfl hv (by show out.length + ql.length < 1000000; simp only at htot; omega)
      rcases hv with ⟨rfl, rfl⟩ | rfl
      · refine And.intro (fun _ => ?_) (fun h => by
          exfalso
          have h := dec_false (p := (i : Int) < ((ps.map Ls.av).length : Nat)) h
          rw [List.length_map] at h
          omega)
        refine L_mono (hin _ (.inl ⟨rfl, rfl⟩)) ?_
        rintro e env H' sl cl ⟨rfl, rfl, hm2, rfl, v5', v7, v33, hv5, rfl⟩
        have hn := hnext v5' H' hm2 hv5
        rcases hv5 with ⟨rfl, hz⟩ | rfl
        · refine Exists.intro (.int .i64 ((i + 1 : Nat) : Int)) (And.intro (i64_eq (by omega) (by omega) (by omega)) ?_)
          exact hn
        · refine Exists.intro (.int .i64 ((i + 1 : Nat) : Int)) (And.intro (i64_eq (by omega) (by omega) (by omega)) ?_)
          exact hn
      · refine And.intro (fun _ => ?_) (fun h => by
          exfalso
          have h := dec_false (p := (i : Int) < ((ps.map Ls.av).length : Nat)) h
          rw [List.length_map] at h
          omega)
        refine L_mono (hin _ (.inr rfl)) ?_
        rintro e env H' sl cl ⟨rfl, rfl, hm2, rfl, v5', v7, v33, hv5, rfl⟩
        have hn := hnext v5' H' hm2 hv5
        rcases hv5 with ⟨rfl, hz⟩ | rfl
        · refine Exists.intro (.int .i64 ((i + 1 : Nat) : Int)) (And.intro (i64_eq (by omega) (by omega) (by omega)) ?_)
          exact hn
        · refine Exists.intro (.int .i64 ((i + 1 : Nat) : Int)) (And.intro (i64_eq (by omega) (by omega) (by omega)) ?_)
          exact hn

/-- What the document's Merge answers. -/
def refMR (ps : List Ls) (y : AV) : Prop := ((∃ q ∈ ps, orderP q.l = false) ∧ y = .tup [.nils, .int .i64 2]) ∨ ((∀ q ∈ ps, orderP q.l = true) ∧ ∃ v, IsOut v ((rowsOf ps).foldl insR []) ∧ y = .tup [v, .int .i64 0])
theorem ref_merge_spec {x : AV} {ps : List Ls} (hx : IsLists x ps) (hok : ∀ q ∈ ps, q.ok) (hps : ps.length < 100000) (hl : ∀ q ∈ ps, q.l.length < 1048576) (ht : total ps < 1000000) : GivesE Try.prog K0 23 [x] (refMR ps) := by
  refine givesE_by Try.func23 rfl rfl rfl fun H => ?_
  rcases hx with ⟨rfl, rfl⟩ | ⟨sp, rfl⟩
  · refine L_round ?_
    refine And.intro (fun h => by cases h) (fun _ => ?_)
    refine L_round ?_
    refine And.intro (fun h => by cases h) (fun _ => ?_)
    exact Exists.intro _ (And.intro rfl (And.intro (.inr ⟨fun q hq => (by cases hq), .nils, .inl ⟨rfl, rfl⟩, rfl⟩) (And.intro (More.refl H) rfl)))
  · refine L_mono (ref_order_loop ps hok hps hl sp ps.length 0 H rfl (fun q hq => by rw [List.take_zero] at hq; cases hq)) ?_
    rintro e env H' sl cl ⟨rfl, rfl, hm, h⟩
    rcases h with ⟨rfl, hbad, rfl⟩ | ⟨rfl, hall, v4, v12, rfl⟩
    · exact Exists.intro _ (And.intro rfl (And.intro (.inl ⟨hbad, rfl⟩) (And.intro hm rfl)))
    · refine L_mono (ref_lists_loop ps hok hps hl sp ps.length 0 [] .nils H' rfl (.inl ⟨rfl, rfl⟩) (by rw [List.drop_zero, List.length_nil]; omega)) ?_
      rintro e env H2 sl cl ⟨rfl, rfl, hm2, rfl, v5', v0, v6, v24, hv, rfl⟩
      rw [List.drop_zero] at hv
      have hv' := hv
      rcases hv with ⟨rfl, _⟩ | rfl
      · exact Exists.intro _ (And.intro rfl (And.intro (.inr ⟨hall, _, hv', rfl⟩) (And.intro (hm.trans hm2) rfl)))
      · exact Exists.intro _ (And.intro rfl (And.intro (.inr ⟨hall, _, hv', rfl⟩) (And.intro (hm.trans hm2) rfl)))
end Go.Proofs.Ytnajopkaepjncaa

/- What putting each row at its place makes: the plain law. -/
namespace Go.Proofs.Ytnajopkaepjncaa
open Am
set_option linter.unusedVariables false
set_option linter.unusedSimpArgs false

theorem place_is (l : List Row) (r : Row) : ∀ (n k : Nat), l.length - k = n → k ≤ l.length → k ≤ placeFrom l r.key r.seq n k ∧ (∀ j a, k ≤ j → j < placeFrom l r.key r.seq n k → l[j]? = some a → ah a r) ∧ ∀ a, l[placeFrom l r.key r.seq n k]? = some a → ¬ ah a r := by
  intro n
  induction n with
  | zero =>
    intro k hk hkl
    refine ⟨Nat.le_refl _, fun j a h1 h2 => absurd h2 (Nat.not_lt.2 h1), fun a ha => ?_⟩
    have := (List.getElem?_eq_some_iff.1 ha).1
    simp only [placeFrom] at this
    omega
  | succ n ih =>
    intro k hk hkl
    obtain ⟨b, hb⟩ : ∃ b, l[k]? = some b := ⟨l[k], List.getElem?_eq_getElem (by omega)⟩
    cases hah : aheadP b r.key r.seq with
    | true =>
      have hs : placeFrom l r.key r.seq (n + 1) k = placeFrom l r.key r.seq n (k + 1) := by simp only [placeFrom, hb, hah]
      rw [hs]
      obtain ⟨h1, h2, h3⟩ := ih (k + 1) (by omega) (by omega)
      refine ⟨by omega, ?_, h3⟩
      intro j a hj1 hj2 ha
      by_cases hjk : j = k
      · subst hjk
        rw [hb] at ha
        injection ha with ha
        subst ha
        exact (ah_iff b r).1 hah
      · exact h2 j a (by omega) hj2 ha
    | false =>
      have hs : placeFrom l r.key r.seq (n + 1) k = k := by simp only [placeFrom, hb, hah]
      rw [hs]
      refine ⟨Nat.le_refl _, fun j a h1 h2 => absurd h2 (Nat.not_lt.2 h1), fun a ha => ?_⟩
      rw [hb] at ha
      injection ha with ha
      subst ha
      intro h
      rw [(ah_iff b r).2 h] at hah
      cases hah
theorem there_iff {l : List Row} (hl : OrdA l) (r : Row) : (thereP l r.key r.seq = true → ∃ x ∈ l, like x r) ∧ (thereP l r.key r.seq = false → OrdA (withP l r) ∧ (∀ x ∈ l, ¬ like x r)) := by
  obtain ⟨_, h1, h2⟩ := place_is l r l.length 0 rfl (Nat.zero_le _)
  change ∀ j a, 0 ≤ j → j < placeP l r.key r.seq → l[j]? = some a → ah a r at h1
  change ∀ a, l[placeP l r.key r.seq]? = some a → ¬ ah a r at h2
  unfold thereP
  constructor
  · intro h
    cases ha : l[placeP l r.key r.seq]? with
    | none => rw [ha] at h; cases h
    | some a =>
      rw [ha] at h
      simp only [Bool.and_eq_true, beq_iff_eq] at h
      exact ⟨a, List.mem_of_getElem? ha, h⟩
  · intro h
    unfold withP
    generalize hn : placeP l r.key r.seq = n at h h1 h2
    have hle : n ≤ l.length := by rw [← hn]; exact placeP_le _ _ _
    have hpre : ∀ x ∈ l.take n, ah x r := by
      intro x hx
      obtain ⟨j, hj, rfl⟩ := List.getElem_of_mem hx
      rw [List.length_take] at hj
      refine h1 j _ (Nat.zero_le _) (by omega) ?_
      rw [List.getElem_take]
      exact List.getElem?_eq_getElem (by omega)
    have hpost : ∀ x ∈ l.drop n, ah r x := by
      cases ha : l[n]? with
      | none =>
        have : l.length ≤ n := List.getElem?_eq_none_iff.1 ha
        rw [List.drop_eq_nil_of_le this]
        intro x hx; cases hx
      | some a =>
        have hnl := (List.getElem?_eq_some_iff.1 ha).1
        rw [ha] at h
        have hnot := h2 a ha
        have hra : ah r a := by
          rcases ah_total a r with h3 | h3 | h3
          · exact absurd h3 hnot
          · exfalso
            have : ((a.key == r.key) && (a.seq == r.seq)) = true := by
              rw [Bool.and_eq_true, beq_iff_eq, beq_iff_eq]; exact h3
            simp only [this] at h; cases h
          · exact h3
        have hd : l.drop n = a :: l.drop (n + 1) := by
          rw [List.drop_eq_getElem_cons hnl]
          rw [List.getElem?_eq_getElem hnl] at ha
          injection ha with ha
          rw [ha]
        have hdo : OrdA (l.drop n) := List.Pairwise.sublist (List.drop_sublist n l) hl
        rw [hd] at hdo ⊢
        unfold OrdA at hdo
        rw [List.pairwise_cons] at hdo
        intro x hx
        rcases List.mem_cons.1 hx with rfl | hx
        · exact hra
        · exact ah_trans hra (hdo.1 x hx)
    have hsplit : l.take n ++ l.drop n = l := List.take_append_drop n l
    have hl2 := hl
    unfold OrdA at hl2
    rw [← hsplit, List.pairwise_append] at hl2
    constructor
    · unfold OrdA
      rw [List.pairwise_append]
      refine ⟨hl2.1, List.pairwise_cons.2 ⟨hpost, hl2.2.1⟩, ?_⟩
      intro x hx y hy
      rcases List.mem_cons.1 hy with rfl | hy
      · exact hpre x hx
      · exact hl2.2.2 x hx y hy
    · intro x hx hlk
      rw [← hsplit] at hx
      rcases List.mem_append.1 hx with hx | hx
      · exact ah_irrefl hlk (hpre x hx)
      · exact ah_irrefl hlk.symm (hpost x hx)
/-- A row ahead of which none is like it. -/
def FirstIn (P : List Row) (r : Row) : Prop := ∃ A B, P = A ++ r :: B ∧ ∀ x ∈ A, ¬ like x r
theorem first_like : ∀ (P : List Row) (x : Row), x ∈ P → ∃ y, FirstIn P y ∧ like y x
  | [], x, h => by cases h
  | a :: P, x, h => by
    by_cases hax : like a x
    · exact ⟨a, ⟨[], P, rfl, fun z hz => by cases hz⟩, hax⟩
    · have hx : x ∈ P := by
        rcases List.mem_cons.1 h with rfl | h
        · exact absurd ⟨rfl, rfl⟩ hax
        · exact h
      obtain ⟨y, ⟨A, B, h1, h2⟩, h3⟩ := first_like P x hx
      refine ⟨y, ⟨a :: A, B, by rw [h1]; rfl, ?_⟩, h3⟩
      intro z hz
      rcases List.mem_cons.1 hz with rfl | hz
      · intro h4; exact hax (h4.trans h3)
      · exact h2 z hz
theorem first_snoc (P : List Row) (r s : Row) : FirstIn (P ++ [r]) s ↔ FirstIn P s ∨ (s = r ∧ ∀ x ∈ P, ¬ like x r) := by
  constructor
  · rintro ⟨A, B, h1, h2⟩
    rcases List.eq_nil_or_concat B with rfl | ⟨B', b, rfl⟩
    · have := List.append_inj' h1 rfl
      obtain ⟨rfl, h3⟩ := this
      injection h3 with h3
      subst h3
      exact .inr ⟨rfl, h2⟩
    · have h3 : P ++ [r] = (A ++ s :: B') ++ [b] := by rw [h1]; simp
      obtain ⟨rfl, _⟩ := List.append_inj' h3 rfl
      exact .inl ⟨A, B', rfl, h2⟩
  · rintro (⟨A, B, rfl, h2⟩ | ⟨rfl, h⟩)
    · exact ⟨A, B ++ [r], by simp, h2⟩
    · exact ⟨P, [], rfl, h⟩
theorem fold_first : ∀ (l P out : List Row), OrdA out → (∀ s, s ∈ out ↔ FirstIn P s) → OrdA (l.foldl insR out) ∧ ∀ s, s ∈ l.foldl insR out ↔ FirstIn (P ++ l) s
  | [], P, out, ho, h => by rw [List.append_nil]; exact ⟨ho, h⟩
  | r :: l, P, out, ho, h => by
    have hs : P ++ r :: l = (P ++ [r]) ++ l := by simp
    rw [List.foldl_cons, hs]
    obtain ⟨g1, g2⟩ := there_iff ho r
    cases ht : thereP out r.key r.seq with
    | true =>
      have hi : insR out r = out := by unfold insR; rw [ht]
      rw [hi]
      refine fold_first l (P ++ [r]) out ho fun s => ?_
      rw [h s, first_snoc]
      constructor
      · exact .inl
      · rintro (h1 | ⟨rfl, h1⟩)
        · exact h1
        · obtain ⟨x, hx, hxl⟩ := g1 ht
          obtain ⟨A, B, rfl, _⟩ := (h x).1 hx
          exact absurd hxl (h1 x (by simp))
    | false =>
      have hi : insR out r = withP out r := by unfold insR; rw [ht]
      rw [hi]
      obtain ⟨k1, k2⟩ := g2 ht
      refine fold_first l (P ++ [r]) (withP out r) k1 fun s => ?_
      rw [first_snoc, ← h s]
      have hnl : ∀ x ∈ P, ¬ like x r := by
        intro x hx hxr
        obtain ⟨y, hy, hyx⟩ := first_like P x hx
        exact k2 y ((h y).2 hy) (hyx.trans hxr)
      unfold withP
      rw [List.mem_append, List.mem_cons]
      have hm : s ∈ out ↔ s ∈ out.take (placeP out r.key r.seq) ∨ s ∈ out.drop (placeP out r.key r.seq) := by
        rw [← List.mem_append, List.take_append_drop]
      rw [hm]
      constructor
      · rintro (h1 | rfl | h1)
        · exact .inl (.inl h1)
        · exact .inr ⟨rfl, hnl⟩
        · exact .inl (.inr h1)
      · rintro ((h1 | h1) | ⟨rfl, _⟩)
        · exact .inl h1
        · exact .inr (.inr h1)
        · exact .inr (.inl rfl)
theorem flat_split : ∀ (ls : List (List Row)) (A B : List Row) (r : Row), ls.flatten = A ++ r :: B → ∃ (i : Nat) (a b : List Row), ls[i]? = some (a ++ r :: b) ∧ A = (ls.take i).flatten ++ a
  | [], A, B, r, h => by simp at h
  | l :: ls, A, B, r, h => by
    rw [List.flatten_cons, List.append_eq_append_iff] at h
    rcases h with ⟨a', h1, h2⟩ | ⟨c', h1, h2⟩
    · obtain ⟨i, a, b, h3, h4⟩ := flat_split ls a' B r h2
      exact ⟨i + 1, a, b, by rw [List.getElem?_cons_succ]; exact h3, by rw [h1, h4, List.take_succ_cons, List.flatten_cons, List.append_assoc]⟩
    · cases c' with
      | nil =>
        rw [List.append_nil] at h1
        rw [List.nil_append] at h2
        obtain ⟨i, a, b, h3, h4⟩ := flat_split ls [] B r (by rw [← h2]; rfl)
        exact ⟨i + 1, a, b, by rw [List.getElem?_cons_succ]; exact h3, by rw [List.take_succ_cons, List.flatten_cons, List.append_assoc, ← h4, List.append_nil, h1]⟩
      | cons c cs =>
        rw [List.cons_append] at h2
        injection h2 with h2 h3
        subst h2
        exact ⟨0, A, cs, by rw [List.getElem?_cons_zero, h1], by simp⟩
theorem first_flat {ls : List (List Row)} (hls : ∀ l ∈ ls, OrdA l) (r : Row) : FirstIn ls.flatten r ↔ First ls r := by
  constructor
  · rintro ⟨A, B, h1, h2⟩
    obtain ⟨i, a, b, h3, rfl⟩ := flat_split ls A B r h1
    refine ⟨i, _, h3, by simp, ?_⟩
    intro j l' hj hl' x hx
    refine h2 x (List.mem_append_left _ ?_)
    rw [List.mem_flatten]
    refine ⟨l', ?_, hx⟩
    refine List.mem_of_getElem? (i := j) ?_
    rw [List.getElem?_take, if_pos hj]
    exact hl'
  · rintro ⟨i, l, h1, h2, h3⟩
    obtain ⟨a, b, rfl⟩ := List.append_of_mem h2
    have hlo := hls _ (List.mem_of_getElem? h1)
    unfold OrdA at hlo
    rw [List.pairwise_append] at hlo
    have hi := (List.getElem?_eq_some_iff.1 h1).1
    have hsp : ls = ls.take i ++ (a ++ r :: b) :: ls.drop (i + 1) := by
      have h4 : ls.drop i = (a ++ r :: b) :: ls.drop (i + 1) := by
        rw [List.drop_eq_getElem_cons hi]
        rw [List.getElem?_eq_getElem hi] at h1
        injection h1 with h1
        rw [h1]
      rw [← h4, List.take_append_drop]
    refine ⟨(ls.take i).flatten ++ a, b ++ (ls.drop (i + 1)).flatten, ?_, ?_⟩
    · conv => lhs; rw [hsp]
      rw [List.flatten_append, List.flatten_cons]
      simp
    · intro x hx
      rcases List.mem_append.1 hx with hx | hx
      · rw [List.mem_flatten] at hx
        obtain ⟨l', hl', hx⟩ := hx
        obtain ⟨j, hj, rfl⟩ := List.getElem_of_mem hl'
        rw [List.length_take] at hj
        refine h3 j _ (by omega) ?_ x hx
        rw [List.getElem_take]
        exact List.getElem?_eq_getElem (by omega)
      · intro h4
        exact ah_irrefl h4 (hlo.2.2 x hx r (by simp))
theorem ref_made (ps : List Ls) (h : ∀ q ∈ ps, orderP q.l = true) : Made1 (ps.map Ls.l) ((rowsOf ps).foldl insR []) := by
  have hls : ∀ l ∈ ps.map Ls.l, OrdA l := by
    intro l hl
    obtain ⟨q, hq, rfl⟩ := List.mem_map.1 hl
    exact ordA_of (h q hq)
  have hr : rowsOf ps = (ps.map Ls.l).flatten := by unfold rowsOf; rw [List.flatMap_def]
  obtain ⟨h1, h2⟩ := fold_first (rowsOf ps) [] [] List.Pairwise.nil (fun s => by
    constructor
    · intro h; cases h
    · rintro ⟨A, B, h3, _⟩
      cases A <;> cases h3)
  refine ⟨h1, fun r => ?_⟩
  rw [h2 r, List.nil_append, hr]
  exact first_flat hls r
end Go.Proofs.Ytnajopkaepjncaa

/- Any lists are made one as the document says, and stay as they were: the walk through the law's own function. -/
namespace Go.Proofs.Ytnajopkaepjncaa
open Am
set_option linter.unusedVariables false
set_option maxRecDepth 8000

def ownLs (q : Ls) : Ls := ⟨q.l, some [markR.enc]⟩
def ownQ (q : Ls) : AV := ownA q.l
theorem own_map (ps : List Ls) : (ps.map ownLs).map Ls.av = ps.map ownQ := by rw [List.map_map]; rfl
theorem own_l (ps : List Ls) : (ps.map ownLs).map Ls.l = ps.map Ls.l := by rw [List.map_map]; rfl
theorem own_ok (ps : List Ls) : ∀ q ∈ ps.map ownLs, q.ok := by
  intro q hq
  obtain ⟨r, _, rfl⟩ := List.mem_map.1 hq
  intro h; cases h
theorem own_total (ps : List Ls) : total (ps.map ownLs) = total ps := by
  unfold total; rw [List.map_map]; rfl
theorem own_lists (ps : List Ls) : IsLists (built 22 (ps.map ownQ)) (ps.map ownLs) := by
  cases ps with
  | nil => exact .inl ⟨rfl, rfl⟩
  | cons q r => exact .inr ⟨[], by rw [own_map]; rfl⟩
theorem get_own {ps : List Ls} {k : Nat} {q : Ls} (h : ps[k]? = some q) : (ps.map ownQ)[k]? = some (ownA q.l) := by rw [List.getElem?_map, h]; rfl

noncomputable abbrev c7a : Code := at_ Try.f7 [true, true, true, false, true, false, false]
theorem own_loop (ps : List Ls) (hok : ∀ q ∈ ps, q.ok) (hps : ps.length < 100000) (hl : ∀ q ∈ ps, q.l.length < 1048576) (sp : List AV) : ∀ (m i : Nat) (os : List AV) (H : Hp), ps.length - i = m → os.length ≤ i →
    L Try.prog K0 (K0.vars 7) 64 c7a [(0, .lst 22 (ps.map Ls.av) sp), (3, built 22 os), (4, .int .i64 (i : Int))] H (ownd 3 os) []
      fun e env H' sl cl => cl = [] ∧ e = .exit 0 ∧ More H H' ∧ sl = ownd 3 (os ++ (ps.drop i).map ownQ) ∧ ∃ v4 v16, env = [(0, .lst 22 (ps.map Ls.av) sp), (3, built 22 (os ++ (ps.drop i).map ownQ)), (4, v4), (16, v16)] := by
  intro m
  induction m with
  | zero =>
    intro i os H hm ho
    have hd : ps.drop i = [] := List.drop_eq_nil_of_le (by omega)
    rw [hd, List.map_nil, List.append_nil]
    refine L_round ?_
    cases os with
    | nil =>
      refine And.intro (fun h => ?_) (fun _ => ?_)
      · exfalso
        have h := dec_true (p := (i : Int) < ((ps.map Ls.av).length : Nat)) h
        rw [List.length_map] at h
        omega
      · exact And.intro rfl (And.intro rfl (And.intro (More.refl H) (And.intro rfl ⟨_, _, rfl⟩)))
    | cons o os =>
      refine And.intro (fun h => ?_) (fun _ => ?_)
      · exfalso
        have h := dec_true (p := (i : Int) < ((ps.map Ls.av).length : Nat)) h
        rw [List.length_map] at h
        omega
      · exact And.intro rfl (And.intro rfl (And.intro (More.refl H) (And.intro rfl ⟨_, _, rfl⟩)))
  | succ m ih =>
    intro i os H hm ho
    have hi : i < ps.length := by omega
    obtain ⟨q, hq⟩ : ∃ q, ps[i]? = some q := ⟨ps[i], List.getElem?_eq_getElem hi⟩
    have hd : ps.drop i = q :: ps.drop (i + 1) := by
      rw [List.drop_eq_getElem_cons hi]
      rw [List.getElem?_eq_getElem hi] at hq
      injection hq with hq
      rw [hq]
    have hqm := List.mem_of_getElem? hq
    have hqok := hok q hqm
    have hql := hl q hqm
    obtain ⟨E, hE⟩ := own_spec (Ls.rows hqok) hql H []
    have happ : os ++ (q :: ps.drop (i + 1)).map ownQ = (os ++ [ownA q.l]) ++ (ps.drop (i + 1)).map ownQ := by
      rw [List.map_cons, List.append_assoc]; rfl
    rw [hd, happ]
    have hnext : L Try.prog K0 (K0.vars 7) 64 c7a [(0, .lst 22 (ps.map Ls.av) sp), (3, built 22 (os ++ [ownA q.l])), (4, .int .i64 ((i + 1 : Nat) : Int))] (H ++ E) (ownd 3 (os ++ [ownA q.l])) []
      fun e env H' sl cl => cl = [] ∧ e = .exit 0 ∧ More H H' ∧ sl = ownd 3 ((os ++ [ownA q.l]) ++ (ps.drop (i + 1)).map ownQ) ∧ ∃ v4 v16, env = [(0, .lst 22 (ps.map Ls.av) sp), (3, built 22 ((os ++ [ownA q.l]) ++ (ps.drop (i + 1)).map ownQ)), (4, v4), (16, v16)] := by
      refine L_mono (ih (i + 1) (os ++ [ownA q.l]) (H ++ E) (by omega) (by rw [List.length_append]; exact Nat.succ_le_succ ho)) ?_
      rintro e env H' sl cl ⟨h1, h2, h3, h4⟩
      exact ⟨h1, h2, (More.app H E).trans h3, h4⟩
    obtain ⟨ql, qv⟩ := q
    refine L_round ?_
    cases qv with
    | none =>
      cases os with
      | nil =>
        refine And.intro (fun _ => ?_) (fun h => by
          exfalso
          have h := dec_false (p := (i : Int) < ((ps.map Ls.av).length : Nat)) h
          rw [List.length_map] at h
          omega)
        refine And.intro (Int.natCast_nonneg _) (Exists.intro _ (And.intro (get_ls hq) ?_))
        refine And.intro rfl (Exists.intro _ (Exists.intro _ (Exists.intro _ (And.intro hE ?_))))
        refine Exists.intro _ (And.intro rfl ?_)
        refine And.intro (Nat.le_of_ble_eq_true rfl) (And.intro (Nat.le_of_ble_eq_true rfl) (And.intro (Nat.le_of_ble_eq_true rfl) (And.intro rfl ?_)))
        refine Exists.intro (.int .i64 ((i + 1 : Nat) : Int)) (And.intro (i64_eq (by omega) (by omega) (by omega)) ?_)
        exact hnext
      | cons o os =>
        refine And.intro (fun _ => ?_) (fun h => by
          exfalso
          have h := dec_false (p := (i : Int) < ((ps.map Ls.av).length : Nat)) h
          rw [List.length_map] at h
          omega)
        refine And.intro (Int.natCast_nonneg _) (Exists.intro _ (And.intro (get_ls hq) ?_))
        refine And.intro rfl (Exists.intro _ (Exists.intro _ (Exists.intro _ (And.intro hE ?_))))
        refine Exists.intro _ (And.intro rfl ?_)
        refine And.intro rfl (And.intro rfl (And.intro (?_ : ((o :: os).length + 1) * 24 ≤ 140737488355328) (And.intro (?_ : (o :: os).length + 1 ≤ 140737488355328) (And.intro (Nat.le_of_ble_eq_true rfl) (And.intro rfl (Exists.intro ((o :: os) ++ [ownA ql]) (And.intro rfl ?_)))))))
        · omega
        · omega
        refine Exists.intro (.int .i64 ((i + 1 : Nat) : Int)) (And.intro (i64_eq (by omega) (by omega) (by omega)) ?_)
        exact hnext
    | some qs =>
      cases os with
      | nil =>
        refine And.intro (fun _ => ?_) (fun h => by
          exfalso
          have h := dec_false (p := (i : Int) < ((ps.map Ls.av).length : Nat)) h
          rw [List.length_map] at h
          omega)
        refine And.intro (Int.natCast_nonneg _) (Exists.intro _ (And.intro (get_ls hq) ?_))
        refine And.intro rfl (Exists.intro _ (Exists.intro _ (Exists.intro _ (And.intro hE ?_))))
        refine Exists.intro _ (And.intro rfl ?_)
        refine And.intro (Nat.le_of_ble_eq_true rfl) (And.intro (Nat.le_of_ble_eq_true rfl) (And.intro (Nat.le_of_ble_eq_true rfl) (And.intro rfl ?_)))
        refine Exists.intro (.int .i64 ((i + 1 : Nat) : Int)) (And.intro (i64_eq (by omega) (by omega) (by omega)) ?_)
        exact hnext
      | cons o os =>
        refine And.intro (fun _ => ?_) (fun h => by
          exfalso
          have h := dec_false (p := (i : Int) < ((ps.map Ls.av).length : Nat)) h
          rw [List.length_map] at h
          omega)
        refine And.intro (Int.natCast_nonneg _) (Exists.intro _ (And.intro (get_ls hq) ?_))
        refine And.intro rfl (Exists.intro _ (Exists.intro _ (Exists.intro _ (And.intro hE ?_))))
        refine Exists.intro _ (And.intro rfl ?_)
        refine And.intro rfl (And.intro rfl (And.intro (?_ : ((o :: os).length + 1) * 24 ≤ 140737488355328) (And.intro (?_ : (o :: os).length + 1 ≤ 140737488355328) (And.intro (Nat.le_of_ble_eq_true rfl) (And.intro rfl (Exists.intro ((o :: os) ++ [ownA ql]) (And.intro rfl ?_)))))))
        · omega
        · omega
        refine Exists.intro (.int .i64 ((i + 1 : Nat) : Int)) (And.intro (i64_eq (by omega) (by omega) (by omega)) ?_)
        exact hnext

noncomputable abbrev c7b : Code := at_ Try.f7 [true, true, true, true, true, true, false, true, false, false]
theorem kept_loop (ps : List Ls) (hok : ∀ q ∈ ps, q.ok) (hps : ps.length < 100000) (hl : ∀ q ∈ ps, q.l.length < 1048576) (sp : List AV) (a b : List Row) (v5 v7 : AV) (h5 : IsOut v5 a) (h7 : IsOut v7 b) (n6 n8 : Int) : ∀ (m i : Nat) (H : Hp), ps.length - i = m →
    L Try.prog K0 (K0.vars 7) 64 c7b [(0, .lst 22 (ps.map Ls.av) sp), (3, .lst 22 (ps.map ownQ) []), (5, v5), (6, .int .i64 n6), (7, v7), (8, .int .i64 n8), (9, .int .i64 (i : Int))] H [3] []
      fun e env H' sl cl => cl = [] ∧ e = .exit 2 ∧ More H H' ∧ sl = [3] ∧ ∃ v9 v40, env = [(0, .lst 22 (ps.map Ls.av) sp), (3, .lst 22 (ps.map ownQ) []), (5, v5), (6, .int .i64 n6), (7, v7), (8, .int .i64 n8), (9, v9), (40, v40)] := by
  intro m
  induction m with
  | zero =>
    intro i H hm
    refine L_round ?_
    rcases h5 with ⟨rfl, rfl⟩ | rfl <;> rcases h7 with ⟨rfl, rfl⟩ | rfl
    · refine And.intro (fun h => ?_) (fun _ => ?_)
      · exfalso
        have h := dec_true (p := (i : Int) < ((ps.map Ls.av).length : Nat)) h
        rw [List.length_map] at h
        omega
      · exact And.intro rfl (And.intro rfl (And.intro (More.refl H) (And.intro rfl ⟨_, _, rfl⟩)))
    · refine And.intro (fun h => ?_) (fun _ => ?_)
      · exfalso
        have h := dec_true (p := (i : Int) < ((ps.map Ls.av).length : Nat)) h
        rw [List.length_map] at h
        omega
      · exact And.intro rfl (And.intro rfl (And.intro (More.refl H) (And.intro rfl ⟨_, _, rfl⟩)))
    · refine And.intro (fun h => ?_) (fun _ => ?_)
      · exfalso
        have h := dec_true (p := (i : Int) < ((ps.map Ls.av).length : Nat)) h
        rw [List.length_map] at h
        omega
      · exact And.intro rfl (And.intro rfl (And.intro (More.refl H) (And.intro rfl ⟨_, _, rfl⟩)))
    · refine And.intro (fun h => ?_) (fun _ => ?_)
      · exfalso
        have h := dec_true (p := (i : Int) < ((ps.map Ls.av).length : Nat)) h
        rw [List.length_map] at h
        omega
      · exact And.intro rfl (And.intro rfl (And.intro (More.refl H) (And.intro rfl ⟨_, _, rfl⟩)))
  | succ m ih =>
    intro i H hm
    have hi : i < ps.length := by omega
    obtain ⟨q, hq⟩ : ∃ q, ps[i]? = some q := ⟨ps[i], List.getElem?_eq_getElem hi⟩
    have hqm := List.mem_of_getElem? hq
    have hqok := hok q hqm
    have hql := hl q hqm
    obtain ⟨E, hE⟩ := kept_spec (Ls.rows hqok) hql H []
    have hnext : L Try.prog K0 (K0.vars 7) 64 c7b [(0, .lst 22 (ps.map Ls.av) sp), (3, .lst 22 (ps.map ownQ) []), (5, v5), (6, .int .i64 n6), (7, v7), (8, .int .i64 n8), (9, .int .i64 ((i + 1 : Nat) : Int))] (H ++ E) [3] []
      fun e env H' sl cl => cl = [] ∧ e = .exit 2 ∧ More H H' ∧ sl = [3] ∧ ∃ v9 v40, env = [(0, .lst 22 (ps.map Ls.av) sp), (3, .lst 22 (ps.map ownQ) []), (5, v5), (6, .int .i64 n6), (7, v7), (8, .int .i64 n8), (9, v9), (40, v40)] := by
      refine L_mono (ih (i + 1) (H ++ E) (by omega)) ?_
      rintro e env H' sl cl ⟨h1, h2, h3, h4⟩
      exact ⟨h1, h2, (More.app H E).trans h3, h4⟩
    obtain ⟨ql, qv⟩ := q
    refine L_round ?_
    rcases h5 with ⟨rfl, rfl⟩ | rfl <;> rcases h7 with ⟨rfl, rfl⟩ | rfl <;> cases qv
    · refine And.intro (fun _ => ?_) (fun h => by
        exfalso
        have h := dec_false (p := (i : Int) < ((ps.map Ls.av).length : Nat)) h
        rw [List.length_map] at h
        omega)
      refine Exists.intro _ (And.intro rfl ?_)
      refine And.intro (Int.natCast_nonneg _) (Exists.intro _ (And.intro (get_own hq) ?_))
      refine And.intro (Int.natCast_nonneg _) (Exists.intro _ (And.intro (get_ls hq) ?_))
      refine And.intro rfl (Exists.intro _ (Exists.intro _ (Exists.intro _ (And.intro hE ?_))))
      refine And.intro (fun h => by cases h) (fun _ => ?_)
      refine Exists.intro (.int .i64 ((i + 1 : Nat) : Int)) (And.intro (i64_eq (by omega) (by omega) (by omega)) ?_)
      exact hnext
    · refine And.intro (fun _ => ?_) (fun h => by
        exfalso
        have h := dec_false (p := (i : Int) < ((ps.map Ls.av).length : Nat)) h
        rw [List.length_map] at h
        omega)
      refine Exists.intro _ (And.intro rfl ?_)
      refine And.intro (Int.natCast_nonneg _) (Exists.intro _ (And.intro (get_own hq) ?_))
      refine And.intro (Int.natCast_nonneg _) (Exists.intro _ (And.intro (get_ls hq) ?_))
      refine And.intro rfl (Exists.intro _ (Exists.intro _ (Exists.intro _ (And.intro hE ?_))))
      refine And.intro (fun h => by cases h) (fun _ => ?_)
      refine Exists.intro (.int .i64 ((i + 1 : Nat) : Int)) (And.intro (i64_eq (by omega) (by omega) (by omega)) ?_)
      exact hnext
    · refine And.intro (fun _ => ?_) (fun h => by
        exfalso
        have h := dec_false (p := (i : Int) < ((ps.map Ls.av).length : Nat)) h
        rw [List.length_map] at h
        omega)
      refine Exists.intro _ (And.intro rfl ?_)
      refine And.intro (Int.natCast_nonneg _) (Exists.intro _ (And.intro (get_own hq) ?_))
      refine And.intro (Int.natCast_nonneg _) (Exists.intro _ (And.intro (get_ls hq) ?_))
      refine And.intro rfl (Exists.intro _ (Exists.intro _ (Exists.intro _ (And.intro hE ?_))))
      refine And.intro (fun h => by cases h) (fun _ => ?_)
      refine Exists.intro (.int .i64 ((i + 1 : Nat) : Int)) (And.intro (i64_eq (by omega) (by omega) (by omega)) ?_)
      exact hnext
    · refine And.intro (fun _ => ?_) (fun h => by
        exfalso
        have h := dec_false (p := (i : Int) < ((ps.map Ls.av).length : Nat)) h
        rw [List.length_map] at h
        omega)
      refine Exists.intro _ (And.intro rfl ?_)
      refine And.intro (Int.natCast_nonneg _) (Exists.intro _ (And.intro (get_own hq) ?_))
      refine And.intro (Int.natCast_nonneg _) (Exists.intro _ (And.intro (get_ls hq) ?_))
      refine And.intro rfl (Exists.intro _ (Exists.intro _ (Exists.intro _ (And.intro hE ?_))))
      refine And.intro (fun h => by cases h) (fun _ => ?_)
      refine Exists.intro (.int .i64 ((i + 1 : Nat) : Int)) (And.intro (i64_eq (by omega) (by omega) (by omega)) ?_)
      exact hnext
    · refine And.intro (fun _ => ?_) (fun h => by
        exfalso
        have h := dec_false (p := (i : Int) < ((ps.map Ls.av).length : Nat)) h
        rw [List.length_map] at h
        omega)
      refine Exists.intro _ (And.intro rfl ?_)
      refine And.intro (Int.natCast_nonneg _) (Exists.intro _ (And.intro (get_own hq) ?_))
      refine And.intro (Int.natCast_nonneg _) (Exists.intro _ (And.intro (get_ls hq) ?_))
      refine And.intro rfl (Exists.intro _ (Exists.intro _ (Exists.intro _ (And.intro hE ?_))))
      refine And.intro (fun h => by cases h) (fun _ => ?_)
      refine Exists.intro (.int .i64 ((i + 1 : Nat) : Int)) (And.intro (i64_eq (by omega) (by omega) (by omega)) ?_)
      exact hnext
    · refine And.intro (fun _ => ?_) (fun h => by
        exfalso
        have h := dec_false (p := (i : Int) < ((ps.map Ls.av).length : Nat)) h
        rw [List.length_map] at h
        omega)
      refine Exists.intro _ (And.intro rfl ?_)
      refine And.intro (Int.natCast_nonneg _) (Exists.intro _ (And.intro (get_own hq) ?_))
      refine And.intro (Int.natCast_nonneg _) (Exists.intro _ (And.intro (get_ls hq) ?_))
      refine And.intro rfl (Exists.intro _ (Exists.intro _ (Exists.intro _ (And.intro hE ?_))))
      refine And.intro (fun h => by cases h) (fun _ => ?_)
      refine Exists.intro (.int .i64 ((i + 1 : Nat) : Int)) (And.intro (i64_eq (by omega) (by omega) (by omega)) ?_)
      exact hnext
    · refine And.intro (fun _ => ?_) (fun h => by
        exfalso
        have h := dec_false (p := (i : Int) < ((ps.map Ls.av).length : Nat)) h
        rw [List.length_map] at h
        omega)
      refine Exists.intro _ (And.intro rfl ?_)
      refine And.intro (Int.natCast_nonneg _) (Exists.intro _ (And.intro (get_own hq) ?_))
      refine And.intro (Int.natCast_nonneg _) (Exists.intro _ (And.intro (get_ls hq) ?_))
      refine And.intro rfl (Exists.intro _ (Exists.intro _ (Exists.intro _ (And.intro hE ?_))))
      refine And.intro (fun h => by cases h) (fun _ => ?_)
      refine Exists.intro (.int .i64 ((i + 1 : Nat) : Int)) (And.intro (i64_eq (by omega) (by omega) (by omega)) ?_)
      exact hnext
    · refine And.intro (fun _ => ?_) (fun h => by
        exfalso
        have h := dec_false (p := (i : Int) < ((ps.map Ls.av).length : Nat)) h
        rw [List.length_map] at h
        omega)
      refine Exists.intro _ (And.intro rfl ?_)
      refine And.intro (Int.natCast_nonneg _) (Exists.intro _ (And.intro (get_own hq) ?_))
      refine And.intro (Int.natCast_nonneg _) (Exists.intro _ (And.intro (get_ls hq) ?_))
      refine And.intro rfl (Exists.intro _ (Exists.intro _ (Exists.intro _ (And.intro hE ?_))))
      refine And.intro (fun h => by cases h) (fun _ => ?_)
      refine Exists.intro (.int .i64 ((i + 1 : Nat) : Int)) (And.intro (i64_eq (by omega) (by omega) (by omega)) ?_)
      exact hnext
end Go.Proofs.Ytnajopkaepjncaa

/- Any lists are made one as the document says, and stay as they were: the law's own function, whole. -/
namespace Go.Proofs.Ytnajopkaepjncaa
open Am
set_option linter.unusedVariables false
set_option maxRecDepth 8000

def InvI (ls : List (List Row)) (hs : List Hd) (out : List Row) : Prop := (∀ l ∈ ls, OrdA l) → MInv ls hs out
theorem keepsI (ls : List (List Row)) : Keeps (InvI ls) :=
  ⟨fun a r rs tl out ha hl h hls => (keeps_minv hls).step a r rs tl out ha hl (h hls), fun hs hs' out hp h hls => (keeps_minv hls).perm hs hs' out hp (h hls)⟩
/-- What Merge answers, told. -/
def madeR (ps : List Ls) (y : AV) : Prop := ((∃ q ∈ ps, orderP q.l = false) ∧ y = .tup [.nils, .int .i64 2]) ∨ ((∀ q ∈ ps, orderP q.l = true) ∧ ∃ out, Made1 (ps.map Ls.l) out ∧ y = .tup [built 39 (out.map Row.enc), .int .i64 0])
theorem ords_of {ps : List Ls} (h : ∀ q ∈ ps, orderP q.l = true) : ∀ l ∈ ps.map Ls.l, OrdA l := by
  intro l hl
  obtain ⟨q, hq, rfl⟩ := List.mem_map.1 hl
  exact ordA_of (h q hq)
theorem made_spec {x : AV} {ps : List Ls} (hx : IsLists x ps) (hok : ∀ q ∈ ps, q.ok) (hps : ps.length < 100000) (hl : ∀ q ∈ ps, q.l.length < 1048576) (ht : total ps < 1000000) : GivesE Try.prog K0 22 [x] (madeR ps) := by
  intro H
  obtain ⟨y, E, hy, hE⟩ := merge_spec (keepsI (ps.map Ls.l)) hx hok hps hl ht (fun _ _ => minv_start ps) H
  refine ⟨y, E, ?_, hE⟩
  rcases hy with hy | ⟨h1, out, h2, h3⟩
  · exact .inl hy
  · exact .inr ⟨h1, out, minv_end (ords_of h1) (h2 (ords_of h1)), h3⟩
theorem built_out (l : List Row) : IsOut (built 39 (l.map Row.enc)) l := by
  cases l with
  | nil => exact .inl ⟨rfl, rfl⟩
  | cons a r => exact .inr rfl
theorem out_isL {x : AV} {l : List Row} (h : IsOut x l) : IsL 39 x (l.map Row.enc) := by
  rcases h with ⟨rfl, rfl⟩ | rfl
  · exact .inl ⟨rfl, rfl⟩
  · exact .inr ⟨[], rfl⟩
theorem made_len {ps : List Ls} (h : ∀ q ∈ ps, orderP q.l = true) {out : List Row} (hm : Made1 (ps.map Ls.l) out) : out.length ≤ total ps := by
  have h1 := ref_made ps h
  rw [made_eq hm h1]
  have := foldl_len (rowsOf ps) []
  rw [rowsOf_len, List.length_nil] at this
  omega

theorem MergeAll_spec {x : AV} {ps : List Ls} (hx : IsLists x ps) (hok : ∀ q ∈ ps, q.ok) : GivesE Try.prog K0 7 [x] (fun y => y = .bool true) := by
  refine givesE_by Try.func7 rfl rfl rfl fun H => ?_
  obtain ⟨E1, hE1⟩ := many_spec hx hok H []
  cases hm : manyP ps with
  | true =>
    rw [hm] at hE1
    rcases hx with ⟨rfl, rfl⟩ | ⟨sp, rfl⟩
    · refine And.intro rfl (Exists.intro _ (Exists.intro _ (Exists.intro _ (And.intro hE1 ?_))))
      refine And.intro (fun _ => ?_) (fun h => by cases h)
      refine And.intro rfl (Exists.intro _ (Exists.intro _ (Exists.intro _ (And.intro (awake_spec _ []) ?_))))
      exact Exists.intro _ (And.intro rfl (And.intro rfl (And.intro (More.app H E1) rfl)))
    · refine And.intro rfl (Exists.intro _ (Exists.intro _ (Exists.intro _ (And.intro hE1 ?_))))
      refine And.intro (fun _ => ?_) (fun h => by cases h)
      refine And.intro rfl (Exists.intro _ (Exists.intro _ (Exists.intro _ (And.intro (awake_spec _ []) ?_))))
      exact Exists.intro _ (And.intro rfl (And.intro rfl (And.intro (More.app H E1) rfl)))
  | false =>
    rw [hm] at hE1
    obtain ⟨f1, f2, f3⟩ := few_of hm
    have hfl : ∀ q ∈ ps, q.l.length < 1048576 := fun q hq => by have := f2 q hq; omega
    have hol : ∀ q ∈ ps.map ownLs, q.l.length < 1048576 := fun q hq => by
      obtain ⟨r, hr, rfl⟩ := List.mem_map.1 hq
      have := f2 r hr
      show r.l.length < 1048576
      omega
    have hmerge := made_spec (own_lists ps) (own_ok ps) (by rw [List.length_map]; omega) hol (by rw [own_total]; omega)
    have href := ref_merge_spec hx hok (by omega) hfl (by omega)
    have hsame : ∀ (v5 v7 : AV) (a : List Row), IsOut v5 a → IsOut v7 a → a.length ≤ 1200 → Gv 19 [v5, v7] (.bool true) := fun v5 v7 a h5 h7 hl => same_spec19 (out_isL h5) (out_isL h7) (by omega)
    /- what the two answer -/
    have both : ∀ H2 : Hp, ∃ (v5 v7 : AV) (a : List Row) (n : Int) (E F : Hp), IsOut v5 a ∧ IsOut v7 a ∧ a.length ≤ 1200 ∧ CallsA Try.prog K0 22 [built 22 (ps.map ownQ)] H2 [] (.tup [v5, .int .i64 n]) (H2 ++ E) [] ∧ CallsA Try.prog K0 23 [x] (H2 ++ E) [] (.tup [v7, .int .i64 n]) ((H2 ++ E) ++ F) [] := by
      intro H2
      obtain ⟨y, E, hy, hE⟩ := hmerge H2
      obtain ⟨z, F, hz, hF⟩ := href (H2 ++ E)
      rcases hy with ⟨hb, rfl⟩ | ⟨hg, a, ha, rfl⟩
      · rcases hz with ⟨_, rfl⟩ | ⟨hg, _⟩
        · exact ⟨_, _, [], 2, E, F, .inl ⟨rfl, rfl⟩, .inl ⟨rfl, rfl⟩, Nat.zero_le _, hE, hF⟩
        · exfalso
          obtain ⟨q, hq, hqo⟩ := hb
          obtain ⟨r, hr, rfl⟩ := List.mem_map.1 hq
          have := hg r hr
          change orderP r.l = false at hqo
          rw [this] at hqo; cases hqo
      · rcases hz with ⟨⟨q, hq, hqo⟩, _⟩ | ⟨hg2, v7, hv7, rfl⟩
        · exfalso
          have := hg (ownLs q) (List.mem_map_of_mem hq)
          change orderP q.l = true at this
          rw [this] at hqo; cases hqo
        · rw [own_l] at ha
          have he := made_eq ha (ref_made ps hg2)
          have hl := made_len hg2 ha
          rw [← he] at hv7
          exact ⟨_, v7, a, 0, E, F, built_out a, hv7, by omega, hE, hF⟩
    cases hps : ps with
    | nil =>
      subst hps
      obtain ⟨v5, v7, a, n, E, F, h5, h7, hal, hE, hF⟩ := both (H ++ E1)
      obtain ⟨E4, hE4⟩ := hsame v5 v7 a h5 h7 hal (((H ++ E1) ++ E) ++ F) []
      have hmm : More H (((H ++ E1) ++ E) ++ F) := ((More.app H E1).trans (More.app _ E)).trans (More.app _ F)
      rcases hx with ⟨rfl, hx⟩ | ⟨sp, rfl⟩ <;> clear hmerge href both hsame hm
      · refine And.intro rfl (Exists.intro _ (Exists.intro _ (Exists.intro _ (And.intro hE1 ?_))))
        refine And.intro (fun h => by cases h) (fun _ => ?_)
        refine L_round ?_
        refine And.intro (fun h => by cases h) (fun _ => ?_)
        rcases h5 with ⟨rfl, rfl⟩ | rfl <;> rcases h7 with ⟨rfl, h7⟩ | rfl
        · refine And.intro rfl (Exists.intro _ (Exists.intro _ (Exists.intro _ (And.intro hE ?_))))
          refine And.intro rfl (Exists.intro _ (Exists.intro _ (Exists.intro _ (And.intro hF ?_))))
          refine L_round ?_
          refine And.intro (fun h => by cases h) (fun _ => ?_)
          refine And.intro rfl (Exists.intro _ (Exists.intro _ (Exists.intro _ (And.intro hE4 ?_))))
          refine And.intro (fun _ => ?_) (fun h => by cases h)
          refine And.intro (fun _ => ?_) (fun h => ?_)
          · refine And.intro rfl (Exists.intro _ (Exists.intro _ (Exists.intro _ (And.intro (awake_spec _ []) ?_))))
            exact Exists.intro _ (And.intro rfl (And.intro rfl (And.intro (hmm.trans (More.app _ _)) rfl)))
          · exfalso
            replace h : (n == n) = false := h
            rw [beq_self_eq_true] at h; cases h
        · refine And.intro rfl (Exists.intro _ (Exists.intro _ (Exists.intro _ (And.intro hE ?_))))
          refine And.intro rfl (Exists.intro _ (Exists.intro _ (Exists.intro _ (And.intro hF ?_))))
          refine L_round ?_
          refine And.intro (fun h => by cases h) (fun _ => ?_)
          refine And.intro rfl (Exists.intro _ (Exists.intro _ (Exists.intro _ (And.intro hE4 ?_))))
          refine And.intro (fun _ => ?_) (fun h => by cases h)
          refine And.intro (fun _ => ?_) (fun h => ?_)
          · refine And.intro rfl (Exists.intro _ (Exists.intro _ (Exists.intro _ (And.intro (awake_spec _ []) ?_))))
            exact Exists.intro _ (And.intro rfl (And.intro rfl (And.intro (hmm.trans (More.app _ _)) rfl)))
          · exfalso
            replace h : (n == n) = false := h
            rw [beq_self_eq_true] at h; cases h
        · refine And.intro rfl (Exists.intro _ (Exists.intro _ (Exists.intro _ (And.intro hE ?_))))
          refine And.intro rfl (Exists.intro _ (Exists.intro _ (Exists.intro _ (And.intro hF ?_))))
          refine L_round ?_
          refine And.intro (fun h => by cases h) (fun _ => ?_)
          refine And.intro rfl (Exists.intro _ (Exists.intro _ (Exists.intro _ (And.intro hE4 ?_))))
          refine And.intro (fun _ => ?_) (fun h => by cases h)
          refine And.intro (fun _ => ?_) (fun h => ?_)
          · refine And.intro rfl (Exists.intro _ (Exists.intro _ (Exists.intro _ (And.intro (awake_spec _ []) ?_))))
            exact Exists.intro _ (And.intro rfl (And.intro rfl (And.intro (hmm.trans (More.app _ _)) rfl)))
          · exfalso
            replace h : (n == n) = false := h
            rw [beq_self_eq_true] at h; cases h
        · refine And.intro rfl (Exists.intro _ (Exists.intro _ (Exists.intro _ (And.intro hE ?_))))
          refine And.intro rfl (Exists.intro _ (Exists.intro _ (Exists.intro _ (And.intro hF ?_))))
          refine L_round ?_
          refine And.intro (fun h => by cases h) (fun _ => ?_)
          refine And.intro rfl (Exists.intro _ (Exists.intro _ (Exists.intro _ (And.intro hE4 ?_))))
          refine And.intro (fun _ => ?_) (fun h => by cases h)
          refine And.intro (fun _ => ?_) (fun h => ?_)
          · refine And.intro rfl (Exists.intro _ (Exists.intro _ (Exists.intro _ (And.intro (awake_spec _ []) ?_))))
            exact Exists.intro _ (And.intro rfl (And.intro rfl (And.intro (hmm.trans (More.app _ _)) rfl)))
          · exfalso
            replace h : (n == n) = false := h
            rw [beq_self_eq_true] at h; cases h
      · refine And.intro rfl (Exists.intro _ (Exists.intro _ (Exists.intro _ (And.intro hE1 ?_))))
        refine And.intro (fun h => by cases h) (fun _ => ?_)
        refine L_round ?_
        refine And.intro (fun h => by cases h) (fun _ => ?_)
        rcases h5 with ⟨rfl, rfl⟩ | rfl <;> rcases h7 with ⟨rfl, h7⟩ | rfl
        · refine And.intro rfl (Exists.intro _ (Exists.intro _ (Exists.intro _ (And.intro hE ?_))))
          refine And.intro rfl (Exists.intro _ (Exists.intro _ (Exists.intro _ (And.intro hF ?_))))
          refine L_round ?_
          refine And.intro (fun h => by cases h) (fun _ => ?_)
          refine And.intro rfl (Exists.intro _ (Exists.intro _ (Exists.intro _ (And.intro hE4 ?_))))
          refine And.intro (fun _ => ?_) (fun h => by cases h)
          refine And.intro (fun _ => ?_) (fun h => ?_)
          · refine And.intro rfl (Exists.intro _ (Exists.intro _ (Exists.intro _ (And.intro (awake_spec _ []) ?_))))
            exact Exists.intro _ (And.intro rfl (And.intro rfl (And.intro (hmm.trans (More.app _ _)) rfl)))
          · exfalso
            replace h : (n == n) = false := h
            rw [beq_self_eq_true] at h; cases h
        · refine And.intro rfl (Exists.intro _ (Exists.intro _ (Exists.intro _ (And.intro hE ?_))))
          refine And.intro rfl (Exists.intro _ (Exists.intro _ (Exists.intro _ (And.intro hF ?_))))
          refine L_round ?_
          refine And.intro (fun h => by cases h) (fun _ => ?_)
          refine And.intro rfl (Exists.intro _ (Exists.intro _ (Exists.intro _ (And.intro hE4 ?_))))
          refine And.intro (fun _ => ?_) (fun h => by cases h)
          refine And.intro (fun _ => ?_) (fun h => ?_)
          · refine And.intro rfl (Exists.intro _ (Exists.intro _ (Exists.intro _ (And.intro (awake_spec _ []) ?_))))
            exact Exists.intro _ (And.intro rfl (And.intro rfl (And.intro (hmm.trans (More.app _ _)) rfl)))
          · exfalso
            replace h : (n == n) = false := h
            rw [beq_self_eq_true] at h; cases h
        · refine And.intro rfl (Exists.intro _ (Exists.intro _ (Exists.intro _ (And.intro hE ?_))))
          refine And.intro rfl (Exists.intro _ (Exists.intro _ (Exists.intro _ (And.intro hF ?_))))
          refine L_round ?_
          refine And.intro (fun h => by cases h) (fun _ => ?_)
          refine And.intro rfl (Exists.intro _ (Exists.intro _ (Exists.intro _ (And.intro hE4 ?_))))
          refine And.intro (fun _ => ?_) (fun h => by cases h)
          refine And.intro (fun _ => ?_) (fun h => ?_)
          · refine And.intro rfl (Exists.intro _ (Exists.intro _ (Exists.intro _ (And.intro (awake_spec _ []) ?_))))
            exact Exists.intro _ (And.intro rfl (And.intro rfl (And.intro (hmm.trans (More.app _ _)) rfl)))
          · exfalso
            replace h : (n == n) = false := h
            rw [beq_self_eq_true] at h; cases h
        · refine And.intro rfl (Exists.intro _ (Exists.intro _ (Exists.intro _ (And.intro hE ?_))))
          refine And.intro rfl (Exists.intro _ (Exists.intro _ (Exists.intro _ (And.intro hF ?_))))
          refine L_round ?_
          refine And.intro (fun h => by cases h) (fun _ => ?_)
          refine And.intro rfl (Exists.intro _ (Exists.intro _ (Exists.intro _ (And.intro hE4 ?_))))
          refine And.intro (fun _ => ?_) (fun h => by cases h)
          refine And.intro (fun _ => ?_) (fun h => ?_)
          · refine And.intro rfl (Exists.intro _ (Exists.intro _ (Exists.intro _ (And.intro (awake_spec _ []) ?_))))
            exact Exists.intro _ (And.intro rfl (And.intro rfl (And.intro (hmm.trans (More.app _ _)) rfl)))
          · exfalso
            replace h : (n == n) = false := h
            rw [beq_self_eq_true] at h; cases h
    | cons q0 qs0 =>
      have hne : ps.map ownQ = ownQ q0 :: qs0.map ownQ := by rw [hps]; rfl
      rcases hx with ⟨rfl, hx⟩ | ⟨sp, rfl⟩
      · rw [hps] at hx; cases hx
      · have hown := own_loop ps hok (by omega) hfl sp ps.length 0 [] (H ++ E1) rfl (Nat.le_refl _)
        rw [List.drop_zero, List.nil_append] at hown
        have hb : built 22 (ps.map ownQ) = .lst 22 (ps.map ownQ) [] := by rw [hne]; rfl
        have ho : ownd 3 (ps.map ownQ) = [3] := by rw [hne]; rfl
        rw [hb, ho] at hown
        rw [hb] at both
        refine And.intro rfl (Exists.intro _ (Exists.intro _ (Exists.intro _ (And.intro hE1 ?_))))
        refine And.intro (fun h => by cases h) (fun _ => ?_)
        refine L_mono hown ?_
        rintro e env H1 sl cl ⟨rfl, rfl, hm1, rfl, v4, v16, rfl⟩
        obtain ⟨v5, v7, a, n, E, F, h5, h7, hal, hE, hF⟩ := both H1
        have hk := kept_loop ps hok (by omega) hfl sp a a v5 v7 h5 h7 n n ps.length 0 ((H1 ++ E) ++ F) rfl
        have hs19 := hsame v5 v7 a h5 h7 hal
        have hmm : More H ((H1 ++ E) ++ F) := (((More.app H E1).trans hm1).trans (More.app _ E)).trans (More.app _ F)
        clear hmerge href both hsame hm
        rcases h5 with ⟨rfl, rfl⟩ | rfl <;> rcases h7 with ⟨rfl, h7⟩ | rfl
        · refine And.intro rfl (Exists.intro _ (Exists.intro _ (Exists.intro _ (And.intro hE ?_))))
          refine And.intro rfl (Exists.intro _ (Exists.intro _ (Exists.intro _ (And.intro hF ?_))))
          refine L_mono hk ?_
          rintro e env H3 sl cl ⟨rfl, rfl, hm3, rfl, v9, v40, rfl⟩
          obtain ⟨E4, hE4⟩ := hs19 H3 []
          refine And.intro rfl (Exists.intro _ (Exists.intro _ (Exists.intro _ (And.intro hE4 ?_))))
          refine And.intro (fun _ => ?_) (fun h => by cases h)
          refine And.intro (fun _ => ?_) (fun h => ?_)
          · refine And.intro rfl (Exists.intro _ (Exists.intro _ (Exists.intro _ (And.intro (awake_spec _ []) ?_))))
            exact Exists.intro _ (And.intro rfl (And.intro rfl (And.intro ((hmm.trans hm3).trans (More.app _ _)) rfl)))
          · exfalso
            replace h : (n == n) = false := h
            rw [beq_self_eq_true] at h; cases h
        · refine And.intro rfl (Exists.intro _ (Exists.intro _ (Exists.intro _ (And.intro hE ?_))))
          refine And.intro rfl (Exists.intro _ (Exists.intro _ (Exists.intro _ (And.intro hF ?_))))
          refine L_mono hk ?_
          rintro e env H3 sl cl ⟨rfl, rfl, hm3, rfl, v9, v40, rfl⟩
          obtain ⟨E4, hE4⟩ := hs19 H3 []
          refine And.intro rfl (Exists.intro _ (Exists.intro _ (Exists.intro _ (And.intro hE4 ?_))))
          refine And.intro (fun _ => ?_) (fun h => by cases h)
          refine And.intro (fun _ => ?_) (fun h => ?_)
          · refine And.intro rfl (Exists.intro _ (Exists.intro _ (Exists.intro _ (And.intro (awake_spec _ []) ?_))))
            exact Exists.intro _ (And.intro rfl (And.intro rfl (And.intro ((hmm.trans hm3).trans (More.app _ _)) rfl)))
          · exfalso
            replace h : (n == n) = false := h
            rw [beq_self_eq_true] at h; cases h
        · refine And.intro rfl (Exists.intro _ (Exists.intro _ (Exists.intro _ (And.intro hE ?_))))
          refine And.intro rfl (Exists.intro _ (Exists.intro _ (Exists.intro _ (And.intro hF ?_))))
          refine L_mono hk ?_
          rintro e env H3 sl cl ⟨rfl, rfl, hm3, rfl, v9, v40, rfl⟩
          obtain ⟨E4, hE4⟩ := hs19 H3 []
          refine And.intro rfl (Exists.intro _ (Exists.intro _ (Exists.intro _ (And.intro hE4 ?_))))
          refine And.intro (fun _ => ?_) (fun h => by cases h)
          refine And.intro (fun _ => ?_) (fun h => ?_)
          · refine And.intro rfl (Exists.intro _ (Exists.intro _ (Exists.intro _ (And.intro (awake_spec _ []) ?_))))
            exact Exists.intro _ (And.intro rfl (And.intro rfl (And.intro ((hmm.trans hm3).trans (More.app _ _)) rfl)))
          · exfalso
            replace h : (n == n) = false := h
            rw [beq_self_eq_true] at h; cases h
        · refine And.intro rfl (Exists.intro _ (Exists.intro _ (Exists.intro _ (And.intro hE ?_))))
          refine And.intro rfl (Exists.intro _ (Exists.intro _ (Exists.intro _ (And.intro hF ?_))))
          refine L_mono hk ?_
          rintro e env H3 sl cl ⟨rfl, rfl, hm3, rfl, v9, v40, rfl⟩
          obtain ⟨E4, hE4⟩ := hs19 H3 []
          refine And.intro rfl (Exists.intro _ (Exists.intro _ (Exists.intro _ (And.intro hE4 ?_))))
          refine And.intro (fun _ => ?_) (fun h => by cases h)
          refine And.intro (fun _ => ?_) (fun h => ?_)
          · refine And.intro rfl (Exists.intro _ (Exists.intro _ (Exists.intro _ (And.intro (awake_spec _ []) ?_))))
            exact Exists.intro _ (And.intro rfl (And.intro rfl (And.intro ((hmm.trans hm3).trans (More.app _ _)) rfl)))
          · exfalso
            replace h : (n == n) = false := h
            rw [beq_self_eq_true] at h; cases h
end Go.Proofs.Ytnajopkaepjncaa

/- What comes in, as the machine's values: rows, lists of rows, marks. -/
namespace Go.Proofs.Ytnajopkaepjncaa
open Am
set_option linter.unusedVariables false

abbrev rowTy : Ty := .pair .str (.pair (.int .u64) (.pair (.int .i64) (.pair .str .unit)))
abbrev rowsTy : Ty := .slice 39 true rowTy
abbrev marksTy : Ty := .slice 23 false (.int .u64)
abbrev listsTy : Ty := .slice 22 false rowsTy
theorem ty22 : tyOf Try.prog 5 22 = some rowsTy := by kernel_rfl
theorem ty33 : tyOf Try.prog 5 33 = some marksTy := by kernel_rfl
theorem ty42 : tyOf Try.prog 6 42 = some listsTy := by kernel_rfl
def toRow (d : rowTy.den) : Row := ⟨d.1.1, d.2.1.1, d.2.2.1.1, d.2.2.2.1.1⟩
theorem toRow_enc (d : rowTy.den) : elt true (rowTy.enc d) = (toRow d).enc := rfl
theorem rows_of (d : rowsTy.den) : ∃ l, IsRows ((rowsTy.enc d).headD .undef) l ∧ l.length ≤ maxLen := by
  cases d with
  | none => exact ⟨[], .inl ⟨rfl, rfl⟩, Nat.zero_le _⟩
  | some p =>
    refine ⟨p.1.1.map toRow, .inr ⟨p.1.2.map fun d => elt true (rowTy.enc d), ?_⟩, ?_⟩
    · show AV.lst 39 _ _ = AV.lst 39 _ _
      rw [List.map_map]; rfl
    · have := p.2
      rw [List.length_map]; omega
end Go.Proofs.Ytnajopkaepjncaa

/- What comes in: rows whose numbers are such; marks. -/
namespace Go.Proofs.Ytnajopkaepjncaa
open Am
set_option linter.unusedVariables false

theorem wf_u64 {n : Int} (h : (Lit.int .u64 n).wf = true) : 0 ≤ n ∧ n ≤ maxU := by
  have h1 : (decide (IntKind.u64.min ≤ n) && decide (n ≤ IntKind.u64.max)) = true := h
  have e1 : IntKind.u64.min = 0 := by decide
  have e2 : IntKind.u64.max = 18446744073709551615 := by decide
  rw [e1, e2] at h1
  simp only [Bool.and_eq_true, decide_eq_true_eq] at h1
  exact h1
theorem rows_seq (d : rowsTy.den) : ∃ l, IsRows ((rowsTy.enc d).headD .undef) l ∧ l.length ≤ maxLen ∧ SeqOk l := by
  cases d with
  | none => exact ⟨[], .inl ⟨rfl, rfl⟩, Nat.zero_le _, fun r h => by cases h⟩
  | some p =>
    refine ⟨p.1.1.map toRow, .inr ⟨p.1.2.map fun d => elt true (rowTy.enc d), ?_⟩, ?_, ?_⟩
    · show AV.lst 39 _ _ = AV.lst 39 _ _
      rw [List.map_map]; rfl
    · have := p.2
      rw [List.length_map]; omega
    · intro r hr
      obtain ⟨d, _, rfl⟩ := List.mem_map.1 hr
      exact (wf_u64 d.2.1.2).2
theorem marks_of (d : marksTy.den) : ∃ ms, IsMarks ((marksTy.enc d).headD .undef) ms ∧ ms.length ≤ maxLen := by
  cases d with
  | none => exact ⟨[], .inl ⟨rfl, rfl⟩, Nat.zero_le _⟩
  | some p =>
    refine ⟨p.1.1.map fun d => d.1, .inr ⟨p.1.2.map fun d => elt false ((Ty.int .u64).enc d), ?_⟩, ?_⟩
    · show AV.lst 23 _ _ = AV.lst 23 _ _
      rw [List.map_map]; rfl
    · have := p.2
      rw [List.length_map]; omega
end Go.Proofs.Ytnajopkaepjncaa

/- Making the first lists one first changes nothing: the plain law. -/
namespace Go.Proofs.Ytnajopkaepjncaa
open Am
set_option linter.unusedVariables false
set_option linter.unusedSimpArgs false

/-- Of any row of lists one that is like it is the first. -/
theorem first_has : ∀ (i : Nat) {ls : List (List Row)} {l : List Row} {r : Row}, ls[i]? = some l → r ∈ l → ∃ (j : Nat) (r' : Row) (l' : List Row), j ≤ i ∧ First ls r' ∧ like r' r ∧ ls[j]? = some l' ∧ r' ∈ l' := by
  intro i
  induction i using Nat.strongRecOn with
  | _ i ih =>
    intro ls l r hl hr
    by_cases h : ∃ (j : Nat) (l' : List Row), j < i ∧ ls[j]? = some l' ∧ ∃ x ∈ l', like x r
    · obtain ⟨j, l', hj, hl', x, hx, hxr⟩ := h
      obtain ⟨k, r', l2, hk, h1, h2, h3, h4⟩ := ih j hj hl' hx
      exact ⟨k, r', l2, by omega, h1, h2.trans hxr, h3, h4⟩
    · refine ⟨i, r, l, Nat.le_refl _, ⟨i, l, hl, hr, ?_⟩, ⟨rfl, rfl⟩, hl, hr⟩
      intro j l' hj hl' x hx hxr
      exact h ⟨j, l', hj, hl', x, hx, hxr⟩
theorem first_take {ls : List (List Row)} {n : Nat} {some_ : List Row} (hs : ∀ r, r ∈ some_ ↔ First (ls.take n) r) (hn : n ≤ ls.length) (r : Row) : First (some_ :: ls.drop n) r ↔ First ls r := by
  constructor
  · rintro ⟨i, l, h1, h2, h3⟩
    cases i with
    | zero =>
      rw [List.getElem?_cons_zero] at h1
      injection h1 with h1
      subst h1
      obtain ⟨j, l, k1, k2, k3⟩ := (hs r).1 h2
      have hj : j < n := by
        have := (List.getElem?_eq_some_iff.1 k1).1
        rw [List.length_take] at this; omega
      rw [List.getElem?_take, if_pos hj] at k1
      refine ⟨j, l, k1, k2, ?_⟩
      intro k l' hk hl' x hx
      exact k3 k l' hk (by rw [List.getElem?_take, if_pos (by omega)]; exact hl') x hx
    | succ i =>
      rw [List.getElem?_cons_succ, List.getElem?_drop] at h1
      refine ⟨n + i, l, h1, h2, ?_⟩
      intro k l' hk hl' x hx hxr
      by_cases hkn : k < n
      · obtain ⟨j, r', l2, _, g1, g2, _, _⟩ := first_has k (ls := ls.take n) (by rw [List.getElem?_take, if_pos hkn]; exact hl') hx
        exact h3 0 some_ (Nat.succ_pos _) (by rw [List.getElem?_cons_zero]) r' ((hs r').2 g1) (g2.trans hxr)
      · exact h3 (k - n + 1) l' (by omega) (by rw [List.getElem?_cons_succ, List.getElem?_drop]; rw [show n + (k - n) = k by omega]; exact hl') x hx hxr
  · rintro ⟨i, l, h1, h2, h3⟩
    by_cases hi : i < n
    · refine ⟨0, some_, List.getElem?_cons_zero, ?_, fun j l' hj => absurd hj (Nat.not_lt_zero _)⟩
      rw [hs]
      refine ⟨i, l, by rw [List.getElem?_take, if_pos hi]; exact h1, h2, ?_⟩
      intro j l' hj hl' x hx
      rw [List.getElem?_take, if_pos (by omega)] at hl'
      exact h3 j l' hj hl' x hx
    · refine ⟨i - n + 1, l, by rw [List.getElem?_cons_succ, List.getElem?_drop, show n + (i - n) = i by omega]; exact h1, h2, ?_⟩
      intro k l' hk hl' x hx hxr
      cases k with
      | zero =>
        rw [List.getElem?_cons_zero] at hl'
        injection hl' with hl'
        subst hl'
        obtain ⟨j, l2, k1, k2, _⟩ := (hs x).1 hx
        have hj : j < n := by
          have := (List.getElem?_eq_some_iff.1 k1).1
          rw [List.length_take] at this; omega
        rw [List.getElem?_take, if_pos hj] at k1
        exact h3 j l2 (by omega) k1 x k2 hxr
      | succ k =>
        rw [List.getElem?_cons_succ, List.getElem?_drop] at hl'
        exact h3 (n + k) l' (by omega) hl' x hx hxr
theorem made_take {ls : List (List Row)} {n : Nat} (hn : n ≤ ls.length) {a s b : List Row} (ha : Made1 ls a) (hs : Made1 (ls.take n) s) (hb : Made1 (s :: ls.drop n) b) : b = a :=
  made_eq (ls := ls) ⟨hb.1, fun r => (hb.2 r).trans (first_take hs.2 hn r)⟩ ha
/-- Rows that were made, as a list of them. -/
def outLs (l : List Row) : Ls := match l with
  | [] => ⟨[], none⟩
  | a :: r => ⟨a :: r, some []⟩
theorem outLs_l (l : List Row) : (outLs l).l = l := by cases l <;> rfl
theorem outLs_ok (l : List Row) : (outLs l).ok := by
  cases l with
  | nil => intro _; rfl
  | cons a r => intro h; cases h
theorem outLs_av (l : List Row) : (outLs l).av = built 39 (l.map Row.enc) := by cases l <;> rfl
end Go.Proofs.Ytnajopkaepjncaa
