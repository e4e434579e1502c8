/- What rows have at a number. -/
import Derived.Test.YtnajopkaepjncaaA4
namespace Go.Proofs.Ytnajopkaepjncaa
open Am
set_option linter.unusedVariables false

theorem find_cases (p : Row → Bool) (l : List Row) : ∀ (n k : Nat), findAt p l n k = -1 ∨ ∃ (j : Nat) (r : Row), findAt p l n k = (j : Int) ∧ l[j]? = some r := by
  intro n
  induction n with
  | zero => intro k; exact .inl rfl
  | succ n ih =>
    intro k
    simp only [findAt]
    cases h : l[k]? with
    | none => exact .inl rfl
    | some r =>
      simp only
      cases hp : p r with
      | true => exact .inr ⟨k, r, rfl, h⟩
      | false => exact ih (k + 1)
structure Pr where
  key : List UInt8
  val : List UInt8
def Pr.enc (p : Pr) : AV := .agg [.str p.key, .str p.val]
/-- What a key's rows have at a number. -/
def pickP (run : List Row) (n : Int) : Option Pr :=
  match decide (seenP run n ≥ 0), run[(seenP run n).toNat]? with
  | true, some r => match r.kind == 1 with
    | true => some ⟨r.key, r.val⟩
    | false => none
  | _, _ => none
def atFrom (rs : List (List Row)) (n : Int) : Nat → Nat → List Pr → List Pr
  | 0, _, out => out
  | m + 1, k, out => match rs[k]? with
    | some run => match pickP run n with
      | some p => atFrom rs n m (k + 1) (out ++ [p])
      | none => atFrom rs n m (k + 1) out
    | none => out
theorem get_run {rs : List (List Row)} {k : Nat} {r : List Row} (h : rs[k]? = some r) : (rs.map encRun)[k]? = some (encRun r) := by rw [List.getElem?_map, h]; rfl

noncomputable abbrev c13 : Code := at_ Try.f13 [true, true, true, false, true, false, false]
set_option maxRecDepth 8000 in
theorem at_loop (r0 : List Row) (rest : List (List Row)) (n : Int) (hrs : (r0 :: rest).length < 1048576) (hrl : ∀ run ∈ r0 :: rest, run.length < 1048576) (cells : Cl) : ∀ (m k : Nat) (out : List Pr) (H : Hp), (r0 :: rest).length - k = m → out.length ≤ k →
    L Try.prog K0 (K0.vars 13) 49 c13 [(1, .int .u64 n), (6, built 41 (out.map Pr.enc)), (14, .lst 22 ((r0 :: rest).map encRun) []), (15, .int .i64 (((r0 :: rest).map encRun).length : Nat)), (16, .int .i64 (k : Int))] H (ownd 6 (out.map Pr.enc)) cells
      fun e env H' sl cl => More H H' ∧ cl = cells ∧ e = .exit 0 ∧ sl = ownd 6 ((atFrom (r0 :: rest) n m k out).map Pr.enc) ∧ ∃ v1 v14 v15 v16 v17, env = [(1, v1), (6, built 41 ((atFrom (r0 :: rest) n m k out).map Pr.enc)), (14, v14), (15, v15), (16, v16), (17, v17)] := by
  intro m
  induction m with
  | zero =>
    intro k out H hn ho
    refine L_round ?_
    cases out with
    | nil =>
      refine And.intro (fun h => ?_) (fun h => ?_)
      · exfalso
        have h := dec_true (p := (k : Int) < (((r0 :: rest).map encRun).length : Nat)) h
        rw [List.length_map] at h
        omega
      · exact And.intro (More.refl H) (And.intro rfl (And.intro rfl (And.intro rfl ⟨_, _, _, _, _, rfl⟩)))
    | cons o os =>
      refine And.intro (fun h => ?_) (fun h => ?_)
      · exfalso
        have h := dec_true (p := (k : Int) < (((r0 :: rest).map encRun).length : Nat)) h
        rw [List.length_map] at h
        omega
      · exact And.intro (More.refl H) (And.intro rfl (And.intro rfl (And.intro rfl ⟨_, _, _, _, _, rfl⟩)))
  | succ m ih =>
    intro k out H hn ho
    have hk : k < (r0 :: rest).length := by omega
    obtain ⟨run, hrun⟩ : ∃ run, (r0 :: rest)[k]? = some run := ⟨(r0 :: rest)[k], List.getElem?_eq_getElem hk⟩
    have hlen : run.length < 1048576 := hrl run (List.mem_of_getElem? hrun)
    have hstep : atFrom (r0 :: rest) n (m + 1) k out = (match pickP run n with
      | some p => atFrom (r0 :: rest) n m (k + 1) (out ++ [p])
      | none => atFrom (r0 :: rest) n m (k + 1) out) := by
      simp only [atFrom, hrun]
    obtain ⟨E, hE⟩ := seen_spec (x := encRun run) (l := run) (.inr ⟨[], rfl⟩) (by omega) n H cells
    have nxt : ∀ e env H' sl cl, (More (H ++ E) H' ∧ cl = cells ∧ e = Ex.exit 0 ∧ sl = ownd 6 ((atFrom (r0 :: rest) n (m + 1) k out).map Pr.enc) ∧ ∃ v1 v14 v15 v16 v17, env = [(1, v1), (6, built 41 ((atFrom (r0 :: rest) n (m + 1) k out).map Pr.enc)), (14, v14), (15, v15), (16, v16), (17, v17)]) →
        (More H H' ∧ cl = cells ∧ e = Ex.exit 0 ∧ sl = ownd 6 ((atFrom (r0 :: rest) n (m + 1) k out).map Pr.enc) ∧ ∃ v1 v14 v15 v16 v17, env = [(1, v1), (6, built 41 ((atFrom (r0 :: rest) n (m + 1) k out).map Pr.enc)), (14, v14), (15, v15), (16, v16), (17, v17)]) :=
      fun e env H' sl cl h => ⟨(More.app H E).trans h.1, h.2⟩
    refine L_round ?_
    rcases find_cases (fun r => decide (r.seq ≤ n)) run run.length 0 with hs | ⟨j, r, hs, hr⟩
    · have hs : seenP run n = -1 := hs
      have hp : pickP run n = none := by
        unfold pickP
        rw [hs]
        rfl
      rw [hp] at hstep
      simp only at hstep
      rw [hs] at hE
      cases out with
      | nil =>
        refine And.intro (fun h => ?_) (fun h => ?_)
        · clear h
          refine And.intro (Int.natCast_nonneg _) (Exists.intro _ (And.intro (get_run hrun) ?_))
          refine And.intro rfl (Exists.intro _ (Exists.intro _ (Exists.intro _ (And.intro hE ?_))))
          refine And.intro (fun h => by cases h) (fun h => ?_)
          refine And.intro (fun h => by cases h) (fun h => ?_)
          refine Exists.intro (.int .i64 ((k + 1 : Nat) : Int)) (And.intro (i64_eq (by omega) (by omega) (by omega)) ?_)
          refine L_mono (ih (k + 1) [] (H ++ E) (by omega) (by exact Nat.zero_le _)) ?_
          rw [← hstep]
          exact nxt
        · exfalso
          have h := dec_false (p := (k : Int) < (((r0 :: rest).map encRun).length : Nat)) h
          rw [List.length_map] at h
          omega
      | cons o os =>
        refine And.intro (fun h => ?_) (fun h => ?_)
        · clear h
          refine And.intro (Int.natCast_nonneg _) (Exists.intro _ (And.intro (get_run hrun) ?_))
          refine And.intro rfl (Exists.intro _ (Exists.intro _ (Exists.intro _ (And.intro hE ?_))))
          refine And.intro (fun h => by cases h) (fun h => ?_)
          refine And.intro (fun h => by cases h) (fun h => ?_)
          refine Exists.intro (.int .i64 ((k + 1 : Nat) : Int)) (And.intro (i64_eq (by omega) (by omega) (by omega)) ?_)
          refine L_mono (ih (k + 1) (o :: os) (H ++ E) (by omega) (by omega)) ?_
          rw [← hstep]
          exact nxt
        · exfalso
          have h := dec_false (p := (k : Int) < (((r0 :: rest).map encRun).length : Nat)) h
          rw [List.length_map] at h
          omega
    · have hs : seenP run n = (j : Int) := hs
      have hp : pickP run n = (match r.kind == 1 with | true => some ⟨r.key, r.val⟩ | false => none) := by
        unfold pickP
        rw [hs]
        have : decide ((j : Int) ≥ 0) = true := by simp
        rw [this]
        simp only [Int.toNat_natCast, hr]
      rw [hs] at hE
      cases out with
      | nil =>
        refine And.intro (fun h => ?_) (fun h => ?_)
        · clear h
          refine And.intro (Int.natCast_nonneg _) (Exists.intro _ (And.intro (get_run hrun) ?_))
          refine And.intro rfl (Exists.intro _ (Exists.intro _ (Exists.intro _ (And.intro hE ?_))))
          refine And.intro (fun _ => ?_) (fun h => ?_)
          · refine And.intro (Int.natCast_nonneg _) (Exists.intro _ (And.intro (get_row hr) ?_))
            refine And.intro (fun h1 => ?_) (fun h1 => ?_)
            · replace h1 : (r.kind == 1) = true := h1
              rw [hp, h1] at hstep
              simp only [List.nil_append] at hstep
              refine Exists.intro _ (And.intro rfl ?_)
              refine And.intro (Int.natCast_nonneg _) (Exists.intro _ (And.intro (get_row hr) ?_))
              refine And.intro (Int.natCast_nonneg _) (Exists.intro _ (And.intro (get_row hr) ?_))
              refine Exists.intro _ (And.intro rfl ?_)
              refine And.intro (Nat.le_of_ble_eq_true rfl) (And.intro (Nat.le_of_ble_eq_true rfl) (And.intro (Nat.le_of_ble_eq_true rfl) (And.intro rfl ?_)))
              refine Exists.intro (.int .i64 ((k + 1 : Nat) : Int)) (And.intro (i64_eq (by omega) (by omega) (by omega)) ?_)
              refine L_mono (ih (k + 1) [Pr.mk r.key r.val] (H ++ E) (by omega) (by simp only [List.length_append, List.length_cons, List.length_nil] at ho ⊢; omega)) ?_
              rw [← hstep]
              exact nxt
            · replace h1 : (r.kind == 1) = false := h1
              rw [hp, h1] at hstep
              simp only [List.nil_append] at hstep
              refine Exists.intro (.int .i64 ((k + 1 : Nat) : Int)) (And.intro (i64_eq (by omega) (by omega) (by omega)) ?_)
              refine L_mono (ih (k + 1) [] (H ++ E) (by omega) (by exact Nat.zero_le _)) ?_
              rw [← hstep]
              exact nxt
          · exfalso
            have h := dec_false (p := (j : Int) ≥ 0) h
            omega
        · exfalso
          have h := dec_false (p := (k : Int) < (((r0 :: rest).map encRun).length : Nat)) h
          rw [List.length_map] at h
          omega
      | cons o os =>
        refine And.intro (fun h => ?_) (fun h => ?_)
        · clear h
          refine And.intro (Int.natCast_nonneg _) (Exists.intro _ (And.intro (get_run hrun) ?_))
          refine And.intro rfl (Exists.intro _ (Exists.intro _ (Exists.intro _ (And.intro hE ?_))))
          refine And.intro (fun _ => ?_) (fun h => ?_)
          · refine And.intro (Int.natCast_nonneg _) (Exists.intro _ (And.intro (get_row hr) ?_))
            refine And.intro (fun h1 => ?_) (fun h1 => ?_)
            · replace h1 : (r.kind == 1) = true := h1
              rw [hp, h1] at hstep
              simp only [List.nil_append] at hstep
              refine Exists.intro _ (And.intro rfl ?_)
              refine And.intro (Int.natCast_nonneg _) (Exists.intro _ (And.intro (get_row hr) ?_))
              refine And.intro (Int.natCast_nonneg _) (Exists.intro _ (And.intro (get_row hr) ?_))
              refine Exists.intro _ (And.intro rfl ?_)
              refine And.intro rfl (And.intro rfl (And.intro (?_ : (((o :: os).map Pr.enc).length + 1) * 32 ≤ 140737488355328) (And.intro (?_ : ((o :: os).map Pr.enc).length + 1 ≤ 140737488355328) (And.intro (Nat.le_of_ble_eq_true rfl) (And.intro rfl (Exists.intro (((o :: os) ++ [Pr.mk r.key r.val]).map Pr.enc) (And.intro (by rw [List.map_append]; rfl) ?_)))))))
              · rw [List.length_map]; omega
              · rw [List.length_map]; omega
              refine Exists.intro (.int .i64 ((k + 1 : Nat) : Int)) (And.intro (i64_eq (by omega) (by omega) (by omega)) ?_)
              refine L_mono (ih (k + 1) ((o :: os) ++ [Pr.mk r.key r.val]) (H ++ E) (by omega) (by simp only [List.length_append, List.length_cons, List.length_nil] at ho ⊢; omega)) ?_
              rw [← hstep]
              exact nxt
            · replace h1 : (r.kind == 1) = false := h1
              rw [hp, h1] at hstep
              simp only [List.nil_append] at hstep
              refine Exists.intro (.int .i64 ((k + 1 : Nat) : Int)) (And.intro (i64_eq (by omega) (by omega) (by omega)) ?_)
              refine L_mono (ih (k + 1) (o :: os) (H ++ E) (by omega) (by omega)) ?_
              rw [← hstep]
              exact nxt
          · exfalso
            have h := dec_false (p := (j : Int) ≥ 0) h
            omega
        · exfalso
          have h := dec_false (p := (k : Int) < (((r0 :: rest).map encRun).length : Nat)) h
          rw [List.length_map] at h
          omega
end Go.Proofs.Ytnajopkaepjncaa
