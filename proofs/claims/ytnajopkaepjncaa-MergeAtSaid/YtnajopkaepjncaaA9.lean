/- What rows have at a number: the document's own. -/
import Derived.Test.YtnajopkaepjncaaA8
namespace Go.Proofs.Ytnajopkaepjncaa
open Am
set_option linter.unusedVariables false
set_option linter.unusedSimpArgs false

def refFrom (l : List Row) (n : Int) : Nat → Nat → List Pr → List Pr
  | 0, _, out => out
  | m + 1, i, out => match l[i]? with
    | some r => match seesP l i n && (r.kind == 1) with
      | true => refFrom l n m (i + 1) (out ++ [Pr.mk r.key r.val])
      | false => refFrom l n m (i + 1) out
    | none => out
noncomputable abbrev c14 : Code := at_ Try.f14 [true, true, true, false, true, false, false]
set_option maxRecDepth 8000 in
theorem ref_loop (l : List Row) (sp : List AV) (n : Int) (hl : l.length < 1048576) (cells : Cl) : ∀ (m i : Nat) (out : List Pr) (H : Hp), l.length - i = m → out.length ≤ i →
    L Try.prog K0 (K0.vars 14) 44 c14 [(0, .lst 39 (l.map Row.enc) sp), (1, .int .u64 n), (6, built 41 (out.map Pr.enc)), (7, .int .i64 (i : Int))] H (ownd 6 (out.map Pr.enc)) cells
      fun e env H' sl cl => More H H' ∧ cl = cells ∧ e = .exit 0 ∧ sl = ownd 6 ((refFrom l n m i out).map Pr.enc) ∧ ∃ v0 v1 v7 v14, env = [(0, v0), (1, v1), (6, built 41 ((refFrom l n m i out).map Pr.enc)), (7, v7), (14, v14)] := by
  intro m
  induction m with
  | zero =>
    intro i out H hn ho
    refine L_round ?_
    cases out with
    | nil =>
      refine And.intro (fun h => ?_) (fun h => ?_)
      · exfalso
        have h := dec_true (p := (i : Int) < ((l.map Row.enc).length : Nat)) h
        rw [List.length_map] at h
        omega
      · exact And.intro (More.refl H) (And.intro rfl (And.intro rfl (And.intro rfl ⟨_, _, _, _, rfl⟩)))
    | cons o os =>
      refine And.intro (fun h => ?_) (fun h => ?_)
      · exfalso
        have h := dec_true (p := (i : Int) < ((l.map Row.enc).length : Nat)) h
        rw [List.length_map] at h
        omega
      · exact And.intro (More.refl H) (And.intro rfl (And.intro rfl (And.intro rfl ⟨_, _, _, _, rfl⟩)))
  | succ m ih =>
    intro i out H hn ho
    have hi : i < l.length := by omega
    obtain ⟨r, hr⟩ : ∃ r, l[i]? = some r := ⟨l[i], List.getElem?_eq_getElem hi⟩
    obtain ⟨E, hE⟩ := sees2_spec l sp (by omega) hi n H cells
    have hstep : refFrom l n (m + 1) i out = (match seesP l i n && (r.kind == 1) with
      | true => refFrom l n m (i + 1) (out ++ [Pr.mk r.key r.val])
      | false => refFrom l n m (i + 1) out) := by
      simp only [refFrom, hr]
    have nxt : ∀ e env H' sl cl, (More (H ++ E) H' ∧ cl = cells ∧ e = Ex.exit 0 ∧ sl = ownd 6 ((refFrom l n (m + 1) i out).map Pr.enc) ∧ ∃ v0 v1 v7 v14, env = [(0, v0), (1, v1), (6, built 41 ((refFrom l n (m + 1) i out).map Pr.enc)), (7, v7), (14, v14)]) →
        (More H H' ∧ cl = cells ∧ e = Ex.exit 0 ∧ sl = ownd 6 ((refFrom l n (m + 1) i out).map Pr.enc) ∧ ∃ v0 v1 v7 v14, env = [(0, v0), (1, v1), (6, built 41 ((refFrom l n (m + 1) i out).map Pr.enc)), (7, v7), (14, v14)]) :=
      fun e env H' sl cl h => ⟨(More.app H E).trans h.1, h.2⟩
    refine L_round ?_
    cases hse : seesP l i n with
    | false =>
      rw [hse] at hE hstep
      simp only [Bool.false_and] at hstep
      cases out with
      | nil =>
        refine And.intro (fun h => ?_) (fun h => ?_)
        · clear h
          refine And.intro rfl (Exists.intro _ (Exists.intro _ (Exists.intro _ (And.intro hE ?_))))
          refine And.intro (fun h => by cases h) (fun h => ?_)
          refine And.intro (fun h => by cases h) (fun h => ?_)
          refine Exists.intro (.int .i64 ((i + 1 : Nat) : Int)) (And.intro (i64_eq (by omega) (by omega) (by omega)) ?_)
          refine L_mono (ih (i + 1) [] (H ++ E) (by omega) (by exact Nat.zero_le _)) ?_
          rw [← hstep]
          exact nxt
        · exfalso
          have h := dec_false (p := (i : Int) < ((l.map Row.enc).length : Nat)) h
          rw [List.length_map] at h
          omega
      | cons o os =>
        refine And.intro (fun h => ?_) (fun h => ?_)
        · clear h
          refine And.intro rfl (Exists.intro _ (Exists.intro _ (Exists.intro _ (And.intro hE ?_))))
          refine And.intro (fun h => by cases h) (fun h => ?_)
          refine And.intro (fun h => by cases h) (fun h => ?_)
          refine Exists.intro (.int .i64 ((i + 1 : Nat) : Int)) (And.intro (i64_eq (by omega) (by omega) (by omega)) ?_)
          refine L_mono (ih (i + 1) (o :: os) (H ++ E) (by omega) (by omega)) ?_
          rw [← hstep]
          exact nxt
        · exfalso
          have h := dec_false (p := (i : Int) < ((l.map Row.enc).length : Nat)) h
          rw [List.length_map] at h
          omega
    | true =>
      rw [hse] at hE hstep
      simp only [Bool.true_and] at hstep
      cases out with
      | nil =>
        refine And.intro (fun h => ?_) (fun h => ?_)
        · clear h
          refine And.intro rfl (Exists.intro _ (Exists.intro _ (Exists.intro _ (And.intro hE ?_))))
          refine And.intro (fun _ => ?_) (fun h => by cases h)
          refine And.intro (Int.natCast_nonneg _) (Exists.intro _ (And.intro (get_row hr) ?_))
          refine And.intro (fun h1 => ?_) (fun h1 => ?_)
          · replace h1 : (r.kind == 1) = true := h1
            rw [h1] at hstep
            simp only [List.nil_append] at hstep
            refine Exists.intro _ (And.intro rfl ?_)
            refine And.intro (Int.natCast_nonneg _) (Exists.intro _ (And.intro (get_row hr) ?_))
            refine And.intro (Int.natCast_nonneg _) (Exists.intro _ (And.intro (get_row hr) ?_))
            refine Exists.intro _ (And.intro rfl ?_)
            refine And.intro (Nat.le_of_ble_eq_true rfl) (And.intro (Nat.le_of_ble_eq_true rfl) (And.intro (Nat.le_of_ble_eq_true rfl) (And.intro rfl ?_)))
            refine Exists.intro (.int .i64 ((i + 1 : Nat) : Int)) (And.intro (i64_eq (by omega) (by omega) (by omega)) ?_)
            refine L_mono (ih (i + 1) [Pr.mk r.key r.val] (H ++ E) (by omega) (by simp only [List.length_append, List.length_cons, List.length_nil] at ho ⊢; omega)) ?_
            rw [← hstep]
            exact nxt
          · replace h1 : (r.kind == 1) = false := h1
            rw [h1] at hstep
            simp only at hstep
            refine Exists.intro (.int .i64 ((i + 1 : Nat) : Int)) (And.intro (i64_eq (by omega) (by omega) (by omega)) ?_)
            refine L_mono (ih (i + 1) [] (H ++ E) (by omega) (by exact Nat.zero_le _)) ?_
            rw [← hstep]
            exact nxt
        · exfalso
          have h := dec_false (p := (i : Int) < ((l.map Row.enc).length : Nat)) h
          rw [List.length_map] at h
          omega
      | cons o os =>
        refine And.intro (fun h => ?_) (fun h => ?_)
        · clear h
          refine And.intro rfl (Exists.intro _ (Exists.intro _ (Exists.intro _ (And.intro hE ?_))))
          refine And.intro (fun _ => ?_) (fun h => by cases h)
          refine And.intro (Int.natCast_nonneg _) (Exists.intro _ (And.intro (get_row hr) ?_))
          refine And.intro (fun h1 => ?_) (fun h1 => ?_)
          · replace h1 : (r.kind == 1) = true := h1
            rw [h1] at hstep
            simp only [List.nil_append] at hstep
            refine Exists.intro _ (And.intro rfl ?_)
            refine And.intro (Int.natCast_nonneg _) (Exists.intro _ (And.intro (get_row hr) ?_))
            refine And.intro (Int.natCast_nonneg _) (Exists.intro _ (And.intro (get_row hr) ?_))
            refine Exists.intro _ (And.intro rfl ?_)
            refine And.intro rfl (And.intro rfl (And.intro (?_ : (((o :: os).map Pr.enc).length + 1) * 32 ≤ 140737488355328) (And.intro (?_ : ((o :: os).map Pr.enc).length + 1 ≤ 140737488355328) (And.intro (Nat.le_of_ble_eq_true rfl) (And.intro rfl (Exists.intro (((o :: os) ++ [Pr.mk r.key r.val]).map Pr.enc) (And.intro (by rw [List.map_append]; rfl) ?_)))))))
            · rw [List.length_map]; omega
            · rw [List.length_map]; omega
            refine Exists.intro (.int .i64 ((i + 1 : Nat) : Int)) (And.intro (i64_eq (by omega) (by omega) (by omega)) ?_)
            refine L_mono (ih (i + 1) ((o :: os) ++ [Pr.mk r.key r.val]) (H ++ E) (by omega) (by simp only [List.length_append, List.length_cons, List.length_nil] at ho ⊢; omega)) ?_
            rw [← hstep]
            exact nxt
          · replace h1 : (r.kind == 1) = false := h1
            rw [h1] at hstep
            simp only at hstep
            refine Exists.intro (.int .i64 ((i + 1 : Nat) : Int)) (And.intro (i64_eq (by omega) (by omega) (by omega)) ?_)
            refine L_mono (ih (i + 1) (o :: os) (H ++ E) (by omega) (by omega)) ?_
            rw [← hstep]
            exact nxt
        · exfalso
          have h := dec_false (p := (i : Int) < ((l.map Row.enc).length : Nat)) h
          rw [List.length_map] at h
          omega

def refA (l : List Row) (n : Int) : AV := match orderP l with
  | true => .tup [built 41 ((refFrom l n l.length 0 []).map Pr.enc), .int .i64 0]
  | false => .tup [.nils, .int .i64 2]
set_option maxRecDepth 8000 in
theorem ref_at_spec {x : AV} {l : List Row} (hx : IsRows x l) (hl : l.length < 1048576) (n : Int) : Gv 14 [x, .int .u64 n] (refA l n) := by
  refine GivesR.one (gives_by Try.func14 rfl rfl rfl fun H cells => ?_)
  obtain ⟨E, hE⟩ := order2_spec hx (by omega) H cells
  have hm := More.app H E
  rcases hx with ⟨rfl, rfl⟩ | ⟨sp, rfl⟩
  · refine And.intro rfl (Exists.intro _ (Exists.intro _ (Exists.intro _ (And.intro hE ?_))))
    have ho : orderP [] = true := rfl
    have ha : refA [] n = .tup [.nils, .int .i64 0] := rfl
    rw [ho, ha]
    refine And.intro (fun h => by cases h) (fun _ => ?_)
    refine L_round ?_
    refine And.intro (fun h => by cases h) (fun h => ?_)
    exact Exists.intro _ (And.intro rfl (And.intro rfl (And.intro hm rfl)))
  · refine And.intro rfl (Exists.intro _ (Exists.intro _ (Exists.intro _ (And.intro hE ?_))))
    cases ho : orderP l with
    | false =>
      have ha : refA l n = .tup [.nils, .int .i64 2] := by unfold refA; rw [ho]
      rw [ha]
      refine And.intro (fun _ => ?_) (fun h => by cases h)
      exact Exists.intro _ (And.intro rfl (And.intro rfl (And.intro hm rfl)))
    | true =>
      have ha : refA l n = .tup [built 41 ((refFrom l n l.length 0 []).map Pr.enc), .int .i64 0] := by unfold refA; rw [ho]
      rw [ha]
      refine And.intro (fun h => by cases h) (fun _ => ?_)
      refine L_mono (ref_loop l sp n hl cells l.length 0 [] (H ++ E) rfl (Nat.le_refl _)) ?_
      rintro e env H' sl cl ⟨h3, rfl, rfl, rfl, v0, v1, v7, v14, rfl⟩
      cases hq : refFrom l n l.length 0 [] with
      | nil => exact Exists.intro _ (And.intro rfl (And.intro rfl (And.intro (hm.trans h3) rfl)))
      | cons o os => exact Exists.intro _ (And.intro rfl (And.intro rfl (And.intro (hm.trans h3) rfl)))
end Go.Proofs.Ytnajopkaepjncaa
