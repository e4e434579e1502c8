/- A copy with a mark behind it; is it as it was? -/
import Derived.Test.YtnajopkaepjncaaA10
namespace Go.Proofs.Ytnajopkaepjncaa
open Am
set_option linter.unusedVariables false
set_option maxRecDepth 8000

def markR : Row := ⟨[], 0, 77, []⟩
def ownA (l : List Row) : AV := .lst 39 (l.map Row.enc) [markR.enc]
theorem own_rows (l : List Row) : IsRows (ownA l) l := .inr ⟨_, rfl⟩
theorem rows_isL {x : AV} {l : List Row} (h : IsRows x l) : IsL 39 x (l.map Row.enc) := by
  rcases h with ⟨rfl, rfl⟩ | ⟨sp, rfl⟩
  · exact .inl ⟨rfl, rfl⟩
  · exact .inr ⟨sp, rfl⟩
theorem cut_own (xs : List AV) (m : AV) {n : Int} (hn : n = (xs.length : Int)) : sliceA Try.prog 22 (.lst 39 (xs ++ [m]) []) none (some (.int .i64 n)) none = some (.lst 39 xs [m]) := by
  subst hn
  have hu : Try.prog.underlying 22 = some (.slice 39) := Try.underlying22
  unfold sliceA
  rw [hu]
  have b2 : boundA (some (.int .i64 (xs.length : Int))) (xs ++ [m]).length ((xs ++ [m]).length + ([] : List AV).length) = some xs.length := by
    unfold boundA
    simp only [List.length_append, List.length_cons, List.length_nil]
    rw [if_pos (by omega)]; simp
  simp only [boundA, Option.isSome_none, Bool.false_and, Bool.false_eq_true, if_false]
  simp only [boundA] at b2
  rw [b2]
  have h1 : (xs ++ [m]).take (xs.length + 1) = xs ++ [m] := List.take_of_length_le (by simp)
  simp [h1]
theorem cut_more (xs : List AV) (m : AV) {n : Int} (hn : n = ((xs.length + 1 : Nat) : Int)) : sliceA Try.prog 22 (.lst 39 xs [m]) none (some (.int .i64 n)) none = some (.lst 39 (xs ++ [m]) []) := by
  subst hn
  have hu : Try.prog.underlying 22 = some (.slice 39) := Try.underlying22
  unfold sliceA
  rw [hu]
  have b2 : boundA (some (.int .i64 ((xs.length + 1 : Nat) : Int))) xs.length (xs.length + [m].length) = some (xs.length + 1) := by
    unfold boundA
    simp only [List.length_cons, List.length_nil]
    rw [if_pos (by omega)]; simp
  simp only [boundA, Option.isSome_none, Bool.false_and, Bool.false_eq_true, if_false]
  simp only [boundA] at b2
  rw [b2]
  have h1 : (xs ++ [m]).take (xs.length + 1) = xs ++ [m] := List.take_of_length_le (by simp)
  simp [h1]

theorem own_spec {x : AV} {l : List Row} (hx : IsRows x l) (hl : l.length < 1048576) : Gv 12 [x] (ownA l) := by
  refine GivesR.one (gives_by Try.func12 rfl rfl rfl fun H cells => ?_)
  rcases hx with ⟨rfl, rfl⟩ | ⟨sp, rfl⟩
  · refine Exists.intro _ (And.intro rfl ?_)
    refine And.intro rfl (And.intro rfl (And.intro (Nat.le_of_ble_eq_true rfl) (And.intro (Nat.le_of_ble_eq_true rfl) (And.intro (Nat.le_of_ble_eq_true rfl) (And.intro rfl (Exists.intro (([] : List Row).map Row.enc) (And.intro rfl ?_)))))))
    refine Exists.intro _ (And.intro rfl ?_)
    refine And.intro rfl (And.intro rfl (And.intro (Nat.le_of_ble_eq_true rfl) (And.intro (Nat.le_of_ble_eq_true rfl) (And.intro (Nat.le_of_ble_eq_true rfl) (And.intro rfl (Exists.intro (([] : List Row).map Row.enc ++ [markR.enc]) (And.intro rfl ?_)))))))
    refine Exists.intro _ (And.intro (cut_own _ _ rfl) ?_)
    exact Exists.intro _ (And.intro rfl (And.intro rfl (And.intro (More.refl H) rfl)))
  · refine Exists.intro _ (And.intro rfl ?_)
    refine And.intro rfl (And.intro rfl (And.intro (?_ : (0 + (l.map Row.enc).length) * 48 ≤ 140737488355328) (And.intro (?_ : 0 + (l.map Row.enc).length ≤ 140737488355328) (And.intro (Nat.le_of_ble_eq_true rfl) (And.intro rfl (Exists.intro (l.map Row.enc) (And.intro rfl ?_)))))))
    · rw [List.length_map]; omega
    · rw [List.length_map]; omega
    refine Exists.intro _ (And.intro rfl ?_)
    refine And.intro rfl (And.intro rfl (And.intro (?_ : ((l.map Row.enc).length + 1) * 48 ≤ 140737488355328) (And.intro (?_ : (l.map Row.enc).length + 1 ≤ 140737488355328) (And.intro (Nat.le_of_ble_eq_true rfl) (And.intro rfl (Exists.intro (l.map Row.enc ++ [markR.enc]) (And.intro rfl ?_)))))))
    · rw [List.length_map]; omega
    · rw [List.length_map]; omega
    refine Exists.intro _ (And.intro (cut_own _ _ rfl) ?_)
    exact Exists.intro _ (And.intro rfl (And.intro rfl (And.intro (More.refl H) rfl)))

theorem kept_spec {y : AV} {l : List Row} (hy : IsRows y l) (hl : l.length < 1048576) : Gv 16 [ownA l, y] (.bool true) := by
  refine GivesR.one (gives_by Try.func16 rfl rfl rfl fun H cells => ?_)
  obtain ⟨E, hE⟩ := same_spec19 (rows_isL (own_rows l)) (rows_isL hy) (by omega) H cells
  rcases hy with ⟨rfl, rfl⟩ | ⟨sp, rfl⟩
  · refine And.intro rfl (Exists.intro _ (Exists.intro _ (Exists.intro _ (And.intro hE ?_))))
    refine And.intro (fun _ => ?_) (fun h => by cases h)
    refine Exists.intro (.int .i64 ((0 + 1 : Nat) : Int)) (And.intro (i64_eq (by omega) (by omega) (by omega)) ?_)
    refine Exists.intro _ (And.intro (cut_more [] markR.enc rfl) ?_)
    refine And.intro (Int.le_refl _) (Exists.intro markR.enc (And.intro rfl ?_))
    exact Exists.intro _ (And.intro rfl (And.intro rfl (And.intro (More.app H E) rfl)))
  · refine And.intro rfl (Exists.intro _ (Exists.intro _ (Exists.intro _ (And.intro hE ?_))))
    refine And.intro (fun _ => ?_) (fun h => by cases h)
    refine Exists.intro (.int .i64 (((l.map Row.enc).length + 1 : Nat) : Int)) (And.intro (i64_eq (by omega) (by rw [List.length_map]; omega) (by rw [List.length_map]; omega)) ?_)
    refine Exists.intro _ (And.intro (cut_more (l.map Row.enc) markR.enc rfl) ?_)
    refine And.intro (Int.natCast_nonneg _) (Exists.intro markR.enc (And.intro (by simp) ?_))
    exact Exists.intro _ (And.intro rfl (And.intro rfl (And.intro (More.app H E) rfl)))
end Go.Proofs.Ytnajopkaepjncaa
