/- The rows of each key. -/
import Derived.Test.YtnajopkaepjncaaA3
namespace Go.Proofs.Ytnajopkaepjncaa
open Am
set_option linter.unusedVariables false

/-- Is the row at place i its key's last one? -/
def endAt (l : List Row) (i : Nat) : Bool := match l[i]?, l[i + 1]? with
  | some a, some b => !(b.key == a.key)
  | _, _ => true
def runsFrom (l : List Row) : Nat → Nat → Nat → List (List Row) → List (List Row)
  | 0, _, _, out => out
  | n + 1, i, fr, out => match endAt l i with
    | true => runsFrom l n (i + 1) (i + 1) (out ++ [(l.take (i + 1)).drop fr])
    | false => runsFrom l n (i + 1) fr out
def runsP (l : List Row) : List (List Row) := runsFrom l l.length 0 0 []
def encRun (r : List Row) : AV := .lst 39 (r.map Row.enc) []
/-- A list that was built: its elements, and whether its end is owned in a slot. -/
def built (e : TypeId) (xs : List AV) : AV := match xs with
  | [] => .nils
  | x :: r => .lst e (x :: r) []
def ownd (s : Nat) (xs : List AV) : List Nat := match xs with
  | [] => []
  | _ :: _ => [s]

theorem cut_rows (l : List Row) (sp : List AV) {fr hi : Nat} (h1 : fr ≤ hi) (h2 : hi ≤ l.length) :
    sliceA Try.prog 22 (.lst 39 (l.map Row.enc) sp) (some (.int .i64 (fr : Int))) (some (.int .i64 (hi : Int))) (some (.int .i64 (hi : Int))) = some (encRun ((l.take hi).drop fr)) := by
  have hu : Try.prog.underlying 22 = some (.slice 39) := Try.underlying22
  unfold sliceA
  rw [hu]
  have b1 : boundA (some (.int .i64 (hi : Int))) ((l.map Row.enc).length + sp.length) ((l.map Row.enc).length + sp.length) = some hi := by
    unfold boundA
    simp only [List.length_map]
    rw [if_pos (by omega)]
    simp
  have b2 : boundA (some (.int .i64 (hi : Int))) (l.map Row.enc).length hi = some hi := by
    unfold boundA
    simp only
    rw [if_pos (by omega)]
    simp
  have b3 : boundA (some (.int .i64 (fr : Int))) 0 hi = some fr := by
    unfold boundA
    simp only
    rw [if_pos (by omega)]
    simp
  simp only [Option.isSome_some, Bool.not_true, Bool.and_false, Bool.false_eq_true, if_false, b1, b2, b3, if_true]
  unfold encRun
  have e1 : (l.map Row.enc ++ sp).take hi = (l.take hi).map Row.enc := by
    rw [List.take_append_of_le_length (by rw [List.length_map]; exact h2), List.map_take]
  have e2 : ((l.map Row.enc ++ sp).take hi).drop hi = [] := by
    rw [List.drop_eq_nil_of_le]; rw [List.length_take]; omega
  rw [e2, e1, List.map_drop]

noncomputable abbrev c27 : Code := at_ Try.f27 [true, true, true, false, true, false, false]
set_option maxRecDepth 8000 in
theorem runs_loop (l : List Row) (sp : List AV) (hl : l.length < 1048576) (cells : Cl) (H : Hp) : ∀ (n i fr : Nat) (out : List (List Row)), l.length - i = n → i ≤ l.length → fr ≤ i → out.length ≤ i →
    L Try.prog K0 (K0.vars 27) 44 c27 [(0, .lst 39 (l.map Row.enc) sp), (3, built 22 (out.map encRun)), (4, .int .i64 (fr : Int)), (7, .int .i64 ((l.map Row.enc).length : Nat)), (8, .int .i64 (i : Int))] H (ownd 3 (out.map encRun)) cells
      fun e env H' sl cl => H' = H ∧ cl = cells ∧ e = .exit 0 ∧ sl = ownd 3 ((runsFrom l n i fr out).map encRun) ∧ ∃ v0 v4 v7 v8 v9, env = [(0, v0), (3, built 22 ((runsFrom l n i fr out).map encRun)), (4, v4), (7, v7), (8, v8), (9, v9)] := by
  intro n
  induction n with
  | zero =>
    intro i fr out hn hi hf ho
    refine L_round ?_
    cases out with
    | nil =>
      refine And.intro (fun h => ?_) (fun h => ?_)
      · exfalso
        have h := dec_true (p := (i : Int) < ((l.map Row.enc).length : Nat)) h
        rw [List.length_map] at h
        omega
      · exact And.intro rfl (And.intro rfl (And.intro rfl (And.intro rfl ⟨_, _, _, _, _, rfl⟩)))
    | cons o os =>
      refine And.intro (fun h => ?_) (fun h => ?_)
      · exfalso
        have h := dec_true (p := (i : Int) < ((l.map Row.enc).length : Nat)) h
        rw [List.length_map] at h
        omega
      · exact And.intro rfl (And.intro rfl (And.intro rfl (And.intro rfl ⟨_, _, _, _, _, rfl⟩)))
  | succ n ih =>
    intro i fr out hn hi hf ho
    have hlt0 : i < l.length := by omega
    obtain ⟨a, ha⟩ : ∃ a, l[i]? = some a := ⟨l[i], List.getElem?_eq_getElem hlt0⟩
    have hstep : runsFrom l (n + 1) i fr out = (match endAt l i with
      | true => runsFrom l n (i + 1) (i + 1) (out ++ [(l.take (i + 1)).drop fr])
      | false => runsFrom l n (i + 1) fr out) := rfl
    refine L_round ?_
    cases out with
    | nil =>
      refine And.intro (fun h => ?_) (fun h => ?_)
      · clear h
        refine Exists.intro _ (And.intro rfl ?_)
        refine Exists.intro (.int .i64 ((i + 1 : Nat) : Int)) (And.intro (i64_eq (by omega) (by omega) (by omega)) ?_)
        refine And.intro (fun h => ?_) (fun h => ?_)
        · replace h : (((i + 1 : Nat) : Int) == ((l.map Row.enc).length : Nat)) = true := h
          have hend : i + 1 = l.length := by
            rw [beq_iff_eq, List.length_map] at h; omega
          have he : endAt l i = true := by
            unfold endAt
            rw [ha, List.getElem?_eq_none (by omega)]
          rw [hstep, he]
          refine And.intro (fun _ => ?_) (fun h => by cases h)
          refine Exists.intro (.int .i64 ((i + 1 : Nat) : Int)) (And.intro (i64_eq (by omega) (by omega) (by omega)) ?_)
          refine Exists.intro (.int .i64 ((i + 1 : Nat) : Int)) (And.intro (i64_eq (by omega) (by omega) (by omega)) ?_)
          refine Exists.intro _ (And.intro (cut_rows l sp (by omega) (by omega)) ?_)
          refine Exists.intro _ (And.intro rfl ?_)
          refine And.intro (Nat.le_of_ble_eq_true rfl) (And.intro (Nat.le_of_ble_eq_true rfl) (And.intro (Nat.le_of_ble_eq_true rfl) (And.intro rfl ?_)))
          refine Exists.intro (.int .i64 ((i + 1 : Nat) : Int)) (And.intro (i64_eq (by omega) (by omega) (by omega)) ?_)
          refine Exists.intro (.int .i64 ((i + 1 : Nat) : Int)) (And.intro (i64_eq (by omega) (by omega) (by omega)) ?_)
          exact ih (i + 1) (i + 1) ([] ++ [(l.take (i + 1)).drop fr]) (by omega) (by omega) (Nat.le_refl _) (by simp only [List.length_append, List.length_cons, List.length_nil] at ho ⊢; omega)
        · replace h : (((i + 1 : Nat) : Int) == ((l.map Row.enc).length : Nat)) = false := h
          have hlt : i + 1 < l.length := by
            rw [beq_eq_false_iff_ne, List.length_map] at h; omega
          obtain ⟨b, hb⟩ : ∃ b, l[i + 1]? = some b := ⟨l[i + 1], List.getElem?_eq_getElem hlt⟩
          have he : endAt l i = !(b.key == a.key) := by
            unfold endAt
            rw [ha, hb]
          rw [hstep, he]
          refine Exists.intro (.int .i64 ((i + 1 : Nat) : Int)) (And.intro (i64_eq (by omega) (by omega) (by omega)) ?_)
          refine And.intro (Int.natCast_nonneg _) (Exists.intro _ (And.intro (get_row hb) ?_))
          refine And.intro (Int.natCast_nonneg _) (Exists.intro _ (And.intro (get_row ha) ?_))
          refine And.intro (fun h2 => ?_) (fun h2 => ?_)
          · replace h2 : (!(b.key == a.key)) = true := h2
            rw [h2]
            refine Exists.intro (.int .i64 ((i + 1 : Nat) : Int)) (And.intro (i64_eq (by omega) (by omega) (by omega)) ?_)
            refine Exists.intro (.int .i64 ((i + 1 : Nat) : Int)) (And.intro (i64_eq (by omega) (by omega) (by omega)) ?_)
            refine Exists.intro _ (And.intro (cut_rows l sp (by omega) (by omega)) ?_)
            refine Exists.intro _ (And.intro rfl ?_)
            refine And.intro (Nat.le_of_ble_eq_true rfl) (And.intro (Nat.le_of_ble_eq_true rfl) (And.intro (Nat.le_of_ble_eq_true rfl) (And.intro rfl ?_)))
            refine Exists.intro (.int .i64 ((i + 1 : Nat) : Int)) (And.intro (i64_eq (by omega) (by omega) (by omega)) ?_)
            refine Exists.intro (.int .i64 ((i + 1 : Nat) : Int)) (And.intro (i64_eq (by omega) (by omega) (by omega)) ?_)
            exact ih (i + 1) (i + 1) ([] ++ [(l.take (i + 1)).drop fr]) (by omega) (by omega) (Nat.le_refl _) (by simp only [List.length_append, List.length_cons, List.length_nil] at ho ⊢; omega)
          · replace h2 : (!(b.key == a.key)) = false := h2
            rw [h2]
            refine Exists.intro (.int .i64 ((i + 1 : Nat) : Int)) (And.intro (i64_eq (by omega) (by omega) (by omega)) ?_)
            exact ih (i + 1) fr [] (by omega) (by omega) (by omega) (Nat.zero_le _)
      · exfalso
        have h := dec_false (p := (i : Int) < ((l.map Row.enc).length : Nat)) h
        rw [List.length_map] at h
        omega
    | cons o os =>
      refine And.intro (fun h => ?_) (fun h => ?_)
      · clear h
        refine Exists.intro _ (And.intro rfl ?_)
        refine Exists.intro (.int .i64 ((i + 1 : Nat) : Int)) (And.intro (i64_eq (by omega) (by omega) (by omega)) ?_)
        refine And.intro (fun h => ?_) (fun h => ?_)
        · replace h : (((i + 1 : Nat) : Int) == ((l.map Row.enc).length : Nat)) = true := h
          have hend : i + 1 = l.length := by
            rw [beq_iff_eq, List.length_map] at h; omega
          have he : endAt l i = true := by
            unfold endAt
            rw [ha, List.getElem?_eq_none (by omega)]
          rw [hstep, he]
          refine And.intro (fun _ => ?_) (fun h => by cases h)
          refine Exists.intro (.int .i64 ((i + 1 : Nat) : Int)) (And.intro (i64_eq (by omega) (by omega) (by omega)) ?_)
          refine Exists.intro (.int .i64 ((i + 1 : Nat) : Int)) (And.intro (i64_eq (by omega) (by omega) (by omega)) ?_)
          refine Exists.intro _ (And.intro (cut_rows l sp (by omega) (by omega)) ?_)
          refine Exists.intro _ (And.intro rfl ?_)
          refine And.intro rfl (And.intro rfl (And.intro (?_ : (((o :: os).map encRun).length + 1) * 24 ≤ 140737488355328) (And.intro (?_ : ((o :: os).map encRun).length + 1 ≤ 140737488355328) (And.intro (Nat.le_of_ble_eq_true rfl) (And.intro rfl (Exists.intro (((o :: os) ++ [(l.take (i + 1)).drop fr]).map encRun) (And.intro (by rw [List.map_append]; rfl) ?_)))))))
          · rw [List.length_map]; omega
          · rw [List.length_map]; omega
          refine Exists.intro (.int .i64 ((i + 1 : Nat) : Int)) (And.intro (i64_eq (by omega) (by omega) (by omega)) ?_)
          refine Exists.intro (.int .i64 ((i + 1 : Nat) : Int)) (And.intro (i64_eq (by omega) (by omega) (by omega)) ?_)
          exact ih (i + 1) (i + 1) ((o :: os) ++ [(l.take (i + 1)).drop fr]) (by omega) (by omega) (Nat.le_refl _) (by simp only [List.length_append, List.length_cons, List.length_nil] at ho ⊢; omega)
        · replace h : (((i + 1 : Nat) : Int) == ((l.map Row.enc).length : Nat)) = false := h
          have hlt : i + 1 < l.length := by
            rw [beq_eq_false_iff_ne, List.length_map] at h; omega
          obtain ⟨b, hb⟩ : ∃ b, l[i + 1]? = some b := ⟨l[i + 1], List.getElem?_eq_getElem hlt⟩
          have he : endAt l i = !(b.key == a.key) := by
            unfold endAt
            rw [ha, hb]
          rw [hstep, he]
          refine Exists.intro (.int .i64 ((i + 1 : Nat) : Int)) (And.intro (i64_eq (by omega) (by omega) (by omega)) ?_)
          refine And.intro (Int.natCast_nonneg _) (Exists.intro _ (And.intro (get_row hb) ?_))
          refine And.intro (Int.natCast_nonneg _) (Exists.intro _ (And.intro (get_row ha) ?_))
          refine And.intro (fun h2 => ?_) (fun h2 => ?_)
          · replace h2 : (!(b.key == a.key)) = true := h2
            rw [h2]
            refine Exists.intro (.int .i64 ((i + 1 : Nat) : Int)) (And.intro (i64_eq (by omega) (by omega) (by omega)) ?_)
            refine Exists.intro (.int .i64 ((i + 1 : Nat) : Int)) (And.intro (i64_eq (by omega) (by omega) (by omega)) ?_)
            refine Exists.intro _ (And.intro (cut_rows l sp (by omega) (by omega)) ?_)
            refine Exists.intro _ (And.intro rfl ?_)
            refine And.intro rfl (And.intro rfl (And.intro (?_ : (((o :: os).map encRun).length + 1) * 24 ≤ 140737488355328) (And.intro (?_ : ((o :: os).map encRun).length + 1 ≤ 140737488355328) (And.intro (Nat.le_of_ble_eq_true rfl) (And.intro rfl (Exists.intro (((o :: os) ++ [(l.take (i + 1)).drop fr]).map encRun) (And.intro (by rw [List.map_append]; rfl) ?_)))))))
            · rw [List.length_map]; omega
            · rw [List.length_map]; omega
            refine Exists.intro (.int .i64 ((i + 1 : Nat) : Int)) (And.intro (i64_eq (by omega) (by omega) (by omega)) ?_)
            refine Exists.intro (.int .i64 ((i + 1 : Nat) : Int)) (And.intro (i64_eq (by omega) (by omega) (by omega)) ?_)
            exact ih (i + 1) (i + 1) ((o :: os) ++ [(l.take (i + 1)).drop fr]) (by omega) (by omega) (Nat.le_refl _) (by simp only [List.length_append, List.length_cons, List.length_nil] at ho ⊢; omega)
          · replace h2 : (!(b.key == a.key)) = false := h2
            rw [h2]
            refine Exists.intro (.int .i64 ((i + 1 : Nat) : Int)) (And.intro (i64_eq (by omega) (by omega) (by omega)) ?_)
            exact ih (i + 1) fr (o :: os) (by omega) (by omega) (by omega) (by omega)
      · exfalso
        have h := dec_false (p := (i : Int) < ((l.map Row.enc).length : Nat)) h
        rw [List.length_map] at h
        omega

set_option maxRecDepth 8000 in
theorem runs_spec {x : AV} {l : List Row} (hx : IsRows x l) (hl : l.length < 1048576) : Gv 27 [x] (built 22 ((runsP l).map encRun)) := by
  refine GivesR.one (gives_by Try.func27 rfl rfl rfl fun H cells => ?_)
  rcases hx with ⟨rfl, rfl⟩ | ⟨sp, rfl⟩
  · refine L_round ?_
    refine And.intro (fun h => by cases h) (fun h => ?_)
    exact Exists.intro _ (And.intro rfl (And.intro rfl (And.intro (More.refl H) rfl)))
  · refine L_mono (runs_loop l sp hl cells H l.length 0 0 [] rfl (Nat.zero_le _) (Nat.le_refl _) (Nat.le_refl _)) ?_
    rintro e env H' sl cl ⟨rfl, rfl, rfl, rfl, v0, v4, v7, v8, v9, rfl⟩
    have hr : runsFrom l l.length 0 0 [] = runsP l := rfl
    rw [hr]
    cases hp : (runsP l) with
    | nil => exact Exists.intro _ (And.intro rfl (And.intro rfl (And.intro (More.refl _) rfl)))
    | cons o os => exact Exists.intro _ (And.intro rfl (And.intro rfl (And.intro (More.refl _) rfl)))
end Go.Proofs.Ytnajopkaepjncaa
