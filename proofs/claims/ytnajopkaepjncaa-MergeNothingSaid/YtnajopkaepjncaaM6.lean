/- Rows that are older than each of a key's in others; have two lists the same at a number? -/
import Derived.Test.YtnajopkaepjncaaM5
/- Rows that are older than each of a key's in others; have two lists the same at a number? -/
namespace Go.Proofs.Ytnajopkaepjncaa
open Am
set_option linter.unusedVariables false
set_option maxRecDepth 8000

noncomputable abbrev c24b : Code := at_ Try.f24 [true, true, false, true, false, false, true, false, false, true, false, true, false, false]
def oldQ (r q : Row) : Bool := !(q.key == r.key) || decide (q.seq > r.seq)
theorem older_in (o : List Row) (so : List AV) (l : List Row) (sl0 : List AV) (out : List Row) {i : Nat} {r : Row} (hr : o[i]? = some r) (hl : l.length < 1048576) (cells : Cl) : ∀ (m k : Nat) (b : Bool) (H : Hp), l.length - k = m →
    L Try.prog K0 (K0.vars 24) 57 c24b [(0, .lst 39 (o.map Row.enc) so), (1, .lst 39 (l.map Row.enc) sl0), (5, built 39 (out.map Row.enc)), (6, .int .i64 (i : Int)), (7, .bool b), (8, .int .i64 (k : Int))] H (ownd 5 (out.map Row.enc)) cells
      fun e env H' sl cl => H' = H ∧ cl = cells ∧ e = .exit 2 ∧ sl = ownd 5 (out.map Row.enc) ∧ ∃ v8 v18, env = [(0, .lst 39 (o.map Row.enc) so), (1, .lst 39 (l.map Row.enc) sl0), (5, built 39 (out.map Row.enc)), (6, .int .i64 (i : Int)), (7, .bool (b && (l.drop k).all (oldQ r))), (8, v8), (18, v18)] := by
  intro m
  induction m with
  | zero =>
    intro k b H hm
    have hd : l.drop k = [] := List.drop_eq_nil_of_le (by omega)
    rw [hd, List.all_nil, Bool.and_true]
    refine L_round ?_
    cases out with
    | nil =>
      refine And.intro (fun h => ?_) (fun _ => ?_)
      · exfalso
        have h := dec_true (p := (k : Int) < ((l.map Row.enc).length : Nat)) h
        rw [List.length_map] at h
        omega
      · exact And.intro rfl (And.intro rfl (And.intro rfl (And.intro rfl ⟨_, _, rfl⟩)))
    | cons o' os =>
      refine And.intro (fun h => ?_) (fun _ => ?_)
      · exfalso
        have h := dec_true (p := (k : Int) < ((l.map Row.enc).length : Nat)) h
        rw [List.length_map] at h
        omega
      · exact And.intro rfl (And.intro rfl (And.intro rfl (And.intro rfl ⟨_, _, rfl⟩)))
  | succ m ih =>
    intro k b H hm
    have hk : k < l.length := by omega
    obtain ⟨q, hq⟩ : ∃ q, l[k]? = some q := ⟨l[k], List.getElem?_eq_getElem hk⟩
    have hd : l.drop k = q :: l.drop (k + 1) := by
      rw [List.drop_eq_getElem_cons hk]
      rw [List.getElem?_eq_getElem hk] at hq
      injection hq with hq
      rw [hq]
    have hb : (b && (l.drop k).all (oldQ r)) = ((b && oldQ r q) && (l.drop (k + 1)).all (oldQ r)) := by
      rw [hd, List.all_cons, Bool.and_assoc]
    rw [hb]
    have hnext := ih (k + 1) (b && oldQ r q) H (by omega)
    refine L_round ?_
    cases out with
    | nil =>
      refine And.intro (fun _ => ?_) (fun h => by
        exfalso
        have h := dec_false (p := (k : Int) < ((l.map Row.enc).length : Nat)) h
        rw [List.length_map] at h
        omega)
      refine Exists.intro _ (And.intro rfl ?_)
      cases b with
      | false =>
        refine And.intro (fun h => by cases h) (fun _ => ?_)
        refine Exists.intro (.int .i64 ((k + 1 : Nat) : Int)) (And.intro (i64_eq (by omega) (by omega) (by omega)) ?_)
        exact hnext
      | true =>
        refine And.intro (fun _ => ?_) (fun h => by cases h)
        refine And.intro (Int.natCast_nonneg _) (Exists.intro _ (And.intro (get_row hq) ?_))
        refine And.intro (Int.natCast_nonneg _) (Exists.intro _ (And.intro (get_row hr) ?_))
        refine And.intro (fun h => ?_) (fun h => ?_)
        · replace h : (!(q.key == r.key)) = true := h
          have ho : (true && oldQ r q) = true := by unfold oldQ; rw [h]; rfl
          rw [ho] at hnext ⊢
          refine Exists.intro (.int .i64 ((k + 1 : Nat) : Int)) (And.intro (i64_eq (by omega) (by omega) (by omega)) ?_)
          exact hnext
        · replace h : (!(q.key == r.key)) = false := h
          have ho : (true && oldQ r q) = decide (q.seq > r.seq) := by unfold oldQ; rw [h]; rfl
          rw [ho] at hnext ⊢
          refine And.intro (Int.natCast_nonneg _) (Exists.intro _ (And.intro (get_row hq) ?_))
          refine And.intro (Int.natCast_nonneg _) (Exists.intro _ (And.intro (get_row hr) ?_))
          refine Exists.intro (.int .i64 ((k + 1 : Nat) : Int)) (And.intro (i64_eq (by omega) (by omega) (by omega)) ?_)
          exact hnext
    | cons o' os =>
      refine And.intro (fun _ => ?_) (fun h => by
        exfalso
        have h := dec_false (p := (k : Int) < ((l.map Row.enc).length : Nat)) h
        rw [List.length_map] at h
        omega)
      refine Exists.intro _ (And.intro rfl ?_)
      cases b with
      | false =>
        refine And.intro (fun h => by cases h) (fun _ => ?_)
        refine Exists.intro (.int .i64 ((k + 1 : Nat) : Int)) (And.intro (i64_eq (by omega) (by omega) (by omega)) ?_)
        exact hnext
      | true =>
        refine And.intro (fun _ => ?_) (fun h => by cases h)
        refine And.intro (Int.natCast_nonneg _) (Exists.intro _ (And.intro (get_row hq) ?_))
        refine And.intro (Int.natCast_nonneg _) (Exists.intro _ (And.intro (get_row hr) ?_))
        refine And.intro (fun h => ?_) (fun h => ?_)
        · replace h : (!(q.key == r.key)) = true := h
          have ho : (true && oldQ r q) = true := by unfold oldQ; rw [h]; rfl
          rw [ho] at hnext ⊢
          refine Exists.intro (.int .i64 ((k + 1 : Nat) : Int)) (And.intro (i64_eq (by omega) (by omega) (by omega)) ?_)
          exact hnext
        · replace h : (!(q.key == r.key)) = false := h
          have ho : (true && oldQ r q) = decide (q.seq > r.seq) := by unfold oldQ; rw [h]; rfl
          rw [ho] at hnext ⊢
          refine And.intro (Int.natCast_nonneg _) (Exists.intro _ (And.intro (get_row hq) ?_))
          refine And.intro (Int.natCast_nonneg _) (Exists.intro _ (And.intro (get_row hr) ?_))
          refine Exists.intro (.int .i64 ((k + 1 : Nat) : Int)) (And.intro (i64_eq (by omega) (by omega) (by omega)) ?_)
          exact hnext

theorem old_all (l : List Row) (r : Row) : l.all (oldQ r) = oldB l r := rfl
noncomputable abbrev c24 : Code := at_ Try.f24 [true, true, false, true, false, false]
theorem older_out (o : List Row) (so : List AV) {y : AV} {l : List Row} (hy : IsRows y l) (hl : l.length < 1048576) (ho : o.length < 1048576) (cells : Cl) : ∀ (m i : Nat) (out : List Row) (H : Hp), o.length - i = m → out.length ≤ i →
    L Try.prog K0 (K0.vars 24) 57 c24 [(0, .lst 39 (o.map Row.enc) so), (1, y), (5, built 39 (out.map Row.enc)), (6, .int .i64 (i : Int))] H (ownd 5 (out.map Row.enc)) cells
      fun e env H' sl cl => H' = H ∧ cl = cells ∧ e = .exit 0 ∧ sl = ownd 5 ((out ++ (o.drop i).filter (oldB l)).map Row.enc) ∧ ∃ v0 v1 v6 v12, env = [(0, v0), (1, v1), (5, built 39 ((out ++ (o.drop i).filter (oldB l)).map Row.enc)), (6, v6), (12, v12)] := by
  intro m
  induction m with
  | zero =>
    intro i out H hm hol
    have hd : o.drop i = [] := List.drop_eq_nil_of_le (by omega)
    rw [hd, List.filter_nil, List.append_nil]
    refine L_round ?_
    rcases hy with ⟨rfl, rfl⟩ | ⟨sl0, rfl⟩ <;> cases out
    · refine And.intro (fun h => ?_) (fun _ => ?_)
      · exfalso
        have h := dec_true (p := (i : Int) < ((o.map Row.enc).length : Nat)) h
        rw [List.length_map] at h
        omega
      · exact And.intro rfl (And.intro rfl (And.intro rfl (And.intro rfl ⟨_, _, _, _, rfl⟩)))
    · refine And.intro (fun h => ?_) (fun _ => ?_)
      · exfalso
        have h := dec_true (p := (i : Int) < ((o.map Row.enc).length : Nat)) h
        rw [List.length_map] at h
        omega
      · exact And.intro rfl (And.intro rfl (And.intro rfl (And.intro rfl ⟨_, _, _, _, rfl⟩)))
    · refine And.intro (fun h => ?_) (fun _ => ?_)
      · exfalso
        have h := dec_true (p := (i : Int) < ((o.map Row.enc).length : Nat)) h
        rw [List.length_map] at h
        omega
      · exact And.intro rfl (And.intro rfl (And.intro rfl (And.intro rfl ⟨_, _, _, _, rfl⟩)))
    · refine And.intro (fun h => ?_) (fun _ => ?_)
      · exfalso
        have h := dec_true (p := (i : Int) < ((o.map Row.enc).length : Nat)) h
        rw [List.length_map] at h
        omega
      · exact And.intro rfl (And.intro rfl (And.intro rfl (And.intro rfl ⟨_, _, _, _, rfl⟩)))
  | succ m ih =>
    intro i out H hm hol
    have hi : i < o.length := by omega
    obtain ⟨r, hr⟩ : ∃ r, o[i]? = some r := ⟨o[i], List.getElem?_eq_getElem hi⟩
    have hd : o.drop i = r :: o.drop (i + 1) := by
      rw [List.drop_eq_getElem_cons hi]
      rw [List.getElem?_eq_getElem hi] at hr
      injection hr with hr
      rw [hr]
    have hf : out ++ (o.drop i).filter (oldB l) = (match oldB l r with | true => out ++ [r] | false => out) ++ (o.drop (i + 1)).filter (oldB l) := by
      rw [hd, List.filter_cons]
      cases oldB l r with
      | true => simp
      | false => simp
    rw [hf]
    have hnext := ih (i + 1) (match oldB l r with | true => out ++ [r] | false => out) H (by omega) (by
      cases oldB l r with
      | true => simp only [List.length_append, List.length_cons, List.length_nil]; omega
      | false => simp only; omega)
    have hin : ∀ sl0, L Try.prog K0 (K0.vars 24) 57 c24b [(0, .lst 39 (o.map Row.enc) so), (1, .lst 39 (l.map Row.enc) sl0), (5, built 39 (out.map Row.enc)), (6, .int .i64 (i : Int)), (7, .bool true), (8, .int .i64 ((0 : Nat) : Int))] H (ownd 5 (out.map Row.enc)) cells
      fun e env H' sl cl => H' = H ∧ cl = cells ∧ e = .exit 2 ∧ sl = ownd 5 (out.map Row.enc) ∧ ∃ v8 v18, env = [(0, .lst 39 (o.map Row.enc) so), (1, .lst 39 (l.map Row.enc) sl0), (5, built 39 (out.map Row.enc)), (6, .int .i64 (i : Int)), (7, .bool (oldB l r)), (8, v8), (18, v18)] := fun sl0 => older_in o so l sl0 out hr hl cells l.length 0 true H rfl
    refine L_round ?_
    rcases hy with ⟨rfl, rfl⟩ | ⟨sl0, rfl⟩
    · cases out with
      | nil =>
        refine And.intro (fun _ => ?_) (fun h => by
          exfalso
          have h := dec_false (p := (i : Int) < ((o.map Row.enc).length : Nat)) h
          rw [List.length_map] at h
          omega)
        refine L_round ?_
        refine And.intro (fun h => by cases h) (fun _ => ?_)
        refine And.intro (fun _ => ?_) (fun h => by cases h)
        refine And.intro (Int.natCast_nonneg _) (Exists.intro _ (And.intro (get_row hr) ?_))
        refine Exists.intro _ (And.intro rfl ?_)
        refine And.intro (Nat.le_of_ble_eq_true rfl) (And.intro (Nat.le_of_ble_eq_true rfl) (And.intro (Nat.le_of_ble_eq_true rfl) (And.intro rfl ?_)))
        refine Exists.intro (.int .i64 ((i + 1 : Nat) : Int)) (And.intro (i64_eq (by omega) (by omega) (by omega)) ?_)
        exact hnext
      | cons o' os =>
        refine And.intro (fun _ => ?_) (fun h => by
          exfalso
          have h := dec_false (p := (i : Int) < ((o.map Row.enc).length : Nat)) h
          rw [List.length_map] at h
          omega)
        refine L_round ?_
        refine And.intro (fun h => by cases h) (fun _ => ?_)
        refine And.intro (fun _ => ?_) (fun h => by cases h)
        refine And.intro (Int.natCast_nonneg _) (Exists.intro _ (And.intro (get_row hr) ?_))
        refine Exists.intro _ (And.intro rfl ?_)
        refine And.intro rfl (And.intro rfl (And.intro (?_ : (((o' :: os).map Row.enc).length + 1) * 48 ≤ 140737488355328) (And.intro (?_ : ((o' :: os).map Row.enc).length + 1 ≤ 140737488355328) (And.intro (Nat.le_of_ble_eq_true rfl) (And.intro rfl (Exists.intro (((o' :: os) ++ [r]).map Row.enc) (And.intro (by rw [List.map_append]; rfl) ?_)))))))
        · rw [List.length_map]; omega
        · rw [List.length_map]; omega
        refine Exists.intro (.int .i64 ((i + 1 : Nat) : Int)) (And.intro (i64_eq (by omega) (by omega) (by omega)) ?_)
        exact hnext
    · have hin := hin sl0
      cases out with
      | nil =>
        refine And.intro (fun _ => ?_) (fun h => by
          exfalso
          have h := dec_false (p := (i : Int) < ((o.map Row.enc).length : Nat)) h
          rw [List.length_map] at h
          omega)
        refine L_mono hin ?_
        rintro e env H' sl cl ⟨rfl, rfl, rfl, rfl, v8, v18, rfl⟩
        cases hob : oldB l r with
        | false =>
          rw [hob] at hnext
          refine And.intro (fun h => by cases h) (fun _ => ?_)
          refine Exists.intro (.int .i64 ((i + 1 : Nat) : Int)) (And.intro (i64_eq (by omega) (by omega) (by omega)) ?_)
          exact hnext
        | true =>
          rw [hob] at hnext
          refine And.intro (fun _ => ?_) (fun h => by cases h)
          refine And.intro (Int.natCast_nonneg _) (Exists.intro _ (And.intro (get_row hr) ?_))
          refine Exists.intro _ (And.intro rfl ?_)
          refine And.intro (Nat.le_of_ble_eq_true rfl) (And.intro (Nat.le_of_ble_eq_true rfl) (And.intro (Nat.le_of_ble_eq_true rfl) (And.intro rfl ?_)))
          refine Exists.intro (.int .i64 ((i + 1 : Nat) : Int)) (And.intro (i64_eq (by omega) (by omega) (by omega)) ?_)
          exact hnext
      | cons o' os =>
        refine And.intro (fun _ => ?_) (fun h => by
          exfalso
          have h := dec_false (p := (i : Int) < ((o.map Row.enc).length : Nat)) h
          rw [List.length_map] at h
          omega)
        refine L_mono hin ?_
        rintro e env H' sl cl ⟨rfl, rfl, rfl, rfl, v8, v18, rfl⟩
        cases hob : oldB l r with
        | false =>
          rw [hob] at hnext
          refine And.intro (fun h => by cases h) (fun _ => ?_)
          refine Exists.intro (.int .i64 ((i + 1 : Nat) : Int)) (And.intro (i64_eq (by omega) (by omega) (by omega)) ?_)
          exact hnext
        | true =>
          rw [hob] at hnext
          refine And.intro (fun _ => ?_) (fun h => by cases h)
          refine And.intro (Int.natCast_nonneg _) (Exists.intro _ (And.intro (get_row hr) ?_))
          refine Exists.intro _ (And.intro rfl ?_)
          refine And.intro rfl (And.intro rfl (And.intro (?_ : (((o' :: os).map Row.enc).length + 1) * 48 ≤ 140737488355328) (And.intro (?_ : ((o' :: os).map Row.enc).length + 1 ≤ 140737488355328) (And.intro (Nat.le_of_ble_eq_true rfl) (And.intro rfl (Exists.intro (((o' :: os) ++ [r]).map Row.enc) (And.intro (by rw [List.map_append]; rfl) ?_)))))))
          · rw [List.length_map]; omega
          · rw [List.length_map]; omega
          refine Exists.intro (.int .i64 ((i + 1 : Nat) : Int)) (And.intro (i64_eq (by omega) (by omega) (by omega)) ?_)
          exact hnext

theorem older_spec {x y : AV} {o l : List Row} (hx : IsRows x o) (hy : IsRows y l) (ho : o.length < 1048576) (hl : l.length < 1048576) : Gv 24 [x, y] (built 39 ((oldP o l).map Row.enc)) := by
  refine GivesR.one (gives_by Try.func24 rfl rfl rfl fun H cells => ?_)
  rcases hx with ⟨rfl, rfl⟩ | ⟨so, rfl⟩
  · rcases hy with ⟨rfl, rfl⟩ | ⟨sl0, rfl⟩
    · refine L_round ?_
      refine And.intro (fun h => by cases h) (fun _ => ?_)
      exact Exists.intro _ (And.intro rfl (And.intro rfl (And.intro (More.refl H) rfl)))
    · refine L_round ?_
      refine And.intro (fun h => by cases h) (fun _ => ?_)
      exact Exists.intro _ (And.intro rfl (And.intro rfl (And.intro (More.refl H) rfl)))
  · have hout := older_out o so hy hl ho cells o.length 0 [] H rfl (Nat.le_refl _)
    rw [List.drop_zero, List.nil_append] at hout
    change L Try.prog K0 (K0.vars 24) 57 c24 _ H [] cells (fun e env H' sl cl => H' = H ∧ cl = cells ∧ e = .exit 0 ∧ sl = ownd 5 ((oldP o l).map Row.enc) ∧ ∃ v0 v1 v6 v12, env = [(0, v0), (1, v1), (5, built 39 ((oldP o l).map Row.enc)), (6, v6), (12, v12)]) at hout
    rcases hy with ⟨rfl, rfl⟩ | ⟨sl0, rfl⟩
    · refine L_mono hout ?_
      rintro e env H' sl cl ⟨rfl, rfl, rfl, rfl, v0, v1, v6, v12, rfl⟩
      cases oldP o [] with
      | nil => exact Exists.intro _ (And.intro rfl (And.intro rfl (And.intro (More.refl H') rfl)))
      | cons a r => exact Exists.intro _ (And.intro rfl (And.intro rfl (And.intro (More.refl H') rfl)))
    · refine L_mono hout ?_
      rintro e env H' sl cl ⟨rfl, rfl, rfl, rfl, v0, v1, v6, v12, rfl⟩
      cases oldP o l with
      | nil => exact Exists.intro _ (And.intro rfl (And.intro rfl (And.intro (More.refl H') rfl)))
      | cons a r => exact Exists.intro _ (And.intro rfl (And.intro rfl (And.intro (More.refl H') rfl)))

theorem alike_spec {x y : AV} {a b : List Row} (hx : IsRows x a) (hy : IsRows y b) (ha : a.length < 1048576) (hb : b.length < 1048576) (ho : orderP a = true) (ho2 : orderP b = true) {n : Int} (he : atP a n = atP b n) (hlen : (atP b n).length < 1048576) : Gv 25 [x, y, .int .u64 n] (.bool true) := by
  refine GivesR.one (gives_by Try.func25 rfl rfl rfl fun H cells => ?_)
  obtain ⟨E, hE⟩ := at_spec hx ha n H cells
  obtain ⟨F, hF⟩ := at_spec hy hb n (H ++ E) cells
  have r1 : atA a n = .tup [built 41 ((atP b n).map Pr.enc), .int .i64 0] := by unfold atA; rw [ho, he]
  have r2 : atA b n = .tup [built 41 ((atP b n).map Pr.enc), .int .i64 0] := by unfold atA; rw [ho2]
  rw [r1] at hE
  rw [r2] at hF
  obtain ⟨G, hG⟩ := same_spec15 (built_isL 41 ((atP b n).map Pr.enc)) (built_isL 41 ((atP b n).map Pr.enc)) (by omega) ((H ++ E) ++ F) cells
  have hm : More H (((H ++ E) ++ F) ++ G) := ((More.app H E).trans (More.app _ F)).trans (More.app _ G)
  clear r1 r2 he hlen
  revert hE hF hG
  generalize atP b n = ps
  intro hE hF hG
  rcases hx with ⟨rfl, rfl⟩ | ⟨sx, rfl⟩ <;> rcases hy with ⟨rfl, rfl⟩ | ⟨sy, rfl⟩ <;> cases ps
  · refine And.intro rfl (Exists.intro _ (Exists.intro _ (Exists.intro _ (And.intro hE ?_))))
    refine And.intro rfl (Exists.intro _ (Exists.intro _ (Exists.intro _ (And.intro hF ?_))))
    refine And.intro (fun _ => ?_) (fun h => by cases h)
    refine And.intro (fun _ => ?_) (fun h => by cases h)
    refine And.intro rfl (Exists.intro _ (Exists.intro _ (Exists.intro _ (And.intro hG ?_))))
    exact Exists.intro _ (And.intro rfl (And.intro rfl (And.intro hm rfl)))
  · refine And.intro rfl (Exists.intro _ (Exists.intro _ (Exists.intro _ (And.intro hE ?_))))
    refine And.intro rfl (Exists.intro _ (Exists.intro _ (Exists.intro _ (And.intro hF ?_))))
    refine And.intro (fun _ => ?_) (fun h => by cases h)
    refine And.intro (fun _ => ?_) (fun h => by cases h)
    refine And.intro rfl (Exists.intro _ (Exists.intro _ (Exists.intro _ (And.intro hG ?_))))
    exact Exists.intro _ (And.intro rfl (And.intro rfl (And.intro hm rfl)))
  · refine And.intro rfl (Exists.intro _ (Exists.intro _ (Exists.intro _ (And.intro hE ?_))))
    refine And.intro rfl (Exists.intro _ (Exists.intro _ (Exists.intro _ (And.intro hF ?_))))
    refine And.intro (fun _ => ?_) (fun h => by cases h)
    refine And.intro (fun _ => ?_) (fun h => by cases h)
    refine And.intro rfl (Exists.intro _ (Exists.intro _ (Exists.intro _ (And.intro hG ?_))))
    exact Exists.intro _ (And.intro rfl (And.intro rfl (And.intro hm rfl)))
  · refine And.intro rfl (Exists.intro _ (Exists.intro _ (Exists.intro _ (And.intro hE ?_))))
    refine And.intro rfl (Exists.intro _ (Exists.intro _ (Exists.intro _ (And.intro hF ?_))))
    refine And.intro (fun _ => ?_) (fun h => by cases h)
    refine And.intro (fun _ => ?_) (fun h => by cases h)
    refine And.intro rfl (Exists.intro _ (Exists.intro _ (Exists.intro _ (And.intro hG ?_))))
    exact Exists.intro _ (And.intro rfl (And.intro rfl (And.intro hm rfl)))
  · refine And.intro rfl (Exists.intro _ (Exists.intro _ (Exists.intro _ (And.intro hE ?_))))
    refine And.intro rfl (Exists.intro _ (Exists.intro _ (Exists.intro _ (And.intro hF ?_))))
    refine And.intro (fun _ => ?_) (fun h => by cases h)
    refine And.intro (fun _ => ?_) (fun h => by cases h)
    refine And.intro rfl (Exists.intro _ (Exists.intro _ (Exists.intro _ (And.intro hG ?_))))
    exact Exists.intro _ (And.intro rfl (And.intro rfl (And.intro hm rfl)))
  · refine And.intro rfl (Exists.intro _ (Exists.intro _ (Exists.intro _ (And.intro hE ?_))))
    refine And.intro rfl (Exists.intro _ (Exists.intro _ (Exists.intro _ (And.intro hF ?_))))
    refine And.intro (fun _ => ?_) (fun h => by cases h)
    refine And.intro (fun _ => ?_) (fun h => by cases h)
    refine And.intro rfl (Exists.intro _ (Exists.intro _ (Exists.intro _ (And.intro hG ?_))))
    exact Exists.intro _ (And.intro rfl (And.intro rfl (And.intro hm rfl)))
  · refine And.intro rfl (Exists.intro _ (Exists.intro _ (Exists.intro _ (And.intro hE ?_))))
    refine And.intro rfl (Exists.intro _ (Exists.intro _ (Exists.intro _ (And.intro hF ?_))))
    refine And.intro (fun _ => ?_) (fun h => by cases h)
    refine And.intro (fun _ => ?_) (fun h => by cases h)
    refine And.intro rfl (Exists.intro _ (Exists.intro _ (Exists.intro _ (And.intro hG ?_))))
    exact Exists.intro _ (And.intro rfl (And.intro rfl (And.intro hm rfl)))
  · refine And.intro rfl (Exists.intro _ (Exists.intro _ (Exists.intro _ (And.intro hE ?_))))
    refine And.intro rfl (Exists.intro _ (Exists.intro _ (Exists.intro _ (And.intro hF ?_))))
    refine And.intro (fun _ => ?_) (fun h => by cases h)
    refine And.intro (fun _ => ?_) (fun h => by cases h)
    refine And.intro rfl (Exists.intro _ (Exists.intro _ (Exists.intro _ (And.intro hG ?_))))
    exact Exists.intro _ (And.intro rfl (And.intro rfl (And.intro hm rfl)))
end Go.Proofs.Ytnajopkaepjncaa

/- What nobody needs changes nothing: the walk through the law's own function. -/
namespace Go.Proofs.Ytnajopkaepjncaa
open Am
set_option linter.unusedVariables false
set_option maxRecDepth 8000
set_option maxHeartbeats 8000000

theorem gt_ll {a b : List Row} (h : a.length ≤ b.length) (k : decide ((((a.map Row.enc).length : Nat) : Int) > (((b.map Row.enc).length : Nat) : Int)) = true) : False := by
  have k := of_decide_eq_true k
  rw [List.length_map, List.length_map] at k
  omega
theorem gt_n {n : Nat} (k : decide ((0 : Int) > ((n : Nat) : Int)) = true) : False := by
  have k := of_decide_eq_true k
  omega
theorem gt_ln {a : List Row} (h : a.length ≤ 0) (k : decide ((((a.map Row.enc).length : Nat) : Int) > (0 : Int)) = true) : False := by
  have k := of_decide_eq_true k
  rw [List.length_map] at k
  omega
theorem rows_ls {x : AV} {l : List Row} (h : IsRows x l) : ∃ q : Ls, q.av = x ∧ q.l = l ∧ q.ok := by
  rcases h with ⟨rfl, rfl⟩ | ⟨sp, rfl⟩
  · exact ⟨⟨[], none⟩, rfl, rfl, fun _ => rfl⟩
  · exact ⟨⟨l, some sp⟩, rfl, rfl, fun h => by cases h⟩

noncomputable abbrev c9a : Code := at_ Try.f9 [true, true, true, true, true, true, false, true, false, true, true, false, false]
theorem nodel_loop {x z : AV} {l : List Row} {ms : List Int} (hx : IsRows x l) (hz : IsMarks z ms) (fl : List Row) (sp : List AV) (hfl : fl.length < 1048576) (hnd : ∀ (i : Nat) (r : Row), fl[i]? = some r → r.kind ≠ 1 → ∃ r', fl[i + 1]? = some r' ∧ r'.key = r.key) (cells : Cl) : ∀ (m i : Nat) (H : Hp), fl.length - i = m →
    L Try.prog K0 (K0.vars 9) 147 c9a [(0, x), (2, z), (9, .lst 39 (fl.map Row.enc) sp), (11, .nils), (14, .int .i64 (i : Int))] H [] cells
      fun e env H' sl cl => H' = H ∧ cl = cells ∧ sl = [] ∧ e = .exit 0 ∧ ∃ v14 v69, env = [(0, x), (2, z), (9, .lst 39 (fl.map Row.enc) sp), (11, .nils), (14, v14), (69, v69)] := by
  intro m
  induction m with
  | zero =>
    intro i H hm
    refine L_round ?_
    rcases hx with ⟨rfl, _⟩ | ⟨_, rfl⟩ <;> rcases hz with ⟨rfl, _⟩ | ⟨_, rfl⟩ <;>
    refine And.intro (fun h => ?_) (fun _ => ?_)
    · exfalso
      have h := dec_true (p := (i : Int) < ((fl.map Row.enc).length : Nat)) h
      rw [List.length_map] at h
      omega
    · exact And.intro rfl (And.intro rfl (And.intro rfl (And.intro rfl ⟨_, _, rfl⟩)))
    · exfalso
      have h := dec_true (p := (i : Int) < ((fl.map Row.enc).length : Nat)) h
      rw [List.length_map] at h
      omega
    · exact And.intro rfl (And.intro rfl (And.intro rfl (And.intro rfl ⟨_, _, rfl⟩)))
    · exfalso
      have h := dec_true (p := (i : Int) < ((fl.map Row.enc).length : Nat)) h
      rw [List.length_map] at h
      omega
    · exact And.intro rfl (And.intro rfl (And.intro rfl (And.intro rfl ⟨_, _, rfl⟩)))
    · exfalso
      have h := dec_true (p := (i : Int) < ((fl.map Row.enc).length : Nat)) h
      rw [List.length_map] at h
      omega
    · exact And.intro rfl (And.intro rfl (And.intro rfl (And.intro rfl ⟨_, _, rfl⟩)))
  | succ m ih =>
    intro i H hm
    have hi : i < fl.length := by omega
    obtain ⟨r, hr⟩ : ∃ r, fl[i]? = some r := ⟨fl[i], List.getElem?_eq_getElem hi⟩
    have hnext := ih (i + 1) H (by omega)
    refine L_round ?_
    rcases hx with ⟨rfl, _⟩ | ⟨_, rfl⟩ <;> rcases hz with ⟨rfl, _⟩ | ⟨_, rfl⟩
    · refine And.intro (fun _ => ?_) (fun h => by
        exfalso
        have h := dec_false (p := (i : Int) < ((fl.map Row.enc).length : Nat)) h
        rw [List.length_map] at h
        omega)
      refine Exists.intro _ (And.intro rfl ?_)
      refine And.intro (Int.natCast_nonneg _) (Exists.intro _ (And.intro (get_row hr) ?_))
      refine And.intro (fun h => ?_) (fun h => ?_)
      · replace h : (!(r.kind == 1)) = true := h
        have hk : r.kind ≠ 1 := by
          intro e
          rw [e] at h; cases h
        obtain ⟨r', hr', hkey⟩ := hnd i r hr hk
        have hi1 := (List.getElem?_eq_some_iff.1 hr').1
        refine Exists.intro (.int .i64 ((i + 1 : Nat) : Int)) (And.intro (i64_eq (by omega) (by omega) (by omega)) ?_)
        refine And.intro (fun h2 => ?_) (fun _ => ?_)
        · exfalso
          replace h2 : (((i + 1 : Nat) : Int) == (((fl.map Row.enc).length : Nat) : Int)) = true := h2
          rw [beq_iff_eq, List.length_map] at h2
          omega
        refine Exists.intro (.int .i64 ((i + 1 : Nat) : Int)) (And.intro (i64_eq (by omega) (by omega) (by omega)) ?_)
        refine And.intro (Int.natCast_nonneg _) (Exists.intro _ (And.intro (get_row hr') ?_))
        refine And.intro (Int.natCast_nonneg _) (Exists.intro _ (And.intro (get_row hr) ?_))
        refine And.intro (fun h2 => ?_) (fun _ => ?_)
        · exfalso
          replace h2 : (!(r'.key == r.key)) = true := h2
          rw [hkey, beq_self_eq_true] at h2
          cases h2
        refine Exists.intro (.int .i64 ((i + 1 : Nat) : Int)) (And.intro (i64_eq (by omega) (by omega) (by omega)) ?_)
        exact hnext
      · refine And.intro (fun h => by cases h) (fun _ => ?_)
        refine Exists.intro (.int .i64 ((i + 1 : Nat) : Int)) (And.intro (i64_eq (by omega) (by omega) (by omega)) ?_)
        exact hnext
    · refine And.intro (fun _ => ?_) (fun h => by
        exfalso
        have h := dec_false (p := (i : Int) < ((fl.map Row.enc).length : Nat)) h
        rw [List.length_map] at h
        omega)
      refine Exists.intro _ (And.intro rfl ?_)
      refine And.intro (Int.natCast_nonneg _) (Exists.intro _ (And.intro (get_row hr) ?_))
      refine And.intro (fun h => ?_) (fun h => ?_)
      · replace h : (!(r.kind == 1)) = true := h
        have hk : r.kind ≠ 1 := by
          intro e
          rw [e] at h; cases h
        obtain ⟨r', hr', hkey⟩ := hnd i r hr hk
        have hi1 := (List.getElem?_eq_some_iff.1 hr').1
        refine Exists.intro (.int .i64 ((i + 1 : Nat) : Int)) (And.intro (i64_eq (by omega) (by omega) (by omega)) ?_)
        refine And.intro (fun h2 => ?_) (fun _ => ?_)
        · exfalso
          replace h2 : (((i + 1 : Nat) : Int) == (((fl.map Row.enc).length : Nat) : Int)) = true := h2
          rw [beq_iff_eq, List.length_map] at h2
          omega
        refine Exists.intro (.int .i64 ((i + 1 : Nat) : Int)) (And.intro (i64_eq (by omega) (by omega) (by omega)) ?_)
        refine And.intro (Int.natCast_nonneg _) (Exists.intro _ (And.intro (get_row hr') ?_))
        refine And.intro (Int.natCast_nonneg _) (Exists.intro _ (And.intro (get_row hr) ?_))
        refine And.intro (fun h2 => ?_) (fun _ => ?_)
        · exfalso
          replace h2 : (!(r'.key == r.key)) = true := h2
          rw [hkey, beq_self_eq_true] at h2
          cases h2
        refine Exists.intro (.int .i64 ((i + 1 : Nat) : Int)) (And.intro (i64_eq (by omega) (by omega) (by omega)) ?_)
        exact hnext
      · refine And.intro (fun h => by cases h) (fun _ => ?_)
        refine Exists.intro (.int .i64 ((i + 1 : Nat) : Int)) (And.intro (i64_eq (by omega) (by omega) (by omega)) ?_)
        exact hnext
    · refine And.intro (fun _ => ?_) (fun h => by
        exfalso
        have h := dec_false (p := (i : Int) < ((fl.map Row.enc).length : Nat)) h
        rw [List.length_map] at h
        omega)
      refine Exists.intro _ (And.intro rfl ?_)
      refine And.intro (Int.natCast_nonneg _) (Exists.intro _ (And.intro (get_row hr) ?_))
      refine And.intro (fun h => ?_) (fun h => ?_)
      · replace h : (!(r.kind == 1)) = true := h
        have hk : r.kind ≠ 1 := by
          intro e
          rw [e] at h; cases h
        obtain ⟨r', hr', hkey⟩ := hnd i r hr hk
        have hi1 := (List.getElem?_eq_some_iff.1 hr').1
        refine Exists.intro (.int .i64 ((i + 1 : Nat) : Int)) (And.intro (i64_eq (by omega) (by omega) (by omega)) ?_)
        refine And.intro (fun h2 => ?_) (fun _ => ?_)
        · exfalso
          replace h2 : (((i + 1 : Nat) : Int) == (((fl.map Row.enc).length : Nat) : Int)) = true := h2
          rw [beq_iff_eq, List.length_map] at h2
          omega
        refine Exists.intro (.int .i64 ((i + 1 : Nat) : Int)) (And.intro (i64_eq (by omega) (by omega) (by omega)) ?_)
        refine And.intro (Int.natCast_nonneg _) (Exists.intro _ (And.intro (get_row hr') ?_))
        refine And.intro (Int.natCast_nonneg _) (Exists.intro _ (And.intro (get_row hr) ?_))
        refine And.intro (fun h2 => ?_) (fun _ => ?_)
        · exfalso
          replace h2 : (!(r'.key == r.key)) = true := h2
          rw [hkey, beq_self_eq_true] at h2
          cases h2
        refine Exists.intro (.int .i64 ((i + 1 : Nat) : Int)) (And.intro (i64_eq (by omega) (by omega) (by omega)) ?_)
        exact hnext
      · refine And.intro (fun h => by cases h) (fun _ => ?_)
        refine Exists.intro (.int .i64 ((i + 1 : Nat) : Int)) (And.intro (i64_eq (by omega) (by omega) (by omega)) ?_)
        exact hnext
    · refine And.intro (fun _ => ?_) (fun h => by
        exfalso
        have h := dec_false (p := (i : Int) < ((fl.map Row.enc).length : Nat)) h
        rw [List.length_map] at h
        omega)
      refine Exists.intro _ (And.intro rfl ?_)
      refine And.intro (Int.natCast_nonneg _) (Exists.intro _ (And.intro (get_row hr) ?_))
      refine And.intro (fun h => ?_) (fun h => ?_)
      · replace h : (!(r.kind == 1)) = true := h
        have hk : r.kind ≠ 1 := by
          intro e
          rw [e] at h; cases h
        obtain ⟨r', hr', hkey⟩ := hnd i r hr hk
        have hi1 := (List.getElem?_eq_some_iff.1 hr').1
        refine Exists.intro (.int .i64 ((i + 1 : Nat) : Int)) (And.intro (i64_eq (by omega) (by omega) (by omega)) ?_)
        refine And.intro (fun h2 => ?_) (fun _ => ?_)
        · exfalso
          replace h2 : (((i + 1 : Nat) : Int) == (((fl.map Row.enc).length : Nat) : Int)) = true := h2
          rw [beq_iff_eq, List.length_map] at h2
          omega
        refine Exists.intro (.int .i64 ((i + 1 : Nat) : Int)) (And.intro (i64_eq (by omega) (by omega) (by omega)) ?_)
        refine And.intro (Int.natCast_nonneg _) (Exists.intro _ (And.intro (get_row hr') ?_))
        refine And.intro (Int.natCast_nonneg _) (Exists.intro _ (And.intro (get_row hr) ?_))
        refine And.intro (fun h2 => ?_) (fun _ => ?_)
        · exfalso
          replace h2 : (!(r'.key == r.key)) = true := h2
          rw [hkey, beq_self_eq_true] at h2
          cases h2
        refine Exists.intro (.int .i64 ((i + 1 : Nat) : Int)) (And.intro (i64_eq (by omega) (by omega) (by omega)) ?_)
        exact hnext
      · refine And.intro (fun h => by cases h) (fun _ => ?_)
        refine Exists.intro (.int .i64 ((i + 1 : Nat) : Int)) (And.intro (i64_eq (by omega) (by omega) (by omega)) ?_)
        exact hnext
noncomputable abbrev c9b : Code := at_ Try.f9 [true, true, true, true, true, true, true, true, true, true, false, true, false, false]
theorem marks_loop {va vb : AV} {a b : List Row} (ha : IsOut va a) (hb : IsOut vb b) (ms : List Int) (sm : List AV) (hms : ms.length < 1048576) (hal : ∀ n ∈ ms, Gv 25 [va, vb, .int .u64 n] (.bool true)) (cells : Cl) : ∀ (m i : Nat) (H : Hp), ms.length - i = m →
    L Try.prog K0 (K0.vars 9) 147 c9b [(2, .lst 23 (ms.map (AV.int .u64)) sm), (15, va), (17, vb), (19, .int .i64 (i : Int))] H [] cells
      fun e env H' sl cl => More H H' ∧ cl = cells ∧ sl = [] ∧ e = .exit 2 ∧ ∃ v2 v15 v17 v19 v135, env = [(2, v2), (15, v15), (17, v17), (19, v19), (135, v135)] := by
  intro m
  induction m with
  | zero =>
    intro i H hm
    refine L_round ?_
    rcases ha with ⟨rfl, _⟩ | rfl <;> rcases hb with ⟨rfl, _⟩ | rfl <;>
    refine And.intro (fun h => ?_) (fun _ => ?_)
    · exfalso
      have h := dec_true (p := (i : Int) < ((ms.map (AV.int .u64)).length : Nat)) h
      rw [List.length_map] at h
      omega
    · exact And.intro (More.refl H) (And.intro rfl (And.intro rfl (And.intro rfl ⟨_, _, _, _, _, rfl⟩)))
    · exfalso
      have h := dec_true (p := (i : Int) < ((ms.map (AV.int .u64)).length : Nat)) h
      rw [List.length_map] at h
      omega
    · exact And.intro (More.refl H) (And.intro rfl (And.intro rfl (And.intro rfl ⟨_, _, _, _, _, rfl⟩)))
    · exfalso
      have h := dec_true (p := (i : Int) < ((ms.map (AV.int .u64)).length : Nat)) h
      rw [List.length_map] at h
      omega
    · exact And.intro (More.refl H) (And.intro rfl (And.intro rfl (And.intro rfl ⟨_, _, _, _, _, rfl⟩)))
    · exfalso
      have h := dec_true (p := (i : Int) < ((ms.map (AV.int .u64)).length : Nat)) h
      rw [List.length_map] at h
      omega
    · exact And.intro (More.refl H) (And.intro rfl (And.intro rfl (And.intro rfl ⟨_, _, _, _, _, rfl⟩)))
  | succ m ih =>
    intro i H hm
    have hi : i < ms.length := by omega
    obtain ⟨n, hn⟩ : ∃ n, ms[i]? = some n := ⟨ms[i], List.getElem?_eq_getElem hi⟩
    obtain ⟨E, hE⟩ := hal n (List.mem_of_getElem? hn) H cells
    have hnext : L Try.prog K0 (K0.vars 9) 147 c9b [(2, .lst 23 (ms.map (AV.int .u64)) sm), (15, va), (17, vb), (19, .int .i64 ((i + 1 : Nat) : Int))] (H ++ E) [] cells
      fun e env H' sl cl => More H H' ∧ cl = cells ∧ sl = [] ∧ e = .exit 2 ∧ ∃ v2 v15 v17 v19 v135, env = [(2, v2), (15, v15), (17, v17), (19, v19), (135, v135)] := by
      refine L_mono (ih (i + 1) (H ++ E) (by omega)) ?_
      rintro e env H' sl cl ⟨h1, h2⟩
      exact ⟨(More.app H E).trans h1, h2⟩
    refine L_round ?_
    rcases ha with ⟨rfl, _⟩ | rfl <;> rcases hb with ⟨rfl, _⟩ | rfl
    · refine And.intro (fun _ => ?_) (fun h => by
        exfalso
        have h := dec_false (p := (i : Int) < ((ms.map (AV.int .u64)).length : Nat)) h
        rw [List.length_map] at h
        omega)
      refine And.intro (Int.natCast_nonneg _) (Exists.intro _ (And.intro (get_mark hn) ?_))
      refine And.intro rfl (Exists.intro _ (Exists.intro _ (Exists.intro _ (And.intro hE ?_))))
      refine And.intro (fun h => by cases h) (fun _ => ?_)
      refine Exists.intro (.int .i64 ((i + 1 : Nat) : Int)) (And.intro (i64_eq (by omega) (by omega) (by omega)) ?_)
      exact hnext
    · refine And.intro (fun _ => ?_) (fun h => by
        exfalso
        have h := dec_false (p := (i : Int) < ((ms.map (AV.int .u64)).length : Nat)) h
        rw [List.length_map] at h
        omega)
      refine And.intro (Int.natCast_nonneg _) (Exists.intro _ (And.intro (get_mark hn) ?_))
      refine And.intro rfl (Exists.intro _ (Exists.intro _ (Exists.intro _ (And.intro hE ?_))))
      refine And.intro (fun h => by cases h) (fun _ => ?_)
      refine Exists.intro (.int .i64 ((i + 1 : Nat) : Int)) (And.intro (i64_eq (by omega) (by omega) (by omega)) ?_)
      exact hnext
    · refine And.intro (fun _ => ?_) (fun h => by
        exfalso
        have h := dec_false (p := (i : Int) < ((ms.map (AV.int .u64)).length : Nat)) h
        rw [List.length_map] at h
        omega)
      refine And.intro (Int.natCast_nonneg _) (Exists.intro _ (And.intro (get_mark hn) ?_))
      refine And.intro rfl (Exists.intro _ (Exists.intro _ (Exists.intro _ (And.intro hE ?_))))
      refine And.intro (fun h => by cases h) (fun _ => ?_)
      refine Exists.intro (.int .i64 ((i + 1 : Nat) : Int)) (And.intro (i64_eq (by omega) (by omega) (by omega)) ?_)
      exact hnext
    · refine And.intro (fun _ => ?_) (fun h => by
        exfalso
        have h := dec_false (p := (i : Int) < ((ms.map (AV.int .u64)).length : Nat)) h
        rw [List.length_map] at h
        omega)
      refine And.intro (Int.natCast_nonneg _) (Exists.intro _ (And.intro (get_mark hn) ?_))
      refine And.intro rfl (Exists.intro _ (Exists.intro _ (Exists.intro _ (And.intro hE ?_))))
      refine And.intro (fun h => by cases h) (fun _ => ?_)
      refine Exists.intro (.int .i64 ((i + 1 : Nat) : Int)) (And.intro (i64_eq (by omega) (by omega) (by omega)) ?_)
      exact hnext
noncomputable abbrev c9e : Code := at_ Try.f9 [true, true, true, true, true, true, true]
theorem nothing_end (H0 : Hp) {x z vf vo : AV} {l fl ol : List Row} {ms : List Int} (hx : IsRows x l) (hz : IsMarks z ms) (hf : IsRows vf fl) (ho : IsRows vo ol) (hl : l.length ≤ 100) (hfl : fl.length ≤ l.length) (hol : ol.length ≤ 100) (hms : ms.length ≤ 50) (o1 : orderP l = true) (o2 : orderP fl = true) (o3 : orderP ol = true)
    (hat : ∀ a b, Made1 [l, ol] a → Made1 [fl, ol] b → ∀ n, isMark ms n → atP a n = atP b n) (rest : Env) (H : Hp) (hm : More H0 H) :
    cC Try.prog K0 (K0.vars 9) 147 c9e ((0, x) :: (2, z) :: (9, vf) :: (11, vo) :: rest) H [] [] fun e env' H1 sl cl => match e with
      | .exit _ => False
      | _ => ∃ x, resA2 Try.prog ⟨env', H1, [], []⟩ Try.f9.results.toList = some x ∧ x = .bool true ∧ More H0 H1 ∧ cl = [] := by
  obtain ⟨q1, q1a, q1l, q1o⟩ := rows_ls hx
  obtain ⟨q2, q2a, q2l, q2o⟩ := rows_ls hf
  obtain ⟨q3, q3a, q3l, q3o⟩ := rows_ls ho
  have two : ∀ (p q : Ls) (v w : AV) (a b : List Row), p.av = v → q.av = w → p.l = a → q.l = b → p.ok → q.ok → a.length ≤ 100 → b.length ≤ 100 → orderP a = true → orderP b = true → ∀ H2 : Hp, ∃ (out : List Row) (E : Hp), Made1 [a, b] out ∧ out.length ≤ 200 ∧ CallsA Try.prog K0 22 [.lst 22 [v, w] []] H2 [] (.tup [built 39 (out.map Row.enc), .int .i64 0]) (H2 ++ E) [] := by
    rintro p q v w a b rfl rfl rfl rfl hp hq ha hb ho1 ho2 H2
    have hok : ∀ r ∈ [p, q], r.ok := by
      intro r hr
      rcases List.mem_cons.1 hr with rfl | hr
      · exact hp
      · rw [List.mem_singleton] at hr; rw [hr]; exact hq
    have hln : ∀ r ∈ [p, q], r.l.length < 1048576 := by
      intro r hr
      rcases List.mem_cons.1 hr with rfl | hr
      · omega
      · rw [List.mem_singleton] at hr; rw [hr]; omega
    have hor : ∀ r ∈ [p, q], orderP r.l = true := by
      intro r hr
      rcases List.mem_cons.1 hr with rfl | hr
      · exact ho1
      · rw [List.mem_singleton] at hr; rw [hr]; exact ho2
    have htot : total [p, q] = p.l.length + q.l.length := by unfold total; simp
    obtain ⟨y, E, hy, hE⟩ := made_spec (x := .lst 22 [p.av, q.av] []) (ps := [p, q]) (.inr ⟨[], rfl⟩) hok (by simp) hln (by omega) H2
    rcases hy with ⟨⟨r, hr, hro⟩, _⟩ | ⟨hg, out, hout, rfl⟩
    · rw [hor r hr] at hro; cases hro
    · have := made_len hg hout
      exact ⟨out, E, hout, by omega, hE⟩
  obtain ⟨a, E1, ha, hal, hE1⟩ := two q1 q3 x vo l ol q1a q3a q1l q3l q1o q3o hl hol o1 o3 H
  obtain ⟨b, E2, hb, hbl, hE2⟩ := two q2 q3 vf vo fl ol q2a q3a q2l q3l q2o q3o (by omega) hol o2 o3 (H ++ E1)
  have hsame := hat a b ha hb
  have hab : ∀ n, isMark ms n → Gv 25 [built 39 (a.map Row.enc), built 39 (b.map Row.enc), .int .u64 n] (.bool true) := fun n hn =>
    alike_spec (built_out a).rows (built_out b).rows (by omega) (by omega) (of_ordA ha.1) (of_ordA hb.1) (hsame n hn) (by
      rw [at_filter (of_ordA hb.1)]
      have h1 := List.length_filter_le (hasB b n) b
      rw [List.length_map]; omega)
  have hva := built_out a
  have hvb := built_out b
  revert hE1 hE2 hab hva hvb
  generalize built 39 (a.map Row.enc) = va
  generalize built 39 (b.map Row.enc) = vb
  intro hE1 hE2 hab hva hvb
  obtain ⟨E3, hE3⟩ := hab maxU (.inl rfl) ((H ++ E1) ++ E2) []
  have hmm : More H0 (((H ++ E1) ++ E2) ++ E3) := ((hm.trans (More.app _ E1)).trans (More.app _ E2)).trans (More.app _ E3)
  have hml : ∀ sm, L Try.prog K0 (K0.vars 9) 147 c9b [(2, .lst 23 (ms.map (AV.int .u64)) sm), (15, va), (17, vb), (19, .int .i64 ((0 : Nat) : Int))] (((H ++ E1) ++ E2) ++ E3) [] []
      fun e env H' sl cl => More (((H ++ E1) ++ E2) ++ E3) H' ∧ cl = [] ∧ sl = [] ∧ e = .exit 2 ∧ ∃ v2 v15 v17 v19 v135, env = [(2, v2), (15, v15), (17, v17), (19, v19), (135, v135)] := fun sm => marks_loop hva hvb ms sm (by omega) (fun n hn => hab n (.inr hn)) [] ms.length 0 _ rfl
  have hz0 : l = [] → fl.length ≤ 0 := fun e => by rw [e] at hfl; exact hfl
  clear two hat hsame hab q1a q2a q3a
  rcases hx with ⟨rfl, hl0⟩ | ⟨_, rfl⟩ <;> rcases hf with ⟨rfl, _⟩ | ⟨_, rfl⟩ <;> rcases ho with ⟨rfl, _⟩ | ⟨_, rfl⟩ <;> rcases hva with ⟨rfl, _⟩ | rfl <;> rcases hvb with ⟨rfl, _⟩ | rfl <;> rcases hz with ⟨rfl, _⟩ | ⟨sm, rfl⟩
  · refine And.intro rfl (Exists.intro _ (Exists.intro _ (Exists.intro _ (And.intro hE1 ?_))))
    refine And.intro rfl (Exists.intro _ (Exists.intro _ (Exists.intro _ (And.intro hE2 ?_))))
    refine And.intro (fun h => by cases h) (fun _ => ?_)
    refine And.intro (fun h => by cases h) (fun _ => ?_)
    refine And.intro (fun h => False.elim (by first | exact gt_ll hfl h | exact gt_n h | exact gt_ln (hz0 hl0) h | cases h)) (fun _ => ?_)
    refine And.intro rfl (Exists.intro _ (Exists.intro _ (Exists.intro _ (And.intro hE3 ?_))))
    refine And.intro (fun h => by cases h) (fun _ => ?_)
    refine L_round ?_
    refine And.intro (fun h => by cases h) (fun _ => ?_)
    refine And.intro rfl (Exists.intro _ (Exists.intro _ (Exists.intro _ (And.intro (awake_spec _ []) ?_))))
    exact Exists.intro _ (And.intro rfl (And.intro rfl (And.intro hmm rfl)))
  · refine And.intro rfl (Exists.intro _ (Exists.intro _ (Exists.intro _ (And.intro hE1 ?_))))
    refine And.intro rfl (Exists.intro _ (Exists.intro _ (Exists.intro _ (And.intro hE2 ?_))))
    refine And.intro (fun h => by cases h) (fun _ => ?_)
    refine And.intro (fun h => by cases h) (fun _ => ?_)
    refine And.intro (fun h => False.elim (by first | exact gt_ll hfl h | exact gt_n h | exact gt_ln (hz0 hl0) h | cases h)) (fun _ => ?_)
    refine And.intro rfl (Exists.intro _ (Exists.intro _ (Exists.intro _ (And.intro hE3 ?_))))
    refine And.intro (fun h => by cases h) (fun _ => ?_)
    refine L_mono (hml sm) ?_
    rintro e env H' sl cl ⟨h1, rfl, rfl, rfl, v2, v15, v17, v19, v135, rfl⟩
    refine And.intro rfl (Exists.intro _ (Exists.intro _ (Exists.intro _ (And.intro (awake_spec _ []) ?_))))
    exact Exists.intro _ (And.intro rfl (And.intro rfl (And.intro (hmm.trans h1) rfl)))
  · refine And.intro rfl (Exists.intro _ (Exists.intro _ (Exists.intro _ (And.intro hE1 ?_))))
    refine And.intro rfl (Exists.intro _ (Exists.intro _ (Exists.intro _ (And.intro hE2 ?_))))
    refine And.intro (fun h => by cases h) (fun _ => ?_)
    refine And.intro (fun h => by cases h) (fun _ => ?_)
    refine And.intro (fun h => False.elim (by first | exact gt_ll hfl h | exact gt_n h | exact gt_ln (hz0 hl0) h | cases h)) (fun _ => ?_)
    refine And.intro rfl (Exists.intro _ (Exists.intro _ (Exists.intro _ (And.intro hE3 ?_))))
    refine And.intro (fun h => by cases h) (fun _ => ?_)
    refine L_round ?_
    refine And.intro (fun h => by cases h) (fun _ => ?_)
    refine And.intro rfl (Exists.intro _ (Exists.intro _ (Exists.intro _ (And.intro (awake_spec _ []) ?_))))
    exact Exists.intro _ (And.intro rfl (And.intro rfl (And.intro hmm rfl)))
  · refine And.intro rfl (Exists.intro _ (Exists.intro _ (Exists.intro _ (And.intro hE1 ?_))))
    refine And.intro rfl (Exists.intro _ (Exists.intro _ (Exists.intro _ (And.intro hE2 ?_))))
    refine And.intro (fun h => by cases h) (fun _ => ?_)
    refine And.intro (fun h => by cases h) (fun _ => ?_)
    refine And.intro (fun h => False.elim (by first | exact gt_ll hfl h | exact gt_n h | exact gt_ln (hz0 hl0) h | cases h)) (fun _ => ?_)
    refine And.intro rfl (Exists.intro _ (Exists.intro _ (Exists.intro _ (And.intro hE3 ?_))))
    refine And.intro (fun h => by cases h) (fun _ => ?_)
    refine L_mono (hml sm) ?_
    rintro e env H' sl cl ⟨h1, rfl, rfl, rfl, v2, v15, v17, v19, v135, rfl⟩
    refine And.intro rfl (Exists.intro _ (Exists.intro _ (Exists.intro _ (And.intro (awake_spec _ []) ?_))))
    exact Exists.intro _ (And.intro rfl (And.intro rfl (And.intro (hmm.trans h1) rfl)))
  · refine And.intro rfl (Exists.intro _ (Exists.intro _ (Exists.intro _ (And.intro hE1 ?_))))
    refine And.intro rfl (Exists.intro _ (Exists.intro _ (Exists.intro _ (And.intro hE2 ?_))))
    refine And.intro (fun h => by cases h) (fun _ => ?_)
    refine And.intro (fun h => by cases h) (fun _ => ?_)
    refine And.intro (fun h => False.elim (by first | exact gt_ll hfl h | exact gt_n h | exact gt_ln (hz0 hl0) h | cases h)) (fun _ => ?_)
    refine And.intro rfl (Exists.intro _ (Exists.intro _ (Exists.intro _ (And.intro hE3 ?_))))
    refine And.intro (fun h => by cases h) (fun _ => ?_)
    refine L_round ?_
    refine And.intro (fun h => by cases h) (fun _ => ?_)
    refine And.intro rfl (Exists.intro _ (Exists.intro _ (Exists.intro _ (And.intro (awake_spec _ []) ?_))))
    exact Exists.intro _ (And.intro rfl (And.intro rfl (And.intro hmm rfl)))
  · refine And.intro rfl (Exists.intro _ (Exists.intro _ (Exists.intro _ (And.intro hE1 ?_))))
    refine And.intro rfl (Exists.intro _ (Exists.intro _ (Exists.intro _ (And.intro hE2 ?_))))
    refine And.intro (fun h => by cases h) (fun _ => ?_)
    refine And.intro (fun h => by cases h) (fun _ => ?_)
    refine And.intro (fun h => False.elim (by first | exact gt_ll hfl h | exact gt_n h | exact gt_ln (hz0 hl0) h | cases h)) (fun _ => ?_)
    refine And.intro rfl (Exists.intro _ (Exists.intro _ (Exists.intro _ (And.intro hE3 ?_))))
    refine And.intro (fun h => by cases h) (fun _ => ?_)
    refine L_mono (hml sm) ?_
    rintro e env H' sl cl ⟨h1, rfl, rfl, rfl, v2, v15, v17, v19, v135, rfl⟩
    refine And.intro rfl (Exists.intro _ (Exists.intro _ (Exists.intro _ (And.intro (awake_spec _ []) ?_))))
    exact Exists.intro _ (And.intro rfl (And.intro rfl (And.intro (hmm.trans h1) rfl)))
  · refine And.intro rfl (Exists.intro _ (Exists.intro _ (Exists.intro _ (And.intro hE1 ?_))))
    refine And.intro rfl (Exists.intro _ (Exists.intro _ (Exists.intro _ (And.intro hE2 ?_))))
    refine And.intro (fun h => by cases h) (fun _ => ?_)
    refine And.intro (fun h => by cases h) (fun _ => ?_)
    refine And.intro (fun h => False.elim (by first | exact gt_ll hfl h | exact gt_n h | exact gt_ln (hz0 hl0) h | cases h)) (fun _ => ?_)
    refine And.intro rfl (Exists.intro _ (Exists.intro _ (Exists.intro _ (And.intro hE3 ?_))))
    refine And.intro (fun h => by cases h) (fun _ => ?_)
    refine L_round ?_
    refine And.intro (fun h => by cases h) (fun _ => ?_)
    refine And.intro rfl (Exists.intro _ (Exists.intro _ (Exists.intro _ (And.intro (awake_spec _ []) ?_))))
    exact Exists.intro _ (And.intro rfl (And.intro rfl (And.intro hmm rfl)))
  · refine And.intro rfl (Exists.intro _ (Exists.intro _ (Exists.intro _ (And.intro hE1 ?_))))
    refine And.intro rfl (Exists.intro _ (Exists.intro _ (Exists.intro _ (And.intro hE2 ?_))))
    refine And.intro (fun h => by cases h) (fun _ => ?_)
    refine And.intro (fun h => by cases h) (fun _ => ?_)
    refine And.intro (fun h => False.elim (by first | exact gt_ll hfl h | exact gt_n h | exact gt_ln (hz0 hl0) h | cases h)) (fun _ => ?_)
    refine And.intro rfl (Exists.intro _ (Exists.intro _ (Exists.intro _ (And.intro hE3 ?_))))
    refine And.intro (fun h => by cases h) (fun _ => ?_)
    refine L_mono (hml sm) ?_
    rintro e env H' sl cl ⟨h1, rfl, rfl, rfl, v2, v15, v17, v19, v135, rfl⟩
    refine And.intro rfl (Exists.intro _ (Exists.intro _ (Exists.intro _ (And.intro (awake_spec _ []) ?_))))
    exact Exists.intro _ (And.intro rfl (And.intro rfl (And.intro (hmm.trans h1) rfl)))
  · refine And.intro rfl (Exists.intro _ (Exists.intro _ (Exists.intro _ (And.intro hE1 ?_))))
    refine And.intro rfl (Exists.intro _ (Exists.intro _ (Exists.intro _ (And.intro hE2 ?_))))
    refine And.intro (fun h => by cases h) (fun _ => ?_)
    refine And.intro (fun h => by cases h) (fun _ => ?_)
    refine And.intro (fun h => False.elim (by first | exact gt_ll hfl h | exact gt_n h | exact gt_ln (hz0 hl0) h | cases h)) (fun _ => ?_)
    refine And.intro rfl (Exists.intro _ (Exists.intro _ (Exists.intro _ (And.intro hE3 ?_))))
    refine And.intro (fun h => by cases h) (fun _ => ?_)
    refine L_round ?_
    refine And.intro (fun h => by cases h) (fun _ => ?_)
    refine And.intro rfl (Exists.intro _ (Exists.intro _ (Exists.intro _ (And.intro (awake_spec _ []) ?_))))
    exact Exists.intro _ (And.intro rfl (And.intro rfl (And.intro hmm rfl)))
  · refine And.intro rfl (Exists.intro _ (Exists.intro _ (Exists.intro _ (And.intro hE1 ?_))))
    refine And.intro rfl (Exists.intro _ (Exists.intro _ (Exists.intro _ (And.intro hE2 ?_))))
    refine And.intro (fun h => by cases h) (fun _ => ?_)
    refine And.intro (fun h => by cases h) (fun _ => ?_)
    refine And.intro (fun h => False.elim (by first | exact gt_ll hfl h | exact gt_n h | exact gt_ln (hz0 hl0) h | cases h)) (fun _ => ?_)
    refine And.intro rfl (Exists.intro _ (Exists.intro _ (Exists.intro _ (And.intro hE3 ?_))))
    refine And.intro (fun h => by cases h) (fun _ => ?_)
    refine L_mono (hml sm) ?_
    rintro e env H' sl cl ⟨h1, rfl, rfl, rfl, v2, v15, v17, v19, v135, rfl⟩
    refine And.intro rfl (Exists.intro _ (Exists.intro _ (Exists.intro _ (And.intro (awake_spec _ []) ?_))))
    exact Exists.intro _ (And.intro rfl (And.intro rfl (And.intro (hmm.trans h1) rfl)))
  · refine And.intro rfl (Exists.intro _ (Exists.intro _ (Exists.intro _ (And.intro hE1 ?_))))
    refine And.intro rfl (Exists.intro _ (Exists.intro _ (Exists.intro _ (And.intro hE2 ?_))))
    refine And.intro (fun h => by cases h) (fun _ => ?_)
    refine And.intro (fun h => by cases h) (fun _ => ?_)
    refine And.intro (fun h => False.elim (by first | exact gt_ll hfl h | exact gt_n h | exact gt_ln (hz0 hl0) h | cases h)) (fun _ => ?_)
    refine And.intro rfl (Exists.intro _ (Exists.intro _ (Exists.intro _ (And.intro hE3 ?_))))
    refine And.intro (fun h => by cases h) (fun _ => ?_)
    refine L_round ?_
    refine And.intro (fun h => by cases h) (fun _ => ?_)
    refine And.intro rfl (Exists.intro _ (Exists.intro _ (Exists.intro _ (And.intro (awake_spec _ []) ?_))))
    exact Exists.intro _ (And.intro rfl (And.intro rfl (And.intro hmm rfl)))
  · refine And.intro rfl (Exists.intro _ (Exists.intro _ (Exists.intro _ (And.intro hE1 ?_))))
    refine And.intro rfl (Exists.intro _ (Exists.intro _ (Exists.intro _ (And.intro hE2 ?_))))
    refine And.intro (fun h => by cases h) (fun _ => ?_)
    refine And.intro (fun h => by cases h) (fun _ => ?_)
    refine And.intro (fun h => False.elim (by first | exact gt_ll hfl h | exact gt_n h | exact gt_ln (hz0 hl0) h | cases h)) (fun _ => ?_)
    refine And.intro rfl (Exists.intro _ (Exists.intro _ (Exists.intro _ (And.intro hE3 ?_))))
    refine And.intro (fun h => by cases h) (fun _ => ?_)
    refine L_mono (hml sm) ?_
    rintro e env H' sl cl ⟨h1, rfl, rfl, rfl, v2, v15, v17, v19, v135, rfl⟩
    refine And.intro rfl (Exists.intro _ (Exists.intro _ (Exists.intro _ (And.intro (awake_spec _ []) ?_))))
    exact Exists.intro _ (And.intro rfl (And.intro rfl (And.intro (hmm.trans h1) rfl)))
  · refine And.intro rfl (Exists.intro _ (Exists.intro _ (Exists.intro _ (And.intro hE1 ?_))))
    refine And.intro rfl (Exists.intro _ (Exists.intro _ (Exists.intro _ (And.intro hE2 ?_))))
    refine And.intro (fun h => by cases h) (fun _ => ?_)
    refine And.intro (fun h => by cases h) (fun _ => ?_)
    refine And.intro (fun h => False.elim (by first | exact gt_ll hfl h | exact gt_n h | exact gt_ln (hz0 hl0) h | cases h)) (fun _ => ?_)
    refine And.intro rfl (Exists.intro _ (Exists.intro _ (Exists.intro _ (And.intro hE3 ?_))))
    refine And.intro (fun h => by cases h) (fun _ => ?_)
    refine L_round ?_
    refine And.intro (fun h => by cases h) (fun _ => ?_)
    refine And.intro rfl (Exists.intro _ (Exists.intro _ (Exists.intro _ (And.intro (awake_spec _ []) ?_))))
    exact Exists.intro _ (And.intro rfl (And.intro rfl (And.intro hmm rfl)))
  · refine And.intro rfl (Exists.intro _ (Exists.intro _ (Exists.intro _ (And.intro hE1 ?_))))
    refine And.intro rfl (Exists.intro _ (Exists.intro _ (Exists.intro _ (And.intro hE2 ?_))))
    refine And.intro (fun h => by cases h) (fun _ => ?_)
    refine And.intro (fun h => by cases h) (fun _ => ?_)
    refine And.intro (fun h => False.elim (by first | exact gt_ll hfl h | exact gt_n h | exact gt_ln (hz0 hl0) h | cases h)) (fun _ => ?_)
    refine And.intro rfl (Exists.intro _ (Exists.intro _ (Exists.intro _ (And.intro hE3 ?_))))
    refine And.intro (fun h => by cases h) (fun _ => ?_)
    refine L_mono (hml sm) ?_
    rintro e env H' sl cl ⟨h1, rfl, rfl, rfl, v2, v15, v17, v19, v135, rfl⟩
    refine And.intro rfl (Exists.intro _ (Exists.intro _ (Exists.intro _ (And.intro (awake_spec _ []) ?_))))
    exact Exists.intro _ (And.intro rfl (And.intro rfl (And.intro (hmm.trans h1) rfl)))
  · refine And.intro rfl (Exists.intro _ (Exists.intro _ (Exists.intro _ (And.intro hE1 ?_))))
    refine And.intro rfl (Exists.intro _ (Exists.intro _ (Exists.intro _ (And.intro hE2 ?_))))
    refine And.intro (fun h => by cases h) (fun _ => ?_)
    refine And.intro (fun h => by cases h) (fun _ => ?_)
    refine And.intro (fun h => False.elim (by first | exact gt_ll hfl h | exact gt_n h | exact gt_ln (hz0 hl0) h | cases h)) (fun _ => ?_)
    refine And.intro rfl (Exists.intro _ (Exists.intro _ (Exists.intro _ (And.intro hE3 ?_))))
    refine And.intro (fun h => by cases h) (fun _ => ?_)
    refine L_round ?_
    refine And.intro (fun h => by cases h) (fun _ => ?_)
    refine And.intro rfl (Exists.intro _ (Exists.intro _ (Exists.intro _ (And.intro (awake_spec _ []) ?_))))
    exact Exists.intro _ (And.intro rfl (And.intro rfl (And.intro hmm rfl)))
  · refine And.intro rfl (Exists.intro _ (Exists.intro _ (Exists.intro _ (And.intro hE1 ?_))))
    refine And.intro rfl (Exists.intro _ (Exists.intro _ (Exists.intro _ (And.intro hE2 ?_))))
    refine And.intro (fun h => by cases h) (fun _ => ?_)
    refine And.intro (fun h => by cases h) (fun _ => ?_)
    refine And.intro (fun h => False.elim (by first | exact gt_ll hfl h | exact gt_n h | exact gt_ln (hz0 hl0) h | cases h)) (fun _ => ?_)
    refine And.intro rfl (Exists.intro _ (Exists.intro _ (Exists.intro _ (And.intro hE3 ?_))))
    refine And.intro (fun h => by cases h) (fun _ => ?_)
    refine L_mono (hml sm) ?_
    rintro e env H' sl cl ⟨h1, rfl, rfl, rfl, v2, v15, v17, v19, v135, rfl⟩
    refine And.intro rfl (Exists.intro _ (Exists.intro _ (Exists.intro _ (And.intro (awake_spec _ []) ?_))))
    exact Exists.intro _ (And.intro rfl (And.intro rfl (And.intro (hmm.trans h1) rfl)))
  · refine And.intro rfl (Exists.intro _ (Exists.intro _ (Exists.intro _ (And.intro hE1 ?_))))
    refine And.intro rfl (Exists.intro _ (Exists.intro _ (Exists.intro _ (And.intro hE2 ?_))))
    refine And.intro (fun h => by cases h) (fun _ => ?_)
    refine And.intro (fun h => by cases h) (fun _ => ?_)
    refine And.intro (fun h => False.elim (by first | exact gt_ll hfl h | exact gt_n h | exact gt_ln (hz0 hl0) h | cases h)) (fun _ => ?_)
    refine And.intro rfl (Exists.intro _ (Exists.intro _ (Exists.intro _ (And.intro hE3 ?_))))
    refine And.intro (fun h => by cases h) (fun _ => ?_)
    refine L_round ?_
    refine And.intro (fun h => by cases h) (fun _ => ?_)
    refine And.intro rfl (Exists.intro _ (Exists.intro _ (Exists.intro _ (And.intro (awake_spec _ []) ?_))))
    exact Exists.intro _ (And.intro rfl (And.intro rfl (And.intro hmm rfl)))
  · refine And.intro rfl (Exists.intro _ (Exists.intro _ (Exists.intro _ (And.intro hE1 ?_))))
    refine And.intro rfl (Exists.intro _ (Exists.intro _ (Exists.intro _ (And.intro hE2 ?_))))
    refine And.intro (fun h => by cases h) (fun _ => ?_)
    refine And.intro (fun h => by cases h) (fun _ => ?_)
    refine And.intro (fun h => False.elim (by first | exact gt_ll hfl h | exact gt_n h | exact gt_ln (hz0 hl0) h | cases h)) (fun _ => ?_)
    refine And.intro rfl (Exists.intro _ (Exists.intro _ (Exists.intro _ (And.intro hE3 ?_))))
    refine And.intro (fun h => by cases h) (fun _ => ?_)
    refine L_mono (hml sm) ?_
    rintro e env H' sl cl ⟨h1, rfl, rfl, rfl, v2, v15, v17, v19, v135, rfl⟩
    refine And.intro rfl (Exists.intro _ (Exists.intro _ (Exists.intro _ (And.intro (awake_spec _ []) ?_))))
    exact Exists.intro _ (And.intro rfl (And.intro rfl (And.intro (hmm.trans h1) rfl)))
  · refine And.intro rfl (Exists.intro _ (Exists.intro _ (Exists.intro _ (And.intro hE1 ?_))))
    refine And.intro rfl (Exists.intro _ (Exists.intro _ (Exists.intro _ (And.intro hE2 ?_))))
    refine And.intro (fun h => by cases h) (fun _ => ?_)
    refine And.intro (fun h => by cases h) (fun _ => ?_)
    refine And.intro (fun h => False.elim (by first | exact gt_ll hfl h | exact gt_n h | exact gt_ln (hz0 hl0) h | cases h)) (fun _ => ?_)
    refine And.intro rfl (Exists.intro _ (Exists.intro _ (Exists.intro _ (And.intro hE3 ?_))))
    refine And.intro (fun h => by cases h) (fun _ => ?_)
    refine L_round ?_
    refine And.intro (fun h => by cases h) (fun _ => ?_)
    refine And.intro rfl (Exists.intro _ (Exists.intro _ (Exists.intro _ (And.intro (awake_spec _ []) ?_))))
    exact Exists.intro _ (And.intro rfl (And.intro rfl (And.intro hmm rfl)))
  · refine And.intro rfl (Exists.intro _ (Exists.intro _ (Exists.intro _ (And.intro hE1 ?_))))
    refine And.intro rfl (Exists.intro _ (Exists.intro _ (Exists.intro _ (And.intro hE2 ?_))))
    refine And.intro (fun h => by cases h) (fun _ => ?_)
    refine And.intro (fun h => by cases h) (fun _ => ?_)
    refine And.intro (fun h => False.elim (by first | exact gt_ll hfl h | exact gt_n h | exact gt_ln (hz0 hl0) h | cases h)) (fun _ => ?_)
    refine And.intro rfl (Exists.intro _ (Exists.intro _ (Exists.intro _ (And.intro hE3 ?_))))
    refine And.intro (fun h => by cases h) (fun _ => ?_)
    refine L_mono (hml sm) ?_
    rintro e env H' sl cl ⟨h1, rfl, rfl, rfl, v2, v15, v17, v19, v135, rfl⟩
    refine And.intro rfl (Exists.intro _ (Exists.intro _ (Exists.intro _ (And.intro (awake_spec _ []) ?_))))
    exact Exists.intro _ (And.intro rfl (And.intro rfl (And.intro (hmm.trans h1) rfl)))
  · refine And.intro rfl (Exists.intro _ (Exists.intro _ (Exists.intro _ (And.intro hE1 ?_))))
    refine And.intro rfl (Exists.intro _ (Exists.intro _ (Exists.intro _ (And.intro hE2 ?_))))
    refine And.intro (fun h => by cases h) (fun _ => ?_)
    refine And.intro (fun h => by cases h) (fun _ => ?_)
    refine And.intro (fun h => False.elim (by first | exact gt_ll hfl h | exact gt_n h | exact gt_ln (hz0 hl0) h | cases h)) (fun _ => ?_)
    refine And.intro rfl (Exists.intro _ (Exists.intro _ (Exists.intro _ (And.intro hE3 ?_))))
    refine And.intro (fun h => by cases h) (fun _ => ?_)
    refine L_round ?_
    refine And.intro (fun h => by cases h) (fun _ => ?_)
    refine And.intro rfl (Exists.intro _ (Exists.intro _ (Exists.intro _ (And.intro (awake_spec _ []) ?_))))
    exact Exists.intro _ (And.intro rfl (And.intro rfl (And.intro hmm rfl)))
  · refine And.intro rfl (Exists.intro _ (Exists.intro _ (Exists.intro _ (And.intro hE1 ?_))))
    refine And.intro rfl (Exists.intro _ (Exists.intro _ (Exists.intro _ (And.intro hE2 ?_))))
    refine And.intro (fun h => by cases h) (fun _ => ?_)
    refine And.intro (fun h => by cases h) (fun _ => ?_)
    refine And.intro (fun h => False.elim (by first | exact gt_ll hfl h | exact gt_n h | exact gt_ln (hz0 hl0) h | cases h)) (fun _ => ?_)
    refine And.intro rfl (Exists.intro _ (Exists.intro _ (Exists.intro _ (And.intro hE3 ?_))))
    refine And.intro (fun h => by cases h) (fun _ => ?_)
    refine L_mono (hml sm) ?_
    rintro e env H' sl cl ⟨h1, rfl, rfl, rfl, v2, v15, v17, v19, v135, rfl⟩
    refine And.intro rfl (Exists.intro _ (Exists.intro _ (Exists.intro _ (And.intro (awake_spec _ []) ?_))))
    exact Exists.intro _ (And.intro rfl (And.intro rfl (And.intro (hmm.trans h1) rfl)))
  · refine And.intro rfl (Exists.intro _ (Exists.intro _ (Exists.intro _ (And.intro hE1 ?_))))
    refine And.intro rfl (Exists.intro _ (Exists.intro _ (Exists.intro _ (And.intro hE2 ?_))))
    refine And.intro (fun h => by cases h) (fun _ => ?_)
    refine And.intro (fun h => by cases h) (fun _ => ?_)
    refine And.intro (fun h => False.elim (by first | exact gt_ll hfl h | exact gt_n h | exact gt_ln (hz0 hl0) h | cases h)) (fun _ => ?_)
    refine And.intro rfl (Exists.intro _ (Exists.intro _ (Exists.intro _ (And.intro hE3 ?_))))
    refine And.intro (fun h => by cases h) (fun _ => ?_)
    refine L_round ?_
    refine And.intro (fun h => by cases h) (fun _ => ?_)
    refine And.intro rfl (Exists.intro _ (Exists.intro _ (Exists.intro _ (And.intro (awake_spec _ []) ?_))))
    exact Exists.intro _ (And.intro rfl (And.intro rfl (And.intro hmm rfl)))
  · refine And.intro rfl (Exists.intro _ (Exists.intro _ (Exists.intro _ (And.intro hE1 ?_))))
    refine And.intro rfl (Exists.intro _ (Exists.intro _ (Exists.intro _ (And.intro hE2 ?_))))
    refine And.intro (fun h => by cases h) (fun _ => ?_)
    refine And.intro (fun h => by cases h) (fun _ => ?_)
    refine And.intro (fun h => False.elim (by first | exact gt_ll hfl h | exact gt_n h | exact gt_ln (hz0 hl0) h | cases h)) (fun _ => ?_)
    refine And.intro rfl (Exists.intro _ (Exists.intro _ (Exists.intro _ (And.intro hE3 ?_))))
    refine And.intro (fun h => by cases h) (fun _ => ?_)
    refine L_mono (hml sm) ?_
    rintro e env H' sl cl ⟨h1, rfl, rfl, rfl, v2, v15, v17, v19, v135, rfl⟩
    refine And.intro rfl (Exists.intro _ (Exists.intro _ (Exists.intro _ (And.intro (awake_spec _ []) ?_))))
    exact Exists.intro _ (And.intro rfl (And.intro rfl (And.intro (hmm.trans h1) rfl)))
  · refine And.intro rfl (Exists.intro _ (Exists.intro _ (Exists.intro _ (And.intro hE1 ?_))))
    refine And.intro rfl (Exists.intro _ (Exists.intro _ (Exists.intro _ (And.intro hE2 ?_))))
    refine And.intro (fun h => by cases h) (fun _ => ?_)
    refine And.intro (fun h => by cases h) (fun _ => ?_)
    refine And.intro (fun h => False.elim (by first | exact gt_ll hfl h | exact gt_n h | exact gt_ln (hz0 hl0) h | cases h)) (fun _ => ?_)
    refine And.intro rfl (Exists.intro _ (Exists.intro _ (Exists.intro _ (And.intro hE3 ?_))))
    refine And.intro (fun h => by cases h) (fun _ => ?_)
    refine L_round ?_
    refine And.intro (fun h => by cases h) (fun _ => ?_)
    refine And.intro rfl (Exists.intro _ (Exists.intro _ (Exists.intro _ (And.intro (awake_spec _ []) ?_))))
    exact Exists.intro _ (And.intro rfl (And.intro rfl (And.intro hmm rfl)))
  · refine And.intro rfl (Exists.intro _ (Exists.intro _ (Exists.intro _ (And.intro hE1 ?_))))
    refine And.intro rfl (Exists.intro _ (Exists.intro _ (Exists.intro _ (And.intro hE2 ?_))))
    refine And.intro (fun h => by cases h) (fun _ => ?_)
    refine And.intro (fun h => by cases h) (fun _ => ?_)
    refine And.intro (fun h => False.elim (by first | exact gt_ll hfl h | exact gt_n h | exact gt_ln (hz0 hl0) h | cases h)) (fun _ => ?_)
    refine And.intro rfl (Exists.intro _ (Exists.intro _ (Exists.intro _ (And.intro hE3 ?_))))
    refine And.intro (fun h => by cases h) (fun _ => ?_)
    refine L_mono (hml sm) ?_
    rintro e env H' sl cl ⟨h1, rfl, rfl, rfl, v2, v15, v17, v19, v135, rfl⟩
    refine And.intro rfl (Exists.intro _ (Exists.intro _ (Exists.intro _ (And.intro (awake_spec _ []) ?_))))
    exact Exists.intro _ (And.intro rfl (And.intro rfl (And.intro (hmm.trans h1) rfl)))
  · refine And.intro rfl (Exists.intro _ (Exists.intro _ (Exists.intro _ (And.intro hE1 ?_))))
    refine And.intro rfl (Exists.intro _ (Exists.intro _ (Exists.intro _ (And.intro hE2 ?_))))
    refine And.intro (fun h => by cases h) (fun _ => ?_)
    refine And.intro (fun h => by cases h) (fun _ => ?_)
    refine And.intro (fun h => False.elim (by first | exact gt_ll hfl h | exact gt_n h | exact gt_ln (hz0 hl0) h | cases h)) (fun _ => ?_)
    refine And.intro rfl (Exists.intro _ (Exists.intro _ (Exists.intro _ (And.intro hE3 ?_))))
    refine And.intro (fun h => by cases h) (fun _ => ?_)
    refine L_round ?_
    refine And.intro (fun h => by cases h) (fun _ => ?_)
    refine And.intro rfl (Exists.intro _ (Exists.intro _ (Exists.intro _ (And.intro (awake_spec _ []) ?_))))
    exact Exists.intro _ (And.intro rfl (And.intro rfl (And.intro hmm rfl)))
  · refine And.intro rfl (Exists.intro _ (Exists.intro _ (Exists.intro _ (And.intro hE1 ?_))))
    refine And.intro rfl (Exists.intro _ (Exists.intro _ (Exists.intro _ (And.intro hE2 ?_))))
    refine And.intro (fun h => by cases h) (fun _ => ?_)
    refine And.intro (fun h => by cases h) (fun _ => ?_)
    refine And.intro (fun h => False.elim (by first | exact gt_ll hfl h | exact gt_n h | exact gt_ln (hz0 hl0) h | cases h)) (fun _ => ?_)
    refine And.intro rfl (Exists.intro _ (Exists.intro _ (Exists.intro _ (And.intro hE3 ?_))))
    refine And.intro (fun h => by cases h) (fun _ => ?_)
    refine L_mono (hml sm) ?_
    rintro e env H' sl cl ⟨h1, rfl, rfl, rfl, v2, v15, v17, v19, v135, rfl⟩
    refine And.intro rfl (Exists.intro _ (Exists.intro _ (Exists.intro _ (And.intro (awake_spec _ []) ?_))))
    exact Exists.intro _ (And.intro rfl (And.intro rfl (And.intro (hmm.trans h1) rfl)))
  · refine And.intro rfl (Exists.intro _ (Exists.intro _ (Exists.intro _ (And.intro hE1 ?_))))
    refine And.intro rfl (Exists.intro _ (Exists.intro _ (Exists.intro _ (And.intro hE2 ?_))))
    refine And.intro (fun h => by cases h) (fun _ => ?_)
    refine And.intro (fun h => by cases h) (fun _ => ?_)
    refine And.intro (fun h => False.elim (by first | exact gt_ll hfl h | exact gt_n h | exact gt_ln (hz0 hl0) h | cases h)) (fun _ => ?_)
    refine And.intro rfl (Exists.intro _ (Exists.intro _ (Exists.intro _ (And.intro hE3 ?_))))
    refine And.intro (fun h => by cases h) (fun _ => ?_)
    refine L_round ?_
    refine And.intro (fun h => by cases h) (fun _ => ?_)
    refine And.intro rfl (Exists.intro _ (Exists.intro _ (Exists.intro _ (And.intro (awake_spec _ []) ?_))))
    exact Exists.intro _ (And.intro rfl (And.intro rfl (And.intro hmm rfl)))
  · refine And.intro rfl (Exists.intro _ (Exists.intro _ (Exists.intro _ (And.intro hE1 ?_))))
    refine And.intro rfl (Exists.intro _ (Exists.intro _ (Exists.intro _ (And.intro hE2 ?_))))
    refine And.intro (fun h => by cases h) (fun _ => ?_)
    refine And.intro (fun h => by cases h) (fun _ => ?_)
    refine And.intro (fun h => False.elim (by first | exact gt_ll hfl h | exact gt_n h | exact gt_ln (hz0 hl0) h | cases h)) (fun _ => ?_)
    refine And.intro rfl (Exists.intro _ (Exists.intro _ (Exists.intro _ (And.intro hE3 ?_))))
    refine And.intro (fun h => by cases h) (fun _ => ?_)
    refine L_mono (hml sm) ?_
    rintro e env H' sl cl ⟨h1, rfl, rfl, rfl, v2, v15, v17, v19, v135, rfl⟩
    refine And.intro rfl (Exists.intro _ (Exists.intro _ (Exists.intro _ (And.intro (awake_spec _ []) ?_))))
    exact Exists.intro _ (And.intro rfl (And.intro rfl (And.intro (hmm.trans h1) rfl)))
  · refine And.intro rfl (Exists.intro _ (Exists.intro _ (Exists.intro _ (And.intro hE1 ?_))))
    refine And.intro rfl (Exists.intro _ (Exists.intro _ (Exists.intro _ (And.intro hE2 ?_))))
    refine And.intro (fun h => by cases h) (fun _ => ?_)
    refine And.intro (fun h => by cases h) (fun _ => ?_)
    refine And.intro (fun h => False.elim (by first | exact gt_ll hfl h | exact gt_n h | exact gt_ln (hz0 hl0) h | cases h)) (fun _ => ?_)
    refine And.intro rfl (Exists.intro _ (Exists.intro _ (Exists.intro _ (And.intro hE3 ?_))))
    refine And.intro (fun h => by cases h) (fun _ => ?_)
    refine L_round ?_
    refine And.intro (fun h => by cases h) (fun _ => ?_)
    refine And.intro rfl (Exists.intro _ (Exists.intro _ (Exists.intro _ (And.intro (awake_spec _ []) ?_))))
    exact Exists.intro _ (And.intro rfl (And.intro rfl (And.intro hmm rfl)))
  · refine And.intro rfl (Exists.intro _ (Exists.intro _ (Exists.intro _ (And.intro hE1 ?_))))
    refine And.intro rfl (Exists.intro _ (Exists.intro _ (Exists.intro _ (And.intro hE2 ?_))))
    refine And.intro (fun h => by cases h) (fun _ => ?_)
    refine And.intro (fun h => by cases h) (fun _ => ?_)
    refine And.intro (fun h => False.elim (by first | exact gt_ll hfl h | exact gt_n h | exact gt_ln (hz0 hl0) h | cases h)) (fun _ => ?_)
    refine And.intro rfl (Exists.intro _ (Exists.intro _ (Exists.intro _ (And.intro hE3 ?_))))
    refine And.intro (fun h => by cases h) (fun _ => ?_)
    refine L_mono (hml sm) ?_
    rintro e env H' sl cl ⟨h1, rfl, rfl, rfl, v2, v15, v17, v19, v135, rfl⟩
    refine And.intro rfl (Exists.intro _ (Exists.intro _ (Exists.intro _ (And.intro (awake_spec _ []) ?_))))
    exact Exists.intro _ (And.intro rfl (And.intro rfl (And.intro (hmm.trans h1) rfl)))
  · refine And.intro rfl (Exists.intro _ (Exists.intro _ (Exists.intro _ (And.intro hE1 ?_))))
    refine And.intro rfl (Exists.intro _ (Exists.intro _ (Exists.intro _ (And.intro hE2 ?_))))
    refine And.intro (fun h => by cases h) (fun _ => ?_)
    refine And.intro (fun h => by cases h) (fun _ => ?_)
    refine And.intro (fun h => False.elim (by first | exact gt_ll hfl h | exact gt_n h | exact gt_ln (hz0 hl0) h | cases h)) (fun _ => ?_)
    refine And.intro rfl (Exists.intro _ (Exists.intro _ (Exists.intro _ (And.intro hE3 ?_))))
    refine And.intro (fun h => by cases h) (fun _ => ?_)
    refine L_round ?_
    refine And.intro (fun h => by cases h) (fun _ => ?_)
    refine And.intro rfl (Exists.intro _ (Exists.intro _ (Exists.intro _ (And.intro (awake_spec _ []) ?_))))
    exact Exists.intro _ (And.intro rfl (And.intro rfl (And.intro hmm rfl)))
  · refine And.intro rfl (Exists.intro _ (Exists.intro _ (Exists.intro _ (And.intro hE1 ?_))))
    refine And.intro rfl (Exists.intro _ (Exists.intro _ (Exists.intro _ (And.intro hE2 ?_))))
    refine And.intro (fun h => by cases h) (fun _ => ?_)
    refine And.intro (fun h => by cases h) (fun _ => ?_)
    refine And.intro (fun h => False.elim (by first | exact gt_ll hfl h | exact gt_n h | exact gt_ln (hz0 hl0) h | cases h)) (fun _ => ?_)
    refine And.intro rfl (Exists.intro _ (Exists.intro _ (Exists.intro _ (And.intro hE3 ?_))))
    refine And.intro (fun h => by cases h) (fun _ => ?_)
    refine L_mono (hml sm) ?_
    rintro e env H' sl cl ⟨h1, rfl, rfl, rfl, v2, v15, v17, v19, v135, rfl⟩
    refine And.intro rfl (Exists.intro _ (Exists.intro _ (Exists.intro _ (And.intro (awake_spec _ []) ?_))))
    exact Exists.intro _ (And.intro rfl (And.intro rfl (And.intro (hmm.trans h1) rfl)))
  · refine And.intro rfl (Exists.intro _ (Exists.intro _ (Exists.intro _ (And.intro hE1 ?_))))
    refine And.intro rfl (Exists.intro _ (Exists.intro _ (Exists.intro _ (And.intro hE2 ?_))))
    refine And.intro (fun h => by cases h) (fun _ => ?_)
    refine And.intro (fun h => by cases h) (fun _ => ?_)
    refine And.intro (fun h => False.elim (by first | exact gt_ll hfl h | exact gt_n h | exact gt_ln (hz0 hl0) h | cases h)) (fun _ => ?_)
    refine And.intro rfl (Exists.intro _ (Exists.intro _ (Exists.intro _ (And.intro hE3 ?_))))
    refine And.intro (fun h => by cases h) (fun _ => ?_)
    refine L_round ?_
    refine And.intro (fun h => by cases h) (fun _ => ?_)
    refine And.intro rfl (Exists.intro _ (Exists.intro _ (Exists.intro _ (And.intro (awake_spec _ []) ?_))))
    exact Exists.intro _ (And.intro rfl (And.intro rfl (And.intro hmm rfl)))
  · refine And.intro rfl (Exists.intro _ (Exists.intro _ (Exists.intro _ (And.intro hE1 ?_))))
    refine And.intro rfl (Exists.intro _ (Exists.intro _ (Exists.intro _ (And.intro hE2 ?_))))
    refine And.intro (fun h => by cases h) (fun _ => ?_)
    refine And.intro (fun h => by cases h) (fun _ => ?_)
    refine And.intro (fun h => False.elim (by first | exact gt_ll hfl h | exact gt_n h | exact gt_ln (hz0 hl0) h | cases h)) (fun _ => ?_)
    refine And.intro rfl (Exists.intro _ (Exists.intro _ (Exists.intro _ (And.intro hE3 ?_))))
    refine And.intro (fun h => by cases h) (fun _ => ?_)
    refine L_mono (hml sm) ?_
    rintro e env H' sl cl ⟨h1, rfl, rfl, rfl, v2, v15, v17, v19, v135, rfl⟩
    refine And.intro rfl (Exists.intro _ (Exists.intro _ (Exists.intro _ (And.intro (awake_spec _ []) ?_))))
    exact Exists.intro _ (And.intro rfl (And.intro rfl (And.intro (hmm.trans h1) rfl)))
  · refine And.intro rfl (Exists.intro _ (Exists.intro _ (Exists.intro _ (And.intro hE1 ?_))))
    refine And.intro rfl (Exists.intro _ (Exists.intro _ (Exists.intro _ (And.intro hE2 ?_))))
    refine And.intro (fun h => by cases h) (fun _ => ?_)
    refine And.intro (fun h => by cases h) (fun _ => ?_)
    refine And.intro (fun h => False.elim (by first | exact gt_ll hfl h | exact gt_n h | exact gt_ln (hz0 hl0) h | cases h)) (fun _ => ?_)
    refine And.intro rfl (Exists.intro _ (Exists.intro _ (Exists.intro _ (And.intro hE3 ?_))))
    refine And.intro (fun h => by cases h) (fun _ => ?_)
    refine L_round ?_
    refine And.intro (fun h => by cases h) (fun _ => ?_)
    refine And.intro rfl (Exists.intro _ (Exists.intro _ (Exists.intro _ (And.intro (awake_spec _ []) ?_))))
    exact Exists.intro _ (And.intro rfl (And.intro rfl (And.intro hmm rfl)))
  · refine And.intro rfl (Exists.intro _ (Exists.intro _ (Exists.intro _ (And.intro hE1 ?_))))
    refine And.intro rfl (Exists.intro _ (Exists.intro _ (Exists.intro _ (And.intro hE2 ?_))))
    refine And.intro (fun h => by cases h) (fun _ => ?_)
    refine And.intro (fun h => by cases h) (fun _ => ?_)
    refine And.intro (fun h => False.elim (by first | exact gt_ll hfl h | exact gt_n h | exact gt_ln (hz0 hl0) h | cases h)) (fun _ => ?_)
    refine And.intro rfl (Exists.intro _ (Exists.intro _ (Exists.intro _ (And.intro hE3 ?_))))
    refine And.intro (fun h => by cases h) (fun _ => ?_)
    refine L_mono (hml sm) ?_
    rintro e env H' sl cl ⟨h1, rfl, rfl, rfl, v2, v15, v17, v19, v135, rfl⟩
    refine And.intro rfl (Exists.intro _ (Exists.intro _ (Exists.intro _ (And.intro (awake_spec _ []) ?_))))
    exact Exists.intro _ (And.intro rfl (And.intro rfl (And.intro (hmm.trans h1) rfl)))
  · refine And.intro rfl (Exists.intro _ (Exists.intro _ (Exists.intro _ (And.intro hE1 ?_))))
    refine And.intro rfl (Exists.intro _ (Exists.intro _ (Exists.intro _ (And.intro hE2 ?_))))
    refine And.intro (fun h => by cases h) (fun _ => ?_)
    refine And.intro (fun h => by cases h) (fun _ => ?_)
    refine And.intro (fun h => False.elim (by first | exact gt_ll hfl h | exact gt_n h | exact gt_ln (hz0 hl0) h | cases h)) (fun _ => ?_)
    refine And.intro rfl (Exists.intro _ (Exists.intro _ (Exists.intro _ (And.intro hE3 ?_))))
    refine And.intro (fun h => by cases h) (fun _ => ?_)
    refine L_round ?_
    refine And.intro (fun h => by cases h) (fun _ => ?_)
    refine And.intro rfl (Exists.intro _ (Exists.intro _ (Exists.intro _ (And.intro (awake_spec _ []) ?_))))
    exact Exists.intro _ (And.intro rfl (And.intro rfl (And.intro hmm rfl)))
  · refine And.intro rfl (Exists.intro _ (Exists.intro _ (Exists.intro _ (And.intro hE1 ?_))))
    refine And.intro rfl (Exists.intro _ (Exists.intro _ (Exists.intro _ (And.intro hE2 ?_))))
    refine And.intro (fun h => by cases h) (fun _ => ?_)
    refine And.intro (fun h => by cases h) (fun _ => ?_)
    refine And.intro (fun h => False.elim (by first | exact gt_ll hfl h | exact gt_n h | exact gt_ln (hz0 hl0) h | cases h)) (fun _ => ?_)
    refine And.intro rfl (Exists.intro _ (Exists.intro _ (Exists.intro _ (And.intro hE3 ?_))))
    refine And.intro (fun h => by cases h) (fun _ => ?_)
    refine L_mono (hml sm) ?_
    rintro e env H' sl cl ⟨h1, rfl, rfl, rfl, v2, v15, v17, v19, v135, rfl⟩
    refine And.intro rfl (Exists.intro _ (Exists.intro _ (Exists.intro _ (And.intro (awake_spec _ []) ?_))))
    exact Exists.intro _ (And.intro rfl (And.intro rfl (And.intro (hmm.trans h1) rfl)))
  · refine And.intro rfl (Exists.intro _ (Exists.intro _ (Exists.intro _ (And.intro hE1 ?_))))
    refine And.intro rfl (Exists.intro _ (Exists.intro _ (Exists.intro _ (And.intro hE2 ?_))))
    refine And.intro (fun h => by cases h) (fun _ => ?_)
    refine And.intro (fun h => by cases h) (fun _ => ?_)
    refine And.intro (fun h => False.elim (by first | exact gt_ll hfl h | exact gt_n h | exact gt_ln (hz0 hl0) h | cases h)) (fun _ => ?_)
    refine And.intro rfl (Exists.intro _ (Exists.intro _ (Exists.intro _ (And.intro hE3 ?_))))
    refine And.intro (fun h => by cases h) (fun _ => ?_)
    refine L_round ?_
    refine And.intro (fun h => by cases h) (fun _ => ?_)
    refine And.intro rfl (Exists.intro _ (Exists.intro _ (Exists.intro _ (And.intro (awake_spec _ []) ?_))))
    exact Exists.intro _ (And.intro rfl (And.intro rfl (And.intro hmm rfl)))
  · refine And.intro rfl (Exists.intro _ (Exists.intro _ (Exists.intro _ (And.intro hE1 ?_))))
    refine And.intro rfl (Exists.intro _ (Exists.intro _ (Exists.intro _ (And.intro hE2 ?_))))
    refine And.intro (fun h => by cases h) (fun _ => ?_)
    refine And.intro (fun h => by cases h) (fun _ => ?_)
    refine And.intro (fun h => False.elim (by first | exact gt_ll hfl h | exact gt_n h | exact gt_ln (hz0 hl0) h | cases h)) (fun _ => ?_)
    refine And.intro rfl (Exists.intro _ (Exists.intro _ (Exists.intro _ (And.intro hE3 ?_))))
    refine And.intro (fun h => by cases h) (fun _ => ?_)
    refine L_mono (hml sm) ?_
    rintro e env H' sl cl ⟨h1, rfl, rfl, rfl, v2, v15, v17, v19, v135, rfl⟩
    refine And.intro rfl (Exists.intro _ (Exists.intro _ (Exists.intro _ (And.intro (awake_spec _ []) ?_))))
    exact Exists.intro _ (And.intro rfl (And.intro rfl (And.intro (hmm.trans h1) rfl)))
  · refine And.intro rfl (Exists.intro _ (Exists.intro _ (Exists.intro _ (And.intro hE1 ?_))))
    refine And.intro rfl (Exists.intro _ (Exists.intro _ (Exists.intro _ (And.intro hE2 ?_))))
    refine And.intro (fun h => by cases h) (fun _ => ?_)
    refine And.intro (fun h => by cases h) (fun _ => ?_)
    refine And.intro (fun h => False.elim (by first | exact gt_ll hfl h | exact gt_n h | exact gt_ln (hz0 hl0) h | cases h)) (fun _ => ?_)
    refine And.intro rfl (Exists.intro _ (Exists.intro _ (Exists.intro _ (And.intro hE3 ?_))))
    refine And.intro (fun h => by cases h) (fun _ => ?_)
    refine L_round ?_
    refine And.intro (fun h => by cases h) (fun _ => ?_)
    refine And.intro rfl (Exists.intro _ (Exists.intro _ (Exists.intro _ (And.intro (awake_spec _ []) ?_))))
    exact Exists.intro _ (And.intro rfl (And.intro rfl (And.intro hmm rfl)))
  · refine And.intro rfl (Exists.intro _ (Exists.intro _ (Exists.intro _ (And.intro hE1 ?_))))
    refine And.intro rfl (Exists.intro _ (Exists.intro _ (Exists.intro _ (And.intro hE2 ?_))))
    refine And.intro (fun h => by cases h) (fun _ => ?_)
    refine And.intro (fun h => by cases h) (fun _ => ?_)
    refine And.intro (fun h => False.elim (by first | exact gt_ll hfl h | exact gt_n h | exact gt_ln (hz0 hl0) h | cases h)) (fun _ => ?_)
    refine And.intro rfl (Exists.intro _ (Exists.intro _ (Exists.intro _ (And.intro hE3 ?_))))
    refine And.intro (fun h => by cases h) (fun _ => ?_)
    refine L_mono (hml sm) ?_
    rintro e env H' sl cl ⟨h1, rfl, rfl, rfl, v2, v15, v17, v19, v135, rfl⟩
    refine And.intro rfl (Exists.intro _ (Exists.intro _ (Exists.intro _ (And.intro (awake_spec _ []) ?_))))
    exact Exists.intro _ (And.intro rfl (And.intro rfl (And.intro (hmm.trans h1) rfl)))
  · refine And.intro rfl (Exists.intro _ (Exists.intro _ (Exists.intro _ (And.intro hE1 ?_))))
    refine And.intro rfl (Exists.intro _ (Exists.intro _ (Exists.intro _ (And.intro hE2 ?_))))
    refine And.intro (fun h => by cases h) (fun _ => ?_)
    refine And.intro (fun h => by cases h) (fun _ => ?_)
    refine And.intro (fun h => False.elim (by first | exact gt_ll hfl h | exact gt_n h | exact gt_ln (hz0 hl0) h | cases h)) (fun _ => ?_)
    refine And.intro rfl (Exists.intro _ (Exists.intro _ (Exists.intro _ (And.intro hE3 ?_))))
    refine And.intro (fun h => by cases h) (fun _ => ?_)
    refine L_round ?_
    refine And.intro (fun h => by cases h) (fun _ => ?_)
    refine And.intro rfl (Exists.intro _ (Exists.intro _ (Exists.intro _ (And.intro (awake_spec _ []) ?_))))
    exact Exists.intro _ (And.intro rfl (And.intro rfl (And.intro hmm rfl)))
  · refine And.intro rfl (Exists.intro _ (Exists.intro _ (Exists.intro _ (And.intro hE1 ?_))))
    refine And.intro rfl (Exists.intro _ (Exists.intro _ (Exists.intro _ (And.intro hE2 ?_))))
    refine And.intro (fun h => by cases h) (fun _ => ?_)
    refine And.intro (fun h => by cases h) (fun _ => ?_)
    refine And.intro (fun h => False.elim (by first | exact gt_ll hfl h | exact gt_n h | exact gt_ln (hz0 hl0) h | cases h)) (fun _ => ?_)
    refine And.intro rfl (Exists.intro _ (Exists.intro _ (Exists.intro _ (And.intro hE3 ?_))))
    refine And.intro (fun h => by cases h) (fun _ => ?_)
    refine L_mono (hml sm) ?_
    rintro e env H' sl cl ⟨h1, rfl, rfl, rfl, v2, v15, v17, v19, v135, rfl⟩
    refine And.intro rfl (Exists.intro _ (Exists.intro _ (Exists.intro _ (And.intro (awake_spec _ []) ?_))))
    exact Exists.intro _ (And.intro rfl (And.intro rfl (And.intro (hmm.trans h1) rfl)))
  · refine And.intro rfl (Exists.intro _ (Exists.intro _ (Exists.intro _ (And.intro hE1 ?_))))
    refine And.intro rfl (Exists.intro _ (Exists.intro _ (Exists.intro _ (And.intro hE2 ?_))))
    refine And.intro (fun h => by cases h) (fun _ => ?_)
    refine And.intro (fun h => by cases h) (fun _ => ?_)
    refine And.intro (fun h => False.elim (by first | exact gt_ll hfl h | exact gt_n h | exact gt_ln (hz0 hl0) h | cases h)) (fun _ => ?_)
    refine And.intro rfl (Exists.intro _ (Exists.intro _ (Exists.intro _ (And.intro hE3 ?_))))
    refine And.intro (fun h => by cases h) (fun _ => ?_)
    refine L_round ?_
    refine And.intro (fun h => by cases h) (fun _ => ?_)
    refine And.intro rfl (Exists.intro _ (Exists.intro _ (Exists.intro _ (And.intro (awake_spec _ []) ?_))))
    exact Exists.intro _ (And.intro rfl (And.intro rfl (And.intro hmm rfl)))
  · refine And.intro rfl (Exists.intro _ (Exists.intro _ (Exists.intro _ (And.intro hE1 ?_))))
    refine And.intro rfl (Exists.intro _ (Exists.intro _ (Exists.intro _ (And.intro hE2 ?_))))
    refine And.intro (fun h => by cases h) (fun _ => ?_)
    refine And.intro (fun h => by cases h) (fun _ => ?_)
    refine And.intro (fun h => False.elim (by first | exact gt_ll hfl h | exact gt_n h | exact gt_ln (hz0 hl0) h | cases h)) (fun _ => ?_)
    refine And.intro rfl (Exists.intro _ (Exists.intro _ (Exists.intro _ (And.intro hE3 ?_))))
    refine And.intro (fun h => by cases h) (fun _ => ?_)
    refine L_mono (hml sm) ?_
    rintro e env H' sl cl ⟨h1, rfl, rfl, rfl, v2, v15, v17, v19, v135, rfl⟩
    refine And.intro rfl (Exists.intro _ (Exists.intro _ (Exists.intro _ (And.intro (awake_spec _ []) ?_))))
    exact Exists.intro _ (And.intro rfl (And.intro rfl (And.intro (hmm.trans h1) rfl)))
  · refine And.intro rfl (Exists.intro _ (Exists.intro _ (Exists.intro _ (And.intro hE1 ?_))))
    refine And.intro rfl (Exists.intro _ (Exists.intro _ (Exists.intro _ (And.intro hE2 ?_))))
    refine And.intro (fun h => by cases h) (fun _ => ?_)
    refine And.intro (fun h => by cases h) (fun _ => ?_)
    refine And.intro (fun h => False.elim (by first | exact gt_ll hfl h | exact gt_n h | exact gt_ln (hz0 hl0) h | cases h)) (fun _ => ?_)
    refine And.intro rfl (Exists.intro _ (Exists.intro _ (Exists.intro _ (And.intro hE3 ?_))))
    refine And.intro (fun h => by cases h) (fun _ => ?_)
    refine L_round ?_
    refine And.intro (fun h => by cases h) (fun _ => ?_)
    refine And.intro rfl (Exists.intro _ (Exists.intro _ (Exists.intro _ (And.intro (awake_spec _ []) ?_))))
    exact Exists.intro _ (And.intro rfl (And.intro rfl (And.intro hmm rfl)))
  · refine And.intro rfl (Exists.intro _ (Exists.intro _ (Exists.intro _ (And.intro hE1 ?_))))
    refine And.intro rfl (Exists.intro _ (Exists.intro _ (Exists.intro _ (And.intro hE2 ?_))))
    refine And.intro (fun h => by cases h) (fun _ => ?_)
    refine And.intro (fun h => by cases h) (fun _ => ?_)
    refine And.intro (fun h => False.elim (by first | exact gt_ll hfl h | exact gt_n h | exact gt_ln (hz0 hl0) h | cases h)) (fun _ => ?_)
    refine And.intro rfl (Exists.intro _ (Exists.intro _ (Exists.intro _ (And.intro hE3 ?_))))
    refine And.intro (fun h => by cases h) (fun _ => ?_)
    refine L_mono (hml sm) ?_
    rintro e env H' sl cl ⟨h1, rfl, rfl, rfl, v2, v15, v17, v19, v135, rfl⟩
    refine And.intro rfl (Exists.intro _ (Exists.intro _ (Exists.intro _ (And.intro (awake_spec _ []) ?_))))
    exact Exists.intro _ (And.intro rfl (And.intro rfl (And.intro (hmm.trans h1) rfl)))
  · refine And.intro rfl (Exists.intro _ (Exists.intro _ (Exists.intro _ (And.intro hE1 ?_))))
    refine And.intro rfl (Exists.intro _ (Exists.intro _ (Exists.intro _ (And.intro hE2 ?_))))
    refine And.intro (fun h => by cases h) (fun _ => ?_)
    refine And.intro (fun h => by cases h) (fun _ => ?_)
    refine And.intro (fun h => False.elim (by first | exact gt_ll hfl h | exact gt_n h | exact gt_ln (hz0 hl0) h | cases h)) (fun _ => ?_)
    refine And.intro rfl (Exists.intro _ (Exists.intro _ (Exists.intro _ (And.intro hE3 ?_))))
    refine And.intro (fun h => by cases h) (fun _ => ?_)
    refine L_round ?_
    refine And.intro (fun h => by cases h) (fun _ => ?_)
    refine And.intro rfl (Exists.intro _ (Exists.intro _ (Exists.intro _ (And.intro (awake_spec _ []) ?_))))
    exact Exists.intro _ (And.intro rfl (And.intro rfl (And.intro hmm rfl)))
  · refine And.intro rfl (Exists.intro _ (Exists.intro _ (Exists.intro _ (And.intro hE1 ?_))))
    refine And.intro rfl (Exists.intro _ (Exists.intro _ (Exists.intro _ (And.intro hE2 ?_))))
    refine And.intro (fun h => by cases h) (fun _ => ?_)
    refine And.intro (fun h => by cases h) (fun _ => ?_)
    refine And.intro (fun h => False.elim (by first | exact gt_ll hfl h | exact gt_n h | exact gt_ln (hz0 hl0) h | cases h)) (fun _ => ?_)
    refine And.intro rfl (Exists.intro _ (Exists.intro _ (Exists.intro _ (And.intro hE3 ?_))))
    refine And.intro (fun h => by cases h) (fun _ => ?_)
    refine L_mono (hml sm) ?_
    rintro e env H' sl cl ⟨h1, rfl, rfl, rfl, v2, v15, v17, v19, v135, rfl⟩
    refine And.intro rfl (Exists.intro _ (Exists.intro _ (Exists.intro _ (And.intro (awake_spec _ []) ?_))))
    exact Exists.intro _ (And.intro rfl (And.intro rfl (And.intro (hmm.trans h1) rfl)))
  · refine And.intro rfl (Exists.intro _ (Exists.intro _ (Exists.intro _ (And.intro hE1 ?_))))
    refine And.intro rfl (Exists.intro _ (Exists.intro _ (Exists.intro _ (And.intro hE2 ?_))))
    refine And.intro (fun h => by cases h) (fun _ => ?_)
    refine And.intro (fun h => by cases h) (fun _ => ?_)
    refine And.intro (fun h => False.elim (by first | exact gt_ll hfl h | exact gt_n h | exact gt_ln (hz0 hl0) h | cases h)) (fun _ => ?_)
    refine And.intro rfl (Exists.intro _ (Exists.intro _ (Exists.intro _ (And.intro hE3 ?_))))
    refine And.intro (fun h => by cases h) (fun _ => ?_)
    refine L_round ?_
    refine And.intro (fun h => by cases h) (fun _ => ?_)
    refine And.intro rfl (Exists.intro _ (Exists.intro _ (Exists.intro _ (And.intro (awake_spec _ []) ?_))))
    exact Exists.intro _ (And.intro rfl (And.intro rfl (And.intro hmm rfl)))
  · refine And.intro rfl (Exists.intro _ (Exists.intro _ (Exists.intro _ (And.intro hE1 ?_))))
    refine And.intro rfl (Exists.intro _ (Exists.intro _ (Exists.intro _ (And.intro hE2 ?_))))
    refine And.intro (fun h => by cases h) (fun _ => ?_)
    refine And.intro (fun h => by cases h) (fun _ => ?_)
    refine And.intro (fun h => False.elim (by first | exact gt_ll hfl h | exact gt_n h | exact gt_ln (hz0 hl0) h | cases h)) (fun _ => ?_)
    refine And.intro rfl (Exists.intro _ (Exists.intro _ (Exists.intro _ (And.intro hE3 ?_))))
    refine And.intro (fun h => by cases h) (fun _ => ?_)
    refine L_mono (hml sm) ?_
    rintro e env H' sl cl ⟨h1, rfl, rfl, rfl, v2, v15, v17, v19, v135, rfl⟩
    refine And.intro rfl (Exists.intro _ (Exists.intro _ (Exists.intro _ (And.intro (awake_spec _ []) ?_))))
    exact Exists.intro _ (And.intro rfl (And.intro rfl (And.intro (hmm.trans h1) rfl)))
  · refine And.intro rfl (Exists.intro _ (Exists.intro _ (Exists.intro _ (And.intro hE1 ?_))))
    refine And.intro rfl (Exists.intro _ (Exists.intro _ (Exists.intro _ (And.intro hE2 ?_))))
    refine And.intro (fun h => by cases h) (fun _ => ?_)
    refine And.intro (fun h => by cases h) (fun _ => ?_)
    refine And.intro (fun h => False.elim (by first | exact gt_ll hfl h | exact gt_n h | exact gt_ln (hz0 hl0) h | cases h)) (fun _ => ?_)
    refine And.intro rfl (Exists.intro _ (Exists.intro _ (Exists.intro _ (And.intro hE3 ?_))))
    refine And.intro (fun h => by cases h) (fun _ => ?_)
    refine L_round ?_
    refine And.intro (fun h => by cases h) (fun _ => ?_)
    refine And.intro rfl (Exists.intro _ (Exists.intro _ (Exists.intro _ (And.intro (awake_spec _ []) ?_))))
    exact Exists.intro _ (And.intro rfl (And.intro rfl (And.intro hmm rfl)))
  · refine And.intro rfl (Exists.intro _ (Exists.intro _ (Exists.intro _ (And.intro hE1 ?_))))
    refine And.intro rfl (Exists.intro _ (Exists.intro _ (Exists.intro _ (And.intro hE2 ?_))))
    refine And.intro (fun h => by cases h) (fun _ => ?_)
    refine And.intro (fun h => by cases h) (fun _ => ?_)
    refine And.intro (fun h => False.elim (by first | exact gt_ll hfl h | exact gt_n h | exact gt_ln (hz0 hl0) h | cases h)) (fun _ => ?_)
    refine And.intro rfl (Exists.intro _ (Exists.intro _ (Exists.intro _ (And.intro hE3 ?_))))
    refine And.intro (fun h => by cases h) (fun _ => ?_)
    refine L_mono (hml sm) ?_
    rintro e env H' sl cl ⟨h1, rfl, rfl, rfl, v2, v15, v17, v19, v135, rfl⟩
    refine And.intro rfl (Exists.intro _ (Exists.intro _ (Exists.intro _ (And.intro (awake_spec _ []) ?_))))
    exact Exists.intro _ (And.intro rfl (And.intro rfl (And.intro (hmm.trans h1) rfl)))
  · refine And.intro rfl (Exists.intro _ (Exists.intro _ (Exists.intro _ (And.intro hE1 ?_))))
    refine And.intro rfl (Exists.intro _ (Exists.intro _ (Exists.intro _ (And.intro hE2 ?_))))
    refine And.intro (fun h => by cases h) (fun _ => ?_)
    refine And.intro (fun h => by cases h) (fun _ => ?_)
    refine And.intro (fun h => False.elim (by first | exact gt_ll hfl h | exact gt_n h | exact gt_ln (hz0 hl0) h | cases h)) (fun _ => ?_)
    refine And.intro rfl (Exists.intro _ (Exists.intro _ (Exists.intro _ (And.intro hE3 ?_))))
    refine And.intro (fun h => by cases h) (fun _ => ?_)
    refine L_round ?_
    refine And.intro (fun h => by cases h) (fun _ => ?_)
    refine And.intro rfl (Exists.intro _ (Exists.intro _ (Exists.intro _ (And.intro (awake_spec _ []) ?_))))
    exact Exists.intro _ (And.intro rfl (And.intro rfl (And.intro hmm rfl)))
  · refine And.intro rfl (Exists.intro _ (Exists.intro _ (Exists.intro _ (And.intro hE1 ?_))))
    refine And.intro rfl (Exists.intro _ (Exists.intro _ (Exists.intro _ (And.intro hE2 ?_))))
    refine And.intro (fun h => by cases h) (fun _ => ?_)
    refine And.intro (fun h => by cases h) (fun _ => ?_)
    refine And.intro (fun h => False.elim (by first | exact gt_ll hfl h | exact gt_n h | exact gt_ln (hz0 hl0) h | cases h)) (fun _ => ?_)
    refine And.intro rfl (Exists.intro _ (Exists.intro _ (Exists.intro _ (And.intro hE3 ?_))))
    refine And.intro (fun h => by cases h) (fun _ => ?_)
    refine L_mono (hml sm) ?_
    rintro e env H' sl cl ⟨h1, rfl, rfl, rfl, v2, v15, v17, v19, v135, rfl⟩
    refine And.intro rfl (Exists.intro _ (Exists.intro _ (Exists.intro _ (And.intro (awake_spec _ []) ?_))))
    exact Exists.intro _ (And.intro rfl (And.intro rfl (And.intro (hmm.trans h1) rfl)))
  · refine And.intro rfl (Exists.intro _ (Exists.intro _ (Exists.intro _ (And.intro hE1 ?_))))
    refine And.intro rfl (Exists.intro _ (Exists.intro _ (Exists.intro _ (And.intro hE2 ?_))))
    refine And.intro (fun h => by cases h) (fun _ => ?_)
    refine And.intro (fun h => by cases h) (fun _ => ?_)
    refine And.intro (fun h => False.elim (by first | exact gt_ll hfl h | exact gt_n h | exact gt_ln (hz0 hl0) h | cases h)) (fun _ => ?_)
    refine And.intro rfl (Exists.intro _ (Exists.intro _ (Exists.intro _ (And.intro hE3 ?_))))
    refine And.intro (fun h => by cases h) (fun _ => ?_)
    refine L_round ?_
    refine And.intro (fun h => by cases h) (fun _ => ?_)
    refine And.intro rfl (Exists.intro _ (Exists.intro _ (Exists.intro _ (And.intro (awake_spec _ []) ?_))))
    exact Exists.intro _ (And.intro rfl (And.intro rfl (And.intro hmm rfl)))
  · refine And.intro rfl (Exists.intro _ (Exists.intro _ (Exists.intro _ (And.intro hE1 ?_))))
    refine And.intro rfl (Exists.intro _ (Exists.intro _ (Exists.intro _ (And.intro hE2 ?_))))
    refine And.intro (fun h => by cases h) (fun _ => ?_)
    refine And.intro (fun h => by cases h) (fun _ => ?_)
    refine And.intro (fun h => False.elim (by first | exact gt_ll hfl h | exact gt_n h | exact gt_ln (hz0 hl0) h | cases h)) (fun _ => ?_)
    refine And.intro rfl (Exists.intro _ (Exists.intro _ (Exists.intro _ (And.intro hE3 ?_))))
    refine And.intro (fun h => by cases h) (fun _ => ?_)
    refine L_mono (hml sm) ?_
    rintro e env H' sl cl ⟨h1, rfl, rfl, rfl, v2, v15, v17, v19, v135, rfl⟩
    refine And.intro rfl (Exists.intro _ (Exists.intro _ (Exists.intro _ (And.intro (awake_spec _ []) ?_))))
    exact Exists.intro _ (And.intro rfl (And.intro rfl (And.intro (hmm.trans h1) rfl)))
  · refine And.intro rfl (Exists.intro _ (Exists.intro _ (Exists.intro _ (And.intro hE1 ?_))))
    refine And.intro rfl (Exists.intro _ (Exists.intro _ (Exists.intro _ (And.intro hE2 ?_))))
    refine And.intro (fun h => by cases h) (fun _ => ?_)
    refine And.intro (fun h => by cases h) (fun _ => ?_)
    refine And.intro (fun h => False.elim (by first | exact gt_ll hfl h | exact gt_n h | exact gt_ln (hz0 hl0) h | cases h)) (fun _ => ?_)
    refine And.intro rfl (Exists.intro _ (Exists.intro _ (Exists.intro _ (And.intro hE3 ?_))))
    refine And.intro (fun h => by cases h) (fun _ => ?_)
    refine L_round ?_
    refine And.intro (fun h => by cases h) (fun _ => ?_)
    refine And.intro rfl (Exists.intro _ (Exists.intro _ (Exists.intro _ (And.intro (awake_spec _ []) ?_))))
    exact Exists.intro _ (And.intro rfl (And.intro rfl (And.intro hmm rfl)))
  · refine And.intro rfl (Exists.intro _ (Exists.intro _ (Exists.intro _ (And.intro hE1 ?_))))
    refine And.intro rfl (Exists.intro _ (Exists.intro _ (Exists.intro _ (And.intro hE2 ?_))))
    refine And.intro (fun h => by cases h) (fun _ => ?_)
    refine And.intro (fun h => by cases h) (fun _ => ?_)
    refine And.intro (fun h => False.elim (by first | exact gt_ll hfl h | exact gt_n h | exact gt_ln (hz0 hl0) h | cases h)) (fun _ => ?_)
    refine And.intro rfl (Exists.intro _ (Exists.intro _ (Exists.intro _ (And.intro hE3 ?_))))
    refine And.intro (fun h => by cases h) (fun _ => ?_)
    refine L_mono (hml sm) ?_
    rintro e env H' sl cl ⟨h1, rfl, rfl, rfl, v2, v15, v17, v19, v135, rfl⟩
    refine And.intro rfl (Exists.intro _ (Exists.intro _ (Exists.intro _ (And.intro (awake_spec _ []) ?_))))
    exact Exists.intro _ (And.intro rfl (And.intro rfl (And.intro (hmm.trans h1) rfl)))
  · refine And.intro rfl (Exists.intro _ (Exists.intro _ (Exists.intro _ (And.intro hE1 ?_))))
    refine And.intro rfl (Exists.intro _ (Exists.intro _ (Exists.intro _ (And.intro hE2 ?_))))
    refine And.intro (fun h => by cases h) (fun _ => ?_)
    refine And.intro (fun h => by cases h) (fun _ => ?_)
    refine And.intro (fun h => False.elim (by first | exact gt_ll hfl h | exact gt_n h | exact gt_ln (hz0 hl0) h | cases h)) (fun _ => ?_)
    refine And.intro rfl (Exists.intro _ (Exists.intro _ (Exists.intro _ (And.intro hE3 ?_))))
    refine And.intro (fun h => by cases h) (fun _ => ?_)
    refine L_round ?_
    refine And.intro (fun h => by cases h) (fun _ => ?_)
    refine And.intro rfl (Exists.intro _ (Exists.intro _ (Exists.intro _ (And.intro (awake_spec _ []) ?_))))
    exact Exists.intro _ (And.intro rfl (And.intro rfl (And.intro hmm rfl)))
  · refine And.intro rfl (Exists.intro _ (Exists.intro _ (Exists.intro _ (And.intro hE1 ?_))))
    refine And.intro rfl (Exists.intro _ (Exists.intro _ (Exists.intro _ (And.intro hE2 ?_))))
    refine And.intro (fun h => by cases h) (fun _ => ?_)
    refine And.intro (fun h => by cases h) (fun _ => ?_)
    refine And.intro (fun h => False.elim (by first | exact gt_ll hfl h | exact gt_n h | exact gt_ln (hz0 hl0) h | cases h)) (fun _ => ?_)
    refine And.intro rfl (Exists.intro _ (Exists.intro _ (Exists.intro _ (And.intro hE3 ?_))))
    refine And.intro (fun h => by cases h) (fun _ => ?_)
    refine L_mono (hml sm) ?_
    rintro e env H' sl cl ⟨h1, rfl, rfl, rfl, v2, v15, v17, v19, v135, rfl⟩
    refine And.intro rfl (Exists.intro _ (Exists.intro _ (Exists.intro _ (And.intro (awake_spec _ []) ?_))))
    exact Exists.intro _ (And.intro rfl (And.intro rfl (And.intro (hmm.trans h1) rfl)))
end Go.Proofs.Ytnajopkaepjncaa

/- What nobody needs changes nothing: the walk through the law's own function, first way. -/
namespace Go.Proofs.Ytnajopkaepjncaa
open Am
set_option linter.unusedVariables false
set_option maxRecDepth 8000
set_option maxHeartbeats 8000000
noncomputable abbrev c9m : Code := at_ Try.f9 [true, true]
theorem mid1 (H0 E1 E2 E3 : Hp) {x y z vo : AV} {l o ol : List Row} {ms : List Int} (hx : IsRows x l) (hy : IsRows y o) (hz : IsMarks z ms) (hvo : IsOut vo ol) (bot : Bool) (rest : Env) (hmm : More H0 (((H0 ++ E1) ++ E2) ++ E3)) (hE2 : CallsA Try.prog K0 24 [y, x] (H0 ++ E1) [] vo ((H0 ++ E1) ++ E2) []) (hE1 : CallsA Try.prog K0 17 [x, z, .bool bot] H0 [] (.tup [.nils, .int .i64 2]) (H0 ++ E1) []) (hE3 : CallsA Try.prog K0 13 [vo, .int .u64 0] ((H0 ++ E1) ++ E2) [] (.tup [.nils, .int .i64 2]) (((H0 ++ E1) ++ E2) ++ E3) []) : cC Try.prog K0 (K0.vars 9) 147 c9m ((0, x) :: (1, y) :: (2, z) :: (3, .bool bot) :: rest) H0 [] [] fun e env' H1 sl cl => match e with
      | .exit _ => False
      | _ => ∃ x, resA2 Try.prog ⟨env', H1, [], []⟩ Try.f9.results.toList = some x ∧ x = .bool true ∧ More H0 H1 ∧ cl = [] := by
  rcases hx with ⟨rfl, _⟩ | ⟨_, rfl⟩ <;> rcases hy with ⟨rfl, _⟩ | ⟨_, rfl⟩ <;> rcases hz with ⟨rfl, _⟩ | ⟨_, rfl⟩ <;> rcases hvo with ⟨rfl, _⟩ | rfl
  · refine And.intro rfl (Exists.intro _ (Exists.intro _ (Exists.intro _ (And.intro hE1 ?_))))
    refine And.intro rfl (Exists.intro _ (Exists.intro _ (Exists.intro _ (And.intro hE2 ?_))))
    refine And.intro rfl (Exists.intro _ (Exists.intro _ (Exists.intro _ (And.intro hE3 ?_))))
    refine And.intro (fun _ => ?_) (fun h => by cases h)
    refine And.intro (fun _ => ?_) (fun h => by cases h)
    refine And.intro (fun h => by cases h) (fun _ => ?_)
    refine And.intro (fun _ => ?_) (fun h => by cases h)
    refine And.intro rfl (Exists.intro _ (Exists.intro _ (Exists.intro _ (And.intro (awake_spec _ []) ?_))))
    exact Exists.intro _ (And.intro rfl (And.intro rfl (And.intro hmm rfl)))
  · refine And.intro rfl (Exists.intro _ (Exists.intro _ (Exists.intro _ (And.intro hE1 ?_))))
    refine And.intro rfl (Exists.intro _ (Exists.intro _ (Exists.intro _ (And.intro hE2 ?_))))
    refine And.intro rfl (Exists.intro _ (Exists.intro _ (Exists.intro _ (And.intro hE3 ?_))))
    refine And.intro (fun _ => ?_) (fun h => by cases h)
    refine And.intro (fun _ => ?_) (fun h => by cases h)
    refine And.intro (fun h => by cases h) (fun _ => ?_)
    refine And.intro (fun _ => ?_) (fun h => by cases h)
    refine And.intro rfl (Exists.intro _ (Exists.intro _ (Exists.intro _ (And.intro (awake_spec _ []) ?_))))
    exact Exists.intro _ (And.intro rfl (And.intro rfl (And.intro hmm rfl)))
  · refine And.intro rfl (Exists.intro _ (Exists.intro _ (Exists.intro _ (And.intro hE1 ?_))))
    refine And.intro rfl (Exists.intro _ (Exists.intro _ (Exists.intro _ (And.intro hE2 ?_))))
    refine And.intro rfl (Exists.intro _ (Exists.intro _ (Exists.intro _ (And.intro hE3 ?_))))
    refine And.intro (fun _ => ?_) (fun h => by cases h)
    refine And.intro (fun _ => ?_) (fun h => by cases h)
    refine And.intro (fun h => by cases h) (fun _ => ?_)
    refine And.intro (fun _ => ?_) (fun h => by cases h)
    refine And.intro rfl (Exists.intro _ (Exists.intro _ (Exists.intro _ (And.intro (awake_spec _ []) ?_))))
    exact Exists.intro _ (And.intro rfl (And.intro rfl (And.intro hmm rfl)))
  · refine And.intro rfl (Exists.intro _ (Exists.intro _ (Exists.intro _ (And.intro hE1 ?_))))
    refine And.intro rfl (Exists.intro _ (Exists.intro _ (Exists.intro _ (And.intro hE2 ?_))))
    refine And.intro rfl (Exists.intro _ (Exists.intro _ (Exists.intro _ (And.intro hE3 ?_))))
    refine And.intro (fun _ => ?_) (fun h => by cases h)
    refine And.intro (fun _ => ?_) (fun h => by cases h)
    refine And.intro (fun h => by cases h) (fun _ => ?_)
    refine And.intro (fun _ => ?_) (fun h => by cases h)
    refine And.intro rfl (Exists.intro _ (Exists.intro _ (Exists.intro _ (And.intro (awake_spec _ []) ?_))))
    exact Exists.intro _ (And.intro rfl (And.intro rfl (And.intro hmm rfl)))
  · refine And.intro rfl (Exists.intro _ (Exists.intro _ (Exists.intro _ (And.intro hE1 ?_))))
    refine And.intro rfl (Exists.intro _ (Exists.intro _ (Exists.intro _ (And.intro hE2 ?_))))
    refine And.intro rfl (Exists.intro _ (Exists.intro _ (Exists.intro _ (And.intro hE3 ?_))))
    refine And.intro (fun _ => ?_) (fun h => by cases h)
    refine And.intro (fun _ => ?_) (fun h => by cases h)
    refine And.intro (fun h => by cases h) (fun _ => ?_)
    refine And.intro (fun _ => ?_) (fun h => by cases h)
    refine And.intro rfl (Exists.intro _ (Exists.intro _ (Exists.intro _ (And.intro (awake_spec _ []) ?_))))
    exact Exists.intro _ (And.intro rfl (And.intro rfl (And.intro hmm rfl)))
  · refine And.intro rfl (Exists.intro _ (Exists.intro _ (Exists.intro _ (And.intro hE1 ?_))))
    refine And.intro rfl (Exists.intro _ (Exists.intro _ (Exists.intro _ (And.intro hE2 ?_))))
    refine And.intro rfl (Exists.intro _ (Exists.intro _ (Exists.intro _ (And.intro hE3 ?_))))
    refine And.intro (fun _ => ?_) (fun h => by cases h)
    refine And.intro (fun _ => ?_) (fun h => by cases h)
    refine And.intro (fun h => by cases h) (fun _ => ?_)
    refine And.intro (fun _ => ?_) (fun h => by cases h)
    refine And.intro rfl (Exists.intro _ (Exists.intro _ (Exists.intro _ (And.intro (awake_spec _ []) ?_))))
    exact Exists.intro _ (And.intro rfl (And.intro rfl (And.intro hmm rfl)))
  · refine And.intro rfl (Exists.intro _ (Exists.intro _ (Exists.intro _ (And.intro hE1 ?_))))
    refine And.intro rfl (Exists.intro _ (Exists.intro _ (Exists.intro _ (And.intro hE2 ?_))))
    refine And.intro rfl (Exists.intro _ (Exists.intro _ (Exists.intro _ (And.intro hE3 ?_))))
    refine And.intro (fun _ => ?_) (fun h => by cases h)
    refine And.intro (fun _ => ?_) (fun h => by cases h)
    refine And.intro (fun h => by cases h) (fun _ => ?_)
    refine And.intro (fun _ => ?_) (fun h => by cases h)
    refine And.intro rfl (Exists.intro _ (Exists.intro _ (Exists.intro _ (And.intro (awake_spec _ []) ?_))))
    exact Exists.intro _ (And.intro rfl (And.intro rfl (And.intro hmm rfl)))
  · refine And.intro rfl (Exists.intro _ (Exists.intro _ (Exists.intro _ (And.intro hE1 ?_))))
    refine And.intro rfl (Exists.intro _ (Exists.intro _ (Exists.intro _ (And.intro hE2 ?_))))
    refine And.intro rfl (Exists.intro _ (Exists.intro _ (Exists.intro _ (And.intro hE3 ?_))))
    refine And.intro (fun _ => ?_) (fun h => by cases h)
    refine And.intro (fun _ => ?_) (fun h => by cases h)
    refine And.intro (fun h => by cases h) (fun _ => ?_)
    refine And.intro (fun _ => ?_) (fun h => by cases h)
    refine And.intro rfl (Exists.intro _ (Exists.intro _ (Exists.intro _ (And.intro (awake_spec _ []) ?_))))
    exact Exists.intro _ (And.intro rfl (And.intro rfl (And.intro hmm rfl)))
  · refine And.intro rfl (Exists.intro _ (Exists.intro _ (Exists.intro _ (And.intro hE1 ?_))))
    refine And.intro rfl (Exists.intro _ (Exists.intro _ (Exists.intro _ (And.intro hE2 ?_))))
    refine And.intro rfl (Exists.intro _ (Exists.intro _ (Exists.intro _ (And.intro hE3 ?_))))
    refine And.intro (fun _ => ?_) (fun h => by cases h)
    refine And.intro (fun _ => ?_) (fun h => by cases h)
    refine And.intro (fun h => by cases h) (fun _ => ?_)
    refine And.intro (fun _ => ?_) (fun h => by cases h)
    refine And.intro rfl (Exists.intro _ (Exists.intro _ (Exists.intro _ (And.intro (awake_spec _ []) ?_))))
    exact Exists.intro _ (And.intro rfl (And.intro rfl (And.intro hmm rfl)))
  · refine And.intro rfl (Exists.intro _ (Exists.intro _ (Exists.intro _ (And.intro hE1 ?_))))
    refine And.intro rfl (Exists.intro _ (Exists.intro _ (Exists.intro _ (And.intro hE2 ?_))))
    refine And.intro rfl (Exists.intro _ (Exists.intro _ (Exists.intro _ (And.intro hE3 ?_))))
    refine And.intro (fun _ => ?_) (fun h => by cases h)
    refine And.intro (fun _ => ?_) (fun h => by cases h)
    refine And.intro (fun h => by cases h) (fun _ => ?_)
    refine And.intro (fun _ => ?_) (fun h => by cases h)
    refine And.intro rfl (Exists.intro _ (Exists.intro _ (Exists.intro _ (And.intro (awake_spec _ []) ?_))))
    exact Exists.intro _ (And.intro rfl (And.intro rfl (And.intro hmm rfl)))
  · refine And.intro rfl (Exists.intro _ (Exists.intro _ (Exists.intro _ (And.intro hE1 ?_))))
    refine And.intro rfl (Exists.intro _ (Exists.intro _ (Exists.intro _ (And.intro hE2 ?_))))
    refine And.intro rfl (Exists.intro _ (Exists.intro _ (Exists.intro _ (And.intro hE3 ?_))))
    refine And.intro (fun _ => ?_) (fun h => by cases h)
    refine And.intro (fun _ => ?_) (fun h => by cases h)
    refine And.intro (fun h => by cases h) (fun _ => ?_)
    refine And.intro (fun _ => ?_) (fun h => by cases h)
    refine And.intro rfl (Exists.intro _ (Exists.intro _ (Exists.intro _ (And.intro (awake_spec _ []) ?_))))
    exact Exists.intro _ (And.intro rfl (And.intro rfl (And.intro hmm rfl)))
  · refine And.intro rfl (Exists.intro _ (Exists.intro _ (Exists.intro _ (And.intro hE1 ?_))))
    refine And.intro rfl (Exists.intro _ (Exists.intro _ (Exists.intro _ (And.intro hE2 ?_))))
    refine And.intro rfl (Exists.intro _ (Exists.intro _ (Exists.intro _ (And.intro hE3 ?_))))
    refine And.intro (fun _ => ?_) (fun h => by cases h)
    refine And.intro (fun _ => ?_) (fun h => by cases h)
    refine And.intro (fun h => by cases h) (fun _ => ?_)
    refine And.intro (fun _ => ?_) (fun h => by cases h)
    refine And.intro rfl (Exists.intro _ (Exists.intro _ (Exists.intro _ (And.intro (awake_spec _ []) ?_))))
    exact Exists.intro _ (And.intro rfl (And.intro rfl (And.intro hmm rfl)))
  · refine And.intro rfl (Exists.intro _ (Exists.intro _ (Exists.intro _ (And.intro hE1 ?_))))
    refine And.intro rfl (Exists.intro _ (Exists.intro _ (Exists.intro _ (And.intro hE2 ?_))))
    refine And.intro rfl (Exists.intro _ (Exists.intro _ (Exists.intro _ (And.intro hE3 ?_))))
    refine And.intro (fun _ => ?_) (fun h => by cases h)
    refine And.intro (fun _ => ?_) (fun h => by cases h)
    refine And.intro (fun h => by cases h) (fun _ => ?_)
    refine And.intro (fun _ => ?_) (fun h => by cases h)
    refine And.intro rfl (Exists.intro _ (Exists.intro _ (Exists.intro _ (And.intro (awake_spec _ []) ?_))))
    exact Exists.intro _ (And.intro rfl (And.intro rfl (And.intro hmm rfl)))
  · refine And.intro rfl (Exists.intro _ (Exists.intro _ (Exists.intro _ (And.intro hE1 ?_))))
    refine And.intro rfl (Exists.intro _ (Exists.intro _ (Exists.intro _ (And.intro hE2 ?_))))
    refine And.intro rfl (Exists.intro _ (Exists.intro _ (Exists.intro _ (And.intro hE3 ?_))))
    refine And.intro (fun _ => ?_) (fun h => by cases h)
    refine And.intro (fun _ => ?_) (fun h => by cases h)
    refine And.intro (fun h => by cases h) (fun _ => ?_)
    refine And.intro (fun _ => ?_) (fun h => by cases h)
    refine And.intro rfl (Exists.intro _ (Exists.intro _ (Exists.intro _ (And.intro (awake_spec _ []) ?_))))
    exact Exists.intro _ (And.intro rfl (And.intro rfl (And.intro hmm rfl)))
  · refine And.intro rfl (Exists.intro _ (Exists.intro _ (Exists.intro _ (And.intro hE1 ?_))))
    refine And.intro rfl (Exists.intro _ (Exists.intro _ (Exists.intro _ (And.intro hE2 ?_))))
    refine And.intro rfl (Exists.intro _ (Exists.intro _ (Exists.intro _ (And.intro hE3 ?_))))
    refine And.intro (fun _ => ?_) (fun h => by cases h)
    refine And.intro (fun _ => ?_) (fun h => by cases h)
    refine And.intro (fun h => by cases h) (fun _ => ?_)
    refine And.intro (fun _ => ?_) (fun h => by cases h)
    refine And.intro rfl (Exists.intro _ (Exists.intro _ (Exists.intro _ (And.intro (awake_spec _ []) ?_))))
    exact Exists.intro _ (And.intro rfl (And.intro rfl (And.intro hmm rfl)))
  · refine And.intro rfl (Exists.intro _ (Exists.intro _ (Exists.intro _ (And.intro hE1 ?_))))
    refine And.intro rfl (Exists.intro _ (Exists.intro _ (Exists.intro _ (And.intro hE2 ?_))))
    refine And.intro rfl (Exists.intro _ (Exists.intro _ (Exists.intro _ (And.intro hE3 ?_))))
    refine And.intro (fun _ => ?_) (fun h => by cases h)
    refine And.intro (fun _ => ?_) (fun h => by cases h)
    refine And.intro (fun h => by cases h) (fun _ => ?_)
    refine And.intro (fun _ => ?_) (fun h => by cases h)
    refine And.intro rfl (Exists.intro _ (Exists.intro _ (Exists.intro _ (And.intro (awake_spec _ []) ?_))))
    exact Exists.intro _ (And.intro rfl (And.intro rfl (And.intro hmm rfl)))
end Go.Proofs.Ytnajopkaepjncaa

/- What nobody needs changes nothing: the walk through the law's own function, second way. -/
namespace Go.Proofs.Ytnajopkaepjncaa
open Am
set_option linter.unusedVariables false
set_option maxRecDepth 8000
set_option maxHeartbeats 8000000

theorem mid2 (H0 E1 E2 E3 : Hp) {x y z vo : AV} {l o ol : List Row} {ms : List Int} (hx : IsRows x l) (hy : IsRows y o) (hz : IsMarks z ms) (hvo : IsOut vo ol) (bot : Bool) (rest : Env) (hmm : More H0 (((H0 ++ E1) ++ E2) ++ E3)) (hE2 : CallsA Try.prog K0 24 [y, x] (H0 ++ E1) [] vo ((H0 ++ E1) ++ E2) []) {vf : AV} {fl : List Row} (hf : IsRows vf fl) (hE1 : CallsA Try.prog K0 17 [x, z, .bool bot] H0 [] (.tup [vf, .int .i64 0]) (H0 ++ E1) []) (hE3 : CallsA Try.prog K0 13 [vo, .int .u64 0] ((H0 ++ E1) ++ E2) [] (.tup [.nils, .int .i64 2]) (((H0 ++ E1) ++ E2) ++ E3) []) : cC Try.prog K0 (K0.vars 9) 147 c9m ((0, x) :: (1, y) :: (2, z) :: (3, .bool bot) :: rest) H0 [] [] fun e env' H1 sl cl => match e with
      | .exit _ => False
      | _ => ∃ x, resA2 Try.prog ⟨env', H1, [], []⟩ Try.f9.results.toList = some x ∧ x = .bool true ∧ More H0 H1 ∧ cl = [] := by
  rcases hx with ⟨rfl, _⟩ | ⟨_, rfl⟩ <;> rcases hy with ⟨rfl, _⟩ | ⟨_, rfl⟩ <;> rcases hz with ⟨rfl, _⟩ | ⟨_, rfl⟩ <;> rcases hvo with ⟨rfl, _⟩ | rfl <;> rcases hf with ⟨rfl, _⟩ | ⟨_, rfl⟩
  · refine And.intro rfl (Exists.intro _ (Exists.intro _ (Exists.intro _ (And.intro hE1 ?_))))
    refine And.intro rfl (Exists.intro _ (Exists.intro _ (Exists.intro _ (And.intro hE2 ?_))))
    refine And.intro rfl (Exists.intro _ (Exists.intro _ (Exists.intro _ (And.intro hE3 ?_))))
    refine And.intro (fun h => by cases h) (fun _ => ?_)
    refine And.intro (fun _ => ?_) (fun h => by cases h)
    refine And.intro (fun _ => ?_) (fun h => by cases h)
    refine And.intro (fun _ => ?_) (fun h => by cases h)
    refine And.intro rfl (Exists.intro _ (Exists.intro _ (Exists.intro _ (And.intro (awake_spec _ []) ?_))))
    exact Exists.intro _ (And.intro rfl (And.intro rfl (And.intro hmm rfl)))
  · refine And.intro rfl (Exists.intro _ (Exists.intro _ (Exists.intro _ (And.intro hE1 ?_))))
    refine And.intro rfl (Exists.intro _ (Exists.intro _ (Exists.intro _ (And.intro hE2 ?_))))
    refine And.intro rfl (Exists.intro _ (Exists.intro _ (Exists.intro _ (And.intro hE3 ?_))))
    refine And.intro (fun h => by cases h) (fun _ => ?_)
    refine And.intro (fun _ => ?_) (fun h => by cases h)
    refine And.intro (fun _ => ?_) (fun h => by cases h)
    refine And.intro (fun _ => ?_) (fun h => by cases h)
    refine And.intro rfl (Exists.intro _ (Exists.intro _ (Exists.intro _ (And.intro (awake_spec _ []) ?_))))
    exact Exists.intro _ (And.intro rfl (And.intro rfl (And.intro hmm rfl)))
  · refine And.intro rfl (Exists.intro _ (Exists.intro _ (Exists.intro _ (And.intro hE1 ?_))))
    refine And.intro rfl (Exists.intro _ (Exists.intro _ (Exists.intro _ (And.intro hE2 ?_))))
    refine And.intro rfl (Exists.intro _ (Exists.intro _ (Exists.intro _ (And.intro hE3 ?_))))
    refine And.intro (fun h => by cases h) (fun _ => ?_)
    refine And.intro (fun _ => ?_) (fun h => by cases h)
    refine And.intro (fun _ => ?_) (fun h => by cases h)
    refine And.intro (fun _ => ?_) (fun h => by cases h)
    refine And.intro rfl (Exists.intro _ (Exists.intro _ (Exists.intro _ (And.intro (awake_spec _ []) ?_))))
    exact Exists.intro _ (And.intro rfl (And.intro rfl (And.intro hmm rfl)))
  · refine And.intro rfl (Exists.intro _ (Exists.intro _ (Exists.intro _ (And.intro hE1 ?_))))
    refine And.intro rfl (Exists.intro _ (Exists.intro _ (Exists.intro _ (And.intro hE2 ?_))))
    refine And.intro rfl (Exists.intro _ (Exists.intro _ (Exists.intro _ (And.intro hE3 ?_))))
    refine And.intro (fun h => by cases h) (fun _ => ?_)
    refine And.intro (fun _ => ?_) (fun h => by cases h)
    refine And.intro (fun _ => ?_) (fun h => by cases h)
    refine And.intro (fun _ => ?_) (fun h => by cases h)
    refine And.intro rfl (Exists.intro _ (Exists.intro _ (Exists.intro _ (And.intro (awake_spec _ []) ?_))))
    exact Exists.intro _ (And.intro rfl (And.intro rfl (And.intro hmm rfl)))
  · refine And.intro rfl (Exists.intro _ (Exists.intro _ (Exists.intro _ (And.intro hE1 ?_))))
    refine And.intro rfl (Exists.intro _ (Exists.intro _ (Exists.intro _ (And.intro hE2 ?_))))
    refine And.intro rfl (Exists.intro _ (Exists.intro _ (Exists.intro _ (And.intro hE3 ?_))))
    refine And.intro (fun h => by cases h) (fun _ => ?_)
    refine And.intro (fun _ => ?_) (fun h => by cases h)
    refine And.intro (fun _ => ?_) (fun h => by cases h)
    refine And.intro (fun _ => ?_) (fun h => by cases h)
    refine And.intro rfl (Exists.intro _ (Exists.intro _ (Exists.intro _ (And.intro (awake_spec _ []) ?_))))
    exact Exists.intro _ (And.intro rfl (And.intro rfl (And.intro hmm rfl)))
  · refine And.intro rfl (Exists.intro _ (Exists.intro _ (Exists.intro _ (And.intro hE1 ?_))))
    refine And.intro rfl (Exists.intro _ (Exists.intro _ (Exists.intro _ (And.intro hE2 ?_))))
    refine And.intro rfl (Exists.intro _ (Exists.intro _ (Exists.intro _ (And.intro hE3 ?_))))
    refine And.intro (fun h => by cases h) (fun _ => ?_)
    refine And.intro (fun _ => ?_) (fun h => by cases h)
    refine And.intro (fun _ => ?_) (fun h => by cases h)
    refine And.intro (fun _ => ?_) (fun h => by cases h)
    refine And.intro rfl (Exists.intro _ (Exists.intro _ (Exists.intro _ (And.intro (awake_spec _ []) ?_))))
    exact Exists.intro _ (And.intro rfl (And.intro rfl (And.intro hmm rfl)))
  · refine And.intro rfl (Exists.intro _ (Exists.intro _ (Exists.intro _ (And.intro hE1 ?_))))
    refine And.intro rfl (Exists.intro _ (Exists.intro _ (Exists.intro _ (And.intro hE2 ?_))))
    refine And.intro rfl (Exists.intro _ (Exists.intro _ (Exists.intro _ (And.intro hE3 ?_))))
    refine And.intro (fun h => by cases h) (fun _ => ?_)
    refine And.intro (fun _ => ?_) (fun h => by cases h)
    refine And.intro (fun _ => ?_) (fun h => by cases h)
    refine And.intro (fun _ => ?_) (fun h => by cases h)
    refine And.intro rfl (Exists.intro _ (Exists.intro _ (Exists.intro _ (And.intro (awake_spec _ []) ?_))))
    exact Exists.intro _ (And.intro rfl (And.intro rfl (And.intro hmm rfl)))
  · refine And.intro rfl (Exists.intro _ (Exists.intro _ (Exists.intro _ (And.intro hE1 ?_))))
    refine And.intro rfl (Exists.intro _ (Exists.intro _ (Exists.intro _ (And.intro hE2 ?_))))
    refine And.intro rfl (Exists.intro _ (Exists.intro _ (Exists.intro _ (And.intro hE3 ?_))))
    refine And.intro (fun h => by cases h) (fun _ => ?_)
    refine And.intro (fun _ => ?_) (fun h => by cases h)
    refine And.intro (fun _ => ?_) (fun h => by cases h)
    refine And.intro (fun _ => ?_) (fun h => by cases h)
    refine And.intro rfl (Exists.intro _ (Exists.intro _ (Exists.intro _ (And.intro (awake_spec _ []) ?_))))
    exact Exists.intro _ (And.intro rfl (And.intro rfl (And.intro hmm rfl)))
  · refine And.intro rfl (Exists.intro _ (Exists.intro _ (Exists.intro _ (And.intro hE1 ?_))))
    refine And.intro rfl (Exists.intro _ (Exists.intro _ (Exists.intro _ (And.intro hE2 ?_))))
    refine And.intro rfl (Exists.intro _ (Exists.intro _ (Exists.intro _ (And.intro hE3 ?_))))
    refine And.intro (fun h => by cases h) (fun _ => ?_)
    refine And.intro (fun _ => ?_) (fun h => by cases h)
    refine And.intro (fun _ => ?_) (fun h => by cases h)
    refine And.intro (fun _ => ?_) (fun h => by cases h)
    refine And.intro rfl (Exists.intro _ (Exists.intro _ (Exists.intro _ (And.intro (awake_spec _ []) ?_))))
    exact Exists.intro _ (And.intro rfl (And.intro rfl (And.intro hmm rfl)))
  · refine And.intro rfl (Exists.intro _ (Exists.intro _ (Exists.intro _ (And.intro hE1 ?_))))
    refine And.intro rfl (Exists.intro _ (Exists.intro _ (Exists.intro _ (And.intro hE2 ?_))))
    refine And.intro rfl (Exists.intro _ (Exists.intro _ (Exists.intro _ (And.intro hE3 ?_))))
    refine And.intro (fun h => by cases h) (fun _ => ?_)
    refine And.intro (fun _ => ?_) (fun h => by cases h)
    refine And.intro (fun _ => ?_) (fun h => by cases h)
    refine And.intro (fun _ => ?_) (fun h => by cases h)
    refine And.intro rfl (Exists.intro _ (Exists.intro _ (Exists.intro _ (And.intro (awake_spec _ []) ?_))))
    exact Exists.intro _ (And.intro rfl (And.intro rfl (And.intro hmm rfl)))
  · refine And.intro rfl (Exists.intro _ (Exists.intro _ (Exists.intro _ (And.intro hE1 ?_))))
    refine And.intro rfl (Exists.intro _ (Exists.intro _ (Exists.intro _ (And.intro hE2 ?_))))
    refine And.intro rfl (Exists.intro _ (Exists.intro _ (Exists.intro _ (And.intro hE3 ?_))))
    refine And.intro (fun h => by cases h) (fun _ => ?_)
    refine And.intro (fun _ => ?_) (fun h => by cases h)
    refine And.intro (fun _ => ?_) (fun h => by cases h)
    refine And.intro (fun _ => ?_) (fun h => by cases h)
    refine And.intro rfl (Exists.intro _ (Exists.intro _ (Exists.intro _ (And.intro (awake_spec _ []) ?_))))
    exact Exists.intro _ (And.intro rfl (And.intro rfl (And.intro hmm rfl)))
  · refine And.intro rfl (Exists.intro _ (Exists.intro _ (Exists.intro _ (And.intro hE1 ?_))))
    refine And.intro rfl (Exists.intro _ (Exists.intro _ (Exists.intro _ (And.intro hE2 ?_))))
    refine And.intro rfl (Exists.intro _ (Exists.intro _ (Exists.intro _ (And.intro hE3 ?_))))
    refine And.intro (fun h => by cases h) (fun _ => ?_)
    refine And.intro (fun _ => ?_) (fun h => by cases h)
    refine And.intro (fun _ => ?_) (fun h => by cases h)
    refine And.intro (fun _ => ?_) (fun h => by cases h)
    refine And.intro rfl (Exists.intro _ (Exists.intro _ (Exists.intro _ (And.intro (awake_spec _ []) ?_))))
    exact Exists.intro _ (And.intro rfl (And.intro rfl (And.intro hmm rfl)))
  · refine And.intro rfl (Exists.intro _ (Exists.intro _ (Exists.intro _ (And.intro hE1 ?_))))
    refine And.intro rfl (Exists.intro _ (Exists.intro _ (Exists.intro _ (And.intro hE2 ?_))))
    refine And.intro rfl (Exists.intro _ (Exists.intro _ (Exists.intro _ (And.intro hE3 ?_))))
    refine And.intro (fun h => by cases h) (fun _ => ?_)
    refine And.intro (fun _ => ?_) (fun h => by cases h)
    refine And.intro (fun _ => ?_) (fun h => by cases h)
    refine And.intro (fun _ => ?_) (fun h => by cases h)
    refine And.intro rfl (Exists.intro _ (Exists.intro _ (Exists.intro _ (And.intro (awake_spec _ []) ?_))))
    exact Exists.intro _ (And.intro rfl (And.intro rfl (And.intro hmm rfl)))
  · refine And.intro rfl (Exists.intro _ (Exists.intro _ (Exists.intro _ (And.intro hE1 ?_))))
    refine And.intro rfl (Exists.intro _ (Exists.intro _ (Exists.intro _ (And.intro hE2 ?_))))
    refine And.intro rfl (Exists.intro _ (Exists.intro _ (Exists.intro _ (And.intro hE3 ?_))))
    refine And.intro (fun h => by cases h) (fun _ => ?_)
    refine And.intro (fun _ => ?_) (fun h => by cases h)
    refine And.intro (fun _ => ?_) (fun h => by cases h)
    refine And.intro (fun _ => ?_) (fun h => by cases h)
    refine And.intro rfl (Exists.intro _ (Exists.intro _ (Exists.intro _ (And.intro (awake_spec _ []) ?_))))
    exact Exists.intro _ (And.intro rfl (And.intro rfl (And.intro hmm rfl)))
  · refine And.intro rfl (Exists.intro _ (Exists.intro _ (Exists.intro _ (And.intro hE1 ?_))))
    refine And.intro rfl (Exists.intro _ (Exists.intro _ (Exists.intro _ (And.intro hE2 ?_))))
    refine And.intro rfl (Exists.intro _ (Exists.intro _ (Exists.intro _ (And.intro hE3 ?_))))
    refine And.intro (fun h => by cases h) (fun _ => ?_)
    refine And.intro (fun _ => ?_) (fun h => by cases h)
    refine And.intro (fun _ => ?_) (fun h => by cases h)
    refine And.intro (fun _ => ?_) (fun h => by cases h)
    refine And.intro rfl (Exists.intro _ (Exists.intro _ (Exists.intro _ (And.intro (awake_spec _ []) ?_))))
    exact Exists.intro _ (And.intro rfl (And.intro rfl (And.intro hmm rfl)))
  · refine And.intro rfl (Exists.intro _ (Exists.intro _ (Exists.intro _ (And.intro hE1 ?_))))
    refine And.intro rfl (Exists.intro _ (Exists.intro _ (Exists.intro _ (And.intro hE2 ?_))))
    refine And.intro rfl (Exists.intro _ (Exists.intro _ (Exists.intro _ (And.intro hE3 ?_))))
    refine And.intro (fun h => by cases h) (fun _ => ?_)
    refine And.intro (fun _ => ?_) (fun h => by cases h)
    refine And.intro (fun _ => ?_) (fun h => by cases h)
    refine And.intro (fun _ => ?_) (fun h => by cases h)
    refine And.intro rfl (Exists.intro _ (Exists.intro _ (Exists.intro _ (And.intro (awake_spec _ []) ?_))))
    exact Exists.intro _ (And.intro rfl (And.intro rfl (And.intro hmm rfl)))
  · refine And.intro rfl (Exists.intro _ (Exists.intro _ (Exists.intro _ (And.intro hE1 ?_))))
    refine And.intro rfl (Exists.intro _ (Exists.intro _ (Exists.intro _ (And.intro hE2 ?_))))
    refine And.intro rfl (Exists.intro _ (Exists.intro _ (Exists.intro _ (And.intro hE3 ?_))))
    refine And.intro (fun h => by cases h) (fun _ => ?_)
    refine And.intro (fun _ => ?_) (fun h => by cases h)
    refine And.intro (fun _ => ?_) (fun h => by cases h)
    refine And.intro (fun _ => ?_) (fun h => by cases h)
    refine And.intro rfl (Exists.intro _ (Exists.intro _ (Exists.intro _ (And.intro (awake_spec _ []) ?_))))
    exact Exists.intro _ (And.intro rfl (And.intro rfl (And.intro hmm rfl)))
  · refine And.intro rfl (Exists.intro _ (Exists.intro _ (Exists.intro _ (And.intro hE1 ?_))))
    refine And.intro rfl (Exists.intro _ (Exists.intro _ (Exists.intro _ (And.intro hE2 ?_))))
    refine And.intro rfl (Exists.intro _ (Exists.intro _ (Exists.intro _ (And.intro hE3 ?_))))
    refine And.intro (fun h => by cases h) (fun _ => ?_)
    refine And.intro (fun _ => ?_) (fun h => by cases h)
    refine And.intro (fun _ => ?_) (fun h => by cases h)
    refine And.intro (fun _ => ?_) (fun h => by cases h)
    refine And.intro rfl (Exists.intro _ (Exists.intro _ (Exists.intro _ (And.intro (awake_spec _ []) ?_))))
    exact Exists.intro _ (And.intro rfl (And.intro rfl (And.intro hmm rfl)))
  · refine And.intro rfl (Exists.intro _ (Exists.intro _ (Exists.intro _ (And.intro hE1 ?_))))
    refine And.intro rfl (Exists.intro _ (Exists.intro _ (Exists.intro _ (And.intro hE2 ?_))))
    refine And.intro rfl (Exists.intro _ (Exists.intro _ (Exists.intro _ (And.intro hE3 ?_))))
    refine And.intro (fun h => by cases h) (fun _ => ?_)
    refine And.intro (fun _ => ?_) (fun h => by cases h)
    refine And.intro (fun _ => ?_) (fun h => by cases h)
    refine And.intro (fun _ => ?_) (fun h => by cases h)
    refine And.intro rfl (Exists.intro _ (Exists.intro _ (Exists.intro _ (And.intro (awake_spec _ []) ?_))))
    exact Exists.intro _ (And.intro rfl (And.intro rfl (And.intro hmm rfl)))
  · refine And.intro rfl (Exists.intro _ (Exists.intro _ (Exists.intro _ (And.intro hE1 ?_))))
    refine And.intro rfl (Exists.intro _ (Exists.intro _ (Exists.intro _ (And.intro hE2 ?_))))
    refine And.intro rfl (Exists.intro _ (Exists.intro _ (Exists.intro _ (And.intro hE3 ?_))))
    refine And.intro (fun h => by cases h) (fun _ => ?_)
    refine And.intro (fun _ => ?_) (fun h => by cases h)
    refine And.intro (fun _ => ?_) (fun h => by cases h)
    refine And.intro (fun _ => ?_) (fun h => by cases h)
    refine And.intro rfl (Exists.intro _ (Exists.intro _ (Exists.intro _ (And.intro (awake_spec _ []) ?_))))
    exact Exists.intro _ (And.intro rfl (And.intro rfl (And.intro hmm rfl)))
  · refine And.intro rfl (Exists.intro _ (Exists.intro _ (Exists.intro _ (And.intro hE1 ?_))))
    refine And.intro rfl (Exists.intro _ (Exists.intro _ (Exists.intro _ (And.intro hE2 ?_))))
    refine And.intro rfl (Exists.intro _ (Exists.intro _ (Exists.intro _ (And.intro hE3 ?_))))
    refine And.intro (fun h => by cases h) (fun _ => ?_)
    refine And.intro (fun _ => ?_) (fun h => by cases h)
    refine And.intro (fun _ => ?_) (fun h => by cases h)
    refine And.intro (fun _ => ?_) (fun h => by cases h)
    refine And.intro rfl (Exists.intro _ (Exists.intro _ (Exists.intro _ (And.intro (awake_spec _ []) ?_))))
    exact Exists.intro _ (And.intro rfl (And.intro rfl (And.intro hmm rfl)))
  · refine And.intro rfl (Exists.intro _ (Exists.intro _ (Exists.intro _ (And.intro hE1 ?_))))
    refine And.intro rfl (Exists.intro _ (Exists.intro _ (Exists.intro _ (And.intro hE2 ?_))))
    refine And.intro rfl (Exists.intro _ (Exists.intro _ (Exists.intro _ (And.intro hE3 ?_))))
    refine And.intro (fun h => by cases h) (fun _ => ?_)
    refine And.intro (fun _ => ?_) (fun h => by cases h)
    refine And.intro (fun _ => ?_) (fun h => by cases h)
    refine And.intro (fun _ => ?_) (fun h => by cases h)
    refine And.intro rfl (Exists.intro _ (Exists.intro _ (Exists.intro _ (And.intro (awake_spec _ []) ?_))))
    exact Exists.intro _ (And.intro rfl (And.intro rfl (And.intro hmm rfl)))
  · refine And.intro rfl (Exists.intro _ (Exists.intro _ (Exists.intro _ (And.intro hE1 ?_))))
    refine And.intro rfl (Exists.intro _ (Exists.intro _ (Exists.intro _ (And.intro hE2 ?_))))
    refine And.intro rfl (Exists.intro _ (Exists.intro _ (Exists.intro _ (And.intro hE3 ?_))))
    refine And.intro (fun h => by cases h) (fun _ => ?_)
    refine And.intro (fun _ => ?_) (fun h => by cases h)
    refine And.intro (fun _ => ?_) (fun h => by cases h)
    refine And.intro (fun _ => ?_) (fun h => by cases h)
    refine And.intro rfl (Exists.intro _ (Exists.intro _ (Exists.intro _ (And.intro (awake_spec _ []) ?_))))
    exact Exists.intro _ (And.intro rfl (And.intro rfl (And.intro hmm rfl)))
  · refine And.intro rfl (Exists.intro _ (Exists.intro _ (Exists.intro _ (And.intro hE1 ?_))))
    refine And.intro rfl (Exists.intro _ (Exists.intro _ (Exists.intro _ (And.intro hE2 ?_))))
    refine And.intro rfl (Exists.intro _ (Exists.intro _ (Exists.intro _ (And.intro hE3 ?_))))
    refine And.intro (fun h => by cases h) (fun _ => ?_)
    refine And.intro (fun _ => ?_) (fun h => by cases h)
    refine And.intro (fun _ => ?_) (fun h => by cases h)
    refine And.intro (fun _ => ?_) (fun h => by cases h)
    refine And.intro rfl (Exists.intro _ (Exists.intro _ (Exists.intro _ (And.intro (awake_spec _ []) ?_))))
    exact Exists.intro _ (And.intro rfl (And.intro rfl (And.intro hmm rfl)))
  · refine And.intro rfl (Exists.intro _ (Exists.intro _ (Exists.intro _ (And.intro hE1 ?_))))
    refine And.intro rfl (Exists.intro _ (Exists.intro _ (Exists.intro _ (And.intro hE2 ?_))))
    refine And.intro rfl (Exists.intro _ (Exists.intro _ (Exists.intro _ (And.intro hE3 ?_))))
    refine And.intro (fun h => by cases h) (fun _ => ?_)
    refine And.intro (fun _ => ?_) (fun h => by cases h)
    refine And.intro (fun _ => ?_) (fun h => by cases h)
    refine And.intro (fun _ => ?_) (fun h => by cases h)
    refine And.intro rfl (Exists.intro _ (Exists.intro _ (Exists.intro _ (And.intro (awake_spec _ []) ?_))))
    exact Exists.intro _ (And.intro rfl (And.intro rfl (And.intro hmm rfl)))
  · refine And.intro rfl (Exists.intro _ (Exists.intro _ (Exists.intro _ (And.intro hE1 ?_))))
    refine And.intro rfl (Exists.intro _ (Exists.intro _ (Exists.intro _ (And.intro hE2 ?_))))
    refine And.intro rfl (Exists.intro _ (Exists.intro _ (Exists.intro _ (And.intro hE3 ?_))))
    refine And.intro (fun h => by cases h) (fun _ => ?_)
    refine And.intro (fun _ => ?_) (fun h => by cases h)
    refine And.intro (fun _ => ?_) (fun h => by cases h)
    refine And.intro (fun _ => ?_) (fun h => by cases h)
    refine And.intro rfl (Exists.intro _ (Exists.intro _ (Exists.intro _ (And.intro (awake_spec _ []) ?_))))
    exact Exists.intro _ (And.intro rfl (And.intro rfl (And.intro hmm rfl)))
  · refine And.intro rfl (Exists.intro _ (Exists.intro _ (Exists.intro _ (And.intro hE1 ?_))))
    refine And.intro rfl (Exists.intro _ (Exists.intro _ (Exists.intro _ (And.intro hE2 ?_))))
    refine And.intro rfl (Exists.intro _ (Exists.intro _ (Exists.intro _ (And.intro hE3 ?_))))
    refine And.intro (fun h => by cases h) (fun _ => ?_)
    refine And.intro (fun _ => ?_) (fun h => by cases h)
    refine And.intro (fun _ => ?_) (fun h => by cases h)
    refine And.intro (fun _ => ?_) (fun h => by cases h)
    refine And.intro rfl (Exists.intro _ (Exists.intro _ (Exists.intro _ (And.intro (awake_spec _ []) ?_))))
    exact Exists.intro _ (And.intro rfl (And.intro rfl (And.intro hmm rfl)))
  · refine And.intro rfl (Exists.intro _ (Exists.intro _ (Exists.intro _ (And.intro hE1 ?_))))
    refine And.intro rfl (Exists.intro _ (Exists.intro _ (Exists.intro _ (And.intro hE2 ?_))))
    refine And.intro rfl (Exists.intro _ (Exists.intro _ (Exists.intro _ (And.intro hE3 ?_))))
    refine And.intro (fun h => by cases h) (fun _ => ?_)
    refine And.intro (fun _ => ?_) (fun h => by cases h)
    refine And.intro (fun _ => ?_) (fun h => by cases h)
    refine And.intro (fun _ => ?_) (fun h => by cases h)
    refine And.intro rfl (Exists.intro _ (Exists.intro _ (Exists.intro _ (And.intro (awake_spec _ []) ?_))))
    exact Exists.intro _ (And.intro rfl (And.intro rfl (And.intro hmm rfl)))
  · refine And.intro rfl (Exists.intro _ (Exists.intro _ (Exists.intro _ (And.intro hE1 ?_))))
    refine And.intro rfl (Exists.intro _ (Exists.intro _ (Exists.intro _ (And.intro hE2 ?_))))
    refine And.intro rfl (Exists.intro _ (Exists.intro _ (Exists.intro _ (And.intro hE3 ?_))))
    refine And.intro (fun h => by cases h) (fun _ => ?_)
    refine And.intro (fun _ => ?_) (fun h => by cases h)
    refine And.intro (fun _ => ?_) (fun h => by cases h)
    refine And.intro (fun _ => ?_) (fun h => by cases h)
    refine And.intro rfl (Exists.intro _ (Exists.intro _ (Exists.intro _ (And.intro (awake_spec _ []) ?_))))
    exact Exists.intro _ (And.intro rfl (And.intro rfl (And.intro hmm rfl)))
  · refine And.intro rfl (Exists.intro _ (Exists.intro _ (Exists.intro _ (And.intro hE1 ?_))))
    refine And.intro rfl (Exists.intro _ (Exists.intro _ (Exists.intro _ (And.intro hE2 ?_))))
    refine And.intro rfl (Exists.intro _ (Exists.intro _ (Exists.intro _ (And.intro hE3 ?_))))
    refine And.intro (fun h => by cases h) (fun _ => ?_)
    refine And.intro (fun _ => ?_) (fun h => by cases h)
    refine And.intro (fun _ => ?_) (fun h => by cases h)
    refine And.intro (fun _ => ?_) (fun h => by cases h)
    refine And.intro rfl (Exists.intro _ (Exists.intro _ (Exists.intro _ (And.intro (awake_spec _ []) ?_))))
    exact Exists.intro _ (And.intro rfl (And.intro rfl (And.intro hmm rfl)))
  · refine And.intro rfl (Exists.intro _ (Exists.intro _ (Exists.intro _ (And.intro hE1 ?_))))
    refine And.intro rfl (Exists.intro _ (Exists.intro _ (Exists.intro _ (And.intro hE2 ?_))))
    refine And.intro rfl (Exists.intro _ (Exists.intro _ (Exists.intro _ (And.intro hE3 ?_))))
    refine And.intro (fun h => by cases h) (fun _ => ?_)
    refine And.intro (fun _ => ?_) (fun h => by cases h)
    refine And.intro (fun _ => ?_) (fun h => by cases h)
    refine And.intro (fun _ => ?_) (fun h => by cases h)
    refine And.intro rfl (Exists.intro _ (Exists.intro _ (Exists.intro _ (And.intro (awake_spec _ []) ?_))))
    exact Exists.intro _ (And.intro rfl (And.intro rfl (And.intro hmm rfl)))
  · refine And.intro rfl (Exists.intro _ (Exists.intro _ (Exists.intro _ (And.intro hE1 ?_))))
    refine And.intro rfl (Exists.intro _ (Exists.intro _ (Exists.intro _ (And.intro hE2 ?_))))
    refine And.intro rfl (Exists.intro _ (Exists.intro _ (Exists.intro _ (And.intro hE3 ?_))))
    refine And.intro (fun h => by cases h) (fun _ => ?_)
    refine And.intro (fun _ => ?_) (fun h => by cases h)
    refine And.intro (fun _ => ?_) (fun h => by cases h)
    refine And.intro (fun _ => ?_) (fun h => by cases h)
    refine And.intro rfl (Exists.intro _ (Exists.intro _ (Exists.intro _ (And.intro (awake_spec _ []) ?_))))
    exact Exists.intro _ (And.intro rfl (And.intro rfl (And.intro hmm rfl)))
end Go.Proofs.Ytnajopkaepjncaa

/- What nobody needs changes nothing: the walk through the law's own function, third way. -/
namespace Go.Proofs.Ytnajopkaepjncaa
open Am
set_option linter.unusedVariables false
set_option maxRecDepth 8000
set_option maxHeartbeats 8000000

theorem mid3 (H0 E1 E2 E3 : Hp) {x y z vo : AV} {l o ol : List Row} {ms : List Int} (hx : IsRows x l) (hy : IsRows y o) (hz : IsMarks z ms) (hvo : IsOut vo ol) (bot : Bool) (rest : Env) (hmm : More H0 (((H0 ++ E1) ++ E2) ++ E3)) (hE2 : CallsA Try.prog K0 24 [y, x] (H0 ++ E1) [] vo ((H0 ++ E1) ++ E2) []) {v12 : AV} {ps : List AV} (hv : IsL 41 v12 ps) (hE1 : CallsA Try.prog K0 17 [x, z, .bool bot] H0 [] (.tup [.nils, .int .i64 2]) (H0 ++ E1) []) (hE3 : CallsA Try.prog K0 13 [vo, .int .u64 0] ((H0 ++ E1) ++ E2) [] (.tup [v12, .int .i64 0]) (((H0 ++ E1) ++ E2) ++ E3) []) : cC Try.prog K0 (K0.vars 9) 147 c9m ((0, x) :: (1, y) :: (2, z) :: (3, .bool bot) :: rest) H0 [] [] fun e env' H1 sl cl => match e with
      | .exit _ => False
      | _ => ∃ x, resA2 Try.prog ⟨env', H1, [], []⟩ Try.f9.results.toList = some x ∧ x = .bool true ∧ More H0 H1 ∧ cl = [] := by
  rcases hx with ⟨rfl, _⟩ | ⟨_, rfl⟩ <;> rcases hy with ⟨rfl, _⟩ | ⟨_, rfl⟩ <;> rcases hz with ⟨rfl, _⟩ | ⟨_, rfl⟩ <;> rcases hvo with ⟨rfl, _⟩ | rfl <;> rcases hv with ⟨rfl, _⟩ | ⟨_, rfl⟩
  · refine And.intro rfl (Exists.intro _ (Exists.intro _ (Exists.intro _ (And.intro hE1 ?_))))
    refine And.intro rfl (Exists.intro _ (Exists.intro _ (Exists.intro _ (And.intro hE2 ?_))))
    refine And.intro rfl (Exists.intro _ (Exists.intro _ (Exists.intro _ (And.intro hE3 ?_))))
    refine And.intro (fun _ => ?_) (fun h => by cases h)
    refine And.intro (fun _ => ?_) (fun h => by cases h)
    refine And.intro (fun h => by cases h) (fun _ => ?_)
    refine And.intro (fun _ => ?_) (fun h => by cases h)
    refine And.intro rfl (Exists.intro _ (Exists.intro _ (Exists.intro _ (And.intro (awake_spec _ []) ?_))))
    exact Exists.intro _ (And.intro rfl (And.intro rfl (And.intro hmm rfl)))
  · refine And.intro rfl (Exists.intro _ (Exists.intro _ (Exists.intro _ (And.intro hE1 ?_))))
    refine And.intro rfl (Exists.intro _ (Exists.intro _ (Exists.intro _ (And.intro hE2 ?_))))
    refine And.intro rfl (Exists.intro _ (Exists.intro _ (Exists.intro _ (And.intro hE3 ?_))))
    refine And.intro (fun _ => ?_) (fun h => by cases h)
    refine And.intro (fun _ => ?_) (fun h => by cases h)
    refine And.intro (fun h => by cases h) (fun _ => ?_)
    refine And.intro (fun _ => ?_) (fun h => by cases h)
    refine And.intro rfl (Exists.intro _ (Exists.intro _ (Exists.intro _ (And.intro (awake_spec _ []) ?_))))
    exact Exists.intro _ (And.intro rfl (And.intro rfl (And.intro hmm rfl)))
  · refine And.intro rfl (Exists.intro _ (Exists.intro _ (Exists.intro _ (And.intro hE1 ?_))))
    refine And.intro rfl (Exists.intro _ (Exists.intro _ (Exists.intro _ (And.intro hE2 ?_))))
    refine And.intro rfl (Exists.intro _ (Exists.intro _ (Exists.intro _ (And.intro hE3 ?_))))
    refine And.intro (fun _ => ?_) (fun h => by cases h)
    refine And.intro (fun _ => ?_) (fun h => by cases h)
    refine And.intro (fun h => by cases h) (fun _ => ?_)
    refine And.intro (fun _ => ?_) (fun h => by cases h)
    refine And.intro rfl (Exists.intro _ (Exists.intro _ (Exists.intro _ (And.intro (awake_spec _ []) ?_))))
    exact Exists.intro _ (And.intro rfl (And.intro rfl (And.intro hmm rfl)))
  · refine And.intro rfl (Exists.intro _ (Exists.intro _ (Exists.intro _ (And.intro hE1 ?_))))
    refine And.intro rfl (Exists.intro _ (Exists.intro _ (Exists.intro _ (And.intro hE2 ?_))))
    refine And.intro rfl (Exists.intro _ (Exists.intro _ (Exists.intro _ (And.intro hE3 ?_))))
    refine And.intro (fun _ => ?_) (fun h => by cases h)
    refine And.intro (fun _ => ?_) (fun h => by cases h)
    refine And.intro (fun h => by cases h) (fun _ => ?_)
    refine And.intro (fun _ => ?_) (fun h => by cases h)
    refine And.intro rfl (Exists.intro _ (Exists.intro _ (Exists.intro _ (And.intro (awake_spec _ []) ?_))))
    exact Exists.intro _ (And.intro rfl (And.intro rfl (And.intro hmm rfl)))
  · refine And.intro rfl (Exists.intro _ (Exists.intro _ (Exists.intro _ (And.intro hE1 ?_))))
    refine And.intro rfl (Exists.intro _ (Exists.intro _ (Exists.intro _ (And.intro hE2 ?_))))
    refine And.intro rfl (Exists.intro _ (Exists.intro _ (Exists.intro _ (And.intro hE3 ?_))))
    refine And.intro (fun _ => ?_) (fun h => by cases h)
    refine And.intro (fun _ => ?_) (fun h => by cases h)
    refine And.intro (fun h => by cases h) (fun _ => ?_)
    refine And.intro (fun _ => ?_) (fun h => by cases h)
    refine And.intro rfl (Exists.intro _ (Exists.intro _ (Exists.intro _ (And.intro (awake_spec _ []) ?_))))
    exact Exists.intro _ (And.intro rfl (And.intro rfl (And.intro hmm rfl)))
  · refine And.intro rfl (Exists.intro _ (Exists.intro _ (Exists.intro _ (And.intro hE1 ?_))))
    refine And.intro rfl (Exists.intro _ (Exists.intro _ (Exists.intro _ (And.intro hE2 ?_))))
    refine And.intro rfl (Exists.intro _ (Exists.intro _ (Exists.intro _ (And.intro hE3 ?_))))
    refine And.intro (fun _ => ?_) (fun h => by cases h)
    refine And.intro (fun _ => ?_) (fun h => by cases h)
    refine And.intro (fun h => by cases h) (fun _ => ?_)
    refine And.intro (fun _ => ?_) (fun h => by cases h)
    refine And.intro rfl (Exists.intro _ (Exists.intro _ (Exists.intro _ (And.intro (awake_spec _ []) ?_))))
    exact Exists.intro _ (And.intro rfl (And.intro rfl (And.intro hmm rfl)))
  · refine And.intro rfl (Exists.intro _ (Exists.intro _ (Exists.intro _ (And.intro hE1 ?_))))
    refine And.intro rfl (Exists.intro _ (Exists.intro _ (Exists.intro _ (And.intro hE2 ?_))))
    refine And.intro rfl (Exists.intro _ (Exists.intro _ (Exists.intro _ (And.intro hE3 ?_))))
    refine And.intro (fun _ => ?_) (fun h => by cases h)
    refine And.intro (fun _ => ?_) (fun h => by cases h)
    refine And.intro (fun h => by cases h) (fun _ => ?_)
    refine And.intro (fun _ => ?_) (fun h => by cases h)
    refine And.intro rfl (Exists.intro _ (Exists.intro _ (Exists.intro _ (And.intro (awake_spec _ []) ?_))))
    exact Exists.intro _ (And.intro rfl (And.intro rfl (And.intro hmm rfl)))
  · refine And.intro rfl (Exists.intro _ (Exists.intro _ (Exists.intro _ (And.intro hE1 ?_))))
    refine And.intro rfl (Exists.intro _ (Exists.intro _ (Exists.intro _ (And.intro hE2 ?_))))
    refine And.intro rfl (Exists.intro _ (Exists.intro _ (Exists.intro _ (And.intro hE3 ?_))))
    refine And.intro (fun _ => ?_) (fun h => by cases h)
    refine And.intro (fun _ => ?_) (fun h => by cases h)
    refine And.intro (fun h => by cases h) (fun _ => ?_)
    refine And.intro (fun _ => ?_) (fun h => by cases h)
    refine And.intro rfl (Exists.intro _ (Exists.intro _ (Exists.intro _ (And.intro (awake_spec _ []) ?_))))
    exact Exists.intro _ (And.intro rfl (And.intro rfl (And.intro hmm rfl)))
  · refine And.intro rfl (Exists.intro _ (Exists.intro _ (Exists.intro _ (And.intro hE1 ?_))))
    refine And.intro rfl (Exists.intro _ (Exists.intro _ (Exists.intro _ (And.intro hE2 ?_))))
    refine And.intro rfl (Exists.intro _ (Exists.intro _ (Exists.intro _ (And.intro hE3 ?_))))
    refine And.intro (fun _ => ?_) (fun h => by cases h)
    refine And.intro (fun _ => ?_) (fun h => by cases h)
    refine And.intro (fun h => by cases h) (fun _ => ?_)
    refine And.intro (fun _ => ?_) (fun h => by cases h)
    refine And.intro rfl (Exists.intro _ (Exists.intro _ (Exists.intro _ (And.intro (awake_spec _ []) ?_))))
    exact Exists.intro _ (And.intro rfl (And.intro rfl (And.intro hmm rfl)))
  · refine And.intro rfl (Exists.intro _ (Exists.intro _ (Exists.intro _ (And.intro hE1 ?_))))
    refine And.intro rfl (Exists.intro _ (Exists.intro _ (Exists.intro _ (And.intro hE2 ?_))))
    refine And.intro rfl (Exists.intro _ (Exists.intro _ (Exists.intro _ (And.intro hE3 ?_))))
    refine And.intro (fun _ => ?_) (fun h => by cases h)
    refine And.intro (fun _ => ?_) (fun h => by cases h)
    refine And.intro (fun h => by cases h) (fun _ => ?_)
    refine And.intro (fun _ => ?_) (fun h => by cases h)
    refine And.intro rfl (Exists.intro _ (Exists.intro _ (Exists.intro _ (And.intro (awake_spec _ []) ?_))))
    exact Exists.intro _ (And.intro rfl (And.intro rfl (And.intro hmm rfl)))
  · refine And.intro rfl (Exists.intro _ (Exists.intro _ (Exists.intro _ (And.intro hE1 ?_))))
    refine And.intro rfl (Exists.intro _ (Exists.intro _ (Exists.intro _ (And.intro hE2 ?_))))
    refine And.intro rfl (Exists.intro _ (Exists.intro _ (Exists.intro _ (And.intro hE3 ?_))))
    refine And.intro (fun _ => ?_) (fun h => by cases h)
    refine And.intro (fun _ => ?_) (fun h => by cases h)
    refine And.intro (fun h => by cases h) (fun _ => ?_)
    refine And.intro (fun _ => ?_) (fun h => by cases h)
    refine And.intro rfl (Exists.intro _ (Exists.intro _ (Exists.intro _ (And.intro (awake_spec _ []) ?_))))
    exact Exists.intro _ (And.intro rfl (And.intro rfl (And.intro hmm rfl)))
  · refine And.intro rfl (Exists.intro _ (Exists.intro _ (Exists.intro _ (And.intro hE1 ?_))))
    refine And.intro rfl (Exists.intro _ (Exists.intro _ (Exists.intro _ (And.intro hE2 ?_))))
    refine And.intro rfl (Exists.intro _ (Exists.intro _ (Exists.intro _ (And.intro hE3 ?_))))
    refine And.intro (fun _ => ?_) (fun h => by cases h)
    refine And.intro (fun _ => ?_) (fun h => by cases h)
    refine And.intro (fun h => by cases h) (fun _ => ?_)
    refine And.intro (fun _ => ?_) (fun h => by cases h)
    refine And.intro rfl (Exists.intro _ (Exists.intro _ (Exists.intro _ (And.intro (awake_spec _ []) ?_))))
    exact Exists.intro _ (And.intro rfl (And.intro rfl (And.intro hmm rfl)))
  · refine And.intro rfl (Exists.intro _ (Exists.intro _ (Exists.intro _ (And.intro hE1 ?_))))
    refine And.intro rfl (Exists.intro _ (Exists.intro _ (Exists.intro _ (And.intro hE2 ?_))))
    refine And.intro rfl (Exists.intro _ (Exists.intro _ (Exists.intro _ (And.intro hE3 ?_))))
    refine And.intro (fun _ => ?_) (fun h => by cases h)
    refine And.intro (fun _ => ?_) (fun h => by cases h)
    refine And.intro (fun h => by cases h) (fun _ => ?_)
    refine And.intro (fun _ => ?_) (fun h => by cases h)
    refine And.intro rfl (Exists.intro _ (Exists.intro _ (Exists.intro _ (And.intro (awake_spec _ []) ?_))))
    exact Exists.intro _ (And.intro rfl (And.intro rfl (And.intro hmm rfl)))
  · refine And.intro rfl (Exists.intro _ (Exists.intro _ (Exists.intro _ (And.intro hE1 ?_))))
    refine And.intro rfl (Exists.intro _ (Exists.intro _ (Exists.intro _ (And.intro hE2 ?_))))
    refine And.intro rfl (Exists.intro _ (Exists.intro _ (Exists.intro _ (And.intro hE3 ?_))))
    refine And.intro (fun _ => ?_) (fun h => by cases h)
    refine And.intro (fun _ => ?_) (fun h => by cases h)
    refine And.intro (fun h => by cases h) (fun _ => ?_)
    refine And.intro (fun _ => ?_) (fun h => by cases h)
    refine And.intro rfl (Exists.intro _ (Exists.intro _ (Exists.intro _ (And.intro (awake_spec _ []) ?_))))
    exact Exists.intro _ (And.intro rfl (And.intro rfl (And.intro hmm rfl)))
  · refine And.intro rfl (Exists.intro _ (Exists.intro _ (Exists.intro _ (And.intro hE1 ?_))))
    refine And.intro rfl (Exists.intro _ (Exists.intro _ (Exists.intro _ (And.intro hE2 ?_))))
    refine And.intro rfl (Exists.intro _ (Exists.intro _ (Exists.intro _ (And.intro hE3 ?_))))
    refine And.intro (fun _ => ?_) (fun h => by cases h)
    refine And.intro (fun _ => ?_) (fun h => by cases h)
    refine And.intro (fun h => by cases h) (fun _ => ?_)
    refine And.intro (fun _ => ?_) (fun h => by cases h)
    refine And.intro rfl (Exists.intro _ (Exists.intro _ (Exists.intro _ (And.intro (awake_spec _ []) ?_))))
    exact Exists.intro _ (And.intro rfl (And.intro rfl (And.intro hmm rfl)))
  · refine And.intro rfl (Exists.intro _ (Exists.intro _ (Exists.intro _ (And.intro hE1 ?_))))
    refine And.intro rfl (Exists.intro _ (Exists.intro _ (Exists.intro _ (And.intro hE2 ?_))))
    refine And.intro rfl (Exists.intro _ (Exists.intro _ (Exists.intro _ (And.intro hE3 ?_))))
    refine And.intro (fun _ => ?_) (fun h => by cases h)
    refine And.intro (fun _ => ?_) (fun h => by cases h)
    refine And.intro (fun h => by cases h) (fun _ => ?_)
    refine And.intro (fun _ => ?_) (fun h => by cases h)
    refine And.intro rfl (Exists.intro _ (Exists.intro _ (Exists.intro _ (And.intro (awake_spec _ []) ?_))))
    exact Exists.intro _ (And.intro rfl (And.intro rfl (And.intro hmm rfl)))
  · refine And.intro rfl (Exists.intro _ (Exists.intro _ (Exists.intro _ (And.intro hE1 ?_))))
    refine And.intro rfl (Exists.intro _ (Exists.intro _ (Exists.intro _ (And.intro hE2 ?_))))
    refine And.intro rfl (Exists.intro _ (Exists.intro _ (Exists.intro _ (And.intro hE3 ?_))))
    refine And.intro (fun _ => ?_) (fun h => by cases h)
    refine And.intro (fun _ => ?_) (fun h => by cases h)
    refine And.intro (fun h => by cases h) (fun _ => ?_)
    refine And.intro (fun _ => ?_) (fun h => by cases h)
    refine And.intro rfl (Exists.intro _ (Exists.intro _ (Exists.intro _ (And.intro (awake_spec _ []) ?_))))
    exact Exists.intro _ (And.intro rfl (And.intro rfl (And.intro hmm rfl)))
  · refine And.intro rfl (Exists.intro _ (Exists.intro _ (Exists.intro _ (And.intro hE1 ?_))))
    refine And.intro rfl (Exists.intro _ (Exists.intro _ (Exists.intro _ (And.intro hE2 ?_))))
    refine And.intro rfl (Exists.intro _ (Exists.intro _ (Exists.intro _ (And.intro hE3 ?_))))
    refine And.intro (fun _ => ?_) (fun h => by cases h)
    refine And.intro (fun _ => ?_) (fun h => by cases h)
    refine And.intro (fun h => by cases h) (fun _ => ?_)
    refine And.intro (fun _ => ?_) (fun h => by cases h)
    refine And.intro rfl (Exists.intro _ (Exists.intro _ (Exists.intro _ (And.intro (awake_spec _ []) ?_))))
    exact Exists.intro _ (And.intro rfl (And.intro rfl (And.intro hmm rfl)))
  · refine And.intro rfl (Exists.intro _ (Exists.intro _ (Exists.intro _ (And.intro hE1 ?_))))
    refine And.intro rfl (Exists.intro _ (Exists.intro _ (Exists.intro _ (And.intro hE2 ?_))))
    refine And.intro rfl (Exists.intro _ (Exists.intro _ (Exists.intro _ (And.intro hE3 ?_))))
    refine And.intro (fun _ => ?_) (fun h => by cases h)
    refine And.intro (fun _ => ?_) (fun h => by cases h)
    refine And.intro (fun h => by cases h) (fun _ => ?_)
    refine And.intro (fun _ => ?_) (fun h => by cases h)
    refine And.intro rfl (Exists.intro _ (Exists.intro _ (Exists.intro _ (And.intro (awake_spec _ []) ?_))))
    exact Exists.intro _ (And.intro rfl (And.intro rfl (And.intro hmm rfl)))
  · refine And.intro rfl (Exists.intro _ (Exists.intro _ (Exists.intro _ (And.intro hE1 ?_))))
    refine And.intro rfl (Exists.intro _ (Exists.intro _ (Exists.intro _ (And.intro hE2 ?_))))
    refine And.intro rfl (Exists.intro _ (Exists.intro _ (Exists.intro _ (And.intro hE3 ?_))))
    refine And.intro (fun _ => ?_) (fun h => by cases h)
    refine And.intro (fun _ => ?_) (fun h => by cases h)
    refine And.intro (fun h => by cases h) (fun _ => ?_)
    refine And.intro (fun _ => ?_) (fun h => by cases h)
    refine And.intro rfl (Exists.intro _ (Exists.intro _ (Exists.intro _ (And.intro (awake_spec _ []) ?_))))
    exact Exists.intro _ (And.intro rfl (And.intro rfl (And.intro hmm rfl)))
  · refine And.intro rfl (Exists.intro _ (Exists.intro _ (Exists.intro _ (And.intro hE1 ?_))))
    refine And.intro rfl (Exists.intro _ (Exists.intro _ (Exists.intro _ (And.intro hE2 ?_))))
    refine And.intro rfl (Exists.intro _ (Exists.intro _ (Exists.intro _ (And.intro hE3 ?_))))
    refine And.intro (fun _ => ?_) (fun h => by cases h)
    refine And.intro (fun _ => ?_) (fun h => by cases h)
    refine And.intro (fun h => by cases h) (fun _ => ?_)
    refine And.intro (fun _ => ?_) (fun h => by cases h)
    refine And.intro rfl (Exists.intro _ (Exists.intro _ (Exists.intro _ (And.intro (awake_spec _ []) ?_))))
    exact Exists.intro _ (And.intro rfl (And.intro rfl (And.intro hmm rfl)))
  · refine And.intro rfl (Exists.intro _ (Exists.intro _ (Exists.intro _ (And.intro hE1 ?_))))
    refine And.intro rfl (Exists.intro _ (Exists.intro _ (Exists.intro _ (And.intro hE2 ?_))))
    refine And.intro rfl (Exists.intro _ (Exists.intro _ (Exists.intro _ (And.intro hE3 ?_))))
    refine And.intro (fun _ => ?_) (fun h => by cases h)
    refine And.intro (fun _ => ?_) (fun h => by cases h)
    refine And.intro (fun h => by cases h) (fun _ => ?_)
    refine And.intro (fun _ => ?_) (fun h => by cases h)
    refine And.intro rfl (Exists.intro _ (Exists.intro _ (Exists.intro _ (And.intro (awake_spec _ []) ?_))))
    exact Exists.intro _ (And.intro rfl (And.intro rfl (And.intro hmm rfl)))
  · refine And.intro rfl (Exists.intro _ (Exists.intro _ (Exists.intro _ (And.intro hE1 ?_))))
    refine And.intro rfl (Exists.intro _ (Exists.intro _ (Exists.intro _ (And.intro hE2 ?_))))
    refine And.intro rfl (Exists.intro _ (Exists.intro _ (Exists.intro _ (And.intro hE3 ?_))))
    refine And.intro (fun _ => ?_) (fun h => by cases h)
    refine And.intro (fun _ => ?_) (fun h => by cases h)
    refine And.intro (fun h => by cases h) (fun _ => ?_)
    refine And.intro (fun _ => ?_) (fun h => by cases h)
    refine And.intro rfl (Exists.intro _ (Exists.intro _ (Exists.intro _ (And.intro (awake_spec _ []) ?_))))
    exact Exists.intro _ (And.intro rfl (And.intro rfl (And.intro hmm rfl)))
  · refine And.intro rfl (Exists.intro _ (Exists.intro _ (Exists.intro _ (And.intro hE1 ?_))))
    refine And.intro rfl (Exists.intro _ (Exists.intro _ (Exists.intro _ (And.intro hE2 ?_))))
    refine And.intro rfl (Exists.intro _ (Exists.intro _ (Exists.intro _ (And.intro hE3 ?_))))
    refine And.intro (fun _ => ?_) (fun h => by cases h)
    refine And.intro (fun _ => ?_) (fun h => by cases h)
    refine And.intro (fun h => by cases h) (fun _ => ?_)
    refine And.intro (fun _ => ?_) (fun h => by cases h)
    refine And.intro rfl (Exists.intro _ (Exists.intro _ (Exists.intro _ (And.intro (awake_spec _ []) ?_))))
    exact Exists.intro _ (And.intro rfl (And.intro rfl (And.intro hmm rfl)))
  · refine And.intro rfl (Exists.intro _ (Exists.intro _ (Exists.intro _ (And.intro hE1 ?_))))
    refine And.intro rfl (Exists.intro _ (Exists.intro _ (Exists.intro _ (And.intro hE2 ?_))))
    refine And.intro rfl (Exists.intro _ (Exists.intro _ (Exists.intro _ (And.intro hE3 ?_))))
    refine And.intro (fun _ => ?_) (fun h => by cases h)
    refine And.intro (fun _ => ?_) (fun h => by cases h)
    refine And.intro (fun h => by cases h) (fun _ => ?_)
    refine And.intro (fun _ => ?_) (fun h => by cases h)
    refine And.intro rfl (Exists.intro _ (Exists.intro _ (Exists.intro _ (And.intro (awake_spec _ []) ?_))))
    exact Exists.intro _ (And.intro rfl (And.intro rfl (And.intro hmm rfl)))
  · refine And.intro rfl (Exists.intro _ (Exists.intro _ (Exists.intro _ (And.intro hE1 ?_))))
    refine And.intro rfl (Exists.intro _ (Exists.intro _ (Exists.intro _ (And.intro hE2 ?_))))
    refine And.intro rfl (Exists.intro _ (Exists.intro _ (Exists.intro _ (And.intro hE3 ?_))))
    refine And.intro (fun _ => ?_) (fun h => by cases h)
    refine And.intro (fun _ => ?_) (fun h => by cases h)
    refine And.intro (fun h => by cases h) (fun _ => ?_)
    refine And.intro (fun _ => ?_) (fun h => by cases h)
    refine And.intro rfl (Exists.intro _ (Exists.intro _ (Exists.intro _ (And.intro (awake_spec _ []) ?_))))
    exact Exists.intro _ (And.intro rfl (And.intro rfl (And.intro hmm rfl)))
  · refine And.intro rfl (Exists.intro _ (Exists.intro _ (Exists.intro _ (And.intro hE1 ?_))))
    refine And.intro rfl (Exists.intro _ (Exists.intro _ (Exists.intro _ (And.intro hE2 ?_))))
    refine And.intro rfl (Exists.intro _ (Exists.intro _ (Exists.intro _ (And.intro hE3 ?_))))
    refine And.intro (fun _ => ?_) (fun h => by cases h)
    refine And.intro (fun _ => ?_) (fun h => by cases h)
    refine And.intro (fun h => by cases h) (fun _ => ?_)
    refine And.intro (fun _ => ?_) (fun h => by cases h)
    refine And.intro rfl (Exists.intro _ (Exists.intro _ (Exists.intro _ (And.intro (awake_spec _ []) ?_))))
    exact Exists.intro _ (And.intro rfl (And.intro rfl (And.intro hmm rfl)))
  · refine And.intro rfl (Exists.intro _ (Exists.intro _ (Exists.intro _ (And.intro hE1 ?_))))
    refine And.intro rfl (Exists.intro _ (Exists.intro _ (Exists.intro _ (And.intro hE2 ?_))))
    refine And.intro rfl (Exists.intro _ (Exists.intro _ (Exists.intro _ (And.intro hE3 ?_))))
    refine And.intro (fun _ => ?_) (fun h => by cases h)
    refine And.intro (fun _ => ?_) (fun h => by cases h)
    refine And.intro (fun h => by cases h) (fun _ => ?_)
    refine And.intro (fun _ => ?_) (fun h => by cases h)
    refine And.intro rfl (Exists.intro _ (Exists.intro _ (Exists.intro _ (And.intro (awake_spec _ []) ?_))))
    exact Exists.intro _ (And.intro rfl (And.intro rfl (And.intro hmm rfl)))
  · refine And.intro rfl (Exists.intro _ (Exists.intro _ (Exists.intro _ (And.intro hE1 ?_))))
    refine And.intro rfl (Exists.intro _ (Exists.intro _ (Exists.intro _ (And.intro hE2 ?_))))
    refine And.intro rfl (Exists.intro _ (Exists.intro _ (Exists.intro _ (And.intro hE3 ?_))))
    refine And.intro (fun _ => ?_) (fun h => by cases h)
    refine And.intro (fun _ => ?_) (fun h => by cases h)
    refine And.intro (fun h => by cases h) (fun _ => ?_)
    refine And.intro (fun _ => ?_) (fun h => by cases h)
    refine And.intro rfl (Exists.intro _ (Exists.intro _ (Exists.intro _ (And.intro (awake_spec _ []) ?_))))
    exact Exists.intro _ (And.intro rfl (And.intro rfl (And.intro hmm rfl)))
  · refine And.intro rfl (Exists.intro _ (Exists.intro _ (Exists.intro _ (And.intro hE1 ?_))))
    refine And.intro rfl (Exists.intro _ (Exists.intro _ (Exists.intro _ (And.intro hE2 ?_))))
    refine And.intro rfl (Exists.intro _ (Exists.intro _ (Exists.intro _ (And.intro hE3 ?_))))
    refine And.intro (fun _ => ?_) (fun h => by cases h)
    refine And.intro (fun _ => ?_) (fun h => by cases h)
    refine And.intro (fun h => by cases h) (fun _ => ?_)
    refine And.intro (fun _ => ?_) (fun h => by cases h)
    refine And.intro rfl (Exists.intro _ (Exists.intro _ (Exists.intro _ (And.intro (awake_spec _ []) ?_))))
    exact Exists.intro _ (And.intro rfl (And.intro rfl (And.intro hmm rfl)))
  · refine And.intro rfl (Exists.intro _ (Exists.intro _ (Exists.intro _ (And.intro hE1 ?_))))
    refine And.intro rfl (Exists.intro _ (Exists.intro _ (Exists.intro _ (And.intro hE2 ?_))))
    refine And.intro rfl (Exists.intro _ (Exists.intro _ (Exists.intro _ (And.intro hE3 ?_))))
    refine And.intro (fun _ => ?_) (fun h => by cases h)
    refine And.intro (fun _ => ?_) (fun h => by cases h)
    refine And.intro (fun h => by cases h) (fun _ => ?_)
    refine And.intro (fun _ => ?_) (fun h => by cases h)
    refine And.intro rfl (Exists.intro _ (Exists.intro _ (Exists.intro _ (And.intro (awake_spec _ []) ?_))))
    exact Exists.intro _ (And.intro rfl (And.intro rfl (And.intro hmm rfl)))
  · refine And.intro rfl (Exists.intro _ (Exists.intro _ (Exists.intro _ (And.intro hE1 ?_))))
    refine And.intro rfl (Exists.intro _ (Exists.intro _ (Exists.intro _ (And.intro hE2 ?_))))
    refine And.intro rfl (Exists.intro _ (Exists.intro _ (Exists.intro _ (And.intro hE3 ?_))))
    refine And.intro (fun _ => ?_) (fun h => by cases h)
    refine And.intro (fun _ => ?_) (fun h => by cases h)
    refine And.intro (fun h => by cases h) (fun _ => ?_)
    refine And.intro (fun _ => ?_) (fun h => by cases h)
    refine And.intro rfl (Exists.intro _ (Exists.intro _ (Exists.intro _ (And.intro (awake_spec _ []) ?_))))
    exact Exists.intro _ (And.intro rfl (And.intro rfl (And.intro hmm rfl)))
end Go.Proofs.Ytnajopkaepjncaa
