/- Drop, whole. -/
import Derived.Test.YtnajopkaepjncaaM5
/- Drop, whole. -/
namespace Go.Proofs.Ytnajopkaepjncaa
open Am
set_option linter.unusedVariables false
set_option maxRecDepth 8000

def IsMarks (x : AV) (ms : List Int) : Prop := (x = .nils ∧ ms = []) ∨ ∃ sm, x = .lst 23 (ms.map (AV.int .u64)) sm
def lens (rs : List (List Row)) : Nat := (rs.map List.length).sum
theorem lens_app (a b : List (List Row)) : lens (a ++ b) = lens a + lens b := by unfold lens; rw [List.map_append, List.sum_append]
theorem runsFrom_sum (l : List Row) : ∀ (m i fr : Nat) (out : List (List Row)), fr ≤ i → lens (runsFrom l m i fr out) ≤ lens out + (i + m - fr) := by
  intro m
  induction m with
  | zero => intro i fr out h; simp only [runsFrom]; omega
  | succ m ih =>
    intro i fr out h
    simp only [runsFrom]
    cases endAt l i with
    | true =>
      have := ih (i + 1) (i + 1) (out ++ [(l.take (i + 1)).drop fr]) (Nat.le_refl _)
      rw [lens_app] at this
      have h2 : lens [(l.take (i + 1)).drop fr] ≤ i + 1 - fr := by
        unfold lens
        simp only [List.map_cons, List.map_nil, List.sum_cons, List.sum_nil, List.length_drop, List.length_take]
        omega
      simp only
      omega
    | false =>
      have := ih (i + 1) fr out (by omega)
      simp only
      omega
theorem runsP_sum (l : List Row) : lens (runsP l) ≤ l.length := by
  have := runsFrom_sum l l.length 0 0 [] (Nat.le_refl _)
  have h0 : lens [] = 0 := rfl
  unfold runsP
  omega
theorem runsFrom_ne (l : List Row) : ∀ (m i fr : Nat) (out : List (List Row)), l.length - i = m → fr ≤ i → (∀ r ∈ out, 0 < r.length) → ∀ r ∈ runsFrom l m i fr out, 0 < r.length := by
  intro m
  induction m with
  | zero => intro i fr out _ _ h r hr; exact h r hr
  | succ m ih =>
    intro i fr out hm hfr h
    simp only [runsFrom]
    cases endAt l i with
    | true =>
      refine ih (i + 1) (i + 1) _ (by omega) (Nat.le_refl _) ?_
      intro r hr
      rcases List.mem_append.1 hr with hr | hr
      · exact h r hr
      · rw [List.mem_singleton] at hr; subst hr
        rw [List.length_drop, List.length_take]; omega
    | false => exact ih (i + 1) fr out (by omega) (by omega) h
theorem runsP_ne (l : List Row) : ∀ r ∈ runsP l, 0 < r.length := runsFrom_ne l l.length 0 0 [] rfl (Nat.le_refl _) (fun r h => by cases h)
theorem add_len (ms : List Int) (bot : Bool) (out run : List Row) : (addRun ms bot out run).length ≤ out.length + run.length :=
  Nat.le_trans (pop_len _ _ _ _) (copy_len _ _ _ _ _)
theorem flags0_len (run : List Row) : (flags0 run).length = run.length := by unfold flags0; rw [List.length_set, List.length_replicate]
theorem flagsOf_len (run : List Row) (ms : List Int) : (flagsOf run ms).length = run.length := by unfold flagsOf; rw [mark_len, flags0_len]
theorem chop_rows (xs : List Row) (rest : List AV) : chop Try.prog 39 4 xs.length (flat (xs.map Row.enc) ++ rest) = some (xs.map Row.enc) := by
  induction xs with
  | nil => rfl
  | cons r xs ih =>
    have e : flat ((r :: xs).map Row.enc) ++ rest = r.enc.cells ++ (flat (xs.map Row.enc) ++ rest) := by
      rw [List.map_cons, ← List.append_assoc]; rfl
    have h1 : (r.enc.cells ++ (flat (xs.map Row.enc) ++ rest)).take 4 = r.enc.cells := List.take_left' (l₁ := r.enc.cells) rfl
    have h2 : (r.enc.cells ++ (flat (xs.map Row.enc) ++ rest)).drop 4 = flat (xs.map Row.enc) ++ rest := List.drop_left' (l₁ := r.enc.cells) rfl
    have h3 : ofCells Try.prog 39 r.enc.cells = some r.enc := rfl
    rw [e, List.length_cons]
    simp only [chop, h1, h2, h3, ih]
    rfl
/-- What is answered is written no more. -/
theorem fz_out {H0 H : Hp} (hpf : Pf H0 H) {o : AV} {xs : List Row} (ho : OutAt H0.length H o xs) (c : Int) : ∃ x H2, fzV Try.prog (.tup [o, .int .i64 c]) H = (.tup [x, .int .i64 c], H2) ∧ IsRows x xs ∧ Pf H0 H2 := by
  rcases ho with ⟨rfl, rfl⟩ | ⟨id, rest, hge, rfl, hout, hpos⟩
  · exact ⟨.nils, H, rfl, .inl ⟨rfl, rfl⟩, hpf⟩
  · refine ⟨.lst 39 (xs.map Row.enc) [], H.set id (some ⟨39, []⟩), ?_, .inr ⟨[], rfl⟩, hpf.set hge _⟩
    have hone : fzOne Try.prog H (.sl 39 id 0 xs.length) = (.lst 39 (xs.map Row.enc) [], H.set id (some ⟨39, []⟩)) := by
      have hs : sizeT Try.prog 39 = some 4 := rfl
      unfold fzOne
      simp only [hout, hs]
      have e1 : Nat.ble (0 + xs.length * 4) (flat (xs.map Row.enc) ++ rest).length = true := Nat.ble_eq_true_of_le (by rw [List.length_append, flat_rows]; omega)
      have e2 : Nat.blt 0 4 = true := rfl
      have e3 : Nat.blt 0 (flat (xs.map Row.enc) ++ rest).length = true := (by rw [Nat.blt_eq]; exact hpos)
      rw [e1, e2, e3]
      simp only [Bool.and_self, cond_true]
      have e4 : ((flat (xs.map Row.enc) ++ rest).drop 0).take (xs.length * 4) = flat (xs.map Row.enc) ++ [] := by
        rw [List.drop_zero, flat_take, List.append_nil]
      rw [e4, chop_rows]
    unfold fzV
    simp only [fzAll, hone]
    rfl

noncomputable abbrev c17 : Code := at_ Try.f17 [true, true, true, false, true, false, false]

theorem drop_nil (H0 : Hp) (rs : List (List Row)) (hrs : rs.length < 1048576) (hrn : ∀ run ∈ rs, 0 < run.length ∧ run.length < 1048576) (bot : Bool) : ∀ (m k : Nat) (o : AV) (xs : List Row) (H : Hp), rs.length - k = m → xs.length + lens (rs.drop k) < 1048576 → Pf H0 H → OutAt H0.length H o xs →
    L Try.prog K0 (K0.vars 17) 90 c17 [(1, AV.nils), (2, .bool bot), (8, o), (22, .lst 22 (rs.map encRun) []), (23, .int .i64 ((rs.map encRun).length : Nat)), (24, .int .i64 (k : Int))] H [] []
      fun e env H' sl cl => cl = [] ∧ sl = [] ∧ e = .exit 0 ∧ Pf H0 H' ∧ ∃ o', OutAt H0.length H' o' (dropFrom rs [] bot m k xs) ∧ ∃ v1 v2 v22 v23 v24 v25, env = [(1, v1), (2, v2), (8, o'), (22, v22), (23, v23), (24, v24), (25, v25)] := by
  intro m
  induction m with
  | zero =>
    intro k o xs H hn hlen hpf ho
    refine L_round ?_
    rcases ho with ⟨rfl, rfl⟩ | ⟨ido, rest, hge, rfl, hout, hpos⟩
    · refine And.intro (fun h => ?_) (fun h => ?_)
      · exfalso
        have h := dec_true (p := (k : Int) < ((rs.map encRun).length : Nat)) h
        rw [List.length_map] at h
        omega
      · exact And.intro rfl (And.intro rfl (And.intro rfl (And.intro hpf ⟨_, .inl ⟨rfl, rfl⟩, _, _, _, _, _, _, rfl⟩)))
    · refine And.intro (fun h => ?_) (fun h => ?_)
      · exfalso
        have h := dec_true (p := (k : Int) < ((rs.map encRun).length : Nat)) h
        rw [List.length_map] at h
        omega
      · exact And.intro rfl (And.intro rfl (And.intro rfl (And.intro hpf ⟨_, .inr ⟨ido, rest, hge, rfl, hout, hpos⟩, _, _, _, _, _, _, rfl⟩)))
  | succ m ih =>
    intro k o xs H hn hlen hpf ho
    have hk : k < rs.length := by omega
    obtain ⟨run, hrun⟩ : ∃ run, rs[k]? = some run := ⟨rs[k], List.getElem?_eq_getElem hk⟩
    obtain ⟨hr0, hr1⟩ := hrn run (List.mem_of_getElem? hrun)
    have hdrop : rs.drop k = run :: rs.drop (k + 1) := by
      rw [List.drop_eq_getElem_cons hk]
      rw [List.getElem?_eq_getElem hk] at hrun
      injection hrun with hrun
      rw [hrun]
    have hlen2 : xs.length + run.length + lens (rs.drop (k + 1)) < 1048576 := by
      rw [hdrop] at hlen
      unfold lens at hlen ⊢
      simp only [List.map_cons, List.sum_cons] at hlen
      omega
    have hstep : dropFrom rs [] bot (m + 1) k xs = dropFrom rs [] bot m (k + 1) (addRun [] bot xs run) := by simp only [dropFrom, hrun]
    rw [hstep]
    have hadd := add_len [] bot xs run
    have hidn : H0.length ≤ H.length := hpf.len
    have hb0 : (H ++ [some (Blk.mk 4 ((flags0 run).map AV.bool))])[H.length]? = some (some ⟨4, (flags0 run).map AV.bool⟩) := get_last _ _
    have hpf1 : Pf H0 (H ++ [some (Blk.mk 4 ((flags0 run).map AV.bool))]) := hpf.app _
    have ho1 := ho.app [some (Blk.mk 4 ((flags0 run).map AV.bool))]
    have behind : ∀ (H3 : Hp) (o3 : AV) (xs3 : List Row), xs3 = addRun [] bot xs run → Pf H0 H3 → OutAt H0.length H3 o3 xs3 → L Try.prog K0 (K0.vars 17) 90 c17 [(1, AV.nils), (2, .bool bot), (8, o3), (22, .lst 22 (rs.map encRun) []), (23, .int .i64 ((rs.map encRun).length : Nat)), (24, .int .i64 ((k + 1 : Nat) : Int))] H3 [] []
      fun e env H' sl cl => cl = [] ∧ sl = [] ∧ e = .exit 0 ∧ Pf H0 H' ∧ ∃ o', OutAt H0.length H' o' (dropFrom rs [] bot m (k + 1) (addRun [] bot xs run)) ∧ ∃ v1 v2 v22 v23 v24 v25, env = [(1, v1), (2, v2), (8, o'), (22, v22), (23, v23), (24, v24), (25, v25)] := by
      rintro H3 o3 xs3 rfl h1 h2
      exact ih (k + 1) o3 _ H3 (by omega) (by omega) h1 h2
    refine L_round ?_
    rcases ho with ⟨rfl, rfl⟩ | ⟨ido, rest, hge, rfl, hout, hpos⟩
    · refine And.intro (fun h => ?_) (fun h => ?_)
      · clear h
        refine And.intro (Int.natCast_nonneg _) (Exists.intro _ (And.intro (get_run hrun) ?_))
        refine Exists.intro run.length (And.intro (?_ : natA (.int .i64 ((run.map Row.enc).length : Nat)) = _) (Exists.intro run.length (And.intro (?_ : natA (.int .i64 ((run.map Row.enc).length : Nat)) = _) (And.intro rfl (And.intro (Nat.le_refl _) (And.intro (?_ : run.length * 1 ≤ 140737488355328) (And.intro (?_ : run.length ≤ 140737488355328) (And.intro (Nat.le_of_ble_eq_true rfl) (And.intro rfl (Exists.intro _ (And.intro rfl (Exists.intro ((List.replicate run.length false).map AV.bool) (And.intro (rep_bool _) (Exists.intro _ (And.intro rfl ?_)))))))))))))))
        · rw [List.length_map]; exact natA_len _
        · rw [List.length_map]; exact natA_len _
        · omega
        · omega
        refine Exists.intro _ (And.intro (idx_need (i := 0) hr0) ?_)
        refine Exists.intro _ (And.intro (get_last _ _) ?_)
        refine And.intro rfl (And.intro (Nat.succ_pos _) (And.intro (?_ : 0 + 1 ≤ ((List.replicate run.length false).map AV.bool).length) (Exists.intro (H ++ [some (Blk.mk 4 ((flags0 run).map AV.bool))]) (And.intro (?_ : (H ++ [some (Blk.mk 4 ((List.replicate run.length false).map AV.bool))]).set H.length (some (Blk.mk 4 (splice ((List.replicate run.length false).map AV.bool) 0 [AV.bool true]))) = _) (Exists.intro [] (And.intro (nil_cells _) ?_))))))
        · rw [List.length_map, List.length_replicate]; omega
        · rw [splice_bool _ 0 (by rw [List.length_replicate]; exact hr0), set_last]; rfl
        refine L_round ?_
        refine And.intro (fun h => by cases h) (fun _ => ?_)
        have hkp : Kp H.length (H ++ [some (Blk.mk 4 ((flags0 run).map AV.bool))]) (H ++ [some (Blk.mk 4 ((flags0 run).map AV.bool))]) := Kp.refl _ _
        refine L_mono (copy_nil H0 run hr1 rs bot (([] : List Row).length : Nat) ((rs.map encRun).length : Nat) (k : Int) H.length hidn (flagsOf run []) (flagsOf_len _ _) run.length 0 (.nils) [] _ rfl (by first | omega | (simp only [List.length_nil]; omega)) (hpf1) hb0 (OutAt.kept ho1 hb0 (hkp))) ?_
        rintro e env H3 sl cl ⟨rfl, rfl, rfl, hpf3, o3, ho3, v50, v51, v52, v53, rfl⟩
        refine L_mono (popx_nil H0.length rs bot ([] : List Row).length ((rs.map encRun).length : Nat) (k : Int) H3 (.sl 4 H.length 0 run.length) v50 v51 v52 v53 _ o3 _ rfl (by have := copy_len run (flagsOf run []) run.length 0 []; have h2 := hlen2; (try simp only [List.length_nil] at this h2); omega) ho3) ?_
        rintro e env H4 sl cl ⟨rfl, rfl, rfl, rfl, o4, ho4, v82, rfl⟩
        rcases ho4 with ⟨rfl, h4⟩ | ⟨id4, rest4, hge4, rfl, hout4, hpos4⟩
        · refine Exists.intro (.int .i64 ((k + 1 : Nat) : Int)) (And.intro (i64_eq (by omega) (by omega) (by omega)) ?_)
          exact behind _ _ _ rfl hpf3 (.inl ⟨rfl, h4⟩)
        · refine Exists.intro (.int .i64 ((k + 1 : Nat) : Int)) (And.intro (i64_eq (by omega) (by omega) (by omega)) ?_)
          exact behind _ _ _ rfl hpf3 (.inr ⟨id4, rest4, hge4, rfl, hout4, hpos4⟩)
      · exfalso
        have h := dec_false (p := (k : Int) < ((rs.map encRun).length : Nat)) h
        rw [List.length_map] at h
        omega
    · refine And.intro (fun h => ?_) (fun h => ?_)
      · clear h
        refine And.intro (Int.natCast_nonneg _) (Exists.intro _ (And.intro (get_run hrun) ?_))
        refine Exists.intro run.length (And.intro (?_ : natA (.int .i64 ((run.map Row.enc).length : Nat)) = _) (Exists.intro run.length (And.intro (?_ : natA (.int .i64 ((run.map Row.enc).length : Nat)) = _) (And.intro rfl (And.intro (Nat.le_refl _) (And.intro (?_ : run.length * 1 ≤ 140737488355328) (And.intro (?_ : run.length ≤ 140737488355328) (And.intro (Nat.le_of_ble_eq_true rfl) (And.intro rfl (Exists.intro _ (And.intro rfl (Exists.intro ((List.replicate run.length false).map AV.bool) (And.intro (rep_bool _) (Exists.intro _ (And.intro rfl ?_)))))))))))))))
        · rw [List.length_map]; exact natA_len _
        · rw [List.length_map]; exact natA_len _
        · omega
        · omega
        refine Exists.intro _ (And.intro (idx_need (i := 0) hr0) ?_)
        refine Exists.intro _ (And.intro (get_last _ _) ?_)
        refine And.intro rfl (And.intro (Nat.succ_pos _) (And.intro (?_ : 0 + 1 ≤ ((List.replicate run.length false).map AV.bool).length) (Exists.intro (H ++ [some (Blk.mk 4 ((flags0 run).map AV.bool))]) (And.intro (?_ : (H ++ [some (Blk.mk 4 ((List.replicate run.length false).map AV.bool))]).set H.length (some (Blk.mk 4 (splice ((List.replicate run.length false).map AV.bool) 0 [AV.bool true]))) = _) (Exists.intro [] (And.intro (nil_cells _) ?_))))))
        · rw [List.length_map, List.length_replicate]; omega
        · rw [splice_bool _ 0 (by rw [List.length_replicate]; exact hr0), set_last]; rfl
        refine L_round ?_
        refine And.intro (fun h => by cases h) (fun _ => ?_)
        have hkp : Kp H.length (H ++ [some (Blk.mk 4 ((flags0 run).map AV.bool))]) (H ++ [some (Blk.mk 4 ((flags0 run).map AV.bool))]) := Kp.refl _ _
        refine L_mono (copy_nil H0 run hr1 rs bot ((xs : List Row).length : Nat) ((rs.map encRun).length : Nat) (k : Int) H.length hidn (flagsOf run []) (flagsOf_len _ _) run.length 0 (.sl 39 ido 0 xs.length) xs _ rfl (by first | omega | (simp only [List.length_nil]; omega)) (hpf1) hb0 (OutAt.kept ho1 hb0 (hkp))) ?_
        rintro e env H3 sl cl ⟨rfl, rfl, rfl, hpf3, o3, ho3, v50, v51, v52, v53, rfl⟩
        refine L_mono (popx_nil H0.length rs bot (xs : List Row).length ((rs.map encRun).length : Nat) (k : Int) H3 (.sl 4 H.length 0 run.length) v50 v51 v52 v53 _ o3 _ rfl (by have := copy_len run (flagsOf run []) run.length 0 xs; have h2 := hlen2; (try simp only [List.length_nil] at this h2); omega) ho3) ?_
        rintro e env H4 sl cl ⟨rfl, rfl, rfl, rfl, o4, ho4, v82, rfl⟩
        rcases ho4 with ⟨rfl, h4⟩ | ⟨id4, rest4, hge4, rfl, hout4, hpos4⟩
        · refine Exists.intro (.int .i64 ((k + 1 : Nat) : Int)) (And.intro (i64_eq (by omega) (by omega) (by omega)) ?_)
          exact behind _ _ _ rfl hpf3 (.inl ⟨rfl, h4⟩)
        · refine Exists.intro (.int .i64 ((k + 1 : Nat) : Int)) (And.intro (i64_eq (by omega) (by omega) (by omega)) ?_)
          exact behind _ _ _ rfl hpf3 (.inr ⟨id4, rest4, hge4, rfl, hout4, hpos4⟩)
      · exfalso
        have h := dec_false (p := (k : Int) < ((rs.map encRun).length : Nat)) h
        rw [List.length_map] at h
        omega

theorem drop_lst (H0 : Hp) (rs : List (List Row)) (hrs : rs.length < 1048576) (hrn : ∀ run ∈ rs, 0 < run.length ∧ run.length < 1048576) (ms : List Int) (sm : List AV) (hms : ms.length < 1048576) (bot : Bool) : ∀ (m k : Nat) (o : AV) (xs : List Row) (H : Hp), rs.length - k = m → xs.length + lens (rs.drop k) < 1048576 → Pf H0 H → OutAt H0.length H o xs →
    L Try.prog K0 (K0.vars 17) 90 c17 [(1, AV.lst 23 (ms.map (AV.int .u64)) sm), (2, .bool bot), (8, o), (22, .lst 22 (rs.map encRun) []), (23, .int .i64 ((rs.map encRun).length : Nat)), (24, .int .i64 (k : Int))] H [] []
      fun e env H' sl cl => cl = [] ∧ sl = [] ∧ e = .exit 0 ∧ Pf H0 H' ∧ ∃ o', OutAt H0.length H' o' (dropFrom rs ms bot m k xs) ∧ ∃ v1 v2 v22 v23 v24 v25, env = [(1, v1), (2, v2), (8, o'), (22, v22), (23, v23), (24, v24), (25, v25)] := by
  intro m
  induction m with
  | zero =>
    intro k o xs H hn hlen hpf ho
    refine L_round ?_
    rcases ho with ⟨rfl, rfl⟩ | ⟨ido, rest, hge, rfl, hout, hpos⟩
    · refine And.intro (fun h => ?_) (fun h => ?_)
      · exfalso
        have h := dec_true (p := (k : Int) < ((rs.map encRun).length : Nat)) h
        rw [List.length_map] at h
        omega
      · exact And.intro rfl (And.intro rfl (And.intro rfl (And.intro hpf ⟨_, .inl ⟨rfl, rfl⟩, _, _, _, _, _, _, rfl⟩)))
    · refine And.intro (fun h => ?_) (fun h => ?_)
      · exfalso
        have h := dec_true (p := (k : Int) < ((rs.map encRun).length : Nat)) h
        rw [List.length_map] at h
        omega
      · exact And.intro rfl (And.intro rfl (And.intro rfl (And.intro hpf ⟨_, .inr ⟨ido, rest, hge, rfl, hout, hpos⟩, _, _, _, _, _, _, rfl⟩)))
  | succ m ih =>
    intro k o xs H hn hlen hpf ho
    have hk : k < rs.length := by omega
    obtain ⟨run, hrun⟩ : ∃ run, rs[k]? = some run := ⟨rs[k], List.getElem?_eq_getElem hk⟩
    obtain ⟨hr0, hr1⟩ := hrn run (List.mem_of_getElem? hrun)
    have hdrop : rs.drop k = run :: rs.drop (k + 1) := by
      rw [List.drop_eq_getElem_cons hk]
      rw [List.getElem?_eq_getElem hk] at hrun
      injection hrun with hrun
      rw [hrun]
    have hlen2 : xs.length + run.length + lens (rs.drop (k + 1)) < 1048576 := by
      rw [hdrop] at hlen
      unfold lens at hlen ⊢
      simp only [List.map_cons, List.sum_cons] at hlen
      omega
    have hstep : dropFrom rs ms bot (m + 1) k xs = dropFrom rs ms bot m (k + 1) (addRun ms bot xs run) := by simp only [dropFrom, hrun]
    rw [hstep]
    have hadd := add_len ms bot xs run
    have hidn : H0.length ≤ H.length := hpf.len
    have hb0 : (H ++ [some (Blk.mk 4 ((flags0 run).map AV.bool))])[H.length]? = some (some ⟨4, (flags0 run).map AV.bool⟩) := get_last _ _
    have hpf1 : Pf H0 (H ++ [some (Blk.mk 4 ((flags0 run).map AV.bool))]) := hpf.app _
    have ho1 := ho.app [some (Blk.mk 4 ((flags0 run).map AV.bool))]
    have behind : ∀ (H3 : Hp) (o3 : AV) (xs3 : List Row), xs3 = addRun ms bot xs run → Pf H0 H3 → OutAt H0.length H3 o3 xs3 → L Try.prog K0 (K0.vars 17) 90 c17 [(1, AV.lst 23 (ms.map (AV.int .u64)) sm), (2, .bool bot), (8, o3), (22, .lst 22 (rs.map encRun) []), (23, .int .i64 ((rs.map encRun).length : Nat)), (24, .int .i64 ((k + 1 : Nat) : Int))] H3 [] []
      fun e env H' sl cl => cl = [] ∧ sl = [] ∧ e = .exit 0 ∧ Pf H0 H' ∧ ∃ o', OutAt H0.length H' o' (dropFrom rs ms bot m (k + 1) (addRun ms bot xs run)) ∧ ∃ v1 v2 v22 v23 v24 v25, env = [(1, v1), (2, v2), (8, o'), (22, v22), (23, v23), (24, v24), (25, v25)] := by
      rintro H3 o3 xs3 rfl h1 h2
      exact ih (k + 1) o3 _ H3 (by omega) (by omega) h1 h2
    refine L_round ?_
    rcases ho with ⟨rfl, rfl⟩ | ⟨ido, rest, hge, rfl, hout, hpos⟩
    · refine And.intro (fun h => ?_) (fun h => ?_)
      · clear h
        refine And.intro (Int.natCast_nonneg _) (Exists.intro _ (And.intro (get_run hrun) ?_))
        refine Exists.intro run.length (And.intro (?_ : natA (.int .i64 ((run.map Row.enc).length : Nat)) = _) (Exists.intro run.length (And.intro (?_ : natA (.int .i64 ((run.map Row.enc).length : Nat)) = _) (And.intro rfl (And.intro (Nat.le_refl _) (And.intro (?_ : run.length * 1 ≤ 140737488355328) (And.intro (?_ : run.length ≤ 140737488355328) (And.intro (Nat.le_of_ble_eq_true rfl) (And.intro rfl (Exists.intro _ (And.intro rfl (Exists.intro ((List.replicate run.length false).map AV.bool) (And.intro (rep_bool _) (Exists.intro _ (And.intro rfl ?_)))))))))))))))
        · rw [List.length_map]; exact natA_len _
        · rw [List.length_map]; exact natA_len _
        · omega
        · omega
        refine Exists.intro _ (And.intro (idx_need (i := 0) hr0) ?_)
        refine Exists.intro _ (And.intro (get_last _ _) ?_)
        refine And.intro rfl (And.intro (Nat.succ_pos _) (And.intro (?_ : 0 + 1 ≤ ((List.replicate run.length false).map AV.bool).length) (Exists.intro (H ++ [some (Blk.mk 4 ((flags0 run).map AV.bool))]) (And.intro (?_ : (H ++ [some (Blk.mk 4 ((List.replicate run.length false).map AV.bool))]).set H.length (some (Blk.mk 4 (splice ((List.replicate run.length false).map AV.bool) 0 [AV.bool true]))) = _) (Exists.intro [] (And.intro (nil_cells _) ?_))))))
        · rw [List.length_map, List.length_replicate]; omega
        · rw [splice_bool _ 0 (by rw [List.length_replicate]; exact hr0), set_last]; rfl
        refine L_mono (marks_nil run hr1 rs ms sm hms bot ((rs.map encRun).length : Nat) (k : Int) H.length ms.length 0 (flags0 run) _ rfl (flags0_len run) hb0) ?_
        rintro e env H2 sl cl ⟨rfl, rfl, rfl, hkp, hb2, v33, v34, v35, v36, rfl⟩
        have hpf2 : Pf H0 H2 := fun i b hb => by
          have hlt : i < H0.length := (List.getElem?_eq_some_iff.1 hb).1
          exact hkp i b (by omega) (hpf1 i b hb)
        refine L_mono (copy_lst H0 run hr1 rs (ms.map (AV.int .u64)) sm bot (([] : List Row).length : Nat) ((rs.map encRun).length : Nat) (k : Int) H.length hidn (flagsOf run ms) (flagsOf_len _ _) run.length 0 (.nils) [] H2 rfl (by first | omega | (simp only [List.length_nil]; omega)) (hpf2) hb2 (OutAt.kept ho1 hb0 (hkp))) ?_
        rintro e env H3 sl cl ⟨rfl, rfl, rfl, hpf3, o3, ho3, v50, v51, v52, v53, rfl⟩
        refine L_mono (popx_lst H0.length rs (ms.map (AV.int .u64)) sm bot ([] : List Row).length ((rs.map encRun).length : Nat) (k : Int) H3 (.sl 4 H.length 0 run.length) v50 v51 v52 v53 _ o3 _ rfl (by have := copy_len run (flagsOf run ms) run.length 0 []; have h2 := hlen2; (try simp only [List.length_nil] at this h2); omega) ho3) ?_
        rintro e env H4 sl cl ⟨rfl, rfl, rfl, rfl, o4, ho4, v82, rfl⟩
        rcases ho4 with ⟨rfl, h4⟩ | ⟨id4, rest4, hge4, rfl, hout4, hpos4⟩
        · refine Exists.intro (.int .i64 ((k + 1 : Nat) : Int)) (And.intro (i64_eq (by omega) (by omega) (by omega)) ?_)
          exact behind _ _ _ rfl hpf3 (.inl ⟨rfl, h4⟩)
        · refine Exists.intro (.int .i64 ((k + 1 : Nat) : Int)) (And.intro (i64_eq (by omega) (by omega) (by omega)) ?_)
          exact behind _ _ _ rfl hpf3 (.inr ⟨id4, rest4, hge4, rfl, hout4, hpos4⟩)
      · exfalso
        have h := dec_false (p := (k : Int) < ((rs.map encRun).length : Nat)) h
        rw [List.length_map] at h
        omega
    · refine And.intro (fun h => ?_) (fun h => ?_)
      · clear h
        refine And.intro (Int.natCast_nonneg _) (Exists.intro _ (And.intro (get_run hrun) ?_))
        refine Exists.intro run.length (And.intro (?_ : natA (.int .i64 ((run.map Row.enc).length : Nat)) = _) (Exists.intro run.length (And.intro (?_ : natA (.int .i64 ((run.map Row.enc).length : Nat)) = _) (And.intro rfl (And.intro (Nat.le_refl _) (And.intro (?_ : run.length * 1 ≤ 140737488355328) (And.intro (?_ : run.length ≤ 140737488355328) (And.intro (Nat.le_of_ble_eq_true rfl) (And.intro rfl (Exists.intro _ (And.intro rfl (Exists.intro ((List.replicate run.length false).map AV.bool) (And.intro (rep_bool _) (Exists.intro _ (And.intro rfl ?_)))))))))))))))
        · rw [List.length_map]; exact natA_len _
        · rw [List.length_map]; exact natA_len _
        · omega
        · omega
        refine Exists.intro _ (And.intro (idx_need (i := 0) hr0) ?_)
        refine Exists.intro _ (And.intro (get_last _ _) ?_)
        refine And.intro rfl (And.intro (Nat.succ_pos _) (And.intro (?_ : 0 + 1 ≤ ((List.replicate run.length false).map AV.bool).length) (Exists.intro (H ++ [some (Blk.mk 4 ((flags0 run).map AV.bool))]) (And.intro (?_ : (H ++ [some (Blk.mk 4 ((List.replicate run.length false).map AV.bool))]).set H.length (some (Blk.mk 4 (splice ((List.replicate run.length false).map AV.bool) 0 [AV.bool true]))) = _) (Exists.intro [] (And.intro (nil_cells _) ?_))))))
        · rw [List.length_map, List.length_replicate]; omega
        · rw [splice_bool _ 0 (by rw [List.length_replicate]; exact hr0), set_last]; rfl
        refine L_mono (marks_sl run hr1 rs ms sm hms bot ((rs.map encRun).length : Nat) (k : Int) H.length ido xs.length ms.length 0 (flags0 run) _ rfl (flags0_len run) hb0) ?_
        rintro e env H2 sl cl ⟨rfl, rfl, rfl, hkp, hb2, v33, v34, v35, v36, rfl⟩
        have hpf2 : Pf H0 H2 := fun i b hb => by
          have hlt : i < H0.length := (List.getElem?_eq_some_iff.1 hb).1
          exact hkp i b (by omega) (hpf1 i b hb)
        refine L_mono (copy_lst H0 run hr1 rs (ms.map (AV.int .u64)) sm bot ((xs : List Row).length : Nat) ((rs.map encRun).length : Nat) (k : Int) H.length hidn (flagsOf run ms) (flagsOf_len _ _) run.length 0 (.sl 39 ido 0 xs.length) xs H2 rfl (by first | omega | (simp only [List.length_nil]; omega)) (hpf2) hb2 (OutAt.kept ho1 hb0 (hkp))) ?_
        rintro e env H3 sl cl ⟨rfl, rfl, rfl, hpf3, o3, ho3, v50, v51, v52, v53, rfl⟩
        refine L_mono (popx_lst H0.length rs (ms.map (AV.int .u64)) sm bot (xs : List Row).length ((rs.map encRun).length : Nat) (k : Int) H3 (.sl 4 H.length 0 run.length) v50 v51 v52 v53 _ o3 _ rfl (by have := copy_len run (flagsOf run ms) run.length 0 xs; have h2 := hlen2; (try simp only [List.length_nil] at this h2); omega) ho3) ?_
        rintro e env H4 sl cl ⟨rfl, rfl, rfl, rfl, o4, ho4, v82, rfl⟩
        rcases ho4 with ⟨rfl, h4⟩ | ⟨id4, rest4, hge4, rfl, hout4, hpos4⟩
        · refine Exists.intro (.int .i64 ((k + 1 : Nat) : Int)) (And.intro (i64_eq (by omega) (by omega) (by omega)) ?_)
          exact behind _ _ _ rfl hpf3 (.inl ⟨rfl, h4⟩)
        · refine Exists.intro (.int .i64 ((k + 1 : Nat) : Int)) (And.intro (i64_eq (by omega) (by omega) (by omega)) ?_)
          exact behind _ _ _ rfl hpf3 (.inr ⟨id4, rest4, hge4, rfl, hout4, hpos4⟩)
      · exfalso
        have h := dec_false (p := (k : Int) < ((rs.map encRun).length : Nat)) h
        rw [List.length_map] at h
        omega

/-- What Drop answers. -/
def dropR (l : List Row) (ms : List Int) (bot : Bool) (y : AV) : Prop := (orderP l = false ∧ y = .tup [.nils, .int .i64 2]) ∨ (orderP l = true ∧ ∃ x, y = .tup [x, .int .i64 0] ∧ IsRows x (dropP l ms bot))
theorem drop_spec {x z : AV} {l : List Row} {ms : List Int} (hx : IsRows x l) (hz : IsMarks z ms) (hl : l.length < 1048576) (hms : ms.length < 1048576) (bot : Bool) : GivesE Try.prog K0 17 [x, z, .bool bot] (dropR l ms bot) := by
  refine givesE_fz Try.func17 rfl rfl rfl fun H => ?_
  obtain ⟨E, hE⟩ := order_spec hx (by omega) H []
  obtain ⟨F, hF⟩ := runs_spec hx hl (H ++ E) []
  obtain ⟨q1, q2⟩ := runsP_len l
  have q3 := runsP_sum l
  have q4 := runsP_ne l
  have hpf : Pf H ((H ++ E) ++ F) := ((Pf.refl H).app E).app F
  rcases hx with ⟨rfl, rfl⟩ | ⟨sp, rfl⟩
  · rcases hz with ⟨rfl, rfl⟩ | ⟨sm, rfl⟩
    · refine And.intro rfl (Exists.intro _ (Exists.intro _ (Exists.intro _ (And.intro hE ?_))))
      cases ho : orderP [] with
      | false =>
        refine And.intro (fun _ => ?_) (fun h => by cases h)
        exact Exists.intro _ (And.intro rfl (And.intro (.inl ⟨ho, rfl⟩) (And.intro (More.app H E) rfl)))
      | true =>
        refine And.intro (fun h => by cases h) (fun _ => ?_)
        refine And.intro rfl (Exists.intro _ (Exists.intro _ (Exists.intro _ (And.intro hF ?_))))
        cases hr : runsP [] with
        | nil =>
          have hp : dropP [] [] bot = [] := by unfold dropP; rw [hr]; rfl
          refine L_round ?_
          refine And.intro (fun h => by cases h) (fun h => ?_)
          exact Exists.intro _ (And.intro rfl (And.intro (.inr ⟨ho, .nils, rfl, .inl ⟨rfl, hp⟩⟩) (And.intro hpf.more rfl)))
        | cons r0 rest =>
          have h1 : (r0 :: rest).length < 1048576 := by rw [← hr]; omega
          have h2 : ∀ run ∈ r0 :: rest, 0 < run.length ∧ run.length < 1048576 := by
            intro run hrun
            rw [← hr] at hrun
            exact ⟨q4 run hrun, by have := q2 run hrun; omega⟩
          have h3 : ([] : List Row).length + lens ((r0 :: rest).drop 0) < 1048576 := by rw [List.drop_zero, ← hr, List.length_nil]; omega
          refine L_mono (drop_nil H (r0 :: rest) h1 h2 bot (r0 :: rest).length 0 .nils [] _ rfl h3 hpf (.inl ⟨rfl, rfl⟩)) ?_
          rintro e env H' sl cl ⟨rfl, rfl, rfl, hpf2, o', ho', v1, v2, v22, v23, v24, v25, rfl⟩
          have hp : dropFrom (r0 :: rest) [] bot (r0 :: rest).length 0 [] = dropP [] [] bot := by unfold dropP; rw [hr]
          rw [hp] at ho'
          obtain ⟨x, H2, g1, g2, g3⟩ := fz_out hpf2 ho' 0
          rcases ho' with ⟨rfl, h4⟩ | ⟨id4, rest4, hge4, rfl, hout4, hpos4⟩
          · refine Exists.intro _ (And.intro rfl (And.intro (?_ : dropR _ _ _ (fzV Try.prog (.tup [_, .int .i64 0]) H').1) (And.intro (?_ : More H (fzV Try.prog (.tup [_, .int .i64 0]) H').2) rfl)))
            · show dropR _ _ _ (fzV Try.prog (.tup [AV.nils, .int .i64 0]) H').1
              rw [g1]; exact .inr ⟨ho, x, rfl, g2⟩
            · show More H (fzV Try.prog (.tup [AV.nils, .int .i64 0]) H').2
              rw [g1]; exact g3.more
          · refine Exists.intro _ (And.intro rfl (And.intro (?_ : dropR _ _ _ (fzV Try.prog (.tup [_, .int .i64 0]) H').1) (And.intro (?_ : More H (fzV Try.prog (.tup [_, .int .i64 0]) H').2) rfl)))
            · show dropR _ _ _ (fzV Try.prog (.tup [AV.sl 39 id4 0 (dropP [] [] bot).length, .int .i64 0]) H').1
              rw [g1]; exact .inr ⟨ho, x, rfl, g2⟩
            · show More H (fzV Try.prog (.tup [AV.sl 39 id4 0 (dropP [] [] bot).length, .int .i64 0]) H').2
              rw [g1]; exact g3.more
    · refine And.intro rfl (Exists.intro _ (Exists.intro _ (Exists.intro _ (And.intro hE ?_))))
      cases ho : orderP [] with
      | false =>
        refine And.intro (fun _ => ?_) (fun h => by cases h)
        exact Exists.intro _ (And.intro rfl (And.intro (.inl ⟨ho, rfl⟩) (And.intro (More.app H E) rfl)))
      | true =>
        refine And.intro (fun h => by cases h) (fun _ => ?_)
        refine And.intro rfl (Exists.intro _ (Exists.intro _ (Exists.intro _ (And.intro hF ?_))))
        cases hr : runsP [] with
        | nil =>
          have hp : dropP [] ms bot = [] := by unfold dropP; rw [hr]; rfl
          refine L_round ?_
          refine And.intro (fun h => by cases h) (fun h => ?_)
          exact Exists.intro _ (And.intro rfl (And.intro (.inr ⟨ho, .nils, rfl, .inl ⟨rfl, hp⟩⟩) (And.intro hpf.more rfl)))
        | cons r0 rest =>
          have h1 : (r0 :: rest).length < 1048576 := by rw [← hr]; omega
          have h2 : ∀ run ∈ r0 :: rest, 0 < run.length ∧ run.length < 1048576 := by
            intro run hrun
            rw [← hr] at hrun
            exact ⟨q4 run hrun, by have := q2 run hrun; omega⟩
          have h3 : ([] : List Row).length + lens ((r0 :: rest).drop 0) < 1048576 := by rw [List.drop_zero, ← hr, List.length_nil]; omega
          refine L_mono (drop_lst H (r0 :: rest) h1 h2 ms sm hms bot (r0 :: rest).length 0 .nils [] _ rfl h3 hpf (.inl ⟨rfl, rfl⟩)) ?_
          rintro e env H' sl cl ⟨rfl, rfl, rfl, hpf2, o', ho', v1, v2, v22, v23, v24, v25, rfl⟩
          have hp : dropFrom (r0 :: rest) ms bot (r0 :: rest).length 0 [] = dropP [] ms bot := by unfold dropP; rw [hr]
          rw [hp] at ho'
          obtain ⟨x, H2, g1, g2, g3⟩ := fz_out hpf2 ho' 0
          rcases ho' with ⟨rfl, h4⟩ | ⟨id4, rest4, hge4, rfl, hout4, hpos4⟩
          · refine Exists.intro _ (And.intro rfl (And.intro (?_ : dropR _ _ _ (fzV Try.prog (.tup [_, .int .i64 0]) H').1) (And.intro (?_ : More H (fzV Try.prog (.tup [_, .int .i64 0]) H').2) rfl)))
            · show dropR _ _ _ (fzV Try.prog (.tup [AV.nils, .int .i64 0]) H').1
              rw [g1]; exact .inr ⟨ho, x, rfl, g2⟩
            · show More H (fzV Try.prog (.tup [AV.nils, .int .i64 0]) H').2
              rw [g1]; exact g3.more
          · refine Exists.intro _ (And.intro rfl (And.intro (?_ : dropR _ _ _ (fzV Try.prog (.tup [_, .int .i64 0]) H').1) (And.intro (?_ : More H (fzV Try.prog (.tup [_, .int .i64 0]) H').2) rfl)))
            · show dropR _ _ _ (fzV Try.prog (.tup [AV.sl 39 id4 0 (dropP [] ms bot).length, .int .i64 0]) H').1
              rw [g1]; exact .inr ⟨ho, x, rfl, g2⟩
            · show More H (fzV Try.prog (.tup [AV.sl 39 id4 0 (dropP [] ms bot).length, .int .i64 0]) H').2
              rw [g1]; exact g3.more
  · rcases hz with ⟨rfl, rfl⟩ | ⟨sm, rfl⟩
    · refine And.intro rfl (Exists.intro _ (Exists.intro _ (Exists.intro _ (And.intro hE ?_))))
      cases ho : orderP l with
      | false =>
        refine And.intro (fun _ => ?_) (fun h => by cases h)
        exact Exists.intro _ (And.intro rfl (And.intro (.inl ⟨ho, rfl⟩) (And.intro (More.app H E) rfl)))
      | true =>
        refine And.intro (fun h => by cases h) (fun _ => ?_)
        refine And.intro rfl (Exists.intro _ (Exists.intro _ (Exists.intro _ (And.intro hF ?_))))
        cases hr : runsP l with
        | nil =>
          have hp : dropP l [] bot = [] := by unfold dropP; rw [hr]; rfl
          refine L_round ?_
          refine And.intro (fun h => by cases h) (fun h => ?_)
          exact Exists.intro _ (And.intro rfl (And.intro (.inr ⟨ho, .nils, rfl, .inl ⟨rfl, hp⟩⟩) (And.intro hpf.more rfl)))
        | cons r0 rest =>
          have h1 : (r0 :: rest).length < 1048576 := by rw [← hr]; omega
          have h2 : ∀ run ∈ r0 :: rest, 0 < run.length ∧ run.length < 1048576 := by
            intro run hrun
            rw [← hr] at hrun
            exact ⟨q4 run hrun, by have := q2 run hrun; omega⟩
          have h3 : ([] : List Row).length + lens ((r0 :: rest).drop 0) < 1048576 := by rw [List.drop_zero, ← hr, List.length_nil]; omega
          refine L_mono (drop_nil H (r0 :: rest) h1 h2 bot (r0 :: rest).length 0 .nils [] _ rfl h3 hpf (.inl ⟨rfl, rfl⟩)) ?_
          rintro e env H' sl cl ⟨rfl, rfl, rfl, hpf2, o', ho', v1, v2, v22, v23, v24, v25, rfl⟩
          have hp : dropFrom (r0 :: rest) [] bot (r0 :: rest).length 0 [] = dropP l [] bot := by unfold dropP; rw [hr]
          rw [hp] at ho'
          obtain ⟨x, H2, g1, g2, g3⟩ := fz_out hpf2 ho' 0
          rcases ho' with ⟨rfl, h4⟩ | ⟨id4, rest4, hge4, rfl, hout4, hpos4⟩
          · refine Exists.intro _ (And.intro rfl (And.intro (?_ : dropR _ _ _ (fzV Try.prog (.tup [_, .int .i64 0]) H').1) (And.intro (?_ : More H (fzV Try.prog (.tup [_, .int .i64 0]) H').2) rfl)))
            · show dropR _ _ _ (fzV Try.prog (.tup [AV.nils, .int .i64 0]) H').1
              rw [g1]; exact .inr ⟨ho, x, rfl, g2⟩
            · show More H (fzV Try.prog (.tup [AV.nils, .int .i64 0]) H').2
              rw [g1]; exact g3.more
          · refine Exists.intro _ (And.intro rfl (And.intro (?_ : dropR _ _ _ (fzV Try.prog (.tup [_, .int .i64 0]) H').1) (And.intro (?_ : More H (fzV Try.prog (.tup [_, .int .i64 0]) H').2) rfl)))
            · show dropR _ _ _ (fzV Try.prog (.tup [AV.sl 39 id4 0 (dropP l [] bot).length, .int .i64 0]) H').1
              rw [g1]; exact .inr ⟨ho, x, rfl, g2⟩
            · show More H (fzV Try.prog (.tup [AV.sl 39 id4 0 (dropP l [] bot).length, .int .i64 0]) H').2
              rw [g1]; exact g3.more
    · refine And.intro rfl (Exists.intro _ (Exists.intro _ (Exists.intro _ (And.intro hE ?_))))
      cases ho : orderP l with
      | false =>
        refine And.intro (fun _ => ?_) (fun h => by cases h)
        exact Exists.intro _ (And.intro rfl (And.intro (.inl ⟨ho, rfl⟩) (And.intro (More.app H E) rfl)))
      | true =>
        refine And.intro (fun h => by cases h) (fun _ => ?_)
        refine And.intro rfl (Exists.intro _ (Exists.intro _ (Exists.intro _ (And.intro hF ?_))))
        cases hr : runsP l with
        | nil =>
          have hp : dropP l ms bot = [] := by unfold dropP; rw [hr]; rfl
          refine L_round ?_
          refine And.intro (fun h => by cases h) (fun h => ?_)
          exact Exists.intro _ (And.intro rfl (And.intro (.inr ⟨ho, .nils, rfl, .inl ⟨rfl, hp⟩⟩) (And.intro hpf.more rfl)))
        | cons r0 rest =>
          have h1 : (r0 :: rest).length < 1048576 := by rw [← hr]; omega
          have h2 : ∀ run ∈ r0 :: rest, 0 < run.length ∧ run.length < 1048576 := by
            intro run hrun
            rw [← hr] at hrun
            exact ⟨q4 run hrun, by have := q2 run hrun; omega⟩
          have h3 : ([] : List Row).length + lens ((r0 :: rest).drop 0) < 1048576 := by rw [List.drop_zero, ← hr, List.length_nil]; omega
          refine L_mono (drop_lst H (r0 :: rest) h1 h2 ms sm hms bot (r0 :: rest).length 0 .nils [] _ rfl h3 hpf (.inl ⟨rfl, rfl⟩)) ?_
          rintro e env H' sl cl ⟨rfl, rfl, rfl, hpf2, o', ho', v1, v2, v22, v23, v24, v25, rfl⟩
          have hp : dropFrom (r0 :: rest) ms bot (r0 :: rest).length 0 [] = dropP l ms bot := by unfold dropP; rw [hr]
          rw [hp] at ho'
          obtain ⟨x, H2, g1, g2, g3⟩ := fz_out hpf2 ho' 0
          rcases ho' with ⟨rfl, h4⟩ | ⟨id4, rest4, hge4, rfl, hout4, hpos4⟩
          · refine Exists.intro _ (And.intro rfl (And.intro (?_ : dropR _ _ _ (fzV Try.prog (.tup [_, .int .i64 0]) H').1) (And.intro (?_ : More H (fzV Try.prog (.tup [_, .int .i64 0]) H').2) rfl)))
            · show dropR _ _ _ (fzV Try.prog (.tup [AV.nils, .int .i64 0]) H').1
              rw [g1]; exact .inr ⟨ho, x, rfl, g2⟩
            · show More H (fzV Try.prog (.tup [AV.nils, .int .i64 0]) H').2
              rw [g1]; exact g3.more
          · refine Exists.intro _ (And.intro rfl (And.intro (?_ : dropR _ _ _ (fzV Try.prog (.tup [_, .int .i64 0]) H').1) (And.intro (?_ : More H (fzV Try.prog (.tup [_, .int .i64 0]) H').2) rfl)))
            · show dropR _ _ _ (fzV Try.prog (.tup [AV.sl 39 id4 0 (dropP l ms bot).length, .int .i64 0]) H').1
              rw [g1]; exact .inr ⟨ho, x, rfl, g2⟩
            · show More H (fzV Try.prog (.tup [AV.sl 39 id4 0 (dropP l ms bot).length, .int .i64 0]) H').2
              rw [g1]; exact g3.more
end Go.Proofs.Ytnajopkaepjncaa

/- The document's Drop. -/
namespace Go.Proofs.Ytnajopkaepjncaa
open Am
set_option linter.unusedVariables false
set_option linter.unusedSimpArgs false
set_option maxRecDepth 8000

def maxU : Int := 18446744073709551615
def needFrom (l : List Row) (i : Nat) (ms : List Int) : Nat → Nat → Bool → Bool
  | 0, _, b => b
  | m + 1, k, b => match ms[k]? with
    | some x => needFrom l i ms m (k + 1) (b || seesP l i x)
    | none => b
def needP (l : List Row) (ms : List Int) (i : Nat) : Bool := needFrom l i ms ms.length 0 (seesP l i maxU)
def someFrom (l : List Row) (ms : List Int) : Nat → Nat → List Row → List Row
  | 0, _, out => out
  | m + 1, i, out => match l[i]? with
    | some r => match needP l ms i with
      | true => someFrom l ms m (i + 1) (out ++ [r])
      | false => someFrom l ms m (i + 1) out
    | none => out
def putFrom (xs : List Row) (key : List UInt8) : Nat → Nat → Bool → Bool
  | 0, _, b => b
  | m + 1, k, b => match xs[k]? with
    | some r => match r.key == key with
      | true => putFrom xs key m (k + 1) (b || (r.kind == 1))
      | false => b
    | none => b
def botFrom (xs : List Row) : Nat → Nat → List Row → List Row
  | 0, _, out => out
  | m + 1, i, out => match xs[i]? with
    | some r => match putFrom xs r.key (xs.length - i) i false with
      | true => botFrom xs m (i + 1) (out ++ [r])
      | false => botFrom xs m (i + 1) out
    | none => out
def someP (l : List Row) (ms : List Int) : List Row := someFrom l ms l.length 0 []
def refDropP (l : List Row) (ms : List Int) (bot : Bool) : List Row := match bot with
  | false => someP l ms
  | true => botFrom (someP l ms) (someP l ms).length 0 []
theorem someFrom_len (l : List Row) (ms : List Int) : ∀ (m i : Nat) (out : List Row), (someFrom l ms m i out).length ≤ out.length + m := by
  intro m
  induction m with
  | zero => intro i out; exact Nat.le_refl _
  | succ m ih =>
    intro i out
    simp only [someFrom]
    split
    · split
      · refine Nat.le_trans (ih _ _) ?_
        simp only [List.length_append, List.length_cons, List.length_nil]; omega
      · have := ih (i + 1) out; omega
    · omega
noncomputable abbrev c18n : Code := at_ Try.f18 [true, true, true, false, true, false, false, true, false, false, true, false, true, false, false]

theorem need_nil (l : List Row) (sp : List AV) (hl : l.length < 1048576) (ms : List Int) (sm : List AV) (hms : ms.length < 1048576) (bot : Bool) {i : Nat} (hi : i < l.length) (cells : Cl) : ∀ (m k : Nat) (b : Bool) (H : Hp), ms.length - k = m →
    L Try.prog K0 (K0.vars 18) 99 c18n [(0, .lst 39 (l.map Row.enc) sp), (1, .lst 23 (ms.map (AV.int .u64)) sm), (2, .bool bot), (8, AV.nils), (9, .int .i64 (i : Int)), (10, .bool b), (11, .int .i64 (k : Int))] H [] cells
      fun e env H' sl cl => More H H' ∧ cl = cells ∧ sl = [] ∧ e = .exit 2 ∧ ∃ v11 v31, env = [(0, .lst 39 (l.map Row.enc) sp), (1, .lst 23 (ms.map (AV.int .u64)) sm), (2, .bool bot), (8, AV.nils), (9, .int .i64 (i : Int)), (10, .bool (needFrom l i ms m k b)), (11, v11), (31, v31)] := by
  intro m
  induction m with
  | zero =>
    intro k b H hn
    refine L_round ?_
    refine And.intro (fun h => ?_) (fun h => ?_)
    · exfalso
      have h := dec_true (p := (k : Int) < ((ms.map (AV.int .u64)).length : Nat)) h
      rw [List.length_map] at h
      omega
    · exact And.intro (More.refl H) (And.intro rfl (And.intro rfl (And.intro rfl ⟨_, _, rfl⟩)))
  | succ m ih =>
    intro k b H hn
    obtain ⟨x, hx⟩ : ∃ x, ms[k]? = some x := ⟨ms[k], List.getElem?_eq_getElem (by omega)⟩
    have hstep : needFrom l i ms (m + 1) k b = needFrom l i ms m (k + 1) (b || seesP l i x) := by simp only [needFrom, hx]
    rw [hstep]
    refine L_round ?_
    refine And.intro (fun h => ?_) (fun h => ?_)
    · clear h
      refine And.intro (fun h0 => ?_) (fun h0 => ?_)
      · replace h0 : b = true := h0
        have hb : (b || seesP l i x) = true := by rw [h0]; rfl
        rw [hb]
        refine Exists.intro (.int .i64 ((k + 1 : Nat) : Int)) (And.intro (i64_eq (by omega) (by omega) (by omega)) ?_)
        exact ih (k + 1) true H (by omega)
      · replace h0 : b = false := h0
        have hb : (b || seesP l i x) = seesP l i x := by rw [h0]; rfl
        rw [hb]
        refine And.intro (Int.natCast_nonneg _) (Exists.intro _ (And.intro (get_mark hx) ?_))
        obtain ⟨E, hE⟩ := sees2_spec l sp (by omega) hi x H cells
        refine And.intro rfl (Exists.intro _ (Exists.intro _ (Exists.intro _ (And.intro hE ?_))))
        refine Exists.intro (.int .i64 ((k + 1 : Nat) : Int)) (And.intro (i64_eq (by omega) (by omega) (by omega)) ?_)
        refine L_mono (ih (k + 1) (seesP l i x) (H ++ E) (by omega)) ?_
        rintro e env H' sl cl ⟨h1, h2⟩
        exact ⟨(More.app H E).trans h1, h2⟩
    · exfalso
      have h := dec_false (p := (k : Int) < ((ms.map (AV.int .u64)).length : Nat)) h
      rw [List.length_map] at h
      omega

theorem need_lst (l : List Row) (sp : List AV) (hl : l.length < 1048576) (ms : List Int) (sm : List AV) (hms : ms.length < 1048576) (bot : Bool) (o : Row) (os : List Row) {i : Nat} (hi : i < l.length) (cells : Cl) : ∀ (m k : Nat) (b : Bool) (H : Hp), ms.length - k = m →
    L Try.prog K0 (K0.vars 18) 99 c18n [(0, .lst 39 (l.map Row.enc) sp), (1, .lst 23 (ms.map (AV.int .u64)) sm), (2, .bool bot), (8, AV.lst 39 ((o :: os).map Row.enc) []), (9, .int .i64 (i : Int)), (10, .bool b), (11, .int .i64 (k : Int))] H [8] cells
      fun e env H' sl cl => More H H' ∧ cl = cells ∧ sl = [8] ∧ e = .exit 2 ∧ ∃ v11 v31, env = [(0, .lst 39 (l.map Row.enc) sp), (1, .lst 23 (ms.map (AV.int .u64)) sm), (2, .bool bot), (8, AV.lst 39 ((o :: os).map Row.enc) []), (9, .int .i64 (i : Int)), (10, .bool (needFrom l i ms m k b)), (11, v11), (31, v31)] := by
  intro m
  induction m with
  | zero =>
    intro k b H hn
    refine L_round ?_
    refine And.intro (fun h => ?_) (fun h => ?_)
    · exfalso
      have h := dec_true (p := (k : Int) < ((ms.map (AV.int .u64)).length : Nat)) h
      rw [List.length_map] at h
      omega
    · exact And.intro (More.refl H) (And.intro rfl (And.intro rfl (And.intro rfl ⟨_, _, rfl⟩)))
  | succ m ih =>
    intro k b H hn
    obtain ⟨x, hx⟩ : ∃ x, ms[k]? = some x := ⟨ms[k], List.getElem?_eq_getElem (by omega)⟩
    have hstep : needFrom l i ms (m + 1) k b = needFrom l i ms m (k + 1) (b || seesP l i x) := by simp only [needFrom, hx]
    rw [hstep]
    refine L_round ?_
    refine And.intro (fun h => ?_) (fun h => ?_)
    · clear h
      refine And.intro (fun h0 => ?_) (fun h0 => ?_)
      · replace h0 : b = true := h0
        have hb : (b || seesP l i x) = true := by rw [h0]; rfl
        rw [hb]
        refine Exists.intro (.int .i64 ((k + 1 : Nat) : Int)) (And.intro (i64_eq (by omega) (by omega) (by omega)) ?_)
        exact ih (k + 1) true H (by omega)
      · replace h0 : b = false := h0
        have hb : (b || seesP l i x) = seesP l i x := by rw [h0]; rfl
        rw [hb]
        refine And.intro (Int.natCast_nonneg _) (Exists.intro _ (And.intro (get_mark hx) ?_))
        obtain ⟨E, hE⟩ := sees2_spec l sp (by omega) hi x H cells
        refine And.intro rfl (Exists.intro _ (Exists.intro _ (Exists.intro _ (And.intro hE ?_))))
        refine Exists.intro (.int .i64 ((k + 1 : Nat) : Int)) (And.intro (i64_eq (by omega) (by omega) (by omega)) ?_)
        refine L_mono (ih (k + 1) (seesP l i x) (H ++ E) (by omega)) ?_
        rintro e env H' sl cl ⟨h1, h2⟩
        exact ⟨(More.app H E).trans h1, h2⟩
    · exfalso
      have h := dec_false (p := (k : Int) < ((ms.map (AV.int .u64)).length : Nat)) h
      rw [List.length_map] at h
      omega
noncomputable abbrev c18 : Code := at_ Try.f18 [true, true, true, false, true, false, false]

theorem some_nil (l : List Row) (sp : List AV) (hl : l.length < 1048576) (bot : Bool) (cells : Cl) : ∀ (m i : Nat) (out : List Row) (H : Hp), l.length - i = m → out.length ≤ i →
    L Try.prog K0 (K0.vars 18) 99 c18 [(0, .lst 39 (l.map Row.enc) sp), (1, AV.nils), (2, .bool bot), (8, built 39 (out.map Row.enc)), (9, .int .i64 (i : Int))] H (ownd 8 (out.map Row.enc)) cells
      (fun e env H' sl cl => More H H' ∧ cl = cells ∧ sl = ownd 8 ((someFrom l [] m i out).map Row.enc) ∧ e = .exit 0 ∧ ∃ v0 v1 v9 v22, env = [(0, v0), (1, v1), (2, .bool bot), (8, built 39 ((someFrom l [] m i out).map Row.enc)), (9, v9), (22, v22)]) := by
  intro m
  induction m with
  | zero =>
    intro i out H hn ho
    refine L_round ?_
    cases out with
    | nil =>
      refine And.intro (fun h => ?_) (fun h => ?_)
      · exfalso
        have h := dec_true (p := (i : Int) < ((l.map Row.enc).length : Nat)) h
        rw [List.length_map] at h
        omega
      · exact And.intro (More.refl H) (And.intro rfl (And.intro rfl (And.intro rfl ⟨_, _, _, _, rfl⟩)))
    | cons o os =>
      refine And.intro (fun h => ?_) (fun h => ?_)
      · exfalso
        have h := dec_true (p := (i : Int) < ((l.map Row.enc).length : Nat)) h
        rw [List.length_map] at h
        omega
      · exact And.intro (More.refl H) (And.intro rfl (And.intro rfl (And.intro rfl ⟨_, _, _, _, rfl⟩)))
  | succ m ih =>
    intro i out H hn ho
    have hi : i < l.length := by omega
    obtain ⟨r, hr⟩ : ∃ r, l[i]? = some r := ⟨l[i], List.getElem?_eq_getElem hi⟩
    obtain ⟨E, hE⟩ := sees2_spec l sp (by omega) hi maxU H cells
    have hstep : someFrom l [] (m + 1) i out = (match needP l [] i with | true => someFrom l [] m (i + 1) (out ++ [r]) | false => someFrom l [] m (i + 1) out) := by simp only [someFrom, hr]
    rw [hstep]
    refine L_round ?_
    cases out with
    | nil =>
      refine And.intro (fun h => ?_) (fun h => ?_)
      · clear h
        refine And.intro rfl (Exists.intro _ (Exists.intro _ (Exists.intro _ (And.intro hE ?_))))
        refine L_round ?_
        refine And.intro (fun h => by cases h) (fun _ => ?_)
        have hm : More H (H ++ E) := More.app H E
        have hnd : needP l [] i = seesP l i maxU := rfl
        rw [hnd]
        generalize seesP l i maxU = nd
        cases nd with
        | true =>
          refine And.intro (fun _ => ?_) (fun h => by cases h)
          refine And.intro (Int.natCast_nonneg _) (Exists.intro _ (And.intro (get_row hr) ?_))
          refine Exists.intro _ (And.intro rfl ?_)
          refine And.intro (Nat.le_of_ble_eq_true rfl) (And.intro (Nat.le_of_ble_eq_true rfl) (And.intro (Nat.le_of_ble_eq_true rfl) (And.intro rfl ?_)))
          refine Exists.intro (.int .i64 ((i + 1 : Nat) : Int)) (And.intro (i64_eq (by omega) (by omega) (by omega)) ?_)
          refine L_mono (ih (i + 1) [r] _ (by omega) (by simp only [List.length_cons, List.length_nil]; omega)) ?_
          rintro e env H' sl cl ⟨h1, h2⟩
          exact ⟨hm.trans h1, h2⟩
        | false =>
          refine And.intro (fun h => by cases h) (fun _ => ?_)
          refine Exists.intro (.int .i64 ((i + 1 : Nat) : Int)) (And.intro (i64_eq (by omega) (by omega) (by omega)) ?_)
          refine L_mono (ih (i + 1) [] _ (by omega) (by simp only [List.length_cons, List.length_nil] at ho ⊢; omega)) ?_
          rintro e env H' sl cl ⟨h1, h2⟩
          exact ⟨hm.trans h1, h2⟩
      · exfalso
        have h := dec_false (p := (i : Int) < ((l.map Row.enc).length : Nat)) h
        rw [List.length_map] at h
        omega
    | cons o os =>
      refine And.intro (fun h => ?_) (fun h => ?_)
      · clear h
        refine And.intro rfl (Exists.intro _ (Exists.intro _ (Exists.intro _ (And.intro hE ?_))))
        refine L_round ?_
        refine And.intro (fun h => by cases h) (fun _ => ?_)
        have hm : More H (H ++ E) := More.app H E
        have hnd : needP l [] i = seesP l i maxU := rfl
        rw [hnd]
        generalize seesP l i maxU = nd
        cases nd with
        | true =>
          refine And.intro (fun _ => ?_) (fun h => by cases h)
          refine And.intro (Int.natCast_nonneg _) (Exists.intro _ (And.intro (get_row hr) ?_))
          refine Exists.intro _ (And.intro rfl ?_)
          refine And.intro rfl (And.intro rfl (And.intro (?_ : (((o :: os).map Row.enc).length + 1) * 48 ≤ 140737488355328) (And.intro (?_ : ((o :: os).map Row.enc).length + 1 ≤ 140737488355328) (And.intro (Nat.le_of_ble_eq_true rfl) (And.intro rfl (Exists.intro (((o :: os) ++ [r]).map Row.enc) (And.intro (by rw [List.map_append]; rfl) ?_)))))))
          · rw [List.length_map]; omega
          · rw [List.length_map]; omega
          refine Exists.intro (.int .i64 ((i + 1 : Nat) : Int)) (And.intro (i64_eq (by omega) (by omega) (by omega)) ?_)
          refine L_mono (ih (i + 1) ((o :: os) ++ [r]) _ (by omega) (by simp only [List.length_append, List.length_cons, List.length_nil] at ho ⊢; omega)) ?_
          rintro e env H' sl cl ⟨h1, h2⟩
          exact ⟨hm.trans h1, h2⟩
        | false =>
          refine And.intro (fun h => by cases h) (fun _ => ?_)
          refine Exists.intro (.int .i64 ((i + 1 : Nat) : Int)) (And.intro (i64_eq (by omega) (by omega) (by omega)) ?_)
          refine L_mono (ih (i + 1) (o :: os) _ (by omega) (by simp only [List.length_cons, List.length_nil] at ho ⊢; omega)) ?_
          rintro e env H' sl cl ⟨h1, h2⟩
          exact ⟨hm.trans h1, h2⟩
      · exfalso
        have h := dec_false (p := (i : Int) < ((l.map Row.enc).length : Nat)) h
        rw [List.length_map] at h
        omega

theorem some_lst (l : List Row) (sp : List AV) (hl : l.length < 1048576) (ms : List Int) (sm : List AV) (hms : ms.length < 1048576) (bot : Bool) (cells : Cl) : ∀ (m i : Nat) (out : List Row) (H : Hp), l.length - i = m → out.length ≤ i →
    L Try.prog K0 (K0.vars 18) 99 c18 [(0, .lst 39 (l.map Row.enc) sp), (1, AV.lst 23 (ms.map (AV.int .u64)) sm), (2, .bool bot), (8, built 39 (out.map Row.enc)), (9, .int .i64 (i : Int))] H (ownd 8 (out.map Row.enc)) cells
      (fun e env H' sl cl => More H H' ∧ cl = cells ∧ sl = ownd 8 ((someFrom l ms m i out).map Row.enc) ∧ e = .exit 0 ∧ ∃ v0 v1 v9 v22, env = [(0, v0), (1, v1), (2, .bool bot), (8, built 39 ((someFrom l ms m i out).map Row.enc)), (9, v9), (22, v22)]) := by
  intro m
  induction m with
  | zero =>
    intro i out H hn ho
    refine L_round ?_
    cases out with
    | nil =>
      refine And.intro (fun h => ?_) (fun h => ?_)
      · exfalso
        have h := dec_true (p := (i : Int) < ((l.map Row.enc).length : Nat)) h
        rw [List.length_map] at h
        omega
      · exact And.intro (More.refl H) (And.intro rfl (And.intro rfl (And.intro rfl ⟨_, _, _, _, rfl⟩)))
    | cons o os =>
      refine And.intro (fun h => ?_) (fun h => ?_)
      · exfalso
        have h := dec_true (p := (i : Int) < ((l.map Row.enc).length : Nat)) h
        rw [List.length_map] at h
        omega
      · exact And.intro (More.refl H) (And.intro rfl (And.intro rfl (And.intro rfl ⟨_, _, _, _, rfl⟩)))
  | succ m ih =>
    intro i out H hn ho
    have hi : i < l.length := by omega
    obtain ⟨r, hr⟩ : ∃ r, l[i]? = some r := ⟨l[i], List.getElem?_eq_getElem hi⟩
    obtain ⟨E, hE⟩ := sees2_spec l sp (by omega) hi maxU H cells
    have hstep : someFrom l ms (m + 1) i out = (match needP l ms i with | true => someFrom l ms m (i + 1) (out ++ [r]) | false => someFrom l ms m (i + 1) out) := by simp only [someFrom, hr]
    rw [hstep]
    refine L_round ?_
    cases out with
    | nil =>
      refine And.intro (fun h => ?_) (fun h => ?_)
      · clear h
        refine And.intro rfl (Exists.intro _ (Exists.intro _ (Exists.intro _ (And.intro hE ?_))))
        refine L_mono (need_nil l sp hl ms sm hms bot hi cells ms.length 0 (seesP l i maxU) (H ++ E) rfl) ?_
        rintro e env H1 sl cl ⟨hm1, rfl, rfl, rfl, v11, v31, rfl⟩
        have hm : More H H1 := (More.app H E).trans hm1
        have hnd : needFrom l i ms ms.length 0 (seesP l i maxU) = needP l ms i := rfl
        rw [hnd]
        generalize needP l ms i = nd
        cases nd with
        | true =>
          refine And.intro (fun _ => ?_) (fun h => by cases h)
          refine And.intro (Int.natCast_nonneg _) (Exists.intro _ (And.intro (get_row hr) ?_))
          refine Exists.intro _ (And.intro rfl ?_)
          refine And.intro (Nat.le_of_ble_eq_true rfl) (And.intro (Nat.le_of_ble_eq_true rfl) (And.intro (Nat.le_of_ble_eq_true rfl) (And.intro rfl ?_)))
          refine Exists.intro (.int .i64 ((i + 1 : Nat) : Int)) (And.intro (i64_eq (by omega) (by omega) (by omega)) ?_)
          refine L_mono (ih (i + 1) [r] _ (by omega) (by simp only [List.length_cons, List.length_nil]; omega)) ?_
          rintro e env H' sl cl ⟨h1, h2⟩
          exact ⟨hm.trans h1, h2⟩
        | false =>
          refine And.intro (fun h => by cases h) (fun _ => ?_)
          refine Exists.intro (.int .i64 ((i + 1 : Nat) : Int)) (And.intro (i64_eq (by omega) (by omega) (by omega)) ?_)
          refine L_mono (ih (i + 1) [] _ (by omega) (by simp only [List.length_cons, List.length_nil] at ho ⊢; omega)) ?_
          rintro e env H' sl cl ⟨h1, h2⟩
          exact ⟨hm.trans h1, h2⟩
      · exfalso
        have h := dec_false (p := (i : Int) < ((l.map Row.enc).length : Nat)) h
        rw [List.length_map] at h
        omega
    | cons o os =>
      refine And.intro (fun h => ?_) (fun h => ?_)
      · clear h
        refine And.intro rfl (Exists.intro _ (Exists.intro _ (Exists.intro _ (And.intro hE ?_))))
        refine L_mono (need_lst l sp hl ms sm hms bot o os hi cells ms.length 0 (seesP l i maxU) (H ++ E) rfl) ?_
        rintro e env H1 sl cl ⟨hm1, rfl, rfl, rfl, v11, v31, rfl⟩
        have hm : More H H1 := (More.app H E).trans hm1
        have hnd : needFrom l i ms ms.length 0 (seesP l i maxU) = needP l ms i := rfl
        rw [hnd]
        generalize needP l ms i = nd
        cases nd with
        | true =>
          refine And.intro (fun _ => ?_) (fun h => by cases h)
          refine And.intro (Int.natCast_nonneg _) (Exists.intro _ (And.intro (get_row hr) ?_))
          refine Exists.intro _ (And.intro rfl ?_)
          refine And.intro rfl (And.intro rfl (And.intro (?_ : (((o :: os).map Row.enc).length + 1) * 48 ≤ 140737488355328) (And.intro (?_ : ((o :: os).map Row.enc).length + 1 ≤ 140737488355328) (And.intro (Nat.le_of_ble_eq_true rfl) (And.intro rfl (Exists.intro (((o :: os) ++ [r]).map Row.enc) (And.intro (by rw [List.map_append]; rfl) ?_)))))))
          · rw [List.length_map]; omega
          · rw [List.length_map]; omega
          refine Exists.intro (.int .i64 ((i + 1 : Nat) : Int)) (And.intro (i64_eq (by omega) (by omega) (by omega)) ?_)
          refine L_mono (ih (i + 1) ((o :: os) ++ [r]) _ (by omega) (by simp only [List.length_append, List.length_cons, List.length_nil] at ho ⊢; omega)) ?_
          rintro e env H' sl cl ⟨h1, h2⟩
          exact ⟨hm.trans h1, h2⟩
        | false =>
          refine And.intro (fun h => by cases h) (fun _ => ?_)
          refine Exists.intro (.int .i64 ((i + 1 : Nat) : Int)) (And.intro (i64_eq (by omega) (by omega) (by omega)) ?_)
          refine L_mono (ih (i + 1) (o :: os) _ (by omega) (by simp only [List.length_cons, List.length_nil] at ho ⊢; omega)) ?_
          rintro e env H' sl cl ⟨h1, h2⟩
          exact ⟨hm.trans h1, h2⟩
      · exfalso
        have h := dec_false (p := (i : Int) < ((l.map Row.enc).length : Nat)) h
        rw [List.length_map] at h
        omega
noncomputable abbrev c18p : Code := at_ Try.f18 [true, true, true, true, true, true, false, true, false, false, true, false, false, true, false, true, false, false]

theorem put_nil (xs : List Row) (hl : xs.length < 1048576) {i : Nat} {a : Row} (ha : xs[i]? = some a) (cells : Cl) : ∀ (m k : Nat) (b : Bool) (H : Hp), xs.length - k = m →
    L Try.prog K0 (K0.vars 18) 99 c18p [(8, .lst 39 (xs.map Row.enc) []), (12, AV.nils), (13, .int .i64 (i : Int)), (14, .bool b), (15, .int .i64 (k : Int))] H [8] cells
      fun e env H' sl cl => More H H' ∧ cl = cells ∧ sl = [8] ∧ e = .exit 6 ∧ ∃ v15 v78, env = [(8, .lst 39 (xs.map Row.enc) []), (12, AV.nils), (13, .int .i64 (i : Int)), (14, .bool (putFrom xs a.key m k b)), (15, v15), (78, v78)] := by
  intro m
  induction m with
  | zero =>
    intro k b H hn
    refine L_round ?_
    refine Exists.intro _ (And.intro rfl ?_)
    refine And.intro (fun h => ?_) (fun h => ?_)
    · exfalso
      have h := dec_true (p := (k : Int) < ((xs.map Row.enc).length : Nat)) h
      rw [List.length_map] at h
      omega
    · refine And.intro (fun h => by cases h) (fun _ => ?_)
      exact And.intro (More.refl H) (And.intro rfl (And.intro rfl (And.intro rfl ⟨_, _, rfl⟩)))
  | succ m ih =>
    intro k b H hn
    obtain ⟨r, hr⟩ : ∃ r, xs[k]? = some r := ⟨xs[k], List.getElem?_eq_getElem (by omega)⟩
    have hstep : putFrom xs a.key (m + 1) k b = (match r.key == a.key with | true => putFrom xs a.key m (k + 1) (b || (r.kind == 1)) | false => b) := by simp only [putFrom, hr]
    rw [hstep]
    refine L_round ?_
    refine Exists.intro _ (And.intro rfl ?_)
    refine And.intro (fun h => ?_) (fun h => ?_)
    · clear h
      refine And.intro (Int.natCast_nonneg _) (Exists.intro _ (And.intro (get_row hr) ?_))
      refine And.intro (Int.natCast_nonneg _) (Exists.intro _ (And.intro (get_row ha) ?_))
      refine And.intro (fun h1 => ?_) (fun h1 => ?_)
      · replace h1 : (r.key == a.key) = true := h1
        rw [h1]
        refine And.intro (fun h0 => ?_) (fun h0 => ?_)
        · replace h0 : b = true := h0
          have hb : (b || (r.kind == 1)) = true := by rw [h0]; rfl
          simp only [hb]
          refine Exists.intro (.int .i64 ((k + 1 : Nat) : Int)) (And.intro (i64_eq (by omega) (by omega) (by omega)) ?_)
          exact ih (k + 1) true H (by omega)
        · replace h0 : b = false := h0
          have hb : (b || (r.kind == 1)) = (r.kind == 1) := by rw [h0]; rfl
          simp only [hb]
          refine And.intro (Int.natCast_nonneg _) (Exists.intro _ (And.intro (get_row hr) ?_))
          refine Exists.intro (.int .i64 ((k + 1 : Nat) : Int)) (And.intro (i64_eq (by omega) (by omega) (by omega)) ?_)
          exact ih (k + 1) (r.kind == 1) H (by omega)
      · replace h1 : (r.key == a.key) = false := h1
        rw [h1]
        exact And.intro (More.refl H) (And.intro rfl (And.intro rfl (And.intro rfl ⟨_, _, rfl⟩)))
    · exfalso
      have h := dec_false (p := (k : Int) < ((xs.map Row.enc).length : Nat)) h
      rw [List.length_map] at h
      omega

theorem put_lst (xs : List Row) (hl : xs.length < 1048576) (o : Row) (os : List Row) {i : Nat} {a : Row} (ha : xs[i]? = some a) (cells : Cl) : ∀ (m k : Nat) (b : Bool) (H : Hp), xs.length - k = m →
    L Try.prog K0 (K0.vars 18) 99 c18p [(8, .lst 39 (xs.map Row.enc) []), (12, AV.lst 39 ((o :: os).map Row.enc) []), (13, .int .i64 (i : Int)), (14, .bool b), (15, .int .i64 (k : Int))] H [12, 8] cells
      fun e env H' sl cl => More H H' ∧ cl = cells ∧ sl = [12, 8] ∧ e = .exit 6 ∧ ∃ v15 v78, env = [(8, .lst 39 (xs.map Row.enc) []), (12, AV.lst 39 ((o :: os).map Row.enc) []), (13, .int .i64 (i : Int)), (14, .bool (putFrom xs a.key m k b)), (15, v15), (78, v78)] := by
  intro m
  induction m with
  | zero =>
    intro k b H hn
    refine L_round ?_
    refine Exists.intro _ (And.intro rfl ?_)
    refine And.intro (fun h => ?_) (fun h => ?_)
    · exfalso
      have h := dec_true (p := (k : Int) < ((xs.map Row.enc).length : Nat)) h
      rw [List.length_map] at h
      omega
    · refine And.intro (fun h => by cases h) (fun _ => ?_)
      exact And.intro (More.refl H) (And.intro rfl (And.intro rfl (And.intro rfl ⟨_, _, rfl⟩)))
  | succ m ih =>
    intro k b H hn
    obtain ⟨r, hr⟩ : ∃ r, xs[k]? = some r := ⟨xs[k], List.getElem?_eq_getElem (by omega)⟩
    have hstep : putFrom xs a.key (m + 1) k b = (match r.key == a.key with | true => putFrom xs a.key m (k + 1) (b || (r.kind == 1)) | false => b) := by simp only [putFrom, hr]
    rw [hstep]
    refine L_round ?_
    refine Exists.intro _ (And.intro rfl ?_)
    refine And.intro (fun h => ?_) (fun h => ?_)
    · clear h
      refine And.intro (Int.natCast_nonneg _) (Exists.intro _ (And.intro (get_row hr) ?_))
      refine And.intro (Int.natCast_nonneg _) (Exists.intro _ (And.intro (get_row ha) ?_))
      refine And.intro (fun h1 => ?_) (fun h1 => ?_)
      · replace h1 : (r.key == a.key) = true := h1
        rw [h1]
        refine And.intro (fun h0 => ?_) (fun h0 => ?_)
        · replace h0 : b = true := h0
          have hb : (b || (r.kind == 1)) = true := by rw [h0]; rfl
          simp only [hb]
          refine Exists.intro (.int .i64 ((k + 1 : Nat) : Int)) (And.intro (i64_eq (by omega) (by omega) (by omega)) ?_)
          exact ih (k + 1) true H (by omega)
        · replace h0 : b = false := h0
          have hb : (b || (r.kind == 1)) = (r.kind == 1) := by rw [h0]; rfl
          simp only [hb]
          refine And.intro (Int.natCast_nonneg _) (Exists.intro _ (And.intro (get_row hr) ?_))
          refine Exists.intro (.int .i64 ((k + 1 : Nat) : Int)) (And.intro (i64_eq (by omega) (by omega) (by omega)) ?_)
          exact ih (k + 1) (r.kind == 1) H (by omega)
      · replace h1 : (r.key == a.key) = false := h1
        rw [h1]
        exact And.intro (More.refl H) (And.intro rfl (And.intro rfl (And.intro rfl ⟨_, _, rfl⟩)))
    · exfalso
      have h := dec_false (p := (k : Int) < ((xs.map Row.enc).length : Nat)) h
      rw [List.length_map] at h
      omega
def ownd2 (xs : List AV) : List Nat := match xs with
  | [] => [8]
  | _ :: _ => [12, 8]
noncomputable abbrev c18b : Code := at_ Try.f18 [true, true, true, true, true, true, false, true, false, false]

theorem bot_loop (xs : List Row) (hl : xs.length < 1048576) (cells : Cl) : ∀ (m i : Nat) (out : List Row) (H : Hp), xs.length - i = m → out.length ≤ i →
    L Try.prog K0 (K0.vars 18) 99 c18b [(8, .lst 39 (xs.map Row.enc) []), (12, built 39 (out.map Row.enc)), (13, .int .i64 (i : Int))] H (ownd2 (out.map Row.enc)) cells
      fun e env H' sl cl => More H H' ∧ cl = cells ∧ sl = ownd2 ((botFrom xs m i out).map Row.enc) ∧ e = .exit 4 ∧ ∃ v8 v13 v58, env = [(8, v8), (12, built 39 ((botFrom xs m i out).map Row.enc)), (13, v13), (58, v58)] := by
  intro m
  induction m with
  | zero =>
    intro i out H hn ho
    refine L_round ?_
    cases out with
    | nil =>
      refine And.intro (fun h => ?_) (fun h => ?_)
      · exfalso
        have h := dec_true (p := (i : Int) < ((xs.map Row.enc).length : Nat)) h
        rw [List.length_map] at h
        omega
      · exact And.intro (More.refl H) (And.intro rfl (And.intro rfl (And.intro rfl ⟨_, _, _, rfl⟩)))
    | cons o os =>
      refine And.intro (fun h => ?_) (fun h => ?_)
      · exfalso
        have h := dec_true (p := (i : Int) < ((xs.map Row.enc).length : Nat)) h
        rw [List.length_map] at h
        omega
      · exact And.intro (More.refl H) (And.intro rfl (And.intro rfl (And.intro rfl ⟨_, _, _, rfl⟩)))
  | succ m ih =>
    intro i out H hn ho
    obtain ⟨r, hr⟩ : ∃ r, xs[i]? = some r := ⟨xs[i], List.getElem?_eq_getElem (by omega)⟩
    have hstep : botFrom xs (m + 1) i out = (match putFrom xs r.key (xs.length - i) i false with | true => botFrom xs m (i + 1) (out ++ [r]) | false => botFrom xs m (i + 1) out) := by simp only [botFrom, hr]
    rw [hstep]
    refine L_round ?_
    cases out with
    | nil =>
      refine And.intro (fun h => ?_) (fun h => ?_)
      · clear h
        refine L_mono (put_nil xs hl hr cells (xs.length - i) i false H rfl) ?_
        rintro e env H1 sl cl ⟨hm, rfl, rfl, rfl, v15, v78, rfl⟩
        generalize putFrom xs r.key (xs.length - i) i false = nd
        cases nd with
        | true =>
          refine And.intro (fun _ => ?_) (fun h => by cases h)
          refine And.intro (Int.natCast_nonneg _) (Exists.intro _ (And.intro (get_row hr) ?_))
          refine Exists.intro _ (And.intro rfl ?_)
          refine And.intro (Nat.le_of_ble_eq_true rfl) (And.intro (Nat.le_of_ble_eq_true rfl) (And.intro (Nat.le_of_ble_eq_true rfl) (And.intro rfl ?_)))
          refine Exists.intro (.int .i64 ((i + 1 : Nat) : Int)) (And.intro (i64_eq (by omega) (by omega) (by omega)) ?_)
          refine L_mono (ih (i + 1) [r] _ (by omega) (by simp only [List.length_cons, List.length_nil]; omega)) ?_
          rintro e env H' sl cl ⟨h1, h2⟩
          exact ⟨hm.trans h1, h2⟩
        | false =>
          refine And.intro (fun h => by cases h) (fun _ => ?_)
          refine Exists.intro (.int .i64 ((i + 1 : Nat) : Int)) (And.intro (i64_eq (by omega) (by omega) (by omega)) ?_)
          refine L_mono (ih (i + 1) [] _ (by omega) (by simp only [List.length_cons, List.length_nil] at ho ⊢; omega)) ?_
          rintro e env H' sl cl ⟨h1, h2⟩
          exact ⟨hm.trans h1, h2⟩
      · exfalso
        have h := dec_false (p := (i : Int) < ((xs.map Row.enc).length : Nat)) h
        rw [List.length_map] at h
        omega
    | cons o os =>
      refine And.intro (fun h => ?_) (fun h => ?_)
      · clear h
        refine L_mono (put_lst xs hl o os hr cells (xs.length - i) i false H rfl) ?_
        rintro e env H1 sl cl ⟨hm, rfl, rfl, rfl, v15, v78, rfl⟩
        generalize putFrom xs r.key (xs.length - i) i false = nd
        cases nd with
        | true =>
          refine And.intro (fun _ => ?_) (fun h => by cases h)
          refine And.intro (Int.natCast_nonneg _) (Exists.intro _ (And.intro (get_row hr) ?_))
          refine Exists.intro _ (And.intro rfl ?_)
          refine And.intro rfl (And.intro rfl (And.intro (?_ : (((o :: os).map Row.enc).length + 1) * 48 ≤ 140737488355328) (And.intro (?_ : ((o :: os).map Row.enc).length + 1 ≤ 140737488355328) (And.intro (Nat.le_of_ble_eq_true rfl) (And.intro rfl (Exists.intro (((o :: os) ++ [r]).map Row.enc) (And.intro (by rw [List.map_append]; rfl) ?_)))))))
          · rw [List.length_map]; omega
          · rw [List.length_map]; omega
          refine Exists.intro (.int .i64 ((i + 1 : Nat) : Int)) (And.intro (i64_eq (by omega) (by omega) (by omega)) ?_)
          refine L_mono (ih (i + 1) ((o :: os) ++ [r]) _ (by omega) (by simp only [List.length_append, List.length_cons, List.length_nil] at ho ⊢; omega)) ?_
          rintro e env H' sl cl ⟨h1, h2⟩
          exact ⟨hm.trans h1, h2⟩
        | false =>
          refine And.intro (fun h => by cases h) (fun _ => ?_)
          refine Exists.intro (.int .i64 ((i + 1 : Nat) : Int)) (And.intro (i64_eq (by omega) (by omega) (by omega)) ?_)
          refine L_mono (ih (i + 1) (o :: os) _ (by omega) (by simp only [List.length_cons, List.length_nil] at ho ⊢; omega)) ?_
          rintro e env H' sl cl ⟨h1, h2⟩
          exact ⟨hm.trans h1, h2⟩
      · exfalso
        have h := dec_false (p := (i : Int) < ((xs.map Row.enc).length : Nat)) h
        rw [List.length_map] at h
        omega

def refDropA (l : List Row) (ms : List Int) (bot : Bool) : AV := match orderP l with
  | true => .tup [built 39 ((refDropP l ms bot).map Row.enc), .int .i64 0]
  | false => .tup [.nils, .int .i64 2]
theorem ref_drop_spec {x z : AV} {l : List Row} {ms : List Int} (hx : IsRows x l) (hz : IsMarks z ms) (hl : l.length < 1048576) (hms : ms.length < 1048576) (bot : Bool) : Gv 18 [x, z, .bool bot] (refDropA l ms bot) := by
  refine GivesR.one (gives_by Try.func18 rfl rfl rfl fun H cells => ?_)
  obtain ⟨E, hE⟩ := order2_spec hx (by omega) H cells
  have hm := More.app H E
  have hsl := someFrom_len l ms l.length 0 []
  rcases hx with ⟨rfl, rfl⟩ | ⟨sp, rfl⟩
  · have ho : orderP [] = true := rfl
    rw [ho] at hE
    have ha : refDropA [] ms bot = .tup [.nils, .int .i64 0] := by cases bot <;> rfl
    rw [ha]
    rcases hz with ⟨rfl, rfl⟩ | ⟨sm, rfl⟩
    · refine And.intro rfl (Exists.intro _ (Exists.intro _ (Exists.intro _ (And.intro hE ?_))))
      refine And.intro (fun h => by cases h) (fun _ => ?_)
      refine L_round ?_
      refine And.intro (fun h => by cases h) (fun h => ?_)
      cases bot with
      | false =>
        refine And.intro (fun _ => ?_) (fun h => by cases h)
        exact Exists.intro _ (And.intro rfl (And.intro rfl (And.intro hm rfl)))
      | true =>
        refine And.intro (fun h => by cases h) (fun _ => ?_)
        refine L_round ?_
        refine And.intro (fun h => by cases h) (fun h => ?_)
        exact Exists.intro _ (And.intro rfl (And.intro rfl (And.intro hm rfl)))
    · refine And.intro rfl (Exists.intro _ (Exists.intro _ (Exists.intro _ (And.intro hE ?_))))
      refine And.intro (fun h => by cases h) (fun _ => ?_)
      refine L_round ?_
      refine And.intro (fun h => by cases h) (fun h => ?_)
      cases bot with
      | false =>
        refine And.intro (fun _ => ?_) (fun h => by cases h)
        exact Exists.intro _ (And.intro rfl (And.intro rfl (And.intro hm rfl)))
      | true =>
        refine And.intro (fun h => by cases h) (fun _ => ?_)
        refine L_round ?_
        refine And.intro (fun h => by cases h) (fun h => ?_)
        exact Exists.intro _ (And.intro rfl (And.intro rfl (And.intro hm rfl)))
  · rcases hz with ⟨rfl, rfl⟩ | ⟨sm, rfl⟩
    · refine And.intro rfl (Exists.intro _ (Exists.intro _ (Exists.intro _ (And.intro hE ?_))))
      cases ho : orderP l with
      | false =>
        have ha : refDropA l [] bot = .tup [.nils, .int .i64 2] := by unfold refDropA; rw [ho]
        rw [ha]
        refine And.intro (fun _ => ?_) (fun h => by cases h)
        exact Exists.intro _ (And.intro rfl (And.intro rfl (And.intro hm rfl)))
      | true =>
        have ha : refDropA l [] bot = .tup [built 39 ((refDropP l [] bot).map Row.enc), .int .i64 0] := by unfold refDropA; rw [ho]
        rw [ha]
        refine And.intro (fun h => by cases h) (fun _ => ?_)
        refine L_mono (some_nil l sp hl bot cells l.length 0 [] (H ++ E) rfl (Nat.le_refl _)) ?_
        rintro e env H' sl cl ⟨h1, rfl, rfl, rfl, v0, v1, v9, v22, rfl⟩
        have hsome : someFrom l [] l.length 0 [] = someP l [] := rfl
        rw [hsome] at hsl ⊢
        unfold refDropP
        revert hsl
        generalize someP l [] = xs
        intro hsl
        cases bot with
        | false =>
          simp only
          cases xs with
          | nil =>
            refine And.intro (fun _ => ?_) (fun h => by cases h)
            exact Exists.intro _ (And.intro rfl (And.intro rfl (And.intro (hm.trans h1) rfl)))
          | cons o os =>
            refine And.intro (fun _ => ?_) (fun h => by cases h)
            exact Exists.intro _ (And.intro rfl (And.intro rfl (And.intro (hm.trans h1) rfl)))
        | true =>
          simp only
          cases xs with
          | nil =>
            refine And.intro (fun h => by cases h) (fun _ => ?_)
            refine L_round ?_
            refine And.intro (fun h => by cases h) (fun h => ?_)
            exact Exists.intro _ (And.intro rfl (And.intro rfl (And.intro (hm.trans h1) rfl)))
          | cons o os =>
            refine And.intro (fun h => by cases h) (fun _ => ?_)
            refine L_mono (bot_loop (o :: os) (by simp only [List.length_nil] at hsl; omega) cl (o :: os).length 0 [] H' rfl (Nat.le_refl _)) ?_
            rintro e env H2 sl cl ⟨h2, rfl, rfl, rfl, v8, v13, v58, rfl⟩
            generalize botFrom (o :: os) (o :: os).length 0 [] = ys
            cases ys with
            | nil => exact Exists.intro _ (And.intro rfl (And.intro rfl (And.intro ((hm.trans h1).trans h2) rfl)))
            | cons a b => exact Exists.intro _ (And.intro rfl (And.intro rfl (And.intro ((hm.trans h1).trans h2) rfl)))
    · refine And.intro rfl (Exists.intro _ (Exists.intro _ (Exists.intro _ (And.intro hE ?_))))
      cases ho : orderP l with
      | false =>
        have ha : refDropA l ms bot = .tup [.nils, .int .i64 2] := by unfold refDropA; rw [ho]
        rw [ha]
        refine And.intro (fun _ => ?_) (fun h => by cases h)
        exact Exists.intro _ (And.intro rfl (And.intro rfl (And.intro hm rfl)))
      | true =>
        have ha : refDropA l ms bot = .tup [built 39 ((refDropP l ms bot).map Row.enc), .int .i64 0] := by unfold refDropA; rw [ho]
        rw [ha]
        refine And.intro (fun h => by cases h) (fun _ => ?_)
        refine L_mono (some_lst l sp hl ms sm hms bot cells l.length 0 [] (H ++ E) rfl (Nat.le_refl _)) ?_
        rintro e env H' sl cl ⟨h1, rfl, rfl, rfl, v0, v1, v9, v22, rfl⟩
        have hsome : someFrom l ms l.length 0 [] = someP l ms := rfl
        rw [hsome] at hsl ⊢
        unfold refDropP
        revert hsl
        generalize someP l ms = xs
        intro hsl
        cases bot with
        | false =>
          simp only
          cases xs with
          | nil =>
            refine And.intro (fun _ => ?_) (fun h => by cases h)
            exact Exists.intro _ (And.intro rfl (And.intro rfl (And.intro (hm.trans h1) rfl)))
          | cons o os =>
            refine And.intro (fun _ => ?_) (fun h => by cases h)
            exact Exists.intro _ (And.intro rfl (And.intro rfl (And.intro (hm.trans h1) rfl)))
        | true =>
          simp only
          cases xs with
          | nil =>
            refine And.intro (fun h => by cases h) (fun _ => ?_)
            refine L_round ?_
            refine And.intro (fun h => by cases h) (fun h => ?_)
            exact Exists.intro _ (And.intro rfl (And.intro rfl (And.intro (hm.trans h1) rfl)))
          | cons o os =>
            refine And.intro (fun h => by cases h) (fun _ => ?_)
            refine L_mono (bot_loop (o :: os) (by simp only [List.length_nil] at hsl; omega) cl (o :: os).length 0 [] H' rfl (Nat.le_refl _)) ?_
            rintro e env H2 sl cl ⟨h2, rfl, rfl, rfl, v8, v13, v58, rfl⟩
            generalize botFrom (o :: os) (o :: os).length 0 [] = ys
            cases ys with
            | nil => exact Exists.intro _ (And.intro rfl (And.intro rfl (And.intro ((hm.trans h1).trans h2) rfl)))
            | cons a b => exact Exists.intro _ (And.intro rfl (And.intro rfl (And.intro ((hm.trans h1).trans h2) rfl)))
end Go.Proofs.Ytnajopkaepjncaa

/- What is dropped is what the document drops: the plain law. -/
namespace Go.Proofs.Ytnajopkaepjncaa
open Am
set_option linter.unusedVariables false
set_option linter.unusedSimpArgs false

/-! ### rows at places -/
def selI (l : List Row) (q : Nat → Bool) : Nat → Nat → List Row
  | 0, _ => []
  | n + 1, i => match l[i]? with
    | some r => match q i with
      | true => r :: selI l q n (i + 1)
      | false => selI l q n (i + 1)
    | none => []
theorem selI_add (l : List Row) (q : Nat → Bool) : ∀ (a b i : Nat), i + a ≤ l.length → selI l q (a + b) i = selI l q a i ++ selI l q b (i + a) := by
  intro a
  induction a with
  | zero => intro b i _; simp [selI]
  | succ a ih =>
    intro b i h
    rw [Nat.add_right_comm]
    simp only [selI]
    rw [List.getElem?_eq_getElem (by omega : i < l.length)]
    have := ih b (i + 1) (by omega)
    rw [show i + (a + 1) = i + 1 + a by omega]
    simp only
    cases q i <;> simp [this]
theorem selI_congr (l l' : List Row) (q q' : Nat → Bool) (d : Nat) : ∀ (n i : Nat), (∀ j, i ≤ j → j < i + n → l[j]? = l'[j + d]? ∧ q j = q' (j + d)) → selI l q n i = selI l' q' n (i + d) := by
  intro n
  induction n with
  | zero => intro i _; rfl
  | succ n ih =>
    intro i h
    obtain ⟨h1, h2⟩ := h i (Nat.le_refl _) (by omega)
    have h3 := ih (i + 1) (fun j hj hjn => h j (by omega) (by omega))
    simp only [selI, h1, h2, h3]
    rw [show i + 1 + d = i + d + 1 by omega]
theorem some_is (l : List Row) (ms : List Int) : ∀ (m i : Nat) (out : List Row), someFrom l ms m i out = out ++ selI l (needP l ms) m i := by
  intro m
  induction m with
  | zero => intro i out; simp [someFrom, selI]
  | succ m ih =>
    intro i out
    simp only [someFrom, selI]
    cases l[i]? with
    | none => simp
    | some r =>
      simp only
      cases needP l ms i with
      | true => simp only; rw [ih]; simp
      | false => simp only; exact ih _ _
def flagAt (fl : List Bool) (i : Nat) : Bool := fl.getD i false
theorem copy_is (run : List Row) (fl : List Bool) (hfl : fl.length = run.length) : ∀ (m i : Nat) (out : List Row), copyFrom run fl m i out = out ++ selI run (flagAt fl) m i := by
  intro m
  induction m with
  | zero => intro i out; simp [copyFrom, selI]
  | succ m ih =>
    intro i out
    simp only [copyFrom, selI]
    cases hr : run[i]? with
    | none => simp
    | some r =>
      have hi : i < run.length := (List.getElem?_eq_some_iff.1 hr).1
      have hf : fl[i]? = some (fl[i]'(by omega)) := List.getElem?_eq_getElem (by omega)
      have hfa : flagAt fl i = fl[i]'(by omega) := by unfold flagAt; rw [List.getD_eq_getElem?_getD, hf]; rfl
      rw [hf, hfa]
      simp only
      cases fl[i]'(by omega) with
      | true => simp only; rw [ih]; simp
      | false => simp only; exact ih _ _
def selR (run : List Row) (ms : List Int) : List Row := selI run (flagAt (flagsOf run ms)) run.length 0

/-! ### trailing rows that are no puts -/
def isPut (r : Row) : Bool := r.kind == 1
def trimR : List Row → List Row
  | [] => []
  | a :: g => match (a :: g).any isPut with
    | true => a :: trimR g
    | false => []
theorem trim_none : ∀ g : List Row, g.any isPut = false → trimR g = []
  | [], _ => rfl
  | a :: g, h => by simp only [trimR, h]
theorem trim_snoc (a : Row) : ∀ g : List Row, trimR (g ++ [a]) = (match isPut a with | true => g ++ [a] | false => trimR g)
  | [] => by
    simp only [List.nil_append, trimR, List.any_cons, List.any_nil, Bool.or_false]
  | b :: g => by
    have ih := trim_snoc a g
    have hany : ((b :: g) ++ [a]).any isPut = ((b :: g).any isPut || isPut a) := by simp [List.any_append, Bool.or_assoc]
    simp only [List.cons_append, trimR] at hany ⊢
    rw [hany, ih]
    cases ha : isPut a with
    | true => simp
    | false =>
      simp only [Bool.or_false]
def trimB (bot : Bool) (g : List Row) : List Row := match bot with
  | true => trimR g
  | false => g
theorem pop_is (bot : Bool) (out : List Row) : ∀ (n : Nat) (g : List Row) (m : Nat), g.length = n → g.length ≤ m → popFrom bot out.length m (out ++ g) = out ++ trimB bot g := by
  cases bot with
  | false =>
    intro n g m h1 h2
    cases m with
    | zero =>
      obtain rfl : g = [] := List.eq_nil_of_length_eq_zero (by omega)
      rfl
    | succ m => simp only [popFrom, Bool.false_and, trimB]
  | true =>
    intro n
    induction n with
    | zero =>
      intro g m h1 h2
      obtain rfl : g = [] := List.eq_nil_of_length_eq_zero h1
      cases m with
      | zero => rfl
      | succ m =>
        simp only [popFrom, List.append_nil, trimB, trimR]
        have : decide (out.length > out.length) = false := by simp
        rw [this]
        simp
    | succ n ih =>
      intro g m h1 h2
      obtain ⟨g', a, rfl⟩ : ∃ g' a, g = g' ++ [a] := ⟨g.dropLast, g.getLast (by rintro rfl; cases h1), (List.dropLast_concat_getLast _).symm⟩
      rw [List.length_append, List.length_singleton] at h1 h2
      obtain ⟨m, rfl⟩ : ∃ k, m = k + 1 := ⟨m - 1, by omega⟩
      have hlen : (out ++ (g' ++ [a])).length = out.length + g'.length + 1 := by simp; omega
      have hlast : (out ++ (g' ++ [a]))[(out ++ (g' ++ [a])).length - 1]? = some a := by
        rw [hlen, ← List.append_assoc, List.getElem?_append_right (by rw [List.length_append]; omega)]
        rw [List.length_append, show out.length + g'.length + 1 - 1 - (out.length + g'.length) = 0 by omega]
        rfl
      have hdec : (true && decide ((out ++ (g' ++ [a])).length > out.length)) = true := by rw [hlen]; simp; omega
      simp only [popFrom]
      rw [hdec, hlast]
      simp only [trimB]
      rw [trim_snoc]
      unfold isPut
      cases hk : (a.kind == 1) with
      | true =>
        have : (a.kind != 1) = false := by unfold bne; rw [hk]; rfl
        rw [this]
      | false =>
        have : (a.kind != 1) = true := by unfold bne; rw [hk]; rfl
        rw [this]
        simp only
        have ht : (out ++ (g' ++ [a])).take ((out ++ (g' ++ [a])).length - 1) = out ++ g' := by
          rw [hlen, ← List.append_assoc]
          exact List.take_left' (by rw [List.length_append]; omega)
        rw [ht]
        exact ih g' m (by omega) (by omega)
theorem add_is (ms : List Int) (bot : Bool) (out run : List Row) : addRun ms bot out run = out ++ trimB bot (selR run ms) := by
  unfold addRun
  rw [copy_is run (flagsOf run ms) (flagsOf_len run ms)]
  exact pop_is bot out _ _ _ rfl (by rw [List.length_append]; omega)
theorem drop_is (rs : List (List Row)) (ms : List Int) (bot : Bool) : ∀ (m k : Nat) (out : List Row), rs.length - k = m → dropFrom rs ms bot m k out = out ++ ((rs.drop k).map fun R => trimB bot (selR R ms)).flatten := by
  intro m
  induction m with
  | zero =>
    intro k out h
    rw [List.drop_eq_nil_of_le (by omega)]
    simp [dropFrom]
  | succ m ih =>
    intro k out h
    have hk : k < rs.length := by omega
    simp only [dropFrom]
    rw [List.getElem?_eq_getElem hk, List.drop_eq_getElem_cons hk]
    simp only
    rw [ih (k + 1) _ (by omega), add_is, List.map_cons, List.flatten_cons, List.append_assoc]

/-! ### the flags of a run -/
theorem mark_at (run : List Row) (ms : List Int) : ∀ (m j : Nat) (fl : List Bool) (i : Nat), ms.length - j = m → fl.length = run.length → i < run.length →
    flagAt (markFrom run ms m j fl) i = (flagAt fl i || (ms.drop j).any fun x => seenP run x == (i : Int)) := by
  intro m
  induction m with
  | zero =>
    intro j fl i h _ _
    rw [List.drop_eq_nil_of_le (by omega)]
    simp [markFrom]
  | succ m ih =>
    intro j fl i h hfl hi
    have hj : j < ms.length := by omega
    simp only [markFrom]
    rw [List.getElem?_eq_getElem hj, List.drop_eq_getElem_cons hj]
    simp only [List.any_cons]
    rcases find_cases (fun r => decide (r.seq ≤ ms[j])) run run.length 0 with hs | ⟨k, r, hs, hr⟩
    · have hs : seenP run ms[j] = -1 := hs
      rw [hs]
      have h1 : decide ((-1 : Int) ≥ 0) = false := rfl
      have h2 : ((-1 : Int) == (i : Int)) = false := by rw [beq_eq_false_iff_ne]; omega
      rw [h1, h2]
      simp only [Bool.false_or]
      exact ih (j + 1) fl i (by omega) hfl hi
    · have hs : seenP run ms[j] = (k : Int) := hs
      have hk : k < run.length := (List.getElem?_eq_some_iff.1 hr).1
      rw [hs]
      have h1 : decide ((k : Int) ≥ 0) = true := by simp
      rw [h1]
      simp only [Int.toNat_natCast]
      rw [ih (j + 1) (fl.set k true) i (by omega) (by rw [List.length_set]; exact hfl) hi]
      have h3 : flagAt (fl.set k true) i = (flagAt fl i || ((k : Int) == (i : Int))) := by
        unfold flagAt
        rw [List.getD_eq_getElem?_getD, List.getD_eq_getElem?_getD, List.getElem?_set]
        by_cases hki : k = i
        · subst hki
          rw [if_pos rfl, if_pos (by omega)]
          simp
        · rw [if_neg hki]
          have : ((k : Int) == (i : Int)) = false := by rw [beq_eq_false_iff_ne]; omega
          rw [this, Bool.or_false]
      rw [h3, Bool.or_assoc]
theorem flags_at (run : List Row) (ms : List Int) {i : Nat} (hi : i < run.length) : flagAt (flagsOf run ms) i = ((i == 0) || ms.any fun x => seenP run x == (i : Int)) := by
  unfold flagsOf
  rw [mark_at run ms ms.length 0 (flags0 run) i rfl (flags0_len run) hi, List.drop_zero]
  congr 1
  unfold flagAt flags0
  rw [List.getD_eq_getElem?_getD, List.getElem?_set]
  by_cases h0 : 0 = i
  · subst h0
    rw [if_pos rfl, if_pos (by rw [List.length_replicate]; exact hi)]; rfl
  · rw [if_neg h0, List.getElem?_replicate, if_pos hi]
    have : (i == 0) = false := by rw [beq_eq_false_iff_ne]; omega
    rw [this]; rfl
theorem seen_iff (run : List Row) (x : Int) {i : Nat} {a : Row} (ha : run[i]? = some a) : seenP run x = (i : Int) ↔ (a.seq ≤ x ∧ ∀ (j : Nat) (b : Row), j < i → run[j]? = some b → ¬ b.seq ≤ x) := by
  have key : ∀ (n k : Nat), run.length - k = n → k ≤ i → (∀ (j : Nat) (b : Row), j < k → run[j]? = some b → ¬ b.seq ≤ x) → (findAt (fun r => decide (r.seq ≤ x)) run n k = (i : Int) ↔ (a.seq ≤ x ∧ ∀ (j : Nat) (b : Row), j < i → run[j]? = some b → ¬ b.seq ≤ x)) := by
    intro n
    induction n with
    | zero =>
      intro k h1 h2 _
      have := (List.getElem?_eq_some_iff.1 ha).1
      omega
    | succ n ih =>
      intro k h1 h2 h3
      have hk : k < run.length := by omega
      simp only [findAt]
      rw [List.getElem?_eq_getElem hk]
      simp only
      by_cases hs : run[k].seq ≤ x
      · have : decide (run[k].seq ≤ x) = true := by simpa using hs
        rw [this]
        simp only
        constructor
        · intro e
          have e : k = i := by omega
          subst e
          rw [List.getElem?_eq_getElem hk] at ha
          injection ha with ha
          rw [← ha]
          exact ⟨hs, h3⟩
        · rintro ⟨h4, h5⟩
          by_cases hki : k = i
          · rw [hki]
          · exact absurd hs (h5 k _ (by omega) (List.getElem?_eq_getElem hk))
      · have : decide (run[k].seq ≤ x) = false := by simpa using hs
        rw [this]
        simp only
        by_cases hki : k = i
        · subst hki
          rw [List.getElem?_eq_getElem hk] at ha
          injection ha with ha
          constructor
          · intro e
            exfalso
            rcases find_is (fun r => decide (r.seq ≤ x)) run n (k + 1) (by omega) with ⟨h4, _⟩ | ⟨j, r, h4, h5, _⟩
            · rw [h4] at e; omega
            · rw [h4] at e
              have : j = k := by omega
              subst this
              rw [List.getElem?_eq_getElem hk] at h5
              injection h5 with h5
              have hge : ∀ (n' k' : Nat) (j' : Nat), findAt (fun r => decide (r.seq ≤ x)) run n' k' = (j' : Int) → k' ≤ j' := by
                intro n'
                induction n' with
                | zero => intro k' j' h; simp [findAt] at h
                | succ n' ih' =>
                  intro k' j' h
                  simp only [findAt] at h
                  split at h
                  · split at h
                    · omega
                    · have := ih' _ _ h; omega
                  · omega
              have := hge _ _ _ h4
              omega
          · rintro ⟨h4, _⟩
            rw [← ha] at h4
            exact absurd h4 hs
        · exact ih (k + 1) (by omega) (by omega) (fun j b hj hb => by
            by_cases hjk : j = k
            · subst hjk
              rw [List.getElem?_eq_getElem hk] at hb
              injection hb with hb
              rw [← hb]; exact hs
            · exact h3 j b (by omega) hb)
  exact key run.length 0 rfl (Nat.zero_le _) (fun j b hj => by omega)

/-! ### a run within rows in order -/
structure Run (l : List Row) (fr e : Nat) : Prop where
  le : fr ≤ e
  len : e ≤ l.length
  start : fr = 0 ∨ ∀ a b, l[fr - 1]? = some a → l[fr]? = some b → a.key ≠ b.key
  same : ∀ (j : Nat) (a b : Row), fr < j → j < e → l[j - 1]? = some a → l[j]? = some b → a.key = b.key
theorem run_get {l : List Row} {fr e i : Nat} (h : i < e - fr) : ((l.take e).drop fr)[i]? = l[fr + i]? := by
  rw [List.getElem?_drop, List.getElem?_take, if_pos (by omega)]
theorem run_len {l : List Row} {fr e : Nat} (h : Run l fr e) : ((l.take e).drop fr).length = e - fr := by
  have := h.len
  rw [List.length_drop, List.length_take]; omega
/-- Within a run numbers fall. -/
theorem run_falls {l : List Row} (ho : orderP l = true) {fr e : Nat} (h : Run l fr e) {j : Nat} {b : Row} (hj : j < e) (hb : l[j]? = some b) : ∀ (d : Nat) (a : Row), d ≤ j - fr → fr ≤ j → l[j - d]? = some a → (0 < d → b.seq < a.seq) := by
  intro d
  induction d with
  | zero => intro a _ _ _ h; omega
  | succ d ih =>
    intro a h1 h2 ha _
    have hlt : j - d < l.length := by have := (List.getElem?_eq_some_iff.1 hb).1; omega
    obtain ⟨c, hc⟩ : ∃ c, l[j - d]? = some c := ⟨l[j - d], List.getElem?_eq_getElem hlt⟩
    have hk := h.same (j - d) a c (by omega) (by omega) (by rw [show j - d - 1 = j - (d + 1) by omega]; exact ha) hc
    have hs := order_seq ho (i := j - (d + 1)) ha (by rw [show j - (d + 1) + 1 = j - d by omega]; exact hc) hk
    by_cases hd : 0 < d
    · have := ih c (by omega) h2 hc hd; omega
    · obtain rfl : d = 0 := by omega
      rw [Nat.sub_zero, hb] at hc
      injection hc with hc
      rw [hc]; exact hs
theorem run_sees {l : List Row} (ho : orderP l = true) {fr e : Nat} (h : Run l fr e) (x : Int) {i : Nat} (hi : i < e - fr) : seesP l (fr + i) x = (seenP ((l.take e).drop fr) x == (i : Int)) := by
  have hlt : fr + i < l.length := by have := h.len; omega
  obtain ⟨a, ha⟩ : ∃ a, l[fr + i]? = some a := ⟨l[fr + i], List.getElem?_eq_getElem hlt⟩
  have hsi := seen_iff ((l.take e).drop fr) x (i := i) (a := a) (by rw [run_get hi]; exact ha)
  classical
  have hrhs : (seenP ((l.take e).drop fr) x == (i : Int)) = decide (a.seq ≤ x ∧ ∀ (j : Nat) (b : Row), j < i → ((l.take e).drop fr)[j]? = some b → ¬ b.seq ≤ x) := by
    rw [Bool.eq_iff_iff, beq_iff_eq, decide_eq_true_eq]; exact hsi
  rw [hrhs]
  unfold seesP
  rw [ha]
  simp only
  rw [Bool.eq_iff_iff, decide_eq_true_eq, Bool.and_eq_true, decide_eq_true_eq]
  refine and_congr_right fun hax => ?_
  by_cases h0 : i = 0
  · subst h0
    refine ⟨fun _ j b hj => by omega, fun _ => ?_⟩
    rcases h.start with hs | hs
    · have : (fr + 0 == 0) = true := by rw [hs]; rfl
      rw [this]; rfl
    · by_cases hz : fr + 0 = 0
      · rw [hz]; rfl
      · obtain ⟨b, hb⟩ : ∃ b, l[fr + 0 - 1]? = some b := ⟨l[fr + 0 - 1], List.getElem?_eq_getElem (by omega)⟩
        rw [hb]
        have := hs b a hb ha
        simp [this]
  · obtain ⟨b, hb⟩ : ∃ b, l[fr + i - 1]? = some b := ⟨l[fr + i - 1], List.getElem?_eq_getElem (by omega)⟩
    have hk := h.same (fr + i) b a (by omega) (by omega) hb ha
    rw [hb]
    have e1 : (fr + i == 0) = false := by rw [beq_eq_false_iff_ne]; omega
    simp only [e1, Bool.false_or, hk, beq_self_eq_true, Bool.not_true, decide_eq_true_eq]
    constructor
    · intro hbx j c hj hc
      rw [run_get (by omega)] at hc
      by_cases hji : j = i - 1
      · rw [hji, show fr + (i - 1) = fr + i - 1 by omega, hb] at hc
        injection hc with hc
        rw [← hc]; omega
      · have := run_falls ho h (j := fr + i - 1) (by omega) hb (i - 1 - j) c (by omega) (by omega) (by rw [show fr + i - 1 - (i - 1 - j) = fr + j by omega]; exact hc) (by omega)
        omega
    · intro hall
      have := hall (i - 1) b (by omega) (by rw [run_get (by omega), show fr + (i - 1) = fr + i - 1 by omega]; exact hb)
      omega
def SeqOk (l : List Row) : Prop := ∀ r ∈ l, r.seq ≤ maxU
theorem need_any (l : List Row) (ms : List Int) (i : Nat) : ∀ (m k : Nat) (b : Bool), ms.length - k = m → needFrom l i ms m k b = (b || (ms.drop k).any fun x => seesP l i x) := by
  intro m
  induction m with
  | zero =>
    intro k b h
    rw [List.drop_eq_nil_of_le (by omega)]
    simp [needFrom]
  | succ m ih =>
    intro k b h
    have hk : k < ms.length := by omega
    simp only [needFrom]
    rw [List.getElem?_eq_getElem hk, List.drop_eq_getElem_cons hk]
    simp only [List.any_cons]
    rw [ih (k + 1) _ (by omega), Bool.or_assoc]
theorem run_sel {l : List Row} (ho : orderP l = true) (hs : SeqOk l) {fr e : Nat} (h : Run l fr e) (ms : List Int) : selR ((l.take e).drop fr) ms = selI l (needP l ms) (e - fr) fr := by
  unfold selR
  rw [run_len h]
  have := selI_congr ((l.take e).drop fr) l (flagAt (flagsOf ((l.take e).drop fr) ms)) (needP l ms) fr (e - fr) 0 (by
    intro j _ hj
    rw [Nat.zero_add] at hj
    refine ⟨by rw [run_get hj, Nat.add_comm], ?_⟩
    rw [flags_at _ ms (by rw [run_len h]; exact hj)]
    unfold needP
    rw [need_any l ms _ ms.length 0 _ rfl, List.drop_zero]
    have h1 : ∀ x, seesP l (j + fr) x = (seenP ((l.take e).drop fr) x == (j : Int)) := by
      intro x
      rw [Nat.add_comm]; exact run_sees ho h x hj
    have h2 : seesP l (j + fr) maxU = (j == 0) := by
      have hlt : fr + j < l.length := by have := h.len; omega
      have hall : ∀ (q : Nat) (b : Row), ((l.take e).drop fr)[q]? = some b → b.seq ≤ maxU := by
        intro q b hb
        exact hs b (List.mem_of_mem_take (List.mem_of_mem_drop (List.mem_of_getElem? hb)))
      rw [h1]
      obtain ⟨a, ha⟩ : ∃ a, ((l.take e).drop fr)[j]? = some a := ⟨((l.take e).drop fr)[j]'(by rw [run_len h]; exact hj), List.getElem?_eq_getElem _⟩
      rw [Bool.eq_iff_iff, beq_iff_eq, beq_iff_eq, seen_iff _ maxU ha]
      constructor
      · rintro ⟨_, h4⟩
        rcases Nat.eq_zero_or_pos j with h0 | h0
        · exact h0
        · exfalso
          obtain ⟨b, hb⟩ : ∃ b, ((l.take e).drop fr)[0]? = some b := ⟨((l.take e).drop fr)[0]'(by rw [run_len h]; omega), List.getElem?_eq_getElem _⟩
          exact h4 0 b h0 hb (hall 0 b hb)
      · rintro rfl
        exact ⟨hall 0 a ha, fun q b hq => by omega⟩
    rw [h2]
    congr 1
    exact List.any_congr rfl fun x => (h1 x).symm)
  rw [Nat.zero_add] at this
  exact this

/-- Runs are what their places say. -/
theorem runs_sel {l : List Row} (ho : orderP l = true) (hs : SeqOk l) (ms : List Int) : ∀ (m i fr : Nat), l.length - i = m → fr ≤ i → i ≤ l.length → (i = l.length → fr = i) → (fr = 0 ∨ ∀ a b, l[fr - 1]? = some a → l[fr]? = some b → a.key ≠ b.key) →
    (∀ (j : Nat) (a b : Row), fr < j → j ≤ i → l[j - 1]? = some a → l[j]? = some b → a.key = b.key) →
    ((runsFrom l m i fr []).map fun R => selR R ms).flatten = selI l (needP l ms) (l.length - fr) fr := by
  intro m
  induction m with
  | zero =>
    intro i fr hm hfr hil hend hst hsame
    have : fr = l.length := by have := hend (by omega); omega
    rw [this, Nat.sub_self]; rfl
  | succ m ih =>
    intro i fr hm hfr hil hend hst hsame
    have hi : i < l.length := by omega
    obtain ⟨a, ha⟩ : ∃ a, l[i]? = some a := ⟨l[i], List.getElem?_eq_getElem hi⟩
    simp only [runsFrom]
    cases he : endAt l i with
    | true =>
      simp only [List.nil_append]
      rw [runs_out]
      rw [List.map_append, List.flatten_append]
      have hrun : Run l fr (i + 1) := ⟨by omega, hi, hst, fun j a b h1 h2 => hsame j a b h1 (by omega)⟩
      have hnext := ih (i + 1) (i + 1) (by omega) (Nat.le_refl _) hi (fun _ => rfl) (.inr fun b c hb hc => by
        rw [Nat.add_sub_cancel, ha] at hb
        injection hb with hb; subst hb
        unfold endAt at he
        rw [ha, hc] at he
        simp only at he
        intro e
        rw [e] at he
        simp at he) (fun j b c h1 h2 => by omega)
      rw [hnext]
      simp only [List.map_cons, List.map_nil, List.flatten_cons, List.flatten_nil, List.append_nil]
      rw [run_sel ho hs hrun ms]
      have := selI_add l (needP l ms) (i + 1 - fr) (l.length - (i + 1)) fr (by omega)
      rw [show i + 1 - fr + (l.length - (i + 1)) = l.length - fr by omega, show fr + (i + 1 - fr) = i + 1 by omega] at this
      exact this.symm
    | false =>
      simp only
      obtain ⟨b, hb⟩ : ∃ b, l[i + 1]? = some b := by
        unfold endAt at he
        rw [ha] at he
        cases hb : l[i + 1]? with
        | none => rw [hb] at he; simp at he
        | some b => exact ⟨b, rfl⟩
      have hab : a.key = b.key := by
        unfold endAt at he
        rw [ha, hb] at he
        simp only [Bool.not_eq_false', beq_iff_eq] at he
        exact he.symm
      have hi1 : i + 1 < l.length := (List.getElem?_eq_some_iff.1 hb).1
      exact ih (i + 1) fr (by omega) (by omega) (by omega) (fun h => by omega) hst (fun j c d h1 h2 hc hd => by
        by_cases hji : j = i + 1
        · rw [hji] at hc hd
          rw [Nat.add_sub_cancel, ha] at hc; injection hc with hc
          rw [hb] at hd; injection hd with hd
          rw [← hc, ← hd]; exact hab
        · exact hsame j c d h1 (by omega) hc hd)
theorem some_runs {l : List Row} (ho : orderP l = true) (hs : SeqOk l) (ms : List Int) : someP l ms = ((runsP l).map fun R => selR R ms).flatten := by
  unfold someP
  rw [some_is, List.nil_append]
  have := runs_sel ho hs ms l.length 0 0 rfl (Nat.le_refl _) (Nat.zero_le _) (fun h => by omega) (.inl rfl) (fun j a b h1 h2 => by omega)
  rw [Nat.sub_zero] at this
  exact this.symm
end Go.Proofs.Ytnajopkaepjncaa

/- What is dropped is what the document drops: deletes at the bottom; whole. -/
namespace Go.Proofs.Ytnajopkaepjncaa
open Am
set_option linter.unusedVariables false
set_option linter.unusedSimpArgs false

/-- All of one key. -/
def OneKey (key : List UInt8) (g : List Row) : Prop := ∀ r ∈ g, r.key = key
def Apart (key : List UInt8) : List Row → Prop
  | [] => True
  | r :: _ => r.key ≠ key
theorem put_any (key : List UInt8) (rest : List Row) (hr : Apart key rest) : ∀ (g pre : List Row) (m : Nat) (b : Bool), OneKey key g → m = g.length + rest.length → putFrom (pre ++ (g ++ rest)) key m pre.length b = (b || g.any isPut)
  | [], pre, m, b, _, hm => by
    cases rest with
    | nil =>
      have : m = 0 := by simpa using hm
      subst this
      simp [putFrom]
    | cons r rest =>
      obtain ⟨n, rfl⟩ : ∃ n, m = n + 1 := ⟨m - 1, by simp only [List.length_cons, List.length_nil] at hm; omega⟩
      simp only [putFrom, List.nil_append]
      rw [List.getElem?_append_right (Nat.le_refl _), Nat.sub_self]
      simp only [List.getElem?_cons_zero]
      have : (r.key == key) = false := by rw [beq_eq_false_iff_ne]; exact hr
      rw [this]
      simp
  | a :: g, pre, m, b, ho, hm => by
    obtain ⟨n, rfl⟩ : ∃ n, m = n + 1 := ⟨m - 1, by simp only [List.length_cons] at hm; omega⟩
    simp only [putFrom]
    rw [List.getElem?_append_right (Nat.le_refl _), Nat.sub_self]
    simp only [List.cons_append, List.getElem?_cons_zero]
    have : (a.key == key) = true := by rw [beq_iff_eq]; exact ho a (by simp)
    rw [this]
    simp only
    have ih := put_any key rest hr g (pre ++ [a]) n (b || (a.kind == 1)) (fun r h => ho r (by simp [h])) (by simp only [List.length_cons] at hm; omega)
    have e : pre ++ [a] ++ (g ++ rest) = pre ++ (a :: (g ++ rest)) := by simp
    rw [e, List.length_append, List.length_singleton] at ih
    rw [ih, List.any_cons, ← Bool.or_assoc]
    rfl
theorem bot_out (xs : List Row) : ∀ (m i : Nat) (out : List Row), botFrom xs m i out = out ++ botFrom xs m i [] := by
  intro m
  induction m with
  | zero => intro i out; simp [botFrom]
  | succ m ih =>
    intro i out
    simp only [botFrom]
    cases xs[i]? with
    | none => simp
    | some r =>
      simp only
      cases putFrom xs r.key (xs.length - i) i false with
      | true => simp only; rw [ih _ (out ++ _), ih _ ([] ++ _)]; simp
      | false => simp only; exact ih _ out
theorem bot_group (key : List UInt8) (rest : List Row) (hr : Apart key rest) : ∀ (g pre out : List Row), OneKey key g → botFrom (pre ++ (g ++ rest)) (g.length + rest.length) pre.length out = botFrom (pre ++ (g ++ rest)) rest.length (pre.length + g.length) (out ++ trimR g)
  | [], pre, out, _ => by simp [trimR]
  | a :: g, pre, out, ho => by
    have e0 : (a :: g).length + rest.length = (g.length + rest.length) + 1 := by simp only [List.length_cons]; omega
    rw [e0]
    simp only [botFrom]
    have hget : (pre ++ (a :: g ++ rest))[pre.length]? = some a := by
      rw [List.getElem?_append_right (Nat.le_refl _), Nat.sub_self]; rfl
    rw [hget]
    simp only
    have hk : a.key = key := ho a (by simp)
    have hput := put_any key rest hr (a :: g) pre ((a :: g).length + rest.length) false ho rfl
    have hlen : (pre ++ (a :: g ++ rest)).length - pre.length = (a :: g).length + rest.length := by simp only [List.length_append]; omega
    rw [hlen, hk, hput, Bool.false_or]
    have ih := fun out => bot_group key rest hr g (pre ++ [a]) out (fun r h => ho r (by simp [h]))
    have e : pre ++ [a] ++ (g ++ rest) = pre ++ (a :: g ++ rest) := by simp
    simp only [e, List.length_append, List.length_singleton] at ih
    have e2 : pre.length + (a :: g).length = pre.length + 1 + g.length := by simp only [List.length_cons]; omega
    rw [e2]
    simp only [trimR]
    cases hany : (a :: g).any isPut with
    | true =>
      simp only
      rw [ih]
      simp
    | false =>
      simp only
      rw [ih]
      have : g.any isPut = false := by
        rw [List.any_cons, Bool.or_eq_false_iff] at hany
        exact hany.2
      rw [trim_none g this]

/-- Groups of rows, each of one key, next to each other of different ones. -/
def Groups : List (List Row) → Prop
  | [] => True
  | g :: gs => (∃ key, OneKey key g ∧ Apart key gs.flatten) ∧ Groups gs
theorem bot_groups : ∀ (gs : List (List Row)) (pre out : List Row), Groups gs → botFrom (pre ++ gs.flatten) gs.flatten.length pre.length out = out ++ (gs.map trimR).flatten
  | [], pre, out, _ => by simp [botFrom]
  | g :: gs, pre, out, h => by
    obtain ⟨⟨key, h1, h2⟩, h3⟩ := h
    have ih := bot_groups gs (pre ++ g) (out ++ trimR g) h3
    have hg := bot_group key gs.flatten h2 g pre out h1
    rw [List.flatten_cons, List.length_append, hg]
    rw [List.append_assoc, List.length_append] at ih
    rw [ih]
    simp

theorem selI_mem (l : List Row) (q : Nat → Bool) : ∀ (n i : Nat), ∀ r ∈ selI l q n i, ∃ j, i ≤ j ∧ j < i + n ∧ l[j]? = some r ∧ q j = true := by
  intro n
  induction n with
  | zero => intro i r h; cases h
  | succ n ih =>
    intro i r h
    simp only [selI] at h
    cases hr : l[i]? with
    | none => rw [hr] at h; cases h
    | some a =>
      rw [hr] at h
      simp only at h
      cases hq : q i with
      | true =>
        rw [hq] at h
        rcases List.mem_cons.1 h with h | h
        · subst h; exact ⟨i, Nat.le_refl _, by omega, hr, hq⟩
        · obtain ⟨j, h1, h2, h3⟩ := ih (i + 1) r h
          exact ⟨j, by omega, by omega, h3⟩
      | false =>
        rw [hq] at h
        obtain ⟨j, h1, h2, h3⟩ := ih (i + 1) r h
        exact ⟨j, by omega, by omega, h3⟩
theorem run_key {l : List Row} {fr e : Nat} (h : Run l fr e) {a : Row} (ha : l[fr]? = some a) : ∀ (d : Nat) (b : Row), fr + d < e → l[fr + d]? = some b → b.key = a.key := by
  intro d
  induction d with
  | zero => intro b _ hb; rw [Nat.add_zero, ha] at hb; injection hb with hb; rw [hb]
  | succ d ih =>
    intro b h1 hb
    have hlt : fr + d < l.length := by have := h.len; omega
    obtain ⟨c, hc⟩ : ∃ c, l[fr + d]? = some c := ⟨l[fr + d], List.getElem?_eq_getElem hlt⟩
    have := h.same (fr + (d + 1)) c b (by omega) h1 (by rw [show fr + (d + 1) - 1 = fr + d by omega]; exact hc) hb
    rw [← this]
    exact ih c (by omega) hc
theorem sel_one {l : List Row} {fr e : Nat} (h : Run l fr e) {a : Row} (ha : l[fr]? = some a) (ms : List Int) : OneKey a.key (selR ((l.take e).drop fr) ms) := by
  intro r hr
  unfold selR at hr
  rw [run_len h] at hr
  obtain ⟨j, _, h2, h3, _⟩ := selI_mem _ _ _ _ r hr
  rw [Nat.zero_add] at h2
  rw [run_get h2] at h3
  exact run_key h ha j r (by omega) h3
theorem sel_head {l : List Row} {fr e : Nat} (h : Run l fr e) (hne : fr < e) {a : Row} (ha : l[fr]? = some a) (ms : List Int) : ∃ t, selR ((l.take e).drop fr) ms = a :: t := by
  unfold selR
  rw [run_len h]
  obtain ⟨n, hn⟩ : ∃ n, e - fr = n + 1 := ⟨e - fr - 1, by omega⟩
  rw [hn]
  simp only [selI]
  rw [run_get (by omega), Nat.add_zero, ha]
  simp only
  rw [flags_at _ ms (by rw [run_len h]; omega)]
  simp
theorem runs_groups {l : List Row} (ms : List Int) : ∀ (m i fr : Nat), l.length - i = m → fr ≤ i → i ≤ l.length → (i = l.length → fr = i) → (fr = 0 ∨ ∀ a b, l[fr - 1]? = some a → l[fr]? = some b → a.key ≠ b.key) →
    (∀ (j : Nat) (a b : Row), fr < j → j ≤ i → l[j - 1]? = some a → l[j]? = some b → a.key = b.key) →
    Groups ((runsFrom l m i fr []).map fun R => selR R ms) ∧ (((runsFrom l m i fr []).map fun R => selR R ms).flatten = [] ∧ fr = l.length ∨ ∃ a t, l[fr]? = some a ∧ ((runsFrom l m i fr []).map fun R => selR R ms).flatten = a :: t) := by
  intro m
  induction m with
  | zero =>
    intro i fr hm hfr hil hend hst hsame
    have : fr = l.length := by have := hend (by omega); omega
    exact ⟨trivial, .inl ⟨rfl, this⟩⟩
  | succ m ih =>
    intro i fr hm hfr hil hend hst hsame
    have hi : i < l.length := by omega
    obtain ⟨a, ha⟩ : ∃ a, l[i]? = some a := ⟨l[i], List.getElem?_eq_getElem hi⟩
    simp only [runsFrom]
    cases he : endAt l i with
    | true =>
      simp only [List.nil_append]
      rw [runs_out]
      rw [List.map_append]
      have hrun : Run l fr (i + 1) := ⟨by omega, hi, hst, fun j a b h1 h2 => hsame j a b h1 (by omega)⟩
      obtain ⟨b, hb⟩ : ∃ b, l[fr]? = some b := ⟨l[fr], List.getElem?_eq_getElem (by omega)⟩
      obtain ⟨n1, n2⟩ := ih (i + 1) (i + 1) (by omega) (Nat.le_refl _) hi (fun _ => rfl) (.inr fun c d hc hd => by
        rw [Nat.add_sub_cancel, ha] at hc
        injection hc with hc; subst hc
        unfold endAt at he
        rw [ha, hd] at he
        simp only at he
        intro e
        rw [e] at he
        simp at he) (fun j b c h1 h2 => by omega)
      obtain ⟨t, ht⟩ := sel_head hrun (by omega) hb ms
      simp only [List.map_cons, List.map_nil, List.singleton_append]
      refine ⟨⟨⟨b.key, sel_one hrun hb ms, ?_⟩, n1⟩, .inr ⟨b, t ++ ((runsFrom l m (i + 1) (i + 1) []).map fun R => selR R ms).flatten, hb, ?_⟩⟩
      · rcases n2 with ⟨n2, _⟩ | ⟨c, t', hc, n2⟩
        · rw [n2]; trivial
        · rw [n2]
          show c.key ≠ b.key
          have hak : a.key = b.key := run_key hrun hb (i - fr) a (by omega) (by rw [show fr + (i - fr) = i by omega]; exact ha)
          rw [← hak]
          intro e
          unfold endAt at he
          rw [ha, hc] at he
          simp only at he
          rw [e] at he
          simp at he
      · rw [List.flatten_cons, ht]; rfl
    | false =>
      simp only
      obtain ⟨b, hb⟩ : ∃ b, l[i + 1]? = some b := by
        unfold endAt at he
        rw [ha] at he
        cases hb : l[i + 1]? with
        | none => rw [hb] at he; simp at he
        | some b => exact ⟨b, rfl⟩
      have hab : a.key = b.key := by
        unfold endAt at he
        rw [ha, hb] at he
        simp only [Bool.not_eq_false', beq_iff_eq] at he
        exact he.symm
      have hi1 : i + 1 < l.length := (List.getElem?_eq_some_iff.1 hb).1
      exact ih (i + 1) fr (by omega) (by omega) (by omega) (fun h => by omega) hst (fun j c d h1 h2 hc hd => by
        by_cases hji : j = i + 1
        · rw [hji] at hc hd
          rw [Nat.add_sub_cancel, ha] at hc; injection hc with hc
          rw [hb] at hd; injection hd with hd
          rw [← hc, ← hd]; exact hab
        · exact hsame j c d h1 (by omega) hc hd)
theorem drop_law {l : List Row} (ho : orderP l = true) (hs : SeqOk l) (ms : List Int) (bot : Bool) : dropP l ms bot = refDropP l ms bot := by
  have h1 : dropP l ms bot = ((runsP l).map fun R => trimB bot (selR R ms)).flatten := by
    unfold dropP
    rw [drop_is (runsP l) ms bot (runsP l).length 0 [] rfl, List.drop_zero, List.nil_append]
  have hsome := some_runs ho hs ms
  rw [h1]
  cases bot with
  | false => exact hsome.symm
  | true =>
    have hg := (runs_groups ms l.length 0 0 rfl (Nat.le_refl _) (Nat.zero_le _) (fun h => by omega) (.inl rfl) (fun j a b h1 h2 => by omega) : Groups ((runsP l).map fun R => selR R ms) ∧ _).1
    show _ = botFrom (someP l ms) (someP l ms).length 0 []
    rw [hsome]
    have := bot_groups ((runsP l).map fun R => selR R ms) [] [] hg
    simp only [List.nil_append, List.length_nil] at this
    rw [this, List.map_map]
    rfl
end Go.Proofs.Ytnajopkaepjncaa
